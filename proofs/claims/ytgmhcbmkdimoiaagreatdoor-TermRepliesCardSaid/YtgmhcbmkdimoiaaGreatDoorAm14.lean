/-
  The abstract machine, part 14: memory that is made. No conditions.
-/
import Derived.Test.YtgmhcbmkdimoiaaGreatDoorAm13
import Derived.Laws.IdiomStrings
namespace Go.Am
section
variable {P : Program} {E : Env} {T : Tm} {h : Hp} {nx : Nat} {w : World} {cm : Bool} {ρ : Operand → Value}

def opFloat : Op → Bool
  | .box .. | .alloc .. | .buildSlice .. | .convert .. | .makeMap .. | .makeSlice .. => true
  | _ => false
def opWrite : Op → Bool
  | .assign .. | .store .. | .convert .. | .insert .. | .mapUpdate .. | .range .. | .next .. | .call .. => true
  | _ => false

theorem call_class {c : Call} {ao : AOp} (hc : cOp P (.call c) = some ao) : ao.floats = true → False := by
  obtain ⟨callee, args, ats⟩ := c
  cases callee with
  | value f =>
    cases f with
    | func f =>
      simp only [cOp] at hc
      obtain ⟨_, _, hc1⟩ := bind_some hc
      cases hc1; intro h; cases h
    | _ =>
      simp only [cOp] at hc
      obtain ⟨_, _, hc1⟩ := bind_some hc
      obtain ⟨_, _, hc2⟩ := bind_some hc1
      cases hc2; intro h; cases h
  | invoke r m =>
    simp only [cOp] at hc
    obtain ⟨_, _, hc1⟩ := bind_some hc
    obtain ⟨_, _, hc2⟩ := bind_some hc1
    cases hc2; intro h; cases h
  | builtin b =>
    simp only [cOp] at hc
    split at hc
    · split at hc
      · obtain ⟨a, ha, rfl⟩ := map_some' hc; intro h; cases h
      · obtain ⟨a, ha, rfl⟩ := map_some' hc; intro h; cases h
      · obtain ⟨a, ha, rfl⟩ := map_some' hc; intro h; cases h
      · cases hc; intro h; cases h
      · cases hc
    · split at hc
      · obtain ⟨a, ha, rfl⟩ := map_some' hc; intro h; cases h
      · cases hc
    · obtain ⟨e, _, hc1⟩ := bind_some hc
      obtain ⟨s, _, hc2⟩ := bind_some hc1
      obtain ⟨b, _, hc3⟩ := bind_some hc2
      obtain ⟨z, _, hc4⟩ := bind_some hc3
      split at hc4
      · cases hc4
      · obtain ⟨d, _, hc5⟩ := bind_some hc4
        split at hc5
        · obtain ⟨x, _, hc6⟩ := bind_some hc5
          obtain ⟨y, _, hc7⟩ := bind_some hc6
          cases hc7; intro h; cases h
        · obtain ⟨x, _, hc6⟩ := bind_some hc5
          obtain ⟨y, _, hc7⟩ := bind_some hc6
          cases hc7; intro h; cases h
    · obtain ⟨e, _, hc1⟩ := bind_some hc
      obtain ⟨s, _, hc2⟩ := bind_some hc1
      obtain ⟨x, _, hc3⟩ := bind_some hc2
      obtain ⟨y, _, hc4⟩ := bind_some hc3
      cases hc4; intro h; cases h
    · obtain ⟨l, hl, rfl⟩ := map_some' hc; intro h; cases h
    · obtain ⟨l, hl, rfl⟩ := map_some' hc; intro h; cases h
    · split at hc
      · split at hc
        · obtain ⟨x, _, hc1⟩ := bind_some hc
          obtain ⟨y, _, hc2⟩ := bind_some hc1
          cases hc2; intro h; cases h
        · cases hc
      · cases hc
    · split at hc
      · obtain ⟨a, ha, rfl⟩ := map_some' hc; intro h; cases h
      · cases hc
    · unfold cUns at hc
      split at hc
      · split at hc
        · obtain ⟨a, ha, rfl⟩ := map_some' hc; intro h; cases h
        · cases hc
      · split at hc
        · split at hc
          · split at hc
            · obtain ⟨_, _, hc1⟩ := bind_some hc
              obtain ⟨_, _, hc2⟩ := bind_some hc1
              cases hc2; intro h; cases h
            · cases hc
          · cases hc
        · cases hc
      · cases hc

theorem cOp_class {op : Op} {ao : AOp} (hc : cOp P op = some ao) : (ao.floats = true → opFloat op = true) ∧ (ao.writes = true → opWrite op = true) := by
  cases op with
  | move x => obtain ⟨a, ha, rfl⟩ := map_some' hc; exact ⟨fun h => (by cases h), fun h => (by cases h)⟩
  | assign x => obtain ⟨a, ha, rfl⟩ := map_some' hc; exact ⟨fun h => (by cases h), fun _ => rfl⟩
  | pick c a b =>
    simp only [cOp] at hc
    obtain ⟨c', hc', h1⟩ := bind_some hc
    obtain ⟨a', ha', h2⟩ := bind_some h1
    obtain ⟨b', hb', h3⟩ := bind_some h2
    cases h3
    exact ⟨fun h => (by cases h), fun h => (by cases h)⟩
  | alloc e =>
    simp only [cOp] at hc
    obtain ⟨z, _, h1⟩ := bind_some hc
    cases h1; exact ⟨fun _ => rfl, fun h => by cases h⟩
  | box e x =>
    simp only [cOp] at hc
    obtain ⟨z, _, h1⟩ := bind_some hc
    obtain ⟨z, _, h2⟩ := bind_some h1
    cases h2; exact ⟨fun _ => rfl, fun h => by cases h⟩
  | build t ps =>
    simp only [cOp] at hc
    split at hc
    · obtain ⟨z, h1, hc⟩ := bind_some hc
      obtain ⟨pl, h2, hc⟩ := bind_some hc
      obtain ⟨ps, h3, hc⟩ := bind_some hc
      cases hc; exact ⟨fun h => (by cases h), fun h => (by cases h)⟩
    · obtain ⟨z, h1, hc⟩ := bind_some hc
      obtain ⟨s, h2, hc⟩ := bind_some hc
      obtain ⟨ps, h3, hc⟩ := bind_some hc
      cases hc; exact ⟨fun h => (by cases h), fun h => (by cases h)⟩
    · cases hc
  | buildSlice t len ps =>
    simp only [cOp] at hc
    obtain ⟨e, _, h1⟩ := bind_some hc
    obtain ⟨s, _, h2⟩ := bind_some h1
    obtain ⟨z, _, h3⟩ := bind_some h2
    split at h3
    · cases h3
    · obtain ⟨q, _, h4⟩ := bind_some h3
      cases h4; exact ⟨fun _ => rfl, fun h => by cases h⟩
  | insert t m k v' =>
    simp only [cOp] at hc
    split at hc
    · split at hc
      · obtain ⟨_, _, h1⟩ := bind_some hc
        obtain ⟨_, _, h2⟩ := bind_some h1
        obtain ⟨_, _, h3⟩ := bind_some h2
        cases h3; exact ⟨fun h => (by cases h), fun _ => rfl⟩
      · cases hc
    · cases hc
  | load t x =>
    simp only [cOp] at hc
    obtain ⟨n, hn, h1⟩ := bind_some hc
    obtain ⟨a, ha, h2⟩ := bind_some h1
    cases h2
    exact ⟨fun h => (by cases h), fun h => (by cases h)⟩
  | store t a x =>
    simp only [cOp] at hc
    obtain ⟨_, _, h1⟩ := bind_some hc
    obtain ⟨_, _, h2⟩ := bind_some h1
    obtain ⟨_, _, h3⟩ := bind_some h2
    cases h3; exact ⟨fun h => (by cases h), fun _ => rfl⟩
  | ready g => cases hc
  | waits g => cases hc
  | nilCheck x =>
    obtain ⟨a, ha, rfl⟩ := map_some' hc
    exact ⟨fun h => (by cases h), fun h => (by cases h)⟩
  | binOp op xt x y yt =>
    simp only [cOp] at hc
    obtain ⟨a, ha, hc1⟩ := bind_some hc
    obtain ⟨b, hb, hc2⟩ := bind_some hc1
    obtain ⟨d, hu, hc3⟩ := bind_some hc2
    clear hc hc1 hc2
    split at hc3
    all_goals first
      | (cases hc3; exact ⟨fun h => (by cases h), fun h => (by cases h)⟩; done)
      | (split at hc3
         · cases hc3; exact ⟨fun h => (by cases h), fun h => (by cases h)⟩
         · cases hc3)
      | (split at hc3
         · cases hc3
         · obtain ⟨ks, hk, hc⟩ := bind_some hc3
           cases hc; exact ⟨fun h => (by cases h), fun h => (by cases h)⟩)
      | cases hc3
  | unOp op t x =>
    simp only [cOp] at hc
    obtain ⟨a, ha, hc⟩ := bind_some hc
    cases hc; exact ⟨fun h => (by cases h), fun h => (by cases h)⟩
  | convert s d x => exact ⟨fun _ => rfl, fun _ => rfl⟩
  | sliceToArrayPointer arr x =>
    simp only [cOp] at hc
    split at hc
    · rename_i hu
      obtain ⟨a, ha, h1⟩ := bind_some hc
      cases h1
      exact ⟨fun h => (by cases h), fun h => (by cases h)⟩
    · cases hc
  | makeInterface t x =>
    simp only [cOp] at hc
    split at hc
    · cases hc
    · rename_i d hni hu
      obtain ⟨a, ha, h1⟩ := bind_some hc
      cases h1
      exact ⟨fun h => (by cases h), fun h => (by cases h)⟩
    · cases hc
  | makeFunc fn a b =>
    cases fn with
    | func f =>
      simp only [cOp] at hc
      obtain ⟨l, hl, h1⟩ := bind_some hc
      obtain ⟨m, hm, h2⟩ := bind_some h1
      cases h2
      exact ⟨fun h => (by cases h), fun h => (by cases h)⟩
    | _ => cases hc
  | makeMap t r => cases r with
    | none => cases hc; exact ⟨fun _ => rfl, fun h => by cases h⟩
    | some r => cases hc
  | makeChan t s => cases hc
  | makeSlice t l c =>
    simp only [cOp] at hc
    obtain ⟨e, _, h1⟩ := bind_some hc
    obtain ⟨s, _, h2'⟩ := bind_some h1
    obtain ⟨b, _, h2⟩ := bind_some h2'
    split at h2
    · cases h2
    · obtain ⟨_, _, h4⟩ := bind_some h2
      obtain ⟨_, _, h5⟩ := bind_some h4
      obtain ⟨_, _, h6⟩ := bind_some h5
      cases h6; exact ⟨fun _ => rfl, fun h => by cases h⟩
  | slice t x l hh m =>
    simp only [cOp] at hc
    obtain ⟨a, ha, hc1⟩ := bind_some hc
    obtain ⟨lo, hl, hc2⟩ := bind_some hc1
    obtain ⟨hi, hhi, hc3⟩ := bind_some hc2
    obtain ⟨mx, hm, hc4⟩ := bind_some hc3
    clear hc hc1 hc2 hc3
    split at hc4
    · cases hc4
    · obtain ⟨d, hu, hc5⟩ := bind_some hc4
      clear hc4
      split at hc5
      · split at hc5
        · cases hc5; exact ⟨fun h => (by cases h), fun h => (by cases h)⟩
        · cases hc5
      · obtain ⟨s, hz, hc6⟩ := bind_some hc5
        split at hc6
        · cases hc6
        · cases hc6; exact ⟨fun h => (by cases h), fun h => (by cases h)⟩
      · obtain ⟨s, hz, hc6⟩ := bind_some hc5
        split at hc6
        · cases hc6
        · cases hc6; exact ⟨fun h => (by cases h), fun h => (by cases h)⟩
      · cases hc5
  | fieldAddr s x f =>
    simp only [cOp] at hc
    split at hc
    · rename_i fs hu
      split at hc
      · rename_i fl hf
        split at hc
        · rename_i n hz
          obtain ⟨a, ha, h1⟩ := bind_some hc
          cases h1
          exact ⟨fun h => (by cases h), fun h => (by cases h)⟩
        · cases hc
      · cases hc
    · cases hc
  | field s x f =>
    simp only [cOp] at hc
    split at hc
    · rename_i fs hu
      obtain ⟨fl, hf, h1⟩ := bind_some hc
      obtain ⟨n, hn, h2⟩ := bind_some h1
      obtain ⟨a, ha, h3⟩ := bind_some h2
      cases h3
      exact ⟨fun h => (by cases h), fun h => (by cases h)⟩
    · cases hc
  | indexAddr t x i =>
    simp only [cOp] at hc
    split at hc
    · rename_i n e hu
      obtain ⟨s, hz, h1⟩ := bind_some hc
      obtain ⟨a, ha, h2⟩ := bind_some h1
      obtain ⟨b, hb, h3⟩ := bind_some h2
      cases h3
      exact ⟨fun h => (by cases h), fun h => (by cases h)⟩
    · rename_i e hu
      obtain ⟨s, hz, h1⟩ := bind_some hc
      obtain ⟨a, ha, h2⟩ := bind_some h1
      obtain ⟨b, hb, h3⟩ := bind_some h2
      cases h3
      exact ⟨fun h => (by cases h), fun h => (by cases h)⟩
    · cases hc
  | index t x i =>
    simp only [cOp] at hc
    split at hc
    · rename_i n e hu
      obtain ⟨s, hz, h1⟩ := bind_some hc
      obtain ⟨q, hq, h2⟩ := bind_some h1
      obtain ⟨a, ha, h3⟩ := bind_some h2
      obtain ⟨b, hb, h4⟩ := bind_some h3
      cases h4
      exact ⟨fun h => (by cases h), fun h => (by cases h)⟩
    · rename_i hu
      obtain ⟨a, ha, h3⟩ := bind_some hc
      obtain ⟨b, hb, h4⟩ := bind_some h3
      cases h4
      exact ⟨fun h => (by cases h), fun h => (by cases h)⟩
    · cases hc
  | lookup t x i ok =>
    simp only [cOp] at hc
    split at hc
    · rename_i kt et hu
      split at hc
      · rename_i hk
        obtain ⟨z, hz, h1⟩ := bind_some hc
        obtain ⟨a, ha, h2⟩ := bind_some h1
        obtain ⟨b, hb, h3⟩ := bind_some h2
        cases h3
        exact ⟨fun h => (by cases h), fun h => (by cases h)⟩
      · cases hc
    · cases hc
  | mapUpdate t m k v' =>
    simp only [cOp] at hc
    split at hc
    · split at hc
      · obtain ⟨_, _, h1⟩ := bind_some hc
        obtain ⟨_, _, h2⟩ := bind_some h1
        obtain ⟨_, _, h3⟩ := bind_some h2
        cases h3; exact ⟨fun h => (by cases h), fun _ => rfl⟩
      · cases hc
    · cases hc
  | mapEntry t m k => cases hc
  | entryStore t m s v' => cases hc
  | range t x =>
    simp only [cOp] at hc
    split at hc
    · obtain ⟨a, _, rfl⟩ := map_some' hc; exact ⟨fun h => (by cases h), fun _ => rfl⟩
    · obtain ⟨a, _, rfl⟩ := map_some' hc; exact ⟨fun h => (by cases h), fun _ => rfl⟩
    · cases hc
  | next x b => cases b <;> (obtain ⟨a, _, rfl⟩ := map_some' hc; exact ⟨fun h => (by cases h), fun _ => rfl⟩)
  | entry x =>
    obtain ⟨a, ha, rfl⟩ := map_some' hc
    exact ⟨fun h => (by cases h), fun h => (by cases h)⟩
  | typeAssert x xt a ok =>
    cases ok with
    | false =>
      simp only [cOp] at hc
      split at hc
      · cases hc
      · obtain ⟨b, hb, h2⟩ := bind_some hc
        cases h2
        exact ⟨fun h => (by cases h), fun h => (by cases h)⟩
      · cases hc
    | true =>
      simp only [cOp] at hc
      split at hc
      · cases hc
      · rename_i d hni hu
        obtain ⟨z, hz, h1⟩ := bind_some hc
        obtain ⟨b, hb, h2⟩ := bind_some h1
        cases h2
        exact ⟨fun h => (by cases h), fun h => (by cases h)⟩
      · cases hc
  | extract x i =>
    simp only [cOp] at hc
    obtain ⟨a, ha, h1⟩ := bind_some hc
    cases h1
    exact ⟨fun h => (by cases h), fun h => (by cases h)⟩
  | call c => exact ⟨fun h => (call_class hc h).elim, fun _ => rfl⟩
  | go c => cases hc
  | defer c => cases hc
  | panic x => cases hc
  | send c x => cases hc
  | recv t c ok => cases hc
  | select cs b => cases hc

theorem onesV_mem {l : List AVal} (h : onesV l = true) {a : AVal} (ha : a ∈ l) : oneV a = true := by
  rw [onesV_eq, List.all_eq_true] at h
  exact h a ha
theorem one_cell {a : AVal} {v : Value} (h : Rel E a v) (ho : oneV a = true) : v.oneCell' = true := by
  cases h <;> first | rfl | (cases ho; done) | assumption
theorem RelL.mem {l : List AVal} {m : List Value} (h : RelL E l m) : ∀ v ∈ m, ∃ a ∈ l, Rel E a v := by
  induction l generalizing m with
  | nil => cases h; simp
  | cons a l ih =>
    cases h with
    | cons _ v _ m h t =>
      intro u hu
      rcases List.mem_cons.1 hu with rfl | hu
      · exact ⟨a, by simp, h⟩
      · obtain ⟨b, hb, hr⟩ := ih t u hu; exact ⟨b, by simp [hb], hr⟩
theorem one_cells {l : List AVal} {m : List Value} (h : RelL E l m) (ho : onesV l = true) : ∀ v ∈ m, v.oneCell' = true := fun v hv =>
  let ⟨_, ha, hr⟩ := h.mem v hv
  one_cell hr (onesV_mem ho ha)

/-- A row in a block that was just made. -/
theorem ObjRel.made {w' : World} {b k s : Nat} {C : Array Value} {t : TypeId} {fr : Nat × Nat} {cs : List AVal} {xs rest : List Value} {m : RMode} (hb : w'.heap[b]? = some (.cells C t fr)) (hr : RelL E cs xs) (hC : C.toList = xs ++ rest)
    (hfr : fr.1 = fr.2 ∨ C.size ≤ fr.1) (ho : onesV cs = true) (hk : k ≤ C.size) (hl : cs.length ≤ k) (he : m = .exact → cs.length = k ∧ C.size = cs.length) (hs : ∀ s', m = .grow s' ∨ m = .ro s' → s = s') :
    ObjRel E w' (.row cs t m) ⟨b, 0, k, s, []⟩ := by
  refine ⟨C, fr, hb, by simpa using hk, hl, fun h => ⟨(he h).1, rfl, (he h).2⟩, hs, fun _ => hfr, ho, fun i c hi => ?_⟩
  obtain ⟨v, hv, hrel⟩ := hr.get i c hi
  refine ⟨v, ?_, hrel⟩
  show C[0 + i]? = some v
  rw [Nat.zero_add, ← Array.getElem?_toList, hC, List.getElem?_append_left (List.getElem?_eq_some_iff.1 hv).1]
  exact hv

/-- What an operation that makes memory makes, under a name. -/
noncomputable def flv (o : AOp) (T : Tm) (n : Nat) : Option (AVal × AObj) :=
  match o with
  | .box t s x => if (ev T x).cells.length = s ∧ onesV (ev T x).cells = true then some (.ptr n 0, .row (ev T x).cells t .exact) else none
  | .alloc t z => if onesV z = true then some (.ptr n 0, .row z t .exact) else none
  | .bsl t s z len ps => match vBld (List.replicate len z).flatten (ps.map fun p => (p.1, s, ev T p.2)) with
    | some (.agg z) => if onesV z = true then some (.slc n 0 len (some len), .row z t .exact) else none
    | _ => none
  | .s2b t x => match ev T x with
    | .str s => some (.slc n 0 s.length none, .row (bytesToCells s) t (.grow 1))
    | _ => none
  | .mkm => some (.map n, .map [] 0)
  | .mks t _ bytes z l c => match ev T l, ev T c with
    | .int .i64 (.ofNat l), .int .i64 (.ofNat c) => if l ≤ c ∧ bytes * c ≤ 281474976710656 ∧ onesV (List.replicate c z).flatten = true then some (.slc n 0 l (some c), .row (List.replicate c z).flatten t .exact) else none
    | _, _ => none
  | _ => none

theorem vBld_agg : ∀ {ps : List (Nat × Nat × AVal)} {z : List AVal} {v : AVal}, vBld z ps = some v → ∃ z', v = .agg z'
  | [], z, v, h => by cases h; exact ⟨z, rfl⟩
  | (off, s, x) :: ps, z, v, h => by
    rw [vBld_cons, sel_beq] at h
    split at h
    · rw [putk_eq] at h
      split at h
      · exact vBld_agg h
      · cases h
    · cases h

theorem bsl_aux (s : Nat) (k : List AVal → Prop) : ∀ (ps : List (Nat × Opd)) (z : List AVal),
    (List.rec (motive := fun _ => List AVal → List AVal → Prop)
        (fun _ z => k z)
        (fun p _ ih vs z => match vs with
          | v :: r => let cs := v.cells; sel (Nat.beq (lenk cs) s) (putk p.1 cs z (ih r) False) False
          | [] => False) ps (ps.map fun p => ev T p.2) z : Prop) → ∃ z', vBld z (ps.map fun p => (p.1, s, ev T p.2)) = some (.agg z') ∧ k z'
  | [], z, h => ⟨z, rfl, h⟩
  | p :: ps, z, h => by
    rw [List.map_cons, vBld_cons]
    simp only [List.map_cons] at h
    rw [sel_beq] at h ⊢
    split at h
    · rename_i hs
      rw [if_pos hs]
      rw [putk_eq] at h ⊢
      split at h
      · rename_i hl
        rw [if_pos hl]
        exact bsl_aux s k ps _ h
      · exact h.elim
    · exact h.elim

theorem flk_flv {o : AOp} {n : Nat} {k : AVal → Hp → Prop} (hk : flk o T h n k) : ∃ v ob, flv o T n = some (v, ob) ∧ k v (Tr.set ob h (Nat.succ n)) := by
  cases o with
  | box t s x =>
    simp only [flk, ev_k, sel_beq, lenk_eq] at hk
    split at hk
    · rename_i h1
      cases h2 : onesV (ev T x).cells with
      | true =>
        rw [h2] at hk
        simp only [sel_true, hset_k] at hk
        exact ⟨_, _, by simp only [flv]; rw [if_pos ⟨h1, h2⟩], hk⟩
      | false => rw [h2] at hk; exact hk.elim
    · exact hk.elim
  | alloc t z =>
    simp only [flk] at hk
    cases h2 : onesV z with
    | true => rw [h2] at hk; simp only [sel_true, hset_k] at hk; exact ⟨_, _, by simp only [flv]; rw [if_pos h2], hk⟩
    | false => rw [h2] at hk; exact hk.elim
  | bsl t s z len ps =>
    simp only [flk, zrep_eq, evl_k, List.map_map] at hk
    obtain ⟨z', hz, hk⟩ := bsl_aux s _ ps _ hk
    cases h2 : onesV z' with
    | true =>
      rw [h2] at hk
      simp only [sel_true, hset_k] at hk
      refine ⟨_, _, ?_, hk⟩
      simp only [flv, hz]
      rw [if_pos h2]
    | false => rw [h2] at hk; exact hk.elim
  | s2b t x =>
    simp only [flk, ev_k] at hk
    split at hk
    · rename_i s hs
      simp only [hset_k, lenk_eq] at hk
      exact ⟨_, _, by simp only [flv, hs], hk⟩
    · exact hk.elim
  | mkm => simp only [flk, hset_k] at hk; exact ⟨_, _, rfl, hk⟩
  | mks t s bytes z l c =>
    simp only [flk, ev_k] at hk
    split at hk
    · rename_i lv cv l c h1 h2
      rw [sel_ble] at hk
      split at hk
      · rename_i hlc
        rw [sel_ble] at hk
        split at hk
        · rename_i hb
          rw [zrep_eq] at hk
          cases h3 : onesV (List.replicate c z).flatten with
          | true =>
            rw [h3] at hk
            simp only [sel_true, hset_k] at hk
            exact ⟨_, _, by simp only [flv, h1, h2]; rw [if_pos ⟨hlc, hb, h3⟩], hk⟩
          | false => rw [h3] at hk; exact hk.elim
        · exact hk.elim
      · exact hk.elim
    · exact hk.elim
  | _ => exact hk.elim

/-- What making memory does: a block is pushed. -/
structure Made (E : Env) (n : Nat) (w : World) (v : AVal) (ob : AObj) (y : Value) (w' : World) : Prop where
  fits : ∃ x d k s, w'.heap = w.heap.push x ∧ Rel (E.put n ⟨w.heap.size, d, k, s, []⟩) v y ∧ ObjRel (E.put n ⟨w.heap.size, d, k, s, []⟩) w' ob ⟨w.heap.size, d, k, s, []⟩
  os : w'.os = w.os
  tape : w'.tape = w.tape
  output : w'.output = w.output

theorem heap_new (w : World) (o : Obj) : (w.alloc o).heap[w.heap.size]? = some o := by
  show (w.heap.push o)[w.heap.size]? = _
  simp

theorem flat_get {α : Type} (z : List α) (hz : 0 < z.length) : ∀ (n i : Nat), i < n * z.length → (List.replicate n z).flatten[i]? = z[i % z.length]?
  | 0, i, h => by simp at h
  | n + 1, i, h => by
    rw [List.replicate_succ, List.flatten_cons, List.getElem?_append]
    split
    · rename_i hi; rw [Nat.mod_eq_of_lt hi]
    · rename_i hi
      rw [flat_get z hz n (i - z.length) (by rw [Nat.add_mul, Nat.one_mul] at h; omega), (Nat.mod_eq_sub_mod (by omega) : i % z.length = (i - z.length) % z.length)]

theorem flat_len {α : Type} (z : List α) : ∀ (n : Nat), (List.replicate n z).flatten.length = n * z.length
  | 0 => by simp
  | n + 1 => by rw [List.replicate_succ, List.flatten_cons, List.length_append, flat_len z n, Nat.add_mul]; omega

/-- The zeros of a row. -/
theorem zeros_rel {z : List AVal} {c : Array Value} (hz : RelL E z c.toList) (n : Nat) : RelL E (List.replicate n z).flatten ((Array.range (n * z.length)).map (fun i => c[i % c.size]!)).toList := by
  have hl : z.length = c.size := by rw [hz.length]; simp
  refine RelL.of_get (by rw [flat_len]; simp) fun i a v ha hv => ?_
  have hi : i < n * z.length := by
    have := (List.getElem?_eq_some_iff.1 ha).1
    rwa [flat_len] at this
  have hz0 : 0 < z.length := by
    rcases Nat.eq_zero_or_pos z.length with h0 | h0
    · rw [h0] at hi; simp at hi
    · exact h0
  rw [flat_get z hz0 n i hi] at ha
  obtain ⟨u, hu, hrel⟩ := hz.get _ _ ha
  have hlt : i % c.size < c.size := Nat.mod_lt _ (by omega)
  have : c[i % c.size]! = u := by
    rw [getElem!_pos c (i % c.size) hlt]
    rw [hl] at hu
    rw [Array.getElem?_toList] at hu
    exact (Array.getElem?_eq_some_iff.1 hu).2
  have h3 : v = c[i % c.size]! := by
    simp [hi] at hv
    exact hv.symm
  rw [h3, this]
  exact hrel

theorem fl_box {t : TypeId} {a : AVal} {x : Value} (ha : Rel E a x) (ho : onesV a.cells = true) {n : Nat} (hn : E n = none) :
    ∃ y w', (Instr.box t x).run P w = .ok y w' ∧ Made E n w (.ptr n 0) (.row a.cells t .exact) y w' := by
  refine ⟨.pointer (some ⟨w.heap.size, 0, none⟩), w.alloc (.cells x.cells t), by simp [Instr.box, newVar, newRow], ⟨⟨_, 0, a.cells.length, 0, rfl, ?_, ?_⟩, rfl, rfl, rfl⟩⟩
  · exact .ptr n 0 _ (Env.put_same _ _ _)
  · have hc := cells_rel (ha.mono (Env.ext_put E n ⟨w.heap.size, 0, a.cells.length, 0, []⟩ hn))
    exact ObjRel.made (rest := []) (heap_new _ _) hc (by simp) (.inl rfl) ho (by rw [cells_size ha]; exact Nat.le_refl _) (Nat.le_refl _) (fun _ => ⟨rfl, cells_size ha⟩) (by rintro s' (h | h) <;> cases h)

theorem fl_alloc {t : TypeId} {z : List AVal} (hz : zeroCells? P t = some z) (ho : onesV z = true) {n : Nat} :
    ∃ y w', (Instr.alloc t true (.tuple #[])).run P w = .ok y w' ∧ Made E n w (.ptr n 0) (.row z t .exact) y w' := by
  obtain ⟨zv, h1, rfl, h2⟩ := zeroCells_some hz
  obtain ⟨u, hu, hr, _⟩ := zero_rel (w := w) h1 (E.put n ⟨w.heap.size, 0, zv.cells.length, 0, []⟩)
  refine ⟨.pointer (some ⟨w.heap.size, 0, none⟩), w.alloc (.cells u.cells t), by simp [Instr.alloc, hu, newVar, newRow], ⟨⟨_, 0, zv.cells.length, 0, rfl, ?_, ?_⟩, rfl, rfl, rfl⟩⟩
  · exact .ptr n 0 _ (Env.put_same _ _ _)
  · exact ObjRel.made (rest := []) (heap_new _ _) (cells_rel hr) (by simp) (.inl rfl) ho (by rw [cells_size hr]; exact Nat.le_refl _) (Nat.le_refl _) (fun _ => ⟨rfl, cells_size hr⟩) (by rintro s' (h | h) <;> cases h)

theorem fl_mkm {t : TypeId} {n : Nat} : ∃ y w', (Instr.makeMap t none).run P w = .ok y w' ∧ Made E n w (.map n) (.map [] 0) y w' :=
  ⟨.map (some w.heap.size), w.alloc (.map #[] 0), by simp [Instr.makeMap], ⟨⟨_, 0, 0, 0, rfl, .map n _ (Env.put_same _ _ _), #[], heap_new _ _, .nil⟩, rfl, rfl, rfl⟩⟩

theorem fl_bsl {t e : TypeId} {s : Nat} {z : List AVal} {len : Nat} {ps : List (Nat × Nat × AVal)} {parts : Array (Nat × Value)} (hu : P.underlying t = some (.slice e)) (hs : sizeOf? P e = some s) (hz : zeroCells? P e = some z)
    (hlen : ¬ (len * s > 2 ^ 24 ∨ s = 0)) (hp : PartsRel E (fun i => some (i * s, s)) ps parts.toList) {z' : List AVal} (hv : vBld (List.replicate len z).flatten ps = some (.agg z')) (ho : onesV z' = true) {n : Nat} (hn : E n = none) :
    ∃ y w', (Instr.buildSlice t len parts).run P w = .ok y w' ∧ Made E n w (.slc n 0 len (some len)) (.row z' e .exact) y w' := by
  obtain ⟨zv, h1, rfl, h2⟩ := zeroCells_some hz
  rw [hs] at h2
  cases h2
  obtain ⟨u, hu', hr, i, hi, hiz⟩ := zero_rel (w := w) h1 E
  have hzl : zv.cells.length = u.cells.size := (cells_size hr).symm
  have hzr := zeros_rel (cells_rel hr) len
  obtain ⟨c', h3, h4⟩ := fill_rel hp hzr hv
  refine ⟨.slice (some ⟨w.heap.size, 0, none⟩) len len, w.alloc (.cells c' e), ?_, ⟨⟨_, 0, z'.length, 0, rfl, ?_, ?_⟩, rfl, rfl, rfl⟩⟩
  · unfold Instr.buildSlice
    have hgt : ¬ (len * zv.cells.length > 2 ^ 24) := fun h => hlen (.inl h)
    simp only [Sem.run_bind, run_und w hu, Result.andThen_ok, run_size w hs, Sem.run_ite, hgt, if_false]
    by_cases h0 : len * zv.cells.length = 0
    · have hz0 : (Array.map (fun i => u.cells[i % u.cells.size]!) (Array.range (len * zv.cells.length))) = #[] := by rw [h0]; simp
      rw [hz0] at h3
      simp only [h0, if_true, Sem.run_pure, Result.andThen_ok]
      have : (Array.map (fun x => (#[] : Array Value)[x % (#[] : Array Value).size]!) (Array.range 0)) = #[] := by simp
      rw [this, h3]
      simp [newRow]
    · simp only [h0, if_false, hu', Result.andThen_ok, Sem.run_pure]
      rw [h3]
      simp [newRow]
  · exact .slcS n 0 len len _ (Env.put_same _ _ _)
  · cases h4 with
    | agg _ _ h4 =>
      have h5 := h4.mono (Env.ext_put E n ⟨w.heap.size, 0, z'.length, 0, []⟩ hn)
      exact ObjRel.made (rest := []) (heap_new _ _) h5 (by simp) (.inl rfl) ho (by rw [h5.length]; simp) (Nat.le_refl _) (fun _ => ⟨rfl, by rw [h5.length]; simp⟩) (by rintro s' (h | h) <;> cases h)

theorem bytes_rel (E : Env) : ∀ (s : List Nat), (∀ b ∈ s, b < 256) → RelL E (bytesToCells s) ((s.map UInt8.ofNat).map fun b => Value.int .u8 b.toNat)
  | [], _ => .nil
  | a :: l, h => by
    refine .cons _ _ _ _ ?_ (bytes_rel E l fun b hb => h b (by simp [hb]))
    have ha := h a (by simp)
    have : (UInt8.ofNat a).toNat = a := by simp; omega
    show Rel E (.int .u8 (Int.ofNat a)) (.int .u8 ((UInt8.ofNat a).toNat : Int))
    rw [this]
    exact .int .u8 _
theorem bytes_ones (s : List Nat) : onesV (bytesToCells s) = true := by
  rw [onesV_eq, List.all_eq_true]
  intro a ha
  obtain ⟨b, _, rfl⟩ := List.mem_map.1 ha
  rfl

theorem fl_s2b {t d e : TypeId} (hs : P.underlying t = some .string) (hd : P.underlying d = some (.slice e)) (he : P.underlying e = some (.int .u8)) {s : List Nat} {x : Value} (ha : Rel E (.str s) x) {n : Nat} :
    ∃ y w', (convert t d x).run P w = .ok y w' ∧ Made E n w (.slc n 0 s.length none) (.row (bytesToCells s) e (.grow 1)) y w' := by
  cases ha with
  | str _ hb =>
    have hrun := run_bytes_of_string (P := P) w t d e (bytesOf s) hs hd he
    have hsz := bytesOf_size s
    generalize hg : grownCap w (bytesOf s).size 0 e = g at hrun
    have hge : s.length ≤ g := by
      rw [← hg, ← hsz]
      simp [grownCap, Question.cut]
    have hC : (bytesRow (bytesOf s) g).toList = ((s.map UInt8.ofNat).map fun b => Value.int .u8 b.toNat) ++ List.replicate (g - s.length) (.int .u8 0) := by
      unfold bytesRow
      rw [hsz]
      simp [bytesOf_toList]
    have hCs : (bytesRow (bytesOf s) g).size = g := by
      rw [← Array.length_toList, hC]
      simp; omega
    refine ⟨_, _, hrun, ⟨⟨_, 0, g, 1, rfl, ?_, ?_⟩, rfl, rfl, rfl⟩⟩
    · rw [hsz]
      exact .slcN n 0 s.length g _ (Env.put_same _ _ _) (by simp) hge
    · exact ObjRel.made (heap_new _ _) (bytes_rel _ s hb) hC (.inr (Nat.le_refl _)) (bytes_ones s) (by rw [hCs]; exact Nat.le_refl _) (by simp [bytesToCells, hge]) (fun h => by cases h)
        (by rintro s' (h | h) <;> cases h; rfl)

theorem fl_mks {t e : TypeId} {s bytes l c : Nat} {z : List AVal} (hu : P.underlying t = some (.slice e)) (hs : sizeOf? P e = some s) (hb : bytesOf? P e = some bytes) (hz : zeroCells? P e = some z)
    (hlc : l ≤ c) (hbc : bytes * c ≤ 281474976710656) (ho : onesV (List.replicate c z).flatten = true) {n : Nat} (h63 : c ≤ 9223372036854775807) :
    ∃ y w', (Instr.makeSlice t (.int .i64 l) (.int .i64 c)).run P w = .ok y w' ∧ Made E n w (.slc n 0 l (some c)) (.row (List.replicate c z).flatten e .exact) y w' := by
  obtain ⟨zv, h1, rfl, h2⟩ := zeroCells_some hz
  rw [hs] at h2
  cases h2
  have hzr : ∃ u, (zeroValue e).run P w = .ok u w ∧ Rel (E.put n ⟨w.heap.size, 0, c * zv.cells.length, 0, []⟩) zv u := by
    obtain ⟨u, hu', hr, _⟩ := zero_rel (w := w) h1 (E.put n ⟨w.heap.size, 0, c * zv.cells.length, 0, []⟩)
    exact ⟨u, hu', hr⟩
  obtain ⟨u, hu', hr⟩ := hzr
  obtain ⟨i, hi, rfl⟩ := map_some' hb
  have hr' := zeros_rel (cells_rel hr) c
  refine ⟨.slice (some ⟨w.heap.size, 0, none⟩) l c, w.alloc (.cells ((Array.range (c * zv.cells.length)).map (fun i => u.cells[i % u.cells.size]!)) e), ?_, ⟨⟨_, 0, c * zv.cells.length, 0, rfl, ?_, ?_⟩, rfl, rfl, rfl⟩⟩
  · have hw1 : IntKind.i64.wrap (l : Int) = l := wrap_in _ _ (by show (-9223372036854775808 : Int) ≤ _; omega) (by show _ ≤ (9223372036854775807 : Int); omega)
    have hw2 : IntKind.i64.wrap (c : Int) = c := wrap_in _ _ (by show (-9223372036854775808 : Int) ≤ _; omega) (by show _ ≤ (9223372036854775807 : Int); omega)
    have hb2 : ¬ ((i.bytes : Int) * (c : Int) > 2 ^ 48) := by
      have h9 : ((i.bytes * c : Nat) : Int) ≤ 281474976710656 := by omega
      rw [Int.natCast_mul] at h9
      show ¬ ((i.bytes : Int) * (c : Int) > 281474976710656)
      omega
    have hn1 : ¬ ((c : Int) < 0) := by omega
    have hn2 : ¬ ((l : Int) < 0) := by omega
    have hn3 : ¬ ((l : Int) > (c : Int)) := by omega
    have hinfo := run_info (P := P) w hi
    have hA : ∀ k : Int, (asInt (.int .i64 k)).run P w = .ok k w := fun k => by simp [asInt, asIntOf]
    have hd1 : (decide ((c : Int) < 0) || decide ((i.bytes : Int) * (c : Int) > 2 ^ 48)) = false := by simp only [hn1, hb2, decide_false, Bool.or_false]
    have hd2 : decide ((l : Int) < 0) = false := by simp only [hn2, decide_false]
    have hd3 : decide ((l : Int) > (c : Int)) = false := by simp only [hn3, decide_false]
    unfold Instr.makeSlice
    simp only [Sem.run_bind, run_und w hu, Result.andThen_ok, hA, hinfo, hw1, hw2, hd1, hd2, hd3, Bool.or_false, Bool.false_eq_true, if_false, Sem.run_ite, run_askRoom, run_size w hs, Int.toNat_natCast]
    by_cases h0 : c * zv.cells.length = 0
    · have hz0 : ∀ f : Nat → Value, Array.map f (Array.range 0) = #[] := fun f => by simp
      simp [h0, newRow]
      rw [hz0, hz0]
    · simp [h0, hu', newRow]
  · exact .slcS n 0 l c _ (Env.put_same _ _ _)
  · exact ObjRel.made (rest := []) (heap_new _ _) hr' (by simp) (.inl rfl) ho (by simp) (by rw [flat_len]; exact Nat.le_refl _) (fun _ => ⟨flat_len _ _, by rw [flat_len]; simp⟩) (by rintro s' (h | h) <;> cases h)

theorem flv_floats {o : AOp} {n : Nat} {x : AVal × AObj} (h : flv o T n = some x) : o.floats = true := by
  cases o <;> first | rfl | cases h

/-- Whatever making operation is compiled makes what is told. -/
theorem fl_run (hρ : OpdRel E T ρ) (o : Oper) {ao : AOp} (hc : cOp P o.op = some ao) {n : Nat} {v : AVal} {ob : AObj} (hf : flv ao T n = some (v, ob)) (hn : E n = none) :
    ∃ y w', (execOp ρ o).run P w = .ok (.value y) w' ∧ Made E n w v ob y w' := by
  obtain ⟨dst, op, ty, pos, after, guard⟩ := o
  dsimp only at hc
  have fin : ∀ {s : Sem Value}, (∃ y w', s.run P w = .ok y w' ∧ Made E n w v ob y w') → ∃ y w', (do pure (Next.value (← s)) : Sem Next).run P w = .ok (.value y) w' ∧ Made E n w v ob y w' := by
    rintro s ⟨y, w', h1, h2⟩
    exact ⟨y, w', by simp [h1], h2⟩
  cases op with
  | box e x =>
    simp only [cOp] at hc
    obtain ⟨s', _, hc1⟩ := bind_some hc
    obtain ⟨x', hx, hc2⟩ := bind_some hc1
    cases hc2
    simp only [flv] at hf
    split at hf
    · rename_i h1
      cases hf
      exact fin (fl_box (hρ _ _ hx) h1.2 hn)
    · cases hf
  | alloc e =>
    simp only [cOp] at hc
    obtain ⟨z, hz, hc1⟩ := bind_some hc
    cases hc1
    simp only [flv] at hf
    split at hf
    · rename_i h1
      cases hf
      exact fin (fl_alloc hz h1)
    · cases hf
  | buildSlice t len parts =>
    simp only [cOp] at hc
    obtain ⟨e, he, hc1⟩ := bind_some hc
    obtain ⟨s, hs, hc2⟩ := bind_some hc1
    obtain ⟨z, hz, hc3⟩ := bind_some hc2
    split at hc3
    · cases hc3
    · rename_i hlen
      obtain ⟨ps, hps, hc4⟩ := bind_some hc3
      cases hc4
      simp only [flv] at hf
      split at hf
      · rename_i z' hz'
        split at hf
        · rename_i ho
          cases hf
          have hu : P.underlying t = some (.slice e) := by
            unfold elemOf? at he
            split at he
            · cases he; assumption
            · cases he
          have hp : ∀ {l : List (Nat × Operand)} {m : List (Nat × Opd)}, l.mapM (fun p => (do pure (p.1 * s, ← cOpd p.2) : Option (Nat × Opd))) = some m →
              PartsRel E (fun i => some (i * s, s)) (m.map fun p => (p.1, s, ev T p.2)) (l.map fun p => (p.1, ρ p.2)) := by
            intro l
            induction l with
            | nil => intro m h; cases h; exact .nil
            | cons p l ih =>
              intro m h
              obtain ⟨q, r, h1, h2, rfl⟩ := mapM_cons_some h
              obtain ⟨b, h3, h4⟩ := bind_some h1
              cases h4
              exact .cons _ _ _ _ _ _ _ rfl (hρ _ _ h3) (ih h2)
          have hlen' : ¬ (len * s > 2 ^ 24 ∨ s = 0) := fun hx => hlen (by
            rcases hx with hx | hx
            · rw [decide_eq_true hx, Bool.true_or]
            · rw [decide_eq_true hx, Bool.or_true])
          have hp1 := hp hps
          have hparts : (parts.map fun (i, x) => (i, ρ x)).toList = parts.toList.map fun p => (p.1, ρ p.2) := by simp
          rw [← hparts] at hp1
          exact fin (fl_bsl hu hs hz hlen' hp1 hz' ho hn)
        · cases hf
      · cases hf
  | makeMap t r => cases r with
    | none => cases hc; cases hf; exact fin fl_mkm
    | some r => cases hc
  | makeSlice t l c =>
    simp only [cOp] at hc
    obtain ⟨e, he, h1⟩ := bind_some hc
    obtain ⟨s, hs, h2'⟩ := bind_some h1
    obtain ⟨b, hb, h2⟩ := bind_some h2'
    split at h2
    · cases h2
    · rename_i hsb
      obtain ⟨z, hz, h4⟩ := bind_some h2
      obtain ⟨l', hl, h5⟩ := bind_some h4
      obtain ⟨c', hcc, h6⟩ := bind_some h5
      cases h6
      simp only [flv] at hf
      split at hf
      · rename_i l2 c2 e1 e2
        split at hf
        · rename_i hcond
          cases hf
          have hu : P.underlying t = some (.slice e) := by
            unfold elemOf? at he
            split at he
            · cases he; assumption
            · cases he
          have rl := hρ _ _ hl
          have rc := hρ _ _ hcc
          rw [e1] at rl
          rw [e2] at rc
          have q1 : ρ l = .int .i64 (l2 : Int) := by
            generalize ρ l = y at rl
            cases rl; rfl
          have q2 : ρ c = .int .i64 (c2 : Int) := by
            generalize ρ c = y at rc
            cases rc; rfl
          refine fin ?_
          rw [q1, q2]
          have hb0 : 1 ≤ b := by
            simp at hsb
            omega
          have : c2 ≤ b * c2 := Nat.le_mul_of_pos_left _ (by omega)
          exact fl_mks hu hs hb hz hcond.1 hcond.2.1 hcond.2.2 (by omega)
        · cases hf
      · cases hf
  | convert s d x =>
    simp only [cOp] at hc
    obtain ⟨a, ha, hc1⟩ := bind_some hc
    obtain ⟨sd, hsd, hc2⟩ := bind_some hc1
    obtain ⟨dd, hdd, hc3⟩ := bind_some hc2
    have ra := hρ _ _ ha
    split at hc3
    · cases hc3; cases hf
    · cases hc3; cases hf
    · cases hc3; cases hf
    · split at hc3
      · rename_i he
        cases hc3
        simp only [flv] at hf
        split at hf
        · rename_i s' hs'
          cases hf
          rw [hs'] at ra
          exact fin (fl_s2b hsd hdd he ra)
        · cases hf
      · cases hc3
    · split at hc3
      · cases hc3; cases hf
      · cases hc3
    · split at hc3
      · cases hc3; cases hf
      · cases hc3
    · split at hc3
      · cases hc3; cases hf
      · cases hc3
    · split at hc3
      · cases hc3; cases hf
      · cases hc3
    · cases hc3
  | _ =>
    exfalso
    have h1 := (cOp_class hc).1 (flv_floats hf)
    cases h1
end
end Go.Am
