/-
  The abstract machine, part 12: equality of structs and arrays of plain cells. No conditions.
-/
import Derived.Test.YtgmhcbmkdimoiaaGreatDoorAm11
import Derived.DeepKeys
import Derived.Laws.StructEq
namespace Go.Am
section
variable {P : Program} {E : Env} {w : World} {cm : Bool}

/-- The literals of plain cells, by their kinds. -/
def litsOf : List Kd → List Value → Option (List Lit)
  | [], [] => some []
  | .i k :: ks, .int k' n :: vs => if k' = k ∧ (Lit.int k n).wf = true then (litsOf ks vs).map (.int k n :: ·) else none
  | .b :: ks, .bool b :: vs => (litsOf ks vs).map (.bool b :: ·)
  | .s :: ks, .string s :: vs => if s.size ≤ maxLen then (litsOf ks vs).map (.string s.data.toList :: ·) else none
  | _, _ => none

theorem litsOf_length : ∀ {ks : List Kd} {vs : List Value} {ls : List Lit}, litsOf ks vs = some ls → vs.length = ks.length ∧ ls.length = ks.length := by
  intro ks
  induction ks with
  | nil => intro vs ls h; cases vs with
    | nil => cases h; exact ⟨rfl, rfl⟩
    | cons v vs => cases h
  | cons k ks ih =>
    intro vs ls h
    cases vs with
    | nil => cases k <;> cases h
    | cons v vs =>
      have key : ∀ (x : Lit), (litsOf ks vs).map (x :: ·) = some ls → (v :: vs).length = (k :: ks).length ∧ ls.length = (k :: ks).length := by
        intro x hx
        simp only [Option.map_eq_some_iff] at hx
        obtain ⟨r, hr, rfl⟩ := hx
        obtain ⟨h1, h2⟩ := ih hr
        exact ⟨by simp [h1], by simp [h2]⟩
      cases k <;> cases v <;> first
        | (cases h; done)
        | (simp only [litsOf] at h; split at h <;> first | exact key _ h | (cases h; done))
        | exact key _ h

theorem litsOf_append : ∀ {a b : List Kd} {vs : List Value} {ls : List Lit}, litsOf (a ++ b) vs = some ls →
    ∃ la lb, litsOf a (vs.take a.length) = some la ∧ litsOf b (vs.drop a.length) = some lb ∧ ls = la ++ lb := by
  intro a
  induction a with
  | nil => intro b vs ls h; exact ⟨[], ls, by simp [litsOf], by simpa using h, rfl⟩
  | cons k ks ih =>
    intro b vs ls h
    cases vs with
    | nil => cases k <;> cases h
    | cons v vs =>
      have key : ∀ (x : Lit), (litsOf (ks ++ b) vs).map (x :: ·) = some ls → (∀ r, litsOf ks (vs.take ks.length) = some r → litsOf (k :: ks) (v :: vs.take ks.length) = some (x :: r)) →
          ∃ la lb, litsOf (k :: ks) ((v :: vs).take (k :: ks).length) = some la ∧ litsOf b ((v :: vs).drop (k :: ks).length) = some lb ∧ ls = la ++ lb := by
        intro x hx hstep
        simp only [Option.map_eq_some_iff] at hx
        obtain ⟨r, hr, rfl⟩ := hx
        obtain ⟨la, lb, h1, h2, h3⟩ := ih hr
        refine ⟨x :: la, lb, ?_, by simpa using h2, by simp [h3]⟩
        simpa using hstep la h1
      cases k with
      | i k =>
        cases v with
        | int k' n =>
          simp only [List.cons_append, litsOf] at h
          split at h
          · rename_i hc
            exact key _ h (fun r hr => by simp [litsOf, hc, hr])
          · cases h
        | _ => cases h
      | b =>
        cases v with
        | bool q => exact key _ h (fun r hr => by simp [litsOf, hr])
        | _ => cases h
      | s =>
        cases v with
        | string q =>
          simp only [List.cons_append, litsOf] at h
          split at h
          · rename_i hc
            exact key _ h (fun r hr => by simp [litsOf, hc, hr])
          · cases h
        | _ => cases h

theorem cellsOf_of_size {t : TypeId} {n : Nat} (h : sizeOf? P t = some n) : P.cellsOf t = n := by
  unfold sizeOf? at h
  unfold Program.cellsOf
  rw [h]
  rfl

/-- One field more. -/
def flatStep (P : Program) (d : Nat) (acc : List Kd) (f : Field) : Option (List Kd) := do
  if f.name == "_" || f.offset != acc.length then none else
  let k ← flatT P d f.type
  if sizeOf? P f.type != some k.length then none else pure (acc ++ k)

theorem flatStep_some {d : Nat} {acc l : List Kd} {f : Field} (h : flatStep P d acc f = some l) :
    f.name ≠ "_" ∧ f.offset = acc.length ∧ ∃ k, flatT P d f.type = some k ∧ sizeOf? P f.type = some k.length ∧ l = acc ++ k := by
  unfold flatStep at h
  split at h
  · cases h
  · rename_i h1
    simp at h1
    simp only [Option.bind_eq_bind, Option.bind_eq_some_iff] at h
    obtain ⟨k, hk, h⟩ := h
    split at h
    · cases h
    · rename_i h2
      cases h
      simp at h2
      exact ⟨h1.1, h1.2, k, hk, h2, rfl⟩

theorem flat_fields {d : Nat} (IH : ∀ (t : TypeId) (ks : List Kd), flatT P d t = some ks → P.keyTypeAt d t = true ∧ sizeOf? P t = some ks.length ∧ ∀ (cs : List Value) (ls : List Lit), litsOf ks cs = some ls → P.keyLits d t cs = some ls) :
    ∀ (fl : List Field) (acc l : List Kd), fl.foldlM (flatStep P d) acc = some l → (∀ f ∈ fl, f.name ≠ "_" ∧ P.keyTypeAt d f.type = true) ∧ ∃ rest, l = acc ++ rest ∧
      ∀ (cs : List Value) (ls : List Lit), litsOf rest (cs.drop acc.length) = some ls →
        ∃ lss, fl.mapM (fun f => P.keyLits d f.type ((cs.drop f.offset).take (P.cellsOf f.type))) = some lss ∧ lss.flatten = ls
  | [], acc, l, h => by
    cases h
    refine ⟨by simp, [], by simp, ?_⟩
    intro cs ls hl
    refine ⟨[], rfl, ?_⟩
    have := (litsOf_length hl).2
    exact (List.eq_nil_of_length_eq_zero this).symm
  | f :: fl, acc, l, h => by
    simp only [List.foldlM_cons, Option.bind_eq_bind, Option.bind_eq_some_iff] at h
    obtain ⟨acc', h1, h2⟩ := h
    obtain ⟨hn, ho, k, hk, hz, rfl⟩ := flatStep_some h1
    obtain ⟨h3, rest, rfl, h4⟩ := flat_fields IH fl _ l h2
    obtain ⟨i1, i2, i3⟩ := IH _ _ hk
    refine ⟨?_, k ++ rest, by simp, ?_⟩
    · intro g hg
      rcases List.mem_cons.1 hg with rfl | hg
      · exact ⟨hn, i1⟩
      · exact h3 g hg
    · intro cs ls hl
      obtain ⟨la, lb, h5, h6, rfl⟩ := litsOf_append hl
      rw [List.drop_drop] at h6
      obtain ⟨lss, h7, h8⟩ := h4 cs lb (by rw [List.length_append]; exact h6)
      refine ⟨la :: lss, ?_, by simp [h8]⟩
      rw [List.mapM_cons, ho, cellsOf_of_size hz, i3 _ _ h5, h7]
      rfl

theorem flat_items {d : Nat} {e : TypeId} {k : List Kd} (hk : ∀ (cs : List Value) (ls : List Lit), litsOf k cs = some ls → P.keyLits d e cs = some ls) (hz : P.cellsOf e = k.length) (cs : List Value) :
    ∀ (n i : Nat) (ls : List Lit), litsOf (List.replicate n k).flatten (cs.drop (i * k.length)) = some ls →
      ∃ lss, (List.range' i n).mapM (fun i => P.keyLits d e ((cs.drop (i * P.cellsOf e)).take (P.cellsOf e))) = some lss ∧ lss.flatten = ls
  | 0, i, ls, h => ⟨[], rfl, (List.eq_nil_of_length_eq_zero (litsOf_length h).2).symm⟩
  | n + 1, i, ls, h => by
    rw [List.replicate_succ, List.flatten_cons] at h
    obtain ⟨la, lb, h5, h6, rfl⟩ := litsOf_append h
    rw [List.drop_drop] at h6
    obtain ⟨lss, h7, h8⟩ := flat_items hk hz cs n (i + 1) lb (by rw [Nat.add_mul, Nat.one_mul]; exact h6)
    refine ⟨la :: lss, ?_, by simp [h8]⟩
    rw [List.range'_succ, List.mapM_cons, hz, hk _ _ h5]
    rw [hz] at h7
    rw [h7]
    rfl

theorem flatT_key : ∀ (d : Nat) (t : TypeId) (ks : List Kd), flatT P d t = some ks → P.keyTypeAt d t = true ∧ sizeOf? P t = some ks.length ∧
    ∀ (cs : List Value) (ls : List Lit), litsOf ks cs = some ls → P.keyLits d t cs = some ls
  | 0, _, _, h => by cases h
  | d + 1, t, ks, h => by
    have IH := flatT_key d
    cases hu : P.underlying t with
    | none => simp [flatT, hu] at h
    | some td =>
      cases td with
      | int k =>
        simp only [flatT, hu] at h
        split at h
        · rename_i hz
          cases h
          refine ⟨by simp [Program.keyTypeAt, hu], by simpa using hz, ?_⟩
          intro cs ls hl
          have hlen := (litsOf_length hl).1
          match cs, hlen with
          | [v], _ =>
            cases v with
            | int k' n =>
              simp only [litsOf] at hl
              split at hl
              · rename_i hc
                cases hl
                simp [Program.keyLits, hu, hc]
              · cases hl
            | _ => cases hl
        · cases h
      | bool =>
        simp only [flatT, hu] at h
        split at h
        · rename_i hz
          cases h
          refine ⟨by simp [Program.keyTypeAt, hu], by simpa using hz, ?_⟩
          intro cs ls hl
          have hlen := (litsOf_length hl).1
          match cs, hlen with
          | [v], _ =>
            cases v with
            | bool b => cases hl; simp [Program.keyLits, hu]
            | _ => cases hl
        · cases h
      | string =>
        simp only [flatT, hu] at h
        split at h
        · rename_i hz
          cases h
          refine ⟨by simp [Program.keyTypeAt, hu], by simpa using hz, ?_⟩
          intro cs ls hl
          have hlen := (litsOf_length hl).1
          match cs, hlen with
          | [v], _ =>
            cases v with
            | string s =>
              simp only [litsOf] at hl
              split at hl
              · rename_i hc
                cases hl
                simp [Program.keyLits, hu, hc]
              · cases hl
            | _ => cases hl
        · cases h
      | struct fs =>
        have h' : (do
          let l ← fs.toList.foldlM (flatStep P d) []
          if sizeOf? P t != some l.length || P.cutTypes.any (·.2 == t) || P.stoodInHeld t then none else pure l : Option (List Kd)) = some ks := by
          simp only [flatT, hu] at h
          exact h
        simp only [Option.bind_eq_bind, Option.bind_eq_some_iff] at h'
        obtain ⟨l, h1, h2⟩ := h'
        split at h2
        · cases h2
        · rename_i hc
          cases h2
          simp only [Bool.or_eq_true, bne_iff_ne, ne_eq, not_or, Decidable.not_not, Bool.not_eq_true] at hc
          obtain ⟨⟨hc1, hc2⟩, hc3⟩ := hc
          obtain ⟨h3, rest, h4, h5⟩ := flat_fields IH fs.toList [] ks h1
          simp only [List.nil_append] at h4
          subst h4
          refine ⟨?_, hc1, ?_⟩
          · simp only [Program.keyTypeAt, hu, hc2, hc3]
            simp only [Bool.not_false, Bool.and_true]
            rw [← Array.all_toList, List.all_eq_true]
            intro f hf
            obtain ⟨h6, h7⟩ := h3 f hf
            simp [h6, h7]
          · intro cs ls hl
            obtain ⟨lss, h6, h7⟩ := h5 cs ls (by simpa using hl)
            have hall : fs.all (·.name != "_") = true := by
              rw [← Array.all_toList, List.all_eq_true]
              intro f hf
              simpa using (h3 f hf).1
            have hlen : cs.length = P.cellsOf t := by rw [(litsOf_length hl).1, cellsOf_of_size hc1]
            simp [Program.keyLits, hu, hall, hlen, h6, h7]
      | array n e =>
        have h' : (do
          let k ← flatT P d e
          if sizeOf? P e != some k.length || sizeOf? P t != some (n * k.length) then none else pure (List.replicate n k).flatten : Option (List Kd)) = some ks := by
          simp only [flatT, hu] at h
          exact h
        simp only [Option.bind_eq_bind, Option.bind_eq_some_iff] at h'
        obtain ⟨k, h1, h2⟩ := h'
        split at h2
        · cases h2
        · rename_i hc
          cases h2
          simp only [Bool.or_eq_true, bne_iff_ne, ne_eq, not_or, Decidable.not_not] at hc
          obtain ⟨hc1, hc2⟩ := hc
          obtain ⟨i1, i2, i3⟩ := IH _ _ h1
          refine ⟨by simp [Program.keyTypeAt, hu, i1], by rw [hc2]; simp, ?_⟩
          intro cs ls hl
          obtain ⟨lss, h6, h7⟩ := flat_items i3 (cellsOf_of_size hc1) cs n 0 ls (by simpa using hl)
          have hlen : cs.length = P.cellsOf t := by rw [(litsOf_length hl).1, cellsOf_of_size hc2]; simp
          rw [← List.range_eq_range'] at h6
          simp [Program.keyLits, hu, hlen, h6, h7]
      | _ => simp [flatT, hu] at h

theorem eqCells_cons (cm : Bool) (k : Kd) (ks : List Kd) (a b : List AVal) : eqCells cm (k :: ks) a b = (match k, a, b with
      | .i k, .int k1 m :: a, .int k2 n :: b => sel (eqK k k1) (sel (eqK k k2) (sel (leI (lo k) m) (sel (leI m (hi k)) (sel (leI (lo k) n) (sel (leI n (hi k)) (Option.rec none (fun r => some (sel (eqM cm m n) r false)) (eqCells cm ks a b)) none) none) none) none) none) none
      | .b, .bool m :: a, .bool n :: b => Option.rec none (fun r => some (sel (sel m n (notB n)) r false)) (eqCells cm ks a b)
      | .s, .str m :: a, .str n :: b => sel (Nat.ble (lenk m) 9223372036854775807) (sel (Nat.ble (lenk n) 9223372036854775807) (Option.rec none (fun r => some (sel (eqL m n) r false)) (eqCells cm ks a b)) none) none
      | _, _, _ => none) := rfl

theorem selO {α : Type} {b : Bool} {z : Option α} {v : α} (h : sel b z none = some v) : b = true ∧ z = some v := by
  cases b with
  | true => exact ⟨rfl, h⟩
  | false => cases h

theorem wf_int {k : IntKind} {n : Int} (h1 : leI (lo k) n = true) (h2 : leI n (hi k) = true) : (Lit.int k n).wf = true := by
  rw [leI_eq] at h1 h2
  have e1 : lo k = k.min := by cases k <;> rfl
  have e2 : hi k = k.max := by cases k <;> rfl
  rw [e1] at h1
  rw [e2] at h2
  simp only [Lit.wf, h1, h2, Bool.and_self]

theorem eqCells_rel {ks : List Kd} : ∀ {as bs : List AVal} {xs ys : List Value} {r : Bool}, RelL E as xs → RelL E bs ys → eqCells cm ks as bs = some r →
    ∃ la lb, litsOf ks xs = some la ∧ litsOf ks ys = some lb ∧ (r = true ↔ la = lb) := by
  induction ks with
  | nil =>
    intro as bs xs ys r ha hb h
    cases ha with
    | cons _ _ _ _ _ _ => cases h
    | nil => cases hb with
      | cons _ _ _ _ _ _ => cases h
      | nil => cases h; exact ⟨[], [], rfl, rfl, by simp⟩
  | cons k ks ih =>
    intro as bs xs ys r ha hb h
    rw [eqCells_cons] at h
    cases ha with
    | nil => cases k <;> cases h
    | cons a x as xs h1 h2 =>
      cases hb with
      | nil => cases k <;> cases h1 <;> cases h
      | cons b y bs ys h3 h4 =>
        have tail : ∀ {q : Bool} {r : Bool}, (Option.rec none (fun r => some (sel q r false)) (eqCells cm ks as bs) : Option Bool) = some r →
            ∃ r' la lb, litsOf ks xs = some la ∧ litsOf ks ys = some lb ∧ (r' = true ↔ la = lb) ∧ r = (q && r') := by
          intro q r hq
          cases he : eqCells cm ks as bs with
          | none => rw [he] at hq; cases hq
          | some r' =>
            rw [he] at hq
            cases hq
            obtain ⟨la, lb, h5, h6, h7⟩ := ih h2 h4 he
            exact ⟨r', la, lb, h5, h6, h7, by cases q <;> rfl⟩
        cases k with
        | i k =>
          cases h1 with
          | int k1 m =>
            cases h3 with
            | int k2 n =>
              dsimp only at h
              obtain ⟨c1, h⟩ := selO h
              obtain ⟨c2, h⟩ := selO h
              obtain ⟨c3, h⟩ := selO h
              obtain ⟨c4, h⟩ := selO h
              obtain ⟨c5, h⟩ := selO h
              obtain ⟨c6, h⟩ := selO h
              obtain ⟨r', la, lb, h5, h6, h7, rfl⟩ := tail h
              rw [eqK_eq] at c1 c2
              simp at c1 c2
              subst c1
              subst c2
              refine ⟨.int k m :: la, .int k n :: lb, by simp [litsOf, wf_int c3 c4, h5], by simp [litsOf, wf_int c5 c6, h6], ?_⟩
              rw [eqM_eq, Bool.and_eq_true, h7]
              simp
            | _ => cases h
          | _ => cases h
        | b =>
          cases h1 with
          | bool m =>
            cases h3 with
            | bool n =>
              obtain ⟨r', la, lb, h5, h6, h7, rfl⟩ := tail h
              refine ⟨.bool m :: la, .bool n :: lb, by simp [litsOf, h5], by simp [litsOf, h6], ?_⟩
              rw [Bool.and_eq_true, h7]
              cases m <;> cases n <;> simp [sel_true, sel_false, notB_eq]
            | _ => cases h
          | _ => cases h
        | s =>
          cases h1 with
          | str m hm =>
            cases h3 with
            | str n hn =>
              dsimp only at h
              obtain ⟨c1, h⟩ := selO h
              obtain ⟨c2, h⟩ := selO h
              obtain ⟨r', la, lb, h5, h6, h7, rfl⟩ := tail h
              rw [ble_eq, lenk_eq] at c1 c2
              simp at c1 c2
              have e1 : (bytesOf m).size ≤ maxLen := by rw [bytesOf_size]; exact c1
              have e2 : (bytesOf n).size ≤ maxLen := by rw [bytesOf_size]; exact c2
              refine ⟨.string (bytesOf m).data.toList :: la, .string (bytesOf n).data.toList :: lb, by simp [litsOf, e1, h5], by simp [litsOf, e2, h6], ?_⟩
              rw [eqL_eq, Bool.and_eq_true, h7, bytesOf_toList, bytesOf_toList]
              simp only [decide_eq_true_eq, List.cons.injEq, Lit.string.injEq]
              constructor
              · rintro ⟨rfl, rfl⟩; exact ⟨rfl, rfl⟩
              · rintro ⟨e, rfl⟩; exact ⟨bytesOf_inj hm hn e, rfl⟩
            | _ => cases h
          | _ => cases h

theorem snd_eqv {op : BinOp} {neg : Bool} {t : TypeId} {x y : Operand} {ks : List Kd} (hf : flatT P 6 t = some ks) (hm : P.eqGuardType P.depth t = false) (hagg : aggSize P t ≠ some none) (hop : op = if neg then .neq else .eql)
    {a b : AVal} {u v : Value} (ha : Rel E a u) (hb : Rel E b v) {r : AVal} (hv : vEqv cm neg ks a b = some r) :
    ∃ z, (do eqGuard op t x y u v; binOp op t u v : Sem Value).run P w = .ok z w ∧ Rel E r z := by
  cases ha with
  | agg as xs h1 =>
    cases hb with
    | agg bs ys h2 =>
      unfold vEqv at hv
      dsimp only at hv
      cases he : eqCells cm ks as bs with
      | none => rw [he] at hv; cases hv
      | some q =>
        rw [he] at hv
        cases hv
        obtain ⟨la, lb, h3, h4, h5⟩ := eqCells_rel h1 h2 he
        obtain ⟨i1, i2, i3⟩ := flatT_key 6 t ks hf
        have formed : ∀ zs : Array Value, zs.toList.length = ks.length → (Value.agg zs).formed P t = true := by
          intro zs hz
          have hsz : zs.size = P.cellsOf t := by rw [cellsOf_of_size i2, ← hz]; simp
          have hagg' : (∃ fs, P.underlying t = some (.struct fs)) ∨ ∃ n e, P.underlying t = some (.array n e) := by
            cases hu : P.underlying t with
            | none => simp [Program.keyTypeAt, hu] at i1
            | some td =>
              cases td with
              | struct fs => exact .inl ⟨fs, rfl⟩
              | array n e => exact .inr ⟨n, e, rfl⟩
              | _ =>
                obtain ⟨i, hi⟩ := und_info hu
                exact absurd (by simp [aggSize, hi, hu]) hagg
          rcases hagg' with ⟨fs, hu⟩ | ⟨n, e, hu⟩ <;> simp [Value.formed, hu, hsz]
        have hdeep := run_equalIn_deep (P := P) (9994) 6 t i1
        obtain ⟨q', h6, h7⟩ := hdeep w 6 6 (.agg xs) (.agg ys) la lb (formed xs (litsOf_length h3).1) (formed ys (litsOf_length h4).1) (i3 _ _ h3) (i3 _ _ h4)
        have hq : q' = q := by rw [Bool.eq_iff_iff, h7, h5]
        subst hq
        subst hop
        cases neg
        · refine ⟨.bool q', ?_, .bool _⟩
          simp only [Sem.run_bind, run_eqGuard_agg w _ t x y xs ys hm, Result.andThen, Bool.false_eq_true, if_false, run_eql_struct w]
          rw [show (10000 : Nat) = 9994 + 6 from rfl, h6]
        · refine ⟨.bool (!q'), ?_, by rw [sel_true, notB_eq]; exact .bool _⟩
          simp only [Sem.run_bind, run_eqGuard_agg w _ t x y xs ys hm, Result.andThen, if_true, run_neq_struct w]
          rw [show (10000 : Nat) = 9994 + 6 from rfl, h6]
    | _ => cases hv
  | _ => cases hv
end
end Go.Am
