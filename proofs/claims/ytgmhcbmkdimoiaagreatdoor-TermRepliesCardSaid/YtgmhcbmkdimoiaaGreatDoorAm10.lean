/-
  The abstract machine, part 10: the operations that only read, the last lot. No conditions.
-/
import Derived.Test.YtgmhcbmkdimoiaaGreatDoorAm9
namespace Go.Am
section
variable {P : Program} {E : Env} {T : Tm} {h : Hp} {nx : Nat} {w : World} {cm : Bool}

theorem findI_cons (cm : Bool) (k : IntKind) (x : Int) (e : AVal × AVal × Nat) (es : List (AVal × AVal × Nat)) : findI cm k x (e :: es) = (match e with
      | (.int k' y, v, _) => sel (eqK k k') (sel (eqM cm x y) (some (some v)) (findI cm k x es)) none
      | _ => none) := rfl

def FoundRel (E : Env) (a : Option AVal) (b : Option (Nat × Value)) : Prop := match a, b with | none, none => True | some v, some (_, u) => Rel E v u | _, _ => False

theorem findNow_rel {kk k : IntKind} {x : Int} {es : List (AVal × AVal × Nat)} {mes : List MapEntry} (hr : RelE E es mes) {res : Option AVal} (hf : findI cm k x es = some res) :
    ∀ i, ∃ r, Instr.findNow (.int kk) (.int k x) mes i = some r ∧ FoundRel E res r := by
  induction hr with
  | nil => intro i; cases hf; exact ⟨none, rfl, trivial⟩
  | cons a b n u v l m h1 h2 _ ih =>
    intro i
    rw [findI_cons] at hf
    cases h1 with
    | int k' y =>
      dsimp only at hf
      rw [eqK_eq, sel_decide, eqM_eq, sel_eq] at hf
      split at hf
      · rename_i e
        subst e
        by_cases hxy : (x == y) = true
        · rw [if_pos hxy] at hf
          cases hf
          exact ⟨some (i, v), by simp [Instr.findNow, Instr.sameNow, hxy], h2⟩
        · rw [if_neg hxy] at hf
          obtain ⟨r, h3, h4⟩ := ih hf (i + 1)
          refine ⟨r, ?_, h4⟩
          have : (x == y) = false := by simpa using hxy
          simp [Instr.findNow, Instr.sameNow, this, h3]
      · cases hf
    | _ => cases hf

theorem run_checkKey_int {t : TypeId} {kk : IntKind} (hu : P.underlying t = some (.int kk)) (e : Bool) (v : Value) : (Instr.checkKey e 10000 t v).run P w = .ok () w := by
  show (Instr.checkKey e (9999 + 1) t v).run P w = _
  generalize (9999 : Nat) = d
  unfold Instr.checkKey
  simp only [Sem.run_bind, run_und w hu, Result.andThen]
  cases v <;> rfl

theorem run_lk (hs : HSat E h nx w) {t kt et : TypeId} {kk : IntKind} {z : AVal} (hu : P.underlying t = some (.map kt et)) (hk : P.underlying kt = some (.int kk)) (hz : zero? P et = some z) {ok : Bool}
    {a b : AVal} {x y : Value} (ha : Rel E a x) (hb : Rel E b y) {v : AVal} (hv : vLk cm h z ok a b = some v) : ∃ r, (Instr.lookup t x y ok).run P w = .ok r w ∧ Rel E v r := by
  obtain ⟨zv, hzv, hzr, _⟩ := zero_rel (w := w) hz E
  have fin : ∀ (u : AVal) (q : Value) (f : Bool), Rel E u q → Rel E (okV ok u f) (if ok then .tuple #[q, .bool f] else q) := by
    intro u q f hq
    cases ok
    · exact hq
    · exact .tup _ _ (.cons _ _ _ _ hq (.cons _ _ _ _ (.bool _) .nil))
  cases ha with
  | nilm =>
    cases hb with
    | int k i =>
      cases hv
      refine ⟨_, ?_, fin z zv false hzr⟩
      simp [Instr.lookup, run_und w hu, run_checkKey_int hk, Instr.findKey, run_und w hk, Instr.findNow, hzv]
    | _ => cases hv
  | map n r hr =>
    cases hb with
    | int k i =>
      unfold vLk at hv
      dsimp only at hv
      split at hv
      · rename_i es c hn
        obtain ⟨mes, h1, h2⟩ := map_obj hs hn hr
        cases hf : findI cm k i es with
        | none => rw [hf] at hv; cases hv
        | some res =>
          rw [hf] at hv
          obtain ⟨q, h3, h4⟩ := findNow_rel (kk := kk) h2 hf 0
          have hg : (getObj r.b).run P w = .ok (.map mes c) w := run_getObj h1 (by intros; simp)
          have hfk : (Instr.findKey kt (.int k i) mes.toList).run P w = .ok q w := by
            simp only [Instr.findKey, Sem.run_bind, run_und w hk, Result.andThen, h3]
            rfl
          cases res with
          | none =>
            cases q with
            | some q => exact h4.elim
            | none =>
              cases hv
              refine ⟨_, ?_, fin z zv false hzr⟩
              simp [Instr.lookup, run_und w hu, hg, run_checkKey_int hk, hfk, hzv]
          | some u =>
            cases q with
            | none => exact h4.elim
            | some q =>
              obtain ⟨j, q⟩ := q
              cases hv
              refine ⟨_, ?_, fin u q true h4⟩
              simp [Instr.lookup, run_und w hu, hg, run_checkKey_int hk, hfk]
      · cases hv
    | _ => cases hv
  | _ => cases hv

theorem findB_cons (b : Nat) (e : AVal × AVal × Nat) (es : List (AVal × AVal × Nat)) : findB b (e :: es) = (match e with | (a, v, b') => sel (Nat.beq b' b) (some (.tup [a, v])) (findB b es)) := rfl

theorem findB_rel {b : Nat} {es : List (AVal × AVal × Nat)} {mes : List MapEntry} (hr : RelE E es mes) {v : AVal} (hf : findB b es = some v) : ∃ e, mes.find? (·.born == b) = some e ∧ Rel E v (.tuple #[e.key, e.val]) := by
  induction hr with
  | nil => cases hf
  | cons a c n u q l m h1 h2 _ ih =>
    rw [findB_cons] at hf
    dsimp only at hf
    rw [sel_beq] at hf
    split at hf
    · rename_i e
      cases hf
      exact ⟨⟨u, q, n⟩, by simp [e], .tup _ _ (.cons _ _ _ _ h1 (.cons _ _ _ _ h2 .nil))⟩
    · rename_i e
      obtain ⟨x, h3, h4⟩ := ih hf
      have e' : (n == b) = false := by simpa using e
      exact ⟨x, by rw [List.find?_cons]; simp [e', h3], h4⟩

theorem run_ent (hs : HSat E h nx w) {a : AVal} {x : Value} (ha : Rel E a x) {v : AVal} (hv : vEnt h a = some v) : ∃ r, (Instr.entry x).run P w = .ok r w ∧ Rel E v r := by
  cases ha with
  | ptr n off r hr =>
    cases off with
    | succ off => cases hv
    | zero =>
      unfold vEnt at hv
      split at hv
      · rename_i n' heq
        cases heq
        split at hv
        · rename_i m since b rest stepped hn
          split at hv
          · rename_i es clock hm
            obtain ⟨h0, hv⟩ := sel_some hv
            rw [beq_eq] at h0
            obtain ⟨hd, mo, sn, h1, h2, h3⟩ := hs.obj n _ _ hn hr
            obtain ⟨r', hr', rfl⟩ := h3
            obtain ⟨mes, h4, h5⟩ := map_obj hs hm hr'
            obtain ⟨e, h6, h7⟩ := findB_rel h5 hv
            have hg1 : (getObj r.b).run P w = .ok (.mapIter (some r'.b) since sn stepped) w := run_getObj h1 (by intros; simp)
            have hg2 : (getObj r'.b).run P w = .ok (.map mes clock) w := run_getObj h4 (by intros; simp)
            have hback : sn.back? = some b := by
              rw [← Array.getLast?_toList, h2]
              simp
            have hcl : clock = stepped := by simpa using h0
            subst hcl
            have hfind : mes.find? (fun e => e.born == b) = some e := by rw [← Array.find?_toList]; exact h6
            refine ⟨_, ?_, h7⟩
            rw [hd]
            simp [Instr.entry, hg1, hg2, hback, hfind]
          · cases hv
        · cases hv
      · cases hv
  | _ => cases hv

theorem vMm_aux {f : Int → Int → Int} {k : IntKind} {m2 : Value → Value → Sem Value} (hm : ∀ (a b : Int) (k' : IntKind) (w : World), (m2 (.int k a) (.int k' b)).run P w = .ok (.int k (f a b)) w) :
    ∀ (l : List AVal) (m : List Value) (a : Int) (v : AVal), RelL E l m →
      List.rec (motive := fun _ => Int → Option AVal) (fun a => some (.int k a)) (fun y _ ih a => match y with | .int _ b => ih (f a b) | _ => none) l a = some v →
      ∃ z, (m.foldlM m2 (.int k a)).run P w = .ok z w ∧ Rel E v z := by
  intro l
  induction l with
  | nil => intro m a v hr hv; cases hr; cases hv; exact ⟨_, rfl, .int _ _⟩
  | cons y l ih =>
    intro m a v hr hv
    cases hr with
    | cons _ u _ m h1 h2 =>
      cases h1 with
      | int k' b =>
        obtain ⟨z, h3, h4⟩ := ih m (f a b) v h2 hv
        refine ⟨z, ?_, h4⟩
        simp only [List.foldlM_cons, Sem.run_bind, hm, Result.andThen]
        exact h3
      | _ => cases hv

theorem run_mn {ts : Array TypeId} {ty : TypeId} {l : List AVal} {m : Array Value} (hr : RelL E l m.toList) {v : AVal} (hv : vMm (fun a b => sel (ltM cm b a) b a) l = some v) : ∃ z, (Builtin.min_ ts ty m).run P w = .ok z w ∧ Rel E v z := by
  unfold Builtin.min_
  cases l with
  | nil => cases hv
  | cons x l =>
    generalize m.toList = mm at hr
    cases hr with
    | cons _ u _ mm h1 h2 =>
      cases h1 with
      | int k a =>
        refine vMm_aux (P := P) (m2 := Builtin.min2) ?_ l mm a v h2 hv
        intro a b k' w
        simp only [ltM_eq, sel_decide]
        rfl
      | _ => cases hv

theorem run_mx {ts : Array TypeId} {ty : TypeId} {l : List AVal} {m : Array Value} (hr : RelL E l m.toList) {v : AVal} (hv : vMm (fun a b => sel (ltM cm a b) b a) l = some v) : ∃ z, (Builtin.max_ ts ty m).run P w = .ok z w ∧ Rel E v z := by
  unfold Builtin.max_
  cases l with
  | nil => cases hv
  | cons x l =>
    generalize m.toList = mm at hr
    cases hr with
    | cons _ u _ mm h1 h2 =>
      cases h1 with
      | int k a =>
        refine vMm_aux (P := P) (m2 := Builtin.max2) ?_ l mm a v h2 hv
        intro a b k' w
        simp only [ltM_eq, sel_decide]
        rfl
      | _ => cases hv
end
end Go.Am
