/-
  The abstract machine, part 20: code. No conditions but that calls do, and regions that are drawn.
-/
import Derived.Test.YtgmhcbmkdimoiaaGreatDoorAm19
import Derived.Scope
namespace Go.Am
section
variable {P : Program} {E : Env} {T : Tm} {h : Hp} {nx : Nat} {w : World} {cm : Bool} {C : CallT}

structure TRel (E : Env) (nt : Nat) (T : Tm) (a : Act) : Prop where
  vals : ∀ t, Rel E (tget T t) (a.tmps.getD t undef)
  size : a.tmps.size = nt
  defers : a.defers = []

theorem TRel.mono {E E' : Env} {nt : Nat} {a : Act} (hx : Ext E E') (h : TRel E nt T a) : TRel E' nt T a := ⟨fun t => (h.vals t).mono hx, h.size, h.defers⟩

theorem TRel.opd {nt : Nat} {a : Act} (h : TRel E nt T a) : OpdRel E T a.eval := by
  intro x y hc
  cases x with
  | tmp t => cases hc; exact h.vals t
  | const v =>
    obtain ⟨z, hz, rfl⟩ := map_some' hc
    exact aOf_rel E _ _ _ hz
  | func f => cases hc; exact .fn f [] [] #[] #[] .nil .nil
  | global g => cases hc

theorem getD_set (a : Array Value) (d t : Nat) (v u : Value) : (a.setIfInBounds d v).getD t u = if t = d ∧ d < a.size then v else a.getD t u := by
  rw [Array.getD_eq_getD_getElem?, Array.getD_eq_getD_getElem?, Array.getElem?_setIfInBounds]
  by_cases h1 : d = t
  · subst h1
    by_cases h2 : d < a.size
    · simp [h2]
    · simp [h2]
  · rw [if_neg h1, if_neg (by rintro ⟨rfl, _⟩; exact h1 rfl)]

theorem TRel.set {nt : Nat} {a : Act} (h : TRel E nt T a) {d : Nat} {x : AVal} {v : Value} (hv : Rel E x v) (hd : d < nt ∨ (x = .tup [] ∧ v = undef)) : TRel E nt (Tr.set x T (Nat.succ d)) (a.put (some d) v) := by
  refine ⟨fun t => ?_, by simp [Act.put, h.size], h.defers⟩
  rw [tget_tset]
  show Rel E _ ((a.tmps.setIfInBounds d v).getD t undef)
  rw [getD_set]
  by_cases h1 : t = d
  · subst h1
    rw [if_pos rfl]
    by_cases h2 : t < a.tmps.size
    · rw [if_pos ⟨rfl, h2⟩]; exact hv
    · rw [if_neg (by rintro ⟨_, h3⟩; exact h2 h3)]
      rcases hd with hd | ⟨rfl, rfl⟩
      · rw [h.size] at h2; exact absurd hd h2
      · have : a.tmps.getD t undef = undef := by
          rw [Array.getD_eq_getD_getElem?, Array.getElem?_eq_none (by omega)]
          rfl
        rw [this]
        exact rel_undef E
  · rw [if_neg h1, if_neg (by rintro ⟨h2, _⟩; exact h1 h2)]
    exact h.vals t

theorem TRel.put {nt : Nat} {a : Act} (h : TRel E nt T a) {d : Option Nat} {x : AVal} {v : Value} (hv : Rel E x v) (hd : (∀ i, d = some i → i < nt) ∨ (x = .tup [] ∧ v = undef)) {k : Tm → Prop} (hk : dstk T d x k) :
    ∃ T', TRel E nt T' (a.put d v) ∧ k T' := by
  cases d with
  | none => exact ⟨T, h, hk⟩
  | some i =>
    have hk : tset T i x k := hk
    rw [tset_k] at hk
    exact ⟨_, h.set hv (hd.imp (fun h => h i rfl) id), hk⟩

/-- Is an operation wanted: as its guard says. -/
theorem wanted_snd {nt : Nat} {a : Act} (h : TRel E nt T a) {ops : Array Oper} {o : Oper} {t : Nat} {b : Bool} {j : Nat} (ho : o.guard = some (j, b)) (hj : (ops[j]?).bind (·.dst) = some t) {y n : Prop} (hk : wantedk T (some (t, b)) y n) :
    (Region.wanted o (yielded ops a.tmps) = true ∧ y) ∨ (Region.wanted o (yielded ops a.tmps) = false ∧ n) := by
  have hv := h.vals t
  have hy : yielded ops a.tmps j = (match a.tmps.getD t undef with | .bool b => some b | _ => none) := by
    unfold yielded
    rw [hj]
    show (match a.tmps[t]? with | some (.bool b) => some b | _ => none) = _
    rw [Array.getD_eq_getD_getElem?]
    cases ht : a.tmps[t]? with
    | none => simp [undef]
    | some v => cases v <;> rfl
  have hw : Region.wanted o (yielded ops a.tmps) = (yielded ops a.tmps j == some b) := by unfold Region.wanted; rw [ho]
  rw [hw, hy]
  unfold wantedk at hk
  dsimp only at hk
  generalize a.tmps.getD t undef = v at hv
  generalize tget T t = x at hv hk
  cases hv with
  | bool c =>
    dsimp only at hk ⊢
    cases c <;> cases b <;> simp [sel_true, sel_false] at hk ⊢ <;> exact hk
  | tok => exact hk.elim
  | _ => right; exact ⟨by simp, hk⟩

def exOf : Ex → Exit
  | .n => .normal
  | .x id => .exit id
  | .r => .ret

/-- What is to hold where the told holds. -/
def Post (nt : Nat) (E : Env) (h : Hp) (nx : Nat) (w : World) (k : CK) (Q : Exit → Act → World → Prop) : Prop :=
  ∀ e T' h' nx' E' a' w', HSat E' h' nx' w' → TRel E' nt T' a' → Goes E h nx w E' h' nx' w' → k e T' h' nx' → Q (exOf e) a' w'

theorem Post.next {nt : Nat} {k : CK} {Q : Exit → Act → World → Prop} {E' : Env} {h' : Hp} {nx' : Nat} {w' : World} (hp : Post nt E h nx w k Q) (g : Goes E h nx w E' h' nx' w') : Post nt E' h' nx' w' k Q :=
  fun e T' h'' nx'' E'' a' w'' q1 q2 q3 q4 => hp e T' h'' nx'' E'' a' w'' q1 q2 (g.next q3) q4

/-- From what an operation does to what is to hold behind it. -/
theorem oper_wp {o : Oper} {a : Act} {k : HK} {next : Act → World → Prop} {Q : Exit → Act → World → Prop} (hd : Does P ((execOp a.eval o).run P w) E h nx w k)
    (hn : ∀ y w' E' x h' nx', Rel E' x y → HSat E' h' nx' w' → Goes E h nx w E' h' nx' w' → k x h' nx' → next (a.put o.dst y) w') : o.wp P a w next Q := by
  unfold Oper.wp
  rcases hd with ⟨y, w', E', x, h', nx', hr, h2, h3, h4, h5⟩ | ⟨f, args, hr, hret⟩
  · rcases hr with hr | ⟨hr, rfl⟩
    · rw [hr]; exact hn y w' E' x h' nx' h2 h3 h4 h5
    · rw [hr]; exact hn _ w' E' x h' nx' h2 h3 h4 h5
  · rw [hr]
    rw [Oper.upon_enter]
    refine Calls.mono hret ?_
    rintro e w' ⟨y, x, E', h', nx', rfl, h2, h3, h4, h5⟩
    exact hn y w' E' x h' nx' h2 h3 h4 h5

theorem regk_cons (o : AOper) (l : List AOper) (T : Tm) (h : Hp) (nx : Nat) (k : CK) : regk cm C (o :: l) T h nx k = wantedk T o.guard
      (aop cm C o.op T h nx fun v h nx => dstk T o.dst v fun T => regk cm C l T h nx k)
      (dstk T o.dst (.tup []) fun T => regk cm C l T h nx k) := rfl

/-- What 'cOper' makes. -/
theorem cOper_cases {nt : Nat} (ops : Array Oper) (o : Oper) : (cOper P ops nt o).dst = o.dst ∧
    (((o.guard = none ∧ (cOper P ops nt o).guard = none) ∨ ∃ j b t, o.guard = some (j, b) ∧ (ops[j]?).bind (·.dst) = some t ∧ (cOper P ops nt o).guard = some (t, b)) ∧ (cOp P o.op = some (cOper P ops nt o).op ∧ (∀ d, o.dst = some d → d < nt) ∨ (cOper P ops nt o).op = .bad) ∨
      ((cOper P ops nt o).guard = none ∧ (cOper P ops nt o).op = .bad)) := by
  refine ⟨rfl, ?_⟩
  cases hg : o.guard with
  | none =>
    left
    refine ⟨.inl ⟨rfl, by simp [cOper, hg]⟩, ?_⟩
    cases hdst : o.dst with
    | none =>
      cases hc : cOp P o.op with
      | none => right; simp [cOper, hg, hdst, hc]
      | some ao => left; simp [cOper, hg, hdst, hc]
    | some d =>
      by_cases hd : d < nt
      · cases hc : cOp P o.op with
        | none => right; simp [cOper, hg, hdst, hc]
        | some ao => left; simp [cOper, hg, hdst, hc, hd]
      · right; simp [cOper, hg, hdst, hd]
  | some jb =>
    obtain ⟨j, b⟩ := jb
    cases hj : (ops[j]?).bind (·.dst) with
    | none => right; exact ⟨by simp only [cOper, hg, Option.bind_some, hj, Option.map_none], by simp only [cOper, hg, hj]; simp⟩
    | some t =>
      left
      refine ⟨.inr ⟨j, b, t, rfl, hj, by simp only [cOper, hg, Option.bind_some, hj, Option.map_some]⟩, ?_⟩
      cases hdst : o.dst with
      | none =>
        cases hc : cOp P o.op with
        | none => right; simp only [cOper, hg, hdst, hc, hj]; simp
        | some ao => left; simp only [cOper, hg, hdst, hc, hj]; simp
      | some d =>
        by_cases hd : d < nt
        · cases hc : cOp P o.op with
          | none => right; simp only [cOper, hg, hdst, hc, hj]; simp
          | some ao => left; simp only [cOper, hg, hdst, hc, hj]; simp [hd]
        · right; simp only [cOper, hg, hdst, hj]; simp [hd]

theorem bad_no {k : HK} (hk : aop cm C .bad T h nx k) : False := hk

/-- One operation of a region, wanted or not. -/
theorem oper_one {nt : Nat} (hC : CallOK P C) (hs : HSat E h nx w) {a : Act} (ht : TRel E nt T a) {ops : Array Oper} (o : Oper) {next : Act → World → Prop} {Q : Exit → Act → World → Prop} {K : Tm → Hp → Nat → Prop}
    (hk : wantedk T (cOper P ops nt o).guard (aop cm C (cOper P ops nt o).op T h nx fun v h nx => dstk T (cOper P ops nt o).dst v fun T => K T h nx) (dstk T (cOper P ops nt o).dst (.tup []) fun T => K T h nx))
    (hn : ∀ a' w' E' T' h' nx', HSat E' h' nx' w' → TRel E' nt T' a' → Goes E h nx w E' h' nx' w' → K T' h' nx' → next a' w') :
    if Region.wanted o (yielded ops a.tmps) then o.wp P a w next Q ∨ (o.asks P a w ∧ LetsOut Q) else next (a.put o.dst undef) w := by
  obtain ⟨hdst, hcase⟩ := cOper_cases (P := P) (nt := nt) ops o
  rw [hdst] at hk
  have hyes : (cOp P o.op = some (cOper P ops nt o).op ∧ (∀ d, o.dst = some d → d < nt) ∨ (cOper P ops nt o).op = .bad) → (aop cm C (cOper P ops nt o).op T h nx fun v h nx => dstk T o.dst v fun T => K T h nx) → o.wp P a w next Q := by
    intro hop hk
    rcases hop with ⟨hop, hd⟩ | hop
    · refine oper_wp (aop_sound hC hs ht.opd o hop hk) ?_
      intro y w' E' x h' nx' r1 r2 r3 r4
      obtain ⟨T', q1, q2⟩ := (ht.mono r3.trans.ext).put r1 (.inl hd) r4
      exact hn _ _ _ _ _ _ r2 q1 r3 q2
    · rw [hop] at hk; exact (bad_no hk).elim
  rcases hcase with ⟨hg, hop⟩ | ⟨hg, hop⟩
  · rcases hg with ⟨hg, hg'⟩ | ⟨j, b, t, hg, hj, hg'⟩
    · rw [hg'] at hk
      have hw : Region.wanted o (yielded ops a.tmps) = true := by unfold Region.wanted; rw [hg]
      rw [if_pos hw]
      exact .inl (hyes hop hk)
    · rw [hg'] at hk
      rcases wanted_snd ht hg hj hk with ⟨hw, hk⟩ | ⟨hw, hk⟩
      · rw [if_pos hw]
        exact .inl (hyes hop hk)
      · rw [hw]
        obtain ⟨T', q1, q2⟩ := ht.put (rel_undef E) (.inr ⟨rfl, rfl⟩) hk
        exact hn _ _ _ _ _ _ hs q1 (Goes.refl _ _ _ _) q2
  · rw [hg, hop] at hk
    have hf : False := hk
    exact hf.elim

theorem regk_sound {nt : Nat} (hC : CallOK P C) {ops : Array Oper} {Q : Exit → Act → World → Prop} {k : CK} : ∀ (l : List Oper) (i : Nat) (E : Env) (T : Tm) (h : Hp) (nx : Nat) (w : World) (a : Act), ops.toList.drop i = l → HSat E h nx w → TRel E nt T a →
    regk cm C (l.map (cOper P ops nt)) T h nx k → Post nt E h nx w k Q → wpOps P ops Q (List.range' i l.length) a w
  | [], i, E, T, h, nx, w, a, hl, hs, ht, hk, hp => hp .n T h nx E a w hs ht (Goes.refl _ _ _ _) hk
  | o :: l, i, E, T, h, nx, w, a, hl, hs, ht, hk, hp => by
    have hi : ops[i]? = some o := by
      have := congrArg (·[0]?) hl
      simpa using this
    have hl' : ops.toList.drop (i + 1) = l := by
      rw [← List.drop_drop, hl]
      rfl
    rw [List.map_cons, regk_cons] at hk
    rw [List.length_cons, List.range'_succ, wpOps, hi]
    have := oper_one (Q := Q) hC hs ht o (next := wpOps P ops Q (List.range' (i + 1) l.length)) (K := fun T h nx => regk cm C (l.map (cOper P ops nt)) T h nx k) hk
      (fun a' w' E' T' h' nx' q1 q2 q3 q4 => regk_sound hC l (i + 1) E' T' h' nx' w' a' hl' q1 q2 q4 (hp.next q3))
    exact this

/-- A loop, by its rounds. -/
theorem wp_loop_n {c : Code} {Q : Exit → Act → World → Prop} (I : Nat → Act → World → Prop) (round : ∀ n a w, I n a w → c.wp P (Exit.then (fun a' w' => ∃ m, m < n ∧ I m a' w') Q) a w) :
    ∀ n a w, I n a w → (Code.loop c).wp P Q a w := by
  intro n a w h₀ b k cs
  have key : ∀ n a w, I n a w → ∃ e a' w', Q e a' w' ∧ Arrives P (lone (b.at a (.code c :: .inLoop c :: k)) cs w) b k cs e a' w' := by
    intro n
    induction n using Nat.strongRecOn with
    | _ n ih =>
      intro a w hI
      obtain ⟨e, a₁, w₁, hq, harr⟩ := round n a w hI b (.inLoop c :: k) cs
      have out : ∀ {e : Exit}, e ≠ .normal → Q e a₁ w₁ → Arrives P (lone (b.at a (.code c :: .inLoop c :: k)) cs w) b (.inLoop c :: k) cs e a₁ w₁ →
          ∃ e a' w', Q e a' w' ∧ Arrives P (lone (b.at a (.code c :: .inLoop c :: k)) cs w) b k cs e a' w' := fun {e} hne hq harr => ⟨e, a₁, w₁, hq, .pass (x := .inLoop c) rfl (fun _ _ => .inl hne) harr⟩
      cases e with
      | normal =>
        obtain ⟨m, hm, hI₁⟩ := hq
        obtain ⟨e₂, a₂, w₂, hq₂, harr₂⟩ := ih m hm a₁ w₁ hI₁
        exact ⟨e₂, a₂, w₂, hq₂, .of_steps (Steps.trans harr (.one step_inLoop)) harr₂⟩
      | exit id => exact out (by simp) hq harr
      | goto l => exact out (by simp) hq harr
      | ret => exact out (by simp) hq harr
      | panic ch => exact out (by simp) hq harr
      | outgrown => exact out (by simp) hq harr
  obtain ⟨e, a', w', hq, harr⟩ := key n a w h₀
  exact ⟨e, a', w', hq, .of_steps (.one step_loop) harr⟩
end
end Go.Am
