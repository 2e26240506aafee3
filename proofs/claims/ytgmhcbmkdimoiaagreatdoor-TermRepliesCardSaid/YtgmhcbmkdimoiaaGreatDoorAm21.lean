/-
  The abstract machine, part 21: open regions, in any order. No conditions but that calls do.
-/
import Derived.Test.YtgmhcbmkdimoiaaGreatDoorAm21a
import Derived.Orders
namespace Go.Am

theorem wantedk_cases (T : Tm) (g : Option (Nat × Bool)) : (∀ y n, wantedk T g y n = y) ∨ (∀ y n, wantedk T g y n = n) ∨ (∀ y n, wantedk T g y n = False) := by
  cases g with
  | none => left; intro y n; rfl
  | some tb =>
    obtain ⟨t, b⟩ := tb
    unfold wantedk
    dsimp only
    generalize tget T t = v
    cases v with
    | bool c => cases c <;> cases b <;> first | (left; intro y n; rfl) | (right; left; intro y n; rfl)
    | tok j => right; right; intro y n; rfl
    | _ => right; left; intro y n; rfl

theorem dstk_elim {T : Tm} {d : Option Nat} {x : AVal} {k : Tm → Prop} (hk : dstk T d x k) : ∃ T', (∀ t, tget T' t = if d = some t then x else tget T t) ∧ k T' := by
  cases d with
  | none => exact ⟨T, fun t => by simp, hk⟩
  | some d =>
    have hk : tset T d x k := hk
    rw [tset_k] at hk
    refine ⟨_, fun t => ?_, hk⟩
    rw [tget_tset]
    by_cases h : t = d
    · subst h; simp
    · rw [if_neg h, if_neg (by rintro ⟨⟩; exact h rfl)]

theorem HSat.ghost {E : Env} {h : Hp} {nx : Nat} {w : World} (hs : HSat E h nx w) {n : Nat} (hn : E n = none) (o : AObj) : HSat E (Tr.set o h (Nat.succ n)) nx w := by
  refine ⟨hs.fresh, fun m x r hm hr => ?_, fun a b x y ra rb ha hb hab hx hra hrb => ?_⟩
  · rw [hget_hset] at hm
    split at hm
    · rename_i e; subst e; rw [hn] at hr; cases hr
    · exact hs.obj m x r hm hr
  · rw [hget_hset] at ha hb
    split at ha
    · rename_i e; subst e; rw [hn] at hra; cases hra
    · split at hb
      · rename_i e; subst e; rw [hn] at hrb; cases hrb
      · exact hs.apart a b x y ra rb ha hb hab hx hra hrb

theorem FP.ghost {E : Env} {h : Hp} {n : Nat} (hn : E n = none) {o : AObj} {b : Nat} (hf : FP E (Tr.set o h (Nat.succ n)) b) : FP E h b := by
  obtain ⟨m, x, r, h1, h2, h3, h4⟩ := hf
  rw [hget_hset] at h1
  split at h1
  · rename_i e; subst e; rw [hn] at h3; cases h3
  · exact ⟨m, x, r, h1, h2, h3, h4⟩

theorem Goes.tail {E0 E E' : Env} {h0 h h' : Hp} {n0 nx nx' : Nat} {w0 w w' : World} (g : Goes E0 h0 n0 w0 E h nx w) (t : Trans E h w E' h' w') (hle : nx ≤ nx') (hsame : ∀ m, m < n0 → E' m = E m) (hgh : ∀ m, m < n0 → E0 m = none → hget h' m = hget h m) :
    Goes E0 h0 n0 w0 E' h' nx' w' :=
  ⟨g.trans.trans t, Nat.le_trans g.le hle, fun m hm => (hsame m hm).trans (g.same m hm), fun m hm he => (hgh m hm he).trans (g.ghost m hm he)⟩

section
variable {P : Program} {cm : Bool} {C : CallT} {nt n0 : Nat} {ops : Array Oper} {pre cl : List (List Nat)} {A : Nat → AOper}

/-- What is known of an open region as it stands. -/
structure Stat (P : Program) (nt : Nat) (ops : Array Oper) (pre cl : List (List Nat)) (A : Nat → AOper) : Prop where
  op : ∀ i o, ops[i]? = some o → A i = cOper P ops nt o
  edge : ∀ i o, ops[i]? = some o → ∀ j, j ∈ pre.getD i [] ↔ ∃ e ∈ o.after, Region.binds .any e = true ∧ e.on = j
  lt : ∀ i, i < ops.size → ∀ j ∈ pre.getD i [], j < i
  clo : ∀ i, i < ops.size → ∀ j, bef cl j i = true → j ∈ pre.getD i [] ∨ ∃ m ∈ pre.getD i [], bef cl j m = true
  dst : ∀ i j, i < ops.size → j < ops.size → i ≠ j → ∀ d, (A i).dst = some d → (A j).dst ≠ some d
  use : ∀ i j, i < ops.size → j < ops.size → ∀ d, (A j).dst = some d → d ∈ (A i).names → i ≠ j ∧ (bef cl j i = true ∨ (bef cl i j = true ∧ ((A i).op.writes = true ∨ (A j).op.writes = true)))

theorem Stat.down (S : Stat P nt ops pre cl A) {p : Nat → Prop} (hp : ∀ i, p i → ∀ j ∈ pre.getD i [], p j) : ∀ i, i < ops.size → (∀ j ∈ pre.getD i [], p j) → ∀ j, bef cl j i = true → p j := by
  intro i
  induction i using Nat.strongRecOn with
  | _ i ih =>
    intro hi hpre j hj
    rcases S.clo i hi j hj with h | ⟨m, hm, h⟩
    · exact hpre j h
    · have hlt := S.lt i hi m hm
      exact ih m hlt (Nat.lt_trans hlt hi) (hp m (hpre m hm)) j h

/-- What is known of an operation that has been told and has not been run. -/
def Fact (cm : Bool) (n0 : Nat) (A : Nat → AOper) (j : Nat) (T : Tm) (h : Hp) : Prop :=
  ∃ x, (∀ d, (A j).dst = some d → tget T d = x) ∧ wantedk T (A j).guard (if (A j).op.floats = true then ∃ ob, flv (A j).op T (n0 + j) = some (x, ob) ∧ hget h (n0 + j) = some ob else rd cm (A j).op T h = some x) (x = .tup [])
def Weak (A : Nat → AOper) (j : Nat) (T : Tm) : Prop := ∃ x, (∀ d, (A j).dst = some d → tget T d = x) ∧ wantedk T (A j).guard True (x = .tup [])

theorem Fact.weak {j : Nat} {T : Tm} {h : Hp} (f : Fact cm n0 A j T h) : Weak A j T :=
  let ⟨x, h1, h2⟩ := f
  ⟨x, h1, wantedk_mono h2 (fun _ => trivial) id⟩

theorem names_op {o : AOper} {T T' : Tm} (hT : ∀ t ∈ o.names, tget T t = tget T' t) : ∀ t ∈ o.op.tmps, tget T t = tget T' t := fun t ht => hT t (List.mem_append_left _ ht)
theorem names_guard {o : AOper} {T T' : Tm} (hT : ∀ t ∈ o.names, tget T t = tget T' t) : ∀ t b, o.guard = some (t, b) → tget T t = tget T' t := fun t b hg => hT t (List.mem_append_right _ (by rw [hg]; exact List.mem_singleton.2 rfl))

theorem Weak.congr {j : Nat} {T T' : Tm} (f : Weak A j T) (hn : ∀ t ∈ (A j).names, tget T t = tget T' t) (hd : ∀ d, (A j).dst = some d → tget T d = tget T' d) : Weak A j T' := by
  obtain ⟨x, h1, h2⟩ := f
  refine ⟨x, fun d hd' => (hd d hd').symm.trans (h1 d hd'), ?_⟩
  rwa [← wantedk_congr (names_guard hn)]

theorem Fact.congr {j : Nat} {T T' : Tm} {h h' : Hp} (f : Fact cm n0 A j T h) (hn : ∀ t ∈ (A j).names, tget T t = tget T' t) (hd : ∀ d, (A j).dst = some d → tget T d = tget T' d)
    (hh : (A j).op.floats = true → hget h' (n0 + j) = hget h (n0 + j)) (hl : (A j).op.looks = false ∨ h' = h) : Fact cm n0 A j T' h' := by
  obtain ⟨x, h1, h2⟩ := f
  refine ⟨x, fun d hd' => (hd d hd').symm.trans (h1 d hd'), ?_⟩
  rw [← wantedk_congr (names_guard hn)]
  refine wantedk_mono h2 (fun h3 => ?_) id
  split at h3
  · rename_i hf
    rw [if_pos hf, hh hf, ← flv_congr (names_op hn)]
    exact h3
  · rename_i hf
    rw [if_neg hf, ← rd_congr (names_op hn)]
    rcases hl with hl | rfl
    · rw [rd_heap hl h' h]; exact h3
    · exact h3

/-- Where the told and the run stand. -/
structure St (P : Program) (cm : Bool) (nt n0 : Nat) (ops : Array Oper) (pre : List (List Nat)) (A : Nat → AOper) (E0 : Env) (h0 : Hp) (w0 : World) (L : Nat → Bool) (pr : List Nat) (E : Env) (T T' : Tm) (h : Hp) (nx : Nat) (a : Act) (w : World) : Prop where
  hs : HSat E h nx w
  ht : TRel E nt T' a
  hg : Goes E0 h0 n0 w0 E h nx w
  hnx : n0 + ops.size ≤ nx
  res : ∀ i, i < ops.size → L i = false → E (n0 + i) = none
  sub : ∀ i, L i = true → i ∈ pr
  wr : ∀ i ∈ pr, (A i).op.writes = true → L i = true
  lt : ∀ i ∈ pr, i < ops.size
  closed : ∀ i ∈ pr, ∀ j ∈ pre.getD i [], j ∈ pr
  lclosed : ∀ i, L i = true → ∀ j ∈ pre.getD i [], L j = true
  agree : ∀ t, (∀ j ∈ pr, L j = false → (A j).dst ≠ some t) → tget T' t = tget T t
  weak : ∀ j ∈ pr, L j = false → Weak A j T
  fact : ∀ j ∈ pr, L j = false → (A j).op.looks = false → Fact cm n0 A j T h

variable {E0 : Env} {h0 : Hp} {w0 : World} {L : Nat → Bool} {pr : List Nat} {E : Env} {T T' : Tm} {h : Hp} {nx : Nat} {a : Act} {w : World} {k : CK}

theorem dregk_cons (o : AOper) (i : Nat) (r : List (AOper × Nat)) : dregk cm C n0 ((o, i) :: r) T h nx k = wantedk T o.guard
          (sel o.op.writes
            (aop cm C o.op T h nx fun v h nx => dstk T o.dst v fun T => dregk cm C n0 r T h nx k)
            (sel o.op.floats (fN (Nat.add n0 (Nat.sub i 2)) fun n => flk o.op T h n fun v h => dstk T o.dst v fun T => dregk cm C n0 r T h nx k)
              (Option.rec (motive := fun _ => Prop) False (fun v => sel (Nat.beq i 1) (again1 cm T o.dst v (dregk cm C n0 r T h nx k)) (gV cm o.op v fun v => dstk T o.dst v fun T => dregk cm C n0 r T h nx k)) (rd cm o.op T h))))
          (sel (Nat.beq i 1) (dregk cm C n0 r T h nx k) (dstk T o.dst (.tup []) fun T => dregk cm C n0 r T h nx k)) := rfl

/-- One operation that does not write is told. -/
theorem adv_op (S : Stat P nt ops pre cl A) (st : St P cm nt n0 ops pre A E0 h0 w0 L pr E T T' h nx a w) {i c : Nat} (hi : i < ops.size) (hnp : i ∉ pr) (hw : (A i).op.writes = false) (hpre : ∀ m ∈ pre.getD i [], m ∈ pr)
    (hc : c = if (A i).op.floats = true then i + 2 else 0) {r : List (AOper × Nat)} (hD : dregk cm C n0 ((A i, c) :: r) T h nx k) :
    ∃ T2 h2, St P cm nt n0 ops pre A E0 h0 w0 L (i :: pr) E T2 T' h2 nx a w ∧ dregk cm C n0 r T2 h2 nx k := by
  have hLi : L i = false := by
    cases hL : L i with
    | false => rfl
    | true => exact absurd (st.sub i hL) hnp
  have hEi : E (n0 + i) = none := st.res i hi hLi
  have hself : ∀ d, (A i).dst = some d → d ∉ (A i).names := fun d hd hn => (S.use i i hi hi d hd hn).1 rfl
  -- what is told
  have key : ∃ x T2 h2, (∀ t, tget T2 t = if (A i).dst = some t then x else tget T t) ∧ dregk cm C n0 r T2 h2 nx k ∧ (h2 = h ∨ ((A i).op.floats = true ∧ ∃ ob, h2 = Tr.set ob h (Nat.succ (n0 + i)))) ∧
      wantedk T (A i).guard (if (A i).op.floats = true then ∃ ob, flv (A i).op T (n0 + i) = some (x, ob) ∧ hget h2 (n0 + i) = some ob else rd cm (A i).op T h = some x ∧ h2 = h) (x = .tup []) := by
    rw [dregk_cons] at hD
    rcases wantedk_cases T (A i).guard with hg | hg | hg
    case inr.inr => rw [hg] at hD; exact hD.elim
    · rw [hg] at hD
      rw [hw, sel_false] at hD
      cases hf : (A i).op.floats with
      | true =>
        rw [hf] at hc hD
        simp only [if_true] at hc
        subst hc
        rw [sel_true, fN_eq] at hD
        obtain ⟨v, ob, h1, h2⟩ := flk_flv hD
        have hn : Nat.add n0 (Nat.sub (i + 2) 2) = n0 + i := by show n0 + (i + 2 - 2) = _; omega
        rw [hn] at h1 h2
        obtain ⟨T2, h3, h4⟩ := dstk_elim h2
        refine ⟨v, T2, _, h3, h4, .inr ⟨rfl, ob, rfl⟩, ?_⟩
        rw [hg, if_pos rfl]
        exact ⟨ob, h1, by rw [hget_hset, if_pos rfl]⟩
      | false =>
        rw [hf] at hc hD
        have hc : c = 0 := by simpa using hc
        subst hc
        rw [sel_false] at hD
        cases hr : rd cm (A i).op T h with
        | none => rw [hr] at hD; exact hD.elim
        | some v =>
          rw [hr] at hD
          have hD : gV cm (A i).op v (fun v => dstk T (A i).dst v fun T => dregk cm C n0 r T h nx k) := hD
          rw [gV_eq] at hD
          obtain ⟨T2, h3, h4⟩ := dstk_elim hD
          refine ⟨v, T2, h, h3, h4, .inl rfl, ?_⟩
          rw [hg, if_neg (by simp)]
          exact ⟨rfl, rfl⟩
    · rw [hg] at hD
      have hc1 : c ≠ 1 := by
        rw [hc]
        split <;> omega
      have : Nat.beq c 1 = false := by rw [beq_eq]; simpa using hc1
      rw [this, sel_false] at hD
      obtain ⟨T2, h3, h4⟩ := dstk_elim hD
      refine ⟨.tup [], T2, h, h3, h4, .inl rfl, ?_⟩
      rw [hg]
  obtain ⟨x, T2, h2, hT2, hD2, hh, hx⟩ := key
  have hheap : ∀ m, m ≠ n0 + i → hget h2 m = hget h m := by
    intro m hm
    rcases hh with rfl | ⟨_, ob, rfl⟩
    · rfl
    · rw [hget_hset, if_neg hm]
  -- others stay
  have hother : ∀ j ∈ pr, L j = false → (∀ t ∈ (A j).names, tget T t = tget T2 t) ∧ (∀ d, (A j).dst = some d → tget T d = tget T2 d) := by
    intro j hj hLj
    have hjs := st.lt j hj
    have hne : i ≠ j := fun e => hnp (e ▸ hj)
    have hjw : (A j).op.writes = false := by
      cases hjw : (A j).op.writes with
      | false => rfl
      | true => rw [st.wr j hj hjw] at hLj; cases hLj
    refine ⟨fun t ht => ?_, fun d hd => ?_⟩
    · rw [hT2, if_neg]
      intro hdi
      obtain ⟨_, hb | ⟨_, hb⟩⟩ := S.use j i hjs hi t hdi ht
      · exact hnp (S.down (p := (· ∈ pr)) st.closed j hjs (st.closed j hj) i hb)
      · rcases hb with hb | hb
        · rw [hjw] at hb; cases hb
        · rw [hw] at hb; cases hb
    · rw [hT2, if_neg]
      intro hdi
      exact S.dst i j hi hjs hne d hdi hd
  have hnames : ∀ t ∈ (A i).names, tget T t = tget T2 t := fun t ht => by
    rw [hT2, if_neg]
    intro hdi
    exact hself t hdi ht
  have hdi : ∀ d, (A i).dst = some d → tget T2 d = x := fun d hd => by rw [hT2, if_pos hd]
  refine ⟨T2, h2, ?_, hD2⟩
  refine ⟨?_, st.ht, ?_, st.hnx, st.res, fun j hj => List.mem_cons_of_mem _ (st.sub j hj), ?_, ?_, ?_, st.lclosed, ?_, ?_, ?_⟩
  · rcases hh with rfl | ⟨_, ob, rfl⟩
    · exact st.hs
    · exact st.hs.ghost hEi ob
  · rcases hh with rfl | ⟨_, ob, rfl⟩
    · exact st.hg
    · exact st.hg.tail ⟨Ext.refl E, Nat.le_refl _, fun b _ hf => ⟨rfl, fun hf' => hf (hf'.ghost hEi)⟩, rfl, rfl, rfl⟩ (Nat.le_refl _) (fun _ _ => rfl) (fun m hm _ => by rw [hget_hset, if_neg (by omega)])
  · intro j hj hjw
    rcases List.mem_cons.1 hj with rfl | hj
    · rw [hw] at hjw; cases hjw
    · exact st.wr j hj hjw
  · intro j hj
    rcases List.mem_cons.1 hj with rfl | hj
    · exact hi
    · exact st.lt j hj
  · intro j hj m hm
    rcases List.mem_cons.1 hj with rfl | hj
    · exact List.mem_cons_of_mem _ (hpre m hm)
    · exact List.mem_cons_of_mem _ (st.closed j hj m hm)
  · intro t ht
    rw [st.agree t (fun j hj hLj => ht j (List.mem_cons_of_mem _ hj) hLj), hT2, if_neg (ht i List.mem_cons_self hLi)]
  · intro j hj hLj
    rcases List.mem_cons.1 hj with rfl | hj
    · refine ⟨x, hdi, ?_⟩
      rw [← wantedk_congr (names_guard hnames)]
      exact wantedk_mono hx (fun _ => trivial) id
    · exact (st.weak j hj hLj).congr (hother j hj hLj).1 (hother j hj hLj).2
  · intro j hj hLj hlook
    rcases List.mem_cons.1 hj with rfl | hj
    · refine ⟨x, hdi, ?_⟩
      rw [← wantedk_congr (names_guard hnames)]
      refine wantedk_mono hx (fun hx => ?_) id
      split at hx
      · rename_i hf
        rw [if_pos hf, ← flv_congr (names_op hnames)]
        exact hx
      · rename_i hf
        rw [if_neg hf, ← rd_congr (names_op hnames), rd_heap hlook h2 h]
        exact hx.1
    · exact (st.fact j hj hLj hlook).congr (hother j hj hLj).1 (hother j hj hLj).2 (fun _ => hheap _ (by
        have hne : i ≠ j := fun e => hnp (e ▸ hj)
        omega)) (.inl hlook)

/-- The operations of a part are told. -/
theorem adv_ops (S : Stat P nt ops pre cl A) (lw : Option Nat) {r : List (AOper × Nat)} : ∀ (l : List (Nat × Nat)) {pr pr' : List Nat} {T : Tm} {h : Hp}, St P cm nt n0 ops pre A E0 h0 w0 L pr E T T' h nx a w → opsOK ops.size pre cl A lw l pr = some pr' →
    dregk cm C n0 (l.map (fun p => (A p.1, p.2)) ++ r) T h nx k → ∃ T2 h2, St P cm nt n0 ops pre A E0 h0 w0 L pr' E T2 T' h2 nx a w ∧ dregk cm C n0 r T2 h2 nx k
  | [], pr, pr', T, h, st, hok, hD => by cases hok; exact ⟨T, h, st, hD⟩
  | (i, c) :: l, pr, pr', T, h, st, hok, hD => by
    unfold opsOK at hok
    rw [Option.ite_none_right_eq_some] at hok
    obtain ⟨hcond, hok⟩ := hok
    simp only [Bool.and_eq_true, decide_eq_true_eq, Bool.not_eq_true', List.all_eq_true, beq_iff_eq] at hcond
    obtain ⟨⟨⟨⟨⟨h1, h2⟩, h3⟩, _⟩, h5⟩, h6⟩ := hcond
    obtain ⟨T2, h2', st2, hD2⟩ := adv_op S st h1 (by simpa using h2) h3 (fun m hm => by simpa using h5 m hm) h6 hD
    exact adv_ops S lw l st2 hok hD2

theorem looks_not {o : AOp} (h : o.looks = true) : o.writes = false ∧ o.floats = false := by
  cases o <;> first | exact ⟨rfl, rfl⟩ | cases h

theorem adv_chks (st : St P cm nt n0 ops pre A E0 h0 w0 L pr E T T' h nx a w) {r : List (AOper × Nat)} : ∀ (l : List Nat), (∀ j ∈ l, j ∈ pr ∧ (A j).op.looks = true) →
    dregk cm C n0 (l.map (fun i => (A i, 1)) ++ r) T h nx k → (∀ j ∈ l, L j = false → Fact cm n0 A j T h) ∧ dregk cm C n0 r T h nx k
  | [], _, hD => ⟨by simp, hD⟩
  | j :: l, hl, hD => by
    obtain ⟨hj, hlook⟩ := hl j List.mem_cons_self
    obtain ⟨hw, hf⟩ := looks_not hlook
    rw [List.map_cons, List.cons_append, dregk_cons] at hD
    have : (L j = false → Fact cm n0 A j T h) ∧ dregk cm C n0 (l.map (fun i => (A i, 1)) ++ r) T h nx k := by
      rcases wantedk_cases T (A j).guard with hg | hg | hg
      case inr.inr => rw [hg] at hD; exact hD.elim
      · rw [hg, hw, sel_false, hf, sel_false] at hD
        cases hr : rd cm (A j).op T h with
        | none => rw [hr] at hD; exact hD.elim
        | some v =>
          rw [hr] at hD
          have hD : again1 cm T (A j).dst v (dregk cm C n0 (l.map (fun i => (A i, 1)) ++ r) T h nx k) := hD
          have hv : (∀ d, (A j).dst = some d → tget T d = v) ∧ dregk cm C n0 (l.map (fun i => (A i, 1)) ++ r) T h nx k := by
            unfold again1 at hD
            cases hdst : (A j).dst with
            | none => rw [hdst] at hD; exact ⟨by simp, hD⟩
            | some d =>
              rw [hdst] at hD
              dsimp only at hD
              have h2 : v = tget T d ∧ dregk cm C n0 (l.map (fun i => (A i, 1)) ++ r) T h nx k := by
                cases cm with
                | true =>
                  rw [sel_true, selP_eq] at hD
                  split at hD
                  · rename_i hs; exact ⟨same_eq _ _ _ hs, hD⟩
                  · exact hD.elim
                | false => rw [sel_false] at hD; exact hD
              exact ⟨fun d' hd' => by cases hd'; exact h2.1.symm, h2.2⟩
          refine ⟨fun _ => ⟨v, hv.1, ?_⟩, hv.2⟩
          rw [hg, if_neg (by rw [hf]; simp)]
          exact hr
      · rw [hg] at hD
        refine ⟨fun hLj => ?_, hD⟩
        obtain ⟨x, h1, h2⟩ := st.weak j hj hLj
        rw [hg] at h2
        exact ⟨x, h1, by rw [hg]; exact h2⟩
    obtain ⟨h1, h2⟩ := adv_chks st l (fun m hm => hl m (List.mem_cons_of_mem _ hm)) this.2
    refine ⟨fun m hm => ?_, h2⟩
    rcases List.mem_cons.1 hm with rfl | hm
    · exact this.1
    · exact h1 m hm

theorem adv_seg (S : Stat P nt ops pre cl A) (st : St P cm nt n0 ops pre A E0 h0 w0 L pr E T T' h nx a w) {lw : Option Nat} {s : DSeg} {pr' : List Nat} (hok : segOK ops.size pre cl A lw s pr = some pr') {r : List (AOper × Nat)}
    (hD : dregk cm C n0 (dents A s ++ r) T h nx k) :
    ∃ T2 h2, St P cm nt n0 ops pre A E0 h0 w0 L pr' E T2 T' h2 nx a w ∧ (∀ j ∈ pr', L j = false → Fact cm n0 A j T2 h2) ∧ dregk cm C n0 r T2 h2 nx k := by
  unfold segOK at hok
  cases ho : opsOK ops.size pre cl A lw s.1 pr with
  | none => rw [ho] at hok; cases hok
  | some p1 =>
    rw [ho] at hok
    dsimp only at hok
    rw [Option.ite_none_right_eq_some] at hok
    obtain ⟨hcond, hok⟩ := hok
    cases hok
    simp only [Bool.and_eq_true, List.all_eq_true] at hcond
    obtain ⟨hc1, hc2⟩ := hcond
    unfold dents at hD
    rw [List.append_assoc] at hD
    obtain ⟨T2, h2, st2, hD2⟩ := adv_ops S lw s.1 st ho hD
    obtain ⟨hf, hD3⟩ := adv_chks st2 s.2 (fun j hj => by
      have := hc1 j hj
      exact ⟨by simpa using this.1, this.2⟩) hD2
    refine ⟨T2, h2, st2, fun j hj hLj => ?_, hD3⟩
    cases hlook : (A j).op.looks with
    | false => exact st2.fact j hj hLj hlook
    | true =>
      have := hc2 j hj
      rw [hlook] at this
      simp only [Bool.not_true, Bool.false_or, Bool.or_eq_true, List.any_eq_true, Bool.and_eq_true] at this
      rcases this with this | ⟨v, hv, hvw, hb⟩
      · exact hf j (by simpa using this) hLj
      · exfalso
        have hLv := st2.wr v hv hvw
        have := S.down (p := fun i => L i = true) st2.lclosed v (st2.lt v hv) (st2.lclosed v hLv) j hb
        rw [hLj] at this
        cases this

/-- One operation of a region, as it is wanted or not. -/
theorem oper_split {o : Oper} (ht : TRel E nt T a) {next : Act → World → Prop} {Q : Exit → Act → World → Prop} {Y N : Prop} (hk : wantedk T (cOper P ops nt o).guard Y N) (hbad : (cOper P ops nt o).op = .bad → Y → False)
    (hY : cOp P o.op = some (cOper P ops nt o).op → (∀ d, o.dst = some d → d < nt) → Y → o.wp P a w next Q) (hN : N → next (a.put o.dst undef) w) :
    if Region.wanted o (yielded ops a.tmps) then o.wp P a w next Q ∨ (o.asks P a w ∧ LetsOut Q) else next (a.put o.dst undef) w := by
  obtain ⟨_, hcase⟩ := cOper_cases (P := P) (nt := nt) ops o
  have hyes : (cOp P o.op = some (cOper P ops nt o).op ∧ (∀ d, o.dst = some d → d < nt) ∨ (cOper P ops nt o).op = .bad) → Y → o.wp P a w next Q := by
    rintro (⟨h1, h2⟩ | h1) hy
    · exact hY h1 h2 hy
    · exact (hbad h1 hy).elim
  rcases hcase with ⟨hg, hop⟩ | ⟨hg, hop⟩
  · rcases hg with ⟨hg, hg'⟩ | ⟨j, b, t, hg, hj, hg'⟩
    · rw [hg'] at hk
      have hw : Region.wanted o (yielded ops a.tmps) = true := by unfold Region.wanted; rw [hg]
      rw [if_pos hw]
      exact .inl (hyes hop hk)
    · rw [hg'] at hk
      rcases wanted_snd ht hg hj hk with ⟨hw, hk⟩ | ⟨hw, hk⟩
      · rw [if_pos hw]
        exact .inl (hyes hop hk)
      · rw [hw]
        exact hN hk
  · rw [hg] at hk
    exact (hbad hop hk).elim

/-- An operation that had been told is run. -/
theorem st_exec (st : St P cm nt n0 ops pre A E0 h0 w0 L pr E T T' h nx a w) {j : Nat} (hj : j ∈ pr) (hpre : ∀ m ∈ pre.getD j [], L m = true) {E' : Env} {w' : World} {x : AVal} {y : Value} (hs : HSat E' h nx w') (hx : Ext E E') (hg : Goes E0 h0 n0 w0 E' h nx w')
    (hres : ∀ i, i < ops.size → i ≠ j → L i = false → E' (n0 + i) = none) (hr : Rel E' x y) (hd : ∀ d, (A j).dst = some d → tget T d = x) (hlt : (∀ d, (A j).dst = some d → d < nt) ∨ (x = .tup [] ∧ y = undef)) :
    ∃ T2', St P cm nt n0 ops pre A E0 h0 w0 (fun i => if i = j then true else L i) pr E' T T2' h nx (a.put (A j).dst y) w' := by
  obtain ⟨T2', h1, h2⟩ : ∃ T2', TRel E' nt T2' (a.put (A j).dst y) ∧ ∀ t, tget T2' t = if (A j).dst = some t then x else tget T' t := by
    cases hdst : (A j).dst with
    | none => exact ⟨T', st.ht.mono hx, fun t => by simp⟩
    | some d =>
      rw [hdst] at hlt
      refine ⟨_, (st.ht.mono hx).set hr (hlt.imp (fun h => h d rfl) id), fun t => ?_⟩
      rw [tget_tset]
      by_cases h : t = d
      · subst h; simp
      · rw [if_neg h, if_neg (by rintro ⟨⟩; exact h rfl)]
  have hL : ∀ i, (if i = j then true else L i) = false → i ≠ j ∧ L i = false := by
    intro i hi
    by_cases h : i = j
    · rw [if_pos h] at hi; cases hi
    · rw [if_neg h] at hi; exact ⟨h, hi⟩
  refine ⟨T2', hs, h1, hg, st.hnx, fun i hi hLi => hres i hi (hL i hLi).1 (hL i hLi).2, ?_, ?_, st.lt, st.closed, ?_, ?_, fun i hi hLi => st.weak i hi (hL i hLi).2, fun i hi hLi => st.fact i hi (hL i hLi).2⟩
  · intro i hi
    by_cases h : i = j
    · rw [h]; exact hj
    · rw [if_neg h] at hi; exact st.sub i hi
  · intro i hi hw
    split
    · rfl
    · exact st.wr i hi hw
  · intro i hi m hm
    by_cases h : i = j
    · subst h
      split
      · rfl
      · exact hpre m hm
    · rw [if_neg h] at hi
      split
      · rfl
      · exact st.lclosed i hi m hm
  · intro t ht
    rw [h2]
    split
    · rename_i hdt; exact (hd t hdt).symm
    · rename_i hdt
      refine st.agree t fun m hm hLm => ?_
      by_cases h : m = j
      · subst h; exact hdt
      · exact ht m hm (by rw [if_neg h]; exact hLm)

theorem exec_pend (S : Stat P nt ops pre cl A) (st : St P cm nt n0 ops pre A E0 h0 w0 L pr E T T' h nx a w) {j : Nat} (hj : j ∈ pr) (hL : L j = false) (hpre : ∀ m ∈ pre.getD j [], L m = true) (hf : Fact cm n0 A j T h)
    {K : Act → World → Prop} {Q : Exit → Act → World → Prop} (hK : ∀ E' T2' a' w', St P cm nt n0 ops pre A E0 h0 w0 (fun i => if i = j then true else L i) pr E' T T2' h nx a' w' → K a' w') : wpOp P ops Q j K a w := by
  have hjs := st.lt j hj
  have ho : ops[j]? = some ops[j] := Array.getElem?_eq_getElem hjs
  have hA := S.op j _ ho
  have hjw : (A j).op.writes = false := by
    cases hjw : (A j).op.writes with
    | false => rfl
    | true => rw [st.wr j hj hjw] at hL; cases hL
  have hdst : (A j).dst = ops[j].dst := by rw [hA]; exact (cOper_cases ops ops[j]).1
  have hnames : ∀ t ∈ (A j).names, tget T t = tget T' t := by
    intro t ht
    refine (st.agree t fun m hm hLm hdm => ?_).symm
    obtain ⟨_, hb | ⟨_, hb⟩⟩ := S.use j m hjs (st.lt m hm) t hdm ht
    · have := S.down (p := fun i => L i = true) st.lclosed j hjs hpre m hb
      rw [hLm] at this; cases this
    · rcases hb with hb | hb
      · rw [hjw] at hb; cases hb
      · rw [st.wr m hm hb] at hLm; cases hLm
  obtain ⟨x, hx1, hx2⟩ := hf
  rw [wantedk_congr (names_guard hnames), flv_congr (names_op hnames), rd_congr (names_op hnames)] at hx2
  unfold wpOp
  rw [ho]
  dsimp only
  rw [hA] at hx2
  refine oper_split (Q := Q) st.ht hx2 ?_ ?_ ?_
  · intro hbad hy
    rw [hbad] at hy
    have : (none : Option AVal) = some x := hy
    cases this
  · intro hc hd hy
    split at hy
    · obtain ⟨ob, h1, h2⟩ := hy
      have hn := st.res j hjs hL
      obtain ⟨y, w', h3, ⟨⟨z, d, kk, s, h4, h5, h6⟩, h7, h8, h9⟩⟩ := fl_run (P := P) (w := w) st.ht.opd ops[j] hc h1 hn
      have hxE := Env.ext_put E (n0 + j) ⟨w.heap.size, d, kk, s, []⟩ hn
      have hs1 := st.hs.add (nx' := nx) hn (by have := st.hnx; omega) (Nat.le_refl _) (fun m z' q hm hq => by
        have := st.hs.lt hm hq
        refine ⟨?_, by show q.b ≠ w.heap.size; omega⟩
        rw [h4, Array.getElem?_push]
        simp; omega) h6
      have hs2 := hs1.congr (h' := h) fun m => by
        rw [hget_hset]
        split
        · rename_i e; rw [e, h2]
        · rfl
      have htr : Trans E h w (E.put (n0 + j) ⟨w.heap.size, d, kk, s, []⟩) h w' := by
        refine ⟨hxE, by rw [h4]; simp, fun b hb hf => ⟨?_, ?_⟩, h7, h8, h9⟩
        · rw [h4, Array.getElem?_push]
          simp; omega
        · rintro ⟨m, o', r, p1, p2, p3, p4⟩
          by_cases hm : m = n0 + j
          · subst hm
            rw [Env.put_same] at p3
            cases p3
            have p4 : w.heap.size = b := p4
            omega
          · rw [Env.put_other _ _ _ _ hm] at p3
            exact hf ⟨m, o', r, p1, p2, p3, p4⟩
      obtain ⟨T2', st2⟩ := st_exec st hj hpre hs2 hxE (st.hg.tail htr (Nat.le_refl _) (fun m hm => Env.put_other _ _ _ _ (by omega)) (fun _ _ _ => rfl))
        (fun i hi hij hLi => by rw [Env.put_other _ _ _ _ (by omega)]; exact st.res i hi hLi) h5 hx1 (.inl (by rw [hdst]; exact hd))
      unfold Oper.wp
      rw [h3, Oper.upon_value, ← hdst]
      exact hK _ _ _ _ st2
    · obtain ⟨y, h1, h2⟩ := rd_sound (P := P) st.hs st.ht.opd ops[j] hc hy
      obtain ⟨T2', st2⟩ := st_exec st hj hpre st.hs (Ext.refl E) st.hg (fun i hi _ hLi => st.res i hi hLi) h2 hx1 (.inl (by rw [hdst]; exact hd))
      unfold Oper.wp
      rw [h1, Oper.upon_value, ← hdst]
      exact hK _ _ _ _ st2
  · intro hxt
    obtain ⟨T2', st2⟩ := st_exec st hj hpre st.hs (Ext.refl E) st.hg (fun i hi _ hLi => st.res i hi hLi) (by rw [hxt]; exact rel_undef E) hx1 (.inr ⟨hxt, rfl⟩)
    rw [← hdst]
    exact hK _ _ _ _ st2

/-- An operation that writes is told and run. -/
theorem st_wr (S : Stat P nt ops pre cl A) (st : St P cm nt n0 ops pre A E0 h0 w0 L pr E T T' h nx a w) {i : Nat} (hi : i < ops.size) (hnp : i ∉ pr) (hw : (A i).op.writes = true) (hpre : ∀ m ∈ pre.getD i [], L m = true)
    {E' : Env} {h' : Hp} {nx' : Nat} {w' : World} {x : AVal} {y : Value} (hs : HSat E' h' nx' w') (hg : Goes E h nx w E' h' nx' w') (hr : Rel E' x y) (hlt : (∀ d, (A i).dst = some d → d < nt) ∨ (x = .tup [] ∧ y = undef)) {T2 : Tm} (hT2 : ∀ t, tget T2 t = if (A i).dst = some t then x else tget T t) :
    ∃ T2', St P cm nt n0 ops pre A E0 h0 w0 (fun j => if j = i then true else L j) (i :: pr) E' T2 T2' h' nx' (a.put (A i).dst y) w' := by
  obtain ⟨T2', h1, h2⟩ : ∃ T2', TRel E' nt T2' (a.put (A i).dst y) ∧ ∀ t, tget T2' t = if (A i).dst = some t then x else tget T' t := by
    cases hdst : (A i).dst with
    | none => exact ⟨T', st.ht.mono hg.trans.ext, fun t => by simp⟩
    | some d =>
      rw [hdst] at hlt
      refine ⟨_, (st.ht.mono hg.trans.ext).set hr (hlt.imp (fun h => h d rfl) id), fun t => ?_⟩
      rw [tget_tset]
      by_cases h : t = d
      · subst h; simp
      · rw [if_neg h, if_neg (by rintro ⟨⟩; exact h rfl)]
  have hL : ∀ j, (if j = i then true else L j) = false → j ≠ i ∧ L j = false := by
    intro j hj
    by_cases h : j = i
    · rw [if_pos h] at hj; cases hj
    · rw [if_neg h] at hj; exact ⟨h, hj⟩
  have hnx := st.hnx
  have hother : ∀ j ∈ pr, L j = false → (∀ t ∈ (A j).names, tget T t = tget T2 t) ∧ (∀ d, (A j).dst = some d → tget T d = tget T2 d) := by
    intro j hj hLj
    have hjs := st.lt j hj
    have hne : i ≠ j := fun e => hnp (e ▸ hj)
    refine ⟨fun t ht => ?_, fun d hd => ?_⟩
    · rw [hT2, if_neg]
      intro hdi
      obtain ⟨_, hb | ⟨hb, _⟩⟩ := S.use j i hjs hi t hdi ht
      · exact hnp (S.down (p := (· ∈ pr)) st.closed j hjs (st.closed j hj) i hb)
      · have := S.down (p := fun i => L i = true) st.lclosed i hi hpre j hb
        rw [hLj] at this; cases this
    · rw [hT2, if_neg]
      intro hdi
      exact S.dst i j hi hjs hne d hdi hd
  refine ⟨T2', hs, h1, st.hg.next hg, Nat.le_trans hnx hg.le, fun j hj hLj => ?_, ?_, ?_, ?_, ?_, ?_, ?_, ?_, ?_⟩
  · rw [hg.same _ (by omega)]
    exact st.res j hj (hL j hLj).2
  · intro j hj
    by_cases h : j = i
    · rw [h]; exact List.mem_cons_self
    · rw [if_neg h] at hj; exact List.mem_cons_of_mem _ (st.sub j hj)
  · intro j hj hjw
    split
    · rfl
    · rename_i hne
      rcases List.mem_cons.1 hj with h | hj
      · exact absurd h hne
      · exact st.wr j hj hjw
  · intro j hj
    rcases List.mem_cons.1 hj with rfl | hj
    · exact hi
    · exact st.lt j hj
  · intro j hj m hm
    rcases List.mem_cons.1 hj with rfl | hj
    · exact List.mem_cons_of_mem _ (st.sub m (hpre m hm))
    · exact List.mem_cons_of_mem _ (st.closed j hj m hm)
  · intro j hj m hm
    by_cases h : j = i
    · subst h
      split
      · rfl
      · exact hpre m hm
    · rw [if_neg h] at hj
      split
      · rfl
      · exact st.lclosed j hj m hm
  · intro t ht
    rw [h2, hT2]
    split
    · rfl
    · refine st.agree t fun m hm hLm => ht m (List.mem_cons_of_mem _ hm) ?_
      rw [if_neg (fun e : m = i => hnp (e ▸ hm))]
      exact hLm
  · intro j hj hLj
    obtain ⟨hne, hLj⟩ := hL j hLj
    rcases List.mem_cons.1 hj with h | hj
    · exact absurd h hne
    · exact (st.weak j hj hLj).congr (hother j hj hLj).1 (hother j hj hLj).2
  · intro j hj hLj hlook
    obtain ⟨hne, hLj⟩ := hL j hLj
    rcases List.mem_cons.1 hj with h | hj
    · exact absurd h hne
    · have hjs := st.lt j hj
      exact (st.fact j hj hLj hlook).congr (hother j hj hLj).1 (hother j hj hLj).2 (fun _ => hg.ghost _ (by omega) (st.res j hjs hLj)) (.inl hlook)

theorem exec_wr (S : Stat P nt ops pre cl A) (hC : CallOK P C) (st : St P cm nt n0 ops pre A E0 h0 w0 L pr E T T' h nx a w) {i : Nat} (hi : i < ops.size) (hnp : i ∉ pr) (hw : (A i).op.writes = true) (hpre : ∀ m ∈ pre.getD i [], L m = true)
    {r : List (AOper × Nat)} (hD : dregk cm C n0 ((A i, 0) :: r) T h nx k) {K : Act → World → Prop} {Q : Exit → Act → World → Prop}
    (hK : ∀ E' T2 T2' h' nx' a' w', St P cm nt n0 ops pre A E0 h0 w0 (fun j => if j = i then true else L j) (i :: pr) E' T2 T2' h' nx' a' w' → dregk cm C n0 r T2 h' nx' k → K a' w') : wpOp P ops Q i K a w := by
  have ho : ops[i]? = some ops[i] := Array.getElem?_eq_getElem hi
  have hA := S.op i _ ho
  have hdst : (A i).dst = ops[i].dst := by rw [hA]; exact (cOper_cases ops ops[i]).1
  have hnames : ∀ t ∈ (A i).names, tget T t = tget T' t := by
    intro t ht
    refine (st.agree t fun m hm hLm hdm => ?_).symm
    obtain ⟨_, hb | ⟨hb, _⟩⟩ := S.use i m hi (st.lt m hm) t hdm ht
    · have := S.down (p := fun i => L i = true) st.lclosed i hi hpre m hb
      rw [hLm] at this; cases this
    · exact hnp (S.down (p := (· ∈ pr)) st.closed m (st.lt m hm) (st.closed m hm) i hb)
  rw [dregk_cons, wantedk_congr (names_guard hnames), hw, sel_true, aop_congr hw (names_op hnames)] at hD
  unfold wpOp
  rw [ho]
  dsimp only
  rw [hA] at hD
  refine oper_split (Q := Q) st.ht hD ?_ ?_ ?_
  · intro hbad hy
    rw [hbad] at hy
    exact hy
  · intro hc hd hy
    refine oper_wp (aop_sound hC st.hs st.ht.opd ops[i] hc hy) ?_
    intro y w' E' x h' nx' r1 r2 r3 r4
    obtain ⟨T2, q1, q2⟩ := dstk_elim r4
    rw [← hA] at q1
    obtain ⟨T2', st2⟩ := st_wr S st hi hnp hw hpre r2 r3 r1 (.inl (by rw [hdst]; exact hd)) q1
    rw [← hdst]
    exact hK _ _ _ _ _ _ _ st2 q2
  · intro hy
    have hy : dstk T (cOper P ops nt ops[i]).dst (.tup []) (fun T => dregk cm C n0 r T h nx k) := hy
    obtain ⟨T2, q1, q2⟩ := dstk_elim hy
    rw [← hA] at q1
    obtain ⟨T2', st2⟩ := st_wr S st hi hnp hw hpre st.hs (Goes.refl _ _ _ _) (rel_undef E) (.inr ⟨rfl, rfl⟩) q1
    rw [← hdst]
    exact hK _ _ _ _ _ _ _ st2 q2

theorem opsOK_mem {lw : Option Nat} : ∀ {l : List (Nat × Nat)} {p p' : List Nat}, opsOK ops.size pre cl A lw l p = some p' → (∀ i ∈ p, i ∈ p') ∧ ∀ i ∈ p', i ∈ p ∨ ∀ v, lw = some v → bef cl v i = true
  | [], p, p', h => by cases h; exact ⟨fun _ h => h, fun _ h => .inl h⟩
  | (i, c) :: l, p, p', h => by
    unfold opsOK at h
    rw [Option.ite_none_right_eq_some] at h
    obtain ⟨hcond, h⟩ := h
    simp only [Bool.and_eq_true] at hcond
    obtain ⟨⟨⟨_, h4⟩, _⟩, _⟩ := hcond
    obtain ⟨q1, q2⟩ := opsOK_mem h
    refine ⟨fun j hj => q1 j (List.mem_cons_of_mem _ hj), fun j hj => ?_⟩
    rcases q2 j hj with hj | hj
    · rcases List.mem_cons.1 hj with rfl | hj
      · right
        intro v hv
        rw [hv] at h4
        simpa using h4
      · exact .inl hj
    · exact .inr hj

theorem segOK_mem {lw : Option Nat} {s : DSeg} {p p' : List Nat} (h : segOK ops.size pre cl A lw s p = some p') : (∀ i ∈ p, i ∈ p') ∧ ∀ i ∈ p', i ∈ p ∨ ∀ v, lw = some v → bef cl v i = true := by
  unfold segOK at h
  cases ho : opsOK ops.size pre cl A lw s.1 p with
  | none => rw [ho] at h; cases h
  | some p1 =>
    rw [ho] at h
    dsimp only at h
    rw [Option.ite_none_right_eq_some] at h
    obtain ⟨_, h⟩ := h
    cases h
    exact opsOK_mem ho

theorem segsOK_cons {lw : Option Nat} {v : Nat} {s : DSeg} {r : List (Nat × DSeg)} {p : List Nat} (h : segsOK ops.size pre cl A lw ((v, s) :: r) p = true) :
    v < ops.size ∧ v ∉ p ∧ (A v).op.writes = true ∧ (∀ u, lw = some u → bef cl u v = true) ∧ (∀ m ∈ pre.getD v [], m ∈ p) ∧ ∃ p', segOK ops.size pre cl A (some v) s (v :: p) = some p' ∧ segsOK ops.size pre cl A (some v) r p' = true := by
  unfold segsOK at h
  simp only [Bool.and_eq_true, decide_eq_true_eq, Bool.not_eq_true', List.all_eq_true] at h
  obtain ⟨⟨⟨⟨⟨h1, h2⟩, h3⟩, h4⟩, h5⟩, h6⟩ := h
  refine ⟨h1, by simpa using h2, h3, fun u hu => by rw [hu] at h4; simpa using h4, fun m hm => by simpa using h5 m hm, ?_⟩
  split at h6
  · rename_i p' hp'; exact ⟨p', hp', h6⟩
  · cases h6

/-- One that has not been told, and is not the next writing one, has one ahead of it that has not been told. -/
theorem later : ∀ {r : List (Nat × DSeg)} {lw : Option Nat} {v : Nat} {s : DSeg} {p : List Nat}, segsOK ops.size pre cl A lw ((v, s) :: r) p = true → ∀ i, i < ops.size → i ∉ p → i ≠ v → ∃ u, bef cl u i = true ∧ u ∉ p
  | [], lw, v, s, p, h, i, hi, hnp, hne => by
    obtain ⟨h1, h2, h3, h4, h5, p', h6, h7⟩ := segsOK_cons h
    unfold segsOK at h7
    rw [List.all_eq_true] at h7
    have := h7 i (List.mem_range.2 hi)
    rcases (segOK_mem h6).2 i (by simpa using this) with hm | hm
    · rcases List.mem_cons.1 hm with hm | hm
      · exact absurd hm hne
      · exact absurd hm hnp
    · exact ⟨v, hm v rfl, h2⟩
  | (v2, s2) :: r, lw, v, s, p, h, i, hi, hnp, hne => by
    obtain ⟨h1, h2, h3, h4, h5, p', h6, h7⟩ := segsOK_cons h
    obtain ⟨m1, m2⟩ := segOK_mem h6
    by_cases hip : i ∈ p'
    · rcases m2 i hip with hm | hm
      · rcases List.mem_cons.1 hm with hm | hm
        · exact absurd hm hne
        · exact absurd hm hnp
      · exact ⟨v, hm v rfl, h2⟩
    · by_cases hi2 : i = v2
      · subst hi2
        exact ⟨v, (segsOK_cons h7).2.2.2.1 v rfl, h2⟩
      · obtain ⟨u, hu1, hu2⟩ := later h7 i hi hip hi2
        exact ⟨u, hu1, fun hup => hu2 (m1 u (List.mem_cons_of_mem _ hup))⟩

theorem filter_lt {p q : Nat → Bool} : ∀ {l : List Nat}, (∀ x, q x = true → p x = true) → ∀ i ∈ l, p i = true → q i = false → (l.filter q).length < (l.filter p).length
  | [], _, i, hi, _, _ => by cases hi
  | x :: l, hpq, i, hi, hp, hq => by
    have hle : (l.filter q).length ≤ (l.filter p).length := by
      clear hi
      induction l with
      | nil => simp
      | cons y l ih =>
        rw [List.filter_cons, List.filter_cons]
        by_cases hqy : q y = true
        · rw [if_pos hqy, if_pos (hpq y hqy)]
          simpa using ih
        · rw [if_neg hqy]
          split
          · simp; omega
          · exact ih
    rw [List.filter_cons, List.filter_cons]
    rcases List.mem_cons.1 hi with rfl | hi
    · rw [hq, hp]
      simp
      omega
    · have := filter_lt hpq i hi hp hq
      by_cases hqx : q x = true
      · rw [if_pos hqx, if_pos (hpq x hqx)]
        simpa using this
      · rw [if_neg hqx]
        split
        · simp; omega
        · exact this

/-- What is left of an open region, in any order. -/
theorem sim (S : Stat P nt ops pre cl A) (hC : CallOK P C) {Q : Exit → Act → World → Prop} (hp : Post nt E0 h0 n0 w0 k Q) :
    ∀ (fuel : Nat) (listed : Array Bool) (l : List (Nat × DSeg)) (lw : Option Nat) (pr : List Nat) (E : Env) (T T' : Tm) (h : Hp) (nx : Nat) (a : Act) (w : World), listed.size = ops.size →
    ((List.range ops.size).filter fun i => !(listed.getD i false)).length ≤ fuel →
    St P cm nt n0 ops pre A E0 h0 w0 (fun i => listed.getD i false) pr E T T' h nx a w → (∀ j ∈ pr, listed.getD j false = false → Fact cm n0 A j T h) →
    segsOK ops.size pre cl A lw l pr = true → dregk cm C n0 (l.flatMap (fun p => (A p.1, 0) :: dents A p.2)) T h nx k → wpAny P .any ops Q fuel listed a w := by
  have hready : ∀ (listed : Array Bool) (i : Nat), listed.size = ops.size → i ∈ Region.ready .any ops listed → i < ops.size ∧ listed.getD i false = false ∧ ∀ m ∈ pre.getD i [], listed.getD m false = true := by
    intro listed i hsz hi
    obtain ⟨h1, o, ho, h2⟩ := mem_ready.1 hi
    have hlt : i < ops.size := (Array.getElem?_eq_some_iff.1 ho).1
    refine ⟨hlt, ?_, fun m hm => ?_⟩
    · have h3 : i < listed.size := by omega
      simpa [Array.getD, h3] using h1
    · obtain ⟨e, he, hb, rfl⟩ := (S.edge i o ho m).1 hm
      exact h2 e he hb
  have hfin : ∀ (listed : Array Bool) (l : List (Nat × DSeg)) (lw : Option Nat) (pr : List Nat) (E : Env) (T T' : Tm) (h : Hp) (nx : Nat) (a : Act) (w : World), listed.size = ops.size →
      St P cm nt n0 ops pre A E0 h0 w0 (fun i => listed.getD i false) pr E T T' h nx a w →
      segsOK ops.size pre cl A lw l pr = true → dregk cm C n0 (l.flatMap (fun p => (A p.1, 0) :: dents A p.2)) T h nx k → Region.ready .any ops listed = [] → Q .normal a w := by
    intro listed l lw pr E T T' h nx a w hsz st hok hD hnil
    have hall : ∀ i, i < ops.size → listed.getD i false = true := by
      intro i
      induction i using Nat.strongRecOn with
      | _ i ih =>
        intro hi
        cases hL : listed.getD i false with
        | true => rfl
        | false =>
          exfalso
          have ho : ops[i]? = some ops[i] := Array.getElem?_eq_getElem hi
          have : i ∈ Region.ready .any ops listed := by
            rw [mem_ready]
            refine ⟨?_, ops[i], ho, fun e he hb => ?_⟩
            · have h3 : i < listed.size := by omega
              simpa [Array.getD, h3] using hL
            · have hm : e.on ∈ pre.getD i [] := (S.edge i _ ho e.on).2 ⟨e, he, hb, rfl⟩
              have hlt := S.lt i hi _ hm
              exact ih e.on hlt (Nat.lt_trans hlt hi)
          rw [hnil] at this
          cases this
    cases l with
    | nil =>
      have hk : k .n T h nx := hD
      refine hp .n T h nx E a w st.hs ⟨fun t => ?_, st.ht.size, st.ht.defers⟩ st.hg hk
      have := st.agree t (fun j hj hLj => by
        have h1 : listed.getD j false = true := hall j (st.lt j hj)
        rw [h1] at hLj; cases hLj)
      rw [← this]
      exact st.ht.vals t
    | cons v r =>
      obtain ⟨v, s⟩ := v
      obtain ⟨h1, h2, _⟩ := segsOK_cons hok
      exact absurd (st.sub v (hall v h1)) h2
  have hset : ∀ (listed : Array Bool) (i : Nat), i < listed.size → (fun j => (listed.setIfInBounds i true).getD j false) = fun j => if j = i then true else listed.getD j false := by
    intro listed i hi
    funext j
    rw [Array.getD_eq_getD_getElem?, Array.getD_eq_getD_getElem?, Array.getElem?_setIfInBounds]
    by_cases h : i = j
    · subst h; simp [hi]
    · rw [if_neg h, if_neg (Ne.symm h)]
  intro fuel
  induction fuel with
  | zero =>
    intro listed l lw pr E T T' h nx a w hsz hfuel st hf hok hD
    have hnil : Region.ready .any ops listed = [] := by
      rw [List.eq_nil_iff_forall_not_mem]
      intro i hi
      obtain ⟨h1, h2, _⟩ := hready listed i hsz hi
      have : i ∈ (List.range ops.size).filter fun i => !(listed.getD i false) := List.mem_filter.2 ⟨List.mem_range.2 h1, by rw [h2]; rfl⟩
      have h0 := List.eq_nil_of_length_eq_zero (Nat.le_zero.1 hfuel)
      rw [h0] at this
      cases this
    exact ⟨hnil, hfin listed l lw pr E T T' h nx a w hsz st hok hD hnil⟩
  | succ fuel ih =>
    intro listed l lw pr E T T' h nx a w hsz hfuel st hf hok hD
    refine ⟨hfin listed l lw pr E T T' h nx a w hsz st hok hD, fun i hi => ?_⟩
    obtain ⟨h1, h2, h3⟩ := hready listed i hsz hi
    have hsz' : (listed.setIfInBounds i true).size = ops.size := by simpa using hsz
    have hL := hset listed i (by omega)
    have hfuel' : ((List.range ops.size).filter fun j => !((listed.setIfInBounds i true).getD j false)).length ≤ fuel := by
      have hlt : ((List.range ops.size).filter fun j => !((listed.setIfInBounds i true).getD j false)).length < ((List.range ops.size).filter fun j => !(listed.getD j false)).length := by
        refine filter_lt (fun x hx => ?_) i (List.mem_range.2 h1) (by rw [h2]; rfl) ?_
        · have := congrFun hL x
          rw [this] at hx
          split at hx
          · cases hx
          · exact hx
        · have := congrFun hL i
          rw [this, if_pos rfl]
          rfl
      omega
    by_cases hip : i ∈ pr
    · refine exec_pend S st hip h2 h3 (hf i hip h2) fun E' T2' a' w' st2 => ?_
      refine ih _ l lw pr E' T T2' h nx a' w' hsz' hfuel' (by rw [hL]; exact st2) (fun j hj hLj => hf j hj ?_) hok hD
      have := congrFun hL j
      rw [this] at hLj
      split at hLj
      · cases hLj
      · exact hLj
    · cases l with
      | nil =>
        unfold segsOK at hok
        rw [List.all_eq_true] at hok
        have := hok i (List.mem_range.2 h1)
        exact absurd (by simpa using this) hip
      | cons v r =>
        obtain ⟨v, s⟩ := v
        by_cases hiv : i = v
        · subst hiv
          obtain ⟨q1, q2, q3, q4, q5, p', q6, q7⟩ := segsOK_cons hok
          refine exec_wr S hC st h1 hip q3 h3 (r := dents A s ++ r.flatMap (fun p => (A p.1, 0) :: dents A p.2)) hD ?_
          intro E' T2 T2' h' nx' a' w' st2 hD2
          obtain ⟨T3, h3', st3, hf3, hD3⟩ := adv_seg S st2 q6 hD2
          refine ih _ r (some i) p' E' T3 T2' h3' nx' a' w' hsz' hfuel' (by rw [hL]; exact st3) (fun j hj hLj => hf3 j hj ?_) q7 hD3
          have := congrFun hL j
          rw [this] at hLj
          exact hLj
        · exfalso
          obtain ⟨u, hu1, hu2⟩ := later hok i h1 hip hiv
          exact hu2 (st.sub u (S.down (p := fun i => listed.getD i false = true) st.lclosed i h1 h3 u hu1))
end
end Go.Am
