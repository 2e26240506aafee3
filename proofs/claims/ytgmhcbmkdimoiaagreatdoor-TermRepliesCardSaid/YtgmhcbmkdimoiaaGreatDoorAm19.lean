/-
  The abstract machine, part 19: whatever operation is compiled does what is told. No conditions but that calls do.
-/
import Derived.Test.YtgmhcbmkdimoiaaGreatDoorAm18b
import Derived.Calls
namespace Go.Am
section
variable {P : Program} {E : Env} {T : Tm} {h : Hp} {nx : Nat} {w : World} {cm : Bool} {ρ : Operand → Value} {C : CallT}

/-- A call that comes back as is told. -/
def Ret (P : Program) (f : FuncId) (args : Array Value) (E : Env) (h : Hp) (nx : Nat) (w : World) (k : HK) : Prop :=
  Calls P f args w fun e w' => ∃ y x E' h' nx', e = .returned y ∧ Rel E' x y ∧ HSat E' h' nx' w' ∧ Goes E h nx w E' h' nx' w' ∧ k x h' nx'

def Does (P : Program) (r : Result Next) (E : Env) (h : Hp) (nx : Nat) (w : World) (k : HK) : Prop :=
  Out r E h nx w k ∨ ∃ f args, r = .ok (.enter f args) w ∧ Ret P f args E h nx w k

def CallOK (P : Program) (C : CallT) : Prop := ∀ (f : FuncId) (vs : List AVal) (args : Array Value) (E : Env) (h : Hp) (nx : Nat) (w : World) (k : HK),
  HSat E h nx w → RelL E vs args.toList → C f vs h nx k → Does P ((callFunc f args).run P w) E h nx w k

theorem out_value {s : Sem Value} {y : Value} {w' : World} {v : AVal} {E' : Env} {h' : Hp} {nx' : Nat} {k : HK} (h1 : s.run P w = .ok y w') (h2 : Rel E' v y) (h3 : HSat E' h' nx' w') (h4 : Goes E h nx w E' h' nx' w') (h5 : k v h' nx') :
    Does P ((do pure (Next.value (← s)) : Sem Next).run P w) E h nx w k :=
  .inl ⟨y, w', E', v, h', nx', .inl (by simp [h1]), h2, h3, h4, h5⟩
theorem out_skip {s : Sem Unit} {w' : World} {E' : Env} {h' : Hp} {nx' : Nat} {k : HK} (h1 : s.run P w = .ok () w') (h3 : HSat E' h' nx' w') (h4 : Goes E h nx w E' h' nx' w') (h5 : k (.tup []) h' nx') :
    Does P ((do s; pure Next.skip : Sem Next).run P w) E h nx w k :=
  .inl ⟨undef, w', E', .tup [], h', nx', .inr ⟨by simp [h1], rfl⟩, rel_undef E', h3, h4, h5⟩

theorem readops_sound (hs : HSat E h nx w) (hρ : OpdRel E T ρ) (o : Oper) {ao : AOp} (hc : cOp P o.op = some ao) {k : HK}
    (hk : sel ao.floats (flk ao T h nx fun v h => fN (Nat.add nx 1) fun nx' => k v h nx') (Option.rec (motive := fun _ => Prop) False (fun v => gV cm ao v fun v => k v h nx) (rd cm ao T h))) :
    Does P ((execOp ρ o).run P w) E h nx w k := by
  cases hf : ao.floats with
  | true =>
    rw [hf, sel_true] at hk
    obtain ⟨v, ob, h1, h2⟩ := flk_flv hk
    rw [fN_eq] at h2
    have hnx : E nx = none := hs.fresh nx (Nat.le_refl _)
    obtain ⟨y, w', h3, ⟨⟨x, d, kk, s, h4, h5, h6⟩, h7, h8, h9⟩⟩ := fl_run (P := P) (w := w) hρ o hc h1 hnx
    refine .inl ⟨y, w', _, v, _, _, .inl h3, h5, ?_, ?_, h2⟩
    · exact hs.add hnx (Nat.lt_succ_self _) (Nat.le_succ _) (fun m z q hm hq => by
        have := hs.lt hm hq
        refine ⟨?_, by show q.b ≠ w.heap.size; omega⟩
        rw [h4, Array.getElem?_push]
        simp; omega) h6
    · refine ⟨⟨Env.ext_put E nx _ hnx, by rw [h4]; simp, fun b hb hf => ⟨?_, fun hf' => ?_⟩, h7, h8, h9⟩, Nat.le_succ _, fun p hp => Env.put_other _ _ _ _ (by omega), fun p hp hE => by rw [hget_hset, if_neg (by omega)]⟩
      · rw [h4, Array.getElem?_push]
        simp; omega
      · rcases hf'.put with he | he
        · have he : b = w.heap.size := he
          omega
        · exact hf he
  | false =>
    rw [hf, sel_false] at hk
    cases hr : rd cm ao T h with
    | none => rw [hr] at hk; exact hk.elim
    | some v =>
      rw [hr] at hk
      have hk : gV cm ao v (fun v => k v h nx) := hk
      rw [gV_eq] at hk
      obtain ⟨y, h1, h2⟩ := rd_sound (P := P) hs hρ o hc hr
      exact .inl ⟨y, w, E, v, h, nx, .inl h1, h2, hs, Goes.refl _ _ _ _, hk⟩

theorem inv_tab {tab : List (TypeId × FuncId)} {t : TypeId} {F : FuncId → Prop} :
    (List.rec (motive := fun _ => Prop) False (fun p _ ih => selP (Nat.beq p.1 t) (F p.2) ih) tab : Prop) → ∃ f, (t, f) ∈ tab ∧ F f := by
  induction tab with
  | nil => intro h; exact h.elim
  | cons p l ih =>
    intro h
    have h : selP (Nat.beq p.1 t) (F p.2) (List.rec (motive := fun _ => Prop) False (fun p _ ih => selP (Nat.beq p.1 t) (F p.2) ih) l : Prop) := h
    rw [selP_eq] at h
    split at h
    · rename_i he
      have he : p.1 = t := by simpa using he
      exact ⟨p.2, by rw [← he]; exact List.mem_cons_self, h⟩
    · obtain ⟨f, h1, h2⟩ := ih h
      exact ⟨f, List.mem_cons_of_mem _ h1, h2⟩

theorem run_method {name : String} {t : TypeId} {f : FuncId} (hm : (t, f) ∈ invTab P name) (v : Value) (w : World) : (method (P.types.size + Made.depth) t v name).run P w = .ok (f, v) w := by
  unfold invTab at hm
  rw [List.mem_filterMap] at hm
  obtain ⟨t', ht, hm⟩ := hm
  split at hm
  · cases hm
  · rename_i i hi
    split at hm
    · rename_i m hfind
      split at hm
      · rename_i f' p hfun
        rw [Option.ite_none_right_eq_some] at hm
        obtain ⟨hcond, hm⟩ := hm
        cases hm
        simp only [Bool.and_eq_true, beq_iff_eq] at hcond
        obtain ⟨⟨⟨hp, hu⟩, _⟩, hpp⟩ := hcond
        obtain ⟨d, hd⟩ := Option.isSome_iff_exists.1 hu
        obtain ⟨n, hn⟩ : ∃ n, P.types.size + Made.depth = n + 1 := ⟨P.types.size + Made.depth - 1, by simp at ht; omega⟩
        rw [hn]
        have hpath : m.path.toList = [] := by simpa using hp
        rw [hd] at hpp
        cases d <;> simp at hpp <;> subst hpp <;> simp [method, run_info w hi, hfind, hpath, follow, hfun, receiverAt, run_und w hd, Place.get]
      · cases hm
    · cases hm

theorem call_sound (hC : CallOK P C) (hs : HSat E h nx w) (hρ : OpdRel E T ρ) {c : Call} {ty : TypeId} {ao : AOp} (hc : cOp P (.call c) = some ao) {k : HK} (hw : ao.writes = true) (hk : aop cm C ao T h nx k) :
    Does P ((do let d ← resolve ρ c ty; invoke d.target d.args : Sem Next).run P w) E h nx w k := by
  obtain ⟨callee, args, ats⟩ := c
  cases callee with
  | value f =>
    have hval : ∀ {x : Opd} {l : List Opd}, cOpd f = some x → cOpds args = some l → aop cm C (.callV x l) T h nx k →
        Does P ((do let d ← resolve ρ ⟨.value f, args, ats⟩ ty; invoke d.target d.args : Sem Next).run P w) E h nx w k := by
      intro x l hx hl hk
      simp only [aop, ev_k, evl_k] at hk
      have rx := hρ _ _ hx
      have rl := hρ.arr hl
      generalize hfv : ρ f = fv at rx
      split at hk
      · rename_i g a b hxe
        rw [hxe] at rx
        cases rx with
        | fn _ _ _ xa xb ra rb =>
          rw [appk_eq, appk_eq] at hk
          have := hC g _ (xa ++ args.map ρ ++ xb) E h nx w k hs (by
            simp only [Array.toList_append]
            rw [List.append_assoc]
            exact ra.append (rl.append rb)) hk
          simpa [resolve, Deferred.ofValue, hfv, invoke] using this
      · exact hk.elim
    have hfun : ∀ {g : FuncId} {l : List Opd}, f = .func g → cOpds args = some l → aop cm C (.callF g l) T h nx k →
        Does P ((do let d ← resolve ρ ⟨.value f, args, ats⟩ ty; invoke d.target d.args : Sem Next).run P w) E h nx w k := by
      intro g l hf hl hk
      subst hf
      refine hval (x := .c (.fn g [] [])) rfl hl ?_
      simp only [aop, ev_k, evl_k, appk_eq, List.append_nil, List.nil_append, ev] at hk ⊢
      exact hk
    cases f with
    | func g =>
      simp only [cOp] at hc
      obtain ⟨l, hl, hc⟩ := bind_some hc
      cases hc
      exact hfun rfl hl hk
    | tmp i =>
      simp only [cOp] at hc
      obtain ⟨x, hx, hc1⟩ := bind_some hc
      obtain ⟨l, hl, hc⟩ := bind_some hc1
      cases hc; exact hval hx hl hk
    | const v =>
      simp only [cOp] at hc
      obtain ⟨x, hx, hc1⟩ := bind_some hc
      obtain ⟨l, hl, hc⟩ := bind_some hc1
      cases hc; exact hval hx hl hk
    | global g =>
      simp only [cOp] at hc
      obtain ⟨x, hx, hc1⟩ := bind_some hc
      obtain ⟨l, hl, hc⟩ := bind_some hc1
      cases hc; exact hval hx hl hk
  | invoke r name =>
    simp only [cOp] at hc
    obtain ⟨x, hx, hc1⟩ := bind_some hc
    obtain ⟨l, hl, hc⟩ := bind_some hc1
    cases hc
    simp only [aop, ev_k, evl_k] at hk
    have rx := hρ _ _ hx
    have rl := hρ.arr hl
    generalize hfv : ρ r = fv at rx
    split at hk
    · rename_i t v hxe
      rw [hxe] at rx
      cases rx with
      | ifc _ _ u ru =>
        obtain ⟨f, hf, hk⟩ := inv_tab (F := fun f => C f (v :: l.map (ev T)) h nx k) hk
        have := hC f _ (#[u] ++ args.map ρ) E h nx w k hs (by
          simp only [Array.toList_append]
          exact .cons _ _ _ _ ru rl) hk
        have hmt := run_method hf u w
        have h0 : (#[Value.iface t u] ++ Array.map ρ args)[0]? = some (.iface t u) := by
          rw [Array.getElem?_append_left (by simp)]
          rfl
        have h1 : (Array.map ρ args).extract 0 args.size = Array.map ρ args := by
          rw [← Array.size_map (f := ρ) (xs := args)]
          exact Array.extract_size
        simpa [resolve, hfv, invoke, callMethod, hmt, h0, h1] using this
    · exact hk.elim
  | builtin b =>
    simp only [cOp] at hc
    have hargs : ∀ l, args.toList = l → args = l.toArray := fun l e => by rw [← e]
    have hats : ∀ l, ats.toList = l → ats = l.toArray := fun l e => by rw [← e]
    split at hc
    · -- len
      split at hc
      · obtain ⟨a, ha, rfl⟩ := map_some' hc; cases hw
      · obtain ⟨a, ha, rfl⟩ := map_some' hc; cases hw
      · obtain ⟨a, ha, rfl⟩ := map_some' hc; cases hw
      · cases hc; cases hw
      · cases hc
    · -- cap
      split at hc
      · obtain ⟨a, ha, rfl⟩ := map_some' hc; cases hw
      · cases hc
    · -- append
      rename_i x y t u e1 e2
      rw [hargs _ e1, hats _ e2]
      obtain ⟨e, he, hc1⟩ := bind_some hc
      obtain ⟨s, hsz, hc2⟩ := bind_some hc1
      obtain ⟨b, hb, hc3⟩ := bind_some hc2
      obtain ⟨z, hz, hc4⟩ := bind_some hc3
      have ht : P.underlying t = some (.slice e) := by
        unfold elemOf? at he
        split at he
        · cases he; assumption
        · cases he
      split at hc4
      · cases hc4
      · rename_i hsb
        obtain ⟨d, hu, hc5⟩ := bind_some hc4
        split at hc5
        · rename_i ik
          obtain ⟨x', hx, hc6⟩ := bind_some hc5
          obtain ⟨y', hy, hc7⟩ := bind_some hc6
          cases hc7
          simp only [aop, ev_k] at hk
          obtain ⟨r, w', v, E', h', nx', h1, h2, h3, h4, h5⟩ := run_appz (P := P) (ty := ty) hs ht hu hsz hb hz (by simp at hsb; exact hsb.1) (by simp at hsb; exact hsb.2) (hρ _ _ hx) (hρ _ _ hy) hk
          refine .inl ⟨r, w', E', v, h', nx', .inl ?_, h2, h3, h4, h5⟩
          simp [resolve, invoke, builtin, h1]
        · rename_i hd
          obtain ⟨x', hx, hc6⟩ := bind_some hc5
          obtain ⟨y', hy, hc7⟩ := bind_some hc6
          cases hc7
          simp only [aop, ev_k] at hk
          obtain ⟨r, w', v, E', h', nx', h1, h2, h3, h4, h5⟩ := run_app (P := P) (ty := ty) hs ht hu (fun q hq => hd q hq) hsz hb hz (by simp at hsb; exact hsb.2) (hρ _ _ hx) (hρ _ _ hy) hk
          refine .inl ⟨r, w', E', v, h', nx', .inl ?_, h2, h3, h4, h5⟩
          simp [resolve, invoke, builtin, h1]
    · -- copy
      rename_i x y t u e1 e2
      rw [hargs _ e1, hats _ e2]
      obtain ⟨e, he, hc1⟩ := bind_some hc
      obtain ⟨s, hsz, hc2⟩ := bind_some hc1
      obtain ⟨x', hx, hc3⟩ := bind_some hc2
      obtain ⟨y', hy, hc4⟩ := bind_some hc3
      have ht : P.underlying t = some (.slice e) := by
        unfold elemOf? at he
        split at he
        · cases he; assumption
        · cases he
      cases hc4
      simp only [aop, ev_k] at hk
      obtain ⟨r, w', v, h', h1, h2, h3, h4, h5⟩ := run_cpy (P := P) (ty := ty) (u := u) hs ht hsz (hρ _ _ hx) (hρ _ _ hy) hk
      refine .inl ⟨r, w', E, v, h', nx, .inl ?_, h2, h3, h4, h5⟩
      simp [resolve, invoke, builtin, h1]
    · obtain ⟨l, hl, rfl⟩ := map_some' hc; cases hw
    · obtain ⟨l, hl, rfl⟩ := map_some' hc; cases hw
    · -- delete
      rename_i m kx t u e1 e2
      rw [hargs _ e1, hats _ e2]
      split at hc
      · rename_i kt et hu
        split at hc
        · rename_i hik
          obtain ⟨kk, hkk⟩ : ∃ kk, P.underlying kt = some (.int kk) := by
            unfold isInts at hik
            split at hik
            · exact ⟨_, by assumption⟩
            · cases hik
          obtain ⟨x', hx, hc1⟩ := bind_some hc
          obtain ⟨y', hy, hc2⟩ := bind_some hc1
          cases hc2
          simp only [aop, ev_k] at hk
          obtain ⟨r, w', h', h1, h2, h3, h4, h5⟩ := run_del (P := P) (ty := ty) (u := u) hs hu hkk (hρ _ _ hx) (hρ _ _ hy) hk
          refine .inl ⟨r, w', E, _, h', nx, .inl ?_, h2, h3, h4, h5⟩
          simp [resolve, invoke, builtin, h1]
        · cases hc
      · cases hc
    · -- clear
      rename_i m t e1 e2
      rw [hargs _ e1, hats _ e2]
      split at hc
      · rename_i kt et hu
        obtain ⟨a, ha, rfl⟩ := map_some' hc
        simp only [aop, ev_k] at hk
        obtain ⟨r, w', h', h1, h2, h3, h4, h5⟩ := run_clr (P := P) (ty := ty) hs hu (hρ _ _ ha) hk
        refine .inl ⟨r, w', E, _, h', nx, .inl ?_, h2, h3, h4, h5⟩
        simp [resolve, invoke, builtin, h1]
      · cases hc
    · -- strings and slices, seen through pointers
      unfold cUns at hc
      split at hc
      · split at hc
        · obtain ⟨a, ha, rfl⟩ := map_some' hc; cases hw
        · cases hc
      · split at hc
        · rename_i p n pt tt e1 e2
          rw [hargs _ e1, hats _ e2]
          split at hc
          · rename_i u hu
            split at hc
            · rename_i hu8 hz
              obtain ⟨p', hp, hc1⟩ := bind_some hc
              obtain ⟨n', hn, hc2⟩ := bind_some hc1
              cases hc2
              simp only [aop, ev_k] at hk
              obtain ⟨r, w', v, h', h1, h2, h3, h4, h5⟩ := run_uss (P := P) (ty := ty) (tt := tt) hs hu hu8 hz (hρ _ _ hp) (hρ _ _ hn) hk
              refine .inl ⟨r, w', E, v, h', nx, .inl ?_, h2, h3, h4, h5⟩
              simp [resolve, invoke, builtin, h1]
            · cases hc
          · cases hc
        · cases hc
      · cases hc

/-- WHATEVER OPERATION IS COMPILED DOES WHAT IS TOLD. -/
theorem aop_sound (hC : CallOK P C) (hs : HSat E h nx w) (hρ : OpdRel E T ρ) (o : Oper) {ao : AOp} (hc : cOp P o.op = some ao) {k : HK} (hk : aop cm C ao T h nx k) : Does P ((execOp ρ o).run P w) E h nx w k := by
  cases hw : ao.writes with
  | false =>
    refine readops_sound (cm := cm) hs hρ o hc ?_
    cases ao <;> first | exact hk | cases hw
  | true =>
    have hcl := (cOp_class hc).2 hw
    obtain ⟨dst, op, ty, pos, after, guard⟩ := o
    dsimp only at hc hcl
    cases op with
    | assign x =>
      obtain ⟨a, ha, rfl⟩ := map_some' hc
      simp only [aop, ev_k] at hk
      exact .inl ⟨ρ x, w, E, _, h, nx, .inl rfl, hρ _ _ ha, hs, Goes.refl _ _ _ _, hk⟩
    | store t a x =>
      simp only [cOp] at hc
      obtain ⟨n, hn, h1⟩ := bind_some hc
      obtain ⟨a', ha, h2⟩ := bind_some h1
      obtain ⟨x', hx, h3⟩ := bind_some h2
      cases h3
      simp only [aop, ev_k] at hk
      obtain ⟨w', h', q1, q2, q3, q4⟩ := run_st (P := P) hs hn (hρ _ _ ha) (hρ _ _ hx) hk
      exact out_skip q1 q2 q3 q4
    | convert s d x =>
      simp only [cOp] at hc
      obtain ⟨a, ha, hc1⟩ := bind_some hc
      obtain ⟨sd, hsd, hc2⟩ := bind_some hc1
      obtain ⟨dd, hdd, hc3⟩ := bind_some hc2
      split at hc3
      · cases hc3; cases hw
      · cases hc3; cases hw
      · cases hc3; cases hw
      · split at hc3
        · cases hc3; cases hw
        · cases hc3
      · split at hc3
        · cases hc3; cases hw
        · cases hc3
      · split at hc3
        · cases hc3; cases hw
        · cases hc3
      · split at hc3
        · cases hc3; cases hw
        · cases hc3
      · split at hc3
        · rename_i hsd' he
          cases hc3
          simp only [aop, ev_k] at hk
          obtain ⟨w', q1, q2, q3, q4⟩ := run_frz (P := P) hs hsd' hsd hdd he (hρ _ _ ha) hk
          exact out_value q1 (hρ _ _ ha) q2 q3 q4
        · cases hc3
      · cases hc3
    | insert t m kx v =>
      simp only [cOp] at hc
      split at hc
      · rename_i kt et hu
        split at hc
        · rename_i hik
          obtain ⟨kk, hkk⟩ : ∃ kk, P.underlying kt = some (.int kk) := by
            unfold isInts at hik
            split at hik
            · exact ⟨_, by assumption⟩
            · cases hik
          obtain ⟨m', hm, h1⟩ := bind_some hc
          obtain ⟨k', hkx, h2⟩ := bind_some h1
          obtain ⟨v', hv, h3⟩ := bind_some h2
          cases h3
          simp only [aop, ev_k] at hk
          obtain ⟨w', h', q1, q2, q3, q4⟩ := run_mup (P := P) hs hu hkk (hρ _ _ hm) (hρ _ _ hkx) (hρ _ _ hv) hk
          exact out_skip q1 q2 q3 q4
        · cases hc
      · cases hc
    | mapUpdate t m kx v =>
      simp only [cOp] at hc
      split at hc
      · rename_i kt et hu
        split at hc
        · rename_i hik
          obtain ⟨kk, hkk⟩ : ∃ kk, P.underlying kt = some (.int kk) := by
            unfold isInts at hik
            split at hik
            · exact ⟨_, by assumption⟩
            · cases hik
          obtain ⟨m', hm, h1⟩ := bind_some hc
          obtain ⟨k', hkx, h2⟩ := bind_some h1
          obtain ⟨v', hv, h3⟩ := bind_some h2
          cases h3
          simp only [aop, ev_k] at hk
          obtain ⟨w', h', q1, q2, q3, q4⟩ := run_mup (P := P) hs hu hkk (hρ _ _ hm) (hρ _ _ hkx) (hρ _ _ hv) hk
          exact out_skip q1 q2 q3 q4
        · cases hc
      · cases hc
    | range t x =>
      simp only [cOp] at hc
      split at hc
      · rename_i kt et hu
        obtain ⟨a, ha, rfl⟩ := map_some' hc
        simp only [aop, ev_k] at hk
        obtain ⟨y, w', E', h', q1, q2, q3, q4, q5⟩ := run_rng (P := P) hs hu (hρ _ _ ha) hk
        exact out_value q1 q2 q3 q4 q5
      · obtain ⟨a, ha, rfl⟩ := map_some' hc
        exact hk.elim
      · cases hc
    | next x b =>
      cases b with
      | false =>
        obtain ⟨a, ha, rfl⟩ := map_some' hc
        simp only [aop, ev_k] at hk
        obtain ⟨y, w', v, h', q1, q2, q3, q4, q5⟩ := run_nxt (P := P) (ty := ty) hs (hρ _ _ ha) hk
        exact out_value q1 q2 q3 q4 q5
      | true =>
        obtain ⟨a, ha, rfl⟩ := map_some' hc
        exact hk.elim
    | call c => exact call_sound hC hs hρ hc hw hk
    | _ => cases hcl
end
end Go.Am
