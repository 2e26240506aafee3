/-
  One round: from a run of the evaluator to a call. Conditions: that calls do what is told.
-/
import Derived.Test.YtgmhcbmkdimoiaaGreatDoorTp
set_option maxRecDepth 1000000
namespace Go.Am

/-! Heaps of lists -/
noncomputable def mkh (l : List (Nat × AObj)) (h : Hp) : Hp := l.foldl (fun h p => Tr.set p.2 h (Nat.succ p.1)) h
theorem mkk_eq (l : List (Nat × AObj)) : ∀ (h : Hp) (k : Hp → Prop), mkk l h k = k (mkh l h) := by
  induction l with
  | nil => intro h k; rfl
  | cons p l ih =>
    intro h k
    show hset h p.1 p.2 (fun h => mkk l h k) = _
    rw [hset_k, ih]
    rfl
theorem hget_mkh (l : List (Nat × AObj)) : ∀ (h : Hp) (n : Nat) (o : AObj), hget (mkh l h) n = some o → (n, o) ∈ l ∨ hget h n = some o := by
  induction l with
  | nil => intro h n o ho; exact .inr ho
  | cons p l ih =>
    intro h n o ho
    rcases ih (Tr.set p.2 h (Nat.succ p.1)) n o ho with h1 | h1
    · exact .inl (List.mem_cons_of_mem _ h1)
    · rw [hget_hset] at h1
      by_cases e : n = p.1
      · rw [if_pos e] at h1
        cases h1
        subst e
        exact .inl List.mem_cons_self
      · rw [if_neg e] at h1
        exact .inr h1
theorem hget_mkh_mem (l : List (Nat × AObj)) : ∀ (h : Hp) (p : Nat × AObj), p ∈ l → (l.map (·.1)).Nodup → hget (mkh l h) p.1 = some p.2 := by
  induction l with
  | nil => intro h p hp; cases hp
  | cons q l ih =>
    intro h p hp hn
    rw [List.map_cons, List.nodup_cons] at hn
    rcases List.mem_cons.1 hp with rfl | hp
    · have key : ∀ (l : List (Nat × AObj)) (h : Hp), p.1 ∉ l.map (·.1) → hget (mkh l h) p.1 = hget h p.1 := by
        intro l
        induction l with
        | nil => intro h _; rfl
        | cons q l ih =>
          intro h hm
          rw [List.map_cons, List.mem_cons] at hm
          have h1 : p.1 ≠ q.1 := fun e => hm (.inl e)
          have h2 : p.1 ∉ l.map (·.1) := fun e => hm (.inr e)
          show hget (mkh l (Tr.set q.2 h (Nat.succ q.1))) p.1 = _
          rw [ih _ h2, hget_hset, if_neg h1]
      show hget (mkh l (Tr.set p.2 h (Nat.succ p.1))) p.1 = _
      rw [key l _ hn.1, hget_hset, if_pos rfl]
    · exact ih _ p hp hn.2

theorem chk_all {σ : Nat → Nat} {h : Hp} : ∀ (l : List (Nat × AObj)), Chk σ h l → ∀ p ∈ l, hget h (σ p.1) = some p.2
  | [], _, p, hp => by cases hp
  | q :: l, hc, p, hp => by
    have hc : (hget h (σ q.1) = some q.2) ∧ Chk σ h l := hc
    rcases List.mem_cons.1 hp with rfl | hp
    · exact hc.1
    · exact chk_all l hc.2 p hp
theorem chkR_true : ∀ (l : List (Nat × AObj)), ChkR l
  | [] => trivial
  | q :: l => show (some q.2 = some q.2) ∧ ChkR l from ⟨rfl, chkR_true l⟩

/-! Heaps, told otherwise -/
theorem HSat.look {E : Env} {h h' : Hp} {nx : Nat} {w : World} (hs : HSat E h nx w) (he : ∀ n o, hget h' n = some o → hget h n = some o ∨ E n = none) : HSat E h' nx w := by
  refine ⟨hs.fresh, fun n o r hn hr => ?_, fun a b x y ra rb ha hb hab hx hra hrb => ?_⟩
  · rcases he n o hn with h1 | h1
    · exact hs.obj n o r h1 hr
    · rw [h1] at hr; cases hr
  · rcases he a x ha with h1 | h1
    · rcases he b y hb with h2 | h2
      · exact hs.apart a b x y ra rb h1 h2 hab hx hra hrb
      · rw [h2] at hrb; cases hrb
    · rw [h1] at hra; cases hra
theorem HSat.ext {E E' : Env} {h : Hp} {nx nx' : Nat} {w : World} (hs : HSat E h nx w) (hx : Ext E E') (hf : ∀ n, nx' ≤ n → E' n = none) (hsame : ∀ n o, hget h n = some o → E' n = E n) : HSat E' h nx' w := by
  refine ⟨hf, fun n o r hn hr => ?_, fun a b x y ra rb ha hb hab hx' hra hrb => ?_⟩
  · rw [hsame n o hn] at hr
    exact (hs.obj n o r hn hr).mono hx
  · rw [hsame a x ha] at hra
    rw [hsame b y hb] at hrb
    exact hs.apart a b x y ra rb ha hb hab hx' hra hrb
theorem FP.ext {E E' : Env} {h : Hp} {b : Nat} (hsame : ∀ n o, hget h n = some o → E' n = E n) (hf : FP E' h b) : FP E h b := by
  obtain ⟨n, o, r, h1, h2, h3, h4⟩ := hf
  rw [hsame n o h1] at h3
  exact ⟨n, o, r, h1, h2, h3, h4⟩
/-- The same world, an object told otherwise. -/
theorem HSat.retell {E : Env} {h : Hp} {nx : Nat} {w : World} {n : Nat} {o o' : AObj} {r : Reg} (hs : HSat E h nx w) (hn : hget h n = some o) (ho : own o = true) (hr : E n = some r) (ho' : ObjRel E w o' r) :
    HSat E (Tr.set o' h (Nat.succ n)) nx w := hs.update hn ho hr (fun _ _ => rfl) ho'
theorem objrel_set {E : Env} {w : World} {cs : List AVal} {t : TypeId} {m : RMode} {r : Reg} (h : ObjRel E w (.row cs t m) r) (i : Nat) (a c : AVal) (hi : cs[i]? = some a) (hone : oneV c = true) (himp : ∀ v, Rel E a v → Rel E c v) :
    ObjRel E w (.row (cs.set i c) t m) r := by
  obtain ⟨cells, fr, h1, h2, h3, h4, h5, h6, h7, h8⟩ := h
  have hlt : i < cs.length := (List.getElem?_eq_some_iff.1 hi).1
  refine ⟨cells, fr, h1, h2, by simpa using h3, by simpa using h4, h5, (fun ho => h6 (by cases m <;> exact ho)), ?_, fun j x hj => ?_⟩
  · rw [onesV_eq, List.all_eq_true] at h7 ⊢
    intro x hx
    rcases List.mem_or_eq_of_mem_set hx with h | rfl
    · exact h7 x h
    · exact hone
  · rw [List.getElem?_set] at hj
    by_cases e : i = j
    · subst e
      rw [if_pos rfl, if_pos hlt] at hj
      cases hj
      obtain ⟨v, hv, hr⟩ := h8 i a hi
      exact ⟨v, hv, himp v hr⟩
    · rw [if_neg e] at hj
      exact h8 j x hj

/-! The names of a state's objects -/
theorem Ts_congr {σ τ : Nat → Nat} (d : D) (h : ∀ n, n < 34 → σ n = τ n) : Ts σ d = Ts τ d := by
  obtain ⟨row, col, wrap, char, rl, a, g, top, first, u2, u3, L, pf, ps, say, pv, fk, rp⟩ := d
  have e (n : Nat) (hn : n < 34) := h n hn
  unfold Ts
  cases rl <;> cases pv <;> cases rp <;> simp only [rvv, rvo, pvv, rlv, rlo, e 1 (by omega), e 2 (by omega), e 3 (by omega), e 4 (by omega), e 5 (by omega), e 6 (by omega), e 7 (by omega), e 8 (by omega), e 9 (by omega), e 10 (by omega), e 11 (by omega), e 12 (by omega), e 13 (by omega), e 14 (by omega), e 15 (by omega), e 16 (by omega), e 17 (by omega), e 18 (by omega), e 19 (by omega), e 20 (by omega), e 21 (by omega), e 22 (by omega), e 23 (by omega), e 24 (by omega), e 25 (by omega), e 26 (by omega), e 27 (by omega), e 28 (by omega), e 29 (by omega), e 30 (by omega), e 31 (by omega), e 33 (by omega)]
theorem Ts_keys (σ : Nat → Nat) (d : D) : (Ts σ d).map (·.1) = List.range 32 := by rfl
theorem Ts_nodup (σ : Nat → Nat) (d : D) : ((Ts σ d).map (·.1)).Nodup := by rw [Ts_keys]; exact List.nodup_range
theorem Ts_lt {σ : Nat → Nat} {d : D} {p : Nat × AObj} (hp : p ∈ Ts σ d) : p.1 < 32 := by
  have : p.1 ∈ (Ts σ d).map (·.1) := List.mem_map_of_mem hp
  rw [Ts_keys] at this
  exact List.mem_range.1 this

/-- What is symbolic in a state has no names that turn. -/
structure Still (σ : Nat → Nat) (d : D) : Prop where
  row : ren σ d.row = d.row
  col : ren σ d.col = d.col
  wrap : ren σ d.wrap = d.wrap
  char : ren σ d.char = d.char
  u2 : ren σ d.u2 = d.u2
  u3 : ren σ d.u3 = d.u3
  L : ∀ i, renL σ (d.L i) = d.L i
  pf : ren σ d.pf = d.pf
  ps : ren σ d.ps = d.ps
  say : ren σ d.say = d.say
  fk : ∀ i, ren σ (d.fk i) = d.fk i
  rp : match d.rp with | .row _ l => renL σ l = l | .hid _ l => renL σ l = l | _ => True

theorem Ts_ren (σ : Nat → Nat) (d : D) (hs : Still σ d) : (Ts idN d).map (fun p => (p.1, renO σ p.2)) = Ts σ d := by
  obtain ⟨row, col, wrap, char, rl, a, g, top, first, u2, u3, L, pf, ps, say, pv, fk, rp⟩ := d
  obtain ⟨h1, h2, h3, h4, h5, h6, h7, h8, h9, h10, h11, h12⟩ := hs
  dsimp only at h1 h2 h3 h4 h5 h6 h7 h8 h9 h10 h11 h12
  unfold Ts
  cases rl <;> cases pv <;> cases rp <;>
    simp only [List.map_cons, List.map_nil, renO, renL, ren, rvv, rvo, pvv, rlv, rlo, gN, fB, b8, blank, idN, h1, h2, h3, h4, h5, h6, h7, h8, h9, h10, h11] <;> simp_all only

/-- A call that is a Go function's, out of what is told of it. -/
theorem does_ret {P : Program} {f : FuncId} {func : Func} {args : Array Value} {E : Env} {h : Hp} {nx : Nat} {w : World} {k : HK} (hf : P.funcs[f]? = some func) (hn : (func.name == "runtime.NumGoroutine") = false) (hb : func.body.isNone = false)
    (hd : Does P ((callFunc f args).run P w) E h nx w k) : Ret P f args E h nx w k := by
  have hr : (callFunc f args).run P w = .ok (.enter f args) w := by
    simp only [callFunc, Sem.run_bind, run_program, Result.andThen_ok, hf, hn, hb, Bool.false_eq_true, if_false, Sem.run_pure]
  rw [hr] at hd
  rcases hd with ⟨y, w', E', x, h', nx', h1, _⟩ | ⟨f', args', h1, h2⟩
  · rcases h1 with h1 | ⟨h1, _⟩ <;> cases h1
  · injection h1 with h1 _
    injection h1 with h3 h4
    subst h3 h4
    exact h2

/-- What is left as it was by what works on the objects of a heap alone. -/
structure Keeps (B : Nat → Prop) (w w' : World) : Prop where
  size : w.heap.size ≤ w'.heap.size
  keep : ∀ b, b < w.heap.size → ¬ B b → w'.heap[b]? = w.heap[b]?
  os : w'.os = w.os
  tape : w'.tape = w.tape
  output : w'.output = w.output

/-- The names from 34 on are free. -/
structure TI (d : D) (E : Env) (w : World) : Prop where
  sat : HSat E (mkh (Ts idN d) .nil) 34 w
  buf : E 32 = none
noncomputable abbrev hd (d : D) : Hp := mkh (Ts idN d) .nil
theorem hget_hd {d : D} {n : Nat} {o : AObj} (h : hget (hd d) n = some o) : (n, o) ∈ Ts idN d := by
  rcases hget_mkh _ _ _ _ h with h | h
  · exact h
  · rw [hget_nil] at h; cases h
theorem hd_get {d : D} {p : Nat × AObj} (h : p ∈ Ts idN d) : hget (hd d) p.1 = some p.2 := hget_mkh_mem _ _ p h (Ts_nodup _ _)
theorem hd_lt {d : D} {n : Nat} {o : AObj} (h : hget (hd d) n = some o) : n < 32 := Ts_lt (hget_hd h)

/-- THE RUN OF ONE ROUND, over a state with tokens: the next state, its names as they were. -/
theorem round {P : Program} {F : FuncId → Option FEnt} {func : Func} (hC : CallOK P (callk true F 100000)) (hf : P.funcs[7]? = some func) (hn : (func.name == "runtime.NumGoroutine") = false) (hb : func.body.isNone = false)
    {c : Nat} {d d' : D} {l : List (Nat × Nat)} (hrun : Run3 F c d d' (sg l) = ((AVal.tup [] = AVal.tup []) ∧ ChkR (Ts (sg l) d'))) (hinj : ∀ n m, n < 32 → m < 32 → sg l n = sg l m → n = m) (h0 : sg l 0 = 0)
    {cv : Array Value} (hcv : ∀ E, RelL E (cmdB c) cv.toList) (hcn : cv.size = cmdN c) (hco : onesV (cmdB c) = true) {fr : Nat × Nat} (hfr : fr.1 = fr.2 ∨ cv.size ≤ fr.1)
    (hst : ∀ nx', Still (fun n => if n = 32 ∨ 40 ≤ n then nx' + n else sg l n) d') (h3x : ∀ n, 33 ≤ n → n < 40 → sg l n = n)
    {E : Env} {w : World} (hs : HSat E (hd d) 40 w) (h32 : E 32 = none) {r0 : Reg} (hr0 : E 0 = some r0) :
    Calls P 7 #[.pointer (some ⟨r0.b, r0.d, none⟩), .slice (some ⟨w.heap.size, 0, none⟩) (cmdN c) (cmdN c)] (w.alloc (.cells cv 5 fr)) fun e w' =>
      e = .returned (.tuple #[]) ∧ ∃ E1, HSat E1 (hd d') 40 w' ∧ E1 32 = none ∧ (∀ n, 33 ≤ n → n < 40 → E1 n = E n) ∧ E1 0 = E 0 ∧ Keeps (FP E (hd d)) w w' ∧ ∀ b, b < w.heap.size → ¬ FP E (hd d) b → ¬ FP E1 (hd d') b := by
  unfold Run3 RunW at hrun
  rw [mkk_eq, hset_k] at hrun
  have hlen : (cmdB c).length = cmdN c := by rw [(hcv E).length]; simpa using hcn
  -- the buffer
  have hbuf : HSat (E.put 32 ⟨w.heap.size, 0, cmdN c, 1, []⟩) (Tr.set (.row (cmdB c) 5 .exact) (hd d) (Nat.succ 32)) 40 (w.alloc (.cells cv 5 fr)) := by
    refine hs.alloc h32 (by omega) (Nat.le_refl _) (x := .cells cv 5 fr) ?_
    refine ⟨cv, fr, heap_new w _, by show 0 + cmdN c ≤ cv.size; omega, by show (cmdB c).length ≤ cmdN c; omega, fun _ => ⟨by show (cmdB c).length = cmdN c; omega, rfl, by omega⟩, (by rintro s (h | h) <;> cases h), fun _ => hfr, hco, fun i a hi => ?_⟩
    obtain ⟨v, hv, hrel⟩ := (hcv (E.put 32 ⟨w.heap.size, 0, cmdN c, 1, []⟩)).get i a hi
    exact ⟨v, by rw [Nat.zero_add, ← Array.getElem?_toList]; exact hv, hrel⟩
  have hE0 : (E.put 32 ⟨w.heap.size, 0, cmdN c, 1, []⟩) 0 = some r0 := by rw [Env.put_other _ _ _ _ (by omega)]; exact hr0
  have hdoes := hC 7 [.ptr 0 0, .slc 32 0 (cmdN c) (some (cmdN c))] #[.pointer (some ⟨r0.b, r0.d, none⟩), .slice (some ⟨w.heap.size, 0, none⟩) (cmdN c) (cmdN c)] _ _ 40 _ (fun v h _ => (v = AVal.tup []) ∧ Chk (sg l) h (Ts (sg l) d')) hbuf
    (.cons _ _ _ _ (by have := Rel.ptr (E := E.put 32 ⟨w.heap.size, 0, cmdN c, 1, []⟩) 0 0 r0 hE0; simpa using this)
      (.cons _ _ _ _ (by have := Rel.slcS (E := E.put 32 ⟨w.heap.size, 0, cmdN c, 1, []⟩) 32 0 (cmdN c) (cmdN c) _ (Env.put_same _ _ _); simpa using this) .nil))
    (by rw [hrun]; exact ⟨rfl, chkR_true _⟩)
  have hret := does_ret hf hn hb hdoes
  refine Calls.mono hret fun e w' ⟨y, x, E', h', nx', he, hrel, hsat, hgo, hx, hchk⟩ => ?_
  subst hx
  have hy : y = .tuple #[] := by
    cases hrel with
    | tup _ z hz =>
      have h1 := hz.length
      have : z = #[] := Array.eq_empty_of_size_eq_zero (by simpa using h1.symm)
      rw [this]
  subst hy
  refine ⟨he, ?_⟩
  have hall := chk_all _ hchk
  have hle : 40 ≤ nx' := hgo.le
  have hσ : ∀ n, n < 34 → sg l n = (if n = 32 ∨ 40 ≤ n then nx' + n else sg l n) ∨ n = 32 := by
    intro n hn
    by_cases e : n = 32
    · exact .inr e
    · left; rw [if_neg (by omega)]
  have hE'same : ∀ n, 33 ≤ n → n < 40 → E' n = E n := by
    intro n h1 h2
    rw [hgo.same n h2, Env.put_other _ _ _ _ (by omega)]
  have hTs : Ts (fun n => if n = 32 ∨ 40 ≤ n then nx' + n else sg l n) d' = Ts (sg l) d' := by
    rw [← Ts_ren _ _ (hst nx')]
    have key : ∀ (ν : Nat → Nat), Ts ν d' = Ts (fun n => if n = 32 then 0 else ν n) d' := fun ν => by
      obtain ⟨row, col, wrap, char, rl, a, g, top, first, u2, u3, L, pf, ps, say, pv, fk, rp⟩ := d'
      rfl
    rw [Ts_ren _ _ (hst nx'), key, key (sg l)]
    refine Ts_congr _ fun n hn => ?_
    by_cases e : n = 32
    · rw [if_pos e, if_pos e]
    · rw [if_neg e, if_neg e, if_neg (by omega)]
  have hren : HSat (fun n => E' (if n = 32 ∨ 40 ≤ n then nx' + n else sg l n)) (hd d') 40 w' := by
    refine hsat.ren _ ?_ ?_ ?_
    · intro n hn
      rw [if_pos (.inr hn)]
      omega
    · intro n o ho
      have hm := hget_hd ho
      have hlt := hd_lt ho
      rw [if_neg (by omega)]
      refine hall (n, renO _ o) ?_
      rw [← hTs, ← Ts_ren _ _ (hst nx')]
      exact List.mem_map.2 ⟨(n, o), hm, rfl⟩
    · intro n m o o' h1 h2 hne
      have hlt := hd_lt h1
      have hlt' := hd_lt h2
      rw [if_neg (by omega), if_neg (by omega)]
      exact fun e => hne (hinj n m hlt hlt' e)
  have hfp : ∀ b, b < w.heap.size → ¬ FP E (hd d) b → ¬ FP (E.put 32 ⟨w.heap.size, 0, cmdN c, 1, []⟩) (Tr.set (.row (cmdB c) 5 .exact) (hd d) (Nat.succ 32)) b := by
    intro b hb hf hf'
    rcases hf'.put with e | e
    · have e : b = w.heap.size := e
      omega
    · exact hf e
  have hsz : (w.alloc (.cells cv 5 fr)).heap.size = w.heap.size + 1 := by
    show (w.heap.push _).size = _
    simp
  have hold : ∀ b, b < w.heap.size → (w.alloc (.cells cv 5 fr)).heap[b]? = w.heap[b]? := by
    intro b hb
    show (w.heap.push _)[b]? = _
    rw [Array.getElem?_push, if_neg (by omega)]
  refine ⟨_, hren, ?_, ?_, ?_, ⟨?_, ?_, hgo.trans.os, hgo.trans.tape, hgo.trans.output⟩, ?_⟩
  · rw [if_pos (.inl rfl)]
    exact hsat.fresh _ (by omega)
  · intro n h1 h2
    rw [if_neg (by omega), h3x n h1 h2]
    exact hE'same n h1 h2
  · rw [if_neg (by omega), h0, hgo.same 0 (by omega), Env.put_other _ _ _ _ (by omega)]
  · have := hgo.trans.size
    rw [hsz] at this
    omega
  · intro b hb hf
    rw [(hgo.trans.keep b (by rw [hsz]; omega) (hfp b hb hf)).1]
    exact hold b hb
  · intro b hb hf hf'
    refine (hgo.trans.keep b (by rw [hsz]; omega) (hfp b hb hf)).2 ?_
    refine FP.ren (h := h') (h' := hd d') (fun n => if n = 32 ∨ 40 ≤ n then nx' + n else sg l n) ?_ hf'
    intro n o ho
    have hm := hget_hd ho
    have hlt := hd_lt ho
    rw [if_neg (by omega)]
    refine hall (n, renO _ o) ?_
    rw [← hTs, ← Ts_ren _ _ (hst nx')]
    exact List.mem_map.2 ⟨(n, o), hm, rfl⟩
end Go.Am
