/-
  The abstract machine, part 22: code and calls. No conditions but that drawn regions do, and what is given for functions.
-/
import Derived.Test.YtgmhcbmkdimoiaaGreatDoorAm20
namespace Go.Am
section
variable {P : Program} {E : Env} {T : Tm} {h : Hp} {nx : Nat} {w : World} {cm : Bool} {C : CallT}

def DrawOK (P : Program) : Prop := ∀ (cm : Bool) (C : CallT) (again : ACode → Tm → Hp → Nat → CK → Prop) (nt id : Nat) (ops : Array Oper) (E : Env) (T : Tm) (h : Hp) (nx : Nat) (w : World) (k : CK) (a : Act) (Q : Exit → Act → World → Prop),
  CallOK P C → HSat E h nx w → TRel E nt T a → codek cm C again (cCode P nt (.region id ops true)) T h nx k → Post nt E h nx w k Q → (Code.region id ops true).wp P Q a w

/-- What is to be known of a function of which it is told what it does. -/
def SpecOK (P : Program) (f : FuncId) (φ : List AVal → Hp → Nat → HK → Prop) : Prop := ∀ (vs : List AVal) (args : Array Value) (E : Env) (h : Hp) (nx : Nat) (w : World) (k : HK),
  HSat E h nx w → RelL E vs args.toList → φ vs h nx k → Does P ((callFunc f args).run P w) E h nx w k

/-- What is to be known of a function's entry. -/
def EntOK (P : Program) (f : FuncId) : FEnt → Prop
  | .code fn => ∃ func, P.funcs[f]? = some func ∧ cFun P func = some fn
  | .spec φ => SpecOK P f φ

theorem exk_succ (F : FuncId → Option FEnt) (m : Nat) (c : ACode) : exk cm F (m + 1) c = codek cm (funk (fun fn => exk cm F m fn.body) F) (exk cm F m) c := rfl

/-- One result, read. -/
def resRun (tmps : Array Value) : ResultVar → Sem Value
  | .tmp t => pure (tmps.getD t undef)
  | .cell a t => do loadVar t (← asAddr (tmps.getD a undef))

/-- The results that are told. -/
theorem resk_snd (hs : HSat E h nx w) {nt : Nat} {a : Act} (ht : TRel E nt T a) : ∀ {l : List ResultVar} {m : List ARes}, l.mapM (cRes P) = some m → ∀ {k : List AVal → Prop}, resk T h m k →
    ∃ vs : List AVal, ∃ xs : List Value, k vs ∧ RelL E vs xs ∧ (l.mapM (resRun a.tmps)).run P w = .ok xs w
  | [], m, hm, k, hk => by
    cases hm
    exact ⟨[], [], hk, .nil, rfl⟩
  | r :: l, m, hm, k, hk => by
    obtain ⟨b, s, hb, hms, rfl⟩ := mapM_cons_some hm
    cases r with
    | tmp t =>
      cases hb
      have hk : resk T h s (fun vs => k (tget T t :: vs)) := hk
      obtain ⟨vs, xs, h1, h2, h3⟩ := resk_snd hs ht hms hk
      refine ⟨_, _, h1, .cons _ _ _ _ (ht.vals t) h2, ?_⟩
      simp [List.mapM_cons, resRun, h3]
    | cell x t =>
      simp only [cRes] at hb
      obtain ⟨n, hn, hb⟩ := bind_some hb
      cases hb
      have hk : (match tget T x with
        | .ptr r off => match (generalizing := false) n with
          | none => rowk h r (fun cs => Option.rec (motive := fun _ => Prop) False (fun v => resk T h s fun vs => k (v :: vs)) (nth cs off)) False
          | some n => readk h r off n (fun l => resk T h s fun vs => k (.agg l :: vs)) False
        | _ => False) := hk
      have hv := ht.vals x
      generalize hp : a.tmps.getD x undef = p at hv
      split at hk
      · rename_i r off hT
        rw [hT] at hv
        cases hv with
        | ptr _ _ q hq =>
          cases n with
          | none =>
            dsimp only at hk
            obtain ⟨cs, t', m', hget', hk⟩ := rowk_prop hk
            rw [nth_eq] at hk
            cases hc : cs[off]? with
            | none => rw [hc] at hk; exact hk.elim
            | some c =>
              rw [hc] at hk
              have hk : resk T h s (fun vs => k (c :: vs)) := hk
              obtain ⟨u, hu, hrel⟩ := run_load_row (P := P) hs hget' hq off c hc
              obtain ⟨vs, xs, h1, h2, h3⟩ := resk_snd hs ht hms hk
              refine ⟨_, _, h1, .cons _ _ _ _ hrel h2, ?_⟩
              have hl : (loadVar t ⟨q.b, q.d + off, none⟩).run P w = .ok u w := by
                simp only [loadVar, Sem.run_bind, run_agg_none w hn, Result.andThen_ok]
                simpa using hu
              simp only [List.mapM_cons, resRun, hp, Sem.run_bind, asAddr, Sem.run_pure, Result.andThen_ok, hl, h3]
          | some n =>
            dsimp only at hk
            obtain ⟨cs, t', m', hget', hle, hk⟩ := readk_prop hk
            obtain ⟨u, hu, hrel⟩ := run_loadCells_row (P := P) hs hget' hq n off hle
            obtain ⟨vs, xs, h1, h2, h3⟩ := resk_snd hs ht hms hk
            refine ⟨_, _, h1, .cons _ _ _ _ (.agg _ _ hrel) h2, ?_⟩
            obtain ⟨ha1, ha2⟩ := run_agg_some (P := P) w hn
            have hl : (loadVar t ⟨q.b, q.d + off, none⟩).run P w = .ok (.agg u) w := by
              simp only [loadVar, Sem.run_bind, ha1, ha2, hu, Result.andThen_ok, if_true, Sem.run_pure]
            simp only [List.mapM_cons, resRun, hp, Sem.run_bind, asAddr, Sem.run_pure, Result.andThen_ok, hl, h3]
      · exact hk.elim

theorem resOf_rel {vs : List AVal} {xs : List Value} (hr : RelL E vs xs) : Rel E (resOf vs) (if h : xs.toArray.size = 1 then xs.toArray[0] else .tuple xs.toArray) := by
  cases hr with
  | nil => exact .tup _ _ .nil
  | cons a v l m h1 h2 =>
    cases h2 with
    | nil => exact h1
    | cons b u l m h3 h4 =>
      rw [dif_neg (by simp)]
      exact .tup _ _ (.cons _ _ _ _ h1 (.cons _ _ _ _ h3 h4))

theorem funk_sound {F : FuncId → Option FEnt} {code : AFun → Tm → Hp → Nat → CK → Prop} (hF : ∀ f e, F f = some e → EntOK P f e)
    (hcode : ∀ (fn : AFun) (nt : Nat) (c : Code), fn.body = cCode P nt c → ∀ (E : Env) (T : Tm) (h : Hp) (nx : Nat) (w : World) (k : CK) (a : Act) (Q : Exit → Act → World → Prop), HSat E h nx w → TRel E nt T a → code fn T h nx k → Post nt E h nx w k Q → c.wp P Q a w) :
    CallOK P (funk code F) := by
  intro f vs args E h nx w k hs hr hk
  unfold funk at hk
  split at hk
  · rename_i fn hf
    obtain ⟨func, hfunc, hcf⟩ := hF f _ hf
    unfold cFun at hcf
    obtain ⟨b, hb, hcf⟩ := bind_some hcf
    obtain ⟨rs, hrs, hcf⟩ := bind_some hcf
    split at hcf
    · cases hcf
    · rename_i hname
      cases hcf
      right
      rw [sel_ble, lenk_eq] at hk
      split at hk
      · rename_i hlen
        dsimp only at hlen hk
        have hn : (func.name == "runtime.NumGoroutine") = false := by simpa using hname
        have hnone : func.body.isNone = false := by rw [hb]; rfl
        refine ⟨f, args, by simp only [callFunc, Sem.run_bind, run_program, Result.andThen_ok, hfunc, hn, hnone, Bool.false_eq_true, if_false, Sem.run_pure], ?_⟩
        obtain ⟨T, hk, hT⟩ := argsT_eq vs _ hk
        have hsz : vs.length = args.size := by rw [hr.length]; simp
        refine calls_of_wp hfunc hb ?_
        refine hcode _ func.ntmps b rfl E T h nx w _ _ _ hs ?_ hk ?_
        · refine ⟨fun t => ?_, ?_, rfl⟩
          · rw [hT]
            show Rel E _ ((args ++ Array.replicate (func.ntmps - args.size) undef).getD t undef)
            rw [Array.getD_eq_getD_getElem?, Array.getElem?_append]
            by_cases ht : t < args.size
            · rw [if_pos ht]
              have h1 : vs[t]? = some vs[t] := List.getElem?_eq_getElem (by omega)
              obtain ⟨v, hv, hrel⟩ := hr.get _ _ h1
              rw [Array.getElem?_toList] at hv
              rw [hv, List.getD_eq_getElem?_getD, h1]
              exact hrel
            · rw [if_neg ht, List.getD_eq_getElem?_getD, List.getElem?_eq_none (by omega)]
              have : (Array.replicate (func.ntmps - args.size) undef)[t - args.size]?.getD undef = undef := by
                rw [Array.getElem?_replicate]
                split <;> rfl
              rw [this]
              exact rel_undef E
          · simp
            omega
        · intro e T' h' nx' E' a' w' q1 q2 q3 q4
          have fin : resk T' h' rs (fun vs => k (resOf vs) h' nx') → a'.defers = [] ∧ ∃ v, (results func a'.tmps).run P w' = .ok v w' ∧ ∃ y x E'' h'' nx'', (Ending.returned v = .returned y) ∧ Rel E'' x y ∧ HSat E'' h'' nx'' w' ∧ Goes E h nx w E'' h'' nx'' w' ∧ k x h'' nx'' := by
            intro hk
            obtain ⟨rv, xs, r1, r2, r3⟩ := resk_snd (P := P) q1 q2 hrs hk
            refine ⟨q2.defers, _, ?_, _, _, E', h', nx', rfl, resOf_rel r2, q1, q3, r1⟩
            have hres : results func a'.tmps = (do let vs ← func.results.mapM (resRun a'.tmps); pure (if h : vs.size = 1 then vs[0] else .tuple vs)) := by
              unfold results
              congr 1
            rw [hres, Array.mapM_eq_mapM_toList]
            simp only [Sem.run_bind, Sem.run_map, r3, Result.andThen_ok, Sem.run_pure]
          cases e with
          | n => exact fin q4
          | x id => exact q4.elim
          | r => exact fin q4
      · exact hk.elim
  · rename_i φ hf
    exact hF f _ hf vs args E h nx w k hs hr hk
  · exact hk.elim

theorem exk_sound {F : FuncId → Option FEnt} (hD : DrawOK P) (hF : ∀ f e, F f = some e → EntOK P f e) : ∀ (n : Nat) (nt : Nat) (c : Code) (E : Env) (T : Tm) (h : Hp) (nx : Nat) (w : World) (k : CK) (a : Act) (Q : Exit → Act → World → Prop),
    HSat E h nx w → TRel E nt T a → exk cm F n (cCode P nt c) T h nx k → Post nt E h nx w k Q → c.wp P Q a w := by
  intro n
  induction n using Nat.strongRecOn with
  | _ n ihn =>
    cases n with
    | zero => intro nt c E T h nx w k a Q _ _ hk; exact hk.elim
    | succ m =>
      have hC : CallOK P (funk (fun fn => exk cm F m fn.body) F) := funk_sound hF (fun fn nt c hb E T h nx w k a Q hs ht hk hp => ihn m (Nat.lt_succ_self _) nt c E T h nx w k a Q hs ht (by rw [← hb]; exact hk) hp)
      intro nt c
      induction c with
      | skip => intro E T h nx w k a Q hs ht hk hp; exact wp_skip (hp .n T h nx E a w hs ht (Goes.refl _ _ _ _) hk)
      | region id ops draw =>
        cases draw with
        | false =>
          intro E T h nx w k a Q hs ht hk hp
          refine wp_region ?_
          have := regk_sound (P := P) hC (ops := ops) ops.toList 0 E T h nx w a rfl hs ht (k := k) hk hp
          rw [List.range_eq_range']
          simpa using this
        | true => intro E T h nx w k a Q hs ht hk hp; exact hD cm _ _ nt id ops E T h nx w k a Q hC hs ht hk hp
      | seq x y ihx ihy =>
        intro E T h nx w k a Q hs ht hk hp
        refine wp_seq (ihx E T h nx w _ a _ hs ht (show exk cm F (m + 1) (cCode P nt x) T h nx _ from hk) ?_)
        intro e T' h' nx' E' a' w' q1 q2 q3 q4
        cases e with
        | n => exact ihy E' T' h' nx' w' k a' Q q1 q2 q4 (hp.next q3)
        | x id => exact hp (.x id) T' h' nx' E' a' w' q1 q2 q3 q4
        | r => exact hp .r T' h' nx' E' a' w' q1 q2 q3 q4
      | cond c x y ihx ihy =>
        intro E T h nx w k a Q hs ht hk hp
        cases hc : cOpd c with
        | none =>
          have : cCode P nt (.cond c x y) = .bad := by simp only [cCode, hc]
          rw [this] at hk
          exact hk.elim
        | some c' =>
          have hcc : cCode P nt (.cond c x y) = .cond c' (cCode P nt x) (cCode P nt y) := by simp only [cCode, hc]
          rw [hcc] at hk
          have hk : (match ev T c' with
            | .bool b => selP b (exk cm F (m + 1) (cCode P nt x) T h nx k) (exk cm F (m + 1) (cCode P nt y) T h nx k)
            | _ => False) := hk
          have hv := ht.opd _ _ hc
          split at hk
          · rename_i b hb
            rw [hb] at hv
            generalize hcv : a.eval c = cv at hv
            cases hv
            refine wp_cond hcv ?_
            rw [selP_eq] at hk
            cases b with
            | true => exact ihx E T h nx w k a Q hs ht (by simpa using hk) hp
            | false => exact ihy E T h nx w k a Q hs ht (by simpa using hk) hp
          · exact hk.elim
      | block id x ihx =>
        intro E T h nx w k a Q hs ht hk hp
        refine wp_block (ihx E T h nx w _ a _ hs ht (show exk cm F (m + 1) (cCode P nt x) T h nx _ from hk) ?_)
        intro e T' h' nx' E' a' w' q1 q2 q3 q4
        cases e with
        | n => exact hp .n T' h' nx' E' a' w' q1 q2 q3 q4
        | x id' =>
          have q4 : sel (Nat.beq id' id) (k .n T' h' nx') (k (.x id') T' h' nx') := q4
          rw [sel_beq] at q4
          show (if id' = id then Q .normal a' w' else Q (.exit id') a' w')
          split at q4
          · rename_i he; rw [if_pos he]; exact hp .n T' h' nx' E' a' w' q1 q2 q3 q4
          · rename_i he; rw [if_neg he]; exact hp (.x id') T' h' nx' E' a' w' q1 q2 q3 q4
        | r => exact hp .r T' h' nx' E' a' w' q1 q2 q3 q4
      | loop x ihx =>
        intro E T h nx w k a Q hs ht hk hp
        refine wp_loop_n (fun j a' w' => j ≤ m + 1 ∧ ∃ E' T' h' nx', HSat E' h' nx' w' ∧ TRel E' nt T' a' ∧ Goes E h nx w E' h' nx' w' ∧ exk cm F j (.loop (cCode P nt x)) T' h' nx' k) ?_ (m + 1) a w ⟨Nat.le_refl _, E, T, h, nx, hs, ht, Goes.refl _ _ _ _, hk⟩
        rintro j a' w' ⟨hj, E', T', h', nx', p1, p2, p3, p4⟩
        cases j with
        | zero => exact p4.elim
        | succ i =>
          have p5 : exk cm F (i + 1) (cCode P nt x) T' h' nx' (fun e T h nx => Ex.rec (motive := fun _ => Prop) (exk cm F i (.loop (cCode P nt x)) T h nx k) (fun id => k (.x id) T h nx) (k .r T h nx) e) := p4
          have hpost : Post nt E' h' nx' w' (fun e T h nx => Ex.rec (motive := fun _ => Prop) (exk cm F i (.loop (cCode P nt x)) T h nx k) (fun id => k (.x id) T h nx) (k .r T h nx) e)
              (Exit.then (fun a' w' => ∃ j', j' < i + 1 ∧ j' ≤ m + 1 ∧ ∃ E' T' h' nx', HSat E' h' nx' w' ∧ TRel E' nt T' a' ∧ Goes E h nx w E' h' nx' w' ∧ exk cm F j' (.loop (cCode P nt x)) T' h' nx' k) Q) := by
            intro e T'' h'' nx'' E'' a'' w'' q1 q2 q3 q4
            cases e with
            | n => exact ⟨i, Nat.lt_succ_self _, by omega, E'', T'', h'', nx'', q1, q2, p3.next q3, q4⟩
            | x id => exact hp (.x id) T'' h'' nx'' E'' a'' w'' q1 q2 (p3.next q3) q4
            | r => exact hp .r T'' h'' nx'' E'' a'' w'' q1 q2 (p3.next q3) q4
          rcases Nat.lt_or_ge (i + 1) (m + 1) with hlt | hge
          · exact ihn (i + 1) hlt nt x E' T' h' nx' w' _ a' _ p1 p2 p5 hpost
          · have : i = m := by omega
            subst this
            exact ihx E' T' h' nx' w' _ a' _ p1 p2 p5 hpost
      | rangeFunc f params asg x => intro E T h nx w k a Q hs ht hk hp; exact hk.elim
      | exit id => intro E T h nx w k a Q hs ht hk hp; exact wp_exit (hp (.x id) T h nx E a w hs ht (Goes.refl _ _ _ _) hk)
      | scope x ihx =>
        intro E T h nx w k a Q hs ht hk hp
        refine wp_scope_straight (ihx E T h nx w k a _ hs ht (show exk cm F (m + 1) (cCode P nt x) T h nx _ from hk) ?_)
        intro e T' h' nx' E' a' w' q1 q2 q3 q4
        have := hp e T' h' nx' E' a' w' q1 q2 q3 q4
        cases e <;> exact this
      | label l => intro E T h nx w k a Q hs ht hk hp; exact wp_label (hp .n T h nx E a w hs ht (Goes.refl _ _ _ _) hk)
      | goto l => intro E T h nx w k a Q hs ht hk hp; exact hk.elim
      | ret => intro E T h nx w k a Q hs ht hk hp; exact wp_ret (hp .r T h nx E a w hs ht (Goes.refl _ _ _ _) hk)
      | refuse y => intro E T h nx w k a Q hs ht hk hp; exact hk.elim

/-- A CALL DOES WHAT IS TOLD. -/
theorem callk_sound {F : FuncId → Option FEnt} (hD : DrawOK P) (hF : ∀ f e, F f = some e → EntOK P f e) (n : Nat) : CallOK P (callk cm F n) :=
  funk_sound hF (fun fn nt c hb E T h nx w k a Q hs ht hk hp => exk_sound hD hF n nt c E T h nx w k a Q hs ht (by rw [← hb]; exact hk) hp)
end
end Go.Am
