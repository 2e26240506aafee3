/-
  Feeding a command: the state and the replies behind it. Conditions: that calls do what is told.
-/
import Derived.Test.YtgmhcbmkdimoiaaGreatDoorRs
import Derived.Test.YtgmhcbmkdimoiaaGreatDoorGs
set_option maxRecDepth 1000000
namespace Go.Am
open Go.RowKit

def cmdS (c : Nat) : List Nat := match c with
  | 0 => [27, 91, 53, 110]
  | 1 => [27, 91, 99]
  | 2 => [27, 95, 71, 97, 61, 113, 44, 105, 61, 51, 44, 115, 61, 49, 44, 118, 61, 49, 59, 65, 65, 65, 65, 65, 65, 27, 92]
  | _ => [120]
def repS (c : Nat) : List Nat := match c with
  | 0 => [27, 91, 48, 110]
  | 1 => [27, 91, 63, 54, 50, 59, 52, 99]
  | 2 => [27, 95, 71, 105, 61, 51, 59, 79, 75, 27, 92]
  | _ => []
def cmdV (c : Nat) : Array Value := ((cmdS c).map bv).toArray
theorem relL_b8 (E : Env) : ∀ (l : List Nat), RelL E (l.map b8) (l.map bv)
  | [] => .nil
  | n :: l => .cons _ _ _ _ (.int _ _) (relL_b8 E l)
theorem relL_b8_eq {E : Env} : ∀ {l : List Nat} {m : List Value}, RelL E (l.map b8) m → m = l.map bv
  | [], m, h => by cases h; rfl
  | n :: l, m, h => by
    cases h with
    | cons _ v _ m h t => rw [rel_b8 h, relL_b8_eq t]; rfl
theorem cmdB_eq {c : Nat} (hc : c ≤ 3) : cmdB c = (cmdS c).map b8 := by
  match c, hc with
  | 0, _ => rfl
  | 1, _ => rfl
  | 2, _ => rfl
  | 3, _ => rfl
  | n + 4, h => exact absurd h (by omega)
theorem cmdV_rel {c : Nat} (hc : c ≤ 3) (E : Env) : RelL E (cmdB c) (cmdV c).toList := by rw [cmdB_eq hc]; exact relL_b8 E _
theorem cmdV_size {c : Nat} (hc : c ≤ 3) : (cmdV c).size = cmdN c := by
  match c, hc with
  | 0, _ => rfl
  | 1, _ => rfl
  | 2, _ => rfl
  | 3, _ => rfl
  | n + 4, h => exact absurd h (by omega)
theorem cmdB_ones {c : Nat} (hc : c ≤ 3) : onesV (cmdB c) = true := by
  match c, hc with
  | 0, _ => rfl
  | 1, _ => rfl
  | 2, _ => rfl
  | 3, _ => rfl
  | n + 4, h => exact absurd h (by omega)
theorem repB_eq {c : Nat} (hc : c < 3) : repB c = (repS c).map b8 ∧ repN c = (repS c).length ∧ (repS c).length ≤ 11 := by
  match c, hc with
  | 0, _ => exact ⟨rfl, rfl, by decide⟩
  | 1, _ => exact ⟨rfl, rfl, by decide⟩
  | 2, _ => exact ⟨rfl, rfl, by decide⟩
  | n + 3, h => exact absurd h (by omega)

theorem good_out {l : List (Nat × Nat)} (h : good l = true) : (∀ n m, n < 32 → m < 32 → sg l n = sg l m → n = m) ∧ sg l 0 = 0 ∧ ∀ n, 33 ≤ n → n < 40 → sg l n = n := by
  unfold good at h
  simp only [Bool.and_eq_true, List.all_eq_true, List.mem_range, Bool.or_eq_true, Bool.not_eq_true'] at h
  obtain ⟨⟨h1, h2⟩, h3⟩ := h
  refine ⟨fun n m hn hm e => ?_, Nat.eq_of_beq_eq_true h2, fun n h4 h5 => ?_⟩
  · rcases h1 n hn m hm with h | h
    · exact Nat.eq_of_beq_eq_true h
    · rw [e, Nat.beq_refl] at h; cases h
  · have := Nat.eq_of_beq_eq_true (h3 (n - 33) (by omega))
    rwa [show n - 33 + 33 = n by omega] at this
theorem good_c (c : Nat) (hc : c < 3) (pv : PV) : good (sgl c pv) = true :=
  match c, hc, pv with
  | 0, _, .n => by kernel_rfl
  | 0, _, .a => by kernel_rfl
  | 0, _, .b => by kernel_rfl
  | 1, _, .n => by kernel_rfl
  | 1, _, .a => by kernel_rfl
  | 1, _, .b => by kernel_rfl
  | 2, _, .n => by kernel_rfl
  | 2, _, .a => by kernel_rfl
  | 2, _, .b => by kernel_rfl
  | n + 3, h, _ => absurd h (by omega)

def Plain (a : AVal) : Prop := ∀ σ, ren σ a = a
theorem plain_int (k : IntKind) (n : Int) : Plain (.int k n) := fun σ => by rw [ren]
theorem plain_bool (b : Bool) : Plain (.bool b) := fun σ => by rw [ren]
theorem plain_fn (f : FuncId) : Plain (.fn f [] []) := fun σ => by rw [ren, renL]
theorem plainL_of {σ : Nat → Nat} : ∀ {l : List AVal}, (∀ a ∈ l, Plain a) → renL σ l = l
  | [], _ => by rw [renL]
  | a :: l, h => by rw [renL, h a List.mem_cons_self σ, plainL_of fun b hb => h b (List.mem_cons_of_mem _ hb)]
theorem plain_xs (σ : Nat → Nat) (n : Nat) : renL σ (xs n) = xs n := by
  unfold xs
  split <;> simp only [blank, gN, renL, ren]
theorem plain_xl (σ : Nat → Nat) (r : XR) (i : Nat) : renL σ (xl r i) = xl r i := by
  unfold xl
  split <;> first | exact plain_xs _ _ | (split <;> first | exact plain_xs _ _ | rw [renL])

/-- What a state bears beside its shape. -/
structure Pl (u2 u3 pf ps say : AVal) (fk : Nat → AVal) : Prop where
  u2 : Plain u2
  u3 : Plain u3
  pf : Plain pf
  ps : Plain ps
  say : Plain say
  fk : ∀ i, Plain (fk i)

/-- A state and the replies that wait in it. -/
structure SI (R : List Nat) (d : D) (E : Env) (w : World) : Prop where
  sat : HSat E (hd d) 40 w
  free : Free E
  rp : (d.rp = .n ∧ R = []) ∨ (d.rp = .o ∧ ∃ r, E 33 = some r ∧ r.f = R.map bv)

def dz : D := mkD 0 .n .n .nilp .nilp .nilp .nilp .nilp .nilp .nilp .nilp .nilp (fun _ => []) (fun _ => .nilp)
/-- The blocks that a terminal owns. -/
def Own (E : Env) (b : Nat) : Prop := FP E (hd dz) b

/-- What was replied is bytes. -/
def RVok (rp : RV) : Prop := match rp with | .row _ l => ∃ s : List Nat, l = s.map b8 | .hid _ l => ∃ s : List Nat, l = s.map b8 | _ => True
theorem still_at {l : List (Nat × Nat)} (hg : good l = true) (nx' : Nat) {q : Nat} {pv : PV} {rp : RV} {row col wrap char u2 u3 pf ps say : AVal} {L : Nat → List AVal} {fk : Nat → AVal} (hpl : Pl u2 u3 pf ps say fk) (hc : Plain char) (hL : ∀ σ i, renL σ (L i) = L i)
    (h1 : Plain row ∨ row = .tok 34) (h2 : Plain col ∨ col = .tok 35) (h3 : Plain wrap ∨ wrap = .tok 36) (hr : RVok rp) :
    Still (fun n => if n = 32 ∨ 40 ≤ n then nx' + n else sg l n) (mkD q pv rp row col wrap char u2 u3 pf ps say L fk) := by
  obtain ⟨_, _, g3⟩ := good_out hg
  have ht : ∀ (a : AVal) (j : Nat), 33 ≤ j → j < 40 → (Plain a ∨ a = .tok j) → ren (fun n => if n = 32 ∨ 40 ≤ n then nx' + n else sg l n) a = a := by
    intro a j hj1 hj2 h
    rcases h with h | rfl
    · exact h _
    · rw [ren, if_neg (by omega), g3 j hj1 hj2]
  have hb8 : ∀ s : List Nat, ∀ a ∈ s.map b8, Plain a := fun s a ha => by
    obtain ⟨n, _, rfl⟩ := List.mem_map.1 ha
    exact plain_int _ _
  refine ⟨ht _ 34 (by omega) (by omega) h1, ht _ 35 (by omega) (by omega) h2, ht _ 36 (by omega) (by omega) h3, hc _, hpl.u2 _, hpl.u3 _, fun i => hL _ i, hpl.pf _, hpl.ps _, hpl.say _, fun i => hpl.fk i _, ?_⟩
  cases rp with
  | n => exact trivial
  | o => exact trivial
  | row m l => obtain ⟨s, rfl⟩ := hr; exact plainL_of (hb8 s)
  | hid m l => obtain ⟨s, rfl⟩ := hr; exact plainL_of (hb8 s)
theorem still3 {q : Nat} {pv : PV} {rp : RV} {row col wrap char u2 u3 pf ps say : AVal} {L : Nat → List AVal} {fk : Nat → AVal} (σ : Nat → Nat) (hpl : Pl u2 u3 pf ps say fk) (hc : Plain char) (hL : ∀ σ i, renL σ (L i) = L i)
    (h1 : Plain row) (h2 : Plain col) (h3 : Plain wrap) (hr : RVok rp) : Still σ (mkD q pv rp row col wrap char u2 u3 pf ps say L fk) := by
  have hb8 : ∀ s : List Nat, ∀ a ∈ s.map b8, Plain a := fun s a ha => by
    obtain ⟨n, _, rfl⟩ := List.mem_map.1 ha
    exact plain_int _ _
  refine ⟨h1 _, h2 _, h3 _, hc _, hpl.u2 _, hpl.u3 _, fun i => hL _ i, hpl.pf _, hpl.ps _, hpl.say _, fun i => hpl.fk i _, ?_⟩
  cases rp with
  | n => exact trivial
  | o => exact trivial
  | row m l => obtain ⟨s, rfl⟩ := hr; exact plainL_of (hb8 s)
  | hid m l => obtain ⟨s, rfl⟩ := hr; exact plainL_of (hb8 s)

/-- Replies that came are taken in. -/
theorem take_in {d : D} {E : Env} {w : World} {R s : List Nat} {m : Nat} (hs : HSat E (hd d) 40 w) (hF : Free E) {r0 : Reg} (h0 : E 0 = some r0) (hm : m = s.length) (hlen : R.length + s.length ≤ 1048576)
    (hrp : (d.rp = .row m (s.map b8) ∧ R = []) ∨ (d.rp = .hid m (s.map b8) ∧ ∃ r, E 33 = some r ∧ r.f = R.map bv)) (hst : Still σ3 { d with rp := .o }) :
    ∃ E', SI (R ++ s) { d with rp := .o } E' w ∧ E' 0 = E 0 ∧ ∀ b, FP E' (hd { d with rp := .o }) b → FP E (hd d) b := by
  have hroot := hs.obj 0 _ _ root_get h0
  obtain ⟨_, _, _, _, _, _, _, _, _, h12⟩ := hroot
  obtain ⟨v12, _, hv12⟩ := h12 12 (rvv idN d.rp) rfl
  have g31 : hget (hd d) 31 = some (rvo idN d.rp) := hd_get (p := (31, _)) (List.mem_iff_getElem?.2 ⟨31, rfl⟩)
  rcases hrp with ⟨hrp, rfl⟩ | ⟨hrp, r33, h33, hf33⟩
  · rw [hrp] at hv12 g31
    have h31 : ∃ r31, E 31 = some r31 := by
      cases hv12 with
      | slcN _ _ _ c r hr _ _ => exact ⟨r, hr⟩
    obtain ⟨r31, h31⟩ := h31
    obtain ⟨cells, fr, q1, q2, q3, q4, q5, q6, q7, q8⟩ := hs.obj 31 _ _ g31 h31
    have hs1 : r31.s = 1 := q5 1 (.inl rfl)
    obtain ⟨E', e1, e2, ⟨r, e3, e4⟩, e5, e6⟩ := absorb (f' := s.map bv) hs hF h0 h31 hst ⟨cells, fr, q1, q2, by simpa using q3, hs1, by simp at hlen; simp; omega, q6 rfl, fun i v hi => by
        rw [List.getElem?_map] at hi
        cases hsi : s[i]? with
        | none => rw [hsi] at hi; cases hi
        | some b =>
          rw [hsi] at hi
          cases hi
          obtain ⟨v, hv, hrel⟩ := q8 i (b8 b) (by rw [List.getElem?_map, hsi]; rfl)
          rw [hv, rel_b8 hrel]⟩
      (fun E2 v h2 hv => by
        rw [hrp] at hv
        have hv : Rel E2 (.slc 31 0 m none) v := hv
        cases hv with
        | slcN _ _ _ c r hr hc hl =>
          rw [h2] at hr
          cases hr
          rw [hs1] at hc
          refine ⟨c, ?_, by simpa [hm] using hl, by omega⟩
          rw [hm, List.length_map]
          rfl)
    exact ⟨E', ⟨e1, e2, .inr ⟨rfl, r, e3, by simpa using e4⟩⟩, e5, e6⟩
  · rw [hrp] at hv12 g31
    have h31 : ∃ r31, E 31 = some r31 := by
      cases hv12 with
      | slo _ _ q c r hr _ _ _ => exact ⟨r, hr⟩
    obtain ⟨r31, h31⟩ := h31
    have hobj := hs.obj 31 _ _ g31 h31
    obtain ⟨⟨rj, hj1, hj2⟩, _⟩ := id hobj
    have hj1 : E 33 = some rj := hj1
    rw [h33] at hj1
    cases hj1
    obtain ⟨cells, fr, us, q1, q2, q3, q4, q5, q6, q7, q8, q9, q10⟩ := hid_cells hobj
    have hus := relL_b8_eq q9
    have hff : r31.f ++ us = (R ++ s).map bv := by rw [← hj2, hf33, hus, List.map_append]
    have hl31 : r31.f.length = R.length := by rw [← hj2, hf33, List.length_map]
    obtain ⟨E', e1, e2, ⟨r, e3, e4⟩, e5, e6⟩ := absorb (f' := (R ++ s).map bv) hs hF h0 h31 hst ⟨cells, fr, q1, q2, by simp at q3 ⊢; omega, q4, by simp; omega, q7, fun i v hi => q10 i v (by rw [hff]; exact hi)⟩
      (fun E2 v h2 hv => by
        rw [hrp] at hv
        have hv : Rel E2 (.slo 31 m) v := hv
        cases hv with
        | slo _ _ q c r hr hq hl hc =>
          rw [h2] at hr
          cases hr
          rw [q4] at hq hc
          have hqR : q = R.length := by omega
          subst hqR
          refine ⟨c, ?_, by simp; omega, by omega⟩
          rw [hm, List.length_map, List.length_append])
    exact ⟨E', ⟨e1, e2, .inr ⟨rfl, r, e3, e4⟩⟩, e5, e6⟩

def pvP (m : Nat) (pv : PV) : PV := match m with | 0 => .b | _ => pv.low
def pfP (m : Nat) : AVal := match m with | 2 => .bool true | _ => fB
def psP (m : Nat) : AVal := match m with | 0 => .bool true | _ => fB
def fkP (m : Nat) (fk : Nat → AVal) : Nat → AVal := match m with | 2 => fkq | _ => fk
theorem post_mkD {m : Nat} (hm : m < 3) (q : Nat) (pv : PV) (rp : RV) (row col wrap char u2 u3 pf ps say : AVal) (L : Nat → List AVal) (fk : Nat → AVal) :
    post m (mkD q pv rp row col wrap char u2 u3 pf ps say L fk) = mkD q (pvP m pv) (rp.add m) row col wrap char (b8 0) (b8 0) (pfP m) (psP m) say39 L (fkP m fk) := by
  match m, hm with
  | 0, _ => rfl
  | 1, _ => rfl
  | 2, _ => rfl
  | n + 3, h => exact absurd h (by omega)
theorem plain_fkq (i : Nat) : Plain (fkq i) := by
  unfold fkq
  split <;> exact plain_int _ _
theorem pl_post {m : Nat} {u2 u3 pf ps say : AVal} {fk : Nat → AVal} (h : Pl u2 u3 pf ps say fk) : Pl (b8 0) (b8 0) (pfP m) (psP m) say39 (fkP m fk) := by
  refine ⟨plain_int _ _, plain_int _ _, ?_, ?_, plain_fn _, fun i => ?_⟩
  · unfold pfP; split <;> exact plain_bool _
  · unfold psP; split <;> exact plain_bool _
  · unfold fkP; split
    · exact plain_fkq i
    · exact h.fk i
theorem xr_q {c : Nat} (hc : c ≤ 60) : (xr c).q < 7 := by
  have h : ((List.range 61).all fun c => decide ((xr c).q < 7)) = true := by kernel_rfl
  rw [List.all_eq_true] at h
  simpa using h c (List.mem_range.2 (by omega))

/-- A TERMINAL after so many signs, with replies that wait; it lies at p, and owns nothing below block s0. -/
def J (c : Nat) (R : List Nat) (p : Addr) (s0 : Nat) (w : World) : Prop :=
  ∃ pv u2 u3 pf ps say fk rp E r0, Pl u2 u3 pf ps say fk ∧ SI R (xd (xr c) pv rp u2 u3 pf ps say fk) E w ∧ E 0 = some r0 ∧ p = ⟨r0.b, r0.d, none⟩ ∧ (∀ b, b < s0 → ¬ Own E b) ∧ s0 ≤ w.heap.size

section
variable {P : Program} {func : Func}

theorem feed (hC : CallOK P (callk true F 100000)) (hf : P.funcs[7]? = some func) (hn : (func.name == "runtime.NumGoroutine") = false) (hb : func.body.isNone = false)
    {c m : Nat} (hc : c ≤ 60) (hm : m < 3) {R : List Nat} (hR : R.length + 11 ≤ 1048576) {p : Addr} {s0 : Nat} {w : World} (hJ : J c R p s0 w) :
    Calls P 7 #[.pointer (some p), .slice (some ⟨w.heap.size, 0, none⟩) (cmdN m) (cmdN m)] (w.alloc (.cells (cmdV m) 5 (cmdN m, cmdN m + 1))) fun e w' => e = .returned (.tuple #[]) ∧ J c (R ++ repS m) p s0 w' ∧ Below s0 w w' := by
  obtain ⟨pv, u2, u3, pf, ps, say, fk, rp, E, r0, hpl, hsi, h0, rfl, hown, hsz⟩ := hJ
  have hrp : rp = .n ∨ rp = .o := by
    rcases hsi.rp with ⟨h, _⟩ | ⟨h, _⟩
    · exact .inl h
    · exact .inr h
  have hchar : Plain (.int .i32 (xr c).char) := plain_int _ _
  have hL := plain_xl
  have hrpP : ∀ σ, Still σ { post m (xd (xr c) pv rp u2 u3 pf ps say fk) with rp := .o } := fun σ => by
    unfold xd
    rw [post_mkD hm]
    exact still3 (rp := .o) (pf := pfP m) (ps := psP m) σ (pl_post hpl) hchar (fun σ i => hL σ _ i) (plain_int _ _) (plain_int _ _) (plain_bool _) True.intro
  obtain ⟨b1, b2, b3⟩ := repB_eq hm
  have hadd : RVok (rp.add m) := by
    rcases hrp with rfl | rfl <;> exact ⟨_, b1⟩
  have ht := tok_in hsi.sat hsi.free rfl rfl rfl h0
  have hrow0 : rowE .i64 (.ofNat (xr c).row) .i64 (.ofNat (xr c).col) (xr c).wrap E 0 = some r0 := by
    unfold rowE
    rw [if_neg (by omega), if_neg (by omega), if_neg (by omega)]
    exact h0
  have hrow32 : rowE .i64 (.ofNat (xr c).row) .i64 (.ofNat (xr c).col) (xr c).wrap E 32 = none := by
    unfold rowE
    rw [if_neg (by omega), if_neg (by omega), if_neg (by omega)]
    exact hsi.free.1
  obtain ⟨g1, g2, g3⟩ := good_out (good_c m hm pv)
  have hrnd := round hC hf hn hb (c := m) (d := tokd (xd (xr c) pv rp u2 u3 pf ps say fk)) (d' := post m (tokd (xd (xr c) pv rp u2 u3 pf ps say fk))) (l := sgl m pv)
    (hrun (.int .i32 (xr c).char) u2 u3 pf ps say (xl (xr c)) fk pv rp hrp (xr c).q (xr_q hc) m hm) g1 g2 (cmdV_rel (by omega)) (cmdV_size (by omega)) (cmdB_ones (by omega)) (fr := (cmdN m, cmdN m + 1)) (.inr (by show (cmdV m).size ≤ cmdN m; rw [cmdV_size (by omega)]; exact Nat.le_refl _))
    (fun nx' => by
      show Still _ (post m (mkD (xr c).q pv rp (.tok 34) (.tok 35) (.tok 36) (.int .i32 (xr c).char) u2 u3 pf ps say (xl (xr c)) fk))
      rw [post_mkD hm]
      exact still_at (good_c m hm pv) nx' (pl_post hpl) hchar (fun σ i => hL σ _ i) (.inr rfl) (.inr rfl) (.inr rfl) hadd)
    g3 ht hrow32 hrow0
  refine hrnd.mono fun e w' ⟨he, E1, s1, s2, s3, s4, s5, s6⟩ => ⟨he, ?_⟩
  have hpost : post m (tokd (xd (xr c) pv rp u2 u3 pf ps say fk)) = tokd (post m (xd (xr c) pv rp u2 u3 pf ps say fk)) := by
    unfold xd
    show post m (mkD (xr c).q pv rp (.tok 34) (.tok 35) (.tok 36) (.int .i32 (xr c).char) u2 u3 pf ps say (xl (xr c)) fk) = _
    rw [post_mkD hm, post_mkD hm]
    rfl
  rw [hpost] at s1
  have hP : post m (xd (xr c) pv rp u2 u3 pf ps say fk) = mkD (xr c).q (pvP m pv) (rp.add m) (gN (xr c).row) (gN (xr c).col) (.bool (xr c).wrap) (.int .i32 (xr c).char) (b8 0) (b8 0) (pfP m) (psP m) say39 (xl (xr c)) (fkP m fk) := post_mkD hm ..
  have t1 : HSat E1 (hd (post m (xd (xr c) pv rp u2 u3 pf ps say fk))) 40 w' := tok_out (E0 := E) (k := .i64) (k' := .i64) (n := .ofNat (xr c).row) (n' := .ofNat (xr c).col) (b := (xr c).wrap) s1 (by rw [hP]; rfl) (by rw [hP]; rfl) (by rw [hP]; rfl) s3 (r0 := r0) (by rw [s4]; exact hrow0)
  obtain ⟨t2, t3, t4⟩ := drop_names t1 s2 (by rw [hP]; exact still3 _ (pl_post hpl) hchar (fun σ i => hL σ _ i) (plain_int _ _) (plain_int _ _) (plain_bool _) hadd)
  obtain ⟨E', u1, u2', u3'⟩ := take_in (R := R) (s := repS m) (m := repN m) t2 t3 (r0 := r0) (by show E1 (if 0 < 34 then 0 else 0 + 40) = _; rw [if_pos (by omega), s4]; exact hrow0) b2 (by omega)
    (by
      rw [hP]
      rcases hsi.rp with ⟨h, h'⟩ | ⟨h, r, h1, h2⟩
      · have h : rp = .n := h
        subst h
        exact .inl ⟨by show RV.row (repN m) (repB m) = _; rw [b1], h'⟩
      · have h : rp = .o := h
        subst h
        refine .inr ⟨by show RV.hid (repN m) (repB m) = _; rw [b1], r, ?_, h2⟩
        show E1 (if 33 < 34 then 33 else 33 + 40) = _
        rw [if_pos (by omega), s3 33 (by omega) (by omega)]
        unfold rowE
        rw [if_neg (by omega), if_neg (by omega), if_neg (by omega)]
        exact h1) (hrpP σ3)
  have hownt : ∀ b, b < s0 → ¬ FP (rowE .i64 (.ofNat (xr c).row) .i64 (.ofNat (xr c).col) (xr c).wrap E) (hd (tokd (xd (xr c) pv rp u2 u3 pf ps say fk))) b := by
    intro b hb hf
    refine hown b hb (fp_state (FP.ext (fun n o ho => ?_) hf))
    have := hd_lt ho
    unfold rowE
    rw [if_neg (by omega), if_neg (by omega), if_neg (by omega)]
  refine ⟨⟨pvP m pv, b8 0, b8 0, pfP m, psP m, say39, fkP m fk, .o, E', r0, pl_post hpl, ?_, ?_, rfl, ?_, ?_⟩, ?_⟩
  · rw [hP] at u1
    exact u1
  · rw [u2']
    show E1 (if 0 < 34 then 0 else 0 + 40) = _
    rw [if_pos (by omega), s4]
    exact hrow0
  · intro b hb hf
    have f1 := u3' b (fp_state hf)
    have f2 := t4 b f1
    exact s6 b (by omega) (hownt b hb) (fp_state f2)
  · exact Nat.le_trans hsz s5.size
  · exact ⟨s5.os, s5.tape, s5.output, s5.size, fun b hb => s5.keep b (by omega) (hownt b hb)⟩

end
end Go.Am
