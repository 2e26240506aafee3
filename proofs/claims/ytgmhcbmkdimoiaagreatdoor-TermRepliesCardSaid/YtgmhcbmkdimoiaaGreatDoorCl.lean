/-
  Asking for the replies. No conditions.
-/
import Derived.Test.YtgmhcbmkdimoiaaGreatDoorKn
import Derived.WalkKit
import Derived.ProofKit
namespace Go.Proofs
open Go.RowKit
theorem Tryz.clip_any (a : Addr) (n c : Nat) (h : n ≤ c) (w : World) : Calls Tryz.prog 17 #[.slice (some a) n c] w fun e w' => e = .returned (.slice (some a) n n) ∧ w' = w := by
  go_enter Tryz.func17, Tryz.ntmps17
  go_wp2
  go_ret
  exact ⟨rfl, rfl⟩
theorem Tryz.clip_nil (w : World) : Calls Tryz.prog 17 #[.slice none 0 0] w fun e w' => e = .returned (.slice none 0 0) ∧ w' = w := by
  go_enter Tryz.func17, Tryz.ntmps17
  go_wp2
  go_ret
  exact ⟨rfl, rfl⟩
end Go.Proofs
set_option maxRecDepth 1000000
namespace Go.Am
open Go.RowKit Go.Proofs
noncomputable def specClip (args : List AVal) (h : Hp) (nx : Nat) (k : HK) : Prop :=
  match args with
  | [.slo n l] => k (.slo n l) h nx
  | [.nils] => k .nils h nx
  | _ => False
theorem clip_ok : SpecOK Tryz.prog 17 specClip := by
  intro vs args E h nx w k hs hr hk
  have henter : ∀ args, (callFunc 17 args).run Tryz.prog w = .ok (.enter 17 args) w := fun args => enters_of Tryz.func17 (by kernel_rfl) rfl args w
  unfold specClip at hk
  split at hk
  · rename_i n l
    obtain ⟨v, rfl, hv⟩ := rel_one hr
    cases hv with
    | slo _ _ q c r hE hq hl hc =>
      refine .inr ⟨_, _, henter _, ?_⟩
      refine (Tryz.clip_any _ _ _ hl w).mono ?_
      rintro e w' ⟨rfl, rfl⟩
      refine ⟨_, .slo n l, E, h, nx, rfl, .slo n l q (q + l) r hE hq (Nat.le_refl _) (Nat.le_trans (Nat.mul_le_mul_right _ hl) hc), hs, Goes.refl _ _ _ _, hk⟩
  · obtain ⟨v, rfl, hv⟩ := rel_one hr
    cases hv
    refine .inr ⟨_, _, henter _, ?_⟩
    refine (Tryz.clip_nil w).mono ?_
    rintro e w' ⟨rfl, rfl⟩
    exact ⟨_, .nils, E, h, nx, rfl, .nils, hs, Goes.refl _ _ _ _, hk⟩
  · exact hk.elim
/-- The table where Clip is told. -/
noncomputable def F2 (f : FuncId) : Option FEnt := sel (Nat.beq f 17) (some (.spec specClip)) (F f)
theorem F2_ok (f : FuncId) (e : FEnt) (h : F2 f = some e) : EntOK Tryz.prog f e := by
  unfold F2 at h
  rw [sel_beq] at h
  split at h
  · rename_i hf
    subst hf
    cases h
    exact clip_ok
  · exact F_ok f e h
theorem C2_ok (n : Nat) : CallOK Tryz.prog (callk true F2 n) := callk_sound (draw_ok mixed) F2_ok n
section
variable (row col wrap char u2 u3 pf ps say : AVal) (rl : RL) (at_ gone top first : Nat) (L : Nat → List AVal) (pv : PV) (fk : Nat → AVal)
def dOf (rp : RV) : D := ⟨row, col, wrap, char, rl, at_, gone, top, first, u2, u3, L, pf, ps, say, pv, fk, rp⟩
theorem rep_n : mkk (Ts idN (dOf row col wrap char u2 u3 pf ps say rl at_ gone top first L pv fk .n)) .nil (fun h => callk true F2 100000 8 [.ptr 0 0] h 40 (fun v h _ => (v = AVal.nils) ∧ Chk idN h (Ts idN (dOf row col wrap char u2 u3 pf ps say rl at_ gone top first L pv fk .n)))) =
    ((AVal.nils = AVal.nils) ∧ ChkR (Ts idN (dOf row col wrap char u2 u3 pf ps say rl at_ gone top first L pv fk .n))) := by kernel_rfl
theorem rep_o : mkk (Ts idN (dOf row col wrap char u2 u3 pf ps say rl at_ gone top first L pv fk .o)) .nil (fun h => callk true F2 100000 8 [.ptr 0 0] h 40 (fun v h _ => (v = AVal.slo 31 0) ∧ Chk idN h (Ts idN (dOf row col wrap char u2 u3 pf ps say rl at_ gone top first L pv fk .n)))) =
    ((AVal.slo 31 0 = AVal.slo 31 0) ∧ ChkR (Ts idN (dOf row col wrap char u2 u3 pf ps say rl at_ gone top first L pv fk .n))) := by kernel_rfl
end

/-- Names from 34 on let go, wherever the next one lies. -/
theorem drop_names' {d : D} {E : Env} {nx : Nat} {w : World} (hs : HSat E (hd d) nx w) (h32 : E 32 = none) (hst : Still (fun n => if n < 34 then n else n + nx) d) :
    HSat (fun n => E (if n < 34 then n else n + nx)) (hd d) 40 w ∧ Free (fun n => E (if n < 34 then n else n + nx)) ∧ ∀ b, FP (fun n => E (if n < 34 then n else n + nx)) (hd d) b → FP E (hd d) b := by
  have hc : Ts (fun n => if n < 34 then n else n + nx) d = Ts idN d := Ts_congr _ fun n hn => by rw [if_pos hn]; rfl
  have key : ∀ n o, hget (hd d) n = some o → hget (hd d) (if n < 34 then n else n + nx) = some (renO (fun n => if n < 34 then n else n + nx) o) := by
    intro n o ho
    have hlt := hd_lt ho
    rw [if_pos (by omega)]
    refine hd_get (p := (n, _)) ?_
    rw [← hc, ← Ts_ren _ _ hst]
    exact List.mem_map.2 ⟨(n, o), hget_hd ho, rfl⟩
  refine ⟨hs.ren _ (fun n hn => by rw [if_neg (by omega)]; omega) key ?_, ⟨?_, ?_⟩, fun b hf => FP.ren _ key hf⟩
  · intro n m o o' h1 h2 hne
    have hlt := hd_lt h1
    have hlt' := hd_lt h2
    rw [if_pos (by omega), if_pos (by omega)]
    exact hne
  · show E (if 32 < 34 then 32 else 32 + nx) = none
    rw [if_pos (by omega)]; exact h32
  · intro n hn
    show E (if n < 34 then n else n + nx) = none
    rw [if_neg (by omega)]
    exact hs.fresh _ (by omega)

/-- A slice value that reads as bytes. -/
def Reads (v : Value) (R : List Nat) (w : World) : Prop := (R = [] ∧ v = .slice none 0 0) ∨ ∃ b o cap, v = .slice (some ⟨b, o, none⟩) R.length cap ∧ R.length ≤ cap ∧ ∀ i x, R[i]? = some x → w.cell? ⟨b, o + i, none⟩ = some (bv x)

theorem replies_ok {c : Nat} {R : List Nat} {p : Addr} {s0 : Nat} {w : World} (hJ : J c R p s0 w) :
    Calls Tryz.prog 8 #[.pointer (some p)] w fun e w' => ∃ v, e = .returned v ∧ Reads v R w' ∧ J c [] p s0 w' ∧ Below s0 w w' := by
  obtain ⟨pv, u2, u3, pf, ps, say, fk, rp, E, r0, hpl, hsi, h0, rfl, hown, hsz⟩ := hJ
  have hst : ∀ σ, Still σ (xd (xr c) pv .n u2 u3 pf ps say fk) := fun σ => by
    unfold xd
    exact still3 (rp := .n) σ hpl (plain_int _ _) (fun σ i => plain_xl σ _ i) (plain_int _ _) (plain_int _ _) (plain_bool _) True.intro
  have hargs : RelL E [.ptr 0 0] (#[Value.pointer (some ⟨r0.b, r0.d, none⟩)] : Array Value).toList := .cons _ _ _ _ (by have := Rel.ptr (E := E) 0 0 r0 h0; simpa using this) .nil
  have main : ∀ (va : AVal) (h' : Hp) (nx' : Nat) (E' : Env) (w' : World), HSat E' h' nx' w' → Goes E (hd (xd (xr c) pv rp u2 u3 pf ps say fk)) 40 w E' h' nx' w' → Chk idN h' (Ts idN (xd (xr c) pv .n u2 u3 pf ps say fk)) →
      J c [] ⟨r0.b, r0.d, none⟩ s0 w' ∧ Below s0 w w' ∧ HSat E' (hd (xd (xr c) pv .n u2 u3 pf ps say fk)) nx' w' := by
    intro va h' nx' E' w' hsat hgo hchk
    have hall := chk_all _ hchk
    have hlook : ∀ n o, hget (hd (xd (xr c) pv .n u2 u3 pf ps say fk)) n = some o → hget h' n = some o := fun n o ho => hall (n, o) (hget_hd ho)
    have hs1 : HSat E' (hd (xd (xr c) pv .n u2 u3 pf ps say fk)) nx' w' := hsat.look fun n o ho => .inl (hlook n o ho)
    obtain ⟨t1, t2, t3⟩ := drop_names' hs1 (by rw [hgo.same 32 (by omega)]; exact hsi.free.1) (hst _)
    have hfree : ∀ b, b < s0 → ¬ FP E (hd (xd (xr c) pv rp u2 u3 pf ps say fk)) b := fun b hb hf => hown b hb (fp_state hf)
    refine ⟨⟨pv, u2, u3, pf, ps, say, fk, .n, _, r0, hpl, ⟨t1, t2, .inl ⟨rfl, rfl⟩⟩, ?_, rfl, ?_, Nat.le_trans hsz hgo.trans.size⟩, ⟨hgo.trans.os, hgo.trans.tape, hgo.trans.output, hgo.trans.size, fun b hb => (hgo.trans.keep b (by omega) (hfree b hb)).1⟩, hs1⟩
    · show E' (if 0 < 34 then 0 else 0 + nx') = _
      rw [if_pos (by omega), hgo.same 0 (by omega)]
      exact h0
    · intro b hb hf
      refine (hgo.trans.keep b (by omega) (hfree b hb)).2 ?_
      exact fp_look (fun n o ho => .inl ⟨o, hlook n o ho, Ts_own _ _ _ (hget_hd ho)⟩) (t3 b (fp_state hf))
  rcases hsi.rp with ⟨hrp, hR⟩ | ⟨hrp, r33, h33, hf33⟩
  · have hrp : rp = .n := hrp
    subst hrp hR
    have hrun := rep_n (gN (xr c).row) (gN (xr c).col) (.bool (xr c).wrap) (.int .i32 (xr c).char) u2 u3 pf ps say (cls (xr c).q).1 (cls (xr c).q).2.1 (cls (xr c).q).2.2.1 (cls (xr c).q).2.2.2.1 (cls (xr c).q).2.2.2.2 (xl (xr c)) pv fk
    rw [mkk_eq] at hrun
    have hret := does_ret Tryz.func8 (by kernel_rfl) (by kernel_rfl) (C2_ok 100000 8 [.ptr 0 0] _ E _ 40 w _ hsi.sat hargs (Eq.mpr hrun ⟨rfl, chkR_true _⟩))
    refine hret.mono fun e w' ⟨y, x, E', h', nx', he, hrel, hsat, hgo, hx, hchk⟩ => ?_
    subst hx
    cases hrel
    obtain ⟨m1, m2, _⟩ := main .nils h' nx' E' w' hsat hgo hchk
    exact ⟨_, he, .inl ⟨rfl, rfl⟩, m1, m2⟩
  · have hrp : rp = .o := hrp
    subst hrp
    have hrun := rep_o (gN (xr c).row) (gN (xr c).col) (.bool (xr c).wrap) (.int .i32 (xr c).char) u2 u3 pf ps say (cls (xr c).q).1 (cls (xr c).q).2.1 (cls (xr c).q).2.2.1 (cls (xr c).q).2.2.2.1 (cls (xr c).q).2.2.2.2 (xl (xr c)) pv fk
    rw [mkk_eq] at hrun
    have hret := does_ret Tryz.func8 (by kernel_rfl) (by kernel_rfl) (C2_ok 100000 8 [.ptr 0 0] _ E _ 40 w _ hsi.sat hargs (Eq.mpr hrun ⟨rfl, chkR_true _⟩))
    refine hret.mono fun e w' ⟨y, x, E', h', nx', he, hrel, hsat, hgo, hx, hchk⟩ => ?_
    subst hx
    obtain ⟨m1, m2, m3⟩ := main .nils h' nx' E' w' hsat hgo hchk
    cases hrel with
    | slo _ _ q cap r hE hq hl hc =>
      have g31 : hget (hd (xd (xr c) pv .n u2 u3 pf ps say fk)) 31 = some (.hrow [] 5 1 33) := hd_get (p := (31, _)) (List.mem_iff_getElem?.2 ⟨31, rfl⟩)
      have hobj := m3.obj 31 _ _ g31 hE
      obtain ⟨⟨rj, hj1, hj2⟩, _⟩ := id hobj
      rw [hgo.same 33 (by omega), h33] at hj1
      cases hj1
      obtain ⟨cells, fr, us, q1, q2, q3, q4, q5, q6, q7, q8, q9, q10⟩ := hid_cells hobj
      have hff : r.f = R.map bv := by rw [← hj2, hf33]
      have hqR : q = R.length := by
        rw [q4, Nat.mul_one, hff, List.length_map] at hq
        exact hq.symm
      refine ⟨_, he, .inr ⟨r.b, r.d, cap, by rw [hqR]; rfl, by omega, fun i x hi => ?_⟩, m1, m2⟩
      have := q10 i (bv x) (by rw [hff, List.getElem?_append, if_pos (by rw [List.length_map]; exact (List.getElem?_eq_some_iff.1 hi).1), List.getElem?_map, hi]; rfl)
      simp [World.cell?, q1, this]
end Go.Am
