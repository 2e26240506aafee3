/-
  Feeding one sign. Conditions: that calls do what is told.
-/
import Derived.Test.YtgmhcbmkdimoiaaGreatDoorRt
set_option maxRecDepth 1000000
namespace Go.Am
open Go.RowKit
section
variable {P : Program} {func : Func}
/-- One sign more. -/
theorem feedx (hC : CallOK P (callk true F 100000)) (hf : P.funcs[7]? = some func) (hn : (func.name == "runtime.NumGoroutine") = false) (hb : func.body.isNone = false)
    {c : Nat} (hc : c < 60) {R : List Nat} {p : Addr} {s0 : Nat} {w : World} (hJ : J c R p s0 w) :
    Calls P 7 #[.pointer (some p), .slice (some ⟨w.heap.size, 0, none⟩) 1 1] (w.alloc (.cells (cmdV 3) 5 (1, 2))) fun e w' => e = .returned (.tuple #[]) ∧ J (c + 1) R p s0 w' ∧ Below s0 w w' := by
  obtain ⟨pv, u2, u3, pf, ps, say, fk, rp, E, r0, hpl, hsi, h0, rfl, hown, hsz⟩ := hJ
  have hrp : rp = .n ∨ rp = .o := by
    rcases hsi.rp with ⟨h, _⟩ | ⟨h, _⟩
    · exact .inl h
    · exact .inr h
  have hno : RVok rp := by
    rcases hrp with rfl | rfl <;> exact True.intro
  obtain ⟨l, hg, hrun⟩ := hrunx u2 u3 pf ps say pv fk rp hrp c hc
  obtain ⟨g1, g2, g3⟩ := good_out hg
  have hpl' : Pl (b8 128) (b8 191) pf ps say39 fk := ⟨plain_int _ _, plain_int _ _, hpl.pf, hpl.ps, plain_fn _, hpl.fk⟩
  have hrnd := round hC hf hn hb (c := 3) (d := xd (xr c) pv rp u2 u3 pf ps say fk) (d' := xd (xr (c + 1)) pv rp (b8 128) (b8 191) pf ps say39 fk) (l := l)
    hrun g1 g2 (cmdV_rel (by omega)) (cmdV_size (by omega)) (cmdB_ones (by omega)) (fr := (1, 2)) (.inr (by show (cmdV 3).size ≤ 1; rw [cmdV_size (by omega)]; exact Nat.le_refl _))
    (fun nx' => by
      unfold xd
      exact still_at hg nx' hpl' (plain_int _ _) (fun σ i => plain_xl σ _ i) (.inl (plain_int _ _)) (.inl (plain_int _ _)) (.inl (plain_bool _)) hno)
    g3 hsi.sat hsi.free.1 h0
  refine hrnd.mono fun e w' ⟨he, E1, s1, s2, s3, s4, s5, s6⟩ => ⟨he, ?_⟩
  obtain ⟨t2, t3, t4⟩ := drop_names s1 s2 (by unfold xd; exact still3 _ hpl' (plain_int _ _) (fun σ i => plain_xl σ _ i) (plain_int _ _) (plain_int _ _) (plain_bool _) hno)
  have hownt : ∀ b, b < s0 → ¬ FP E (hd (xd (xr c) pv rp u2 u3 pf ps say fk)) b := fun b hb hf => hown b hb (fp_state hf)
  refine ⟨⟨pv, b8 128, b8 191, pf, ps, say39, fk, rp, _, r0, hpl', ⟨t2, t3, ?_⟩, ?_, rfl, ?_, ?_⟩, ?_⟩
  · rcases hsi.rp with ⟨h, h'⟩ | ⟨h, r, h1, h2⟩
    · have h : rp = .n := h
      subst h
      exact .inl ⟨rfl, h'⟩
    · have h : rp = .o := h
      subst h
      refine .inr ⟨rfl, r, ?_, h2⟩
      show E1 (if 33 < 34 then 33 else 33 + 40) = _
      rw [if_pos (by omega), s3 33 (by omega) (by omega)]
      exact h1
  · show E1 (if 0 < 34 then 0 else 0 + 40) = _
    rw [if_pos (by omega), s4]
    exact h0
  · intro b hb hf
    exact s6 b (by omega) (hownt b hb) (fp_state (t4 b (fp_state hf)))
  · exact Nat.le_trans hsz s5.size
  · exact ⟨s5.os, s5.tape, s5.output, s5.size, fun b hb => s5.keep b (by omega) (hownt b hb)⟩
end
end Go.Am
