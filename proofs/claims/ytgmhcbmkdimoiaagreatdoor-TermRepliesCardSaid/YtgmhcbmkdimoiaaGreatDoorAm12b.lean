/-
  The abstract machine, part 12b: pointers without type. No conditions.
-/
import Derived.Test.YtgmhcbmkdimoiaaGreatDoorAm12
namespace Go.Am
section
variable {P : Program} {E : Env} {T : Tm} {h : Hp} {nx : Nat} {w : World} {cm : Bool}

theorem view_none {b : Nat} {c : Array Value} {t : TypeId} {fr : Nat × Nat} (hb : w.heap[b]? = some (.cells c t fr)) : (viewAt b).run P w = .ok none w := by
  simp [viewAt, World.shape?, hb]

theorem run_cpu (hs : HSat E h nx w) {s d t : TypeId} {n : Nat} (h1 : P.underlying s = some (.pointer t)) (h2 : P.underlying d = some .unsafePointer) (hz : sizeOf? P t = some (n + 1)) {a : AVal} {x : Value} (ha : Rel E a x) {v : AVal} (hv : vCpu h a = some v) :
    ∃ y, (convert s d x).run P w = .ok y w ∧ Rel E v y := by
  cases ha with
  | nilp => cases hv; exact ⟨_, by simp [convert, run_und w h1, run_und w h2, Conv.unsafePointer], .nilp⟩
  | ptr m off r hr =>
    simp only [vCpu] at hv
    split at hv
    · rename_i cs t' md hm
      rw [sel_ble, lenk_eq] at hv
      split at hv
      · rename_i hl
        cases hv
        obtain ⟨cells, fr, q1, q2, q3, q4, q5, q6, q7, q8⟩ := hs.obj m _ _ hm hr
        refine ⟨.pointer (some ⟨r.b, r.d + off, none⟩), ?_, .ptr m off r hr⟩
        have hv := view_none (P := P) q1
        have hsh : w.shape? r.b = some (t', cells.size) := by simp [World.shape?, q1]
        have hsz := run_size (P := P) w hz
        have hlt : ¬ (cells.size ≤ r.d + off) := by omega
        simp [convert, run_und w h1, run_und w h2, Conv.unsafePointer, Conv.seenAt, hv, cellsIn, hsh, hsz, hlt]
      · cases hv
    · cases hv
  | _ => cases hv

theorem lies_same {u : TypeId} {s count off : Nat} (hz : sizeOf? P u = some s) (hs : s ≠ 0) {n : Nat} (h0 : off % s = 0) (hl : off / s + n ≤ count) : liesAt P P.depth u count off u n = true := by
  obtain ⟨d, hd⟩ : ∃ d, P.depth = d + 1 := ⟨2 * (P.types.size + Made.depth) + 1, rfl⟩
  have hc : P.cellsOf u = s := cellsOf_of_size hz
  rw [hd]
  unfold liesAt
  rw [Bool.or_eq_true]
  left
  rw [hd]
  unfold rowAt
  simp only [hc, hs, if_false, Bool.or_eq_true, Bool.and_eq_true, beq_iff_eq, decide_eq_true_eq]
  left
  refine ⟨⟨h0, hl⟩, ?_⟩
  unfold sameLayout
  simp

theorem run_cup (hs : HSat E h nx w) {s d u : TypeId} {n : Nat} (h1 : P.underlying s = some .unsafePointer) (h2 : P.underlying d = some (.pointer u)) (hz : sizeOf? P u = some (n + 1)) {a : AVal} {x : Value} (ha : Rel E a x) {v : AVal} (hv : vCup h u (n + 1) a = some v) :
    ∃ y, (convert s d x).run P w = .ok y w ∧ Rel E v y := by
  cases ha with
  | nilp => cases hv; exact ⟨_, by simp [convert, run_und w h1, run_und w h2, Conv.unsafePointer], .nilp⟩
  | ptr m off r hr =>
    simp only [vCup] at hv
    split at hv
    · rename_i cs t' hm
      rw [sel_beq] at hv
      split at hv
      · rename_i ht
        subst ht
        rw [sel_beq] at hv
        split at hv
        · rename_i h0
          rw [sel_ble, lenk_eq] at hv
          split at hv
          · rename_i hl
            cases hv
            obtain ⟨cells, fr, q1, q2, q3, q4, q5, q6, q7, q8⟩ := hs.obj m _ _ hm hr
            obtain ⟨q41, q42, q43⟩ := q4 rfl
            refine ⟨.pointer (some ⟨r.b, r.d + off, none⟩), ?_, .ptr m off r hr⟩
            have hv := view_none (P := P) q1
            have hsh : w.shape? r.b = some (t', cells.size) := by simp [World.shape?, q1]
            have hsz := run_size (P := P) w hz
            have hlies : liesAt P P.depth t' (cells.size / P.cellsOf t') (r.d + off) t' 1 = true := by
              rw [q42, Nat.zero_add, cellsOf_of_size hz, q43]
              exact lies_same hz (by omega) h0 hl
            simp [convert, run_und w h1, run_und w h2, Conv.unsafePointer, Conv.seenAt, hv, hsz, variablesAt, hsh, hlies]
          · cases hv
        · cases hv
      · cases hv
    · cases hv
  | _ => cases hv

theorem usd_run {ats : Array TypeId} {ty : TypeId} (a : Addr) (len c : Nat) (hc : c ≠ 0) : (Builtin.unsafeSliceData_ ats ty #[.slice (some a) len c]).run P w = .ok (.pointer (some a)) w := by
  show (if c ≠ 0 then (pure (.pointer (some a)) : Sem Value) else _).run P w = _
  rw [if_pos hc]
  rfl

theorem run_usd {ats : Array TypeId} {ty : TypeId} {a : AVal} {x : Value} (ha : Rel E a x) {v : AVal} (hv : vUsd a = some v) : ∃ y, (Builtin.unsafeSliceData_ ats ty #[x]).run P w = .ok y w ∧ Rel E v y := by
  cases ha with
  | nils => cases hv; exact ⟨_, rfl, .nilp⟩
  | slcN m off len c r hr hc hl =>
    simp only [vUsd] at hv
    rw [sel_beq] at hv
    split at hv
    · cases hv
    · rename_i h0
      cases hv
      have : c ≠ 0 := by omega
      exact ⟨.pointer (some ⟨r.b, r.d + off, none⟩), usd_run _ _ _ this, .ptr m off r hr⟩
  | slcS m off len c r hr =>
    simp only [vUsd] at hv
    rw [sel_beq] at hv
    split at hv
    · cases hv
    · rename_i h0
      cases hv
      exact ⟨.pointer (some ⟨r.b, r.d + off, none⟩), usd_run _ _ _ h0, .ptr m off r hr⟩
  | _ => cases hv
end
end Go.Am
