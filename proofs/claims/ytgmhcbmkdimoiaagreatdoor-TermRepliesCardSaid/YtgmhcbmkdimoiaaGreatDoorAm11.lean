/-
  The abstract machine, part 11: literals of structs and arrays. No conditions.
-/
import Derived.Test.YtgmhcbmkdimoiaaGreatDoorAm10
import Derived.Laws.Tables
namespace Go.Am
section
variable {P : Program} {E : Env} {T : Tm} {h : Hp} {nx : Nat} {w : World} {cm : Bool}

theorem cells_rel {a : AVal} {v : Value} (ha : Rel E a v) : RelL E a.cells v.cells.toList := by
  cases ha with
  | agg cs xs hc => exact hc
  | bool b => exact .cons _ _ _ _ (.bool b) .nil
  | int k n => exact .cons _ _ _ _ (.int k n) .nil
  | str s h => exact .cons _ _ _ _ (.str s h) .nil
  | nilp => exact .cons _ _ _ _ .nilp .nil
  | ptr n off r h => exact .cons _ _ _ _ (.ptr n off r h) .nil
  | nils => exact .cons _ _ _ _ .nils .nil
  | slcN n off len c r h hc hl => exact .cons _ _ _ _ (.slcN n off len c r h hc hl) .nil
  | slcS n off len c r h => exact .cons _ _ _ _ (.slcS n off len c r h) .nil
  | emp n r a c h ha hs => exact .cons _ _ _ _ (.emp n r a c h ha hs) .nil
  | empN n r a h ha hs => exact .cons _ _ _ _ (.empN n r a h ha hs) .nil
  | nilm => exact .cons _ _ _ _ .nilm .nil
  | map n r h => exact .cons _ _ _ _ (.map n r h) .nil
  | fn f a b x y ha hb => exact .cons _ _ _ _ (.fn f a b x y ha hb) .nil
  | nilf => exact .cons _ _ _ _ .nilf .nil
  | ifc t a v h => exact .cons _ _ _ _ (.ifc t a v h) .nil
  | nili => exact .cons _ _ _ _ .nili .nil
  | tup a x h => exact .cons _ _ _ _ (.tup a x h) .nil
  | tok j v r h hf ho =>
    have hc : v.cells = #[v] := by cases v <;> first | rfl | cases ho
    rw [hc]
    exact .cons _ _ _ _ (.tok j v r h hf ho) .nil
  | slo n len q c r h h1 h2 h3 => exact .cons _ _ _ _ (.slo n len q c r h h1 h2 h3) .nil

theorem cells_size {a : AVal} {v : Value} (ha : Rel E a v) : v.cells.size = a.cells.length := by
  rw [(cells_rel ha).length]; simp

/-- Values set one by one into an array: they lie over its cells. -/
theorem fold_put (vs : List Value) : ∀ (off j : Nat) (cs : Array Value), off + j + vs.length ≤ cs.size →
    ((vs.zipIdx j).foldl (fun (cs : Array Value) (p : Value × Nat) => cs.setIfInBounds (off + p.2) p.1) cs).toList = put (off + j) vs cs.toList := by
  induction vs with
  | nil => intro off j cs _; simp [put]
  | cons v vs ih =>
    intro off j cs hl
    simp only [List.length_cons] at hl
    simp only [List.zipIdx_cons, List.foldl_cons]
    rw [ih off (j + 1) _ (by simp; omega)]
    apply List.ext_getElem?
    intro i
    have hsz : cs.toList.length = cs.size := by simp
    rw [put_get _ _ _ (by simp; omega), put_get _ _ _ (by simp; omega)]
    simp only [Array.toList_setIfInBounds, List.length_cons]
    by_cases h1 : off + (j + 1) ≤ i ∧ i < off + (j + 1) + vs.length
    · rw [if_pos h1, if_pos (by omega), show i - (off + j) = (i - (off + (j + 1))) + 1 from by omega]
      simp
    · rw [if_neg h1]
      by_cases h2 : i = off + j
      · subst h2
        rw [if_pos (by omega)]
        rw [List.getElem?_set]
        simp; omega
      · rw [if_neg (by omega), List.getElem?_set]
        rw [if_neg (Ne.symm h2)]

theorem RelL.put {a b : List AVal} {x y : List Value} (h : RelL E a x) (k : RelL E b y) (off : Nat) : RelL E (Am.put off a b) (Am.put off x y) := by
  unfold Am.put
  rw [h.length]
  exact (k.take off).append (h.append (k.drop _))

theorem vBld_cons (z : List AVal) (off s : Nat) (x : AVal) (ps : List (Nat × Nat × AVal)) :
    vBld z ((off, s, x) :: ps) = sel (Nat.beq (lenk x.cells) s) (putk off x.cells z (fun z => vBld z ps) none) none := rfl

/-- The parts of a literal: of each its place, and its value. -/
inductive PartsRel (E : Env) (place : Nat → Option (Nat × Nat)) : List (Nat × Nat × AVal) → List (Nat × Value) → Prop where
  | nil : PartsRel E place [] []
  | cons (off s i : Nat) (a : AVal) (v : Value) (l : List (Nat × Nat × AVal)) (m : List (Nat × Value)) (hp : place i = some (off, s)) (h : Rel E a v) (t : PartsRel E place l m) :
      PartsRel E place ((off, s, a) :: l) ((i, v) :: m)

theorem fill_rel {place : Nat → Option (Nat × Nat)} {ps : List (Nat × Nat × AVal)} {qs : List (Nat × Value)} (hp : PartsRel E place ps qs) :
    ∀ {z : List AVal} {c : Array Value} {v : AVal}, RelL E z c.toList → vBld z ps = some v → ∃ c', Instr.fill place c qs = some c' ∧ Rel E v (.agg c') := by
  induction hp with
  | nil => intro z c v hz hv; cases hv; exact ⟨c, rfl, .agg _ _ hz⟩
  | cons off s i a x l m hpl hx _ ih =>
    intro z c v hz hv
    rw [vBld_cons, sel_beq, lenk_eq] at hv
    split at hv
    · rename_i hs
      rw [putk_eq] at hv
      split at hv
      · rename_i hl
        have hcs : x.cells.size = s := by rw [cells_size hx]; exact hs
        have hzl : z.length = c.size := by rw [hz.length]; simp
        have hle : off + x.cells.toList.length ≤ c.size := by simp only [Array.length_toList, hcs]; omega
        have hfold := fold_put x.cells.toList off 0 c (by simpa using hle)
        have hz' : RelL E (put off a.cells z) (put off x.cells.toList c.toList) := (cells_rel hx).put hz off
        obtain ⟨c', h1, h2⟩ := ih (c := (x.cells.toList.zipIdx 0).foldl (fun (cs : Array Value) (p : Value × Nat) => cs.setIfInBounds (off + p.2) p.1) c) (by rw [hfold]; exact hz') hv
        refine ⟨c', ?_, h2⟩
        simp only [Instr.fill, hpl]
        simp only [hcs] at *
        simp only [ne_eq, not_true_eq_false]
        rw [if_neg (by simp; omega)]
        rw [← h1]
        congr 1
        rw [← Array.foldl_toList]
        simp
      · cases hv
    · cases hv

/-- A literal, compiled as its parts say. -/
theorem run_bld {t : TypeId} {parts : Array (Nat × Value)} {z : AVal} {place : Nat → Option (Nat × Nat)} {ps : List (Nat × Nat × AVal)} (hz : zero? P t = some z)
    (hpl : ∀ c, P.built t parts.toList = Instr.fill place c parts.toList ∨ ∀ zv, (∃ i, P.info? t = some i ∧ i.zero = some zv) → c ≠ zv.cells) (hp : PartsRel E place ps parts.toList) {v : AVal} (hv : vBld z.cells ps = some v) :
    ∃ y, (Instr.build t parts).run P w = .ok y w ∧ Rel E v y := by
  obtain ⟨zv, _, hzr, i, hi, hz'⟩ := zero_rel (w := w) hz E
  obtain ⟨c', h1, h2⟩ := fill_rel hp (cells_rel hzr) hv
  refine ⟨.agg c', run_build w t parts c' ?_, h2⟩
  rcases hpl zv.cells with h | h
  · rw [h]; exact h1
  · exact absurd rfl (h zv ⟨i, hi, hz'⟩)
end
end Go.Am
