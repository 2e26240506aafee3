/-
  The abstract machine, part 23: open regions, as they are compiled. No conditions but that orders may be mixed.
-/
import Derived.Test.YtgmhcbmkdimoiaaGreatDoorAm21
import Derived.Test.YtgmhcbmkdimoiaaGreatDoorAm22
namespace Go.Am
section
variable {P : Program}

theorem stat_of {nt : Nat} {ops : Array Oper} {pre cl : List (List Nat)} {A : Nat → AOper} (hop : ∀ i o, ops[i]? = some o → A i = cOper P ops nt o)
    (hedge : ∀ i o, ops[i]? = some o → ∀ j, j ∈ pre.getD i [] ↔ ∃ e ∈ o.after, Region.binds .any e = true ∧ e.on = j) (he : edgesOK ops.size pre cl = true) (hp : pairsOK ops.size cl A = true) : Stat P nt ops pre cl A := by
  unfold edgesOK at he
  unfold pairsOK at hp
  rw [List.all_eq_true] at he hp
  have he' : ∀ i, i < ops.size → (∀ j ∈ pre.getD i [], j < i) ∧ ∀ j ∈ cl.getD i [], j ∈ pre.getD i [] ∨ ∃ m ∈ pre.getD i [], bef cl j m = true := by
    intro i hi
    have := he i (List.mem_range.2 hi)
    simp only [Bool.and_eq_true, List.all_eq_true, decide_eq_true_eq, Bool.or_eq_true, List.any_eq_true] at this
    refine ⟨this.1, fun j hj => ?_⟩
    rcases this.2 j hj with h | h
    · exact .inl (by simpa using h)
    · exact .inr h
  have hp' : ∀ i j, i < ops.size → j < ops.size → (i = j ∨ ∀ d, (A i).dst = some d → (A j).dst ≠ some d) ∧
      (∀ d, (A j).dst = some d → d ∈ (A i).names → i ≠ j ∧ (bef cl j i = true ∨ (bef cl i j = true ∧ ((A i).op.writes = true ∨ (A j).op.writes = true)))) := by
    intro i j hi hj
    have h1 := hp i (List.mem_range.2 hi)
    rw [List.all_eq_true] at h1
    have h2 := h1 j (List.mem_range.2 hj)
    rw [Bool.and_eq_true, Bool.or_eq_true] at h2
    obtain ⟨h3, h4⟩ := h2
    refine ⟨?_, fun d hd hn => ?_⟩
    · rcases h3 with h3 | h3
      · exact .inl (by simpa using h3)
      · right
        intro d hd hd'
        rw [hd, hd'] at h3
        simp at h3
    · rw [hd] at h4
      have hn' : (A i).names.contains d = true := by simpa using hn
      simp only [hn', Bool.not_true, Bool.false_or, Bool.and_eq_true, Bool.or_eq_true, bne_iff_ne, ne_eq] at h4
      exact h4
  exact ⟨hop, hedge, fun i hi => (he' i hi).1, fun i hi j hj => (he' i hi).2 j (by unfold bef at hj; simpa using hj), fun i j hi hj hne => (hp' i j hi hj).1.resolve_left hne, fun i j hi hj => (hp' i j hi hj).2⟩

theorem drawn_wp (hm : P.follows .mixedOrders = true) {cm : Bool} {C : CallT} {again : ACode → Tm → Hp → Nat → CK → Prop} {nt id : Nat} {ops : Array Oper} {E : Env} {T : Tm} {h : Hp} {nx : Nat} {w : World} {k : CK} {a : Act} {Q : Exit → Act → World → Prop}
    {pre cl : List (List Nat)} {A : Nat → AOper} {s0 : DSeg} {l : List (Nat × DSeg)} (hC : CallOK P C) (hs : HSat E h nx w) (ht : TRel E nt T a) (hA : ∀ i o, ops[i]? = some o → A i = cOper P ops nt o)
    (hE : ∀ i o, ops[i]? = some o → ∀ j, j ∈ pre.getD i [] ↔ ∃ e ∈ o.after, Region.binds .any e = true ∧ e.on = j)
    (hk : codek cm C again (if planOK ops.size pre cl A s0 l then .dreg ops.size (dall A s0 l) else .bad) T h nx k) (hp : Post nt E h nx w k Q) : (Code.region id ops true).wp P Q a w := by
  by_cases hok : planOK ops.size pre cl A s0 l = true
  · rw [if_pos hok] at hk
    unfold planOK at hok
    rw [Bool.and_eq_true, Bool.and_eq_true] at hok
    obtain ⟨⟨h1, h2⟩, h3⟩ := hok
    have S := stat_of hA hE h1 h2
    have hk : fN (Nat.add nx ops.size) (fun n1 => dregk cm C nx (dall A s0 l) T h n1 k) := hk
    rw [fN_eq] at hk
    have hk : dregk cm C nx (dents A s0 ++ l.flatMap (fun p => (A p.1, 0) :: dents A p.2)) T h (nx + ops.size) k := hk
    split at h3
    · rename_i p' hseg
      refine wp_region_any hm ?_
      have hrep : (fun i => (Array.replicate ops.size false).getD i false) = fun _ => false := by
        funext i
        rw [Array.getD_eq_getD_getElem?, Array.getElem?_replicate]
        split <;> rfl
      have hs1 : HSat E h (nx + ops.size) { w with drawn := w.drawn + 1 } := by
        have := hs.drawn (w.drawn + 1)
        exact ⟨fun n hn => this.fresh n (by omega), this.obj, this.apart⟩
      have hg1 : Goes E h nx w E h (nx + ops.size) { w with drawn := w.drawn + 1 } :=
        ⟨Trans.drawn E h w _, Nat.le_add_right _ _, fun _ _ => rfl, fun _ _ _ => rfl⟩
      have st : St P cm nt nx ops pre A E h w (fun i => (Array.replicate ops.size false).getD i false) [] E T T h (nx + ops.size) a { w with drawn := w.drawn + 1 } := by
        rw [hrep]
        exact ⟨hs1, ht, hg1, Nat.le_refl _, fun i _ _ => hs.fresh _ (by omega), fun i hi => (by cases hi), fun i hi => (by cases hi), fun i hi => (by cases hi), fun i hi => (by cases hi), fun i hi => (by cases hi), fun _ _ => rfl, fun i hi => (by cases hi), fun i hi => (by cases hi)⟩
      obtain ⟨T2, h2', st2, hf2, hD2⟩ := adv_seg S st hseg hk
      refine sim S hC hp ops.size _ l none p' E T2 T h2' (nx + ops.size) a _ (by simp) ?_ st2 hf2 h3 hD2
      exact Nat.le_trans (List.length_filter_le _ _) (by simp)
    · cases h3
  · rw [if_neg hok] at hk
    exact hk.elim

theorem draw_ok (hm : P.follows .mixedOrders = true) : DrawOK P := by
  intro cm C again nt id ops E T h nx w k a Q hC hs ht hk hp
  have hk1 : codek cm C again (cDraw (ops.toList.map (cOper P ops nt)) (ops.toList.map fun o => (o.after.toList.filter (Region.binds .any)).map (·.on))) T h nx k := hk
  clear hk
  have hlen : (ops.toList.map (cOper P ops nt)).length = ops.size := by simp
  have hA : ∀ i o, ops[i]? = some o → (fun i => (ops.toList.map (cOper P ops nt)).getD i default) i = cOper P ops nt o := by
    intro i o ho
    dsimp only
    rw [List.getD_eq_getElem?_getD, List.getElem?_map, Array.getElem?_toList, ho]
    rfl
  have hE : ∀ i o, ops[i]? = some o → ∀ j, j ∈ (ops.toList.map fun o => (o.after.toList.filter (Region.binds .any)).map (·.on)).getD i [] ↔ ∃ e ∈ o.after, Region.binds .any e = true ∧ e.on = j := by
    intro i o ho j
    rw [List.getD_eq_getElem?_getD, List.getElem?_map, Array.getElem?_toList, ho]
    simp only [Option.map_some, Option.getD_some, List.mem_map, List.mem_filter, Array.mem_toList_iff]
    constructor
    · rintro ⟨e, ⟨h1, h2⟩, h3⟩; exact ⟨e, h1, h2, h3⟩
    · rintro ⟨e, h1, h2, h3⟩; exact ⟨e, ⟨h1, h2⟩, h3⟩
  unfold cDraw at hk1
  dsimp only at hk1
  rw [hlen] at hk1
  exact drawn_wp hm hC hs ht hA hE hk1 hp
end
end Go.Am
