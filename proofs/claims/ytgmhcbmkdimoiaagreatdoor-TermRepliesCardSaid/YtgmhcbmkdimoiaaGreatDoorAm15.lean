/-
  The abstract machine, part 15: writing into rows. No conditions.
-/
import Derived.Test.YtgmhcbmkdimoiaaGreatDoorAm14
namespace Go.Am
section
variable {P : Program} {E : Env} {T : Tm} {h : Hp} {nx : Nat} {w : World} {cm : Bool} {ρ : Operand → Value}

theorem put_cons {α : Type} (o : Nat) (v : α) (vs l : List α) (hl : o + (vs.length + 1) ≤ l.length) : put o (v :: vs) l = put (o + 1) vs (l.set o v) := by
  apply List.ext_getElem?
  intro i
  rw [put_get _ _ _ (by simpa using hl), put_get _ _ _ (by simp; omega)]
  simp only [List.length_cons]
  by_cases h1 : o + 1 ≤ i ∧ i < o + 1 + vs.length
  · rw [if_pos h1, if_pos (by omega), show i - o = (i - (o + 1)) + 1 from by omega]
    simp
  · rw [if_neg h1]
    by_cases h2 : i = o
    · subst h2
      rw [if_pos (by omega), List.getElem?_set]
      simp; omega
    · rw [if_neg (by omega), List.getElem?_set, if_neg (Ne.symm h2)]
theorem put_nil {α : Type} (o : Nat) (l : List α) : put o [] l = l := by simp [put]

theorem heap_setCell (w : World) (b o : Nat) (v : Value) {c : Array Value} {t : TypeId} {fr : Nat × Nat} (hb : w.heap[b]? = some (.cells c t fr)) :
    (w.setCell ⟨b, o, none⟩ v).heap[b]? = some (.cells (c.setIfInBounds o v) t fr) := by
  simp [World.setCell, Array.getElem?_modify, hb]
theorem heap_setCell_other (w : World) (a : Addr) (v : Value) (k : Nat) (hk : k ≠ a.block) : (w.setCell a v).heap[k]? = w.heap[k]? := by
  simp only [World.setCell, Array.getElem?_modify]
  rw [if_neg (Ne.symm hk)]

/-- The same, but for some cells of one block. -/
structure OnlyBlock (w w' : World) (b : Nat) : Prop where
  other : ∀ k, k ≠ b → w'.heap[k]? = w.heap[k]?
  size : w'.heap.size = w.heap.size
  os : w'.os = w.os
  tape : w'.tape = w.tape
  output : w'.output = w.output

theorem heap_setCells (b : Nat) : ∀ (vs : List Value) (o : Nat) (w : World) (c : Array Value) (t : TypeId) (fr : Nat × Nat), w.heap[b]? = some (.cells c t fr) → o + vs.length ≤ c.size →
    (∃ c', (w.setCells b o vs).heap[b]? = some (.cells c' t fr) ∧ c'.toList = put o vs c.toList) ∧ OnlyBlock w (w.setCells b o vs) b
  | [], o, w, c, t, fr, hb, _ => ⟨⟨c, hb, by rw [put_nil]⟩, ⟨fun _ _ => rfl, rfl, rfl, rfl, rfl⟩⟩
  | v :: vs, o, w, c, t, fr, hb, hl => by
    have hb1 := heap_setCell w b o v hb
    simp only [List.length_cons] at hl
    obtain ⟨⟨c', h1, h2⟩, h3⟩ := heap_setCells b vs (o + 1) (w.setCell ⟨b, o, none⟩ v) _ t fr hb1 (by simp; omega)
    refine ⟨⟨c', h1, ?_⟩, ⟨fun k hk => (h3.other k hk).trans (heap_setCell_other _ _ _ _ hk), h3.size.trans (World.size_setCell _ _ _), h3.os, h3.tape, h3.output⟩⟩
    rw [h2, put_cons _ _ _ _ (by simpa using hl)]
    simp

theorem onesV_append (a b : List AVal) : onesV (a ++ b) = (onesV a && onesV b) := by simp [onesV_eq]
theorem onesV_take {l : List AVal} (h : onesV l = true) (n : Nat) : onesV (l.take n) = true := by
  rw [onesV_eq, List.all_eq_true] at *
  exact fun a ha => h a (List.mem_of_mem_take ha)
theorem onesV_drop {l : List AVal} (h : onesV l = true) (n : Nat) : onesV (l.drop n) = true := by
  rw [onesV_eq, List.all_eq_true] at *
  exact fun a ha => h a (List.mem_of_mem_drop ha)
theorem onesV_put {a l : List AVal} (ha : onesV a = true) (hl : onesV l = true) (o : Nat) : onesV (put o a l) = true := by
  unfold put
  rw [onesV_append, onesV_append, onesV_take hl, ha, onesV_drop hl]
  rfl

/-- Values stored into a row that is owned. -/
theorem row_store (hs : HSat E h nx w) {n : Nat} {cs : List AVal} {t : TypeId} {m : RMode} {r : Reg} (hn : hget h n = some (.row cs t m)) (ho : own (.row cs t m) = true) (hr : E n = some r)
    {off : Nat} {as : List AVal} {vs : List Value} (hrel : RelL E as vs) (h1 : onesV as = true) (hl : off + as.length ≤ cs.length) :
    ∃ w', (storeCells ⟨r.b, r.d + off, none⟩ vs).run P w = .ok () w' ∧ HSat E (Tr.set (.row (put off as cs) t m) h (Nat.succ n)) nx w' ∧ Goes E h nx w E (Tr.set (.row (put off as cs) t m) h (Nat.succ n)) nx w' := by
  obtain ⟨cells, fr, hb, hk, hcs, hx, hg, hfr, hones, hcell⟩ := hs.obj n _ _ hn hr
  have hlen : vs.length = as.length := hrel.length.symm
  have hst := run_storeCells_cells (P := P) r.b (r.d + off) vs 0 w
    (fun j hj => by
      obtain ⟨v, hv⟩ : ∃ v, cells[r.d + off + j]? = some v := ⟨_, Array.getElem?_eq_getElem (by omega)⟩
      simp [World.cell?, hb, hv])
    (fun j hj => by
      have hf := hfr ho
      simp only [World.frozen?, hb, Nat.add_zero]
      rcases hf with hf | hf
      · simp only [Bool.and_eq_false_iff, decide_eq_false_iff_not]
        omega
      · simp only [Bool.and_eq_false_iff, decide_eq_false_iff_not]
        omega)
    (one_cells hrel h1)
  simp only [Nat.add_zero] at hst
  obtain ⟨⟨c', h2, h3⟩, h4⟩ := heap_setCells r.b vs (r.d + off) w cells t fr hb (by omega)
  have hc's : c'.size = cells.size := by
    rw [← Array.length_toList, h3, put_length _ _ _ (by simp; omega)]
    simp
  have hobj : ObjRel E (w.setCells r.b (r.d + off) vs) (.row (put off as cs) t m) r := by
    refine ⟨c', fr, h2, by omega, by rw [put_length _ _ _ hl]; exact hcs, fun e => by rw [put_length _ _ _ hl]; exact ⟨(hx e).1, (hx e).2.1, by rw [hc's]; exact (hx e).2.2⟩, hg, fun _ => ?_, onesV_put h1 hones off, fun i c hi => ?_⟩
    · rw [hc's]; exact hfr ho
    · rw [put_get _ _ _ hl] at hi
      rw [← Array.getElem?_toList, h3, put_get _ _ _ (by simp; omega)]
      by_cases hin : off ≤ i ∧ i < off + as.length
      · rw [if_pos hin] at hi
        rw [if_pos (by omega), show r.d + i - (r.d + off) = i - off from by omega]
        exact hrel.get _ _ hi
      · rw [if_neg hin] at hi
        rw [if_neg (by omega), Array.getElem?_toList]
        exact hcell i c hi
  exact ⟨_, hst, hs.update hn ho hr h4.other hobj, Goes.update hn ho hr h4.other h4.size h4.os h4.tape h4.output⟩

/-- What is left by an operation that ends at once. -/
def Out (r : Result Next) (E : Env) (h : Hp) (nx : Nat) (w : World) (k : HK) : Prop :=
  ∃ y w' E' x h' nx', (r = .ok (.value y) w' ∨ (r = .ok .skip w' ∧ y = undef)) ∧ Rel E' x y ∧ HSat E' h' nx' w' ∧ Goes E h nx w E' h' nx' w' ∧ k x h' nx'

theorem rel_undef (E : Env) : Rel E (.tup []) undef := .tup _ _ .nil

/-- A store. -/
theorem run_st (hs : HSat E h nx w) {t : TypeId} {n : Nat} {a v : AVal} {x y : Value} (hn : sizeOf? P t = some n) (ha : Rel E a x) (hv : Rel E v y) {k : HK}
    (hk : match (generalizing := false) a with
      | .ptr r off => sel (Nat.beq (lenk v.cells) n) (sel (onesV v.cells) (match hget h r with
        | some (.row cs t .exact) => putk off v.cells cs (fun cs => hset h r (.row cs t .exact) fun h => k (.tup []) h nx) False
        | some (.row cs t (.grow g)) => putk off v.cells cs (fun cs => hset h r (.row cs t (.grow g)) fun h => k (.tup []) h nx) False
        | _ => False) False) False
      | _ => False) : ∃ w' h', (Instr.storeAt t x y).run P w = .ok () w' ∧ HSat E h' nx w' ∧ Goes E h nx w E h' nx w' ∧ k (.tup []) h' nx := by
  cases ha with
  | ptr m off r hr =>
    dsimp only at hk
    rw [sel_beq, lenk_eq] at hk
    split at hk
    · rename_i hlen
      cases ho : onesV v.cells with
      | false => rw [ho] at hk; exact hk.elim
      | true =>
        rw [ho, sel_true] at hk
        have fin : ∀ {cs : List AVal} {t' : TypeId} {md : RMode}, hget h m = some (.row cs t' md) → own (.row cs t' md) = true → putk off v.cells cs (fun cs => hset h m (.row cs t' md) fun h => k (.tup []) h nx) False →
            ∃ w' h', (Instr.storeAt t (.pointer (some ⟨r.b, r.d + off, none⟩)) y).run P w = .ok () w' ∧ HSat E h' nx w' ∧ Goes E h nx w E h' nx w' ∧ k (.tup []) h' nx := by
          intro cs t' md hn' hown hk
          rw [putk_eq] at hk
          split at hk
          · rename_i hl
            rw [hset_k] at hk
            obtain ⟨w', h1, h2, h3⟩ := row_store (P := P) hs hn' hown hr (cells_rel hv) ho hl
            refine ⟨w', _, ?_, h2, h3, hk⟩
            have hsz : y.cells.size = n := by rw [cells_size hv]; exact hlen
            simp [Instr.storeAt, storeVar, Instr.sureAddr, run_size w hn, hsz, h1]
          · exact hk.elim
        split at hk
        · rename_i hn'; exact fin hn' rfl hk
        · rename_i hn'; exact fin hn' rfl hk
        · exact hk.elim
    · exact hk.elim
  | _ => exact hk.elim

theorem freeze_only (w : World) (b n m : Nat) : OnlyBlock w (w.freeze ⟨b, n, none⟩ m) b := by
  unfold World.freeze
  split
  · exact ⟨fun _ _ => rfl, rfl, rfl, rfl, rfl⟩
  · refine ⟨fun k hk => ?_, by simp, rfl, rfl, rfl⟩
    simp only [Array.getElem?_modify]
    rw [if_neg (Ne.symm hk)]

/-- A conversion between types of bytes: it marks the row's end. -/
theorem run_frz (hs : HSat E h nx w) {s d e e' : TypeId} (hsd : (s == d) = true) (h1 : P.underlying s = some (.slice e')) (h2 : P.underlying d = some (.slice e)) (h3 : P.underlying e = some (.int .u8)) {a : AVal} {x : Value} (ha : Rel E a x) {k : HK}
    (hk : match (generalizing := false) a with
      | .slc r off len c => match hget h r with
        | some (.row _ _ .exact) => k (.slc r off len c) h nx
        | some (.row _ _ (.grow _)) => k (.slc r off len c) h nx
        | _ => False
      | _ => False) : ∃ w', (convert s d x).run P w = .ok x w' ∧ HSat E h nx w' ∧ Goes E h nx w E h nx w' ∧ k a h nx := by
  have fin : ∀ {n off : Nat} {r : Reg} {len cap : Nat} {cs : List AVal} {t' : TypeId} {md : RMode}, x = .slice (some ⟨r.b, r.d + off, none⟩) len cap → E n = some r → hget h n = some (.row cs t' md) → own (.row cs t' md) = true → k a h nx →
      ∃ w', (convert s d x).run P w = .ok x w' ∧ HSat E h nx w' ∧ Goes E h nx w E h nx w' ∧ k a h nx := by
    intro n off r len cap cs t' md hx hr hn ho hkk
    subst hx
    obtain ⟨cells, fr, hb, hk1, hcs, hx, hg, hfr, hones, hcell⟩ := hs.obj n _ _ hn hr
    have hrun : (convert s d (.slice (some ⟨r.b, r.d + off, none⟩) len cap)).run P w = .ok (.slice (some ⟨r.b, r.d + off, none⟩) len cap) (w.freeze ⟨r.b, cells.size, none⟩ 1) := by
      simp [convert, run_und w h1, run_und w h2, run_und w h3, hsd, markStringish, World.shape?, hb]
    have honly := freeze_only w r.b cells.size 1
    obtain ⟨fr', hb', hfr'⟩ : ∃ fr', (w.freeze ⟨r.b, cells.size, none⟩ 1).heap[r.b]? = some (.cells cells t' fr') ∧ (fr'.1 = fr'.2 ∨ cells.size ≤ fr'.1) := by
      obtain ⟨lo, hi⟩ := fr
      have hf := hfr ho
      dsimp only at hf
      simp only [World.freeze, Nat.one_ne_zero, if_false, Array.getElem?_modify, if_true, hb, Option.map_some]
      by_cases h : lo = hi
      · subst h
        exact ⟨_, rfl, by simp⟩
      · refine ⟨_, rfl, ?_⟩
        have : (lo == hi) = false := by simpa using h
        rw [this]
        simp
        omega
    have hobj : ObjRel E (w.freeze ⟨r.b, cells.size, none⟩ 1) (.row cs t' md) r := ⟨cells, fr', hb', hk1, hcs, hx, hg, fun _ => hfr', hones, hcell⟩
    have hsame : ∀ m, hget (Tr.set (.row cs t' md) h (Nat.succ n)) m = hget h m := fun m => by
      rw [hget_hset]
      split
      · rename_i e; rw [e, hn]
      · rfl
    have hs' := hs.update hn ho hr honly.other hobj
    have hg' := Goes.update (nx := nx) hn ho hr (o' := .row cs t' md) honly.other honly.size honly.os honly.tape honly.output
    refine ⟨_, hrun, hs'.congr fun m => (hsame m).symm, hg'.congr fun m => (hsame m).symm, hkk⟩
  cases ha with
  | slcN n off len c r hr hc hl =>
    dsimp only at hk
    split at hk
    · rename_i hn; exact fin rfl hr hn rfl hk
    · rename_i hn; exact fin rfl hr hn rfl hk
    · exact hk.elim
  | slcS n off len c r hr =>
    dsimp only at hk
    split at hk
    · rename_i hn; exact fin rfl hr hn rfl hk
    · rename_i hn; exact fin rfl hr hn rfl hk
    · exact hk.elim
  | _ => exact hk.elim
end
end Go.Am
