/-
  The abstract machine, part 26: calls that turn nothing that was there; the keys of a map of at most one entry, sorted. No conditions but the contract that is given.
-/
import Derived.Test.YtgmhcbmkdimoiaaGreatDoorAm25
import Derived.Maps.Own
import Derived.Lib.SlKeysI
namespace Go.Am
open Go.RowKit
section
variable {P : Program}

theorem HSat.keep {E : Env} {h : Hp} {nx : Nat} {w w' : World} (hs : HSat E h nx w) (hk : ∀ b, b < w.heap.size → w'.heap[b]? = w.heap[b]?) : HSat E h nx w' :=
  ⟨hs.fresh, fun n o r hn hr => (hs.obj n o r hn hr).world (hk _ (hs.lt hn hr)), hs.apart⟩
theorem Goes.below {E : Env} {h : Hp} {nx : Nat} {w w' : World} (hb : Below w.heap.size w w') : Goes E h nx w E h nx w' :=
  ⟨⟨Ext.refl E, hb.size, fun b hlt hf => ⟨hb.block b hlt, hf⟩, hb.os, hb.tape, hb.output⟩, Nat.le_refl _, fun _ _ => rfl, fun _ _ _ => rfl⟩
/-- A new row that a call hands back, all else as it was. -/
theorem below_row {E : Env} {h : Hp} {nx : Nat} {w w' : World} {o : AObj} {r : Reg} (hs : HSat E h nx w) (hb : Below w.heap.size w w') (hr : w.heap.size ≤ r.b) (ho : ObjRel (E.put nx r) w' o r) :
    HSat (E.put nx r) (Tr.set o h (Nat.succ nx)) (nx + 1) w' ∧ Goes E h nx w (E.put nx r) (Tr.set o h (Nat.succ nx)) (nx + 1) w' := by
  have hnx : E nx = none := hs.fresh nx (Nat.le_refl _)
  refine ⟨hs.add hnx (Nat.lt_succ_self _) (Nat.le_succ _) (fun m x q hm hq => ?_) ho, ⟨⟨Env.ext_put _ _ _ hnx, hb.size, fun b hlt hf => ⟨hb.block b hlt, fun hf' => ?_⟩, hb.os, hb.tape, hb.output⟩, Nat.le_succ _, fun n hn => Env.put_other _ _ _ _ (by omega), fun n hn _ => by rw [hget_hset, if_neg (by omega)]⟩⟩
  · have := hs.lt hm hq
    exact ⟨hb.block _ this, by omega⟩
  · rcases hf'.put with e | e
    · omega
    · exact hf e

/-- The keys of a map, sorted, of at most one entry: t is the keys' type; gs: the iterators over keys. -/
noncomputable def specSorted (t : TypeId) (gs : List Nat) (args : List AVal) (h : Hp) (nx : Nat) (k : HK) : Prop :=
  match args with
  | [.fn g [] [.ptr b 0]] => selP (List.rec (motive := fun _ => Bool) false (fun a _ ih => sel (Nat.beq a g) true ih) gs) (match hget h b with
    | some (.row [.map m] _ .exact) => match hget h m with
      | some (.map [] _) => k .nils h nx
      | some (.map [(.int .i64 x, _, n)] clock) => sel (Nat.ble (Nat.succ n) clock) (sel (leI (lo .i64) x) (sel (leI x (hi .i64)) (hset h nx (.row [.int .i64 x] t (.grow 1)) fun h => fN (Nat.add nx 1) fun nx' => k (.slc nx 0 1 none) h nx') False) False) False
      | _ => False
    | _ => False) False
  | _ => False

/-- What is known of a function that sorts the keys of a map. -/
def SortsKeys (P : Program) (f : FuncId) (t : TypeId) (g : FuncId) : Prop := ∀ (Bm b nn : Nat) (D0 : DataW Unit) (R : Value → Option (DataW Unit × List MemPlace)) (w : World), Bm < w.heap.size → w.cell? ⟨Bm, 0, none⟩ = some (.map (some b)) →
  w.ownsMap P t R b nn D0 → Maps.size D0 ≤ 1 → Calls P f #[.func (.func g) #[] #[.pointer (some ⟨Bm, 0, none⟩)]] w fun e w' => ∃ (v : Value) (ss : List Int), e = .returned v ∧ ss.Perm (intKeys D0) ∧
    w'.ownsRow w.heap.size t 1 v ss.length ((ss.mergeSort (fun x y => decide (x ≤ y))).map (Value.int .i64)) ∧ (v = .slice none 0 0 ↔ ss = []) ∧ Below w.heap.size w w'

theorem mem_gs {g : Nat} : ∀ {gs : List Nat}, List.rec (motive := fun _ => Bool) false (fun a _ ih => sel (Nat.beq a g) true ih) gs = true → g ∈ gs
  | [], h => by cases h
  | a :: l, h => by
    have h : sel (Nat.beq a g) true (List.rec (motive := fun _ => Bool) false (fun a _ ih => sel (Nat.beq a g) true ih) l) = true := h
    rw [sel_beq] at h
    split at h
    · rename_i e; subst e; exact List.mem_cons_self
    · exact List.mem_cons_of_mem _ (mem_gs h)

theorem sorted_ok {f : FuncId} {func : Func} {t : TypeId} {gs : List Nat} (ht : P.underlying t = some (.int .i64)) (hf : P.funcs[f]? = some func) (hn : (func.name == "runtime.NumGoroutine") = false) (hb : func.body.isNone = false)
    (HC : ∀ g ∈ gs, SortsKeys P f t g) : SpecOK P f (specSorted t gs) := by
  intro vs args E h nx w k hs hr hk
  unfold specSorted at hk
  split at hk
  · rename_i g b
    rw [selP_eq] at hk
    split at hk
    · rename_i hg
      have hg := mem_gs hg
      obtain ⟨v0, rfl, hv0⟩ := rel_one hr
      cases hv0 with
      | fn _ _ _ x y hx hy =>
        have hx0 : x = #[] := Array.eq_empty_of_size_eq_zero (by have := hx.length; simpa using this.symm)
        obtain ⟨p, rfl, hp⟩ := rel_one hy
        subst hx0
        split at hk
        · rename_i m tb hbm
          cases hp with
          | ptr _ _ rb hrb =>
            obtain ⟨cells, fr, q1, q2, q3, q4, q5, q6, q7, q8⟩ := hs.obj b _ _ hbm hrb
            obtain ⟨_, hd0, _⟩ := q4 rfl
            obtain ⟨vm, hvm, hrm⟩ := q8 0 (.map m) rfl
            cases hrm with
            | map _ rm hrm =>
              have hlt := hs.lt hbm hrb
              have hcell : w.cell? ⟨rb.b, 0, none⟩ = some (.map (some rm.b)) := by
                rw [hd0] at hvm
                simp [World.cell?, q1, hvm]
              rw [show (⟨rb.b, rb.d + 0, none⟩ : Addr) = ⟨rb.b, 0, none⟩ by rw [hd0]]
              have henter : (callFunc f #[.func (.func g) #[] #[.pointer (some ⟨rb.b, 0, none⟩)]]).run P w = .ok (.enter f #[.func (.func g) #[] #[.pointer (some ⟨rb.b, 0, none⟩)]]) w := by
                simp only [callFunc, Sem.run_bind, run_program, Result.andThen_ok, hf, hn, hb, Bool.false_eq_true, if_false, Sem.run_pure]
              refine .inr ⟨_, _, henter, ?_⟩
              split at hk
              · rename_i clock hmm
                obtain ⟨mes, h1, h2⟩ := map_obj hs hmm hrm
                have hm0 : mes = #[] := Array.eq_empty_of_size_eq_zero (by have := h2.length; simpa using this.symm)
                subst hm0
                have hown : w.ownsMap P t (fun _ => some ((.nil : DataW Unit), [])) rm.b 0 (.map []) := ⟨#[], clock, h1, ⟨by simp, ⟨by simp, by simp, by simp⟩, by simp⟩, by simp, by simp⟩
                refine (HC g hg rb.b rm.b 0 _ _ w hlt hcell hown (by simp [Maps.size])).mono ?_
                rintro e w' ⟨v, ss, rfl, hp, hrow, hnil, hbel⟩
                have hss : ss = [] := by simpa [intKeys] using hp
                have hv : v = .slice none 0 0 := hnil.2 hss
                subst hv
                exact ⟨_, .nils, E, h, nx, rfl, .nils, hs.keep hbel.block, Goes.below hbel, hk⟩
              · rename_i x vv n clock hmm
                rw [sel_ble, sel_eq, sel_eq, leI_eq, leI_eq] at hk
                simp only [decide_eq_true_eq] at hk
                split at hk
                · rename_i hclk
                  split at hk
                  · rename_i hlo
                    split at hk
                    · rename_i hhi
                      rw [hset_k, fN_eq] at hk
                      obtain ⟨mes, h1, h2⟩ := map_obj hs hmm hrm
                      obtain ⟨u, hu⟩ : ∃ u, mes = #[⟨.int .i64 x, u, n⟩] := by
                        cases hm : mes.toList with
                        | nil => rw [hm] at h2; cases h2
                        | cons a l =>
                          rw [hm] at h2
                          cases h2 with
                          | cons _ _ _ ku kv _ m hk1 hk2 ht2 =>
                            cases ht2
                            cases hk1
                            exact ⟨kv, by rw [← Array.toList_inj, hm]⟩
                      subst hu
                      have hwf : (Lit.int .i64 x).wf = true := by
                        simp only [Lit.wf, IntKind.min, IntKind.max, IntKind.signed, IntKind.bits]
                        simpa [lo, hi] using And.intro hlo hhi
                      have hrd : WideElems.rd P t (fun _ => some ((.nil : DataW Unit), [])) ⟨.int .i64 x, u, n⟩ = some (.int .i64 x, .nil) := WideElems.rd_mk (yv := ((.nil : DataW Unit), [])) (Maps.keyOf_int_mk ht hwf) rfl
                      have hown : w.ownsMap P t (fun _ => some ((.nil : DataW Unit), [])) rm.b 1 (.map [(.int .i64 x, .nil)]) :=
                        ⟨_, clock, h1, ⟨by simp [maxLen], ⟨by intro y hy; simp at hy; subst hy; exact hclk, by simp, by simp⟩, by intro y hy; simp at hy; subst hy; exact ⟨_, hrd⟩⟩, by simp, by simp [WideElems.rg, hrd, DataW.insert]⟩
                      refine (HC g hg rb.b rm.b 1 _ _ w hlt hcell hown (by simp [Maps.size])).mono ?_
                      rintro e w' ⟨v, ss, rfl, hp, hrow, hnil, hbel⟩
                      have hss : ss = [x] := by simpa [intKeys, Go.intOf] using hp
                      subst hss
                      obtain ⟨hl, hrow | ⟨gb, cap, cur, rfl, hge, hheap, hn1, _, hsz, htk⟩⟩ := hrow
                      · have := hrow.2; simp at this
                      · have hobj : ObjRel (E.put nx ⟨gb, 0, cap, 1, []⟩) w' (.row [.int .i64 x] t (.grow 1)) ⟨gb, 0, cap, 1, []⟩ := by
                          refine ⟨cur, (0, 0), hheap, by show 0 + cap ≤ cur.size; omega, by simpa using hn1, (fun h => by cases h), (by rintro s' (h | h) <;> cases h; rfl), fun _ => .inl rfl, rfl, fun i c hi => ?_⟩
                          have hi0 : i = 0 := by
                            rcases Nat.eq_zero_or_pos i with h | h
                            · exact h
                            · rw [List.getElem?_eq_none (by simp; omega)] at hi; cases hi
                          subst hi0
                          cases hi
                          refine ⟨.int .i64 x, ?_, .int _ _⟩
                          have h9 : cur.toList.take 1 = [.int .i64 x] := by simpa using htk
                          have h10 : (cur.toList.take 1)[0]? = some (.int .i64 x) := by rw [h9]; rfl
                          rw [List.getElem?_take, if_pos (by omega)] at h10
                          simpa using h10
                        obtain ⟨a1, a2⟩ := below_row hs hbel hge hobj
                        exact ⟨_, .slc nx 0 1 none, _, _, _, rfl, by
                          have := Rel.slcN (E := E.put nx ⟨gb, 0, cap, 1, []⟩) nx 0 1 cap _ (Env.put_same _ _ _) (by simp) (by simpa using hn1)
                          simpa using this, a1, a2, hk⟩
                    · exact hk.elim
                  · exact hk.elim
                · exact hk.elim
              · exact hk.elim
        · exact hk.elim
    · exact hk.elim
  · exact hk.elim
end
end Go.Am
