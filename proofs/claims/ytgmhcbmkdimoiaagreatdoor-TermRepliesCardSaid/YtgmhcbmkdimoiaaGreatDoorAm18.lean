/-
  The abstract machine, part 18: append and copy. No conditions.
-/
import Derived.Test.YtgmhcbmkdimoiaaGreatDoorAm17
import Derived.Laws.Append
import Derived.Laws.AppendOwn
namespace Go.Am
section
variable {P : Program} {E : Env} {T : Tm} {h : Hp} {nx : Nat} {w : World} {cm : Bool} {ρ : Operand → Value}

/-- What an append does, its second argument fixed: n elements, whose cells are vs. -/
structure AppRun (P : Program) (S : Value → Sem Value) (e : TypeId) (size bytes n : Nat) (vs : List Value) (w : World) : Prop where
  room : ∀ (base : Option Addr) (sLen sCap : Nat) (w' : World), sLen + n ≤ sCap → (match base with | some a => (storeCells (a.add (sLen * size)) vs).run P w = .ok () w' | none => w' = w) →
    (S (.slice base sLen sCap)).run P w = .ok (.slice base (sLen + n) sCap) w'
  grow : ∀ (base : Option Addr) (sLen sCap : Nat) (old : Array Value), sCap < sLen + n → (2 * (sLen + n) + 1024) * bytes ≤ 281474976710656 →
    (Builtin.firstCells size sLen (.slice base sLen sCap)).run P w.drew = .ok old w.drew →
    ∃ cap rest, sLen + n ≤ cap ∧ rest.size = (cap - (sLen + n)) * size ∧
      (S (.slice base sLen sCap)).run P w = .ok (.slice (some ⟨w.heap.size, 0, none⟩) (sLen + n) cap) (w.drew.alloc (.cells (old ++ vs.toArray ++ rest) e))

theorem bytes_bound {need cap bytes : Nat} (hg : cap < need) (hb : (2 * need + 1024) * bytes ≤ 281474976710656) : Builtin.nextslicecap need cap * bytes ≤ 281474976710656 :=
  Nat.le_trans (Nat.mul_le_mul_right bytes (Nat.le_trans (nextslicecap_le hg) (by omega))) hb

theorem cut_ge (need old t : Nat) (e : TypeId) : need ≤ (Question.appendCap need old e).cut t := by simp [Question.cut]

theorem app_run {t u ty e : TypeId} {d : TypeDesc} {i : TypeInfo} {z : Value} (ht : P.underlying t = some (.slice e)) (hu : P.underlying u = some d) (hd : ∀ k, d ≠ .int k) (hi : P.info? e = some i) (hz : i.zero = some z) (hzs : z.cells.size = i.size) (hb0 : i.bytes ≠ 0)
    {x : Value} {n : Nat} {vs : List Value} (hlen : ∀ w', (Builtin.lenOf x).run P w' = .ok n w') (hf : ∀ w' : World, w'.heap = w.heap → (Builtin.firstCells i.size n x).run P w' = .ok vs.toArray w') :
    AppRun P (fun s => Builtin.append_ #[t, u] ty #[s, x]) e i.size i.bytes n vs w := by
  have hzero : (match d with | .int _ => true | _ => false) = false := by cases d <;> first | rfl | exact absurd rfl (hd _)
  have hinfo : ∀ w', (typeInfo e).run P w' = .ok i w' := fun w' => run_info w' hi
  have hsize : ∀ w', (sizeOf e).run P w' = .ok i.size w' := fun w' => by simp [sizeOf, hinfo]
  have hzv : ∀ w', (zeroValue e).run P w' = .ok z w' := fun w' => by simp [zeroValue, hinfo, hz]
  refine ⟨?_, ?_⟩
  · intro base sLen sCap w' hroom hst
    cases base with
    | none =>
      simp only at hst
      subst hst
      simp [Builtin.append_, run_und _ ht, run_und _ hu, hsize, hlen, hroom, hf w' rfl]
    | some a =>
      simp only at hst
      simp [Builtin.append_, run_und _ ht, run_und _ hu, hsize, hlen, hroom, hf w rfl, hst]
  · intro base sLen sCap old hg hb hold
    refine ⟨(Question.appendCap (sLen + n) sCap e).cut (w.tape w.drawn (.appendCap (sLen + n) sCap e)), Builtin.zeroCells z.cells ((Question.appendCap (sLen + n) sCap e).cut (w.tape w.drawn (.appendCap (sLen + n) sCap e)) - (sLen + n)), cut_ge _ _ _ _, by rw [size_zeroCells, hzs], ?_⟩
    have hfit := bytes_bound hg hb
    have hn1 : ¬ (sLen + n ≤ sCap) := by omega
    have hfit' : ¬ (281474976710656 < Builtin.nextslicecap (sLen + n) sCap * i.bytes) := by omega
    simp [Builtin.append_, run_und _ ht, run_und _ hu, hsize, hlen, hn1, hinfo, hb0, hfit', Question.forced, hold, hf w.drew rfl, hzv, newRow]


/-- The same where zeros are appended. -/
theorem appz_run {t u ty e : TypeId} {ik : IntKind} {i : TypeInfo} {z : Value} (ht : P.underlying t = some (.slice e)) (hu : P.underlying u = some (.int ik)) (hi : P.info? e = some i) (hz : i.zero = some z) (hzs : z.cells.size = i.size) (hb0 : i.bytes ≠ 0) (hs0 : i.size ≠ 0)
    {n : Nat} (hn : n * i.bytes ≤ 281474976710656) : AppRun P (fun s => Builtin.append_ #[t, u] ty #[s, .int .i64 n]) e i.size i.bytes n (Builtin.zeroCells z.cells n).toList w := by
  have hinfo : ∀ w', (typeInfo e).run P w' = .ok i w' := fun w' => run_info w' hi
  have hsize : ∀ w', (sizeOf e).run P w' = .ok i.size w' := fun w' => by simp [sizeOf, hinfo]
  have hzv : ∀ w', (zeroValue e).run P w' = .ok z w' := fun w' => by simp [zeroValue, hinfo, hz]
  have hnb : n ≤ n * i.bytes := Nat.le_mul_of_pos_right _ (by omega)
  have hwr : IntKind.i64.wrap (n : Int) = n := wrap_in _ _ (by show (-9223372036854775808 : Int) ≤ _; omega) (by show _ ≤ (9223372036854775807 : Int); omega)
  have hA : ∀ w', (asInt (.int .i64 n)).run P w' = .ok (n : Int) w' := fun w' => by simp [asInt, asIntOf]
  have hneg : ¬ ((n : Int) < 0) := by omega
  have hbig : ¬ ((n : Int) * (i.bytes : Int) > 2 ^ 48) := by
    have h9 : ((n * i.bytes : Nat) : Int) ≤ 281474976710656 := by omega
    rw [Int.natCast_mul] at h9
    show ¬ ((n : Int) * (i.bytes : Int) > 281474976710656)
    omega
  have happ : ∀ w' : World, ((if n * i.size = 0 then pure #[] else do pure (Builtin.zeroCells (← zeroValue e).cells n) : Sem (Array Value))).run P w' = .ok (Builtin.zeroCells z.cells n) w' := by
    intro w'
    by_cases h0 : n * i.size = 0
    · have hn0 : n = 0 := by
        rcases Nat.mul_eq_zero.1 h0 with h | h
        · exact h
        · exact absurd h hs0
      subst hn0
      simp [Builtin.zeroCells]
    · rw [if_neg h0]
      simp [hzv]
  refine ⟨?_, ?_⟩
  · intro base sLen sCap w' hroom hst
    have hroom' : sLen + ((n : Int)).toNat ≤ sCap := by simpa using hroom
    unfold Builtin.append_
    cases base with
    | none =>
      simp only at hst
      subst hst
      simp only [List.getElem?_toArray, List.getElem?_cons_zero, List.getElem?_cons_succ, Sem.run_bind, run_und _ ht, run_und _ hu, hsize, hA, hwr, hinfo, Result.andThen_ok, Sem.run_pure, if_true, hneg, hbig, if_false, Sem.run_ite, Bool.not_true, Bool.false_eq_true, Int.toNat_natCast, hroom]
      have := happ w'
      simp only [Sem.run_ite, Sem.run_bind, Sem.run_pure] at this
      rw [this]
      rfl
    | some a =>
      simp only at hst
      simp only [List.getElem?_toArray, List.getElem?_cons_zero, List.getElem?_cons_succ, Sem.run_bind, run_und _ ht, run_und _ hu, hsize, hA, hwr, hinfo, Result.andThen_ok, Sem.run_pure, if_true, hneg, hbig, if_false, Sem.run_ite, Bool.not_true, Bool.false_eq_true, Int.toNat_natCast, hroom]
      have := happ w
      simp only [Sem.run_ite, Sem.run_bind, Sem.run_pure] at this
      rw [this]
      simp only [Result.andThen_ok, hst]
  · intro base sLen sCap old hg hb hold
    have hfit := bytes_bound hg hb
    have hn1 : ¬ (sLen + n ≤ sCap) := by omega
    have hfit' : ¬ (Builtin.nextslicecap (sLen + n) sCap * i.bytes > 2 ^ 48) := by
      show ¬ (_ > 281474976710656)
      omega
    have hneed : ¬ (((sLen + n : Nat) : Int) > IntKind.i64.max ∧ (True ∨ i.bytes = 0)) := by
      rintro ⟨h1, _⟩
      have h1 : ((sLen + n : Nat) : Int) > 9223372036854775807 := h1
      have : (2 * (sLen + n) + 1024) ≤ (2 * (sLen + n) + 1024) * i.bytes := Nat.le_mul_of_pos_right _ (by omega)
      omega
    refine ⟨(Question.appendCap (sLen + n) sCap e).cut (w.tape w.drawn (.appendCap (sLen + n) sCap e)), Builtin.zeroCells z.cells ((Question.appendCap (sLen + n) sCap e).cut (w.tape w.drawn (.appendCap (sLen + n) sCap e)) - (sLen + n)), cut_ge _ _ _ _, by rw [size_zeroCells, hzs], ?_⟩
    unfold Builtin.append_
    simp only [List.getElem?_toArray, List.getElem?_cons_zero, List.getElem?_cons_succ, Sem.run_bind, run_und _ ht, run_und _ hu, hsize, hA, hwr, hinfo, Result.andThen_ok, Sem.run_pure, if_true, hneg, hbig, if_false, Sem.run_ite, Bool.not_true, Bool.false_eq_true, Int.toNat_natCast, hn1, hneed, hfit', run_choose, Question.forced, run_askRoom, World.drew_eq, hold]
    have := happ w.drew
    simp only [Sem.run_ite, Sem.run_bind, Sem.run_pure] at this
    rw [this]
    simp [hzv, newRow]

theorem firstCells_row (hs : HSat E h nx w) {n : Nat} {cs : List AVal} {t : TypeId} {m : RMode} {r : Reg} (hn : hget h n = some (.row cs t m)) (hr : E n = some r) (size len cap off : Nat) (hl : off + len * size ≤ cs.length) :
    ∃ x : Array Value, (Builtin.firstCells size len (.slice (some ⟨r.b, r.d + off, none⟩) len cap)).run P w = .ok x w ∧ RelL E ((cs.drop off).take (len * size)) x.toList := by
  obtain ⟨x, h1, h2⟩ := run_loadCells_row (P := P) hs hn hr (len * size) off hl
  exact ⟨x, by simpa [Builtin.firstCells] using h1, h2⟩

theorem loadCells_zero (a : Addr) (w : World) : (loadCells a 0).run P w = .ok #[] w := by simp [loadCells, loadCellsFrom]

/-- A row that is made by an append that must grow. -/
theorem grow_out {S : Value → Sem Value} {e : TypeId} {size n : Nat} {ys : List AVal} {vs : List Value} (hs : HSat E h nx w) (hr : RelL E ys vs) (hn : vs.length = n * size) (ho : onesV ys = true)
    {base : Option Addr} {sLen sCap : Nat} {old : Array Value} {os : List AVal} (hold : RelL E os old.toList) (hol : os.length = sLen * size) (hoo : onesV os = true)
    (hg : ∃ cap rest, sLen + n ≤ cap ∧ (rest : Array Value).size = (cap - (sLen + n)) * size ∧
      (S (.slice base sLen sCap)).run P w = .ok (.slice (some ⟨w.heap.size, 0, none⟩) (sLen + n) cap) (w.drew.alloc (.cells (old ++ vs.toArray ++ rest) e))) :
    ∃ y w' E', (S (.slice base sLen sCap)).run P w = .ok y w' ∧ Rel E' (.slc nx 0 (sLen + n) none) y ∧ HSat E' (Tr.set (.row (os ++ ys) e (.grow size)) h (Nat.succ nx)) (nx + 1) w' ∧
      Goes E h nx w E' (Tr.set (.row (os ++ ys) e (.grow size)) h (Nat.succ nx)) (nx + 1) w' := by
  obtain ⟨cap, rest, h1, h2, h3⟩ := hg
  have hnx : E nx = none := hs.fresh nx (Nat.le_refl _)
  have hlen : (os ++ ys).length = (sLen + n) * size := by rw [List.length_append, hol, hr.length, hn, Nat.add_mul]
  have hcs : (old ++ vs.toArray ++ rest).size = cap * size := by
    have h5 : old.size = sLen * size := by rw [← Array.length_toList, ← hold.length]; exact hol
    simp only [Array.size_append, h2, List.size_toArray, hn, h5]
    rw [← Nat.add_mul, ← Nat.add_mul]
    congr 1
    omega
  have hobj : ObjRel (E.put nx ⟨w.heap.size, 0, cap * size, size, []⟩) (w.drew.alloc (.cells (old ++ vs.toArray ++ rest) e)) (.row (os ++ ys) e (.grow size)) ⟨w.heap.size, 0, cap * size, size, []⟩ := by
    have hx := Env.ext_put E nx ⟨w.heap.size, 0, cap * size, size, []⟩ hnx
    refine ObjRel.made (xs := old.toList ++ vs) (rest := rest.toList) (heap_new w.drew _) ((hold.mono hx).append (hr.mono hx)) (by simp) (.inl rfl) (by rw [onesV_append, hoo, ho]; rfl) (by rw [hcs]; exact Nat.le_refl _)
      (by rw [hlen]; exact Nat.mul_le_mul_right _ h1) (fun h => by cases h) (by rintro s' (h | h) <;> cases h; rfl)
  obtain ⟨h4, h5⟩ := alloc_next (w := w.drew) (hs.drawn _) hobj
  refine ⟨_, _, _, h3, .slcN nx 0 (sLen + n) cap _ (Env.put_same _ _ _) (by simp) h1, h4, (Goes.drawn E h nx w _).next h5⟩

/-- An append onto a slice whose room is not known. -/
theorem grow_row {S : Value → Sem Value} {e : TypeId} {size bytes n : Nat} {ys : List AVal} {vs : List Value} (hs : HSat E h nx w) (hS : AppRun P S e size bytes n vs w) (hr : RelL E ys vs) (hn : vs.length = n * size) (ho : onesV ys = true)
    {m off len c : Nat} {r : Reg} (hm : E m = some r) (hc : off + c * r.s = r.k) {cs : List AVal} (hmh : hget h m = some (.row cs e (.grow size))) (hlen' : off + len * size ≤ cs.length)
    (hb : Nat.mul (Nat.add (Nat.mul 2 (Nat.add len n)) 1024) bytes ≤ 281474976710656) :
    ∃ y w' E', (S (.slice (some ⟨r.b, r.d + off, none⟩) len c)).run P w = .ok y w' ∧ Rel E' (.slc nx 0 (len + n) none) y ∧
      HSat E' (Tr.set (.row ((cs.drop off).take (len * size) ++ ys) e (.grow size)) (Tr.del h (Nat.succ m)) (Nat.succ nx)) (nx + 1) w' ∧
      Goes E h nx w E' (Tr.set (.row ((cs.drop off).take (len * size) ++ ys) e (.grow size)) (Tr.del h (Nat.succ m)) (Nat.succ nx)) (nx + 1) w' := by
  have hol : ((cs.drop off).take (len * size)).length = len * size := by
    simp
    omega
  have hnx : E nx = none := hs.fresh nx (Nat.le_refl _)
  obtain ⟨cells, fr, q1, q2, q3, q4, q5, q6, q7, q8⟩ := hs.obj m _ _ hmh hm
  have hrs : r.s = size := q5 size (.inl rfl)
  have hoo : onesV ((cs.drop off).take (len * size)) = true := onesV_take (onesV_drop q7 _) _
  have hdel := hs.del m
  by_cases hroom : len + n ≤ c
  · -- in place
    have hcs2 : off + (len + n) * size ≤ r.k := by
      rw [← hc, hrs]
      exact Nat.add_le_add_left (Nat.mul_le_mul_right _ hroom) _
    have hsum : (len + n) * size = len * size + n * size := Nat.add_mul _ _ _
    have hst := run_storeCells_cells (P := P) r.b (r.d + (off + len * size)) vs 0 w
      (fun j hj => by
        obtain ⟨v, hv⟩ : ∃ v, cells[r.d + (off + len * size) + j]? = some v := ⟨_, Array.getElem?_eq_getElem (by omega)⟩
        simp [World.cell?, q1, hv])
      (fun j hj => by
        have hf := q6 rfl
        simp only [World.frozen?, q1, Nat.add_zero]
        rcases hf with hf | hf
        · simp only [Bool.and_eq_false_iff, decide_eq_false_iff_not]; omega
        · simp only [Bool.and_eq_false_iff, decide_eq_false_iff_not]; omega)
      (one_cells hr ho)
    simp only [Nat.add_zero] at hst
    obtain ⟨⟨c', h2, h3⟩, h4⟩ := heap_setCells r.b vs (r.d + (off + len * size)) w cells e fr q1 (by omega)
    have hrun := hS.room (some ⟨r.b, r.d + off, none⟩) len c _ hroom (by
      show (storeCells ((⟨r.b, r.d + off, none⟩ : Addr).add (len * size)) vs).run P w = _
      rw [Addr.add_lit, show r.d + off + len * size = r.d + (off + len * size) from by omega]
      exact hst)
    have hx := Env.ext_put E nx ⟨r.b, r.d + off, r.k - off, size, []⟩ hnx
    have hc's : c'.size = cells.size := by
      rw [← Array.length_toList, h3, put_length _ _ _ (by simp; omega)]
      simp
    have hobj : ObjRel (E.put nx ⟨r.b, r.d + off, r.k - off, size, []⟩) (w.setCells r.b (r.d + (off + len * size)) vs) (.row ((cs.drop off).take (len * size) ++ ys) e (.grow size)) ⟨r.b, r.d + off, r.k - off, size, []⟩ := by
      refine ⟨c', fr, h2, (by show r.d + off + (r.k - off) ≤ _; omega), ?_, (fun h => by cases h), (by rintro s' (h | h) <;> cases h; rfl), (fun _ => by rw [hc's]; exact q6 rfl), (by rw [onesV_append, hoo, ho]; rfl), ?_⟩
      · show _ ≤ r.k - off
        rw [List.length_append, hol, hr.length, hn]
        omega
      · intro i u hi
        show ∃ v, c'[r.d + off + i]? = some v ∧ _
        rw [← Array.getElem?_toList, h3, put_get _ _ _ (by simp; omega)]
        rw [List.getElem?_append, hol] at hi
        by_cases hil : i < len * size
        · rw [if_pos hil, List.getElem?_take, if_pos hil, List.getElem?_drop] at hi
          rw [if_neg (by omega), Array.getElem?_toList]
          obtain ⟨v, hv, hrel⟩ := q8 _ _ hi
          exact ⟨v, by rw [← hv]; congr 1; omega, hrel.mono hx⟩
        · rw [if_neg hil] at hi
          obtain ⟨v, hv, hrel⟩ := hr.get _ _ hi
          have hlt := (List.getElem?_eq_some_iff.1 hv).1
          rw [if_pos (by omega)]
          refine ⟨v, ?_, hrel.mono hx⟩
          rw [← hv]
          congr 1
          omega
    refine ⟨_, _, E.put nx ⟨r.b, r.d + off, r.k - off, size, []⟩, hrun, ?_, ?_, ?_⟩
    · have := Rel.slcN (E := E.put nx ⟨r.b, r.d + off, r.k - off, size, []⟩) nx 0 (len + n) c _ (Env.put_same _ _ _) (by show 0 + c * size = r.k - off; rw [hrs] at hc; omega) hroom
      simpa using this
    · refine hdel.add hnx (Nat.lt_succ_self _) (Nat.le_succ _) ?_ hobj
      intro p x q hp hq
      rw [hget_hdel] at hp
      by_cases hpm : p = m
      · simp [hpm] at hp
      · simp [hpm] at hp
        have hne : q.b ≠ r.b := Ne.symm (hs.apart m p _ x r q hmh hp (Ne.symm hpm) rfl hm hq)
        exact ⟨h4.other _ hne, hne⟩
    · refine ⟨⟨hx, by rw [h4.size]; exact Nat.le_refl _, ?_, h4.os, h4.tape, h4.output⟩, Nat.le_succ _, fun p hp => Env.put_other _ _ _ _ (by omega), ?_⟩
      · intro b hb' hf
        have hbr : b ≠ r.b := fun he => hf ⟨m, _, r, hmh, rfl, hm, he.symm⟩
        refine ⟨h4.other _ hbr, fun hf' => ?_⟩
        rcases hf'.put with he | he
        · exact hbr he
        · exact hf he.del
      · intro p hp hE
        rw [hget_hset, if_neg (by omega), hget_hdel, if_neg]
        rintro rfl
        rw [hm] at hE
        cases hE
  · obtain ⟨old, h1, h2⟩ := firstCells_row (P := P) (hs.drawn (w.drawn + 1)) hmh hm size len c off hlen'
    have h5 := hS.grow (some ⟨r.b, r.d + off, none⟩) len c old (by omega) (by simpa using hb) h1
    obtain ⟨y, w', E', h6, h7, h8, h9⟩ := grow_out (h := Tr.del h (Nat.succ m)) hdel hr hn ho h2 hol hoo h5
    exact ⟨y, w', E', h6, h7, h8, (Goes.del hm).next h9⟩

/-- A row with a hidden front: its cells. -/
theorem hid_cells {cs : List AVal} {t : TypeId} {s j : Nat} {r : Reg} (ho : ObjRel E w (.hrow cs t s j) r) :
    ∃ (cells : Array Value) (fr : Nat × Nat) (us : List Value), w.heap[r.b]? = some (.cells cells t fr) ∧ r.d + r.k ≤ cells.size ∧ r.f.length + cs.length ≤ r.k ∧ r.s = s ∧ 0 < s ∧ r.f.length ≤ 1073741824 * s ∧
      (fr.1 = fr.2 ∨ cells.size ≤ fr.1) ∧ onesV cs = true ∧ RelL E cs us ∧ ∀ j v, (r.f ++ us)[j]? = some v → cells[r.d + j]? = some v := by
  obtain ⟨_, cells, fr, h1, h2, h3, h4, ⟨h5, h5'⟩, h6, h7, h8, h9⟩ := ho
  have hlen : ((cells.toList.drop (r.d + r.f.length)).take cs.length).length = cs.length := by simp; omega
  refine ⟨cells, fr, (cells.toList.drop (r.d + r.f.length)).take cs.length, h1, h2, h3, h4, h5, h5', h6, h7, ?_, ?_⟩
  · refine RelL.of_get hlen.symm fun i a v ha hv => ?_
    obtain ⟨u, hu, hrel⟩ := h9 i a ha
    rw [List.getElem?_take] at hv
    split at hv
    · rw [List.getElem?_drop, Array.getElem?_toList, hu] at hv
      cases hv
      exact hrel
    · cases hv
  · intro j v hj
    rw [List.getElem?_append] at hj
    split at hj
    · exact h8 j v hj
    · rw [List.getElem?_take] at hj
      split at hj
      · rw [List.getElem?_drop, Array.getElem?_toList] at hj
        rw [← hj]
        congr 1
        omega
      · cases hj

/-- An append onto a slice whose front is hidden. -/
theorem grow_hid {S : Value → Sem Value} {e : TypeId} {size bytes n : Nat} {ys : List AVal} {vs : List Value} (hs : HSat E h nx w) (hS : AppRun P S e size bytes n vs w) (hr : RelL E ys vs) (hn : vs.length = n * size) (ho : onesV ys = true)
    {m len q c : Nat} {r : Reg} (hm : E m = some r) (hq : r.f.length = q * r.s) (hl : q + len ≤ c) (hc : c * r.s ≤ r.k) {cs : List AVal} {j : Nat} (hmh : hget h m = some (.hrow cs e size j)) (hcl : cs.length = len * size)
    (hb : Nat.mul (Nat.add (Nat.mul 2 (Nat.add 1073741824 (Nat.add len n))) 1024) bytes ≤ 281474976710656) :
    ∃ y w' E', (S (.slice (some ⟨r.b, r.d, none⟩) (q + len) c)).run P w = .ok y w' ∧ Rel E' (.slo nx (len + n)) y ∧
      HSat E' (Tr.set (.hrow (cs ++ ys) e size j) (Tr.del h (Nat.succ m)) (Nat.succ nx)) (nx + 1) w' ∧
      Goes E h nx w E' (Tr.set (.hrow (cs ++ ys) e size j) (Tr.del h (Nat.succ m)) (Nat.succ nx)) (nx + 1) w' := by
  have hnx : E nx = none := hs.fresh nx (Nat.le_refl _)
  have hobj0 := hs.obj m _ _ hmh hm
  obtain ⟨⟨rj, hj1, hj2⟩, _⟩ := id hobj0
  obtain ⟨cells, fr, us, q1, q2, q3, q4, q5, q6, q7, q8, q9, q10⟩ := hid_cells hobj0
  have hdel := hs.del m
  rw [q4] at hq hc
  have hus : us.length = cs.length := q9.length.symm
  have hq30 : q ≤ 1073741824 := by
    rw [hq] at q6
    exact Nat.le_of_mul_le_mul_right q6 q5
  have hsum : (q + len) * size = r.f.length + cs.length := by rw [hq, hcl, Nat.add_mul]
  have hsum2 : (q + len + n) * size = r.f.length + cs.length + n * size := by rw [Nat.add_mul, hsum]
  by_cases hroom : q + len + n ≤ c
  · -- in place
    have hcs2 : (q + len + n) * size ≤ r.k := Nat.le_trans (Nat.mul_le_mul_right _ hroom) hc
    have hst := run_storeCells_cells (P := P) r.b (r.d + (q + len) * size) vs 0 w
      (fun j hj => by
        obtain ⟨v, hv⟩ : ∃ v, cells[r.d + (q + len) * size + j]? = some v := ⟨_, Array.getElem?_eq_getElem (by omega)⟩
        simp [World.cell?, q1, hv])
      (fun j hj => by
        simp only [World.frozen?, q1, Nat.add_zero]
        rcases q7 with hf | hf
        · simp only [Bool.and_eq_false_iff, decide_eq_false_iff_not]; omega
        · simp only [Bool.and_eq_false_iff, decide_eq_false_iff_not]; omega)
      (one_cells hr ho)
    simp only [Nat.add_zero] at hst
    obtain ⟨⟨c', h2, h3⟩, h4⟩ := heap_setCells r.b vs (r.d + (q + len) * size) w cells e fr q1 (by omega)
    have hrun := hS.room (some ⟨r.b, r.d, none⟩) (q + len) c _ hroom (by
      show (storeCells ((⟨r.b, r.d, none⟩ : Addr).add ((q + len) * size)) vs).run P w = _
      rw [Addr.add_lit]
      exact hst)
    have hx := Env.ext_put E nx ⟨r.b, r.d, r.k, size, r.f⟩ hnx
    have hc's : c'.size = cells.size := by
      rw [← Array.length_toList, h3, put_length _ _ _ (by simp; omega)]
      simp
    have hobj : ObjRel (E.put nx ⟨r.b, r.d, r.k, size, r.f⟩) (w.setCells r.b (r.d + (q + len) * size) vs) (.hrow (cs ++ ys) e size j) ⟨r.b, r.d, r.k, size, r.f⟩ := by
      refine ⟨⟨rj, hx _ _ hj1, hj2⟩, c', fr, h2, (by show r.d + r.k ≤ _; omega), ?_, rfl, ⟨q5, q6⟩, (by rw [hc's]; exact q7), (by rw [onesV_append, q8, ho]; rfl), ?_, ?_⟩
      · show r.f.length + _ ≤ r.k
        rw [List.length_append, hr.length, hn]
        omega
      · intro i v hi
        have hi : r.f[i]? = some v := hi
        have hlt : i < r.f.length := (List.getElem?_eq_some_iff.1 hi).1
        show c'[r.d + i]? = some v
        rw [← Array.getElem?_toList, h3, put_get _ _ _ (by simp; omega), if_neg (by omega), Array.getElem?_toList]
        exact q10 i v (by rw [List.getElem?_append, if_pos hlt]; exact hi)
      · intro i u hi
        show ∃ v, c'[r.d + r.f.length + i]? = some v ∧ _
        rw [← Array.getElem?_toList, h3, put_get _ _ _ (by simp; omega)]
        rw [List.getElem?_append] at hi
        by_cases hil : i < cs.length
        · rw [if_pos hil] at hi
          rw [if_neg (by omega), Array.getElem?_toList]
          obtain ⟨v, hv, hrel⟩ := q9.get _ _ hi
          refine ⟨v, ?_, hrel.mono hx⟩
          rw [← q10 (r.f.length + i) v (by rw [List.getElem?_append, if_neg (by omega)]; rw [← hv]; congr 1; omega)]
          congr 1
          omega
        · rw [if_neg hil] at hi
          obtain ⟨v, hv, hrel⟩ := hr.get _ _ hi
          have hlt := (List.getElem?_eq_some_iff.1 hv).1
          rw [if_pos (by omega)]
          refine ⟨v, ?_, hrel.mono hx⟩
          rw [← hv]
          congr 1
          omega
    refine ⟨_, _, E.put nx ⟨r.b, r.d, r.k, size, r.f⟩, hrun, ?_, ?_, ?_⟩
    · have := Rel.slo (E := E.put nx ⟨r.b, r.d, r.k, size, r.f⟩) nx (len + n) q c _ (Env.put_same _ _ _) hq (by omega) hc
      rw [← Nat.add_assoc] at this
      exact this
    · refine hdel.add hnx (Nat.lt_succ_self _) (Nat.le_succ _) ?_ hobj
      intro p x q' hp hq'
      rw [hget_hdel] at hp
      by_cases hpm : p = m
      · simp [hpm] at hp
      · simp [hpm] at hp
        have hne : q'.b ≠ r.b := Ne.symm (hs.apart m p _ x r q' hmh hp (Ne.symm hpm) rfl hm hq')
        exact ⟨h4.other _ hne, hne⟩
    · refine ⟨⟨hx, by rw [h4.size]; exact Nat.le_refl _, ?_, h4.os, h4.tape, h4.output⟩, Nat.le_succ _, fun p hp => Env.put_other _ _ _ _ (by omega), ?_⟩
      · intro b hb' hf
        have hbr : b ≠ r.b := fun he => hf ⟨m, _, r, hmh, rfl, hm, he.symm⟩
        refine ⟨h4.other _ hbr, fun hf' => ?_⟩
        rcases hf'.put with he | he
        · exact hbr he
        · exact hf he.del
      · intro p hp hE
        rw [hget_hset, if_neg (by omega), hget_hdel, if_neg]
        rintro rfl
        rw [hm] at hE
        cases hE
  · have hread := run_loadCells_list (P := P) w.drew ⟨r.b, r.d, none⟩ (r.f ++ us) (fun j v hj => by
      rw [Addr.add_lit]
      have := q10 j v hj
      show World.cell? w.drew _ = _
      have hh : w.drew.heap[r.b]? = some (.cells cells e fr) := q1
      simp [World.cell?, hh, this])
    have hflen : (r.f ++ us).length = (q + len) * size := by rw [List.length_append, hus, hsum]
    rw [hflen] at hread
    have hbb : (2 * (q + len + n) + 1024) * bytes ≤ 281474976710656 := by
      refine Nat.le_trans (Nat.mul_le_mul_right bytes ?_) hb
      show _ ≤ 2 * (1073741824 + (len + n)) + 1024
      omega
    obtain ⟨cap, rest, h1, h2, h3⟩ := hS.grow (some ⟨r.b, r.d, none⟩) (q + len) c (r.f ++ us).toArray (by omega) hbb (by simpa [Builtin.firstCells] using hread)
    have hx := Env.ext_put E nx ⟨w.heap.size, 0, cap * size, size, r.f⟩ hnx
    have hnum : (q + len + n) * size ≤ cap * size := Nat.mul_le_mul_right _ h1
    have hcap : cap * size = (q + len + n) * size + (cap - (q + len + n)) * size := by
      rw [← Nat.add_mul]
      congr 1
      omega
    have hobj : ObjRel (E.put nx ⟨w.heap.size, 0, cap * size, size, r.f⟩) (w.drew.alloc (.cells ((r.f ++ us).toArray ++ vs.toArray ++ rest) e)) (.hrow (cs ++ ys) e size j) ⟨w.heap.size, 0, cap * size, size, r.f⟩ := by
      have hat : ∀ i, ((r.f ++ us).toArray ++ vs.toArray ++ rest)[0 + i]? = ((r.f ++ us) ++ vs ++ rest.toList)[i]? := by
        intro i
        rw [Nat.zero_add, ← Array.getElem?_toList]
        simp
      refine ⟨⟨rj, hx _ _ hj1, hj2⟩, _, (0, 0), heap_new w.drew _, ?_, ?_, rfl, ⟨q5, q6⟩, .inl rfl, (by rw [onesV_append, q8, ho]; rfl), ?_, ?_⟩
      · show 0 + cap * size ≤ _
        simp only [Array.size_append, List.size_toArray, hflen, hn, h2]
        omega
      · show r.f.length + _ ≤ cap * size
        rw [List.length_append, hr.length, hn]
        omega
      · intro i v hi
        have hi : r.f[i]? = some v := hi
        have hlt : i < r.f.length := (List.getElem?_eq_some_iff.1 hi).1
        show ((r.f ++ us).toArray ++ vs.toArray ++ rest)[0 + i]? = some v
        rw [hat, List.append_assoc, List.append_assoc, List.getElem?_append, if_pos hlt]
        exact hi
      · intro i u hi
        show ∃ v, ((r.f ++ us).toArray ++ vs.toArray ++ rest)[0 + r.f.length + i]? = some v ∧ _
        obtain ⟨v, hv, hrel⟩ := (q9.append hr).get _ _ hi
        refine ⟨v, ?_, hrel.mono hx⟩
        have hlt := (List.getElem?_eq_some_iff.1 hv).1
        rw [Nat.add_assoc, hat, List.getElem?_append, if_pos (by simp at hlt ⊢; omega), List.append_assoc, List.getElem?_append, if_neg (by omega), ← hv]
        congr 1
        omega
    have hadd : HSat (E.put nx ⟨w.heap.size, 0, cap * size, size, r.f⟩) (Tr.set (.hrow (cs ++ ys) e size j) (Tr.del h (Nat.succ m)) (Nat.succ nx)) (nx + 1) (w.drew.alloc (.cells ((r.f ++ us).toArray ++ vs.toArray ++ rest) e)) := by
      refine (hdel.drawn (w.drawn + 1)).add hnx (Nat.lt_succ_self _) (Nat.le_succ _) ?_ hobj
      intro p x q' hp hq'
      have := (hdel.drawn (w.drawn + 1)).lt hp hq'
      refine ⟨?_, ?_⟩
      · show (w.heap.push _)[q'.b]? = w.heap[q'.b]?
        rw [Array.getElem?_push, if_neg]
        have : q'.b < w.heap.size := this
        omega
      · show q'.b ≠ w.heap.size
        have : q'.b < w.heap.size := this
        omega
    refine ⟨_, _, _, h3, ?_, hadd, ?_⟩
    · have := Rel.slo (E := E.put nx ⟨w.heap.size, 0, cap * size, size, r.f⟩) nx (len + n) q cap _ (Env.put_same _ _ _) hq (by omega) (Nat.le_refl _)
      rw [← Nat.add_assoc] at this
      exact this
    · refine ⟨⟨hx, ?_, ?_, rfl, rfl, rfl⟩, Nat.le_succ _, fun p hp => Env.put_other _ _ _ _ (by omega), ?_⟩
      · show w.heap.size ≤ (w.heap.push _).size
        simp
      · intro b hb' hf
        refine ⟨?_, fun hf' => ?_⟩
        · show (w.heap.push _)[b]? = w.heap[b]?
          rw [Array.getElem?_push, if_neg (by omega)]
        · rcases hf'.put with he | he
          · have he : b = w.heap.size := he
            omega
          · exact hf he.del
      · intro p hp hE
        rw [hget_hset, if_neg (by omega), hget_hdel, if_neg]
        rintro rfl
        rw [hm] at hE
        cases hE

theorem appK_snd {S : Value → Sem Value} {e : TypeId} {size bytes n : Nat} {ys : List AVal} {vs : List Value} (hs : HSat E h nx w) (hS : AppRun P S e size bytes n vs w) (hr : RelL E ys vs) (hn : vs.length = n * size) (ho : onesV ys = true)
    {a : AVal} {x : Value} (ha : Rel E a x) {k : HK} (hk : appK e size bytes a ys n h nx k) :
    ∃ y w' v E' h' nx', (S x).run P w = .ok y w' ∧ Rel E' v y ∧ HSat E' h' nx' w' ∧ Goes E h nx w E' h' nx' w' ∧ k v h' nx' := by
  have hvs0 : n = 0 → vs = [] := fun h => List.eq_nil_of_length_eq_zero (by rw [hn, h, Nat.zero_mul])
  cases ha with
  | nils =>
    simp only [appK] at hk
    rw [sel_beq] at hk
    split at hk
    · rename_i h0
      subst h0
      have := hvs0 rfl
      subst this
      exact ⟨_, w, _, E, h, nx, hS.room none 0 0 w (Nat.le_refl _) rfl, .nils, hs, Goes.refl _ _ _ _, hk⟩
    · rename_i h0
      rw [sel_ble] at hk
      split at hk
      · rename_i hb
        rw [hset_k, fN_eq] at hk
        have hb : (2 * (0 + n) + 1024) * bytes ≤ 281474976710656 := by simpa using hb
        obtain ⟨y, w', E', h1, h2, h3, h4⟩ := grow_out (os := []) hs hr hn ho .nil (by simp) rfl (hS.grow none 0 0 #[] (by omega) hb (by simp [Builtin.firstCells]))
        rw [Nat.zero_add] at h2
        exact ⟨y, w', _, E', _, _, h1, h2, h3, h4, hk⟩
      · exact hk.elim
  | empN m r a hm ha1 ha2 =>
    simp only [appK] at hk
    rw [sel_beq] at hk
    split at hk
    · rename_i h0
      subst h0
      have := hvs0 rfl
      subst this
      exact ⟨_, w, _, E, h, nx, hS.room (some a) 0 0 w (Nat.le_refl _) rfl, .empN m r a hm ha1 ha2, hs, Goes.refl _ _ _ _, hk⟩
    · rename_i h0
      rw [sel_ble] at hk
      split at hk
      · rename_i hb
        rw [hset_k, fN_eq] at hk
        have hb : (2 * (0 + n) + 1024) * bytes ≤ 281474976710656 := by simpa using hb
        obtain ⟨y, w', E', h1, h2, h3, h4⟩ := grow_out (os := []) hs hr hn ho .nil (by simp) rfl (hS.grow (some a) 0 0 #[] (by omega) hb (by simp [Builtin.firstCells, loadCells_zero]))
        rw [Nat.zero_add] at h2
        exact ⟨y, w', _, E', _, _, h1, h2, h3, h4, hk⟩
      · exact hk.elim
  | slcN m off len c r hm hc hl =>
    simp only [appK] at hk
    rw [sel_beq] at hk
    split at hk
    · rename_i h0
      subst h0
      have := hvs0 rfl
      subst this
      exact ⟨_, w, _, E, h, nx, hS.room (some ⟨r.b, r.d + off, none⟩) len c w (by omega) rfl, .slcN m off len c r hm hc hl, hs, Goes.refl _ _ _ _, hk⟩
    · rename_i h0
      split at hk
      · rename_i cs t' s' hmh
        rw [sel_beq] at hk
        split at hk
        · rename_i htt
          subst htt
          rw [sel_beq] at hk
          split at hk
          · rename_i hss
            subst hss
            rw [dropk_eq] at hk
            split at hk
            · rename_i hoff
              rw [takek_eq] at hk
              split at hk
              · rename_i hlen
                rw [appk_eq, sel_ble] at hk
                split at hk
                · rename_i hb
                  rw [fN_eq, hdel_k, hset_k, fN_eq] at hk
                  have hlen' : off + len * size ≤ cs.length := by
                    have : len * size ≤ (cs.drop off).length := hlen
                    simp at this
                    omega
                  obtain ⟨y, w', E', h1, h2, h3, h4⟩ := grow_row (P := P) hs hS hr hn ho hm hc hmh hlen' hb
                  exact ⟨y, w', _, E', _, _, h1, h2, h3, h4, hk⟩
                · exact hk.elim
              · exact hk.elim
            · exact hk.elim
          · exact hk.elim
        · exact hk.elim
      · exact hk.elim
  | slo m len q c r hm hq hl hc =>
    simp only [appK] at hk
    rw [sel_beq] at hk
    split at hk
    · rename_i h0
      subst h0
      have := hvs0 rfl
      subst this
      exact ⟨_, w, _, E, h, nx, hS.room (some ⟨r.b, r.d, none⟩) (q + len) c w (by omega) rfl, .slo m len q c r hm hq hl hc, hs, Goes.refl _ _ _ _, hk⟩
    · rename_i h0
      split at hk
      · rename_i cs t' s' j hmh
        rw [sel_beq] at hk
        split at hk
        · rename_i htt
          subst htt
          rw [sel_beq] at hk
          split at hk
          · rename_i hss
            subst hss
            rw [sel_beq, lenk_eq] at hk
            split at hk
            · rename_i hcl
              rw [appk_eq, sel_ble] at hk
              split at hk
              · rename_i hb
                rw [fN_eq, hdel_k, hset_k, fN_eq] at hk
                obtain ⟨y, w', E', h1, h2, h3, h4⟩ := grow_hid (P := P) hs hS hr hn ho hm hq hl hc hmh hcl hb
                exact ⟨y, w', _, E', _, _, h1, h2, h3, h4, hk⟩
              · exact hk.elim
            · exact hk.elim
          · exact hk.elim
        · exact hk.elim
      · exact hk.elim
  | slcS m off len c r hm =>
    simp only [appK] at hk
    rw [sel_ble] at hk
    split at hk
    · rename_i hroom
      have hroom : len + n ≤ c := hroom
      rw [sel_beq] at hk
      split at hk
      · rename_i h0
        subst h0
        have := hvs0 rfl
        subst this
        exact ⟨_, w, _, E, h, nx, hS.room (some ⟨r.b, r.d + off, none⟩) len c w (by omega) rfl, .slcS m off len c r hm, hs, Goes.refl _ _ _ _, hk⟩
      · split at hk
        · rename_i cs t' hmh
          rw [putk_eq] at hk
          split at hk
          · rename_i hl
            rw [fN_eq, hset_k] at hk
            obtain ⟨w', h1, h2, h3⟩ := row_store (P := P) hs hmh rfl hm hr ho hl
            refine ⟨_, w', _, E, _, nx, hS.room (some ⟨r.b, r.d + off, none⟩) len c w' hroom ?_, .slcS m off (len + n) c r hm, h2, h3, hk⟩
            show (storeCells ((⟨r.b, r.d + off, none⟩ : Addr).add (len * size)) vs).run P w = _
            rw [Addr.add_lit, show r.d + off + len * size = r.d + (off + len * size) from by omega]
            exact h1
          · exact hk.elim
        · exact hk.elim
    · rename_i hroom
      have hroom : ¬ len + n ≤ c := hroom
      obtain ⟨cs, t', md, hmh, hlen', hk⟩ := readk_prop hk
      replace hlen' : off + len * size ≤ cs.length := hlen'
      rw [appk_eq, sel_ble] at hk
      split at hk
      · rename_i hb
        rw [fN_eq, hset_k, fN_eq] at hk
        obtain ⟨old, h1, h2⟩ := firstCells_row (P := P) (hs.drawn (w.drawn + 1)) hmh hm size len c off hlen'
        obtain ⟨cells, fr, q1, q2, q3, q4, q5, q6, q7, q8⟩ := hs.obj m _ _ hmh hm
        have hoo : onesV ((cs.drop off).take (len * size)) = true := onesV_take (onesV_drop q7 _) _
        have hol : ((cs.drop off).take (len * size)).length = len * size := by
          simp
          omega
        have hb2 : (2 * (len + n) + 1024) * bytes ≤ 281474976710656 := by
          refine Nat.le_trans (Nat.mul_le_mul_right bytes ?_) hb
          show 2 * (len + n) + 1024 ≤ 2 * (len + n) + 2 * c + 1024
          omega
        have h5 := hS.grow (some ⟨r.b, r.d + off, none⟩) len c old (by omega) hb2 h1
        obtain ⟨y, w', E', h6, h7, h8, h9⟩ := grow_out hs hr hn ho h2 hol hoo h5
        exact ⟨y, w', _, E', _, _, h6, h7, h8, h9, hk⟩
      · exact hk.elim
  | emp m r a c hm ha1 ha2 => exact hk.elim
  | _ => exact hk.elim

theorem HSat.heap {w' : World} (hs : HSat E h nx w) (hw : w'.heap = w.heap) : HSat E h nx w' :=
  ⟨hs.fresh, fun n o r hn hr => (hs.obj n o r hn hr).world (by rw [hw]), hs.apart⟩

theorem readk_snd (hs : HSat E h nx w) {n off len : Nat} {r : Reg} (hr : E n = some r) {k : List AVal → Prop} (hk : readk h n off len k False) :
    ∃ ys : List AVal, ∃ vs : List Value, k ys ∧ RelL E ys vs ∧ onesV ys = true ∧ vs.length = len ∧ ∀ l, l ≤ len → ∀ w' : World, w'.heap = w.heap → (loadCells ⟨r.b, r.d + off, none⟩ l).run P w' = .ok (vs.take l).toArray w' := by
  obtain ⟨cs, t, m, hn, hl, hk⟩ := readk_prop hk
  obtain ⟨cells, fr, q1, q2, q3, q4, q5, q6, q7, q8⟩ := hs.obj n _ _ hn hr
  obtain ⟨vs, h1, h2⟩ := row_cells hs hn hr len off hl
  have hlen : vs.length = len := by rw [← h1.length]; simp; omega
  refine ⟨_, vs, hk, h1, onesV_take (onesV_drop q7 _) _, hlen, fun l hll w' hw => ?_⟩
  have := run_loadCells_list (P := P) w' ⟨r.b, r.d + off, none⟩ (vs.take l) (fun j v hj => by
    rw [Addr.add_lit]
    have := h2 j v (by
      rw [List.getElem?_take] at hj
      split at hj
      · exact hj
      · cases hj)
    simpa only [World.cell?, hw] using this)
  rwa [List.length_take, hlen, Nat.min_eq_left hll] at this

theorem src_snd (hs : HSat E h nx w) {s : Nat} {y : AVal} {v : Value} (hy : Rel E y v) {k : List AVal → Prop} (hk : srck h s y k) :
    ∃ ys : List AVal, ∃ vs : List Value, k ys ∧ RelL E ys vs ∧ onesV ys = true ∧ vs.length = srcLen y * s ∧ (∀ w', (Builtin.lenOf v).run P w' = .ok (srcLen y) w') ∧
      (∀ l, l ≤ srcLen y → ∀ w' : World, w'.heap = w.heap → (Builtin.firstCells s l v).run P w' = .ok (vs.take (l * s)).toArray w') := by
  cases hy with
  | nils => exact ⟨[], [], hk, .nil, rfl, by simp [srcLen], fun _ => rfl, fun l hl w' _ => by simp [Builtin.firstCells]⟩
  | emp n r a c hr ha hs' => exact ⟨[], [], hk, .nil, rfl, by simp [srcLen], fun _ => rfl, fun l hl w' _ => by
      have : l = 0 := Nat.le_zero.1 hl
      subst this
      simp [Builtin.firstCells, loadCells_zero]⟩
  | empN n r a hr ha hs' => exact ⟨[], [], hk, .nil, rfl, by simp [srcLen], fun _ => rfl, fun l hl w' _ => by
      have : l = 0 := Nat.le_zero.1 hl
      subst this
      simp [Builtin.firstCells, loadCells_zero]⟩
  | slcN n off len c r hr hc hl =>
    obtain ⟨ys, vs, h1, h2, h3, h4, h5⟩ := readk_snd (P := P) hs hr hk
    exact ⟨ys, vs, h1, h2, h3, h4, fun _ => rfl, fun l hl w' hw => by simpa [Builtin.firstCells] using h5 (l * s) (Nat.mul_le_mul_right _ hl) w' hw⟩
  | slcS n off len c r hr =>
    obtain ⟨ys, vs, h1, h2, h3, h4, h5⟩ := readk_snd (P := P) hs hr hk
    exact ⟨ys, vs, h1, h2, h3, h4, fun _ => rfl, fun l hl w' hw => by simpa [Builtin.firstCells] using h5 (l * s) (Nat.mul_le_mul_right _ hl) w' hw⟩
  | str b hb =>
    simp only [srck] at hk
    rw [sel_beq] at hk
    split at hk
    · rename_i h1
      subst h1
      refine ⟨_, _, hk, bytes_rel E b hb, bytes_ones b, by simp [srcLen, lenk_eq], fun _ => by simp [Builtin.lenOf, srcLen, lenk_eq, bytesOf_size], fun l _ w' _ => ?_⟩
      simp only [Builtin.firstCells, bytesOf_extract, Sem.run_pure]
      congr 1
      apply Array.ext'
      simp [bytesOf, List.map_take]
    · exact hk.elim
  | _ => exact hk.elim

theorem run_app (hs : HSat E h nx w) {t u ty e : TypeId} {d : TypeDesc} {s b : Nat} {z : List AVal} (ht : P.underlying t = some (.slice e)) (hu : P.underlying u = some d) (hd : ∀ k, d ≠ .int k) (hsz : sizeOf? P e = some s) (hbz : bytesOf? P e = some b)
    (hz : zeroCells? P e = some z) (hb0 : b ≠ 0) {x y : AVal} {xv yv : Value} (hx : Rel E x xv) (hy : Rel E y yv) {k : HK} (hk : srck h s y fun ys => appK e s b x ys (srcLen y) h nx k) :
    ∃ r w' v E' h' nx', (Builtin.append_ #[t, u] ty #[xv, yv]).run P w = .ok r w' ∧ Rel E' v r ∧ HSat E' h' nx' w' ∧ Goes E h nx w E' h' nx' w' ∧ k v h' nx' := by
  obtain ⟨ys, vs, h1, h2, h3, h4, h5, h6⟩ := src_snd (P := P) hs hy hk
  obtain ⟨zv, q1, q2, q3⟩ := zeroCells_some hz
  obtain ⟨zz, q4, q5, i, q6, q7⟩ := zero_rel (w := w) q1 E
  have hi1 : i.size = s := by simp [sizeOf?, q6] at hsz; exact hsz
  have hi2 : i.bytes = b := by simp [bytesOf?, q6] at hbz; exact hbz
  subst hi1
  subst hi2
  have hzs : zz.cells.size = i.size := by
    rw [cells_size q5, ← q2]
    rw [hsz] at q3
    injection q3 with q3
    exact q3.symm
  have h7 : ∀ w' : World, w'.heap = w.heap → (Builtin.firstCells i.size (srcLen y) yv).run P w' = .ok vs.toArray w' := fun w' hw => by
    have := h6 _ (Nat.le_refl _) w' hw
    rwa [← h4, List.take_length] at this
  exact appK_snd hs (app_run (ty := ty) ht hu hd q6 q7 hzs hb0 h5 h7) h2 h4 h3 hx h1

theorem run_appz (hs : HSat E h nx w) {t u ty e : TypeId} {ik : IntKind} {s b : Nat} {z : List AVal} (ht : P.underlying t = some (.slice e)) (hu : P.underlying u = some (.int ik)) (hsz : sizeOf? P e = some s) (hbz : bytesOf? P e = some b)
    (hz : zeroCells? P e = some z) (hs0 : s ≠ 0) (hb0 : b ≠ 0) {x y : AVal} {xv yv : Value} (hx : Rel E x xv) (hy : Rel E y yv) {k : HK}
    (hk : match (generalizing := false) y with
      | .int .i64 (.ofNat n) => sel (Nat.ble (Nat.mul n b) 281474976710656) (zrep n z fun ys => sel (onesV ys) (appK e s b x ys n h nx k) False) False
      | _ => False) :
    ∃ r w' v E' h' nx', (Builtin.append_ #[t, u] ty #[xv, yv]).run P w = .ok r w' ∧ Rel E' v r ∧ HSat E' h' nx' w' ∧ Goes E h nx w E' h' nx' w' ∧ k v h' nx' := by
  split at hk
  · rename_i n
    rw [sel_ble, zrep_eq] at hk
    split at hk
    · rename_i hnb
      cases ho : onesV (List.replicate n z).flatten with
      | false => rw [ho] at hk; exact hk.elim
      | true =>
        rw [ho, sel_true] at hk
        cases hy with
        | int _ _ =>
          obtain ⟨zv, q1, q2, q3⟩ := zeroCells_some hz
          obtain ⟨zz, q4, q5, i, q6, q7⟩ := zero_rel (w := w) q1 E
          have hi1 : i.size = s := by simp [sizeOf?, q6] at hsz; exact hsz
          have hi2 : i.bytes = b := by simp [bytesOf?, q6] at hbz; exact hbz
          subst hi1
          subst hi2
          subst q2
          have hzs : zz.cells.size = i.size := by
            rw [cells_size q5]
            rw [hsz] at q3
            injection q3 with q3
            exact q3.symm
          have hzr := zeros_rel (cells_rel q5) n
          have hzl : zv.cells.length = zz.cells.size := (cells_size q5).symm
          rw [hzl] at hzr
          exact appK_snd hs (appz_run (ty := ty) ht hu q6 q7 hzs hb0 hs0 hnb) hzr (by simp [size_zeroCells, hzs]) ho hx hk
    · exact hk.elim
  · exact hk.elim

theorem run_cpy (hs : HSat E h nx w) {t u ty e : TypeId} {s : Nat} (ht : P.underlying t = some (.slice e)) (hsz : sizeOf? P e = some s) {x y : AVal} {xv yv : Value} (hx : Rel E x xv) (hy : Rel E y yv) {k : HK}
    (hk : match (generalizing := false) x with
      | .nils => srck h s y fun _ => k (.int .i64 (.ofNat 0)) h nx
      | .emp _ _ => srck h s y fun _ => k (.int .i64 (.ofNat 0)) h nx
      | .slc r off len _ => srck h s y fun ys =>
          let n := srcLen y
          let m := sel (Nat.ble n len) n len
          takek (Nat.mul m s) ys (fun ys => match hget h r with
            | some (.row cs t .exact) => putk off ys cs (fun cs => hset h r (.row cs t .exact) fun h => k (.int .i64 (.ofNat m)) h nx) False
            | some (.row cs t (.grow g)) => putk off ys cs (fun cs => hset h r (.row cs t (.grow g)) fun h => k (.int .i64 (.ofNat m)) h nx) False
            | _ => False) False
      | _ => False) :
    ∃ r w' v h', (Builtin.copy_ #[t, u] ty #[xv, yv]).run P w = .ok r w' ∧ Rel E v r ∧ HSat E h' nx w' ∧ Goes E h nx w E h' nx w' ∧ k v h' nx := by
  have hsize : ∀ w', (sizeOf e).run P w' = .ok s w' := fun w' => run_size w' hsz
  have hzero : ∀ {a : Option Addr} {c : Nat}, srck h s y (fun _ => k (.int .i64 (.ofNat 0)) h nx) → Rel E (.int .i64 (.ofNat 0)) (goInt 0) →
      ∃ r w' v h', (Builtin.copy_ #[t, u] ty #[.slice a 0 c, yv]).run P w = .ok r w' ∧ Rel E v r ∧ HSat E h' nx w' ∧ Goes E h nx w E h' nx w' ∧ k v h' nx := by
    intro a c hk hr0
    obtain ⟨ys, vs, h1, h2, h3, h4, h5, h6⟩ := src_snd (P := P) hs hy hk
    have h7 := h6 0 (Nat.zero_le _) w rfl
    rw [Nat.zero_mul, List.take_zero] at h7
    refine ⟨goInt 0, w, _, h, ?_, hr0, hs, Goes.refl _ _ _ _, h1⟩
    cases a <;> simp [Builtin.copy_, run_und w ht, h5, hsize, h7, storeCells]
  have hrow : ∀ {n off len c : Nat} {r : Reg}, E n = some r → (srck h s y fun ys =>
          takek (Nat.mul (sel (Nat.ble (srcLen y) len) (srcLen y) len) s) ys (fun ys => match hget h n with
            | some (.row cs t .exact) => putk off ys cs (fun cs => hset h n (.row cs t .exact) fun h => k (.int .i64 (.ofNat (sel (Nat.ble (srcLen y) len) (srcLen y) len))) h nx) False
            | some (.row cs t (.grow g)) => putk off ys cs (fun cs => hset h n (.row cs t (.grow g)) fun h => k (.int .i64 (.ofNat (sel (Nat.ble (srcLen y) len) (srcLen y) len))) h nx) False
            | _ => False) False) →
      ∃ q w' v h', (Builtin.copy_ #[t, u] ty #[.slice (some ⟨r.b, r.d + off, none⟩) len c, yv]).run P w = .ok q w' ∧ Rel E v q ∧ HSat E h' nx w' ∧ Goes E h nx w E h' nx w' ∧ k v h' nx := by
    intro n off len c r hr hk
    obtain ⟨ys, vs, h1, h2, h3, h4, h5, h6⟩ := src_snd (P := P) hs hy hk
    have hm : sel (Nat.ble (srcLen y) len) (srcLen y) len = Nat.min (srcLen y) len := by
      rw [sel_ble]
      exact Nat.min_def.symm
    rw [hm, takek_eq] at h1
    split at h1
    · rename_i hle
      have hle : Nat.min (srcLen y) len * s ≤ ys.length := hle
      have h7 := h6 (Nat.min (srcLen y) len) (Nat.min_le_left _ _) w rfl
      have hrel : RelL E (ys.take (Nat.min (srcLen y) len * s)) (vs.take (Nat.min (srcLen y) len * s)) := h2.take _
      have hones := onesV_take h3 (Nat.min (srcLen y) len * s)
      have fin : ∀ {cs : List AVal} {t' : TypeId} {md : RMode}, hget h n = some (.row cs t' md) → own (.row cs t' md) = true →
          putk off (ys.take (Nat.min (srcLen y) len * s)) cs (fun cs => hset h n (.row cs t' md) fun h => k (.int .i64 (.ofNat (Nat.min (srcLen y) len))) h nx) False →
          ∃ q w' v h', (Builtin.copy_ #[t, u] ty #[.slice (some ⟨r.b, r.d + off, none⟩) len c, yv]).run P w = .ok q w' ∧ Rel E v q ∧ HSat E h' nx w' ∧ Goes E h nx w E h' nx w' ∧ k v h' nx := by
        intro cs t' md hn ho hk
        rw [putk_eq] at hk
        split at hk
        · rename_i hl
          rw [hset_k] at hk
          obtain ⟨w', q1, q2, q3⟩ := row_store (P := P) hs hn ho hr hrel hones hl
          refine ⟨goInt (Nat.min (srcLen y) len), w', _, _, ?_, .int _ _, q2, q3, hk⟩
          simp [Builtin.copy_, run_und w ht, h5, hsize, h7, q1]
        · exact hk.elim
      split at h1
      · rename_i hn; exact fin hn rfl h1
      · rename_i hn; exact fin hn rfl h1
      · exact h1.elim
    · exact h1.elim
  cases hx with
  | nils => exact hzero hk (.int _ _)
  | emp n r a c hr ha hs' => exact hzero hk (.int _ _)
  | empN n r a hr ha hs' => exact hzero hk (.int _ _)
  | slcN n off len c r hr hc hl => exact hrow hr hk
  | slcS n off len c r hr => exact hrow hr hk
  | _ => exact hk.elim
end
end Go.Am
