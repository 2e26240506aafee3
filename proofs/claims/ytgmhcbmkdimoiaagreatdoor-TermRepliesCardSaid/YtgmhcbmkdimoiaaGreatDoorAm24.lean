/-
  The abstract machine, part 24: functions of the library without a body. No conditions but what the table of such functions says.
-/
import Derived.Test.YtgmhcbmkdimoiaaGreatDoorAm23
import Derived.Laws.Externs
namespace Go.Am
section
variable {P : Program}

/-- What is to be known of a function that has no body. -/
def ExternAt (P : Program) (f : FuncId) (e : Array Value → Sem Value) : Prop :=
  ∃ fn, P.funcs[f]? = some fn ∧ (fn.name == "runtime.NumGoroutine") = false ∧ fn.body.isNone = true ∧ Extern.findNext fn = none ∧ Extern.find fn = some e

theorem extern_spec {f : FuncId} {e : Array Value → Sem Value} (hf : ExternAt P f e) {φ : List AVal → Hp → Nat → HK → Prop}
    (h : ∀ (vs : List AVal) (args : Array Value) (E : Env) (h : Hp) (nx : Nat) (w : World) (k : HK), HSat E h nx w → RelL E vs args.toList → φ vs h nx k →
      ∃ y w' x E' h' nx', (e args).run P w = .ok y w' ∧ Rel E' x y ∧ HSat E' h' nx' w' ∧ Goes E h nx w E' h' nx' w' ∧ k x h' nx') : SpecOK P f φ := by
  intro vs args E hp nx w k hs hr hk
  obtain ⟨fn, h1, h2, h3, h4, h5⟩ := hf
  obtain ⟨y, w', x, E', h', nx', q1, q2, q3, q4, q5⟩ := h vs args E hp nx w k hs hr hk
  exact .inl ⟨y, w', E', x, h', nx', .inl (by rw [run_callFunc_extern h1 h2 h3 h4 h5, q1]; rfl), q2, q3, q4, q5⟩

noncomputable def specClone (args : List AVal) (h : Hp) (nx : Nat) (k : HK) : Prop :=
  match args with
  | [.ifc t (.map m)] => match hget h m with
    | some (.map es c) => hset h nx (.map es c) fun h => fN (Nat.add nx 1) fun nx' => k (.ifc t (.map nx)) h nx'
    | _ => False
  | _ => False

theorem rel_one {E : Env} {a : AVal} {args : Array Value} (h : RelL E [a] args.toList) : ∃ v, args = #[v] ∧ Rel E a v := by
  obtain ⟨l⟩ := args
  cases h with
  | cons _ v _ m h1 h2 => cases h2; exact ⟨v, rfl, h1⟩
theorem rel_two {E : Env} {a b : AVal} {args : Array Value} (h : RelL E [a, b] args.toList) : ∃ v u, args = #[v, u] ∧ Rel E a v ∧ Rel E b u := by
  obtain ⟨l⟩ := args
  cases h with
  | cons _ v _ m h1 h2 => cases h2 with
    | cons _ u _ m h3 h4 => cases h4; exact ⟨v, u, rfl, h1, h3⟩

theorem clone_ok {f : FuncId} (hf : ExternAt P f Extern.MapsClone.clone) : SpecOK P f specClone := by
  refine extern_spec hf fun vs args E h nx w k hs hr hk => ?_
  unfold specClone at hk
  split at hk
  · rename_i t m
    obtain ⟨v, rfl, hv⟩ := rel_one hr
    cases hv with
    | ifc _ _ u hu =>
      cases hu with
      | map _ r hm =>
        split at hk
        · rename_i es c hn
          rw [hset_k, fN_eq] at hk
          obtain ⟨mes, hb, hrel⟩ := map_obj hs hn hm
          have hget : (getObj r.b).run P w = .ok (.map mes c) w := run_getObj hb (by intros; simp)
          have hnx : E nx = none := hs.fresh nx (Nat.le_refl _)
          obtain ⟨h1, h2⟩ := alloc_next (x := .map mes c) (o := .map es c) (d := 0) (k := 0) (s := 0) hs ⟨mes, push_new _ _, hrel.mono (Env.ext_put E nx _ hnx)⟩
          refine ⟨.iface t (.map (some w.heap.size)), _, _, _, _, _, ?_, .ifc _ _ _ (.map nx _ (Env.put_same _ _ _)), h1, h2, hk⟩
          show ((getObj r.b >>= _ : Sem Value)).run P w = _
          rw [Sem.run_bind, hget]
          rfl
        · exact hk.elim
  · exact hk.elim

noncomputable def specSame (args : List AVal) (_h : Hp) (nx : Nat) (k : HK) : Prop :=
  match args with
  | [x] => k x _h nx
  | _ => False

theorem same_ok {f : FuncId} (hf : ExternAt P f Extern.AbiNoEscape.same) : SpecOK P f specSame := by
  refine extern_spec hf fun vs args E h nx w k hs hr hk => ?_
  unfold specSame at hk
  split at hk
  · rename_i x
    obtain ⟨v, rfl, hv⟩ := rel_one hr
    exact ⟨v, w, x, E, h, nx, rfl, hv, hs, Goes.refl _ _ _ _, hk⟩
  · exact hk.elim

noncomputable def idxB (c : Nat) (s : List Nat) : Int :=
  List.rec (motive := fun _ => Nat → Int) (fun _ => .negSucc 0) (fun b _ ih n => sel (Nat.beq b c) (.ofNat n) (ih (Nat.succ n))) s 0
theorem idx_find (c : Nat) (q : Nat → Bool) : ∀ (s : List Nat) (n : Nat), (∀ j b, s[j]? = some b → q (n + j) = Nat.beq b c) →
    (List.rec (motive := fun _ => Nat → Int) (fun _ => .negSucc 0) (fun b _ ih n => sel (Nat.beq b c) (.ofNat n) (ih (Nat.succ n))) s n : Int) = (match (List.range' n s.length).find? q with | some i => (i : Int) | none => -1)
  | [], n, _ => rfl
  | b :: s, n, h => by
    have h0 := h 0 b rfl
    rw [Nat.add_zero] at h0
    show sel (Nat.beq b c) (.ofNat n) (List.rec (motive := fun _ => Nat → Int) (fun _ => .negSucc 0) (fun b _ ih n => sel (Nat.beq b c) (.ofNat n) (ih (Nat.succ n))) s (Nat.succ n) : Int) = _
    rw [List.length_cons, List.range'_succ, List.find?_cons, h0]
    cases hb : Nat.beq b c with
    | true => rfl
    | false =>
      rw [sel_false]
      exact idx_find c q s (n + 1) (fun j x hj => by
        rw [show n + 1 + j = n + (j + 1) from by omega]
        exact h (j + 1) x (by simpa using hj))

theorem byte_beq {b c : Nat} (hb : b < 256) (hc : c < 256) : (UInt8.ofNat b == UInt8.ofNat c) = Nat.beq b c := by
  rw [Bool.eq_iff_iff, beq_iff_eq, Nat.beq_eq]
  constructor
  · intro h
    have := congrArg UInt8.toNat h
    simp at this
    omega
  · rintro rfl; rfl

theorem idx_bytes {s : List Nat} (hs : ∀ b ∈ s, b < 256) {c : Nat} (hc : c < 256) : idxB c s = (match (List.range (bytesOf s).size).find? fun i => (bytesOf s)[i]! == UInt8.ofNat c with | some i => (i : Int) | none => -1) := by
  unfold idxB
  rw [idx_find c (fun i => (bytesOf s)[i]! == UInt8.ofNat c) s 0, bytesOf_size, List.range_eq_range']
  intro j b hj
  have hlt := (List.getElem?_eq_some_iff.1 hj).1
  have hg := bytesOf_get s j
  rw [hj] at hg
  have hsz : j < (bytesOf s).size := by rw [bytesOf_size]; exact hlt
  rw [Nat.zero_add, getElem!_pos (bytesOf s) j hsz]
  rw [getElem?_pos (bytesOf s) j hsz] at hg
  have hg : (bytesOf s)[j] = UInt8.ofNat b := by simpa using hg
  rw [hg]
  exact byte_beq (hs b (List.mem_of_getElem? hj)) hc

noncomputable def specIdxS (args : List AVal) (h : Hp) (nx : Nat) (k : HK) : Prop :=
  match args with
  | [.str s, .int .u8 (.ofNat c)] => sel (Nat.ble c 255) (fI (idxB c s) fun n => k (.int .i64 n) h nx) False
  | _ => False

theorem idx_run {w : World} (b : ByteArray) (c : Nat) {x : Value} (hx : (Extern.Bytes.bytesOf x).run P w = .ok b w) :
    (Extern.BytealgIndexByte.indexByte #[x, .int .u8 (Int.ofNat c)]).run P w = .ok (.int .i64 (match (List.range b.size).find? fun i => b[i]! == UInt8.ofNat c with | some i => (i : Int) | none => -1)) w := by
  show (Extern.Bytes.bytesOf x >>= _).run P w = _
  rw [Sem.run_bind, hx]
  have hby : (Extern.Bytes.asByte (.int .u8 (Int.ofNat c))).run P w = .ok (UInt8.ofNat c) w := by simp [Extern.Bytes.asByte]
  show ((Extern.Bytes.asByte (.int .u8 (Int.ofNat c)) >>= _)).run P w = _
  rw [Sem.run_bind, hby]
  show Sem.run P (match (List.range b.size).find? (fun i => b[i]! == UInt8.ofNat c) with | some i => pure (goInt (i : Int)) | none => pure (goInt (-1))) w = _
  generalize (List.range b.size).find? (fun i => b[i]! == UInt8.ofNat c) = q
  cases q <;> rfl

theorem idxS_ok {f : FuncId} (hf : ExternAt P f Extern.BytealgIndexByte.indexByte) : SpecOK P f specIdxS := by
  refine extern_spec hf fun vs args E h nx w k hs hr hk => ?_
  unfold specIdxS at hk
  split at hk
  · rename_i s c
    obtain ⟨v, u, rfl, hv, hu⟩ := rel_two hr
    rw [sel_ble, fI_eq] at hk
    split at hk
    · rename_i hc
      cases hv with
      | str _ hb =>
        cases hu with
        | int _ _ =>
          rw [idx_bytes hb (by omega)] at hk
          exact ⟨_, w, _, E, h, nx, idx_run (bytesOf s) c rfl, .int _ _, hs, Goes.refl _ _ _ _, hk⟩
    · exact hk.elim
  · exact hk.elim

theorem run_loadBytesX {w : World} : ∀ (s : List Nat) (a : Addr) (acc : ByteArray), (∀ j (b : Nat), s[j]? = some b → w.cell? (a.add j) = some (.int .u8 (b : Int))) →
    (Extern.Bytes.loadBytes a s.length acc).run P w = .ok ⟨acc.data ++ (s.map UInt8.ofNat).toArray⟩ w
  | [], a, acc, _ => by simp [Extern.Bytes.loadBytes]
  | b :: s, a, acc, hc => by
    have h0 := hc 0 b rfl
    rw [show a.add 0 = a from by unfold Addr.add; simp] at h0
    have hadd : ∀ j, (a.add 1).add j = a.add (j + 1) := fun j => by
      cases j with
      | zero => simp [Addr.add]
      | succ j =>
        simp [Addr.add]
        omega
    have ih := run_loadBytesX s (a.add 1) (acc.push (UInt8.ofNat b)) (fun j x hx => by rw [hadd]; exact hc (j + 1) x (by simpa using hx))
    simp only [List.length_cons, Extern.Bytes.loadBytes, Sem.run_bind, run_load, h0, Result.andThen_ok]
    have : ((b : Int).toNat).toUInt8 = UInt8.ofNat b := by simp
    rw [this, ih]
    congr 1
    simp [ByteArray.push]

/-- The bytes of what is handed over. -/
theorem bytes_run {E : Env} {h : Hp} {nx : Nat} {w : World} (hs : HSat E h nx w) {v : AVal} {x : Value} (hv : Rel E v x) {K : List Nat → Prop} (hk : srck h 1 v fun l => match cellsToBytes l with | some s => K s | none => False) :
    ∃ s, K s ∧ (∀ b ∈ s, b < 256) ∧ (Extern.Bytes.bytesOf x).run P w = .ok (bytesOf s) w := by
  have hrow : ∀ {n off len c : Nat} {r : Reg}, E n = some r → readk h n off (Nat.mul len 1) (fun l => match cellsToBytes l with | some s => K s | none => False) False →
      ∃ s, K s ∧ (∀ b ∈ s, b < 256) ∧ (Extern.Bytes.bytesOf (.slice (some ⟨r.b, r.d + off, none⟩) len c)).run P w = .ok (bytesOf s) w := by
    intro n off len c r hr hk
    obtain ⟨cs, t, m, hn, hl, hk⟩ := readk_prop hk
    have hl : off + len * 1 ≤ cs.length := hl
    rw [Nat.mul_one] at hl
    split at hk
    · rename_i s hcb
      obtain ⟨h1, h2⟩ := cellsToBytes_some hcb
      have hmul : Nat.mul len 1 = len := Nat.mul_one len
      rw [hmul] at h1
      have hlen : s.length = len := by
        have := congrArg List.length h1
        simp [bytesToCells] at this
        omega
      refine ⟨s, hk, h2, ?_⟩
      have := run_loadBytesX (P := P) (w := w) s ⟨r.b, r.d + off, none⟩ .empty (fun j b hj => by
        have hjl := (List.getElem?_eq_some_iff.1 hj).1
        have hcj : cs[off + j]? = some (.int .u8 (.ofNat b)) := by
          have h5 : ((cs.drop off).take len)[j]? = (bytesToCells s)[j]? := by rw [h1]
          rw [List.getElem?_take, if_pos (by omega), List.getElem?_drop] at h5
          rw [h5]
          simp [bytesToCells, hj]
        obtain ⟨v, hv, hrel⟩ := row_cell hs hn hr _ _ hcj
        cases hrel
        rw [Addr.add_lit, show r.d + off + j = r.d + (off + j) from by omega]
        exact hv)
      rw [hlen] at this
      simp only [Extern.Bytes.bytesOf, this]
      congr 1
      simp [bytesOf]
    · exact hk.elim
  cases hv with
  | nils => exact ⟨[], hk, by simp, rfl⟩
  | emp n r a c hr ha hs' => exact ⟨[], hk, by simp, rfl⟩
  | empN n r a hr ha hs' => exact ⟨[], hk, by simp, rfl⟩
  | slcN n off len c r hr hc hl => exact hrow hr hk
  | slcS n off len c r hr => exact hrow hr hk
  | str b hb =>
    have hk : (match cellsToBytes (bytesToCells b) with | some s => K s | none => False) := by
      simpa only [srck, sel_beq, if_true] using hk
    split at hk
    · rename_i s hcb
      obtain ⟨h1, h2⟩ := cellsToBytes_some hcb
      have : b = s := by
        have h3 : Function.Injective (fun (n : Nat) => AVal.int .u8 (.ofNat n)) := fun x y h => by cases h; rfl
        exact (List.map_inj_right (fun x y h => h3 h)).1 h1
      subst this
      exact ⟨b, hk, hb, rfl⟩
    · exact hk.elim
  | _ => exact hk.elim

noncomputable def specIdxL (args : List AVal) (h : Hp) (nx : Nat) (k : HK) : Prop :=
  match args with
  | [v, .int .u8 (.ofNat c)] => sel (Nat.ble c 255) (srck h 1 v fun l => match cellsToBytes l with
    | some s => fI (idxB c s) fun n => k (.int .i64 n) h nx
    | none => False) False
  | _ => False

theorem idxL_ok {f : FuncId} (hf : ExternAt P f Extern.BytealgIndexByte.indexByte) : SpecOK P f specIdxL := by
  refine extern_spec hf fun vs args E h nx w k hs hr hk => ?_
  unfold specIdxL at hk
  split at hk
  · rename_i a c
    obtain ⟨v, u, rfl, hv, hu⟩ := rel_two hr
    rw [sel_ble] at hk
    split at hk
    · rename_i hc
      obtain ⟨s, h1, h2, h3⟩ := bytes_run (P := P) hs hv hk
      cases hu with
      | int _ _ =>
        rw [fI_eq, idx_bytes h2 (by omega)] at h1
        exact ⟨_, w, _, E, h, nx, idx_run (bytesOf s) c h3, .int _ _, hs, Goes.refl _ _ _ _, h1⟩
    · exact hk.elim
  · exact hk.elim
theorem ba_loop {β : Type} (f : β → UInt8 → β) (a : ByteArray) : ∀ (i j : Nat) (b : β), j + i = a.size →
    (ByteArray.foldlM.loop (m := _root_.Id) (fun x y => pure (f x y)) a a.size (Nat.le_refl _) i j b) = (a.data.toList.drop j).foldl f b
  | 0, j, b, h => by
    have hs : a.data.toList.length = a.size := by simp
    rw [List.drop_eq_nil_of_le (by omega)]
    unfold ByteArray.foldlM.loop
    rw [dif_neg (by omega)]
    rfl
  | i + 1, j, b, h => by
    have hs : a.data.toList.length = a.size := by simp
    have hj : j < a.size := by omega
    unfold ByteArray.foldlM.loop
    rw [dif_pos hj]
    have hj' : j < a.data.toList.length := by omega
    rw [List.drop_eq_getElem_cons hj', List.foldl_cons]
    show ByteArray.foldlM.loop (m := _root_.Id) (fun x y => pure (f x y)) a a.size (Nat.le_refl _) i (j + 1) (f b a[j]) = _
    rw [ba_loop f a i (j + 1) _ (by omega)]
    rfl
theorem ba_foldl {β : Type} (f : β → UInt8 → β) (b : β) (a : ByteArray) : a.foldl f b = a.data.toList.foldl f b := by
  unfold ByteArray.foldl
  unfold ByteArray.foldlM
  simp only [Nat.le_refl, dif_pos]
  exact ba_loop f a a.size 0 b (by omega)

theorem cnt_fold {c : Nat} (hc : c < 256) : ∀ (s : List Nat) (n : Int), (∀ b ∈ s, b < 256) → (s.map UInt8.ofNat).foldl (fun n x => if x == UInt8.ofNat c then n + 1 else n) n = n + ((s.filter (fun b => Nat.beq b c)).length : Int)
  | [], n, _ => by simp
  | b :: s, n, h => by
    rw [List.map_cons, List.foldl_cons, cnt_fold hc s _ (fun x hx => h x (by simp [hx])), List.filter_cons, byte_beq (h b (by simp)) hc]
    cases Nat.beq b c
    · simp
    · simp; omega

noncomputable def specCntS (args : List AVal) (h : Hp) (nx : Nat) (k : HK) : Prop :=
  match args with
  | [.str s, .int .u8 (.ofNat c)] => sel (Nat.ble c 255) (fN (lenk (s.filter (fun b => Nat.beq b c))) fun n => k (.int .i64 (.ofNat n)) h nx) False
  | _ => False

theorem cntS_ok {f : FuncId} (hf : ExternAt P f Extern.BytealgCount.count) : SpecOK P f specCntS := by
  refine extern_spec hf fun vs args E h nx w k hs hr hk => ?_
  unfold specCntS at hk
  split at hk
  · rename_i s c
    obtain ⟨v, u, rfl, hv, hu⟩ := rel_two hr
    rw [sel_ble, fN_eq, lenk_eq] at hk
    split at hk
    · rename_i hc
      cases hv with
      | str _ hb =>
        cases hu with
        | int _ _ =>
          refine ⟨.int .i64 ((s.filter (fun b => Nat.beq b c)).length : Int), w, _, E, h, nx, ?_, .int _ _, hs, Goes.refl _ _ _ _, hk⟩
          have hby : (Extern.Bytes.asByte (.int .u8 (Int.ofNat c))).run P w = .ok (UInt8.ofNat c) w := by simp [Extern.Bytes.asByte]
          have hst : (Extern.Bytes.bytesOf (.string (bytesOf s))).run P w = .ok (bytesOf s) w := rfl
          show (Extern.Bytes.bytesOf (.string (bytesOf s)) >>= _).run P w = _
          rw [Sem.run_bind, hst]
          show ((Extern.Bytes.asByte (.int .u8 (Int.ofNat c)) >>= _)).run P w = _
          rw [Sem.run_bind, hby]
          show Result.ok (goInt ((bytesOf s).foldl (fun n x => if x == UInt8.ofNat c then n + 1 else n) (0 : Int))) w = _
          rw [ba_foldl, bytesOf_toList, cnt_fold (by omega) s 0 hb, Int.zero_add]
          rfl
    · exact hk.elim
  · exact hk.elim
end
end Go.Am
