/-
  The abstract machine, part 7: the operations that only read, the second lot. No conditions.
-/
import Derived.Test.YtgmhcbmkdimoiaaGreatDoorAm6
namespace Go.Am
section
variable {P : Program} {E : Env} {T : Tm} {h : Hp} {nx : Nat} {w : World} {cm : Bool}

theorem aOf_rel (E : Env) : ∀ (n : Nat) (v : Value) (a : AVal), aOf n v = some a → Rel E a v := by
  intro n
  induction n with
  | zero => intro v a h; simp [aOf] at h
  | succ n ih =>
    have list : ∀ (l : List Value) (m : List AVal), l.mapM (aOf n) = some m → RelL E m l := by
      intro l
      induction l with
      | nil => intro m hm; simp at hm; subst hm; exact .nil
      | cons v l il =>
        intro m hm
        obtain ⟨b, s, hb, hs, rfl⟩ := mapM_cons_some hm
        exact .cons _ _ _ _ (ih _ _ hb) (il _ hs)
    intro v a h
    cases v with
    | bool b => cases h; exact .bool _
    | int k i => cases h; exact .int _ _
    | float k b => cases h
    | complex k x y => cases h
    | string s =>
      cases h
      have e : Value.string s = .string (bytesOf (s.data.toList.map UInt8.toNat)) := by
        congr 1
        unfold bytesOf
        rw [List.map_map]
        have : (UInt8.ofNat ∘ UInt8.toNat) = id := by funext x; simp
        rw [this]
        simp
      rw [e]
      exact .str _ (by intro b hb; simp at hb; obtain ⟨x, _, rfl⟩ := hb; exact x.toNat_lt)
    | pointer p => cases p with
      | none => cases h; exact .nilp
      | some p => cases h
    | slice p l c => cases p with
      | none => cases l with
        | zero => cases c with
          | zero => cases h; exact .nils
          | succ c => cases h
        | succ l => cases h
      | some p => cases h
    | map r => cases r with
      | none => cases h; exact .nilm
      | some r => cases h
    | chan r => cases h
    | func f x y =>
      cases f with
      | func f =>
        have h' : (if x.isEmpty && y.isEmpty then some (AVal.fn f [] []) else none) = some a := h
        split at h'
        · rename_i hxy
          cases h'
          simp at hxy
          obtain ⟨rfl, rfl⟩ := hxy
          exact .fn _ _ _ _ _ .nil .nil
        · cases h'
      | _ => cases h
    | nilFunc => cases h; exact .nilf
    | iface t x => cases h
    | nilIface => cases h; exact .nili
    | agg cs =>
      have h' : (cs.toList.mapM (aOf n)).map AVal.agg = some a := h
      simp only [Option.map_eq_some_iff] at h'
      obtain ⟨m, hm, rfl⟩ := h'
      exact .agg _ _ (list _ _ hm)
    | tuple cs =>
      have h' : (cs.toList.mapM (aOf n)).map AVal.tup = some a := h
      simp only [Option.map_eq_some_iff] at h'
      obtain ⟨m, hm, rfl⟩ := h'
      exact .tup _ _ (list _ _ hm)

/-- A number within a bound. -/
theorem bnd_rel {a : AVal} {v : Value} {top n : Nat} (ha : Rel E a v) (h : bnd a top = some n) : n ≤ top ∧ ∃ k, v = .int k n := by
  cases ha with
  | int k i =>
    cases i with
    | ofNat m =>
      simp only [bnd, sel_ble] at h
      split at h
      · cases h; exact ⟨by assumption, k, rfl⟩
      · cases h
    | negSucc m => cases h
  | _ => cases h

theorem run_sliceBound {a : AVal} {v : Value} {top n : Nat} (ha : Rel E a v) (h : bnd a top = some n) (code : BoundsCode) : (Instr.sliceBound v top code).run P w = .ok n w := by
  obtain ⟨hn, k, rfl⟩ := bnd_rel ha h
  have : (0 : Int) ≤ n ∧ (n : Int) ≤ top := ⟨by omega, by omega⟩
  simp only [Instr.sliceBound, asIntOf, Sem.run_bind, Sem.run_pure, Result.andThen, this, and_self, if_true]
  simp

/-- Bounds of a slice expression. -/
theorem run_bounds {isS : Bool} {len cap : Nat} {lo hi mx : Option Value} {alo ahi amx : Option AVal} {l hh m : Nat}
    (rl : match alo, lo with | some a, some v => Rel E a v | none, none => True | _, _ => False)
    (rh : match ahi, hi with | some a, some v => Rel E a v | none, none => True | _, _ => False)
    (rm : match amx, mx with | some a, some v => Rel E a v | none, none => True | _, _ => False)
    (hm : bndO amx cap cap = some m) (hh' : bndO ahi len m = some hh) (hl : bndO alo 0 hh = some l) (hmh : amx.isSome = true → ahi.isSome = true) :
    (Instr.sliceBounds isS len cap lo hi mx).run P w = .ok (l, hh, m) w := by
  unfold Instr.sliceBounds
  cases mx with
  | none =>
    cases amx with
    | some a => exact rm.elim
    | none =>
      cases hm
      cases hi with
      | none =>
        cases ahi with
        | some a => exact rh.elim
        | none =>
          cases hh'
          cases lo with
          | none => cases alo with
            | some a => exact rl.elim
            | none => cases hl; simp
          | some v => cases alo with
            | none => exact rl.elim
            | some a => simp [run_sliceBound rl hl]
      | some u =>
        cases ahi with
        | none => exact rh.elim
        | some b =>
          cases lo with
          | none => cases alo with
            | some a => exact rl.elim
            | none => cases hl; simp [run_sliceBound rh hh']
          | some v => cases alo with
            | none => exact rl.elim
            | some a => simp [run_sliceBound rh hh', run_sliceBound rl hl]
  | some q =>
    cases amx with
    | none => exact rm.elim
    | some d =>
      cases hi with
      | none =>
        cases ahi with
        | some a => exact rh.elim
        | none => simp at hmh
      | some u =>
        cases ahi with
        | none => exact rh.elim
        | some b =>
          cases lo with
          | none => cases alo with
            | some a => exact rl.elim
            | none => cases hl; simp [run_sliceBound rm hm, run_sliceBound rh hh']
          | some v => cases alo with
            | none => exact rl.elim
            | some a => simp [run_sliceBound rm hm, run_sliceBound rh hh', run_sliceBound rl hl]

theorem bndO_le {a : Option AVal} {v : Option Value} {d top n : Nat} (hr : match a, v with | some a, some v => Rel E a v | none, none => True | _, _ => False) (hd : d ≤ top) (h : bndO a d top = some n) : n ≤ top := by
  cases a with
  | none => cases h; exact hd
  | some a => cases v with
    | none => exact hr.elim
    | some v => exact (bnd_rel hr h).1

theorem bytesOf_extract (s : List Nat) (l hh : Nat) : (bytesOf s).extract l hh = bytesOf ((s.drop l).take (hh - l)) := by
  apply ByteArray.ext
  rw [ByteArray.data_extract]
  apply Array.ext'
  simp [bytesOf, List.extract_eq_take_drop, List.map_drop, List.map_take]

theorem run_un {op : UnOp} {a : AVal} {x : Value} (ha : Rel E a x) {v : AVal} (hv : vUn cm op a = some v) : ∃ z, (Op.unary op x).run P w = .ok z w ∧ Rel E v z := by
  cases op <;> cases ha <;> first | (cases hv; done) | skip
  · cases hv; exact ⟨_, rfl, by rw [wrapM_eq]; exact .int _ _⟩
  · cases hv; exact ⟨_, rfl, .int _ _⟩
  · cases hv; exact ⟨_, rfl, by rw [notB_eq]; exact .bool _⟩

theorem run_ci {s d : TypeId} {k : IntKind} {ks : IntKind} (hs : P.underlying s = some (.int ks)) (hd : P.underlying d = some (.int k)) {a : AVal} {x : Value} (ha : Rel E a x) {v : AVal}
    (hv : vCi cm k a = some v) : ∃ z, (convert s d x).run P w = .ok z w ∧ Rel E v z := by
  cases ha with
  | int k' n => cases hv; exact ⟨.int k (k.wrap n), by simp only [convert, Sem.run_bind, run_und w hs, run_und w hd, Result.andThen, Conv.intToInt, Sem.run_pure], by rw [wrapM_eq]; exact .int _ _⟩
  | _ => cases hv

theorem cellsToBytes_cons (c : AVal) (l : List AVal) : cellsToBytes (c :: l) = (match c with
      | .int .u8 (.ofNat n) => sel (Nat.ble n 255) (Option.rec none (fun l => some (n :: l)) (cellsToBytes l)) none
      | _ => none) := rfl

theorem cellsToBytes_some {l : List AVal} {s : List Nat} (h : cellsToBytes l = some s) : l = bytesToCells s ∧ ∀ b ∈ s, b < 256 := by
  induction l generalizing s with
  | nil => cases h; exact ⟨rfl, by simp⟩
  | cons c l ih =>
    have h' := h
    rw [cellsToBytes_cons] at h'
    split at h'
    · rename_i n
      rw [sel_ble] at h'
      split at h'
      · rename_i hn
        cases hb : cellsToBytes l with
        | none => rw [hb] at h'; cases h'
        | some r =>
          rw [hb] at h'
          cases h'
          obtain ⟨h1, h2⟩ := ih hb
          refine ⟨by rw [h1]; rfl, ?_⟩
          intro b hb
          rcases List.mem_cons.1 hb with rfl | hb
          · omega
          · exact h2 b hb
      · cases h'
    · cases h'

theorem rel_bytes {s : List Nat} {x : List Value} (h : RelL E (bytesToCells s) x) : x = (s.map fun (n : Nat) => Value.int .u8 (n : Int)) := by
  induction s generalizing x with
  | nil => cases h; rfl
  | cons b s ih =>
    have h' : RelL E (AVal.int .u8 (.ofNat b) :: bytesToCells s) x := h
    cases h' with
    | cons _ v _ m hh t =>
      cases hh
      rw [ih t]
      rfl

theorem fold_bytes (s : List Nat) : ∀ (b : ByteArray), (List.map Int.ofNat s).foldl (fun r n => r.push (UInt8.ofNat n.toNat)) b = ⟨b.data ++ (s.map UInt8.ofNat).toArray⟩ := by
  induction s with
  | nil => intro b; simp
  | cons x s ih =>
    intro b
    simp only [List.map_cons, List.foldl_cons]
    rw [ih]
    apply ByteArray.ext
    apply Array.ext'
    simp [ByteArray.push]

theorem run_b2s (hs : HSat E h nx w) {s d e : TypeId} (h1 : P.underlying s = some (.slice e)) (h2 : P.underlying d = some .string) (h3 : P.underlying e = some (.int .u8)) {a : AVal} {x : Value} (ha : Rel E a x) {v : AVal}
    (hv : vB2s h a = some v) : ∃ z, (convert s d x).run P w = .ok z w ∧ Rel E v z := by
  have conv : ∀ (q : Option Addr) (m c : Nat), (convert s d (.slice q m c)).run P w = (Conv.bytesToString (.slice q m c)).run P w := by
    intro q m c
    unfold convert
    rw [Sem.run_bind, run_und w h1, Result.andThen_ok, Sem.run_bind, run_und w h2, Result.andThen_ok]
    show (do match ← underlying e with
      | .int .u8 => Conv.bytesToString (.slice q m c)
      | .int .i32 => Conv.runesToString (.slice q m c)
      | _ => stuck "Convert: a slice of what to string?" : Sem Value).run P w = _
    rw [Sem.run_bind, run_und w h3, Result.andThen_ok]
  have body : ∀ (n off len c : Nat) (r : Reg) (hr : E n = some r), readk h n off len (fun l => Option.rec none (fun s => some (AVal.str s)) (cellsToBytes l)) none = some v →
      ∃ z, (convert s d (.slice (some ⟨r.b, r.d + off, none⟩) len c)).run P w = .ok z w ∧ Rel E v z := by
    intro n off len c r hr hk
    obtain ⟨cs, t', m, hh, hl, hk⟩ := readk_some hk
    cases hb : cellsToBytes ((cs.drop off).take len) with
    | none => rw [hb] at hk; cases hk
    | some bs =>
      rw [hb] at hk
      cases hk
      obtain ⟨e1, e2⟩ := cellsToBytes_some hb
      obtain ⟨y, hy, hrel⟩ := run_loadCells_row (P := P) hs hh hr len off hl
      rw [e1] at hrel
      have e3 := rel_bytes hrel
      rw [conv]
      have hload : (loadCells ⟨r.b, r.d + off, none⟩ len).run P w = .ok ((bs.map Int.ofNat).map (Value.int .u8)).toArray w := by
        rw [hy]
        congr 1
        apply Array.ext'
        rw [e3]
        simp only [List.map_map]
        rfl
      rw [run_bytesToString w _ _ _ _ hload, fold_bytes]
      refine ⟨_, rfl, ?_⟩
      have : (⟨ByteArray.empty.data ++ (bs.map UInt8.ofNat).toArray⟩ : ByteArray) = bytesOf bs := by
        apply ByteArray.ext; apply Array.ext'; simp [bytesOf]
      rw [this]
      exact .str _ e2
  have nothing : ∀ (q : Addr) (c : Nat), (Conv.bytesToString (.slice (some q) 0 c)).run P w = .ok (.string (bytesOf [])) w := by
    intro q c
    rw [run_bytesToString w q 0 c [] (by simp [loadCells, loadCellsFrom])]
    rfl
  cases ha with
  | nils => cases hv; rw [conv]; exact ⟨.string (bytesOf []), rfl, .str _ (by simp)⟩
  | emp n r a c h1 h2 h3 => cases hv; rw [conv, nothing]; exact ⟨_, rfl, .str _ (by simp)⟩
  | empN n r a h1 h2 h3 => cases hv; rw [conv, nothing]; exact ⟨_, rfl, .str _ (by simp)⟩
  | slcN n off len c r hr hc hl => exact body n off len c r hr hv
  | slcS n off len c r hr => exact body n off len c r hr hv
  | _ => cases hv

theorem bytesOf_toNat (b : ByteArray) : bytesOf (b.data.toList.map UInt8.toNat) = b := by
  apply ByteArray.ext
  unfold bytesOf
  rw [List.map_map]
  have : (UInt8.ofNat ∘ UInt8.toNat) = id := by funext x; simp
  rw [this]
  simp
theorem lt_toNat (b : ByteArray) : ∀ x ∈ b.data.toList.map UInt8.toNat, x < 256 := by
  intro x hx; simp at hx; obtain ⟨y, _, rfl⟩ := hx; exact y.toNat_lt

theorem run_i2s {s d : TypeId} {ks : IntKind} (h1 : P.underlying s = some (.int ks)) (h2 : P.underlying d = some .string) {a : AVal} {x : Value} (ha : Rel E a x) {v : AVal}
    (hv : vI2s a = some v) : ∃ z, (convert s d x).run P w = .ok z w ∧ Rel E v z := by
  cases ha with
  | int k n =>
    have run : (convert s d (.int k n)).run P w = .ok (.string (Utf8.encode n)) w := by
      simp only [convert, Sem.run_bind, run_und w h1, run_und w h2, Result.andThen, Conv.intToString, Sem.run_pure]
    refine ⟨_, run, ?_⟩
    have all : Rel E (.str ((Utf8.encode n).data.toList.map UInt8.toNat)) (.string (Utf8.encode n)) := by
      have := Rel.str (E := E) _ (lt_toNat (Utf8.encode n))
      rwa [bytesOf_toNat] at this
    cases n with
    | ofNat m =>
      simp only [vI2s, sel_ble] at hv
      split at hv
      · rename_i hm
        cases hv
        have e : Utf8.encode (Int.ofNat m) = bytesOf [m] := by
          have hval : Utf8.valid (m : Int) = true := by simp [Utf8.valid]; omega
          have hlt : m < 0x80 := by omega
          simp [Utf8.encode, hval, hlt, bytesOf]
        rw [e]
        exact .str _ (by simp; omega)
      · cases hv; exact all
    | negSucc m => cases hv; exact all
  | _ => cases hv

theorem run_ids {s d : TypeId} (h1 : P.underlying s = some .string) (h2 : P.underlying d = some .string) {a : AVal} {x : Value} (ha : Rel E a x) {v : AVal}
    (hv : vIds a = some v) : ∃ z, (convert s d x).run P w = .ok z w ∧ Rel E v z := by
  cases ha with
  | str b hb => cases hv; exact ⟨.string (bytesOf b), by simp only [convert, Sem.run_bind, run_und w h1, run_und w h2, Result.andThen, Sem.run_pure], .str _ hb⟩
  | _ => cases hv
end
end Go.Am
