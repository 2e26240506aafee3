/-
  The abstract machine, part 9: the operations that only read, the fourth lot. No conditions.
-/
import Derived.Test.YtgmhcbmkdimoiaaGreatDoorAm8
namespace Go.Am
section
variable {P : Program} {E : Env} {T : Tm} {h : Hp} {nx : Nat} {w : World} {cm : Bool}

theorem run_fad {s : TypeId} {fs : Array Field} {f : Nat} {fl : Field} {n : Nat} (hu : P.underlying s = some (.struct fs)) (hf : fs[f]? = some fl) (hz : sizeOf? P fl.type = some (n + 1)) {a : AVal} {x : Value} (ha : Rel E a x) {v : AVal}
    (hv : vFad fl.offset a = some v) : ∃ z, (Instr.fieldAt s x f).run P w = .ok z w ∧ Rel E v z := by
  cases ha with
  | ptr m o r hr =>
    cases hv
    refine ⟨.pointer (some ⟨r.b, r.d + o + fl.offset, none⟩), ?_, by rw [Nat.add_assoc]; exact .ptr _ _ r hr⟩
    simp only [Instr.fieldAt, Sem.run_bind, run_und w hu, Result.andThen, hf, Instr.sureAddr, Sem.run_pure, fieldPlace, run_size w hz]
    simp [addr_add]
  | _ => cases hv

theorem run_part {t : TypeId} {n : Option Nat} (hn : aggSize P t = some n) {cs : List AVal} {xs : Array Value} (hc : RelL E cs xs.toList) {off : Nat} {v : AVal} (hv : vPart off n cs = some v) :
    ∃ z, (part t xs off).run P w = .ok z w ∧ Rel E v z := by
  cases n with
  | none =>
    unfold vPart at hv
    dsimp only at hv
    rw [nth_eq] at hv
    obtain ⟨z, hz, hr⟩ := hc.get off v hv
    have hz' : xs[off]? = some z := by rw [← Array.getElem?_toList]; exact hz
    refine ⟨z, ?_, hr⟩
    simp only [part, Sem.run_bind, run_agg_none w hn, Result.andThen, hz']
    simp
  | some n =>
    unfold vPart at hv
    dsimp only at hv
    rw [dropk_eq] at hv
    split at hv
    · rw [takek_eq] at hv
      split at hv
      · cases hv
        obtain ⟨h1, h2⟩ := run_agg_some w hn
        refine ⟨.agg (xs.extract off (off + n)), ?_, ?_⟩
        · simp [part, h1, h2]
        · refine .agg _ _ ?_
          have := (hc.drop off).take n
          have e : (xs.extract off (off + n)).toList = (xs.toList.drop off).take n := by
            rw [Array.toList_extract, List.extract_eq_take_drop]
            congr 1
            omega
          rwa [e]
      · cases hv
    · cases hv

theorem run_fld {t : TypeId} {fs : Array Field} {f : Nat} {fl : Field} {n : Option Nat} (hu : P.underlying t = some (.struct fs)) (hf : fs[f]? = some fl) (hn : aggSize P fl.type = some n) {a : AVal} {x : Value} (ha : Rel E a x) {v : AVal}
    (hv : vFld fl.offset n a = some v) : ∃ z, (Instr.field t x f).run P w = .ok z w ∧ Rel E v z := by
  cases ha with
  | agg cs xs hc =>
    obtain ⟨z, hz, hr⟩ := run_part (P := P) (w := w) hn hc hv
    exact ⟨z, by simp only [Instr.field, Sem.run_bind, run_und w hu, Result.andThen, hf, asAgg, Sem.run_pure, hz], hr⟩
  | _ => cases hv

theorem sel_lt {i n : Nat} {z : Option AVal} {v : AVal} (h : sel (Nat.ble (Nat.succ i) n) z none = some v) : i < n ∧ z = some v := by
  rw [sel_ble] at h
  split at h
  · exact ⟨by omega, h⟩
  · cases h

theorem run_iaA {t e : TypeId} {n s : Nat} (hu : P.underlying t = some (.array n e)) (hsz : sizeOf? P e = some s) {a b : AVal} {x y : Value} (ha : Rel E a x) (hb : Rel E b y) {v : AVal}
    (hv : vIaA n s a b = some v) : ∃ z, (Instr.indexAt t x y).run P w = .ok z w ∧ Rel E v z := by
  cases ha with
  | ptr m o r hr =>
    cases hb with
    | int k i =>
      cases i with
      | negSucc i => cases hv
      | ofNat i =>
        obtain ⟨hlt, hv⟩ := sel_lt hv
        cases hv
        refine ⟨.pointer (some ⟨r.b, r.d + o + i * s, none⟩), ?_, by rw [Nat.add_assoc]; exact .ptr _ _ r hr⟩
        have h1 : (0 : Int) ≤ Int.ofNat i ∧ Int.ofNat i < (n : Int) := ⟨Int.natCast_nonneg i, by show (i : Int) < n; omega⟩
        simp only [Instr.indexAt, asIntOf, Sem.run_bind, Sem.run_pure, Result.andThen, run_und w hu, Instr.sureAddr, h1, and_self, if_true, run_size w hsz, addr_add]
        rfl
    | _ => cases hv
  | _ => cases hv

theorem run_iaS {t e : TypeId} {s : Nat} (hu : P.underlying t = some (.slice e)) (hsz : sizeOf? P e = some s) {a b : AVal} {x y : Value} (ha : Rel E a x) (hb : Rel E b y) {v : AVal}
    (hv : vIaS s a b = some v) : ∃ z, (Instr.indexAt t x y).run P w = .ok z w ∧ Rel E v z := by
  have main : ∀ (m o len c : Nat) (r : Reg) (hr : E m = some r) (k : IntKind) (i : Nat), i < len → (Instr.indexAt t (.slice (some ⟨r.b, r.d + o, none⟩) len c) (.int k i)).run P w = .ok (.pointer (some ⟨r.b, r.d + o + i * s, none⟩)) w := by
    intro m o len c r hr k i hlt
    have h1 : (0 : Int) ≤ (i : Int) ∧ (i : Int) < (len : Int) := ⟨by omega, by omega⟩
    simp only [Instr.indexAt, asIntOf, Sem.run_bind, Sem.run_pure, Result.andThen, run_und w hu, h1, and_self, if_true, run_size w hsz, addr_add]
    rfl
  cases ha with
  | slcN m o len c r hr hc hl =>
    cases hb with
    | int k i =>
      cases i with
      | negSucc i => cases hv
      | ofNat i =>
        obtain ⟨hlt, hv⟩ := sel_lt hv
        cases hv
        exact ⟨_, main m o len c r hr k i hlt, by rw [Nat.add_assoc]; exact .ptr _ _ r hr⟩
    | _ => cases hv
  | slcS m o len c r hr =>
    cases hb with
    | int k i =>
      cases i with
      | negSucc i => cases hv
      | ofNat i =>
        obtain ⟨hlt, hv⟩ := sel_lt hv
        cases hv
        exact ⟨_, main m o len c r hr k i hlt, by rw [Nat.add_assoc]; exact .ptr _ _ r hr⟩
    | _ => cases hv
  | _ => cases hv

theorem run_ixA {t e : TypeId} {len s : Nat} {n : Option Nat} (hu : P.underlying t = some (.array len e)) (hsz : sizeOf? P e = some s) (hn : aggSize P e = some n) {a b : AVal} {x y : Value} (ha : Rel E a x) (hb : Rel E b y) {v : AVal}
    (hv : vIxA len s n a b = some v) : ∃ z, (Instr.index t x y).run P w = .ok z w ∧ Rel E v z := by
  cases ha with
  | agg cs xs hc =>
    cases hb with
    | int k i =>
      cases i with
      | negSucc i => cases hv
      | ofNat i =>
        obtain ⟨hlt, hv⟩ := sel_lt hv
        obtain ⟨z, hz, hr⟩ := run_part (P := P) (w := w) hn hc hv
        have h1 : (0 : Int) ≤ Int.ofNat i ∧ Int.ofNat i < (len : Int) := ⟨Int.natCast_nonneg i, by show (i : Int) < len; omega⟩
        refine ⟨z, ?_, hr⟩
        simp only [Instr.index, asIntOf, Sem.run_bind, Sem.run_pure, Result.andThen, run_und w hu, h1, and_self, if_true, run_size w hsz]
        exact hz
    | _ => cases hv
  | _ => cases hv

theorem bytesOf_get (s : List Nat) (i : Nat) : (bytesOf s)[i]? = (s[i]?).map UInt8.ofNat := by
  have : (bytesOf s)[i]? = (bytesOf s).data[i]? := by
    simp only [getElem?_def]
    rfl
  rw [this]
  simp [bytesOf]

theorem run_ixS {t : TypeId} (hu : P.underlying t = some .string) {a b : AVal} {x y : Value} (ha : Rel E a x) (hb : Rel E b y) {v : AVal}
    (hv : vIxS a b = some v) : ∃ z, (Instr.index t x y).run P w = .ok z w ∧ Rel E v z := by
  cases ha with
  | str s hs =>
    cases hb with
    | int k i =>
      cases i with
      | negSucc i => cases hv
      | ofNat i =>
        unfold vIxS at hv
        dsimp only at hv
        rw [nth_eq] at hv
        cases hi : s[i]? with
        | none => rw [hi] at hv; cases hv
        | some c =>
          rw [hi] at hv
          cases hv
          have hc := hs c (List.mem_of_getElem? hi)
          have h1 : (if (0 : Int) ≤ Int.ofNat i then (bytesOf s)[(Int.ofNat i).toNat]? else none) = some (UInt8.ofNat c) := by
            rw [if_pos (show (0 : Int) ≤ Int.ofNat i from Int.natCast_nonneg i)]
            show (bytesOf s)[i]? = _
            rw [bytesOf_get, hi]
            rfl
          refine ⟨.int .u8 (UInt8.ofNat c).toNat, ?_, ?_⟩
          · simp only [Instr.index, asIntOf, Sem.run_bind, Sem.run_pure, Result.andThen, run_und w hu, h1]
          · have e : (UInt8.ofNat c).toNat = c := by simp [UInt8.toNat_ofNat']; omega
            rw [e]
            exact .int _ _
    | _ => cases hv
  | _ => cases hv

theorem run_s2a {arr e : TypeId} {n : Nat} (hu : P.underlying arr = some (.array n e)) {a : AVal} {x : Value} (ha : Rel E a x) {v : AVal} (hv : vS2a n a = some v) :
    ∃ z, (Instr.arrayAt arr x).run P w = .ok z w ∧ Rel E v z := by
  have main : ∀ (m o len c : Nat) (r : Reg), n ≤ len → (Instr.arrayAt arr (.slice (some ⟨r.b, r.d + o, none⟩) len c)).run P w = .ok (.pointer (some ⟨r.b, r.d + o, none⟩)) w := by
    intro m o len c r hle
    simp only [Instr.arrayAt, Sem.run_bind, run_und w hu, Result.andThen]
    simp; omega
  cases ha with
  | slcN m o len c r hr hc hl =>
    unfold vS2a at hv
    dsimp only at hv
    rw [sel_ble] at hv
    split at hv
    · cases hv; exact ⟨_, main m o len c r (by assumption), .ptr _ _ r hr⟩
    · cases hv
  | slcS m o len c r hr =>
    unfold vS2a at hv
    dsimp only at hv
    rw [sel_ble] at hv
    split at hv
    · cases hv; exact ⟨_, main m o len c r (by assumption), .ptr _ _ r hr⟩
    · cases hv
  | _ => cases hv

theorem zero_rel {t : TypeId} {z : AVal} (hz : zero? P t = some z) (E : Env) : ∃ v, (zeroValue t).run P w = .ok v w ∧ Rel E z v ∧ ∃ i, P.info? t = some i ∧ i.zero = some v := by
  unfold zero? at hz
  simp only [Option.bind_eq_some_iff] at hz
  obtain ⟨v, ⟨i, hi, hv⟩, ha⟩ := hz
  exact ⟨v, by simp [zeroValue, run_info w hi, hv], aOf_rel E 5 v z ha, i, hi, hv⟩

theorem run_ta {xt as : TypeId} {z : AVal} (hz : zero? P as = some z) {d : TypeDesc} (hu : P.underlying as = some d) (hd : ∀ m, d ≠ .interface m) {a : AVal} {x : Value} (ha : Rel E a x) {v : AVal} (hv : vTa as z a = some v) :
    ∃ y, (Instr.typeAssert x xt as true).run P w = .ok y w ∧ Rel E v y := by
  obtain ⟨zv, hzv, hzr, _⟩ := zero_rel (w := w) hz E
  cases ha with
  | nili =>
    cases hv
    refine ⟨.tuple #[zv, .bool false], ?_, .tup _ _ (.cons _ _ _ _ hzr (.cons _ _ _ _ (.bool _) .nil))⟩
    unfold Instr.typeAssert
    simp only [Sem.run_bind, run_und w hu, Result.andThen]
    cases d <;> first | exact absurd rfl (hd _) | simp [hzv]
  | ifc t b y hb =>
    unfold vTa at hv
    dsimp only at hv
    rw [sel_beq] at hv
    split at hv
    · rename_i e
      subst e
      cases hv
      refine ⟨.tuple #[y, .bool true], ?_, .tup _ _ (.cons _ _ _ _ hb (.cons _ _ _ _ (.bool _) .nil))⟩
      unfold Instr.typeAssert
      simp only [Sem.run_bind, run_und w hu, Result.andThen]
      cases d <;> first | exact absurd rfl (hd _) | simp
    · rename_i e
      cases hv
      refine ⟨.tuple #[zv, .bool false], ?_, .tup _ _ (.cons _ _ _ _ hzr (.cons _ _ _ _ (.bool _) .nil))⟩
      unfold Instr.typeAssert
      simp only [Sem.run_bind, run_und w hu, Result.andThen]
      cases d <;> first | exact absurd rfl (hd _) | simp [hzv, e]
  | _ => cases hv

theorem run_tav {xt as : TypeId} {d : TypeDesc} (hu : P.underlying as = some d) (hd : ∀ m, d ≠ .interface m) {a : AVal} {x : Value} (ha : Rel E a x) {v : AVal} (hv : vTav as a = some v) :
    ∃ y, (Instr.typeAssert x xt as false).run P w = .ok y w ∧ Rel E v y := by
  cases ha with
  | ifc t b y hb =>
    unfold vTav at hv
    dsimp only at hv
    rw [sel_beq] at hv
    split at hv
    · rename_i e
      subst e
      cases hv
      refine ⟨y, ?_, hb⟩
      unfold Instr.typeAssert
      simp only [Sem.run_bind, run_und w hu, Result.andThen]
      cases d <;> first | exact absurd rfl (hd _) | simp
    · cases hv
  | _ => cases hv

theorem run_ext {a : AVal} {x : Value} (ha : Rel E a x) {i : Nat} {v : AVal} (hv : vExt a i = some v) : ∃ y, (Instr.extract x i).run P w = .ok y w ∧ Rel E v y := by
  cases ha with
  | tup vs xs hc =>
    unfold vExt at hv
    dsimp only at hv
    rw [nth_eq] at hv
    obtain ⟨z, hz, hr⟩ := hc.get i v hv
    have hz' : xs[i]? = some z := by rw [← Array.getElem?_toList]; exact hz
    exact ⟨z, by simp [Instr.extract, hz'], hr⟩
  | _ => cases hv

theorem run_lenS {t ty : TypeId} (hu : P.underlying t = some .string) {a : AVal} {x : Value} (ha : Rel E a x) {v : AVal} (hv : vLenS a = some v) : ∃ y, (Builtin.len_ #[t] ty #[x]).run P w = .ok y w ∧ Rel E v y := by
  cases ha with
  | str s hs =>
    cases hv
    refine ⟨.int .i64 (bytesOf s).size, by simp [Builtin.len_, run_und w hu, goInt], ?_⟩
    rw [bytesOf_size, lenk_eq]
    exact .int _ _
  | _ => cases hv

theorem run_lenL {t ty e : TypeId} (hu : P.underlying t = some (.slice e)) {a : AVal} {x : Value} (ha : Rel E a x) {v : AVal} (hv : vLenL a = some v) : ∃ y, (Builtin.len_ #[t] ty #[x]).run P w = .ok y w ∧ Rel E v y := by
  have main : ∀ (q : Option Addr) (n c : Nat), (Builtin.len_ #[t] ty #[.slice q n c]).run P w = .ok (.int .i64 n) w := by
    intro q n c; simp [Builtin.len_, run_und w hu, goInt]
  cases ha with
  | nils => cases hv; exact ⟨_, main _ _ _, .int _ _⟩
  | slcN m o len c r hr hc hl => cases hv; exact ⟨_, main _ _ _, .int _ _⟩
  | slcS m o len c r hr => cases hv; exact ⟨_, main _ _ _, .int _ _⟩
  | emp n r a c h1 h2 h3 => cases hv; exact ⟨_, main _ _ _, .int _ _⟩
  | empN n r a h1 h2 h3 => cases hv; exact ⟨_, main _ _ _, .int _ _⟩
  | _ => cases hv

theorem run_cap {t ty e : TypeId} (hu : P.underlying t = some (.slice e)) {a : AVal} {x : Value} (ha : Rel E a x) {v : AVal} (hv : vCap a = some v) : ∃ y, (Builtin.cap_ #[t] ty #[x]).run P w = .ok y w ∧ Rel E v y := by
  have main : ∀ (q : Option Addr) (n c : Nat), (Builtin.cap_ #[t] ty #[.slice q n c]).run P w = .ok (.int .i64 c) w := by
    intro q n c; simp [Builtin.cap_, run_und w hu, goInt]
  cases ha with
  | nils => cases hv; exact ⟨_, main _ _ _, .int _ _⟩
  | slcN m o len c r hr hc hl => cases hv
  | slcS m o len c r hr => cases hv; exact ⟨_, main _ _ _, .int _ _⟩
  | emp n r a c h1 h2 h3 => cases hv
  | empN n r a h1 h2 h3 => cases hv; exact ⟨_, main _ _ _, .int _ _⟩
  | _ => cases hv

/-- A map, as the world has it. -/
theorem map_obj (hs : HSat E h nx w) {n : Nat} {es : List (AVal × AVal × Nat)} {c : Nat} {r : Reg} (hn : hget h n = some (.map es c)) (hr : E n = some r) : ∃ mes : Array MapEntry, w.heap[r.b]? = some (.map mes c) ∧ RelE E es mes.toList := by
  exact hs.obj n _ _ hn hr

theorem run_getObj {b : Nat} {o : Obj} (hb : w.heap[b]? = some o) (hne : ∀ c t f, o ≠ .cells c t f) : (getObj b).run P w = .ok o w := by
  cases o <;> first | exact absurd rfl (hne _ _ _) | simp only [getObj, Sem.run, hb]

theorem RelE.length {l : List (AVal × AVal × Nat)} {m : List MapEntry} (h : RelE E l m) : l.length = m.length := by
  induction h with
  | nil => rfl
  | cons a b n u v l m h k _ ih => simp [ih]

theorem run_lenM (hs : HSat E h nx w) {t ty k e : TypeId} (hu : P.underlying t = some (.map k e)) {a : AVal} {x : Value} (ha : Rel E a x) {v : AVal} (hv : vLenM h a = some v) : ∃ y, (Builtin.len_ #[t] ty #[x]).run P w = .ok y w ∧ Rel E v y := by
  cases ha with
  | nilm => cases hv; exact ⟨.int .i64 0, by simp [Builtin.len_, run_und w hu, goInt], .int _ _⟩
  | map n r hr =>
    unfold vLenM at hv
    dsimp only at hv
    split at hv
    · rename_i es c hn
      cases hv
      obtain ⟨mes, h1, h2⟩ := map_obj hs hn hr
      refine ⟨.int .i64 mes.size, by simp [Builtin.len_, run_und w hu, goInt, run_getObj (P := P) h1 (by intros; simp)], ?_⟩
      rw [lenk_eq, h2.length]
      simpa using Rel.int (E := E) .i64 (mes.size : Int)
    · cases hv
  | _ => cases hv
end
end Go.Am
