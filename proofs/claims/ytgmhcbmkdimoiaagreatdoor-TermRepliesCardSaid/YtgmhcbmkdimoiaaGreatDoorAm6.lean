/-
  The abstract machine, part 6: the operations that only read. No conditions.
-/
import Derived.Test.YtgmhcbmkdimoiaaGreatDoorAm5
import Derived.Laws.BytesString
import Derived.Laws.Strings
namespace Go.Am
section
variable {P : Program}

/-- What an operand of the code is, and what the abstract one is. -/
def OpdRel (E : Env) (T : Tm) (ρ : Operand → Value) : Prop := ∀ x y, cOpd x = some y → Rel E (ev T y) (ρ x)

theorem OpdRel.opt {E : Env} {T : Tm} {ρ : Operand → Value} (h : OpdRel E T ρ) {x : Option Operand} {y : Option Opd} (hc : cOpt x = some y) :
    match y.map (ev T), x.map ρ with | some a, some v => Rel E a v | none, none => True | _, _ => False := by
  cases x with
  | none => simp [cOpt] at hc; subst hc; trivial
  | some x =>
    simp only [cOpt, Option.map_eq_some_iff] at hc
    obtain ⟨z, hz, rfl⟩ := hc
    exact h _ _ hz

theorem mapM_cons_some {α β : Type} {f : α → Option β} {a : α} {l : List α} {r : List β} (h : (a :: l).mapM f = some r) : ∃ b s, f a = some b ∧ l.mapM f = some s ∧ r = b :: s := by
  simp only [List.mapM_cons, Option.pure_def, Option.bind_eq_bind, Option.bind_eq_some_iff] at h
  obtain ⟨b, hb, s, hs, hr⟩ := h
  cases hr
  exact ⟨b, s, hb, hs, rfl⟩

theorem OpdRel.list {E : Env} {T : Tm} {ρ : Operand → Value} (h : OpdRel E T ρ) : ∀ {l : List Operand} {m : List Opd}, l.mapM cOpd = some m → RelL E (m.map (ev T)) (l.map ρ)
  | [], m, hm => by simp at hm; subst hm; exact .nil
  | x :: l, m, hm => by
    obtain ⟨b, s, hb, hs, rfl⟩ := mapM_cons_some hm
    exact .cons _ _ _ _ (h _ _ hb) (OpdRel.list h hs)

theorem OpdRel.arr {E : Env} {T : Tm} {ρ : Operand → Value} (h : OpdRel E T ρ) {l : Array Operand} {m : List Opd} (hm : cOpds l = some m) : RelL E (m.map (ev T)) (l.map ρ).toList := by
  have := h.list (l := l.toList) hm
  simpa using this

section basics
variable (w : World)
theorem run_und {t : TypeId} {d : TypeDesc} (h : P.underlying t = some d) : (underlying t).run P w = .ok d w := run_underlying h w
theorem und_info {t : TypeId} {d : TypeDesc} (h : P.underlying t = some d) : ∃ i, P.info? t = some i := by
  unfold Program.underlying at h
  split at h
  · exact ⟨_, by assumption⟩
  · exact ⟨_, by assumption⟩
  · cases h
theorem run_info {t : TypeId} {i : TypeInfo} (h : P.info? t = some i) : (typeInfo t).run P w = .ok i w := by simp [typeInfo, h]
theorem run_size {t : TypeId} {s : Nat} (h : sizeOf? P t = some s) : (sizeOf t).run P w = .ok s w := by
  unfold sizeOf? at h
  simp only [Option.map_eq_some_iff] at h
  obtain ⟨i, hi, rfl⟩ := h
  simp [sizeOf, run_info w hi]
theorem run_agg_some {t : TypeId} {n : Nat} (h : aggSize P t = some (some n)) : (isAgg t).run P w = .ok true w ∧ (sizeOf t).run P w = .ok n w := by
  unfold aggSize at h
  split at h
  · rename_i i fs h1 h2; cases h; exact ⟨by simp [isAgg, run_und w h2], by simp [sizeOf, run_info w h1]⟩
  · rename_i i k e h1 h2; cases h; exact ⟨by simp [isAgg, run_und w h2], by simp [sizeOf, run_info w h1]⟩
  · cases h
  · cases h
theorem run_agg_none {t : TypeId} (h : aggSize P t = some none) : (isAgg t).run P w = .ok false w := by
  cases hi : P.info? t with
  | none => simp [aggSize, hi] at h
  | some i =>
    cases hu : P.underlying t with
    | none => simp [aggSize, hi, hu] at h
    | some d => cases d <;> simp [aggSize, hi, hu] at h <;> simp [isAgg, run_und w hu]
end basics

/-- The cells of a row, as the world has them. -/
theorem row_cell {E : Env} {h : Hp} {nx : Nat} {w : World} (hs : HSat E h nx w) {n : Nat} {cs : List AVal} {t : TypeId} {m : RMode} {r : Reg} (hn : hget h n = some (.row cs t m)) (hr : E n = some r)
    (i : Nat) (c : AVal) (hi : cs[i]? = some c) : ∃ v, w.cell? ⟨r.b, r.d + i, none⟩ = some v ∧ Rel E c v := by
  obtain ⟨cells, fr, h1, h2, h3, h4, h4', h5, h6, h7⟩ := hs.obj n _ _ hn hr
  obtain ⟨v, hv, hrel⟩ := h7 i c hi
  exact ⟨v, by simp [World.cell?, h1, hv], hrel⟩

theorem row_cells {E : Env} {h : Hp} {nx : Nat} {w : World} (hs : HSat E h nx w) {n : Nat} {cs : List AVal} {t : TypeId} {m : RMode} {r : Reg} (hn : hget h n = some (.row cs t m)) (hr : E n = some r) :
    ∀ (k off : Nat), off + k ≤ cs.length → ∃ vs : List Value, RelL E ((cs.drop off).take k) vs ∧ ∀ j v, vs[j]? = some v → w.cell? ⟨r.b, r.d + off + j, none⟩ = some v
  | 0, off, _ => ⟨[], by simpa using RelL.nil, by simp⟩
  | k + 1, off, hl => by
    obtain ⟨vs, h1, h2⟩ := row_cells hs hn hr k (off + 1) (by omega)
    obtain ⟨v, hv, hrel⟩ := row_cell hs hn hr off cs[off] (List.getElem?_eq_getElem (by omega))
    refine ⟨v :: vs, ?_, ?_⟩
    · rw [List.drop_eq_getElem_cons (by omega), List.take_succ_cons]
      exact .cons _ _ _ _ hrel h1
    · intro j u hj
      cases j with
      | zero => simp at hj; subst hj; simpa using hv
      | succ j => have := h2 j u (by simpa using hj); rwa [show r.d + off + (j + 1) = r.d + (off + 1) + j from by omega]

theorem run_loadCells_row {E : Env} {h : Hp} {nx : Nat} {w : World} (hs : HSat E h nx w) {n : Nat} {cs : List AVal} {t : TypeId} {m : RMode} {r : Reg} (hn : hget h n = some (.row cs t m)) (hr : E n = some r)
    (k off : Nat) (hl : off + k ≤ cs.length) : ∃ x : Array Value, (loadCells ⟨r.b, r.d + off, none⟩ k).run P w = .ok x w ∧ RelL E ((cs.drop off).take k) x.toList := by
  obtain ⟨vs, h1, h2⟩ := row_cells hs hn hr k off hl
  have hlen : vs.length = k := by rw [← h1.length]; simp; omega
  refine ⟨vs.toArray, ?_, by simpa using h1⟩
  have := run_loadCells_list (P := P) w ⟨r.b, r.d + off, none⟩ vs (fun j v hj => by rw [Addr.add_lit]; exact h2 j v hj)
  rwa [hlen] at this

theorem run_load_row {E : Env} {h : Hp} {nx : Nat} {w : World} (hs : HSat E h nx w) {n : Nat} {cs : List AVal} {t : TypeId} {m : RMode} {r : Reg} (hn : hget h n = some (.row cs t m)) (hr : E n = some r)
    (off : Nat) (c : AVal) (hi : cs[off]? = some c) : ∃ v, (load ⟨r.b, r.d + off, none⟩).run P w = .ok v w ∧ Rel E c v := by
  obtain ⟨v, hv, hrel⟩ := row_cell hs hn hr off c hi
  exact ⟨v, by simp [hv], hrel⟩

/-- What 'rowk' and 'readk' tell when they tell something. -/
theorem rowk_some {α : Type} {h : Hp} {n : Nat} {k : List AVal → Option α} {x : α} (hx : rowk h n k none = some x) : ∃ cs t m, hget h n = some (.row cs t m) ∧ k cs = some x := by
  unfold rowk at hx
  split at hx
  · rename_i cs t m hh; exact ⟨cs, t, m, hh, hx⟩
  · cases hx
theorem readk_some {α : Type} {h : Hp} {n off len : Nat} {k : List AVal → Option α} {x : α} (hx : readk h n off len k none = some x) :
    ∃ cs t m, hget h n = some (.row cs t m) ∧ off + len ≤ cs.length ∧ k ((cs.drop off).take len) = some x := by
  obtain ⟨cs, t, m, hh, hk⟩ := rowk_some hx
  rw [dropk_eq] at hk
  split at hk
  · rw [takek_eq] at hk
    split at hk
    · rename_i h1 h2; exact ⟨cs, t, m, hh, by simp at h2; omega, hk⟩
    · cases hk
  · cases hk
theorem rowk_prop {h : Hp} {n : Nat} {k : List AVal → Prop} (hx : rowk h n k False) : ∃ cs t m, hget h n = some (.row cs t m) ∧ k cs := by
  unfold rowk at hx
  split at hx
  · rename_i cs t m hh; exact ⟨cs, t, m, hh, hx⟩
  · cases hx
theorem readk_prop {h : Hp} {n off len : Nat} {k : List AVal → Prop} (hx : readk h n off len k False) :
    ∃ cs t m, hget h n = some (.row cs t m) ∧ off + len ≤ cs.length ∧ k ((cs.drop off).take len) := by
  obtain ⟨cs, t, m, hh, hk⟩ := rowk_prop hx
  rw [dropk_eq] at hk
  split at hk
  · rw [takek_eq] at hk
    split at hk
    · rename_i h1 h2; exact ⟨cs, t, m, hh, by simp at h2; omega, hk⟩
    · exact hk.elim
  · exact hk.elim

section ops
variable {E : Env} {T : Tm} {h : Hp} {nx : Nat} {w : World} {ρ : Operand → Value} {cm : Bool}

theorem snd_ld (hs : HSat E h nx w) {t : TypeId} {x : Value} {a : AVal} (hx : Rel E a x) {n : Option Nat} (hn : aggSize P t = some n) {v : AVal}
    (hv : vLd h n a = some v) : ∃ y, (Instr.loadAt t x).run P w = .ok y w ∧ Rel E v y := by
  cases hx with
  | ptr n' off r hr =>
    cases n with
    | none =>
      obtain ⟨cs, t', m, hh, hk⟩ := rowk_some hv
      rw [nth_eq] at hk
      obtain ⟨y, hy, hrel⟩ := run_load_row (P := P) hs hh hr off v hk
      exact ⟨y, by simp only [Instr.loadAt, Instr.sureAddr, Sem.run_bind, Sem.run_pure, Result.andThen, loadVar, run_agg_none w hn]; simpa using hy, hrel⟩
    | some n =>
      obtain ⟨cs, t', m, hh, hl, hk⟩ := readk_some hv
      cases hk
      obtain ⟨y, hy, hrel⟩ := run_loadCells_row (P := P) hs hh hr n off hl
      obtain ⟨h1, h2⟩ := run_agg_some w hn
      exact ⟨.agg y, by simp [Instr.loadAt, Instr.sureAddr, loadVar, h1, h2, hy], .agg _ _ hrel⟩
  | _ => cases hv

theorem snd_nilc {x : Value} {a : AVal} (hx : Rel E a x) {v : AVal}
    (hv : vNilc a = some v) (y : Operand) (hy : ρ y = x) (ty : TypeId) (dst pos after guard) :
    (execOp ρ ⟨dst, .nilCheck y, ty, pos, after, guard⟩).run P w = .ok (.value x) w ∧ Rel E v x := by
  cases hx with
  | nilp => cases hv
  | nili => cases hv
  | nilf => cases hv
  | fn f a b x y ha hb => cases hv; exact ⟨by simp [execOp, hy], .fn f a b x y ha hb⟩
  | bool b => cases hv; exact ⟨by simp [execOp, hy], .bool b⟩
  | int k n => cases hv; exact ⟨by simp [execOp, hy], .int k n⟩
  | str s h => cases hv; exact ⟨by simp [execOp, hy], .str s h⟩
  | ptr n off r h => cases hv; exact ⟨by simp [execOp, hy], .ptr n off r h⟩
  | nils => cases hv; exact ⟨by simp [execOp, hy], .nils⟩
  | slcN n off len c r h hc hl => cases hv; exact ⟨by simp [execOp, hy], .slcN n off len c r h hc hl⟩
  | slcS n off len c r h => cases hv; exact ⟨by simp [execOp, hy], .slcS n off len c r h⟩
  | emp n r a c h ha hs => cases hv; exact ⟨by simp [execOp, hy], .emp n r a c h ha hs⟩
  | empN n r a h ha hs => cases hv; exact ⟨by simp [execOp, hy], .empN n r a h ha hs⟩
  | nilm => cases hv; exact ⟨by simp [execOp, hy], .nilm⟩
  | map n r h => cases hv; exact ⟨by simp [execOp, hy], .map n r h⟩
  | ifc t a v h => cases hv; exact ⟨by simp [execOp, hy], .ifc t a v h⟩
  | agg a x h => cases hv; exact ⟨by simp [execOp, hy], .agg a x h⟩
  | tup a x h => cases hv; exact ⟨by simp [execOp, hy], .tup a x h⟩
  | tok j v r h hf ho => cases hv
  | slo n len q c r h h1 h2 h3 => cases hv; exact ⟨by simp [execOp, hy], .slo n len q c r h h1 h2 h3⟩
theorem snd_pick {c x y : Value} {a b d : AVal} (hc : Rel E a c) (hx : Rel E b x) (hy : Rel E d y) {v : AVal}
    (hv : vPick a b d = some v) : ∃ z, (do pure (Next.value (if ← asBool c then x else y)) : Sem Next).run P w = .ok (.value z) w ∧ Rel E v z := by
  cases hc with
  | bool q =>
    cases hv
    cases q
    · exact ⟨y, by simp [asBool], hy⟩
    · exact ⟨x, by simp [asBool], hx⟩
  | _ => cases hv

theorem binI_snd {op : BinOp} {t : TypeId} {k : IntKind} {a b : Int} {v : AVal} (hv : binI cm op k a b = some v) : ∃ z, (binOp op t (.int k a) (.int k b)).run P w = .ok z w ∧ Rel E v z := by
  cases op <;> simp only [binI, eqM_eq, ltM_eq, wrapM_eq, notB_eq] at hv
  case add => cases hv; exact ⟨_, by simp [binOp_add, Op.intArith], .int _ _⟩
  case sub => cases hv; exact ⟨_, by simp [binOp_sub, Op.intArith], .int _ _⟩
  case mul => cases hv; exact ⟨_, by simp [binOp_mul, Op.intArith], .int _ _⟩
  case quo =>
    rw [sel_eq] at hv
    by_cases h0 : b = 0
    · simp [h0] at hv
    · have : (b == 0) = false := by simpa using h0
      simp [this] at hv
      cases hv
      exact ⟨_, by simp [binOp_quo, Op.intDiv, h0], .int _ _⟩
  case rem =>
    rw [sel_eq] at hv
    by_cases h0 : b = 0
    · simp [h0] at hv
    · have : (b == 0) = false := by simpa using h0
      simp [this] at hv
      cases hv
      exact ⟨_, by simp [binOp_rem, Op.intDiv, h0], .int _ _⟩
  case and => cases hv; exact ⟨_, by simp [binOp_and, intBits_and], .int _ _⟩
  case or => cases hv; exact ⟨_, by simp [binOp_or, intBits_or], .int _ _⟩
  case xor => cases hv; exact ⟨_, by simp [binOp_xor, intBits_xor], .int _ _⟩
  case andNot => cases hv; exact ⟨_, by simp [binOp_andNot, intBits_andNot], .int _ _⟩
  case eql => cases hv; exact ⟨_, by simp [binOp_eql], .bool _⟩
  case neq => cases hv; exact ⟨.bool (a != b), by simp [binOp_neq], by show Rel E (.bool (!(a == b))) (.bool (a != b)); exact .bool _⟩
  case lss => cases hv; exact ⟨_, by simp [binOp_lss], .bool _⟩
  case leq =>
    cases hv
    have e : (!decide (b < a)) = decide (a ≤ b) := by rw [Bool.eq_iff_iff]; simp
    exact ⟨.bool (decide (a ≤ b)), by simp [binOp_leq], by rw [e]; exact .bool _⟩
  case gtr => cases hv; exact ⟨_, by simp [binOp_gtr], .bool _⟩
  case geq =>
    cases hv
    have e : (!decide (a < b)) = decide (b ≤ a) := by rw [Bool.eq_iff_iff]; simp
    exact ⟨.bool (decide (b ≤ a)), by simp [binOp_geq], by rw [e]; exact .bool _⟩
  all_goals cases hv

theorem shI_snd {op : BinOp} {t : TypeId} {k yk : IntKind} {a b : Int} {v : AVal} (ho : op = .shl ∨ op = .shr) (hv : shI cm op k a b = some v) : ∃ z, (binOp op t (.int k a) (.int yk b)).run P w = .ok z w ∧ Rel E v z := by
  have hn : ∀ h0 : ¬ b < 0, shN b k = min b.toNat k.bits := by
    intro h0
    cases b with
    | ofNat n =>
      show sel (Nat.ble n k.bits) n k.bits = _
      rw [sel_ble]
      show _ = min n k.bits
      split <;> omega
    | negSucc n => exact absurd (Int.negSucc_lt_zero n) h0
  rcases ho with rfl | rfl
  · simp only [shI, ltM_eq, sel_decide, wrapM_eq, powI_eq] at hv
    split at hv
    · cases hv
    · rename_i h0
      cases hv
      rw [hn h0]
      exact ⟨_, by simp [binOp_shl, Op.shift, h0], .int _ _⟩
  · simp only [shI, ltM_eq, sel_decide, powI_eq] at hv
    split at hv
    · cases hv
    · rename_i h0
      cases hv
      rw [hn h0]
      exact ⟨_, by simp [binOp_shr, Op.shift, h0], .int _ _⟩

theorem bytesOf_size (s : List Nat) : (bytesOf s).size = s.length := by simp [bytesOf, ByteArray.size]
theorem bytesOf_append (a b : List Nat) : bytesOf a ++ bytesOf b = bytesOf (a ++ b) := by
  simp [bytesOf, ByteArray.ext_iff]
theorem bytesOf_toList (s : List Nat) : (bytesOf s).data.toList = s.map UInt8.ofNat := by simp [bytesOf]
theorem bytesOf_inj {a b : List Nat} (ha : ∀ x ∈ a, x < 256) (hb : ∀ x ∈ b, x < 256) (h : a.map UInt8.ofNat = b.map UInt8.ofNat) : a = b := by
  induction a generalizing b with
  | nil => cases b with | nil => rfl | cons _ _ => simp at h
  | cons x a ih =>
    cases b with
    | nil => simp at h
    | cons y b =>
      simp only [List.map_cons, List.cons.injEq] at h
      have hx := ha x (by simp)
      have hy := hb y (by simp)
      have : x = y := by
        have := congrArg UInt8.toNat h.1
        simp [UInt8.toNat_ofNat'] at this
        omega
      subst this
      rw [ih (fun z hz => ha z (by simp [hz])) (fun z hz => hb z (by simp [hz])) h.2]

theorem binS_snd {op : BinOp} {t : TypeId} {a b : List Nat} (ha : ∀ x ∈ a, x < 256) (hb : ∀ x ∈ b, x < 256) {v : AVal} (hv : binS cm op a b = some v) :
    ∃ z, (binOp op t (.string (bytesOf a)) (.string (bytesOf b))).run P w = .ok z w ∧ Rel E v z := by
  have heq : ((bytesOf a).toList == (bytesOf b).toList) = decide (a = b) := by
    rw [Bool.eq_iff_iff]
    simp only [beq_iff_eq, decide_eq_true_eq]
    constructor
    · intro h
      have h' : (bytesOf a).data.toList = (bytesOf b).data.toList := by rw [← ByteArray.toList_eq, ← ByteArray.toList_eq]; exact h
      rw [bytesOf_toList, bytesOf_toList] at h'
      exact bytesOf_inj ha hb h'
    · intro h; rw [h]
  cases op <;> simp only [binS] at hv
  case add =>
    rw [sel_ble] at hv
    split at hv
    · rename_i hle
      rw [lenk_eq, lenk_eq] at hle
      have hv' : some (AVal.str (a ++ b)) = some v := by
        rw [← hv]
        cases cm
        · rfl
        · show _ = appk a b fun l => some (AVal.str l)
          rw [appk_eq]
      cases hv'
      refine ⟨.string (bytesOf (a ++ b)), ?_, .str _ (by intro x hx; rcases List.mem_append.1 hx with h | h; exact ha x h; exact hb x h)⟩
      have hsz : ¬ (((bytesOf a).size + (bytesOf b).size : Nat) : Int) > IntKind.i64.max := by
        rw [bytesOf_size, bytesOf_size, IntKind.max_i64]
        have : a.length + b.length ≤ 9223372036854775807 := hle
        omega
      simp only [binOp, Op.stringOp, hsz, if_false, Sem.run_pure, bytesOf_append]
    · cases hv
  case eql => cases hv; exact ⟨.bool (decide (a = b)), by simp only [binOp, Op.stringOp, Sem.run_pure, heq], by rw [eqL_eq]; exact .bool _⟩
  case neq => cases hv; exact ⟨.bool (!decide (a = b)), by simp only [binOp, Op.stringOp, Sem.run_pure, heq], by rw [eqL_eq, notB_eq]; exact .bool _⟩
  all_goals cases hv

theorem run_eqGuard_pure {op : BinOp} {t : TypeId} {x y : Operand} {a : AVal} {u v : Value} (ha : Rel E a u) (hb : ∀ q, a ≠ .agg q) (hc : a ≠ .nili) (hd : ∀ j, a ≠ .tok j) : eqGuard op t x y u v = pure () := by
  cases ha with
  | tok j v r h hf ho => exact absurd rfl (hd _)
  | agg q _ _ => exact absurd rfl (hb q)
  | nili => exact absurd rfl hc
  | bool b => exact eqGuard_at_bool ..
  | int k n => exact eqGuard_at_int ..
  | str s h => exact eqGuard_at_string ..
  | nilp => exact eqGuard_at_pointer ..
  | ptr n off r h => exact eqGuard_at_pointer ..
  | nils => exact eqGuard_at_slice ..
  | slcN n off len c r h hc hl => exact eqGuard_at_slice ..
  | slcS n off len c r h => exact eqGuard_at_slice ..
  | emp n r a c h ha hs => exact eqGuard_at_slice ..
  | empN n r a h ha hs => exact eqGuard_at_slice ..
  | nilm => exact eqGuard_at_map ..
  | map n r h => exact eqGuard_at_map ..
  | fn f a b x y ha hb => exact eqGuard_at_func ..
  | nilf => exact eqGuard_at_nilFunc ..
  | ifc t a v h => exact eqGuard_at_iface ..
  | tup a x h => exact eqGuard_at_tuple ..
  | slo n len q c r h h1 h2 h3 => exact eqGuard_at_slice ..

theorem snd_bin {op : BinOp} {t : TypeId} {x y : Operand} {a b : AVal} {u v : Value} (ha : Rel E a u) (hb : Rel E b v) {r : AVal} (hv : binV cm op a b = some r) :
    ∃ z, (do eqGuard op t x y u v; binOp op t u v : Sem Value).run P w = .ok z w ∧ Rel E r z := by
  cases ha with
  | int k n =>
    cases hb with
    | int k' n' =>
      rw [eqGuard_at_int]
      simp only [Sem.run_bind, Sem.run_pure, Result.andThen]
      by_cases h1 : op = .shl
      · subst h1; exact shI_snd (.inl rfl) hv
      · by_cases h2 : op = .shr
        · subst h2; exact shI_snd (.inr rfl) hv
        · have hv' : sel (eqK k k') (binI cm op k n n') none = some r := by
            cases op <;> first | exact hv | exact absurd rfl h1 | exact absurd rfl h2
          rw [eqK_eq, sel_decide] at hv'
          split at hv'
          · rename_i e; subst e; exact binI_snd hv'
          · cases hv'
    | _ => cases hv
  | str s hs =>
    cases hb with
    | str s' hs' =>
      rw [eqGuard_at_string]
      simp only [Sem.run_bind, Sem.run_pure, Result.andThen]
      exact binS_snd hs hs' hv
    | _ => cases hv
  | _ => cases hv
theorem equal_succ (t : TypeId) (x y : Value) : Op.equal t x y = Op.equalIn (9999 + 1) t x y := rfl

theorem run_equal_bool {t : TypeId} (hu : P.underlying t = some .bool) (a b : Bool) : (Op.equal t (.bool a) (.bool b)).run P w = .ok (a == b) w := by
  rw [equal_succ]; generalize (9999 : Nat) = d; simp [Op.equalIn, run_und w hu]

theorem snd_eqb {op : BinOp} {neg : Bool} {t : TypeId} {x y : Operand} {a b : AVal} {u v : Value} (hu : P.underlying t = some .bool) (hop : op = if neg then .neq else .eql) (ha : Rel E a u) (hb : Rel E b v) {r : AVal}
    (hv : vEqb neg a b = some r) :
    ∃ z, (do eqGuard op t x y u v; binOp op t u v : Sem Value).run P w = .ok z w ∧ Rel E r z := by
  cases ha with
  | bool p =>
    cases hb with
    | bool q =>
      rw [eqGuard_at_bool]
      cases hv
      subst hop
      cases neg
      · refine ⟨.bool (p == q), by simp [binOp, run_equal_bool hu], ?_⟩
        cases p <;> cases q <;> exact .bool _
      · refine ⟨.bool (!(p == q)), by simp [binOp, run_equal_bool hu], ?_⟩
        cases p <;> cases q <;> exact .bool _
    | _ => cases hv
  | _ => cases hv

/-- What kind of type one of these kinds is. -/
def kindIs (P : Program) (t : TypeId) : Nat → Prop
  | 0 => ∃ e n, P.underlying t = some (.pointer e) ∧ sizeOf? P e = some (n + 1)
  | 1 => ∃ e, P.underlying t = some (.slice e)
  | 2 => ∃ k e, P.underlying t = some (.map k e)
  | 3 => ∃ a b c, P.underlying t = some (.func a b c)
  | _ => False

theorem eqnV_snd {kind : Nat} {t : TypeId} {a b : AVal} {u v : Value} (hk : kindIs P t kind) (ha : Rel E a u) (hb : Rel E b v) {r : Bool} (hv : eqnV kind a b = some r) :
    (Op.equal t u v).run P w = .ok r w := by
  rw [equal_succ]
  generalize (9999 : Nat) = d
  match kind, hk with
  | 0, ⟨e, n, hu, hz⟩ =>
    cases ha with
    | nilp =>
      cases hb with
      | nilp => cases hv; simp [Op.equalIn, run_und w hu]
      | ptr m o q hq => cases hv; simp [Op.equalIn, run_und w hu]
      | _ => cases hv
    | ptr m o q hq =>
      cases hb with
      | nilp => cases hv; simp [Op.equalIn, run_und w hu]
      | ptr m' o' q' hq' =>
        simp only [eqnV, sel_beq] at hv
        split at hv
        · rename_i e'
          subst e'
          rw [hq] at hq'
          cases hq'
          cases hv
          have : Nat.beq o o' = decide (o = o') := beq_eq _ _
          simp only [Op.equalIn, Sem.run_bind, run_und w hu, Result.andThen, run_size w hz, sameAddr]
          simp [this]
          rw [Bool.eq_iff_iff]
          simp
        · cases hv
      | _ => cases hv
    | _ => cases hv
  | 1, ⟨e, hu⟩ =>
    cases ha with
    | nils =>
      cases hb <;> first | (cases hv; done) | (cases hv; simp [Op.equalIn, run_und w hu])
    | slcN m o l c q hq hc hl =>
      cases hb <;> first | (cases hv; done) | (cases hv; simp [Op.equalIn, run_und w hu])
    | slcS m o l c q hq =>
      cases hb <;> first | (cases hv; done) | (cases hv; simp [Op.equalIn, run_und w hu])
    | emp m q a c hq h1 h2 =>
      cases hb <;> first | (cases hv; done) | (cases hv; simp [Op.equalIn, run_und w hu])
    | empN m q a hq h1 h2 =>
      cases hb <;> first | (cases hv; done) | (cases hv; simp [Op.equalIn, run_und w hu])
    | _ => cases hv
  | 2, ⟨k, e, hu⟩ =>
    cases ha with
    | nilm => cases hb <;> first | (cases hv; done) | (cases hv; simp [Op.equalIn, run_und w hu])
    | map m q hq => cases hb <;> first | (cases hv; done) | (cases hv; simp [Op.equalIn, run_und w hu])
    | _ => cases hv
  | 3, ⟨x, y, z, hu⟩ =>
    cases ha with
    | nilf => cases hb <;> first | (cases hv; done) | (cases hv; simp [Op.equalIn, run_und w hu])
    | fn f a b x y h1 h2 => cases hb <;> first | (cases hv; done) | (cases hv; simp [Op.equalIn, run_und w hu])
    | _ => cases hv

theorem eqnV_flat {kind : Nat} {a b : AVal} {r : Bool} (hv : eqnV kind a b = some r) : (∀ q, a ≠ .agg q) ∧ a ≠ .nili ∧ (∀ j, a ≠ .tok j) ∧ ∀ u v : Value, Rel E a u → Rel E b v → ∀ (op : BinOp) (t : TypeId), op = .eql ∨ op = .neq →
    binOp op t u v = (if op = .neq then (do pure (.bool (!(← Op.equal t u v)))) else (do pure (.bool (← Op.equal t u v)))) := by
  have key : ∀ u v : Value, (∀ k n, u ≠ .int k n) → (∀ k n, u ≠ .float k n) → (∀ k n m, u ≠ .complex k n m) → (∀ s, u ≠ .string s) → ∀ (op : BinOp) (t : TypeId), op = .eql ∨ op = .neq →
      binOp op t u v = (if op = .neq then (do pure (.bool (!(← Op.equal t u v)))) else (do pure (.bool (← Op.equal t u v)))) := by
    intro u v h1 h2 h3 h4 op t ho
    rcases ho with rfl | rfl
    · cases u <;> first | exact absurd rfl (h1 _ _) | exact absurd rfl (h2 _ _) | exact absurd rfl (h3 _ _ _) | exact absurd rfl (h4 _) | rfl
    · cases u <;> first | exact absurd rfl (h1 _ _) | exact absurd rfl (h2 _ _) | exact absurd rfl (h3 _ _ _) | exact absurd rfl (h4 _) | rfl
  have hcases : a = .nilp ∨ (∃ n o, a = .ptr n o) ∨ a = .nils ∨ (∃ n o l c, a = .slc n o l c) ∨ (∃ n c, a = .emp n c) ∨ a = .nilm ∨ (∃ n, a = .map n) ∨ a = .nilf ∨ (∃ f x y, a = .fn f x y) := by
    unfold eqnV at hv
    split at hv <;> first | (cases hv; done) | simp
  rcases hcases with rfl | ⟨n, o, rfl⟩ | rfl | ⟨n, o, l, c, rfl⟩ | ⟨n, c, rfl⟩ | rfl | ⟨n, rfl⟩ | rfl | ⟨f, x, y, rfl⟩ <;>
    refine ⟨(fun q e => by cases e), (fun e => by cases e), (fun q e => by cases e), fun u v hu _ op t ho => key u v ?_ ?_ ?_ ?_ op t ho⟩ <;>
    (intros; intro e; subst e; cases hu)

theorem snd_eqn {op : BinOp} {neg : Bool} {kind : Nat} {t : TypeId} {x y : Operand} {a b : AVal} {u v : Value} (hk : kindIs P t kind) (hop : op = if neg then .neq else .eql) (ha : Rel E a u) (hb : Rel E b v) {r : AVal}
    (hv : vEqn neg kind a b = some r) :
    ∃ z, (do eqGuard op t x y u v; binOp op t u v : Sem Value).run P w = .ok z w ∧ Rel E r z := by
  unfold vEqn at hv
  cases he : eqnV kind a b with
  | none => rw [he] at hv; cases hv
  | some q =>
    rw [he] at hv
    cases hv
    obtain ⟨h1, h2, h2', h3⟩ := eqnV_flat (E := E) he
    rw [run_eqGuard_pure ha h1 h2 h2']
    have hrun := eqnV_snd (w := w) hk ha hb he
    subst hop
    cases neg
    · refine ⟨.bool q, ?_, .bool _⟩
      rw [h3 u v ha hb _ t (by simp)]
      simp [hrun]
    · refine ⟨.bool (!q), ?_, by rw [sel_true, notB_eq]; exact .bool _⟩
      rw [h3 u v ha hb _ t (by simp)]
      simp [hrun]
end ops
end
end Go.Am
