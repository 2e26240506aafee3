/-
  The abstract machine, part 16: writing into maps. No conditions.
-/
import Derived.Test.YtgmhcbmkdimoiaaGreatDoorAm15
namespace Go.Am
section
variable {P : Program} {E : Env} {T : Tm} {h : Hp} {nx : Nat} {w : World} {cm : Bool} {ρ : Operand → Value}

theorem run_setObj {b : Nat} {o o' : Obj} (hb : w.heap[b]? = some o) (hne : ∀ c t f, o ≠ .cells c t f) : (setObj b o').run P w = .ok () { w with heap := w.heap.setIfInBounds b o' } := by
  simp only [setObj, Sem.run, hb]
theorem set_only (w : World) (b : Nat) (o' : Obj) : OnlyBlock w { w with heap := w.heap.setIfInBounds b o' } b :=
  ⟨fun k hk => by
    show (w.heap.setIfInBounds b o')[k]? = _
    rw [Array.getElem?_setIfInBounds, if_neg (Ne.symm hk)], by simp, rfl, rfl, rfl⟩
theorem set_heap (w : World) (b : Nat) {o : Obj} (o' : Obj) (hb : w.heap[b]? = some o) : ({ w with heap := w.heap.setIfInBounds b o' } : World).heap[b]? = some o' := by
  have hlt : b < w.heap.size := (Array.getElem?_eq_some_iff.1 hb).1
  show (w.heap.setIfInBounds b o')[b]? = _
  rw [Array.getElem?_setIfInBounds]
  simp [hlt]

/-- A map's block, set to another map. -/
theorem map_set (hs : HSat E h nx w) {n : Nat} {es es' : List (AVal × AVal × Nat)} {c c' : Nat} {r : Reg} (hn : hget h n = some (.map es c)) (hr : E n = some r) {mes' : Array MapEntry} (hrel : RelE E es' mes'.toList) :
    ∃ w', (setObj r.b (.map mes' c')).run P w = .ok () w' ∧ HSat E (Tr.set (.map es' c') h (Nat.succ n)) nx w' ∧ Goes E h nx w E (Tr.set (.map es' c') h (Nat.succ n)) nx w' := by
  obtain ⟨mes, hb, _⟩ := map_obj hs hn hr
  have ho := set_only w r.b (.map mes' c')
  refine ⟨_, run_setObj hb (by intros; simp), hs.update hn rfl hr ho.other ⟨mes', set_heap w r.b _ hb, hrel⟩, Goes.update hn rfl hr ho.other ho.size ho.os ho.tape ho.output⟩

theorem putI_cons (cm : Bool) (k : IntKind) (x : Int) (v : AVal) (c : Nat) (e : AVal × AVal × Nat) (r : List (AVal × AVal × Nat)) : putI cm k x v c (e :: r) = (match e with
      | (.int k' y, u, b) => sel (eqK k k') (sel (eqM cm x y) (some ((.int k x, v, b) :: r, false)) (Option.rec none (fun p => some ((.int k' y, u, b) :: p.1, p.2)) (putI cm k x v c r))) none
      | _ => none) := rfl

theorem orec {α β : Type} {x : Option α} {f : α → Option β} {b : β} (h : (Option.rec none f x : Option β) = some b) : ∃ a, x = some a ∧ f a = some b := by
  cases x with
  | none => cases h
  | some a => exact ⟨a, rfl, h⟩

theorem put_rel {kk k : IntKind} {x : Int} {v : AVal} {u : Value} {c : Nat} (hv : Rel E v u) {es : List (AVal × AVal × Nat)} {mes : List MapEntry} (hr : RelE E es mes) :
    ∀ {es' : List (AVal × AVal × Nat)} {new : Bool}, putI cm k x v c es = some (es', new) → ∀ i,
    (Instr.findNow (.int kk) (.int k x) mes i = some none ∧ new = true ∧ RelE E es' (mes ++ [⟨.int k x, u, c⟩])) ∨
    (∃ j q b, Instr.findNow (.int kk) (.int k x) mes i = some (some (i + j, q)) ∧ mes[j]? = some ⟨.int k x, q, b⟩ ∧ new = false ∧ RelE E es' (mes.set j ⟨.int k x, u, b⟩)) := by
  induction hr with
  | nil =>
    intro es' new hp i
    cases hp
    exact .inl ⟨rfl, rfl, .cons _ _ _ _ _ _ _ (.int _ _) hv .nil⟩
  | cons a b n u' v' l m h1 h2 ht ih =>
    intro es' new hp i
    rw [putI_cons] at hp
    cases h1 with
    | int k' y =>
      dsimp only at hp
      rw [eqK_eq, sel_decide, eqM_eq] at hp
      split at hp
      · rename_i e
        subst e
        by_cases hxy : (x == y) = true
        · rw [hxy, sel_true] at hp
          cases hp
          have hxy' : x = y := by simpa using hxy
          subst hxy'
          refine .inr ⟨0, v', n, by simp [Instr.findNow, Instr.sameNow], rfl, rfl, ?_⟩
          exact .cons _ _ _ _ _ _ _ (.int _ _) hv ht
        · have hxy' : (x == y) = false := by simpa using hxy
          rw [hxy', sel_false] at hp
          obtain ⟨p, h3, h4⟩ := orec hp
          cases h4
          rcases ih h3 (i + 1) with ⟨h5, h6, h7⟩ | ⟨j, q, bb, h5, h6, h7, h8⟩
          · exact .inl ⟨by simp [Instr.findNow, Instr.sameNow, hxy', h5], h6, .cons _ _ _ _ _ _ _ (.int _ _) h2 h7⟩
          · refine .inr ⟨j + 1, q, bb, ?_, h6, h7, .cons _ _ _ _ _ _ _ (.int _ _) h2 h8⟩
            simp [Instr.findNow, Instr.sameNow, hxy', h5]
            omega
      · cases hp
    | _ => cases hp

theorem run_mup (hs : HSat E h nx w) {t kt et : TypeId} {kk : IntKind} (hu : P.underlying t = some (.map kt et)) (hk : P.underlying kt = some (.int kk)) {m a b : AVal} {xm x y : Value} (hm : Rel E m xm) (ha : Rel E a x) (hb : Rel E b y) {k : HK}
    (hkk : match (generalizing := false) m, a with
      | .map r, .int i x => match hget h r with
        | some (.map es clock) => match putI cm i x b clock es with
          | some (es, new) => hset h r (.map es (sel new (Nat.succ clock) clock)) fun h => k (.tup []) h nx
          | none => False
        | _ => False
      | _, _ => False) : ∃ w' h', (Instr.mapUpdate t xm x y).run P w = .ok () w' ∧ HSat E h' nx w' ∧ Goes E h nx w E h' nx w' ∧ k (.tup []) h' nx := by
  cases hm with
  | map n r hr =>
    cases ha with
    | int i z =>
      dsimp only at hkk
      split at hkk
      · rename_i es clock hn
        split at hkk
        · rename_i es' new hp
          rw [hset_k] at hkk
          obtain ⟨mes, hb1, hrel⟩ := map_obj hs hn hr
          have hget : (getObj r.b).run P w = .ok (.map mes clock) w := run_getObj hb1 (by intros; simp)
          have hck := run_checkKey_int (P := P) (w := w) hk false (.int i z)
          rcases put_rel (kk := kk) hb hrel hp 0 with ⟨h1, rfl, h3⟩ | ⟨j, q, bb, h1, h2, rfl, h3⟩
          · obtain ⟨w', h4, h5, h6⟩ := map_set (P := P) (c' := clock + 1) hs hn hr (mes' := mes.push ⟨.int i z, y, clock⟩) (by simpa using h3)
            refine ⟨w', _, ?_, h5, h6, hkk⟩
            have hf : (Instr.findKey kt (.int i z) mes.toList).run P w = .ok none w := by simp [Instr.findKey, run_und w hk, h1]
            simp only [Instr.mapUpdate, Sem.run_bind, run_und w hu, Result.andThen_ok, hget, hck, hf]
            exact h4
          · have hj : j < mes.size := by
              have := (List.getElem?_eq_some_iff.1 h2).1
              simpa using this
            have hmj : mes[j] = ⟨.int i z, q, bb⟩ := by
              rw [Array.getElem?_toList, Array.getElem?_eq_getElem hj] at h2
              simpa using h2
            have hmod : mes.modify j (fun e => { e with key := .int i z, val := y }) = mes.set j ⟨.int i z, y, bb⟩ hj := by
              apply Array.ext
              · simp
              · intro p hp1 hp2
                rw [Array.getElem_modify, Array.getElem_set]
                by_cases hpj : j = p
                · subst hpj; simp [hmj]
                · simp [hpj]
            obtain ⟨w', h4, h5, h6⟩ := map_set (P := P) (c' := clock) hs hn hr (mes' := mes.set j ⟨.int i z, y, bb⟩ hj) (by simpa using h3)
            refine ⟨w', _, ?_, h5, h6, hkk⟩
            have hf : (Instr.findKey kt (.int i z) mes.toList).run P w = .ok (some (j, q)) w := by simp [Instr.findKey, run_und w hk, h1]
            have hst : (Instr.keyThatStays (.int i z) (.int i z)).run P w = .ok (.int i z) w := by
              have : Instr.sameBits 10000 (.int i z) (.int i z) = true := by
                show Instr.sameBits (9999 + 1) _ _ = true
                simp [Instr.sameBits]
              simp [Instr.keyThatStays, this]
            have hold : ((mes[j]?).map (·.key)).getD (.int i z) = .int i z := by rw [Array.getElem?_eq_getElem hj, hmj]; rfl
            simp only [Instr.mapUpdate, Sem.run_bind, run_und w hu, Result.andThen_ok, hget, hck, hf, hold, hst]
            rw [hmod]
            exact h4
        · exact hkk.elim
      · exact hkk.elim
    | _ => exact hkk.elim
  | _ => exact hkk.elim

theorem delI_cons (cm : Bool) (k : IntKind) (x : Int) (e : AVal × AVal × Nat) (r : List (AVal × AVal × Nat)) : delI cm k x (e :: r) = (match e with
      | (.int k' y, u, b) => sel (eqK k k') (sel (eqM cm x y) (some r) (Option.rec none (fun p => some ((.int k' y, u, b) :: p)) (delI cm k x r))) none
      | _ => none) := rfl

theorem del_rel {kk k : IntKind} {x : Int} {es : List (AVal × AVal × Nat)} {mes : List MapEntry} (hr : RelE E es mes) :
    ∀ {es' : List (AVal × AVal × Nat)}, delI cm k x es = some es' → ∀ i,
    (Instr.findNow (.int kk) (.int k x) mes i = some none ∧ RelE E es' mes) ∨
    (∃ j q, Instr.findNow (.int kk) (.int k x) mes i = some (some (i + j, q)) ∧ j < mes.length ∧ RelE E es' (mes.eraseIdx j)) := by
  induction hr with
  | nil =>
    intro es' hp i
    cases hp
    exact .inl ⟨rfl, .nil⟩
  | cons a b n u' v' l m h1 h2 ht ih =>
    intro es' hp i
    rw [delI_cons] at hp
    cases h1 with
    | int k' y =>
      dsimp only at hp
      rw [eqK_eq, sel_decide, eqM_eq] at hp
      split at hp
      · rename_i e
        subst e
        by_cases hxy : (x == y) = true
        · rw [hxy, sel_true] at hp
          cases hp
          have hxy' : x = y := by simpa using hxy
          subst hxy'
          exact .inr ⟨0, v', by simp [Instr.findNow, Instr.sameNow], by simp, ht⟩
        · have hxy' : (x == y) = false := by simpa using hxy
          rw [hxy', sel_false] at hp
          obtain ⟨p, h3, h4⟩ := orec hp
          cases h4
          rcases ih h3 (i + 1) with ⟨h5, h7⟩ | ⟨j, q, h5, h6, h8⟩
          · exact .inl ⟨by simp [Instr.findNow, Instr.sameNow, hxy', h5], .cons _ _ _ _ _ _ _ (.int _ _) h2 h7⟩
          · refine .inr ⟨j + 1, q, ?_, by simpa using h6, .cons _ _ _ _ _ _ _ (.int _ _) h2 h8⟩
            simp [Instr.findNow, Instr.sameNow, hxy', h5]
            omega
      · cases hp
    | _ => cases hp

theorem run_del (hs : HSat E h nx w) {t u ty kt et : TypeId} {kk : IntKind} (hu : P.underlying t = some (.map kt et)) (hk : P.underlying kt = some (.int kk)) {m a : AVal} {xm x : Value} (hm : Rel E m xm) (ha : Rel E a x) {k : HK}
    (hkk : match (generalizing := false) m, a with
      | .map r, .int i x => match hget h r with
        | some (.map es clock) => match delI cm i x es with
          | some es => hset h r (.map es clock) fun h => k (.tup []) h nx
          | none => False
        | _ => False
      | .nilm, .int _ _ => k (.tup []) h nx
      | _, _ => False) : ∃ y w' h', (Builtin.delete_ #[t, u] ty #[xm, x]).run P w = .ok y w' ∧ Rel E (.tup []) y ∧ HSat E h' nx w' ∧ Goes E h nx w E h' nx w' ∧ k (.tup []) h' nx := by
  cases hm with
  | nilm =>
    cases ha with
    | int i z =>
      have hck := run_checkKey_int (P := P) (w := w) hk true (.int i z)
      exact ⟨undef, w, h, by simp [Builtin.delete_, run_und w hu, hck, undef], rel_undef E, hs, Goes.refl _ _ _ _, hkk⟩
    | _ => exact hkk.elim
  | map n r hr =>
    cases ha with
    | int i z =>
      dsimp only at hkk
      split at hkk
      · rename_i es clock hn
        split at hkk
        · rename_i es' hp
          rw [hset_k] at hkk
          obtain ⟨mes, hb1, hrel⟩ := map_obj hs hn hr
          have hget : (getObj r.b).run P w = .ok (.map mes clock) w := run_getObj hb1 (by intros; simp)
          have hck := run_checkKey_int (P := P) (w := w) hk mes.isEmpty (.int i z)
          rcases del_rel (kk := kk) hrel hp 0 with ⟨h1, h3⟩ | ⟨j, q, h1, hj, h3⟩
          · obtain ⟨w', h4, h5, h6⟩ := map_set (P := P) (c' := clock) hs hn hr (mes' := mes) h3
            refine ⟨_, w', _, ?_, rel_undef E, h5, h6, hkk⟩
            have hf : (Instr.findKey kt (.int i z) mes.toList).run P w = .ok none w := by simp [Instr.findKey, run_und w hk, h1]
            simp [Builtin.delete_, run_und w hu, hget, hck, hf, h4, undef]
          · have hj' : j < mes.size := by simpa using hj
            have he : mes.eraseIdxIfInBounds j = mes.eraseIdx j hj' := by simp [Array.eraseIdxIfInBounds, hj']
            obtain ⟨w', h4, h5, h6⟩ := map_set (P := P) (c' := clock) hs hn hr (mes' := mes.eraseIdxIfInBounds j) (by rw [he]; simpa using h3)
            refine ⟨_, w', _, ?_, rel_undef E, h5, h6, hkk⟩
            have hf : (Instr.findKey kt (.int i z) mes.toList).run P w = .ok (some (j, q)) w := by simp [Instr.findKey, run_und w hk, h1]
            simp [Builtin.delete_, run_und w hu, hget, hck, hf, h4, undef]
        · exact hkk.elim
      · exact hkk.elim
    | _ => exact hkk.elim
  | _ => exact hkk.elim

theorem run_clr (hs : HSat E h nx w) {t ty kt et : TypeId} (hu : P.underlying t = some (.map kt et)) {m : AVal} {xm : Value} (hm : Rel E m xm) {k : HK}
    (hkk : match (generalizing := false) m with
      | .map r => match hget h r with
        | some (.map _ clock) => hset h r (.map [] clock) fun h => k (.tup []) h nx
        | _ => False
      | .nilm => k (.tup []) h nx
      | _ => False) : ∃ y w' h', (Builtin.clear_ #[t] ty #[xm]).run P w = .ok y w' ∧ Rel E (.tup []) y ∧ HSat E h' nx w' ∧ Goes E h nx w E h' nx w' ∧ k (.tup []) h' nx := by
  cases hm with
  | nilm => exact ⟨undef, w, h, by simp [Builtin.clear_, run_und w hu, undef], rel_undef E, hs, Goes.refl _ _ _ _, hkk⟩
  | map n r hr =>
    dsimp only at hkk
    split at hkk
    · rename_i es clock hn
      rw [hset_k] at hkk
      obtain ⟨mes, hb1, hrel⟩ := map_obj hs hn hr
      have hget : (getObj r.b).run P w = .ok (.map mes clock) w := run_getObj hb1 (by intros; simp)
      obtain ⟨w', h4, h5, h6⟩ := map_set (P := P) (es' := []) (c' := clock) hs hn hr (mes' := #[]) .nil
      refine ⟨_, w', _, ?_, rel_undef E, h5, h6, hkk⟩
      simp [Builtin.clear_, run_und w hu, hget, h4, undef]
    · exact hkk.elim
  | _ => exact hkk.elim
end
end Go.Am
