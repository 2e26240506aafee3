/-
  The abstract machine, part 17: iterators over maps. No conditions.
-/
import Derived.Test.YtgmhcbmkdimoiaaGreatDoorAm16
namespace Go.Am
section
variable {P : Program} {E : Env} {T : Tm} {h : Hp} {nx : Nat} {w : World} {cm : Bool} {ρ : Operand → Value}

/-- A new block, under the next name. -/
theorem alloc_next (hs : HSat E h nx w) {o : AObj} {x : Obj} {d k s : Nat} (ho : ObjRel (E.put nx ⟨w.heap.size, d, k, s, []⟩) { w with heap := w.heap.push x } o ⟨w.heap.size, d, k, s, []⟩) :
    HSat (E.put nx ⟨w.heap.size, d, k, s, []⟩) (Tr.set o h (Nat.succ nx)) (nx + 1) { w with heap := w.heap.push x } ∧
    Goes E h nx w (E.put nx ⟨w.heap.size, d, k, s, []⟩) (Tr.set o h (Nat.succ nx)) (nx + 1) { w with heap := w.heap.push x } :=
  ⟨hs.alloc (hs.fresh nx (Nat.le_refl _)) (Nat.lt_succ_self _) (Nat.le_succ _) ho, Goes.alloc (hs.fresh nx (Nat.le_refl _)) (Nat.le_refl _) (Nat.le_succ _)⟩

theorem push_new (w : World) (x : Obj) : ({ w with heap := w.heap.push x } : World).heap[w.heap.size]? = some x := by
  show (w.heap.push x)[w.heap.size]? = _
  simp

theorem run_rng (hs : HSat E h nx w) {t kt et : TypeId} (hu : P.underlying t = some (.map kt et)) {a : AVal} {x : Value} (ha : Rel E a x) {k : HK}
    (hk : match (generalizing := false) a with
      | .nilm => hset h nx (.iter none 0 [] 0) fun h => fN (Nat.add nx 1) fun nx' => k (.ptr nx 0) h nx'
      | .map m => match hget h m with
        | some (.map _ clock) => hset h nx (.iter (some m) clock [] clock) fun h => fN (Nat.add nx 1) fun nx' => k (.ptr nx 0) h nx'
        | _ => False
      | _ => False) :
    ∃ y w' E' h', (Instr.range t x).run P w = .ok y w' ∧ Rel E' (.ptr nx 0) y ∧ HSat E' h' (nx + 1) w' ∧ Goes E h nx w E' h' (nx + 1) w' ∧ k (.ptr nx 0) h' (nx + 1) := by
  cases ha with
  | nilm =>
    dsimp only at hk
    rw [hset_k, fN_eq] at hk
    obtain ⟨h1, h2⟩ := alloc_next (x := .mapIter none 0 #[] 0) (o := .iter none 0 [] 0) (d := 0) (k := 0) (s := 0) hs ⟨rfl, none, #[], push_new _ _, rfl, rfl⟩
    exact ⟨_, _, _, _, by simp [Instr.range, run_und w hu], .ptr nx 0 _ (Env.put_same _ _ _), h1, h2, hk⟩
  | map m r hr =>
    dsimp only at hk
    split at hk
    · rename_i es clock hn
      rw [hset_k, fN_eq] at hk
      obtain ⟨mes, hb, _⟩ := map_obj hs hn hr
      have hget : (getObj r.b).run P w = .ok (.map mes clock) w := run_getObj hb (by intros; simp)
      have hnx : E nx = none := hs.fresh nx (Nat.le_refl _)
      obtain ⟨h1, h2⟩ := alloc_next (x := .mapIter (some r.b) clock #[] clock) (o := .iter (some m) clock [] clock) (d := 0) (k := 0) (s := 0) hs
        ⟨rfl, some r.b, #[], push_new _ _, rfl, r, Env.ext_put E nx _ hnx _ _ hr, rfl⟩
      exact ⟨_, _, _, _, by simp [Instr.range, run_und w hu, hget], .ptr nx 0 _ (Env.put_same _ _ _), h1, h2, hk⟩
    · exact hk.elim
  | _ => exact hk.elim

theorem seen_eq (b : Nat) (seen : List Nat) : (List.rec (motive := fun _ => Bool) false (fun c _ ih => sel (Nat.beq c b) true ih) seen : Bool) = decide (b ∈ seen) := by
  induction seen with
  | nil => simp
  | cons c l ih =>
    show sel (Nat.beq c b) true _ = _
    rw [ih, sel_beq]
    by_cases h : c = b
    · simp [h]
    · rw [if_neg h]
      have : b ≠ c := Ne.symm h
      simp [this]

theorem RelE.filter {es : List (AVal × AVal × Nat)} {mes : List MapEntry} (hr : RelE E es mes) {p : AVal × AVal × Nat → Bool} {q : MapEntry → Bool} (hpq : ∀ a b n u v, p (a, b, n) = q ⟨u, v, n⟩) : RelE E (es.filter p) (mes.filter q) := by
  induction hr with
  | nil => exact .nil
  | cons a b n u v l m h1 h2 _ ih =>
    have := hpq a b n u v
    by_cases hq : q ⟨u, v, n⟩ = true
    · rw [List.filter_cons_of_pos (by rw [this]; exact hq), List.filter_cons_of_pos hq]
      exact .cons _ _ _ _ _ _ _ h1 h2 ih
    · rw [List.filter_cons_of_neg (by rw [this]; exact hq), List.filter_cons_of_neg hq]
      exact ih

theorem RelE.get {es : List (AVal × AVal × Nat)} {mes : List MapEntry} (hr : RelE E es mes) : ∀ (i : Nat) (e : MapEntry), mes[i]? = some e → ∃ a b, es[i]? = some (a, b, e.born) ∧ Rel E a e.key ∧ Rel E b e.val := by
  induction hr with
  | nil => intro i e h; simp at h
  | cons a b n u v l m h1 h2 _ ih =>
    intro i e h
    cases i with
    | zero => simp at h; subst h; exact ⟨a, b, by simp, h1, h2⟩
    | succ i => simpa using ih i e (by simpa using h)

theorem RelE.all_born {es : List (AVal × AVal × Nat)} {mes : List MapEntry} (hr : RelE E es mes) {since : Nat}
    (h : (List.rec (motive := fun _ => Bool) true (fun e _ ih => sel (Nat.ble (Nat.succ e.2.2) since) ih false) es : Bool) = true) : ∀ e ∈ mes, e.born < since := by
  induction hr with
  | nil => simp
  | cons a b n u v l m h1 h2 _ ih =>
    have h : sel (Nat.ble (Nat.succ n) since) (List.rec (motive := fun _ => Bool) true (fun e _ ih => sel (Nat.ble (Nat.succ e.2.2) since) ih false) l : Bool) false = true := h
    rw [sel_ble] at h
    split at h
    · rename_i hlt
      intro e he
      rcases List.mem_cons.1 he with rfl | he
      · exact hlt
      · exact ih h e he
    · cases h

theorem conj_all {α : Type} (F : α → Prop) : ∀ (l : List α) (e : α),
    (List.rec (motive := fun _ => α → Prop) (fun e => F e) (fun e' _ ih e => F e ∧ ih e') l e : Prop) → ∀ x ∈ e :: l, F x
  | [], e, h, x, hx => by
    rcases List.mem_cons.1 hx with rfl | hx
    · exact h
    · cases hx
  | e' :: l, e, h, x, hx => by
    have h : F e ∧ (List.rec (motive := fun _ => α → Prop) (fun e => F e) (fun e' _ ih e => F e ∧ ih e') l e' : Prop) := h
    rcases List.mem_cons.1 hx with rfl | hx
    · exact h.1
    · exact conj_all F l e' h.2 x hx

theorem run_nxt (hs : HSat E h nx w) {ty : TypeId} {a : AVal} {x : Value} (ha : Rel E a x) {k : HK}
    (hk : match (generalizing := false) a with
      | .ptr r 0 => match hget h r with
        | some (.iter none _ _ _) => k (.tup [.bool false]) h nx
        | some (.iter (some m) since seen stepped) => sel (Nat.ble since stepped) (match hget h m with
          | some (.map es clock) => nextK h nx r m since seen k es clock
          | _ => False) False
        | _ => False
      | _ => False) :
    ∃ y w' v h', (Instr.next x false ty).run P w = .ok y w' ∧ Rel E v y ∧ HSat E h' nx w' ∧ Goes E h nx w E h' nx w' ∧ k v h' nx := by
  cases ha with
  | ptr n off r hr =>
    cases off with
    | succ o => exact hk.elim
    | zero =>
      have hover : Rel E (.tup [.bool false]) (.tuple #[.bool false]) := .tup _ _ (.cons _ _ _ _ (.bool _) .nil)
      replace hk : (match hget h n with
        | some (.iter none _ _ _) => k (.tup [.bool false]) h nx
        | some (.iter (some m) since seen stepped) => sel (Nat.ble since stepped) (match hget h m with
          | some (.map es clock) => nextK h nx n m since seen k es clock
          | _ => False) False
        | _ => False) := hk
      split at hk
      · rename_i s1 s2 s3 hn
        obtain ⟨hd, mo, sn, h1, h2, h3⟩ := hs.obj n _ _ hn hr
        cases h3
        have hget : (getObj r.b).run P w = .ok (.mapIter none s1 sn s3) w := run_getObj h1 (by intros; simp)
        refine ⟨_, w, _, h, ?_, hover, hs, Goes.refl _ _ _ _, hk⟩
        rw [hd]
        simp [Instr.next, hget]
      · rename_i m since seen stepped hn
        rw [sel_ble] at hk
        split at hk
        · rename_i hss
          split at hk
          · rename_i es clock hm
            obtain ⟨hd, mo, sn, h1, h2, r', hr', rfl⟩ := hs.obj n _ _ hn hr
            obtain ⟨mes, h4, h5⟩ := map_obj hs hm hr'
            have hget : (getObj r.b).run P w = .ok (.mapIter (some r'.b) since sn stepped) w := run_getObj h1 (by intros; simp)
            have hget' : (getObj r'.b).run P w = .ok (.map mes clock) w := run_getObj h4 (by intros; simp)
            unfold nextK at hk
            have hall : (List.rec (motive := fun _ => Bool) true (fun e _ ih => sel (Nat.ble (Nat.succ e.2.2) since) ih false) es : Bool) = true := by
              cases hx : (List.rec (motive := fun _ => Bool) true (fun e _ ih => sel (Nat.ble (Nat.succ e.2.2) since) ih false) es : Bool) with
              | true => rfl
              | false => dsimp only at hk; rw [hx] at hk; exact hk.elim
            dsimp only at hk
            rw [hall, sel_true] at hk
            have hborn := h5.all_born hall
            -- what is left
            have hleft : RelE E (es.filter fun e => notB (List.rec (motive := fun _ => Bool) false (fun b _ ih => sel (Nat.beq b e.2.2) true ih) seen)) (mes.filter fun e => !sn.contains e.born).toList := by
              rw [Array.toList_filter]
              refine h5.filter fun a b n u v => ?_
              rw [notB_eq, seen_eq]
              congr 1
              rw [Bool.eq_iff_iff]
              simp [← Array.mem_toList_iff, h2]
            generalize hL : (mes.filter fun e => !sn.contains e.born) = left at hleft
            have hlb : ∀ e ∈ left, e.born < since := by
              intro e he
              rw [← hL] at he
              exact hborn e (by simp at he; simpa using he.1)
            have hold : left.filter (fun e => decide (e.born < since)) = left := by
              rw [Array.filter_eq_self]
              intro e he
              simpa using hlb e he
            have hnew : left.filter (fun e => decide (e.born ≥ since)) = #[] := by
              rw [Array.filter_eq_empty_iff]
              intro e he
              have := hlb e he
              simp; omega
            have hcheck : (!sn.isEmpty && !mes.isEmpty && mes.all fun e => decide (e.born ≥ stepped)) = false := by
              rw [Bool.and_eq_false_iff]
              by_cases hmt : mes.isEmpty = true
              · left; simp [hmt]
              · right
                rw [← Bool.not_eq_true, Array.all_eq_true]
                intro hx
                have h0 : 0 < mes.size := by
                  rcases Nat.eq_zero_or_pos mes.size with h0 | h0
                  · exact absurd (by simpa using h0) hmt
                  · exact h0
                have h6 := hx 0 h0
                have h7 := hborn mes[0] (by simp)
                simp at h6
                omega
            have hnext : ∀ (res : Result Value), ((choose (.mapNext ((if left.isEmpty then #[none] else #[]) ++ left.map some).size)).run P w).andThen (fun i w => (match ((if left.isEmpty then #[none] else #[]) ++ left.map some)[i]? with
                | some (some e) => (do setObj r.b (.mapIter (some r'.b) since (sn.push e.born) clock); pure (.tuple #[.bool true, e.key, e.val]) : Sem Value)
                | some none => pure (.tuple #[.bool false])
                | none => stuck "Next: no such candidate").run P w) = res → (Instr.next (.pointer (some ⟨r.b, r.d + 0, none⟩)) false ty).run P w = res := by
              rintro res rfl
              rw [hd]
              simp only [Instr.next, Sem.run_bind, hget, hget', Result.andThen_ok, hcheck, Bool.false_eq_true, if_false, hL, hold, hnew, Array.append_empty, Nat.add_zero]
              congr 1
            generalize hF : (es.filter fun e => notB (List.rec (motive := fun _ => Bool) false (fun b _ ih => sel (Nat.beq b e.2.2) true ih) seen)) = F at hk hleft
            cases F with
            | nil =>
              have hl0 : left = #[] := by
                have := hleft.length
                simpa using this.symm
              subst hl0
              refine ⟨_, w, _, h, hnext _ rfl |>.trans ?_, hover, hs, Goes.refl _ _ _ _, hk⟩
              simp [Question.forced]
            | cons e0 F =>
              have hall2 := conj_all (fun e : AVal × AVal × Nat => hset h n (.iter (some m) since (e.2.2 :: seen) clock) fun h => k (.tup [.bool true, e.1, e.2.1]) h nx) F e0 hk
              have hl0 : 0 < left.size := by
                have := hleft.length
                simp at this
                omega
              have hne : left.isEmpty = false := by
                rw [← Bool.not_eq_true, Array.isEmpty_iff_size_eq_zero]
                omega
              have hq : ∃ i w1, (choose (.mapNext left.size)).run P w = .ok i w1 ∧ i < left.size ∧ (w1 = w ∨ w1 = { w with drawn := w.drawn + 1 }) := by
                rw [run_choose]
                by_cases h1' : left.size ≤ 1
                · exact ⟨0, w, by simp [Question.forced, h1'], hl0, .inl rfl⟩
                · exact ⟨(Question.mapNext left.size).cut (w.tape w.drawn (.mapNext left.size)), { w with drawn := w.drawn + 1 }, by simp [Question.forced, h1'], Nat.mod_lt _ hl0, .inr rfl⟩
              obtain ⟨i, w1, hc, hi, hw1⟩ := hq
              obtain ⟨av, bv, hF2, ra, rb⟩ := hleft.get i left[i] (by simp [hi])
              have hkk := hall2 (av, bv, left[i].born) (List.mem_of_getElem? hF2)
              rw [hset_k] at hkk
              have hw1h : w1.heap = w.heap := by rcases hw1 with rfl | rfl <;> rfl
              have hgw : HSat E h nx w1 ∧ Goes E h nx w E h nx w1 := by
                rcases hw1 with rfl | rfl
                · exact ⟨hs, Goes.refl _ _ _ _⟩
                · exact ⟨hs.drawn _, Goes.drawn _ _ _ _ _⟩
              have h1w : w1.heap[r.b]? = some (.mapIter (some r'.b) since sn stepped) := by rw [hw1h]; exact h1
              have ho := set_only w1 r.b (.mapIter (some r'.b) since (sn.push left[i].born) clock)
              have hset' := run_setObj (P := P) (o' := .mapIter (some r'.b) since (sn.push left[i].born) clock) h1w (by intros; simp)
              refine ⟨.tuple #[.bool true, left[i].key, left[i].val], _, _, _, hnext _ rfl |>.trans ?_, ?_, hgw.1.update hn rfl hr ho.other (o' := .iter (some m) since (left[i].born :: seen) clock) ⟨hd, some r'.b, sn.push left[i].born, set_heap w1 r.b _ h1w, by simp [h2], r', hr', rfl⟩,
                hgw.2.next (Goes.update hn rfl hr ho.other ho.size ho.os ho.tape ho.output), hkk⟩
              · simp [hne, hc, hi, hset']
              · exact .tup _ _ (.cons _ _ _ _ (.bool _) (.cons _ _ _ _ ra (.cons _ _ _ _ rb .nil)))
          · exact hk.elim
        · exact hk.elim
      · exact hk.elim
  | _ => exact hk.elim
end
end Go.Am
