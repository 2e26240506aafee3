/-
  The abstract machine, part 8: the operations that only read, the third lot. No conditions.
-/
import Derived.Test.YtgmhcbmkdimoiaaGreatDoorAm7
namespace Go.Am
section
variable {P : Program} {E : Env} {T : Tm} {h : Hp} {nx : Nat} {w : World} {cm : Bool}

/-- Operands that may lack. -/
abbrev OptRel (E : Env) (a : Option AVal) (v : Option Value) : Prop := match a, v with | some a, some v => Rel E a v | none, none => True | _, _ => False

theorem bnds_some {len cap : Nat} {l hh m : Option AVal} {k : Nat → Nat → Nat → Option AVal} {v : AVal} (h : bnds len cap l hh m k = some v) :
    ∃ a b c, bndO m cap cap = some c ∧ bndO hh len c = some b ∧ bndO l 0 b = some a ∧ k a b c = some v := by
  unfold bnds at h
  cases e1 : bndO m cap cap with
  | none => rw [e1] at h; cases h
  | some c =>
    rw [e1] at h
    dsimp only at h
    cases e2 : bndO hh len c with
    | none => rw [e2] at h; cases h
    | some b =>
      rw [e2] at h
      dsimp only at h
      cases e3 : bndO l 0 b with
      | none => rw [e3] at h; cases h
      | some a => rw [e3] at h; exact ⟨a, b, c, rfl, e2, e3, h⟩

theorem run_slS {t : TypeId} (ht : P.underlying t = some .string) {a : AVal} {x : Value} (ha : Rel E a x) {lo hi : Option Value} {alo ahi : Option AVal} (rl : OptRel E alo lo) (rh : OptRel E ahi hi) {v : AVal}
    (hv : vSlS a alo ahi = some v) : ∃ z, (Instr.sliceAt t x lo hi none).run P w = .ok z w ∧ Rel E v z := by
  cases ha with
  | str s hs =>
    unfold vSlS at hv
    dsimp only at hv
    obtain ⟨l, hh, m, e0, e1, e2, hv⟩ := bnds_some hv
    rw [lenk_eq] at e0 e1
    cases e0
    rw [dropk_eq] at hv
    split at hv
    · rw [takek_eq] at hv
      split at hv
      · cases hv
        have hb := run_bounds (P := P) (w := w) (E := E) (isS := false) (len := s.length) (cap := s.length) (lo := lo) (hi := hi) (mx := none) (amx := none) rl rh trivial rfl e1 e2 (by simp)
        refine ⟨.string ((bytesOf s).extract l hh), ?_, ?_⟩
        · simp only [Instr.sliceAt, Sem.run_bind, run_und w ht, Result.andThen, Instr.slice]
          simp [bytesOf_size, hb]
        · rw [bytesOf_extract]
          exact .str _ (fun b hb => hs b (List.mem_of_mem_drop (List.mem_of_mem_take hb)))
      · cases hv
    · cases hv
  | _ => cases hv

theorem addr_add (b o n : Nat) : (⟨b, o, none⟩ : Addr).add n = ⟨b, o + n, none⟩ := Addr.add_lit b o n

/-- What a slice of a slice comes to in the run. -/
theorem run_slice_slice {t e : TypeId} {s : Nat} (ht : P.underlying t = some (.slice e)) (hsz : sizeOf? P e = some s) (a : Option Addr) (len cap : Nat) {lo hi mx : Option Value} {l hh m : Nat}
    (hb : (Instr.sliceBounds true len cap lo hi mx).run P w = .ok (l, hh, m) w) :
    (Instr.sliceAt t (.slice a len cap) lo hi mx).run P w = .ok (.slice (if m = l then a else a.map (·.add (l * s))) (hh - l) (m - l)) w := by
  simp only [Instr.sliceAt, Sem.run_bind, run_und w ht, Result.andThen, Instr.slice]
  simp only [hb, run_size w hsz, Sem.run_pure]

theorem slcAt_rel {n off s l hh mm : Nat} {r : Reg} (hr : E n = some r) :
    Rel E (slcAt n off s l hh mm) (.slice (if mm = l then some ⟨r.b, r.d + off, none⟩ else (some (⟨r.b, r.d + off, none⟩ : Addr)).map (·.add (l * s))) (hh - l) (mm - l)) := by
  unfold slcAt
  rw [sel_beq]
  by_cases e : mm = l
  · rw [if_pos e, if_pos e]; exact .slcS _ _ _ _ r hr
  · rw [if_neg e, if_neg e]
    simp only [Option.map_some, addr_add]
    rw [Nat.add_assoc]
    exact .slcS _ _ _ _ r hr

theorem bndO_grow {a : Option AVal} {v : Option Value} {d top top' n : Nat} (hr : OptRel E a v) (ht : top ≤ top') (h : bndO a d top = some n) : bndO a d top' = some n := by
  cases a with
  | none => exact h
  | some a =>
    cases v with
    | none => exact hr.elim
    | some v =>
      obtain ⟨h8, k, h9⟩ := bnd_rel (E := E) hr h
      subst h9
      cases hr with
      | tok => cases h
      | int =>
        show bnd (.int k (Int.ofNat n)) top' = some n
        simp only [bnd, sel_ble]
        rw [if_pos (Nat.le_trans h8 ht)]

theorem modeS_true {s : Nat} {md : RMode} (h : modeS s md = true) : md = .grow s ∨ md = .ro s := by
  cases md with
  | exact => cases h
  | grow s' => rw [modeS, beq_eq] at h; simp at h; subst h; exact .inl rfl
  | ro s' => rw [modeS, beq_eq] at h; simp at h; subst h; exact .inr rfl

theorem sel_some {b : Bool} {z : Option AVal} {v : AVal} (h : sel b z none = some v) : b = true ∧ z = some v := by
  cases b with
  | true => exact ⟨rfl, h⟩
  | false => cases h

theorem run_slL (hs : HSat E h nx w) {t e : TypeId} {s : Nat} (ht : P.underlying t = some (.slice e)) (hsz : sizeOf? P e = some s) (hs0 : s ≠ 0) {a : AVal} {x : Value} (ha : Rel E a x)
    {lo hi mx : Option Value} {alo ahi amx : Option AVal} (rl : OptRel E alo lo) (rh : OptRel E ahi hi) (rm : OptRel E amx mx) (hmh : amx.isSome = true → ahi.isSome = true) {v : AVal}
    (hv : vSlL h s a alo ahi amx = some v) : ∃ z, (Instr.sliceAt t x lo hi mx).run P w = .ok z w ∧ Rel E v z := by
  cases ha with
  | nils =>
    obtain ⟨l, hh, m, e1, e2, e3, hv⟩ := bnds_some hv
    cases hv
    have hm0 : m = 0 := by have := bndO_le rm (Nat.le_refl 0) e1; omega
    subst hm0
    have hh0 : hh = 0 := by have := bndO_le rh (Nat.le_refl 0) e2; omega
    subst hh0
    have hl0 : l = 0 := by have := bndO_le rl (Nat.le_refl 0) e3; omega
    subst hl0
    have hb := run_bounds (P := P) (w := w) (isS := true) (len := 0) (cap := 0) rl rh rm e1 e2 e3 hmh
    exact ⟨_, run_slice_slice ht hsz none 0 0 hb, .nils⟩
  | slcS n off len c r hr =>
    obtain ⟨l, hh, m, e1, e2, e3, hv⟩ := bnds_some hv
    cases hv
    exact ⟨_, run_slice_slice ht hsz _ len c (run_bounds (P := P) (w := w) (isS := true) rl rh rm e1 e2 e3 hmh), slcAt_rel hr⟩
  | slcN n off len c r hr hc hlc =>
    unfold vSlL at hv
    dsimp only at hv
    split at hv
    · rename_i cs t' md hget'
      obtain ⟨hmd, hv⟩ := sel_some hv
      obtain ⟨cells, fr, h1, h2, h3, h4, h4', h5, h6, h7⟩ := hs.obj n _ _ hget' hr
      have hrs : r.s = s := h4' s (modeS_true hmd)
      have htop : Nat.div (Nat.sub (lenk cs) off) s ≤ c := by
        rw [lenk_eq]
        show (cs.length - off) / s ≤ c
        rw [hrs] at hc
        have h8 : cs.length - off ≤ c * s := by omega
        have h9 := Nat.div_le_div_right (c := s) h8
        rwa [Nat.mul_div_cancel _ (Nat.pos_of_ne_zero hs0)] at h9
      cases amx with
      | some m =>
        cases mx with
        | none => exact rm.elim
        | some mv =>
          obtain ⟨l, hh, mm, e1, e2, e3, hv⟩ := bnds_some hv
          cases hv
          have e1' := bndO_grow (E := E) (d := c) (v := some mv) rm htop (show bndO (some m) c (Nat.div (Nat.sub (lenk cs) off) s) = some mm from e1)
          exact ⟨_, run_slice_slice ht hsz _ len c (run_bounds (P := P) (w := w) (isS := true) (mx := some mv) rl rh rm e1' e2 e3 hmh), slcAt_rel hr⟩
      | none =>
        cases mx with
        | some mv => exact rm.elim
        | none =>
          obtain ⟨l, hh, mm, e1, e2, e3, hv⟩ := bnds_some hv
          cases e1
          have e2' := bndO_grow (E := E) (v := hi) rh htop e2
          have hb := run_bounds (P := P) (w := w) (isS := true) (cap := c) (mx := none) (amx := none) rl rh trivial rfl e2' e3 (by simp)
          have hle : l ≤ hh := bndO_le rl (Nat.zero_le _) e3
          have hhc : hh ≤ c := bndO_le rh hlc e2'
          refine ⟨_, run_slice_slice ht hsz _ len c hb, ?_⟩
          rw [sel_beq, sel_beq] at hv
          by_cases l0 : l = 0
          · rw [if_pos l0] at hv
            cases hv
            subst l0
            have h8 : (if c = 0 then some (⟨r.b, r.d + off, none⟩ : Addr) else (some (⟨r.b, r.d + off, none⟩ : Addr)).map (·.add (0 * s))) = some ⟨r.b, r.d + off, none⟩ := by
              split
              · rfl
              · simp [addr_add]
            rw [h8]
            exact .slcN n off hh c r hr hc hhc
          · rw [if_neg l0] at hv
            by_cases lh : l = hh
            · rw [if_pos lh] at hv
              cases hv
              subst lh
              rw [Nat.sub_self]
              split
              · exact .emp n r _ _ hr rfl rfl
              · simp only [Option.map_some, addr_add]; exact .emp n r _ _ hr rfl rfl
            · rw [if_neg lh] at hv
              cases hv
              rw [if_neg (by omega)]
              simp only [Option.map_some, addr_add]
              rw [Nat.add_assoc]
              refine .slcN n _ _ _ r hr ?_ (by show hh - l ≤ c - l; omega)
              show off + l * s + (c - l) * r.s = r.k
              rw [hrs] at hc ⊢
              have h10 : l * s + (c - l) * s = c * s := by rw [← Nat.add_mul]; congr 1; omega
              omega
    · cases hv
  | emp n r a c hr h1 h2 =>
    obtain ⟨l, hh, m, e1, e2, e3, hv⟩ := bnds_some hv
    cases hv
    have hh0 : hh = 0 := by have := bndO_le rm (Nat.le_refl 0) e1; have := bndO_le rh (Nat.zero_le _) e2; omega
    subst hh0
    have hl0 : l = 0 := by have := bndO_le rl (Nat.le_refl 0) e3; omega
    subst hl0
    cases amx with
    | none =>
      cases mx with
      | some mv => exact rm.elim
      | none =>
        cases e1
        have e2' := bndO_grow (E := E) (v := hi) rh (Nat.zero_le c) e2
        have hb := run_bounds (P := P) (w := w) (isS := true) (len := 0) (cap := c) (mx := none) (amx := none) rl rh trivial rfl e2' e3 (by simp)
        refine ⟨_, run_slice_slice ht hsz _ 0 c hb, ?_⟩
        have : (if c = 0 then some a else (some a).map (·.add (0 * s))) = some a := by split <;> simp [Addr.add]
        rw [this]
        exact .emp n r a _ hr h1 h2
    | some am =>
      cases mx with
      | none => exact rm.elim
      | some mv =>
        have hm0 : m = 0 := by have := bndO_le (E := E) (v := some mv) rm (Nat.le_refl 0) e1; omega
        subst hm0
        have e1' := bndO_grow (E := E) (d := c) (v := some mv) rm (Nat.zero_le c) (show bndO (some am) c 0 = some 0 from e1)
        have hb := run_bounds (P := P) (w := w) (isS := true) (len := 0) (cap := c) (mx := some mv) rl rh rm e1' e2 e3 hmh
        refine ⟨_, run_slice_slice ht hsz _ 0 c hb, ?_⟩
        rw [if_pos rfl]
        exact .empN n r a hr h1 h2
  | empN n r a hr h1 h2 =>
    obtain ⟨l, hh, m, e1, e2, e3, hv⟩ := bnds_some hv
    cases hv
    have hm0 : m = 0 := by have := bndO_le rm (Nat.le_refl 0) e1; omega
    subst hm0
    have hh0 : hh = 0 := by have := bndO_le rh (Nat.le_refl 0) e2; omega
    subst hh0
    have hl0 : l = 0 := by have := bndO_le rl (Nat.le_refl 0) e3; omega
    subst hl0
    have hb := run_bounds (P := P) (w := w) (isS := true) (len := 0) (cap := 0) rl rh rm e1 e2 e3 hmh
    refine ⟨_, run_slice_slice ht hsz (some a) 0 0 hb, ?_⟩
    rw [if_pos rfl]
    cases amx <;> exact .empN n r a hr h1 h2
  | _ => cases hv

theorem run_slA {t e : TypeId} {n s : Nat} (ht : P.underlying t = some (.array n e)) (hsz : sizeOf? P e = some s) {a : AVal} {x : Value} (ha : Rel E a x)
    {lo hi mx : Option Value} {alo ahi amx : Option AVal} (rl : OptRel E alo lo) (rh : OptRel E ahi hi) (rm : OptRel E amx mx) (hmh : amx.isSome = true → ahi.isSome = true) {v : AVal}
    (hv : vSlA n s a alo ahi amx = some v) : ∃ z, (Instr.sliceAt t x lo hi mx).run P w = .ok z w ∧ Rel E v z := by
  cases ha with
  | ptr m off r hr =>
    obtain ⟨l, hh, mm, e1, e2, e3, hv⟩ := bnds_some hv
    cases hv
    have hb := run_bounds (P := P) (w := w) (isS := false) rl rh rm e1 e2 e3 hmh
    refine ⟨_, by simp only [Instr.sliceAt, Sem.run_bind, run_und w ht, Result.andThen, Instr.sureAddr, Sem.run_pure, hb, run_size w hsz]; rfl, ?_⟩
    have := slcAt_rel (E := E) (n := m) (off := off) (s := s) (l := l) (hh := hh) (mm := mm) hr
    have e : (if mm = l then some (⟨r.b, r.d + off, none⟩ : Addr) else (some (⟨r.b, r.d + off, none⟩ : Addr)).map (·.add (l * s))) = some (if mm = l then (⟨r.b, r.d + off, none⟩ : Addr) else (⟨r.b, r.d + off, none⟩ : Addr).add (l * s)) := by
      split <;> rfl
    rwa [e] at this
  | _ => cases hv
end
end Go.Am
