/-
  The abstract machine, part 13: whatever reading operation was compiled tells what the run tells. No conditions.
-/
import Derived.Test.YtgmhcbmkdimoiaaGreatDoorAm12b
namespace Go.Am
section
variable {P : Program} {E : Env} {T : Tm} {h : Hp} {nx : Nat} {w : World} {cm : Bool} {ρ : Operand → Value}

theorem run_value {s : Sem Value} {x : Value} (h : s.run P w = .ok x w) : (do pure (Next.value (← s)) : Sem Next).run P w = .ok (.value x) w := by simp [h]

theorem bind_some {α β : Type} {x : Option α} {f : α → Option β} {b : β} (h : (x >>= f) = some b) : ∃ a, x = some a ∧ f a = some b := by
  cases x with
  | none => cases h
  | some a => exact ⟨a, rfl, h⟩
theorem map_some' {α β : Type} {x : Option α} {f : α → β} {b : β} (h : x.map f = some b) : ∃ a, x = some a ∧ b = f a := by
  cases x with
  | none => cases h
  | some a => cases h; exact ⟨a, rfl, rfl⟩

/-- Parts of a literal, compiled. -/
theorem parts_rel (hρ : OpdRel E T ρ) {place : Nat → Option (Nat × Nat)} {f : Nat × Operand → Option (Nat × Nat × Opd)}
    (hf : ∀ p q, f p = some q → place p.1 = some (q.1, q.2.1) ∧ cOpd p.2 = some q.2.2) :
    ∀ {l : List (Nat × Operand)} {m : List (Nat × Nat × Opd)}, l.mapM f = some m → PartsRel E place (m.map fun p => (p.1, p.2.1, ev T p.2.2)) (l.map fun p => (p.1, ρ p.2))
  | [], m, h => by cases h; exact .nil
  | p :: l, m, h => by
    obtain ⟨q, s, h1, h2, rfl⟩ := mapM_cons_some h
    obtain ⟨h3, h4⟩ := hf p q h1
    exact .cons _ _ _ _ _ _ _ h3 (hρ _ _ h4) (parts_rel hρ hf h2)

theorem zeroCells_some {t : TypeId} {z : List AVal} (h : zeroCells? P t = some z) : ∃ zv, zero? P t = some zv ∧ z = zv.cells ∧ sizeOf? P t = some z.length := by
  unfold zeroCells? at h
  split at h
  · rename_i zv s h1 h2
    split at h
    · rename_i h3
      cases h
      exact ⟨zv, h1, rfl, by rw [h2, h3]⟩
    · cases h
  · cases h

theorem snd_build (hρ : OpdRel E T ρ) {t : TypeId} {parts : Array (Nat × Operand)} {ao : AOp} (hc : cOp P (.build t parts) = some ao) {v : AVal} (hv : rd cm ao T h = some v) :
    ∃ x, (Instr.build t (parts.map fun (i, x) => (i, ρ x))).run P w = .ok x w ∧ Rel E v x := by
  simp only [cOp] at hc
  have hparts : (parts.map fun (i, x) => (i, ρ x)).toList = parts.toList.map fun p => (p.1, ρ p.2) := by simp
  split at hc
  · rename_i fs hu
    obtain ⟨z, h1, hc⟩ := bind_some hc
    obtain ⟨pl, h2, hc⟩ := bind_some hc
    obtain ⟨ps, h3, hc⟩ := bind_some hc
    cases hc
    obtain ⟨zv, h4, rfl, _⟩ := zeroCells_some h1
    have hp := parts_rel (place := (pl.toArray[·]?)) hρ (f := fun p => do let q ← pl[p.1]?; pure (q.1, q.2, ← cOpd p.2)) (fun p q hq => by
      obtain ⟨a, h5, hq⟩ := bind_some hq
      obtain ⟨b, h6, hq⟩ := bind_some hq
      cases hq
      exact ⟨by simpa using h5, h6⟩) h3
    refine run_bld (place := (pl.toArray[·]?)) h4 ?_ (by rw [hparts]; exact hp) hv
    intro c
    by_cases hcz : ∃ i, P.info? t = some i ∧ ∃ zz, i.zero = some zz ∧ c = zz.cells
    · obtain ⟨i, hi, zz, hz, rfl⟩ := hcz
      left
      unfold Program.built
      simp only [hi, hu, hz, h2]
    · right
      rintro zz ⟨i, hi, hz⟩ rfl
      exact hcz ⟨i, hi, zz, hz, rfl⟩
  · rename_i n e hu
    obtain ⟨z, h1, hc⟩ := bind_some hc
    obtain ⟨s, h2, hc⟩ := bind_some hc
    obtain ⟨ps, h3, hc⟩ := bind_some hc
    cases hc
    obtain ⟨zv, h4, rfl, _⟩ := zeroCells_some h1
    have hp := parts_rel (place := fun i => some (i * s, s)) hρ (f := fun p => do pure (p.1 * s, s, ← cOpd p.2)) (fun p q hq => by
      obtain ⟨b, h6, hq⟩ := bind_some hq
      cases hq
      exact ⟨rfl, h6⟩) h3
    obtain ⟨ie, h5, h6⟩ := map_some' h2
    refine run_bld (place := fun i => some (i * s, s)) h4 ?_ (by rw [hparts]; exact hp) hv
    intro c
    by_cases hcz : ∃ i, P.info? t = some i ∧ ∃ zz, i.zero = some zz ∧ c = zz.cells
    · obtain ⟨i, hi, zz, hz, rfl⟩ := hcz
      left
      unfold Program.built
      simp only [hi, hu, hz, h5]
      rw [h6]
    · right
      rintro zz ⟨i, hi, hz⟩ rfl
      exact hcz ⟨i, hi, zz, hz, rfl⟩
  · cases hc

theorem snd_binOp (hρ : OpdRel E T ρ) {op : BinOp} {xt yt : TypeId} {x y : Operand} {ao : AOp} (hc : cOp P (.binOp op xt x y yt) = some ao) {v : AVal} (hv : rd cm ao T h = some v) :
    ∃ z, (do eqGuard op xt x y (ρ x) (ρ y); binOp op xt (ρ x) (ρ y) : Sem Value).run P w = .ok z w ∧ Rel E v z := by
  simp only [cOp] at hc
  obtain ⟨a, ha, hc⟩ := bind_some hc
  obtain ⟨b, hb, hc⟩ := bind_some hc
  obtain ⟨d, hu, hc⟩ := bind_some hc
  have ra := hρ _ _ ha
  have rb := hρ _ _ hb
  split at hc
  · cases hc; exact snd_bin ra rb hv
  · cases hc; exact snd_eqb (op := .eql) (neg := false) hu rfl ra rb hv
  · cases hc; exact snd_eqb (op := .neq) (neg := true) hu rfl ra rb hv
  · cases hc; exact snd_bin ra rb hv
  · split at hc
    · rename_i hz
      cases hc; exact snd_eqn (op := .eql) (neg := false) (kind := 0) ⟨_, _, hu, hz⟩ rfl ra rb hv
    · cases hc
  · split at hc
    · rename_i hz
      cases hc; exact snd_eqn (op := .neq) (neg := true) (kind := 0) ⟨_, _, hu, hz⟩ rfl ra rb hv
    · cases hc
  · cases hc; exact snd_eqn (op := .eql) (neg := false) (kind := 1) ⟨_, hu⟩ rfl ra rb hv
  · cases hc; exact snd_eqn (op := .neq) (neg := true) (kind := 1) ⟨_, hu⟩ rfl ra rb hv
  · cases hc; exact snd_eqn (op := .eql) (neg := false) (kind := 2) ⟨_, _, hu⟩ rfl ra rb hv
  · cases hc; exact snd_eqn (op := .neq) (neg := true) (kind := 2) ⟨_, _, hu⟩ rfl ra rb hv
  · cases hc; exact snd_eqn (op := .eql) (neg := false) (kind := 3) ⟨_, _, _, hu⟩ rfl ra rb hv
  · cases hc; exact snd_eqn (op := .neq) (neg := true) (kind := 3) ⟨_, _, _, hu⟩ rfl ra rb hv
  all_goals first
    | (cases hc; done)
    | (split at hc
       · cases hc
       · rename_i hm
         obtain ⟨ks, hk, hc⟩ := bind_some hc
         cases hc
         have hag : aggSize P xt ≠ some none := by
           obtain ⟨i, hi⟩ := und_info hu
           simp [aggSize, hi, hu]
         first
           | exact snd_eqv (op := .eql) (neg := false) hk (by simpa using hm) hag rfl ra rb hv
           | exact snd_eqv (op := .neq) (neg := true) hk (by simpa using hm) hag rfl ra rb hv)

theorem snd_convert (hs : HSat E h nx w) (hρ : OpdRel E T ρ) {s d : TypeId} {x : Operand} {ao : AOp} (hc : cOp P (.convert s d x) = some ao) {v : AVal} (hv : rd cm ao T h = some v) :
    ∃ z, (convert s d (ρ x)).run P w = .ok z w ∧ Rel E v z := by
  simp only [cOp] at hc
  obtain ⟨a, ha, hc⟩ := bind_some hc
  obtain ⟨sd, hsd, hc⟩ := bind_some hc
  obtain ⟨dd, hdd, hc⟩ := bind_some hc
  have ra := hρ _ _ ha
  split at hc
  · cases hc; exact run_ci hsd hdd ra hv
  · cases hc; exact run_ids hsd hdd ra hv
  · cases hc; exact run_i2s hsd hdd ra hv
  · split at hc
    · cases hc; cases hv
    · cases hc
  · split at hc
    · rename_i he; cases hc; exact run_b2s hs hsd hdd he ra hv
    · cases hc
  · split at hc
    · rename_i n hz; cases hc; exact run_cpu hs hsd hdd hz ra hv
    · cases hc
  · split at hc
    · rename_i n hz; cases hc; exact run_cup hs hsd hdd hz ra hv
    · cases hc
  · split at hc
    · cases hc; cases hv
    · cases hc
  · cases hc

theorem opt_rel (hρ : OpdRel E T ρ) {x : Option Operand} {y : Option Opd} (hc : cOpt x = some y) : OptRel E (y.map (ev T)) (x.map ρ) := by
  cases x with
  | none => cases hc; trivial
  | some x =>
    obtain ⟨z, hz, rfl⟩ := map_some' hc
    exact hρ _ _ hz

theorem snd_slice (hs : HSat E h nx w) (hρ : OpdRel E T ρ) {t : TypeId} {x : Operand} {l hh m : Option Operand} {ao : AOp} (hc : cOp P (.slice t x l hh m) = some ao) {v : AVal} (hv : rd cm ao T h = some v) :
    ∃ z, (Instr.sliceAt t (ρ x) (l.map ρ) (hh.map ρ) (m.map ρ)).run P w = .ok z w ∧ Rel E v z := by
  simp only [cOp] at hc
  obtain ⟨a, ha, hc1⟩ := bind_some hc
  clear hc
  obtain ⟨lo, hl, hc2⟩ := bind_some hc1
  clear hc1
  obtain ⟨hi, hhi, hc3⟩ := bind_some hc2
  clear hc2
  obtain ⟨mx, hm, hc4⟩ := bind_some hc3
  clear hc3
  split at hc4
  · cases hc4
  · rename_i hmh
    have hmh' : (mx.map (ev T)).isSome = true → (hi.map (ev T)).isSome = true := by
      intro h1
      cases hi with
      | some q => simp
      | none =>
        exfalso
        apply hmh
        simpa using h1
    obtain ⟨d, hu, hc5⟩ := bind_some hc4
    clear hc4
    have ra := hρ _ _ ha
    have rl := opt_rel hρ hl
    have rh := opt_rel hρ hhi
    have rm := opt_rel hρ hm
    split at hc5
    · split at hc5
      · cases hc5
        cases m with
        | none => exact run_slS hu ra rl rh hv
        | some m => obtain ⟨q, _, hq⟩ := map_some' hm; cases hq
      · cases hc5
    · obtain ⟨s, hz, hc6⟩ := bind_some hc5
      clear hc5
      split at hc6
      · cases hc6
      · rename_i hs0; cases hc6; exact run_slL hs hu hz hs0 ra rl rh rm hmh' hv
    · obtain ⟨s, hz, hc6⟩ := bind_some hc5
      clear hc5
      split at hc6
      · cases hc6
      · cases hc6; exact run_slA hu hz ra rl rh rm hmh' hv
    · cases hc5

theorem snd_un (hρ : OpdRel E T ρ) {op : UnOp} {t : TypeId} {x : Operand} {ao : AOp} (hc : cOp P (.unOp op t x) = some ao) {v : AVal} (hv : rd cm ao T h = some v) :
    ∃ z, (Op.unary op (ρ x)).run P w = .ok z w ∧ Rel E v z := by
  simp only [cOp] at hc
  obtain ⟨a, ha, hc⟩ := bind_some hc
  cases hc
  exact run_un (hρ _ _ ha) hv

theorem rdcall (hs : HSat E h nx w) (hρ : OpdRel E T ρ) {c : Call} {ty : TypeId} {ao : AOp} (hc : cOp P (.call c) = some ao) {v : AVal} (hv : rd cm ao T h = some v) :
    ∃ x, (do let d ← resolve ρ c ty; invoke d.target d.args : Sem Next).run P w = .ok (.value x) w ∧ Rel E v x := by
  obtain ⟨callee, args, ats⟩ := c
  cases callee with
  | value f =>
    cases f with
    | func f =>
      simp only [cOp] at hc
      obtain ⟨l, _, hc⟩ := bind_some hc
      cases hc; cases hv
    | _ =>
      simp only [cOp] at hc
      obtain ⟨l, _, hc1⟩ := bind_some hc
      obtain ⟨l, _, hc⟩ := bind_some hc1
      cases hc; cases hv
  | invoke r m =>
    simp only [cOp] at hc
    obtain ⟨l, _, hc1⟩ := bind_some hc
    obtain ⟨l, _, hc⟩ := bind_some hc1
    cases hc; cases hv
  | builtin b =>
    simp only [cOp] at hc
    have hargs : ∀ l, args.toList = l → args = l.toArray := fun l e => by rw [← e]
    have hats : ∀ l, ats.toList = l → ats = l.toArray := fun l e => by rw [← e]
    split at hc
    · -- len
      rename_i x t e1 e2
      rw [hargs _ e1, hats _ e2]
      split at hc
      · rename_i hu
        obtain ⟨a, ha, rfl⟩ := map_some' hc
        obtain ⟨y, h1, h2⟩ := run_lenS (P := P) (w := w) (ty := ty) hu (hρ _ _ ha) hv
        exact ⟨y, by simp [resolve, invoke, builtin, h1], h2⟩
      · rename_i hu
        obtain ⟨a, ha, rfl⟩ := map_some' hc
        obtain ⟨y, h1, h2⟩ := run_lenL (P := P) (w := w) (ty := ty) hu (hρ _ _ ha) hv
        exact ⟨y, by simp [resolve, invoke, builtin, h1], h2⟩
      · rename_i hu
        obtain ⟨a, ha, rfl⟩ := map_some' hc
        obtain ⟨y, h1, h2⟩ := run_lenM (P := P) hs (ty := ty) hu (hρ _ _ ha) hv
        exact ⟨y, by simp [resolve, invoke, builtin, h1], h2⟩
      · rename_i n e hu
        cases hc
        cases hv
        refine ⟨.int .i64 n, ?_, .int _ _⟩
        simp [resolve, invoke, builtin, Builtin.len_, run_und w hu, goInt]
      · cases hc
    · -- cap
      rename_i x t e1 e2
      rw [hargs _ e1, hats _ e2]
      split at hc
      · rename_i hu
        obtain ⟨a, ha, rfl⟩ := map_some' hc
        obtain ⟨y, h1, h2⟩ := run_cap (P := P) (w := w) (ty := ty) hu (hρ _ _ ha) hv
        exact ⟨y, by simp [resolve, invoke, builtin, h1], h2⟩
      · cases hc
    · -- append
      obtain ⟨e, _, hc1⟩ := bind_some hc
      obtain ⟨s, _, hc2⟩ := bind_some hc1
      obtain ⟨b, _, hc3⟩ := bind_some hc2
      obtain ⟨z, _, hc4⟩ := bind_some hc3
      split at hc4
      · cases hc4
      · obtain ⟨d, _, hc5⟩ := bind_some hc4
        split at hc5
        · obtain ⟨x, _, hc6⟩ := bind_some hc5
          obtain ⟨y, _, hc7⟩ := bind_some hc6
          cases hc7; cases hv
        · obtain ⟨x, _, hc6⟩ := bind_some hc5
          obtain ⟨y, _, hc7⟩ := bind_some hc6
          cases hc7; cases hv
    · -- copy
      obtain ⟨e, _, hc1⟩ := bind_some hc
      obtain ⟨s, _, hc2⟩ := bind_some hc1
      obtain ⟨x, _, hc3⟩ := bind_some hc2
      obtain ⟨y, _, hc4⟩ := bind_some hc3
      cases hc4; cases hv
    · -- min
      obtain ⟨l, hl, rfl⟩ := map_some' hc
      have hr := hρ.arr (l := args) (m := l) (by unfold cOpds; exact hl)
      obtain ⟨y, h1, h2⟩ := run_mn (P := P) (w := w) (ts := ats) (ty := ty) hr hv
      exact ⟨y, by simp [resolve, invoke, builtin, h1], h2⟩
    · -- max
      obtain ⟨l, hl, rfl⟩ := map_some' hc
      have hr := hρ.arr (l := args) (m := l) (by unfold cOpds; exact hl)
      obtain ⟨y, h1, h2⟩ := run_mx (P := P) (w := w) (ts := ats) (ty := ty) hr hv
      exact ⟨y, by simp [resolve, invoke, builtin, h1], h2⟩
    · -- delete
      split at hc
      · split at hc
        · obtain ⟨x, _, hc1⟩ := bind_some hc
          obtain ⟨y, _, hc2⟩ := bind_some hc1
          cases hc2; cases hv
        · cases hc
      · cases hc
    · -- clear
      split at hc
      · obtain ⟨a, ha, rfl⟩ := map_some' hc
        cases hv
      · cases hc
    · -- strings and slices, seen through pointers
      unfold cUns at hc
      split at hc
      · split at hc
        · rename_i x e1
          rw [hargs _ e1]
          obtain ⟨a, ha, rfl⟩ := map_some' hc
          obtain ⟨y, h1, h2⟩ := run_usd (P := P) (w := w) (ats := ats) (ty := ty) (hρ _ _ ha) hv
          exact ⟨y, by simp [resolve, invoke, builtin, h1], h2⟩
        · cases hc
      · split at hc
        · split at hc
          · split at hc
            · obtain ⟨_, _, hc1⟩ := bind_some hc
              obtain ⟨_, _, hc2⟩ := bind_some hc1
              cases hc2; cases hv
            · cases hc
          · cases hc
        · cases hc
      · cases hc

/-- WHATEVER READING OPERATION WAS COMPILED: the run tells what it tells, and changes nothing. -/
theorem rd_sound (hs : HSat E h nx w) (hρ : OpdRel E T ρ) (o : Oper) {ao : AOp} (hc : cOp P o.op = some ao) {v : AVal} (hv : rd cm ao T h = some v) :
    ∃ x, (execOp ρ o).run P w = .ok (.value x) w ∧ Rel E v x := by
  obtain ⟨dst, op, ty, pos, after, guard⟩ := o
  dsimp only at hc
  have fin : ∀ {s : Sem Value}, (∃ x, s.run P w = .ok x w ∧ Rel E v x) → ∃ x, (do pure (Next.value (← s)) : Sem Next).run P w = .ok (.value x) w ∧ Rel E v x :=
    fun ⟨x, h1, h2⟩ => ⟨x, run_value h1, h2⟩
  cases op with
  | move x => obtain ⟨a, ha, rfl⟩ := map_some' hc; cases hv; exact ⟨_, rfl, hρ _ _ ha⟩
  | assign x => obtain ⟨a, ha, rfl⟩ := map_some' hc; cases hv
  | pick c a b =>
    simp only [cOp] at hc
    obtain ⟨c', hc', h1⟩ := bind_some hc
    obtain ⟨a', ha', h2⟩ := bind_some h1
    obtain ⟨b', hb', h3⟩ := bind_some h2
    cases h3
    exact snd_pick (hρ _ _ hc') (hρ _ _ ha') (hρ _ _ hb') hv
  | alloc e =>
    simp only [cOp] at hc
    obtain ⟨z, _, h1⟩ := bind_some hc
    cases h1; cases hv
  | box e x =>
    simp only [cOp] at hc
    obtain ⟨z, _, h1⟩ := bind_some hc
    obtain ⟨z, _, h2⟩ := bind_some h1
    cases h2; cases hv
  | build t ps => exact fin (snd_build hρ hc hv)
  | buildSlice t len ps =>
    simp only [cOp] at hc
    obtain ⟨e, _, h1⟩ := bind_some hc
    obtain ⟨s, _, h2⟩ := bind_some h1
    obtain ⟨z, _, h3⟩ := bind_some h2
    split at h3
    · cases h3
    · obtain ⟨q, _, h4⟩ := bind_some h3
      cases h4; cases hv
  | insert t m k v' =>
    simp only [cOp] at hc
    split at hc
    · split at hc
      · obtain ⟨_, _, h1⟩ := bind_some hc
        obtain ⟨_, _, h2⟩ := bind_some h1
        obtain ⟨_, _, h3⟩ := bind_some h2
        cases h3; cases hv
      · cases hc
    · cases hc
  | load t x =>
    simp only [cOp] at hc
    obtain ⟨n, hn, h1⟩ := bind_some hc
    obtain ⟨a, ha, h2⟩ := bind_some h1
    cases h2
    exact fin (snd_ld hs (hρ _ _ ha) hn hv)
  | store t a x =>
    simp only [cOp] at hc
    obtain ⟨_, _, h1⟩ := bind_some hc
    obtain ⟨_, _, h2⟩ := bind_some h1
    obtain ⟨_, _, h3⟩ := bind_some h2
    cases h3; cases hv
  | ready g => cases hc
  | waits g => cases hc
  | nilCheck x =>
    obtain ⟨a, ha, rfl⟩ := map_some' hc
    obtain ⟨h1, h2⟩ := snd_nilc (P := P) (w := w) (hρ _ _ ha) hv x rfl ty dst pos after guard
    exact ⟨_, h1, h2⟩
  | binOp op xt x y yt => exact fin (snd_binOp hρ hc hv)
  | unOp op t x => exact fin (snd_un hρ hc hv)
  | convert s d x => exact fin (snd_convert hs hρ hc hv)
  | sliceToArrayPointer arr x =>
    simp only [cOp] at hc
    split at hc
    · rename_i hu
      obtain ⟨a, ha, h1⟩ := bind_some hc
      cases h1
      exact fin (run_s2a hu (hρ _ _ ha) hv)
    · cases hc
  | makeInterface t x =>
    simp only [cOp] at hc
    split at hc
    · cases hc
    · rename_i d hni hu
      obtain ⟨a, ha, h1⟩ := bind_some hc
      cases h1
      cases hv
      refine fin ⟨.iface t (ρ x), ?_, .ifc _ _ _ (hρ _ _ ha)⟩
      unfold Instr.makeInterface
      simp only [Sem.run_bind, run_und w hu, Result.andThen]
      cases d <;> first | exact absurd hu (hni _) | rfl
    · cases hc
  | makeFunc fn a b =>
    cases fn with
    | func f =>
      simp only [cOp] at hc
      obtain ⟨l, hl, h1⟩ := bind_some hc
      obtain ⟨m, hm, h2⟩ := bind_some h1
      cases h2
      cases hv
      exact fin ⟨.func (.func f) (a.map ρ) (b.map ρ), rfl, .fn _ _ _ _ _ (hρ.arr hl) (hρ.arr hm)⟩
    | _ => cases hc
  | makeMap t r => cases r with
    | none => cases hc; cases hv
    | some r => cases hc
  | makeChan t s => cases hc
  | makeSlice t l c =>
    simp only [cOp] at hc
    obtain ⟨e, _, h1⟩ := bind_some hc
    obtain ⟨s, _, h2'⟩ := bind_some h1
    obtain ⟨b, _, h2⟩ := bind_some h2'
    split at h2
    · cases h2
    · obtain ⟨_, _, h4⟩ := bind_some h2
      obtain ⟨_, _, h5⟩ := bind_some h4
      obtain ⟨_, _, h6⟩ := bind_some h5
      cases h6; cases hv
  | slice t x l hh m => exact fin (snd_slice hs hρ hc hv)
  | fieldAddr s x f =>
    simp only [cOp] at hc
    split at hc
    · rename_i fs hu
      split at hc
      · rename_i fl hf
        split at hc
        · rename_i n hz
          obtain ⟨a, ha, h1⟩ := bind_some hc
          cases h1
          exact fin (run_fad hu hf hz (hρ _ _ ha) hv)
        · cases hc
      · cases hc
    · cases hc
  | field s x f =>
    simp only [cOp] at hc
    split at hc
    · rename_i fs hu
      obtain ⟨fl, hf, h1⟩ := bind_some hc
      obtain ⟨n, hn, h2⟩ := bind_some h1
      obtain ⟨a, ha, h3⟩ := bind_some h2
      cases h3
      exact fin (run_fld hu hf hn (hρ _ _ ha) hv)
    · cases hc
  | indexAddr t x i =>
    simp only [cOp] at hc
    split at hc
    · rename_i n e hu
      obtain ⟨s, hz, h1⟩ := bind_some hc
      obtain ⟨a, ha, h2⟩ := bind_some h1
      obtain ⟨b, hb, h3⟩ := bind_some h2
      cases h3
      exact fin (run_iaA hu hz (hρ _ _ ha) (hρ _ _ hb) hv)
    · rename_i e hu
      obtain ⟨s, hz, h1⟩ := bind_some hc
      obtain ⟨a, ha, h2⟩ := bind_some h1
      obtain ⟨b, hb, h3⟩ := bind_some h2
      cases h3
      exact fin (run_iaS hu hz (hρ _ _ ha) (hρ _ _ hb) hv)
    · cases hc
  | index t x i =>
    simp only [cOp] at hc
    split at hc
    · rename_i n e hu
      obtain ⟨s, hz, h1⟩ := bind_some hc
      obtain ⟨q, hq, h2⟩ := bind_some h1
      obtain ⟨a, ha, h3⟩ := bind_some h2
      obtain ⟨b, hb, h4⟩ := bind_some h3
      cases h4
      exact fin (run_ixA hu hz hq (hρ _ _ ha) (hρ _ _ hb) hv)
    · rename_i hu
      obtain ⟨a, ha, h3⟩ := bind_some hc
      obtain ⟨b, hb, h4⟩ := bind_some h3
      cases h4
      exact fin (run_ixS hu (hρ _ _ ha) (hρ _ _ hb) hv)
    · cases hc
  | lookup t x i ok =>
    simp only [cOp] at hc
    split at hc
    · rename_i kt et hu
      split at hc
      · rename_i hk
        obtain ⟨z, hz, h1⟩ := bind_some hc
        obtain ⟨a, ha, h2⟩ := bind_some h1
        obtain ⟨b, hb, h3⟩ := bind_some h2
        cases h3
        obtain ⟨kk, hkk⟩ : ∃ kk, P.underlying kt = some (.int kk) := by
          unfold isInts at hk
          split at hk
          · exact ⟨_, by assumption⟩
          · cases hk
        exact fin (run_lk hs hu hkk hz (hρ _ _ ha) (hρ _ _ hb) hv)
      · cases hc
    · cases hc
  | mapUpdate t m k v' =>
    simp only [cOp] at hc
    split at hc
    · split at hc
      · obtain ⟨_, _, h1⟩ := bind_some hc
        obtain ⟨_, _, h2⟩ := bind_some h1
        obtain ⟨_, _, h3⟩ := bind_some h2
        cases h3; cases hv
      · cases hc
    · cases hc
  | mapEntry t m k => cases hc
  | entryStore t m s v' => cases hc
  | range t x =>
    simp only [cOp] at hc
    split at hc
    · obtain ⟨a, _, rfl⟩ := map_some' hc; cases hv
    · obtain ⟨a, _, rfl⟩ := map_some' hc; cases hv
    · cases hc
  | next x b => cases b <;> (obtain ⟨a, _, rfl⟩ := map_some' hc; cases hv)
  | entry x =>
    obtain ⟨a, ha, rfl⟩ := map_some' hc
    exact fin (run_ent hs (hρ _ _ ha) hv)
  | typeAssert x xt a ok =>
    cases ok with
    | false =>
      simp only [cOp] at hc
      split at hc
      · cases hc
      · rename_i d hni hu
        obtain ⟨b, hb, h2⟩ := bind_some hc
        cases h2
        exact fin (run_tav hu (fun m e => hni m e) (hρ _ _ hb) hv)
      · cases hc
    | true =>
      simp only [cOp] at hc
      split at hc
      · cases hc
      · rename_i d hni hu
        obtain ⟨z, hz, h1⟩ := bind_some hc
        obtain ⟨b, hb, h2⟩ := bind_some h1
        cases h2
        exact fin (run_ta hz hu (fun m e => hni m e) (hρ _ _ hb) hv)
      · cases hc
  | extract x i =>
    simp only [cOp] at hc
    obtain ⟨a, ha, h1⟩ := bind_some hc
    cases h1
    exact fin (run_ext (hρ _ _ ha) hv)
  | call c => exact rdcall hs hρ hc hv
  | go c => cases hc
  | defer c => cases hc
  | panic x => cases hc
  | send c x => cases hc
  | recv t c ok => cases hc
  | select cs b => cases hc
end
end Go.Am
