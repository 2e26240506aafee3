/-
  States told otherwise: tokens, hidden fronts. No conditions.
-/
import Derived.Test.YtgmhcbmkdimoiaaGreatDoorRd
set_option maxRecDepth 1000000
namespace Go.Am

theorem look_set {E : Env} {nx : Nat} {w : World} {L : List (Nat × AObj)} {i n0 : Nat} {o' : AObj} (hk : (L.map (·.1)).Nodup) (hi : (L.map (·.1))[i]? = some n0) (hs : HSat E (Tr.set o' (mkh L .nil) (Nat.succ n0)) nx w) :
    HSat E (mkh (L.set i (n0, o')) .nil) nx w := by
  have hil : i < L.length := by simpa using (List.getElem?_eq_some_iff.1 hi).1
  have hkeys : (L.set i (n0, o')).map (·.1) = L.map (·.1) := by
    rw [List.map_set]
    refine List.ext_getElem? fun j => ?_
    rw [List.getElem?_set]
    by_cases e : i = j
    · subst e
      rw [if_pos rfl, if_pos (by simpa using hil), hi]
    · rw [if_neg e]
  refine hs.look fun n o ho => .inl ?_
  rcases hget_mkh _ _ _ _ ho with hm | hm
  · by_cases e : n = n0
    · subst e
      rw [hget_hset, if_pos rfl]
      have h1 := hget_mkh_mem (L.set i (n, o')) .nil (n, o') (List.mem_iff_getElem?.2 ⟨i, by rw [List.getElem?_set, if_pos rfl, if_pos hil]⟩) (by rw [hkeys]; exact hk)
      have h1 : hget (mkh (L.set i (n, o')) .nil) n = some o' := h1
      rw [h1] at ho
      exact ho
    · rw [hget_hset, if_neg e]
      rcases List.mem_or_eq_of_mem_set hm with h | h
      · exact hget_mkh_mem L .nil (n, o) h hk
      · cases h; exact absurd rfl e
  · rw [hget_nil] at hm; cases hm

theorem fp_look {E : Env} {h h' : Hp} {b : Nat} (he : ∀ n o, hget h' n = some o → (∃ o2, hget h n = some o2 ∧ own o2 = true) ∨ E n = none) (hf : FP E h' b) : FP E h b := by
  obtain ⟨n, o, r, h1, h2, h3, h4⟩ := hf
  rcases he n o h1 with ⟨o2, h5, h6⟩ | h5
  · exact ⟨n, o2, r, h5, h6, h3, h4⟩
  · rw [h5] at h3; cases h3

/-- Every object of a state is owned. -/
theorem Ts_own (σ : Nat → Nat) (d : D) : ∀ p ∈ Ts σ d, own p.2 = true := by
  intro p hp
  have : ∀ p ∈ (Ts σ d).map (fun p => own p.2), p = true := by
    have h : (Ts σ d).map (fun p => own p.2) = List.replicate 32 true := by
      obtain ⟨row, col, wrap, char, rl, a, g, top, first, u2, u3, L, pf, ps, say, pv, fk, rp⟩ := d
      cases rp <;> rfl
    rw [h]
    intro p hp
    exact (List.mem_replicate.1 hp).2
  exact this _ (List.mem_map_of_mem hp)
theorem Ts_at (σ : Nat → Nat) (d : D) {n : Nat} (hn : n < 32) : ∃ o, (n, o) ∈ Ts σ d := by
  have : n ∈ (Ts σ d).map (·.1) := by rw [Ts_keys]; exact List.mem_range.2 hn
  obtain ⟨p, hp, rfl⟩ := List.mem_map.1 this
  exact ⟨p.2, hp⟩
/-- Which blocks a state owns does not hang on what its objects are. -/
theorem fp_state {E : Env} {d d' : D} {b : Nat} (hf : FP E (hd d) b) : FP E (hd d') b := by
  refine fp_look (fun n o ho => .inl ?_) hf
  obtain ⟨o2, ho2⟩ := Ts_at idN d' (hd_lt ho)
  exact ⟨o2, hd_get ho2, Ts_own _ _ _ ho2⟩

/-- What a state's names are beside its objects: none. -/
def Free (E : Env) : Prop := E 32 = none ∧ ∀ n, 34 ≤ n → E n = none

theorem root_get {d : D} : hget (hd d) 0 = some (.row [gN 4, gN 6, gN 2, gN 2, gN 3, gN 2000, .ptr 1 0, .ptr 2 0, .ptr 3 0, .nilp, .nils, fB, rvv idN d.rp, gN d.first, gN 0] 56 .exact) :=
  hd_get (p := (0, _)) List.mem_cons_self
theorem one_of {d : D} {E : Env} {w : World} {nx : Nat} (hs : HSat E (hd d) nx w) {r0 : Reg} (h0 : E 0 = some r0) : ∃ r1, E 1 = some r1 := by
  obtain ⟨cells, fr, _, _, _, _, _, _, _, h⟩ := hs.obj 0 _ _ root_get h0
  obtain ⟨v, _, hv⟩ := h 6 (.ptr 1 0) rfl
  cases hv with
  | ptr _ _ r hr => exact ⟨r, hr⟩

def tokd (d : D) : D := { d with row := .tok 34, col := .tok 35, wrap := .tok 36 }
def rowE (k : IntKind) (n : Int) (k' : IntKind) (n' : Int) (b : Bool) (E : Env) : Env := fun m => if m = 34 then some ⟨0, 0, 0, 0, [.int k n]⟩ else if m = 35 then some ⟨0, 0, 0, 0, [.int k' n']⟩ else if m = 36 then some ⟨0, 0, 0, 0, [.bool b]⟩ else E m

def scr (row col wrap char : AVal) : List AVal :=
  [.ptr (idN 4) 0, .ptr (idN 5) 0, gN 0, row, col, wrap, gN 0, gN 0, gN 0, fB, b8 66, b8 66, gN 0, gN 0, gN 0, fB, gN 0, gN 0, gN 0, fB, b8 0, b8 0, gN 0, fB, gN 0, gN 0, fB, gN 0, gN 0, gN 0, fB, b8 0, b8 0, gN 0, fB, .map (idN 6), .map (idN 7), gN 0, gN 4, .ptr (idN 8) 0, char, .nils]
theorem scr_get (d : D) : hget (hd d) 1 = some (.row (scr d.row d.col d.wrap d.char) 98 .exact) :=
  hd_get (p := (1, _)) (List.mem_cons_of_mem _ List.mem_cons_self)
theorem scr_set (row col wrap char row' col' wrap' : AVal) : (((scr row col wrap char).set 3 row').set 4 col').set 5 wrap' = scr row' col' wrap' char := rfl
theorem Ts_scr (d : D) (row col wrap : AVal) : Ts idN { d with row := row, col := col, wrap := wrap } = (Ts idN d).set 1 (1, .row (scr row col wrap d.char) 98 .exact) := rfl

/-- The screen's row told otherwise. -/
theorem retell_scr {d : D} {E : Env} {w : World} {nx : Nat} (hs : HSat E (hd d) nx w) {r1 : Reg} (h1 : E 1 = some r1) (row col wrap : AVal) (a1 : oneV row = true) (a2 : oneV col = true) (a3 : oneV wrap = true)
    (i1 : ∀ v, Rel E d.row v → Rel E row v) (i2 : ∀ v, Rel E d.col v → Rel E col v) (i3 : ∀ v, Rel E d.wrap v → Rel E wrap v) : HSat E (hd { d with row := row, col := col, wrap := wrap }) nx w := by
  have ho := hs.obj 1 _ _ (scr_get d) h1
  have o1 := objrel_set ho 3 d.row row rfl a1 i1
  have o2 := objrel_set o1 4 d.col col rfl a2 i2
  have o3 := objrel_set o2 5 d.wrap wrap rfl a3 i3
  rw [scr_set] at o3
  have := look_set (L := Ts idN d) (i := 1) (n0 := 1) (Ts_nodup _ _) (by rw [Ts_keys]; rfl) (hs.retell (scr_get d) rfl h1 o3)
  rw [← Ts_scr] at this
  exact this

theorem tok_in {d : D} {E : Env} {w : World} {k k' : IntKind} {n n' : Int} {b : Bool} (hs : HSat E (hd d) 40 w) (hF : Free E) (hrow : d.row = .int k n) (hcol : d.col = .int k' n') (hwrap : d.wrap = .bool b) {r0 : Reg} (h0 : E 0 = some r0) :
    HSat (rowE k n k' n' b E) (hd (tokd d)) 40 w := by
  obtain ⟨r1, h1⟩ := one_of hs h0
  have hE : ∀ m, m < 34 → rowE k n k' n' b E m = E m := by
    intro m hm
    unfold rowE
    rw [if_neg (by omega), if_neg (by omega), if_neg (by omega)]
  have hx : Ext E (rowE k n k' n' b E) := by
    intro m r hm
    by_cases e : m < 34
    · rw [hE m e]; exact hm
    · rw [hF.2 m (by omega)] at hm; cases hm
  have hs2 : HSat (rowE k n k' n' b E) (hd d) 40 w := hs.ext hx (fun m hm => by unfold rowE; rw [if_neg (by omega), if_neg (by omega), if_neg (by omega)]; exact hF.2 m (by omega)) (fun m o ho => hE m (by have := hd_lt ho; omega))
  refine retell_scr hs2 (by rw [hE 1 (by omega)]; exact h1) _ _ _ rfl rfl rfl ?_ ?_ ?_
  · intro v hv
    rw [hrow] at hv
    cases hv
    exact .tok 34 _ ⟨0, 0, 0, 0, [.int k n]⟩ (by unfold rowE; rw [if_pos rfl]) rfl rfl
  · intro v hv
    rw [hcol] at hv
    cases hv
    exact .tok 35 _ ⟨0, 0, 0, 0, [.int k' n']⟩ (by unfold rowE; rw [if_neg (by omega), if_pos rfl]) rfl rfl
  · intro v hv
    rw [hwrap] at hv
    cases hv
    exact .tok 36 _ ⟨0, 0, 0, 0, [.bool b]⟩ (by unfold rowE; rw [if_neg (by omega), if_neg (by omega), if_pos rfl]) rfl rfl

/-- Names from 34 on let go. -/
theorem drop_names {d : D} {E : Env} {w : World} (hs : HSat E (hd d) 40 w) (h32 : E 32 = none) (hst : Still (fun n => if n < 34 then n else n + 40) d) :
    HSat (fun n => E (if n < 34 then n else n + 40)) (hd d) 40 w ∧ Free (fun n => E (if n < 34 then n else n + 40)) ∧ ∀ b, FP (fun n => E (if n < 34 then n else n + 40)) (hd d) b → FP E (hd d) b := by
  have hc : Ts (fun n => if n < 34 then n else n + 40) d = Ts idN d := Ts_congr _ fun n hn => by rw [if_pos hn]; rfl
  have key : ∀ n o, hget (hd d) n = some o → hget (hd d) (if n < 34 then n else n + 40) = some (renO (fun n => if n < 34 then n else n + 40) o) := by
    intro n o ho
    have hlt := hd_lt ho
    rw [if_pos (by omega)]
    refine hd_get (p := (n, _)) ?_
    rw [← hc, ← Ts_ren _ _ hst]
    exact List.mem_map.2 ⟨(n, o), hget_hd ho, rfl⟩
  refine ⟨hs.ren _ (fun n hn => by rw [if_neg (by omega)]; omega) key ?_, ⟨?_, ?_⟩, fun b hf => FP.ren _ key hf⟩
  · intro n m o o' h1 h2 hne
    have hlt := hd_lt h1
    have hlt' := hd_lt h2
    rw [if_pos (by omega), if_pos (by omega)]
    exact hne
  · show E (if 32 < 34 then 32 else 32 + 40) = none
    rw [if_pos (by omega)]; exact h32
  · intro n hn
    show E (if n < 34 then n else n + 40) = none
    rw [if_neg (by omega)]
    exact hs.fresh _ (by omega)

/-- Tokens told again. -/
theorem tok_out {d : D} {E E0 : Env} {w : World} {k k' : IntKind} {n n' : Int} {b : Bool} (hs : HSat E (hd (tokd d)) 40 w) (hrow : d.row = .int k n) (hcol : d.col = .int k' n') (hwrap : d.wrap = .bool b)
    (hE : ∀ m, 33 ≤ m → m < 40 → E m = rowE k n k' n' b E0 m) {r0 : Reg} (h0 : E 0 = some r0) : HSat E (hd d) 40 w := by
  obtain ⟨r1, h1⟩ := one_of hs h0
  have := retell_scr hs h1 d.row d.col d.wrap (by rw [hrow]; rfl) (by rw [hcol]; rfl) (by rw [hwrap]; rfl) ?_ ?_ ?_
  · exact this
  · intro v hv
    have hv : Rel E (.tok 34) v := hv
    cases hv with
    | tok _ _ r hr hf ho =>
      rw [hE 34 (by omega) (by omega)] at hr
      unfold rowE at hr
      rw [if_pos rfl] at hr
      cases hr
      cases hf
      rw [hrow]
      exact .int _ _
  · intro v hv
    have hv : Rel E (.tok 35) v := hv
    cases hv with
    | tok _ _ r hr hf ho =>
      rw [hE 35 (by omega) (by omega)] at hr
      unfold rowE at hr
      rw [if_neg (by omega), if_pos rfl] at hr
      cases hr
      cases hf
      rw [hcol]
      exact .int _ _
  · intro v hv
    have hv : Rel E (.tok 36) v := hv
    cases hv with
    | tok _ _ r hr hf ho =>
      rw [hE 36 (by omega) (by omega)] at hr
      unfold rowE at hr
      rw [if_neg (by omega), if_neg (by omega), if_pos rfl] at hr
      cases hr
      cases hf
      rw [hwrap]
      exact .bool _

theorem mem_set_key {L : List (Nat × AObj)} {i n0 : Nat} {o' : AObj} (hk : (L.map (·.1)).Nodup) (hi : (L.map (·.1))[i]? = some n0) {n : Nat} {x : AObj} (hm : (n, x) ∈ L.set i (n0, o')) : (n = n0 ∧ x = o') ∨ (n ≠ n0 ∧ (n, x) ∈ L) := by
  obtain ⟨j, hj⟩ := List.mem_iff_getElem?.1 hm
  rw [List.getElem?_set] at hj
  by_cases e : i = j
  · rw [if_pos e] at hj
    split at hj
    · cases hj; exact .inl ⟨rfl, rfl⟩
    · cases hj
  · rw [if_neg e] at hj
    refine .inr ⟨?_, List.mem_iff_getElem?.2 ⟨j, hj⟩⟩
    rintro rfl
    have h1 : (L.map (·.1))[j]? = some n := by rw [List.getElem?_map, hj]; rfl
    have h2 := (List.getElem?_inj (by simpa using (List.getElem?_eq_some_iff.1 hi).1) hk).1 (hi.trans h1.symm)
    exact e h2

def bv (n : Nat) : Value := .int .u8 (.ofNat n)
theorem rel_b8 {E : Env} {n : Nat} {v : Value} (h : Rel E (b8 n) v) : v = bv n := by cases h; rfl
def rootO (rp : AVal) (first : Nat) : List AVal := [gN 4, gN 6, gN 2, gN 2, gN 3, gN 2000, .ptr 1 0, .ptr 2 0, .ptr 3 0, .nilp, .nils, fB, rp, gN first, gN 0]
theorem rootO_set (rp rp' : AVal) (first : Nat) : (rootO rp first).set 12 rp' = rootO rp' first := rfl
def σ3 (n : Nat) : Nat := if n = 31 then 34 else if n = 33 then 35 else if n < 34 then n else n + 40
theorem Ts_abs (d : D) : Ts σ3 { d with rp := .o } = ((Ts idN d).set 0 (0, .row (rootO (.slo 34 0) d.first) 56 .exact)).set 31 (31, .hrow [] 5 1 35) := by
  obtain ⟨row, col, wrap, char, rl, a, g, top, first, u2, u3, L, pf, ps, say, pv, fk, rp⟩ := d
  cases rl <;> cases pv <;> rfl

theorem absorb {d : D} {E : Env} {w : World} (hs : HSat E (hd d) 40 w) (hF : Free E) {r0 : Reg} (h0 : E 0 = some r0) {r31 : Reg} (h31 : E 31 = some r31) {f' : List Value}
    (hst : Still σ3 { d with rp := .o })
    (hx : ∃ cells fr, w.heap[r31.b]? = some (.cells cells 5 fr) ∧ r31.d + r31.k ≤ cells.size ∧ f'.length ≤ r31.k ∧ r31.s = 1 ∧ f'.length ≤ 1073741824 ∧ (fr.1 = fr.2 ∨ cells.size ≤ fr.1) ∧ ∀ i v, f'[i]? = some v → cells[r31.d + i]? = some v)
    (hv : ∀ E' v, E' 31 = some r31 → Rel E' (rvv idN d.rp) v → ∃ c, v = .slice (some ⟨r31.b, r31.d, none⟩) f'.length c ∧ f'.length ≤ c ∧ c ≤ r31.k) :
    ∃ E', HSat E' (hd { d with rp := .o }) 40 w ∧ Free E' ∧ (∃ r33, E' 33 = some r33 ∧ r33.f = f') ∧ E' 0 = E 0 ∧ ∀ b, FP E' (hd { d with rp := .o }) b → FP E (hd d) b := by
  obtain ⟨cells, fr, x1, x2, x3, x4, x5, x6, x7⟩ := hx
  obtain ⟨o31, ho31⟩ := Ts_at idN d (n := 31) (by omega)
  have hown31 := Ts_own _ _ _ ho31
  have hg31 := hd_get ho31
  -- the token
  have hs1 : HSat (E.put 35 ⟨0, 0, 0, 0, f'⟩) (Tr.del (hd d) (Nat.succ 31)) 40 w := by
    refine (hs.del 31).ext (Env.ext_put _ _ _ (hF.2 35 (by omega))) (fun n hn => by rw [Env.put_other _ _ _ _ (by omega)]; exact hF.2 n (by omega)) (fun n o ho => ?_)
    rw [hget_hdel] at ho
    by_cases e : n = 31
    · rw [if_pos e] at ho; cases ho
    · rw [if_neg e] at ho
      have := hd_lt ho
      exact Env.put_other _ _ _ _ (by omega)
  -- the row under its new name
  have hs2 := hs1.add (n := 34) (o := .hrow [] 5 1 35) (r := ⟨r31.b, r31.d, r31.k, r31.s, f'⟩) (nx' := 40) (w' := w) (by rw [Env.put_other _ _ _ _ (by omega)]; exact hF.2 34 (by omega)) (by omega) (Nat.le_refl _)
    (fun m x q hm hq => ⟨rfl, by
      rw [hget_hdel] at hm
      by_cases e : m = 31
      · rw [if_pos e] at hm; cases hm
      · rw [if_neg e] at hm
        have := hd_lt hm
        rw [Env.put_other _ _ _ _ (by omega)] at hq
        exact Ne.symm (hs.apart 31 m _ x r31 q hg31 hm (Ne.symm e) hown31 h31 hq)⟩)
    ⟨⟨⟨0, 0, 0, 0, f'⟩, by rw [Env.put_other _ _ _ _ (by omega), Env.put_same], rfl⟩, cells, fr, x1, x2, by simpa using x3, x4, ⟨by omega, by omega⟩, x6, rfl, x7, fun i c hi => by simp at hi⟩
  -- the root
  have e0 : ((E.put 35 ⟨0, 0, 0, 0, f'⟩).put 34 ⟨r31.b, r31.d, r31.k, r31.s, f'⟩) 0 = some r0 := by rw [Env.put_other _ _ _ _ (by omega), Env.put_other _ _ _ _ (by omega)]; exact h0
  have e31 : ((E.put 35 ⟨0, 0, 0, 0, f'⟩).put 34 ⟨r31.b, r31.d, r31.k, r31.s, f'⟩) 31 = some r31 := by rw [Env.put_other _ _ _ _ (by omega), Env.put_other _ _ _ _ (by omega)]; exact h31
  have g0 : hget (Tr.set (.hrow [] 5 1 35) (Tr.del (hd d) (Nat.succ 31)) (Nat.succ 34)) 0 = some (.row (rootO (rvv idN d.rp) d.first) 56 .exact) := by
    rw [hget_hset, if_neg (by omega), hget_hdel, if_neg (by omega)]
    exact root_get
  have ho0 := hs2.obj 0 _ _ g0 e0
  have hset := objrel_set ho0 12 (rvv idN d.rp) (.slo 34 0) rfl rfl (fun v hr => by
    obtain ⟨c, rfl, hc1, hc2⟩ := hv _ v e31 hr
    have := Rel.slo (E := (E.put 35 ⟨0, 0, 0, 0, f'⟩).put 34 ⟨r31.b, r31.d, r31.k, r31.s, f'⟩) 34 0 f'.length c _ (Env.put_same _ _ _) (by show f'.length = f'.length * r31.s; rw [x4, Nat.mul_one]) (by omega) (by show c * r31.s ≤ r31.k; rw [x4, Nat.mul_one]; exact hc2)
    exact this)
  rw [rootO_set] at hset
  have hs3 := hs2.retell g0 rfl e0 hset
  -- the names
  have key : ∀ n o, hget (hd { d with rp := .o }) n = some o → hget (Tr.set (.row (rootO (.slo 34 0) d.first) 56 .exact) (Tr.set (.hrow [] 5 1 35) (Tr.del (hd d) (Nat.succ 31)) (Nat.succ 34)) (Nat.succ 0)) (σ3 n) = some (renO σ3 o) := by
    intro n o ho
    have hm : (n, renO σ3 o) ∈ Ts σ3 { d with rp := .o } := by
      rw [← Ts_ren _ _ hst]
      exact List.mem_map.2 ⟨(n, o), hget_hd ho, rfl⟩
    have hlt := hd_lt ho
    rw [Ts_abs] at hm
    have hk0 : ((Ts idN d).set 0 (0, AObj.row (rootO (.slo 34 0) d.first) 56 .exact)).map (·.1) = List.range 32 := by
      rw [List.map_set, Ts_keys]
      rfl
    rcases mem_set_key (by rw [hk0]; exact List.nodup_range) (by rw [hk0]; rfl) hm with ⟨rfl, hx⟩ | ⟨hne, hm⟩
    · rw [hx]
      have : σ3 31 = 34 := rfl
      rw [this, hget_hset, if_neg (by omega), hget_hset, if_pos rfl]
    · have hσ : σ3 n = n := by unfold σ3; rw [if_neg hne, if_neg (by omega), if_pos (by omega)]
      rw [hσ]
      rcases mem_set_key (Ts_nodup _ _) (by rw [Ts_keys]; rfl) hm with ⟨rfl, hx⟩ | ⟨hne0, hm⟩
      · rw [hx, hget_hset, if_pos rfl]
      · rw [hget_hset, if_neg hne0, hget_hset, if_neg (by omega), hget_hdel, if_neg hne]
        exact hd_get hm
  have hren := hs3.ren (h' := hd { d with rp := .o }) (nx' := 40) σ3 (fun n hn => by unfold σ3; rw [if_neg (by omega), if_neg (by omega), if_neg (by omega)]; omega) key (fun n m o o' h1 h2 hne => by
    have hlt := hd_lt h1
    have hlt' := hd_lt h2
    unfold σ3
    by_cases a : n = 31 <;> by_cases b : m = 31
    · omega
    · rw [if_pos a, if_neg b, if_neg (by omega), if_pos (by omega)]; omega
    · rw [if_neg a, if_pos b, if_neg (by omega), if_pos (by omega)]; omega
    · rw [if_neg a, if_neg b, if_neg (by omega), if_pos (by omega), if_neg (by omega), if_pos (by omega)]; exact hne)
  refine ⟨_, hren, ⟨?_, ?_⟩, ⟨⟨0, 0, 0, 0, f'⟩, ?_, rfl⟩, ?_, ?_⟩
  · show ((E.put 35 ⟨0, 0, 0, 0, f'⟩).put 34 ⟨r31.b, r31.d, r31.k, r31.s, f'⟩) 32 = none
    rw [Env.put_other _ _ _ _ (by omega), Env.put_other _ _ _ _ (by omega)]
    exact hF.1
  · intro n hn
    have : σ3 n = n + 40 := by unfold σ3; rw [if_neg (by omega), if_neg (by omega), if_neg (by omega)]
    show ((E.put 35 ⟨0, 0, 0, 0, f'⟩).put 34 ⟨r31.b, r31.d, r31.k, r31.s, f'⟩) (σ3 n) = none
    rw [this, Env.put_other _ _ _ _ (by omega), Env.put_other _ _ _ _ (by omega)]
    exact hF.2 _ (by omega)
  · show ((E.put 35 ⟨0, 0, 0, 0, f'⟩).put 34 ⟨r31.b, r31.d, r31.k, r31.s, f'⟩) 35 = _
    rw [Env.put_other _ _ _ _ (by omega), Env.put_same]
  · show ((E.put 35 ⟨0, 0, 0, 0, f'⟩).put 34 ⟨r31.b, r31.d, r31.k, r31.s, f'⟩) 0 = _
    rw [e0, h0]
  · intro b hf
    have hf2 := FP.ren σ3 key hf
    obtain ⟨n, o, r, q1, q2, q3, q4⟩ := hf2
    rw [hget_hset] at q1
    by_cases a0 : n = 0
    · subst a0
      rw [e0] at q3
      cases q3
      exact ⟨0, _, r0, root_get, rfl, h0, q4⟩
    · rw [if_neg a0, hget_hset] at q1
      by_cases a34 : n = 34
      · subst a34
        rw [Env.put_same] at q3
        cases q3
        exact ⟨31, o31, r31, hg31, hown31, h31, q4⟩
      · rw [if_neg a34, hget_hdel] at q1
        by_cases a31 : n = 31
        · rw [if_pos a31] at q1; cases q1
        · rw [if_neg a31] at q1
          have := hd_lt q1
          rw [Env.put_other _ _ _ _ a34, Env.put_other _ _ _ _ (by omega)] at q3
          exact ⟨n, o, r, q1, q2, q3, q4⟩
end Go.Am
