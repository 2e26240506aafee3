/-
  The known run is true; a new terminal. No conditions.
-/
import Derived.Test.YtgmhcbmkdimoiaaGreatDoorFx
import Derived.Test.YtgmhcbmkdimoiaaGreatDoorRx
set_option maxRecDepth 1000000
namespace Go.Am
open Go.RowKit Go.Proofs

theorem known_run : callk true F 100000 4 [] .nil 0 (fun v _ _ => v = .bool true) = (AVal.bool true = .bool true) := by kernel_rfl

theorem hsat_nil (w : World) : HSat (fun _ => none) .nil 0 w := by
  refine ⟨fun _ _ => rfl, fun n o r h => ?_, fun n m o o' r r' h => ?_⟩
  · rw [hget_nil] at h; cases h
  · rw [hget_nil] at h; cases h
theorem goes_nil {E' : Env} {h' : Hp} {nx' : Nat} {w w' : World} (g : Goes (fun _ => none) .nil 0 w E' h' nx' w') : Below w.heap.size w w' :=
  ⟨g.trans.os, g.trans.tape, g.trans.output, g.trans.size, fun b hb => (g.trans.keep b hb (fun ⟨n, o, r, h, _⟩ => by rw [hget_nil] at h; cases h)).1⟩
theorem free_nil {E' : Env} {h' : Hp} {nx' : Nat} {w w' : World} (g : Goes (fun _ => none) .nil 0 w E' h' nx' w') {b : Nat} (hb : b < w.heap.size) : ¬ FP E' h' b :=
  (g.trans.keep b hb (fun ⟨n, o, r, h, _⟩ => by rw [hget_nil] at h; cases h)).2

def valI (a : AVal) : Value := match a with | .int k n => .int k n | _ => undef
theorem relL_valI {E : Env} : ∀ {l : List AVal} {m : List Value}, (∀ a ∈ l, ∃ k n, a = .int k n) → RelL E l m → m = l.map valI
  | [], m, _, h => by cases h; rfl
  | a :: l, m, hl, h => by
    cases h with
    | cons _ v _ m h t =>
      obtain ⟨k, n, rfl⟩ := hl a List.mem_cons_self
      cases h
      rw [relL_valI (fun b hb => hl b (List.mem_cons_of_mem _ hb)) t]
      rfl
theorem relL_valI_mk {E : Env} : ∀ {l : List AVal}, (∀ a ∈ l, ∃ k n, a = .int k n) → RelL E l (l.map valI)
  | [], _ => .nil
  | a :: l, hl => by
    obtain ⟨k, n, rfl⟩ := hl a List.mem_cons_self
    exact .cons _ _ _ _ (.int _ _) (relL_valI_mk fun b hb => hl b (List.mem_cons_of_mem _ hb))

theorem known_true (w : World) : Calls Tryz.prog 4 #[] w fun e w' => e = .returned (.bool true) ∧ Below w.heap.size w w' := by
  have h := does_ret Tryz.func4 (by kernel_rfl) (by kernel_rfl) (C_ok 100000 4 [] #[] _ _ 0 w (fun v _ _ => v = .bool true) (hsat_nil w) .nil (by rw [known_run]))
  refine h.mono fun e w' ⟨y, x, E', h', nx', he, hrel, hsat, hgo, hx⟩ => ?_
  subst hx
  cases hrel
  exact ⟨he, goes_nil hgo⟩

def fk0 (n : Nat) : AVal := match n with | 0 => b8 0 | 1 => b8 0 | 2 => b8 0 | 3 => b8 0 | _ => gN 0
def d0 : D := xd ⟨0, 0, false, -1, 0, 0, 0, 0, 0⟩ .n .n (b8 0) (b8 0) (.bool true) fB (.fn 36 [] []) fk0
def l0 : List (Nat × Nat) := [(0, 297), (1, 3), (2, 291), (3, 301), (4, 20), (5, 148), (6, 286), (7, 287), (8, 283), (9, 289), (10, 290), (11, 300), (12, 19), (13, 133), (14, 147), (15, 261), (16, 282), (17, 288), (18, 57), (19, 82), (20, 107), (21, 132), (22, 185), (23, 210), (24, 235), (25, 260)]
def cfg : List AVal := [gN 4, gN 6, gN 2, gN 2, gN 3, gN 2000]
theorem new_run : callk true F 100000 5 [.agg cfg] .nil 0 (fun v h _ => (v = AVal.tup [.ptr (sg l0 0) 0, .int .i64 (.ofNat 0)]) ∧ Chk (sg l0) h ((Ts (sg l0) d0).take 26)) =
    ((AVal.tup [.ptr (sg l0 0) 0, .int .i64 (.ofNat 0)] = AVal.tup [.ptr (sg l0 0) 0, .int .i64 (.ofNat 0)]) ∧ ChkR ((Ts (sg l0) d0).take 26)) := by kernel_rfl
theorem small_run : callk true F 100000 6 [] .nil 0 (fun v _ _ => v = .agg cfg) = (AVal.agg cfg = .agg cfg) := by kernel_rfl

theorem small_ok (w : World) : Calls Tryz.prog 6 #[] w fun e w' => e = .returned (.agg (cfg.map valI).toArray) ∧ Below w.heap.size w w' := by
  have h := does_ret Tryz.func6 (by kernel_rfl) (by kernel_rfl) (C_ok 100000 6 [] #[] _ _ 0 w (fun v _ _ => v = .agg cfg) (hsat_nil w) .nil (by rw [small_run]))
  refine h.mono fun e w' ⟨y, x, E', h', nx', he, hrel, hsat, hgo, hx⟩ => ?_
  subst hx
  cases hrel with
  | agg _ z hz =>
    have : z = (cfg.map valI).toArray := by
      rw [← Array.toList_inj]
      exact relL_valI (by intro a ha; simp only [cfg, gN, List.mem_cons, List.not_mem_nil, or_false] at ha; rcases ha with rfl | rfl | rfl | rfl | rfl | rfl <;> exact ⟨_, _, rfl⟩) hz
    subst this
    exact ⟨he, goes_nil hgo⟩

theorem plain_fk0 (i : Nat) : Plain (fk0 i) := by
  unfold fk0
  split <;> exact plain_int _ _
theorem still_d0 (σ : Nat → Nat) : Still σ d0 := still3 (rp := .n) (pf := .bool true) (ps := fB) (say := .fn 36 [] []) (fk := fk0) σ ⟨plain_int _ _, plain_int _ _, plain_bool _, plain_bool _, plain_fn _, plain_fk0⟩ (plain_int _ _) (fun σ i => plain_xl σ _ i) (plain_int _ _) (plain_int _ _) (plain_bool _) True.intro
theorem d0_eq : d0 = xd (xr 0) .n .n (b8 0) (b8 0) (.bool true) fB (.fn 36 [] []) fk0 := rfl
noncomputable def σ0 (m n : Nat) : Nat := if n < 26 then sg l0 n else m + n
theorem take0 (m : Nat) : (Ts (σ0 m) d0).take 26 = (Ts (sg l0) d0).take 26 := rfl
theorem inj0 : (∀ n m, n < 26 → m < 26 → sg l0 n = sg l0 m → n = m) := by
  have h : ((List.range 26).all fun n => (List.range 26).all fun m => Nat.beq n m || !(Nat.beq (sg l0 n) (sg l0 m))) = true := by kernel_rfl
  intro n m hn hm e
  rw [List.all_eq_true] at h
  have h1 := h n (List.mem_range.2 hn)
  rw [List.all_eq_true] at h1
  have h2 := h1 m (List.mem_range.2 hm)
  rw [e, Nat.beq_refl] at h2
  simp only [Bool.not_true, Bool.or_false] at h2
  exact Nat.eq_of_beq_eq_true h2

theorem new_ok (w : World) : Calls Tryz.prog 5 #[.agg (cfg.map valI).toArray] w fun e w' => ∃ p, e = .returned (.tuple #[.pointer (some p), .int .i64 0]) ∧ J 0 [] p w.heap.size w' ∧ Below w.heap.size w w' := by
  have hcfg : RelL (fun _ => none) [.agg cfg] (#[Value.agg (cfg.map valI).toArray] : Array Value).toList := .cons _ _ _ _ (.agg _ _ (relL_valI_mk (by intro a ha; simp only [cfg, gN, List.mem_cons, List.not_mem_nil, or_false] at ha; rcases ha with rfl | rfl | rfl | rfl | rfl | rfl <;> exact ⟨_, _, rfl⟩))) .nil
  have h := does_ret Tryz.func5 (by kernel_rfl) (by kernel_rfl) (C_ok 100000 5 [.agg cfg] #[.agg (cfg.map valI).toArray] _ _ 0 w (fun v h _ => (v = AVal.tup [.ptr (sg l0 0) 0, .int .i64 (.ofNat 0)]) ∧ Chk (sg l0) h ((Ts (sg l0) d0).take 26)) (hsat_nil w) hcfg (by rw [new_run]; exact ⟨rfl, chkR_true _⟩))
  refine h.mono fun e w' ⟨y, x, E', h', nx', he, hrel, hsat, hgo, hx, hchk⟩ => ?_
  subst hx
  have hall := chk_all _ hchk
  have hy : ∃ r0, E' (sg l0 0) = some r0 ∧ y = .tuple #[.pointer (some ⟨r0.b, r0.d, none⟩), .int .i64 0] := by
    cases hrel with
    | tup _ z hz =>
      cases z with
      | mk z =>
        cases hz with
        | cons _ v1 _ m h1 h2 =>
          cases h2 with
          | cons _ v2 _ m h3 h4 =>
            cases h4
            cases h1 with
            | ptr _ _ r hr =>
              cases h3
              exact ⟨r, hr, rfl⟩
  obtain ⟨r0, hr0, rfl⟩ := hy
  have hlen : ((Ts idN d0).take 26).map (·.1) = List.range 26 := by
    rw [List.map_take, Ts_keys]
    rfl
  have hm26 : ∀ n o, hget (mkh ((Ts idN d0).take 26) .nil) n = some o → (n, o) ∈ (Ts idN d0).take 26 ∧ n < 26 := by
    intro n o ho
    rcases hget_mkh _ _ _ _ ho with h | h
    · refine ⟨h, ?_⟩
      have : n ∈ ((Ts idN d0).take 26).map (·.1) := List.mem_map_of_mem (f := (·.1)) h
      rw [hlen] at this
      exact List.mem_range.1 this
    · rw [hget_nil] at h; cases h
  have key : ∀ n o, hget (mkh ((Ts idN d0).take 26) .nil) n = some o → hget h' (σ0 nx' n) = some (renO (σ0 nx') o) := by
    intro n o ho
    obtain ⟨hm, hlt⟩ := hm26 n o ho
    have e1 : σ0 nx' n = sg l0 n := by unfold σ0; rw [if_pos hlt]
    rw [e1]
    refine hall (n, renO (σ0 nx') o) ?_
    rw [← take0 nx', ← Ts_ren _ _ (still_d0 _), ← List.map_take]
    exact List.mem_map.2 ⟨(n, o), hm, rfl⟩
  have hren : HSat (fun n => E' (σ0 nx' n)) (mkh ((Ts idN d0).take 26) .nil) 40 w' := by
    refine hsat.ren _ ?_ key ?_
    · intro n hn
      unfold σ0
      rw [if_neg (by omega)]
      omega
    · intro n m o o' h1 h2 hne
      obtain ⟨_, l1⟩ := hm26 n o h1
      obtain ⟨_, l2⟩ := hm26 m o' h2
      unfold σ0
      rw [if_pos l1, if_pos l2]
      exact fun e => hne (inj0 n m l1 l2 e)
  have hfree : ∀ n, 26 ≤ n → E' (σ0 nx' n) = none := by
    intro n hn
    unfold σ0
    rw [if_neg (by omega)]
    exact hsat.fresh _ (by omega)
  have hlook : ∀ n o, hget (hd d0) n = some o → hget (mkh ((Ts idN d0).take 26) .nil) n = some o ∨ E' (σ0 nx' n) = none := by
    intro n o ho
    by_cases hn : n < 26
    · left
      have hm := hget_hd ho
      refine hget_mkh_mem _ _ (n, o) ?_ (by rw [hlen]; exact List.nodup_range)
      obtain ⟨i, hi⟩ := List.mem_iff_getElem?.1 hm
      have hk : ((Ts idN d0).map (·.1))[i]? = some n := by rw [List.getElem?_map, hi]; rfl
      rw [Ts_keys] at hk
      have hin : i = n := by
        have := (List.getElem?_eq_some_iff.1 hk).2
        simpa using this
      subst hin
      exact List.mem_iff_getElem?.2 ⟨i, by rw [List.getElem?_take, if_pos hn]; exact hi⟩
    · exact .inr (hfree n (by omega))
  have hsz := hgo.trans.size
  refine ⟨_, he, ⟨.n, b8 0, b8 0, .bool true, fB, .fn 36 [] [], fk0, .n, _, r0, ⟨plain_int _ _, plain_int _ _, plain_bool _, plain_bool _, plain_fn _, plain_fk0⟩, ⟨?_, ⟨hfree 32 (by omega), fun n hn => hfree n (by omega)⟩, .inl ⟨rfl, rfl⟩⟩, ?_, rfl, ?_, hsz⟩, goes_nil hgo⟩
  · rw [← d0_eq]
    exact hren.look hlook
  · show E' (σ0 nx' 0) = some r0
    unfold σ0
    rw [if_pos (by omega)]
    exact hr0
  · intro b hb hf
    refine free_nil hgo hb ?_
    have h1 : FP (fun n => E' (σ0 nx' n)) (hd d0) b := fp_state hf
    have h2 : FP (fun n => E' (σ0 nx' n)) (mkh ((Ts idN d0).take 26) .nil) b := fp_look (fun n o ho => by
      rcases hlook n o ho with h | h
      · exact .inl ⟨o, h, Ts_own _ _ _ (hget_hd ho)⟩
      · exact .inr h) h1
    exact FP.ren _ key h2
end Go.Am
