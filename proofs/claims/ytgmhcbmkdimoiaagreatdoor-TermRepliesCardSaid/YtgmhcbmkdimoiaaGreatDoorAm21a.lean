/-
  The abstract machine, part 21a: what an operation tells depends on what it names. No conditions.
-/
import Derived.Test.YtgmhcbmkdimoiaaGreatDoorAm20
namespace Go.Am
section
variable {P : Program} {E : Env} {T T' : Tm} {h : Hp} {nx : Nat} {w : World} {cm : Bool} {C : CallT}

theorem ev_congr {x : Opd} (hT : ∀ t ∈ x.tmps, tget T t = tget T' t) : ev T x = ev T' x := by
  cases x with
  | t i => exact hT i (List.mem_singleton.2 rfl)
  | c v => rfl
theorem memL {a b : List Nat} {p : Nat → Prop} (h : ∀ t ∈ a ++ b, p t) : ∀ t ∈ a, p t := fun t ht => h t (List.mem_append_left _ ht)
theorem memR {a b : List Nat} {p : Nat → Prop} (h : ∀ t ∈ a ++ b, p t) : ∀ t ∈ b, p t := fun t ht => h t (List.mem_append_right _ ht)
theorem evo_congr {x : Option Opd} (hT : ∀ t ∈ oT x, tget T t = tget T' t) : x.map (ev T) = x.map (ev T') := by
  cases x with
  | none => rfl
  | some x => exact congrArg some (ev_congr hT)
theorem evl_congr {l : List Opd} (hT : ∀ t ∈ l.flatMap Opd.tmps, tget T t = tget T' t) : l.map (ev T) = l.map (ev T') :=
  List.map_congr_left fun x hx => ev_congr fun t ht => hT t (List.mem_flatMap.2 ⟨x, hx, ht⟩)

theorem rd_congr {o : AOp} (hT : ∀ t ∈ o.tmps, tget T t = tget T' t) : rd cm o T h = rd cm o T' h := by
  cases o with
  | mv x => simp only [rd, ev_congr hT]
  | pick c a b => simp only [rd, ev_congr (memL (memL hT)), ev_congr (memR (memL hT)), ev_congr (memR hT)]
  | bld z ps =>
    have : (ps.map fun p => (p.1, p.2.1, ev T p.2.2)) = ps.map fun p => (p.1, p.2.1, ev T' p.2.2) :=
      List.map_congr_left fun p hp => by rw [ev_congr fun t ht => hT t (List.mem_flatMap.2 ⟨p, hp, ht⟩)]
    simp only [rd, this]
  | ld n x => simp only [rd, ev_congr hT]
  | nilc x => simp only [rd, ev_congr hT]
  | bin op x y => simp only [rd, ev_congr (memL hT), ev_congr (memR hT)]
  | eqv neg ks x y => simp only [rd, ev_congr (memL hT), ev_congr (memR hT)]
  | eqb neg x y => simp only [rd, ev_congr (memL hT), ev_congr (memR hT)]
  | eqn neg k x y => simp only [rd, ev_congr (memL hT), ev_congr (memR hT)]
  | un op x => simp only [rd, ev_congr hT]
  | ci k x => simp only [rd, ev_congr hT]
  | b2s x => simp only [rd, ev_congr hT]
  | i2s x => simp only [rd, ev_congr hT]
  | ids x => simp only [rd, ev_congr hT]
  | cpu x => simp only [rd, ev_congr hT]
  | cup u s x => simp only [rd, ev_congr hT]
  | usd x => simp only [rd, ev_congr hT]
  | mki t x => simp only [rd, ev_congr hT]
  | mkf f a b => simp only [rd, evl_congr (memL hT), evl_congr (memR hT)]
  | slS x l hh => simp only [rd, ev_congr (memL (memL hT)), evo_congr (memR (memL hT)), evo_congr (memR hT)]
  | slL s x l hh m => simp only [rd, ev_congr (memL (memL (memL hT))), evo_congr (memR (memL (memL hT))), evo_congr (memR (memL hT)), evo_congr (memR hT)]
  | slA n s x l hh m => simp only [rd, ev_congr (memL (memL (memL hT))), evo_congr (memR (memL (memL hT))), evo_congr (memR (memL hT)), evo_congr (memR hT)]
  | fad off x => simp only [rd, ev_congr hT]
  | fld off n x => simp only [rd, ev_congr hT]
  | iaA len s x i => simp only [rd, ev_congr (memL hT), ev_congr (memR hT)]
  | iaS s x i => simp only [rd, ev_congr (memL hT), ev_congr (memR hT)]
  | ixA len s n x i => simp only [rd, ev_congr (memL hT), ev_congr (memR hT)]
  | ixS x i => simp only [rd, ev_congr (memL hT), ev_congr (memR hT)]
  | lk b z ok x i => simp only [rd, ev_congr (memL hT), ev_congr (memR hT)]
  | ent x => simp only [rd, ev_congr hT]
  | s2a n x => simp only [rd, ev_congr hT]
  | ta a z x => simp only [rd, ev_congr hT]
  | tav a x => simp only [rd, ev_congr hT]
  | ext x i => simp only [rd, ev_congr hT]
  | lenS x => simp only [rd, ev_congr hT]
  | lenL x => simp only [rd, ev_congr hT]
  | lenM x => simp only [rd, ev_congr hT]
  | cap x => simp only [rd, ev_congr hT]
  | mn xs => simp only [rd, evl_congr hT]
  | mx xs => simp only [rd, evl_congr hT]
  | _ => rfl

theorem rd_heap {o : AOp} (hl : o.looks = false) (h h' : Hp) : rd cm o T h = rd cm o T h' := by
  cases o <;> first | rfl | cases hl

theorem flv_congr {o : AOp} {n : Nat} (hT : ∀ t ∈ o.tmps, tget T t = tget T' t) : flv o T n = flv o T' n := by
  cases o with
  | box t s x => simp only [flv, ev_congr hT]
  | bsl t s z len ps =>
    have : (ps.map fun p => (p.1, s, ev T p.2)) = ps.map fun p => (p.1, s, ev T' p.2) :=
      List.map_congr_left fun p hp => by rw [ev_congr fun t ht => hT t (List.mem_flatMap.2 ⟨p, hp, ht⟩)]
    simp only [flv, this]
  | s2b t x => simp only [flv, ev_congr hT]
  | mks t s b z l c => simp only [flv, ev_congr (memL hT), ev_congr (memR hT)]
  | _ => rfl

theorem aop_congr {o : AOp} (hw : o.writes = true) (hT : ∀ t ∈ o.tmps, tget T t = tget T' t) (k : HK) : aop cm C o T h nx k = aop cm C o T' h nx k := by
  cases o with
  | asg x => simp only [aop, ev_k, ev_congr hT]
  | st n a x => simp only [aop, ev_k, ev_congr (memL hT), ev_congr (memR hT)]
  | uss u a x => simp only [aop, ev_k, ev_congr (memL hT), ev_congr (memR hT)]
  | frz x => simp only [aop, ev_k, ev_congr hT]
  | mup b m kx v => simp only [aop, ev_k, ev_congr (memL (memL hT)), ev_congr (memR (memL hT)), ev_congr (memR hT)]
  | rng x => simp only [aop, ev_k, ev_congr hT]
  | nxt x => simp only [aop, ev_k, ev_congr hT]
  | callF f l => simp only [aop, evl_k, evl_congr hT]
  | callV x l => simp only [aop, ev_k, evl_k, ev_congr (memL hT), evl_congr (memR hT)]
  | inv tab x l => simp only [aop, ev_k, evl_k, ev_congr (memL hT), evl_congr (memR hT)]
  | app t s b z x y => simp only [aop, ev_k, ev_congr (memL hT), ev_congr (memR hT)]
  | appz t s b z x y => simp only [aop, ev_k, ev_congr (memL hT), ev_congr (memR hT)]
  | cpy s x y => simp only [aop, ev_k, ev_congr (memL hT), ev_congr (memR hT)]
  | del m kx => simp only [aop, ev_k, ev_congr (memL hT), ev_congr (memR hT)]
  | clr m => simp only [aop, ev_k, ev_congr hT]
  | rngS x => rfl
  | nxtS x => rfl
  | bad => rfl
  | _ => cases hw

theorem wantedk_congr {g : Option (Nat × Bool)} (hT : ∀ t b, g = some (t, b) → tget T t = tget T' t) (y n : Prop) : wantedk T g y n = wantedk T' g y n := by
  cases g with
  | none => rfl
  | some tb =>
    obtain ⟨t, b⟩ := tb
    unfold wantedk
    dsimp only
    rw [hT t b rfl]
theorem wantedk_mono {g : Option (Nat × Bool)} {y n y' n' : Prop} (hk : wantedk T g y n) (hy : y → y') (hn : n → n') : wantedk T g y' n' := by
  cases g with
  | none => exact hy hk
  | some tb =>
    obtain ⟨t, b⟩ := tb
    unfold wantedk at *
    dsimp only at *
    split at hk
    · rename_i c _
      cases c <;> cases b <;> simp only [sel_true, sel_false] at hk ⊢ <;> first | exact hy hk | exact hn hk
    · exact hk.elim
    · exact hn hk
theorem wantedk_and {g : Option (Nat × Bool)} {y n y' n' : Prop} (hk : wantedk T g y n) (hk' : wantedk T g y' n') : wantedk T g (y ∧ y') (n ∧ n') := by
  cases g with
  | none => exact ⟨hk, hk'⟩
  | some tb =>
    obtain ⟨t, b⟩ := tb
    unfold wantedk at *
    dsimp only at *
    split at hk
    · rename_i c hc
      cases c <;> cases b <;> simp only [hc, sel_true, sel_false] at hk hk' ⊢ <;> exact ⟨hk, hk'⟩
    · exact hk.elim
    · rename_i hne hne2
      refine ⟨hk, ?_⟩
      split at hk'
      · rename_i c hc; exact absurd hc (hne c)
      · exact hk'.elim
      · exact hk'

/-! What is the same to the sign is the same. -/
theorem sel_t {b c : Bool} (h : sel b c false = true) : b = true ∧ c = true := by
  cases b
  · cases h
  · exact ⟨rfl, h⟩
theorem beq_t {a b : Nat} (h : Nat.beq a b = true) : a = b := Nat.eq_of_beq_eq_true h

theorem same_eq : ∀ (d : Nat) (x y : AVal), same d x y = true → x = y
  | 0, _, _, h => by cases h
  | d + 1, x, y, h => by
    have hall : ∀ (a b : List AVal), (List.rec (motive := fun _ => List AVal → Bool) (fun b => match b with | [] => true | _ => false)
        (fun x _ ih b => match b with | [] => false | y :: r => sel (same d x y) (ih r) false) a b : Bool) = true → a = b := by
      intro a
      induction a with
      | nil =>
        intro b h
        cases b with
        | nil => rfl
        | cons _ _ => cases h
      | cons x a ih =>
        intro b h
        cases b with
        | nil => cases h
        | cons y b =>
          obtain ⟨h1, h2⟩ := sel_t h
          rw [same_eq d x y h1, ih b h2]
    cases x with
    | bool a => cases y with
      | bool b => cases a <;> cases b <;> first | rfl | cases h
      | _ => cases h
    | int k a => cases y with
      | int k' b =>
        obtain ⟨h1, h2⟩ := sel_t (b := eqK k k') (c := eqI a b) h
        rw [eqK_eq] at h1
        rw [eqI_eq] at h2
        have h1 : k = k' := by simpa using h1
        have h2 : a = b := by simpa using h2
        rw [h1, h2]
      | _ => cases h
    | str a => cases y with
      | str b =>
        have h : eqL a b = true := h
        rw [eqL_eq] at h
        have h : a = b := by simpa using h
        rw [h]
      | _ => cases h
    | nilp => cases y with
      | nilp => rfl
      | _ => cases h
    | ptr a b => cases y with
      | ptr a' b' =>
        obtain ⟨h1, h2⟩ := sel_t (b := Nat.beq a a') (c := Nat.beq b b') h
        rw [beq_t h1, beq_t h2]
      | _ => cases h
    | nils => cases y with
      | nils => rfl
      | _ => cases h
    | slc a b c o => cases y with
      | slc a' b' c' o' =>
        cases o with
        | none => cases o' with
          | none =>
            obtain ⟨h1, h2⟩ := sel_t (b := Nat.beq a a') (c := sel (Nat.beq b b') (Nat.beq c c') false) h
            obtain ⟨h3, h4⟩ := sel_t h2
            rw [beq_t h1, beq_t h3, beq_t h4]
          | some _ => cases h
        | some e => cases o' with
          | none => cases h
          | some e' =>
            obtain ⟨h1, h2⟩ := sel_t (b := Nat.beq a a') (c := sel (Nat.beq b b') (sel (Nat.beq c c') (Nat.beq e e') false) false) h
            obtain ⟨h3, h4⟩ := sel_t h2
            obtain ⟨h5, h6⟩ := sel_t h4
            rw [beq_t h1, beq_t h3, beq_t h5, beq_t h6]
      | _ => cases o <;> cases h
    | emp a b => cases y with
      | emp a' b' =>
        obtain ⟨h1, h2⟩ := sel_t (b := Nat.beq a a') (c := sel b b' (notB b')) h
        rw [beq_t h1]
        cases b <;> cases b' <;> first | rfl | cases h2
      | _ => cases h
    | tok a => cases y with
      | tok a' =>
        have h : Nat.beq a a' = true := h
        rw [beq_t h]
      | _ => cases h
    | slo a b => cases y with
      | slo a' b' =>
        obtain ⟨h1, h2⟩ := sel_t (b := Nat.beq a a') (c := Nat.beq b b') h
        rw [beq_t h1, beq_t h2]
      | _ => cases h
    | nilm => cases y with
      | nilm => rfl
      | _ => cases h
    | map a => cases y with
      | map b => rw [beq_t (a := a) (b := b) h]
      | _ => cases h
    | fn f a b => cases y with
      | fn f' a' b' =>
        obtain ⟨h1, h2⟩ := sel_t (b := Nat.beq f f') h
        obtain ⟨h3, h4⟩ := sel_t h2
        rw [beq_t h1, hall _ _ h3, hall _ _ h4]
      | _ => cases h
    | nilf => cases y with
      | nilf => rfl
      | _ => cases h
    | ifc t v => cases y with
      | ifc t' v' =>
        obtain ⟨h1, h2⟩ := sel_t (b := Nat.beq t t') (c := same d v v') h
        rw [beq_t h1, same_eq d v v' h2]
      | _ => cases h
    | nili => cases y with
      | nili => rfl
      | _ => cases h
    | agg a => cases y with
      | agg b => rw [hall a b h]
      | _ => cases h
    | tup a => cases y with
      | tup b => rw [hall a b h]
      | _ => cases h
end
end Go.Am
