/-
  TermReplies: replies are told once, in order, however often they are asked between: the card. No conditions.
-/
import Derived.Test.YtgmhcbmkdimoiaaGreatDoorCards
import Derived.Test.YtgmhcbmkdimoiaaGreatDoorTie
import Derived.Test.YtgmhcbmkdimoiaaGreatDoorWk2
import Derived.OpenShut
import Derived.Deep.DeepHandedRow
import Derived.Lib.LaidTab
import Derived.ChangeSlices
import Derived.Deep.Slices
import Derived.Carry
import Derived.ChangeSame
namespace Go.Proofs.YtgmhcbmkdimoiaaGreatDoor
open Go.ChangeShapes Go.WideShapes Go.ChangeAt Go.RowKit Go.Deep
section
variable {H : Type} {enc : TypeId × Value → H} {P : Program}
theorem post_of_below {f : Func} {s : ChangeSpec} {apart fresh handsOn again : Bool} {W W' : World} {args : Array Value} {v : Value} {ds gs : List (DataW H)} {before pa pv : List MemPlace}
    (hW : DataW.Whole enc P f.params.toList s.vars apart W args.toList ds gs before)
    (hres : ∀ (b : Nat) (sp : Nat → Bool) (hd : Bool), DataW.TrodAll enc P W' b sp hd f.resultTypes.toList (v.resultList f.resultTypes.size) (s.fn H (ds ++ gs)).results [])
    (hargs : ∀ sp : Nat → Bool, (∀ p ∈ before, sp p.block = true) → DataW.TrodAll enc P W' 0 sp true f.params.toList args.toList (s.fn H (ds ++ gs)).args pa)
    (hvars : ∀ sp : Nat → Bool, (∀ p ∈ before, sp p.block = true) → DataW.TrodVars enc P W' sp s.vars (s.fn H (ds ++ gs)).vars pv)
    (hps : before = pa ++ pv) (hb : Below W.heap.size W W')
    (hok : ∀ (j : Nat) (t : TypeId) (r : Value), f.resultTypes[j]? = some t → (v.resultList f.resultTypes.size)[j]? = some r → Value.okWide P W' .any 0 t r) :
    s.post enc P f apart fresh handsOn again W args v W' := by
  have hlt : ∀ p ∈ before, p.block < W.heap.size := fun p hp => hW.lt p hp
  have hold : ∀ p ∈ before, (fun b => decide (b < W.heap.size)) p.block = true := fun p hp => by simpa using hlt p hp
  refine ⟨ds, gs, before, [], pa, pv, hW, hres _ _ _, hargs _ hold, hvars _ hold, World.keptBut_mono (fun p hp => ⟨hp, ?_⟩) (hb.frame (· ∈ before)), fun _ => ?_⟩
  · rw [hps, List.mem_append] at hp
    exact Or.inr hp
  · obtain ⟨_, _, _, _, _, hz, hn⟩ := hW
    refine ⟨hok, _, _, ([] ++ pa) ++ pv, ⟨[] ++ pa, pv, trodAll_append (hargs _ (fun _ _ => rfl)) (hres _ _ _), hvars _ (fun _ _ => rfl), rfl, ?_, ?_⟩, ?_⟩
    · intro b off hp
      have hin : MemPlace.cell b off ∈ before := by rw [hps]; simpa using hp
      rw [hb.frozen (hlt _ hin)]
      exact hz b off hin
    · intro ha
      have := hn ha
      rw [hps] at this
      simpa using this
    · intro p hp _
      rw [hps]
      simpa using hp
end
theorem laidOut : laidOutB Tryz.prog = true := by kernel_rfl
theorem own : ownKnob Tryz.prog.godebug = none := by kernel_rfl

theorem walk_all (A B : Option Addr) (n m cn cm : Nat) (xs : List Int) (ys : List Bool) (w : World) (hA : TR.Reads w w.heap.size 1 A n (xs.map (Value.int .i64))) (hB : TR.Reads w w.heap.size 1 B m (ys.map Value.bool)) :
    Calls Tryz.prog 3 #[.slice A n cn, .slice B m cm] w fun e w' => e = .returned (.bool true) ∧ Below w.heap.size w w' := by
  by_cases h : n ≤ 60
  · exact TR.walk A B n m cn cm xs ys w hA hB h
  · exact TR.walk_big A B n m cn cm w (by omega)

theorem c3 : Tryz.prog.cellsOf 3 = 1 := by kernel_rfl
theorem c4 : Tryz.prog.cellsOf 4 = 1 := by kernel_rfl

theorem cell_lt {w : World} {a : Addr} {v : Value} (h : w.cell? a = some v) : a.block < w.heap.size := by
  rcases Nat.lt_or_ge a.block w.heap.size with h1 | h1
  · exact h1
  · simp [World.cell?, Array.getElem?_eq_none h1] at h
theorem cells_one {v x : Value} (hx : x.oneCell' = true) (h : v.cells.toList = [x]) : v = x ∨ ∃ cs, v = .agg cs := by
  cases v <;> first | (left; simpa [Value.cells] using h) | exact .inr ⟨_, rfl⟩

/-- What a slice of ints reads as. -/
theorem ints_in {H : Type} {enc : TypeId × Value → H} {W : World} {base fuel : Nat} {held : Bool} {cs : List Value} {x : DataW H × List MemPlace} (h : DataW.trod enc Tryz.prog W base (fun _ => true) held fuel 22 cs = some x) :
    ∃ (A : Option Addr) (n c : Nat) (xs : List Int), cs = [.slice A n c] ∧ TR.Reads W W.heap.size 1 A n (xs.map (Value.int .i64)) := by
  rcases open_ints Tryz.underlying22 Tryz.underlying3 c3 h with ⟨hc, _⟩ | ⟨a, len, cap, zs, hc, _, hl, _, hz, hx, hcell, _⟩
  · exact ⟨none, 0, 0, [], hc, TR.Reads.none_⟩
  · simp only [if_true] at hz
    refine ⟨some a, len, cap, zs.take len, hc, by simp; omega, fun hpos => ⟨a, rfl, ?_, fun j u hu => ?_⟩⟩
    · have := cell_lt (hcell 0 (by omega))
      rwa [TR.block_of_add] at this
    · rw [List.getElem?_map, List.getElem?_take] at hu
      split at hu
      · rename_i hj
        have h1 := hcell j (by omega)
        rw [List.getElem?_eq_getElem (by omega)] at hu
        cases hu
        rw [h1]
        simp [List.getD, List.getElem?_eq_getElem (show j < zs.length by omega)]
      · cases hu
/-- What a slice of truths reads as. -/
theorem bools_in {H : Type} {enc : TypeId × Value → H} {W : World} {base fuel : Nat} {held : Bool} {cs : List Value} {x : DataW H × List MemPlace} (h : DataW.trod enc Tryz.prog W base (fun _ => true) held fuel 23 cs = some x) :
    ∃ (A : Option Addr) (n c : Nat) (ys : List Bool), cs = [.slice A n c] ∧ TR.Reads W W.heap.size 1 A n (ys.map Value.bool) := by
  rcases open_slice1 Tryz.underlying23 c4 h with ⟨hc, _⟩ | ⟨a, len, cap, m, n, V, D, Pl, hc, _, hl, _, hm, hx, hcell⟩
  · exact ⟨none, 0, 0, [], hc, TR.Reads.none_⟩
  · simp only [if_true] at hm
    have hb : ∀ i, i < len → ∃ b, V i = .bool b := fun i hi => by
      obtain ⟨_, h2⟩ := hcell i (by omega)
      obtain ⟨b, hb, _⟩ := DataW.trod_bool Tryz.underlying4 h2
      exact ⟨b, by simpa using hb⟩
    refine ⟨some a, len, cap, (List.range len).map fun i => match V i with | .bool b => b | _ => false, hc, by simp, fun hpos => ⟨a, rfl, ?_, fun j u hu => ?_⟩⟩
    · have := cell_lt (hcell 0 (by omega)).1
      rwa [TR.block_of_add] at this
    · rw [List.getElem?_map, List.getElem?_map] at hu
      cases hr : (List.range len)[j]? with
      | none => rw [hr] at hu; cases hu
      | some j' =>
        have hj : j < len := by simpa using (List.getElem?_eq_some_iff.1 hr).1
        have hjj : j' = j := by
          have := (List.getElem?_eq_some_iff.1 hr).2
          simpa using this.symm
        subst hjj
        rw [hr] at hu
        cases hu
        obtain ⟨b, hb⟩ := hb j' hj
        rw [(hcell j' (by omega)).1]
        show some (V j') = some (Value.bool (match V j' with | .bool b => b | _ => false))
        rw [hb]

set_option maxRecDepth 100000 in
theorem contract (H : Type) (enc : TypeId × Value → H) (W : World) (base : Nat) (args : Array Value) (ds gs : List (DataW H)) (before : List MemPlace)
    (hval : ∀ (j : Nat) t v, Tryz.f3.params[j]? = some t → args[j]? = some v → Value.okWide Tryz.prog W .any base t v)
    (hW : DataW.Whole enc Tryz.prog Tryz.f3.params.toList Rows.termRepliesSpec.vars false W args.toList ds gs before) :
    Calls Tryz.prog 3 args W fun e W' => ∃ v, e = .returned v ∧ Rows.termRepliesSpec.post enc Tryz.prog Tryz.f3 false true false false W args v W' := by
  have hW' := hW
  obtain ⟨p, q, hA0, hV, rfl, hfz, hnd⟩ := hW
  have hA : DataW.TrodAll enc Tryz.prog W 0 (fun _ => true) true Tryz.f3.params.toList args.toList ds p := hA0
  rw [Tryz.params3] at hA hval
  obtain ⟨v0, vs0, d0, ds0, p0, q0, hargs, rfl, rfl, h0, r0⟩ := trodAll_cons hA
  obtain ⟨v1, vs1, d1, ds1, p1, q1, rfl, rfl, rfl, h1, r1⟩ := trodAll_cons r0
  obtain ⟨rfl, rfl, rfl⟩ := trodAll_nil r1
  obtain rfl : args = #[v0, v1] := by cases args; simp_all
  obtain ⟨rfl, rfl⟩ := trodVars_none hV
  obtain ⟨a0, n0, cap0, rfl⟩ := okWide_slice Tryz.underlying22 (hval 0 22 v0 rfl rfl)
  obtain ⟨a1, n1, cap1, rfl⟩ := okWide_slice Tryz.underlying23 (hval 1 23 v1 rfl rfl)
  have h0k := h0
  have h1k := h1
  obtain ⟨f0, hf0⟩ := h0
  obtain ⟨f1, hf1⟩ := h1
  clear hA0
  simp only [List.append_nil] at hW'
  obtain ⟨A, n, c, xs, e0, r0⟩ := ints_in hf0
  obtain ⟨B, m, d, ys, e1, r1⟩ := bools_in hf1
  have e0 : [Value.slice a0 n0 cap0] = [.slice A n c] := e0
  have e1 : [Value.slice a1 n1 cap1] = [.slice B m d] := e1
  cases e0
  cases e1
  have hlt0 : ∀ x ∈ p0, x.block < W.heap.size := fun x hx => hW'.lt x (by simp [hx])
  have hlt1 : ∀ x ∈ p1, x.block < W.heap.size := fun x hx => hW'.lt x (by simp [hx])
  refine (walk_all _ _ _ _ _ _ xs ys W r0 r1).mono fun e W' ⟨he, hb⟩ => ?_
  subst he
  exact ⟨_, rfl, post_of_below (pa := p0 ++ p1) (pv := []) hW' (fun _ _ _ => trodAll_cons_mk (shut_bool Tryz.underlying4 _) trodAll_mk0)
    (fun sp hsp => by
      have := trodAll_cons_mk (WideElems.Trod_stays laidOut (by kernel_rfl) (of_decide_eq_true (by kernel_rfl)) h0k (fun x hx => hb.same (hlt0 x hx)) (fun x hx => hsp x (by simp [hx])))
        (trodAll_cons_mk (WideElems.Trod_stays laidOut (by kernel_rfl) (of_decide_eq_true (by kernel_rfl)) h1k (fun x hx => hb.same (hlt1 x hx)) (fun x hx => hsp x (by simp [hx]))) trodAll_mk0)
      rw [List.append_nil] at this
      exact this)
    (fun _ _ => rfl) (by simp) hb (ok_one (by kernel_rfl) rfl (okWide_bool_mk Tryz.underlying4 _))⟩

/-- The cells of a datum. -/
def flat : DataW Unit → List Value
  | .lit (.int k n) => [.int k n]
  | .agg l => l.flatMap fun d => match d with
    | .lit (.int k n) => [.int k n]
    | .agg m => m.flatMap fun d => match d with
      | .lit (.int k n) => [.int k n]
      | _ => []
    | _ => []
  | _ => []
def lay (g : Nat) (l : List Value) (h : Array Obj) : Array Obj := h.modify g fun
  | .cells _ t fr => .cells l.toArray t fr
  | o => o
/-- A world for the witness: the settled one, the tables as their initialisers lay them. -/
noncomputable def laidWorld (os : Os) : World :=
  { World.holding Tryz.prog os ⟨#[], #[], []⟩ with heap := lay 0 (flat Rows.laid_unicode_utf8_first) (lay 1 (flat Rows.laid_unicode_utf8_acceptRanges) (lay 3 (flat Rows.laid_internal_strconv_uint64pow10) (lay 4 (flat Rows.laid_math_bits_deBruijn32tab) (lay 5 (flat Rows.laid_math_bits_deBruijn64tab) (World.holding Tryz.prog os ⟨#[], #[], []⟩).heap)))) }
set_option maxRecDepth 100000 in
theorem laid_met (os : Os) : laidMet Tryz.prog Rows.termRepliesRow.laid ((laidWorld os).forCall (fun _ _ => 0) ⟨#[], #[.slice none 0 0, .slice none 0 0], []⟩).memory :=
  laidMet_of_run' 8 (by kernel_rfl) (by kernel_rfl)
theorem reads (os : Os) {H : Type} (enc : TypeId × Value → H) : ∃ places, DataW.whole enc Tryz.prog ((laidWorld os).forCall (fun _ _ => 0) ⟨#[], #[.slice none 0 0, .slice none 0 0], []⟩).memory Tryz.f3.params.toList Rows.termRepliesSpec.vars false #[Value.slice none 0 0, Value.slice none 0 0].toList 8 = some ([.nil, .nil], [], places) :=
  ⟨[], by kernel_rfl⟩

set_option maxRecDepth 100000 in
theorem lifted (os : Os) (started : os.Started) (H : Type) (enc : TypeId × Value → H) (F : Stop.Interp) :
    ReturnsInHanded {} Tryz.checked os 3 .any ((OpenSpec.ofChange Rows.termRepliesSpec).preRow enc Tryz.prog Tryz.f3 Rows.termRepliesRow.domain false Rows.termRepliesRow.laid) (((OpenSpec.ofChange Rows.termRepliesSpec).at F).post enc Tryz.prog Tryz.f3 false true false false) := by
  obtain ⟨places, hx⟩ := reads os enc
  refine returnsInHanded_of_row (C := Tryz.checked) (s := OpenSpec.ofChange Rows.termRepliesSpec) own started (by kernel_rfl) Tryz.func3
    (witness_row_at (enc := enc) (C := Tryz.checked) false (laidWorld os) #[.slice none 0 0, .slice none 0 0] rfl (by kernel_rfl) (by kernel_rfl) (by kernel_rfl)
      (OpenSpec.preRow_of_cond 8 hx (by kernel_rfl) (fun k hk => by cases hk) (by kernel_rfl) (laid_met os))) ?_
  intro W base args ds gs before hval hW _ _ _ hL _ _
  exact contract H enc W base args ds gs before hval hW

set_option maxRecDepth 100000 in
theorem said : Rows.TermRepliesSaid :=
  OpenClaim.holds_of_cond 3 Tryz.f3 rfl rfl rfl rfl rfl rfl rfl ⟨rfl, rfl, rfl, rfl, rfl⟩ rfl rfl rfl rfl rfl (by kernel_rfl) Tryz.func3 (by kernel_rfl)
    (of_decide_eq_true (by kernel_rfl)) (by unfold Func.isWrapper; first | (rw [if_pos (by decide +kernel)]; kernel_rfl) | (rw [if_neg (by decide +kernel)]; exact ⟨rfl, rfl⟩))
    (fun os started H enc _ F => by rw [OpenClaim.pre_eq_preRow]; exact lifted os started H enc F)

/-- No body of the program starts a goroutine. -/
theorem none_goes : Tryz.prog.funcs.any Func.goes = false := by kernel_rfl
theorem goes_false {P : Program} (h : P.funcs.any Func.goes = false) (f : FuncId) : P.goes f = false := by
  unfold Program.goes
  rw [h, Bool.and_false, Bool.or_false]
  have key : ∀ g : Nat, (P.funcs[g]?).any Func.goes = false := by
    intro g
    cases hg : P.funcs[g]? with
    | none => rfl
    | some fn =>
      have hmem : fn ∈ P.funcs := Array.mem_of_getElem? hg
      rw [Array.any_eq_false'] at h
      simpa using h fn hmem
  simp [key]
theorem any_goes {P : Program} (h : ∀ f, P.goes f = false) (o : Option FuncId) : o.any P.goes = false := by
  cases o with
  | none => rfl
  | some f => exact h f
theorem goes_at {P : Program} (h : ∀ f, P.goes f = false) (func : String) : P.goesAt .entering func = false := by
  unfold Program.goesAt Program.goesFrom
  rw [any_goes h]
  rfl
theorem goes_by : false = Rows.termRepliesRow.goesBy Tryz.pinned.checked.prog := (goes_at (goes_false none_goes) _).symm

set_option maxRecDepth 100000 in
theorem plain (f : FuncId) (fn : Func) (hf : Tryz.pinned.checked.prog.funcNamed "phosphor/phosphorlaw25.TermReplies" = some f) (hfn : Tryz.pinned.checked.prog.funcs[f]? = some fn) :
    true = Tryz.pinned.checked.prog.looks [] ∧ ∀ (j : Nat) t, fn.params[j]? = some t → Tryz.pinned.checked.prog.wantsStandIn t = false := by
  have h3 : f = 3 := Option.some.inj (hf.symm.trans (show Tryz.pinned.checked.prog.funcNamed "phosphor/phosphorlaw25.TermReplies" = some 3 by kernel_rfl))
  subst h3
  have h4 : fn = Tryz.f3 := Option.some.inj (hfn.symm.trans Tryz.func3)
  subst h4
  refine ⟨by kernel_rfl, fun j t ht => ?_⟩
  rw [Tryz.params3] at ht
  have hm := Array.mem_of_getElem? ht
  simp only [List.mem_toArray, List.mem_cons, List.not_mem_nil, or_false] at hm
  rcases hm with rfl | rfl
  · exact (show Tryz.prog.wantsStandIn 22 = false by kernel_rfl)
  · exact (show Tryz.prog.wantsStandIn 23 = false by kernel_rfl)

set_option maxRecDepth 100000 in
theorem card : Rows.TermRepliesCardSaid :=
  Claim7.holds_tied_plain_at .later [] _ _ _ _ said (fun _ h => by cases h) (by kernel_rfl) (fun _ h => by cases h) termReplies_row_tie rfl ⟨rfl, rfl⟩ (by kernel_rfl) rfl plain goes_by
#print axioms card
end Go.Proofs.YtgmhcbmkdimoiaaGreatDoor
