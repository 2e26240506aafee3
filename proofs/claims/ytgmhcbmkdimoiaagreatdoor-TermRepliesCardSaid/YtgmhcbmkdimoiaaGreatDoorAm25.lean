/-
  The abstract machine, part 25: names changed, and names dropped. No conditions.
-/
import Derived.Test.YtgmhcbmkdimoiaaGreatDoorAm24
namespace Go.Am

mutual
/-- A value, its names changed. -/
def ren (σ : Nat → Nat) : AVal → AVal
  | .ptr n o => .ptr (σ n) o
  | .slc n o l c => .slc (σ n) o l c
  | .slo n l => .slo (σ n) l
  | .tok j => .tok (σ j)
  | .emp n b => .emp (σ n) b
  | .map n => .map (σ n)
  | .fn f a b => .fn f (renL σ a) (renL σ b)
  | .ifc t v => .ifc t (ren σ v)
  | .agg a => .agg (renL σ a)
  | .tup a => .tup (renL σ a)
  | .bool b => .bool b
  | .int k n => .int k n
  | .str s => .str s
  | .nilp => .nilp
  | .nils => .nils
  | .nilm => .nilm
  | .nilf => .nilf
  | .nili => .nili
def renL (σ : Nat → Nat) : List AVal → List AVal
  | [] => []
  | a :: l => ren σ a :: renL σ l
end

mutual
theorem rel_ren {E : Env} {σ : Nat → Nat} : ∀ {a : AVal} {v : Value}, Rel E (ren σ a) v → Rel (fun n => E (σ n)) a v
  | .ptr n o, v, h => by
    rw [ren] at h
    cases h with
    | ptr _ _ r hr => exact .ptr n o r hr
  | .slc n o l c, v, h => by
    rw [ren] at h
    cases h with
    | slcN _ _ _ c r hr hc hl => exact .slcN n o l c r hr hc hl
    | slcS _ _ _ c r hr => exact .slcS n o l c r hr
  | .tok j, v, h => by
    rw [ren] at h
    cases h with
    | tok _ _ r hr hf hv => exact .tok j v r hr hf hv
  | .slo n l, v, h => by
    rw [ren] at h
    cases h with
    | slo _ _ q c r hr h1 h2 h3 => exact .slo n l q c r hr h1 h2 h3
  | .emp n b, v, h => by
    rw [ren] at h
    cases h with
    | emp _ r a c hr ha hs => exact .emp n r a c hr ha hs
    | empN _ r a hr ha hs => exact .empN n r a hr ha hs
  | .map n, v, h => by
    rw [ren] at h
    cases h with
    | map _ r hr => exact .map n r hr
  | .fn f a b, v, h => by
    rw [ren] at h
    cases h with
    | fn _ _ _ x y ha hb => exact .fn f a b x y (relL_ren ha) (relL_ren hb)
  | .ifc t u, v, h => by
    rw [ren] at h
    cases h with
    | ifc _ _ w hw => exact .ifc t u w (rel_ren hw)
  | .agg a, v, h => by
    rw [ren] at h
    cases h with
    | agg _ x hx => exact .agg a x (relL_ren hx)
  | .tup a, v, h => by
    rw [ren] at h
    cases h with
    | tup _ x hx => exact .tup a x (relL_ren hx)
  | .bool b, v, h => by rw [ren] at h; cases h; exact .bool _
  | .int k n, v, h => by rw [ren] at h; cases h; exact .int _ _
  | .str s, v, h => by
    rw [ren] at h
    cases h with
    | str _ hb => exact .str s hb
  | .nilp, v, h => by rw [ren] at h; cases h; exact .nilp
  | .nils, v, h => by rw [ren] at h; cases h; exact .nils
  | .nilm, v, h => by rw [ren] at h; cases h; exact .nilm
  | .nilf, v, h => by rw [ren] at h; cases h; exact .nilf
  | .nili, v, h => by rw [ren] at h; cases h; exact .nili
theorem relL_ren {E : Env} {σ : Nat → Nat} : ∀ {a : List AVal} {v : List Value}, RelL E (renL σ a) v → RelL (fun n => E (σ n)) a v
  | [], v, h => by rw [renL] at h; cases h; exact .nil
  | a :: l, v, h => by
    rw [renL] at h
    cases h with
    | cons _ u _ m h1 h2 => exact .cons _ _ _ _ (rel_ren h1) (relL_ren h2)
end

/-- An object, its names changed. -/
def renO (σ : Nat → Nat) : AObj → AObj
  | .row cs t m => .row (renL σ cs) t m
  | .map es c => .map (es.map fun e => (ren σ e.1, ren σ e.2.1, e.2.2)) c
  | .iter m since seen stepped => .iter (m.map σ) since seen stepped
  | .siter s p => .siter s p
  | .hrow cs t s j => .hrow (renL σ cs) t s (σ j)

theorem renL_get {σ : Nat → Nat} : ∀ (l : List AVal) (i : Nat), (renL σ l)[i]? = (l[i]?).map (ren σ)
  | [], i => by rw [renL]; simp
  | a :: l, 0 => by rw [renL]; simp
  | a :: l, i + 1 => by rw [renL]; simpa using renL_get l i
theorem renL_length {σ : Nat → Nat} : ∀ (l : List AVal), (renL σ l).length = l.length
  | [] => by rw [renL]
  | a :: l => by rw [renL]; simp [renL_length l]
theorem oneV_ren {σ : Nat → Nat} (a : AVal) : oneV (ren σ a) = oneV a := by
  cases a <;> rw [ren] <;> rfl
theorem onesV_ren {σ : Nat → Nat} : ∀ (l : List AVal), onesV (renL σ l) = onesV l
  | [] => by rw [renL]
  | a :: l => by
    rw [renL, onesV_eq, onesV_eq, List.all_cons, List.all_cons, oneV_ren, ← onesV_eq, ← onesV_eq, onesV_ren l]

theorem relE_ren {E : Env} {σ : Nat → Nat} : ∀ {es : List (AVal × AVal × Nat)} {mes : List MapEntry}, RelE E (es.map fun e => (ren σ e.1, ren σ e.2.1, e.2.2)) mes → RelE (fun n => E (σ n)) es mes
  | [], mes, h => by cases h; exact .nil
  | (a, b, n) :: es, mes, h => by
    rw [List.map_cons] at h
    cases h with
    | cons _ _ _ u v _ m h1 h2 h3 => exact .cons _ _ _ _ _ _ _ (rel_ren h1) (rel_ren h2) (relE_ren h3)

theorem own_ren {σ : Nat → Nat} (o : AObj) : own (renO σ o) = own o := by
  cases o with
  | row cs t m => cases m <;> rfl
  | _ => rfl

theorem objrel_ren {E : Env} {σ : Nat → Nat} {w : World} {o : AObj} {r : Reg} (h : ObjRel E w (renO σ o) r) : ObjRel (fun n => E (σ n)) w o r := by
  cases o with
  | row cs t m =>
    obtain ⟨cells, fr, h1, h2, h3, h4, h5, h6, h7, h8⟩ := h
    rw [renL_length] at h3 h4
    refine ⟨cells, fr, h1, h2, h3, h4, h5, fun ho => h6 (by rw [← own_ren (σ := σ)] at ho; exact ho), by rw [← onesV_ren (σ := σ)]; exact h7, fun i c hi => ?_⟩
    obtain ⟨v, hv, hrel⟩ := h8 i (ren σ c) (by rw [renL_get, hi]; rfl)
    exact ⟨v, hv, rel_ren hrel⟩
  | map es c =>
    obtain ⟨mes, h1, h2⟩ := h
    exact ⟨mes, h1, relE_ren h2⟩
  | iter m since seen stepped =>
    obtain ⟨hd, mo, sn, h1, h2, h3⟩ := h
    refine ⟨hd, mo, sn, h1, h2, ?_⟩
    cases m with
    | none => exact h3
    | some m => exact h3
  | siter s p => exact h
  | hrow cs t s j =>
    obtain ⟨⟨rj, hj1, hj2⟩, cells, fr, h1, h2, h3, h4, h5, h6, h7, h8, h9⟩ := h
    rw [renL_length] at h3
    refine ⟨⟨rj, hj1, hj2⟩, cells, fr, h1, h2, h3, h4, h5, h6, by rw [← onesV_ren (σ := σ)]; exact h7, h8, fun i c hi => ?_⟩
    obtain ⟨v, hv, hrel⟩ := h9 i (ren σ c) (by rw [renL_get, hi]; rfl)
    exact ⟨v, hv, rel_ren hrel⟩

/-- FROM A HEAP TO ONE WITH OTHER NAMES, AND PERHAPS FEWER. -/
theorem HSat.ren {E : Env} {h h' : Hp} {nx nx' : Nat} {w : World} (hs : HSat E h nx w) (σ : Nat → Nat) (hσ : ∀ n, nx' ≤ n → nx ≤ σ n) (hh : ∀ n o, hget h' n = some o → hget h (σ n) = some (renO σ o))
    (hi : ∀ n m o o', hget h' n = some o → hget h' m = some o' → n ≠ m → σ n ≠ σ m) : HSat (fun n => E (σ n)) h' nx' w :=
  ⟨fun n hn => hs.fresh _ (hσ n hn), fun n o r hn hr => objrel_ren (hs.obj _ _ _ (hh n o hn) hr),
    fun a b x y ra rb ha hb hab hx hra hrb => hs.apart _ _ _ _ _ _ (hh a x ha) (hh b y hb) (hi a b x y ha hb hab) (by rw [own_ren]; exact hx) hra hrb⟩

theorem FP.ren {E : Env} {h h' : Hp} {b : Nat} (σ : Nat → Nat) (hh : ∀ n o, hget h' n = some o → hget h (σ n) = some (renO σ o)) (hf : FP (fun n => E (σ n)) h' b) : FP E h b := by
  obtain ⟨n, o, r, h1, h2, h3, h4⟩ := hf
  exact ⟨σ n, renO σ o, r, hh n o h1, by rw [own_ren]; exact h2, h3, h4⟩
end Go.Am
