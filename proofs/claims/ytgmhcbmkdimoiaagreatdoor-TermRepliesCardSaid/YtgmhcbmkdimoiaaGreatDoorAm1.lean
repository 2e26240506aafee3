/-
  The abstract machine, part 1: a binary trie (for kernel evaluation) with its laws. No conditions.
-/
import Derived.Calls
import Derived.KernelRfl
import Derived.Laws.Entries
import Derived.Laws.World
namespace Go.Am

/-- A map from positive numbers, by their bits. -/
inductive Tr (α : Type) where
  | nil
  | node (v : Option α) (l r : Tr α)

/-- 'if', for the kernel. -/
noncomputable def sel {β : Type} (b : Bool) (x y : β) : β := Bool.rec y x b
/-- The same among propositions. -/
def selP (b : Bool) (x y : Prop) : Prop := Bool.rec y x b
theorem sel_true {β : Type} (x y : β) : sel true x y = x := rfl
theorem sel_false {β : Type} (x y : β) : sel false x y = y := rfl
theorem sel_eq {β : Type} (b : Bool) (x y : β) : sel b x y = if b = true then x else y := by cases b <;> rfl
theorem selP_true (x y : Prop) : selP true x y = x := rfl
theorem selP_false (x y : Prop) : selP false x y = y := rfl
theorem ble1 (n : Nat) : Nat.ble n 1 = decide (n ≤ 1) := by
  rw [Bool.eq_iff_iff]; simp [Nat.ble_eq]
theorem beq0 (n : Nat) : Nat.beq n 0 = decide (n = 0) := by
  rw [Bool.eq_iff_iff]; simp [Nat.beq_eq]

namespace Tr
variable {α : Type}

noncomputable def get (t : Tr α) : Nat → Option α :=
  Tr.rec (motive := fun _ => Nat → Option α) (fun _ => none)
    (fun v _ _ gl gr n => sel (Nat.ble n 1) v (sel (Nat.beq (Nat.mod n 2) 0) (gl (Nat.div n 2)) (gr (Nat.div n 2)))) t

noncomputable def single {β : Type} (x : α) (fuel : Nat) : Nat → (Tr α → β) → β :=
  Nat.rec (motive := fun _ => Nat → (Tr α → β) → β) (fun _ k => k (.node (some x) .nil .nil))
    (fun _ ih n k => sel (Nat.ble n 1) (k (.node (some x) .nil .nil)) (sel (Nat.beq (Nat.mod n 2) 0) (ih (Nat.div n 2) (fun t => k (.node none t .nil))) (ih (Nat.div n 2) (fun t => k (.node none .nil t))))) fuel

/-- Storing, in the way of continuations: what is handed on is built out. -/
noncomputable def setk {β : Type} (x : α) (t : Tr α) : Nat → (Tr α → β) → β :=
  Tr.rec (motive := fun _ => Nat → (Tr α → β) → β) (fun n k => single x n n k)
    (fun v l r sl sr n k => sel (Nat.ble n 1) (k (.node (some x) l r)) (sel (Nat.beq (Nat.mod n 2) 0) (sl (Nat.div n 2) (fun t => k (.node v t r))) (sr (Nat.div n 2) (fun t => k (.node v l t))))) t

noncomputable def delk {β : Type} (t : Tr α) : Nat → (Tr α → β) → β :=
  Tr.rec (motive := fun _ => Nat → (Tr α → β) → β) (fun _ k => k .nil)
    (fun v l r sl sr n k => sel (Nat.ble n 1) (k (.node none l r)) (sel (Nat.beq (Nat.mod n 2) 0) (sl (Nat.div n 2) (fun t => k (.node v t r))) (sr (Nat.div n 2) (fun t => k (.node v l t))))) t

noncomputable def set (x : α) (t : Tr α) (n : Nat) : Tr α := setk x t n id
noncomputable def del (t : Tr α) (n : Nat) : Tr α := delk t n id

theorem get_nil (n : Nat) : get (.nil : Tr α) n = none := rfl
theorem get_node (v : Option α) (l r : Tr α) (n : Nat) :
    get (.node v l r) n = if n ≤ 1 then v else if n % 2 = 0 then get l (n / 2) else get r (n / 2) := by
  show sel (Nat.ble n 1) v (sel (Nat.beq (n % 2) 0) (get l (n / 2)) (get r (n / 2))) = _
  simp only [sel_eq, ble1, beq0, decide_eq_true_eq]

theorem single_succ {β : Type} (x : α) (f n : Nat) (k : Tr α → β) :
    single x (f + 1) n k = if n ≤ 1 then k (.node (some x) .nil .nil) else if n % 2 = 0 then single x f (n / 2) (fun t => k (.node none t .nil)) else single x f (n / 2) (fun t => k (.node none .nil t)) := by
  show sel (Nat.ble n 1) (k (.node (some x) .nil .nil)) (sel (Nat.beq (n % 2) 0) (single x f (n / 2) (fun t => k (.node none t .nil))) (single x f (n / 2) (fun t => k (.node none .nil t)))) = _
  simp only [sel_eq, ble1, beq0, decide_eq_true_eq]

theorem single_k (x : α) (f : Nat) : ∀ (n : Nat) {β : Type} (k : Tr α → β), single x f n k = k (single x f n id) := by
  induction f with
  | zero => intro n β k; rfl
  | succ f ih =>
    intro n β k
    rw [single_succ, single_succ]
    by_cases h : n ≤ 1
    · simp [h]
    · by_cases h2 : n % 2 = 0
      · simp only [h, if_false, h2, if_true]; rw [ih]; refine congrArg k ?_; symm; refine (ih _ _).trans ?_; rfl
      · simp only [h, if_false, h2]; rw [ih]; refine congrArg k ?_; symm; refine (ih _ _).trans ?_; rfl

theorem setk_node {β : Type} (x : α) (v : Option α) (l r : Tr α) (n : Nat) (k : Tr α → β) :
    setk x (.node v l r) n k = if n ≤ 1 then k (.node (some x) l r) else if n % 2 = 0 then setk x l (n / 2) (fun t => k (.node v t r)) else setk x r (n / 2) (fun t => k (.node v l t)) := by
  show sel (Nat.ble n 1) (k (.node (some x) l r)) (sel (Nat.beq (n % 2) 0) (setk x l (n / 2) (fun t => k (.node v t r))) (setk x r (n / 2) (fun t => k (.node v l t)))) = _
  simp only [sel_eq, ble1, beq0, decide_eq_true_eq]

theorem setk_k (x : α) (t : Tr α) : ∀ (n : Nat) {β : Type} (k : Tr α → β), setk x t n k = k (set x t n) := by
  induction t with
  | nil => intro n β k; exact single_k x n n k
  | node v l r ihl ihr =>
    intro n β k
    unfold set
    rw [setk_node, setk_node]
    by_cases h : n ≤ 1
    · simp [h]
    · by_cases h2 : n % 2 = 0
      · simp only [h, if_false, h2, if_true]; rw [ihl]; refine congrArg k ?_; symm; refine (ihl _ _).trans ?_; rfl
      · simp only [h, if_false, h2]; rw [ihr]; refine congrArg k ?_; symm; refine (ihr _ _).trans ?_; rfl

theorem delk_node {β : Type} (v : Option α) (l r : Tr α) (n : Nat) (k : Tr α → β) :
    delk (.node v l r) n k = if n ≤ 1 then k (.node none l r) else if n % 2 = 0 then delk l (n / 2) (fun t => k (.node v t r)) else delk r (n / 2) (fun t => k (.node v l t)) := by
  show sel (Nat.ble n 1) (k (.node none l r)) (sel (Nat.beq (n % 2) 0) (delk l (n / 2) (fun t => k (.node v t r))) (delk r (n / 2) (fun t => k (.node v l t)))) = _
  simp only [sel_eq, ble1, beq0, decide_eq_true_eq]

theorem delk_k (t : Tr α) : ∀ (n : Nat) {β : Type} (k : Tr α → β), delk t n k = k (del t n) := by
  induction t with
  | nil => intro n β k; rfl
  | node v l r ihl ihr =>
    intro n β k
    unfold del
    rw [delk_node, delk_node]
    by_cases h : n ≤ 1
    · simp [h]
    · by_cases h2 : n % 2 = 0
      · simp only [h, if_false, h2, if_true]; rw [ihl]; refine congrArg k ?_; symm; refine (ihl _ _).trans ?_; rfl
      · simp only [h, if_false, h2]; rw [ihr]; refine congrArg k ?_; symm; refine (ihr _ _).trans ?_; rfl

theorem get_single (x : α) : ∀ (f n m : Nat), 1 ≤ n → 1 ≤ m → n ≤ f → (single x f n id).get m = if m = n then some x else none := by
  intro f
  induction f with
  | zero => intro n m hn _ hf; omega
  | succ f ih =>
    intro n m hn hm hf
    rw [single_succ]
    by_cases h : n ≤ 1
    · have : n = 1 := by omega
      subst this
      simp only [Nat.le_refl, if_true, id, get_node]
      by_cases h1 : m ≤ 1
      · have : m = 1 := by omega
        simp [this]
      · have : m ≠ 1 := by omega
        simp [h1, this, get_nil]
    · simp only [h, if_false]
      by_cases h2 : n % 2 = 0
      · simp only [h2, if_true]
        rw [single_k]
        simp only [id, get_node, get_nil]
        by_cases h1 : m ≤ 1
        · have : m ≠ n := by omega
          simp [h1, this]
        · simp only [h1, if_false]
          by_cases h3 : m % 2 = 0
          · simp only [h3, if_true]
            rw [ih (n / 2) (m / 2) (by omega) (by omega) (by omega)]
            by_cases e : m = n
            · simp [e]
            · have : m / 2 ≠ n / 2 := by omega
              simp [e, this]
          · have : m ≠ n := by intro e; subst e; exact h3 h2
            simp [h3, this]
      · simp only [h2, if_false]
        rw [single_k]
        simp only [id, get_node, get_nil]
        by_cases h1 : m ≤ 1
        · have : m ≠ n := by omega
          simp [h1, this]
        · simp only [h1, if_false]
          by_cases h3 : m % 2 = 0
          · have : m ≠ n := by intro e; subst e; exact h2 h3
            simp [h3, this]
          · simp only [h3, if_false]
            rw [ih (n / 2) (m / 2) (by omega) (by omega) (by omega)]
            by_cases e : m = n
            · simp [e]
            · have : m / 2 ≠ n / 2 := by omega
              simp [e, this]

theorem get_set (x : α) (t : Tr α) : ∀ (n m : Nat), 1 ≤ n → 1 ≤ m → (set x t n).get m = if m = n then some x else t.get m := by
  induction t with
  | nil => intro n m hn hm; exact get_single x n n m hn hm (Nat.le_refl _)
  | node v l r ihl ihr =>
    intro n m hn hm
    unfold set
    rw [setk_node]
    by_cases h : n ≤ 1
    · have : n = 1 := by omega
      subst this
      simp only [Nat.le_refl, if_true, id, get_node]
      by_cases h1 : m ≤ 1
      · have : m = 1 := by omega
        simp [this]
      · have : m ≠ 1 := by omega
        simp [h1, this]
    · simp only [h, if_false]
      by_cases h2 : n % 2 = 0
      · simp only [h2, if_true]
        rw [setk_k]
        simp only [id, get_node]
        by_cases h1 : m ≤ 1
        · have : m ≠ n := by omega
          simp [h1, this]
        · simp only [h1, if_false]
          by_cases h3 : m % 2 = 0
          · simp only [h3, if_true]
            rw [ihl (n / 2) (m / 2) (by omega) (by omega)]
            by_cases e : m = n
            · simp [e]
            · have : m / 2 ≠ n / 2 := by omega
              simp [e, this]
          · have : m ≠ n := by intro e; subst e; exact h3 h2
            simp [h3, this]
      · simp only [h2, if_false]
        rw [setk_k]
        simp only [id, get_node]
        by_cases h1 : m ≤ 1
        · have : m ≠ n := by omega
          simp [h1, this]
        · simp only [h1, if_false]
          by_cases h3 : m % 2 = 0
          · have : m ≠ n := by intro e; subst e; exact h2 h3
            simp [h3, this]
          · simp only [h3, if_false]
            rw [ihr (n / 2) (m / 2) (by omega) (by omega)]
            by_cases e : m = n
            · simp [e]
            · have : m / 2 ≠ n / 2 := by omega
              simp [e, this]

theorem get_del (t : Tr α) : ∀ (n m : Nat), 1 ≤ n → 1 ≤ m → (del t n).get m = if m = n then none else t.get m := by
  induction t with
  | nil => intro n m hn hm; show (none : Option α) = _; split <;> rfl
  | node v l r ihl ihr =>
    intro n m hn hm
    unfold del
    rw [delk_node]
    by_cases h : n ≤ 1
    · have : n = 1 := by omega
      subst this
      simp only [Nat.le_refl, if_true, id, get_node]
      by_cases h1 : m ≤ 1
      · have : m = 1 := by omega
        simp [this]
      · have : m ≠ 1 := by omega
        simp [h1, this]
    · simp only [h, if_false]
      by_cases h2 : n % 2 = 0
      · simp only [h2, if_true]
        rw [delk_k]
        simp only [id, get_node]
        by_cases h1 : m ≤ 1
        · have : m ≠ n := by omega
          simp [h1, this]
        · simp only [h1, if_false]
          by_cases h3 : m % 2 = 0
          · simp only [h3, if_true]
            rw [ihl (n / 2) (m / 2) (by omega) (by omega)]
            by_cases e : m = n
            · simp [e]
            · have : m / 2 ≠ n / 2 := by omega
              simp [e, this]
          · have : m ≠ n := by intro e; subst e; exact h3 h2
            simp [h3, this]
      · simp only [h2, if_false]
        rw [delk_k]
        simp only [id, get_node]
        by_cases h1 : m ≤ 1
        · have : m ≠ n := by omega
          simp [h1, this]
        · simp only [h1, if_false]
          by_cases h3 : m % 2 = 0
          · have : m ≠ n := by intro e; subst e; exact h2 h3
            simp [h3, this]
          · simp only [h3, if_false]
            rw [ihr (n / 2) (m / 2) (by omega) (by omega)]
            by_cases e : m = n
            · simp [e]
            · have : m / 2 ≠ n / 2 := by omega
              simp [e, this]
end Tr
end Go.Am
