/-
  The abstract machine, part 4: what its values and its memory stand for. No conditions.
-/
import Derived.Test.YtgmhcbmkdimoiaaGreatDoorAm3
import Derived.Laws.IdiomCopy
import Derived.Laws.Cells
import Derived.Below
namespace Go.Am

/-- Where a name's region lies: its block, its begin, its cells up to where it may grow, the cells of an element. -/
structure Reg where
  b : Nat
  d : Nat
  k : Nat
  s : Nat
  f : List Value := []

abbrev Env := Nat → Option Reg

def bytesOf (l : List Nat) : ByteArray := ⟨(l.map UInt8.ofNat).toArray⟩

mutual
inductive Rel (E : Env) : AVal → Value → Prop where
  | bool (b : Bool) : Rel E (.bool b) (.bool b)
  | int (k : IntKind) (n : Int) : Rel E (.int k n) (.int k n)
  | str (s : List Nat) (h : ∀ b ∈ s, b < 256) : Rel E (.str s) (.string (bytesOf s))
  | nilp : Rel E .nilp (.pointer none)
  | ptr (n off : Nat) (r : Reg) (h : E n = some r) : Rel E (.ptr n off) (.pointer (some ⟨r.b, r.d + off, none⟩))
  | nils : Rel E .nils (.slice none 0 0)
  | slcN (n off len c : Nat) (r : Reg) (h : E n = some r) (hc : off + c * r.s = r.k) (hl : len ≤ c) : Rel E (.slc n off len none) (.slice (some ⟨r.b, r.d + off, none⟩) len c)
  | slcS (n off len c : Nat) (r : Reg) (h : E n = some r) : Rel E (.slc n off len (some c)) (.slice (some ⟨r.b, r.d + off, none⟩) len c)
  | emp (n : Nat) (r : Reg) (a : Addr) (c : Nat) (h : E n = some r) (ha : a.block = r.b) (hs : a.spot = none) : Rel E (.emp n false) (.slice (some a) 0 c)
  | empN (n : Nat) (r : Reg) (a : Addr) (h : E n = some r) (ha : a.block = r.b) (hs : a.spot = none) : Rel E (.emp n true) (.slice (some a) 0 0)
  | nilm : Rel E .nilm (.map none)
  | map (n : Nat) (r : Reg) (h : E n = some r) : Rel E (.map n) (.map (some r.b))
  | fn (f : FuncId) (a b : List AVal) (x y : Array Value) (ha : RelL E a x.toList) (hb : RelL E b y.toList) : Rel E (.fn f a b) (.func (.func f) x y)
  | nilf : Rel E .nilf .nilFunc
  | ifc (t : TypeId) (a : AVal) (v : Value) (h : Rel E a v) : Rel E (.ifc t a) (.iface t v)
  | nili : Rel E .nili .nilIface
  | agg (a : List AVal) (x : Array Value) (h : RelL E a x.toList) : Rel E (.agg a) (.agg x)
  | tup (a : List AVal) (x : Array Value) (h : RelL E a x.toList) : Rel E (.tup a) (.tuple x)
  | tok (j : Nat) (v : Value) (r : Reg) (h : E j = some r) (hf : r.f = [v]) (hv : v.oneCell' = true) : Rel E (.tok j) v
  | slo (n len q c : Nat) (r : Reg) (h : E n = some r) (hq : r.f.length = q * r.s) (hl : q + len ≤ c) (hc : c * r.s ≤ r.k) : Rel E (.slo n len) (.slice (some ⟨r.b, r.d, none⟩) (q + len) c)
inductive RelL (E : Env) : List AVal → List Value → Prop where
  | nil : RelL E [] []
  | cons (a : AVal) (v : Value) (l : List AVal) (m : List Value) (h : Rel E a v) (t : RelL E l m) : RelL E (a :: l) (v :: m)
end

def Ext (E E' : Env) : Prop := ∀ n r, E n = some r → E' n = some r
theorem Ext.refl (E : Env) : Ext E E := fun _ _ h => h
theorem Ext.trans {A B C : Env} (h : Ext A B) (k : Ext B C) : Ext A C := fun n r x => k n r (h n r x)

theorem Rel.mono {E E' : Env} (hx : Ext E E') {a : AVal} {v : Value} (h : Rel E a v) : Rel E' a v := by
  refine Rel.rec (motive_1 := fun a v _ => Rel E' a v) (motive_2 := fun l m _ => RelL E' l m) ?_ ?_ ?_ ?_ ?_ ?_ ?_ ?_ ?_ ?_ ?_ ?_ ?_ ?_ ?_ ?_ ?_ ?_ ?_ ?_ ?_ ?_ h
  · intro b; exact .bool b
  · intro k n; exact .int k n
  · intro s h; exact .str s h
  · exact .nilp
  · intro n off r h; exact .ptr n off r (hx _ _ h)
  · exact .nils
  · intro n off len c r h hc hl; exact .slcN n off len c r (hx _ _ h) hc hl
  · intro n off len c r h; exact .slcS n off len c r (hx _ _ h)
  · intro n r a c h ha hs; exact .emp n r a c (hx _ _ h) ha hs
  · intro n r a h ha hs; exact .empN n r a (hx _ _ h) ha hs
  · exact .nilm
  · intro n r h; exact .map n r (hx _ _ h)
  · intro f a b x y _ _ ia ib; exact .fn f a b x y ia ib
  · exact .nilf
  · intro t a v _ ih; exact .ifc t a v ih
  · exact .nili
  · intro a x _ ih; exact .agg a x ih
  · intro a x _ ih; exact .tup a x ih
  · intro j v r h hf hv; exact .tok j v r (hx _ _ h) hf hv
  · intro n len q c r h hq hl hc; exact .slo n len q c r (hx _ _ h) hq hl hc
  · exact .nil
  · intro a v l m _ _ ih it; exact .cons a v l m ih it

theorem RelL.mono {E E' : Env} (hx : Ext E E') {l : List AVal} {m : List Value} (h : RelL E l m) : RelL E' l m := by
  induction l generalizing m with
  | nil => cases h; exact .nil
  | cons a l ih => cases h with | cons _ v _ m h t => exact .cons _ _ _ _ (h.mono hx) (ih t)

theorem RelL.length {E : Env} {l : List AVal} {m : List Value} (h : RelL E l m) : l.length = m.length := by
  induction l generalizing m with
  | nil => cases h; rfl
  | cons a l ih => cases h with | cons _ v _ m h t => simp [ih t]

theorem RelL.get {E : Env} {l : List AVal} {m : List Value} (h : RelL E l m) (i : Nat) (a : AVal) (hi : l[i]? = some a) : ∃ v, m[i]? = some v ∧ Rel E a v := by
  induction l generalizing m i with
  | nil => simp at hi
  | cons b l ih =>
    cases h with
    | cons _ v _ m h t =>
      cases i with
      | zero => simp at hi; subst hi; exact ⟨v, by simp, h⟩
      | succ i => simpa using ih t i (by simpa using hi)

theorem RelL.of_get {E : Env} {l : List AVal} {m : List Value} (hl : l.length = m.length) (h : ∀ (i : Nat) (a : AVal) (v : Value), l[i]? = some a → m[i]? = some v → Rel E a v) : RelL E l m := by
  induction l generalizing m with
  | nil => cases m with | nil => exact .nil | cons _ _ => simp at hl
  | cons a l ih =>
    cases m with
    | nil => simp at hl
    | cons v m => exact .cons _ _ _ _ (h 0 a v (by simp) (by simp)) (ih (by simpa using hl) fun i a v h1 h2 => h (i + 1) a v (by simpa using h1) (by simpa using h2))

theorem RelL.append {E : Env} {a b : List AVal} {x y : List Value} (h : RelL E a x) (k : RelL E b y) : RelL E (a ++ b) (x ++ y) := by
  induction a generalizing x with
  | nil => cases h; exact k
  | cons _ _ ih => cases h with | cons _ _ _ _ h t => exact .cons _ _ _ _ h (ih t)

theorem RelL.drop {E : Env} {a : List AVal} {x : List Value} (h : RelL E a x) (n : Nat) : RelL E (a.drop n) (x.drop n) := by
  induction n generalizing a x with
  | zero => simpa using h
  | succ n ih => cases h with | nil => exact .nil | cons _ _ _ _ _ t => simpa using ih t
theorem RelL.take {E : Env} {a : List AVal} {x : List Value} (h : RelL E a x) (n : Nat) : RelL E (a.take n) (x.take n) := by
  induction n generalizing a x with
  | zero => exact .nil
  | succ n ih => cases h with | nil => exact .nil | cons _ _ _ _ h t => exact .cons _ _ _ _ h (ih t)

/-- Entries of a map. -/
inductive RelE (E : Env) : List (AVal × AVal × Nat) → List MapEntry → Prop where
  | nil : RelE E [] []
  | cons (a b : AVal) (n : Nat) (u v : Value) (l : List (AVal × AVal × Nat)) (m : List MapEntry) (h : Rel E a u) (k : Rel E b v) (t : RelE E l m) :
      RelE E ((a, b, n) :: l) (⟨u, v, n⟩ :: m)

theorem RelE.mono {E E' : Env} (hx : Ext E E') {l : List (AVal × AVal × Nat)} {m : List MapEntry} (h : RelE E l m) : RelE E' l m := by
  induction h with
  | nil => exact .nil
  | cons a b n u v l m h k _ ih => exact .cons a b n u v l m (h.mono hx) (k.mono hx) ih

def own : AObj → Bool
  | .row _ _ (.ro _) => false
  | _ => true

def ObjRel (E : Env) (w : World) (o : AObj) (r : Reg) : Prop :=
  match o with
  | .row cs t m => ∃ cells fr, w.heap[r.b]? = some (.cells cells t fr) ∧ r.d + r.k ≤ cells.size ∧ cs.length ≤ r.k ∧ (m = .exact → cs.length = r.k ∧ r.d = 0 ∧ cells.size = cs.length) ∧ (∀ s, m = .grow s ∨ m = .ro s → r.s = s) ∧
      (own (.row cs t m) = true → fr.1 = fr.2 ∨ cells.size ≤ fr.1) ∧ onesV cs = true ∧ ∀ i c, cs[i]? = some c → ∃ v, cells[r.d + i]? = some v ∧ Rel E c v
  | .map es clock => ∃ mes : Array MapEntry, w.heap[r.b]? = some (.map mes clock) ∧ RelE E es mes.toList
  | .iter m since seen stepped => r.d = 0 ∧ ∃ (mo : Option Nat) (sn : Array Nat), w.heap[r.b]? = some (.mapIter mo since sn stepped) ∧ sn.toList = seen.reverse ∧
      (match m with | none => mo = none | some n => ∃ r', E n = some r' ∧ mo = some r'.b)
  | .siter s pos => r.d = 0 ∧ w.heap[r.b]? = some (.stringIter (bytesOf s) pos) ∧ ∀ b ∈ s, b < 256
  | .hrow cs t s j => (∃ rj, E j = some rj ∧ rj.f = r.f) ∧ ∃ cells fr, w.heap[r.b]? = some (.cells cells t fr) ∧ r.d + r.k ≤ cells.size ∧ r.f.length + cs.length ≤ r.k ∧ r.s = s ∧ (0 < s ∧ r.f.length ≤ 1073741824 * s) ∧
      (fr.1 = fr.2 ∨ cells.size ≤ fr.1) ∧ onesV cs = true ∧ (∀ i v, r.f[i]? = some v → cells[r.d + i]? = some v) ∧ ∀ i c, cs[i]? = some c → ∃ v, cells[r.d + r.f.length + i]? = some v ∧ Rel E c v

theorem ObjRel.mono {E E' : Env} (hx : Ext E E') {w : World} {o : AObj} {r : Reg} (h : ObjRel E w o r) : ObjRel E' w o r := by
  cases o with
  | row cs t m =>
    obtain ⟨cells, fr, h1, h2, h3, h4, h4', h5, h6, h7⟩ := h
    exact ⟨cells, fr, h1, h2, h3, h4, h4', h5, h6, fun i c hi => let ⟨v, hv, hr⟩ := h7 i c hi; ⟨v, hv, hr.mono hx⟩⟩
  | map es clock => obtain ⟨mes, h1, h2⟩ := h; exact ⟨mes, h1, h2.mono hx⟩
  | iter m since seen stepped =>
    obtain ⟨hd, mo, sn, h1, h2, h3⟩ := h
    refine ⟨hd, mo, sn, h1, h2, ?_⟩
    cases m with
    | none => exact h3
    | some n => obtain ⟨r', hr, he⟩ := h3; exact ⟨r', hx _ _ hr, he⟩
  | siter s pos => exact h
  | hrow cs t s j =>
    obtain ⟨⟨rj, hj1, hj2⟩, cells, fr, h1, h2, h3, h4, h5, h6, h7, h8, h9⟩ := h
    exact ⟨⟨rj, hx _ _ hj1, hj2⟩, cells, fr, h1, h2, h3, h4, h5, h6, h7, h8, fun i c hi => let ⟨v, hv, hr⟩ := h9 i c hi; ⟨v, hv, hr.mono hx⟩⟩

theorem ObjRel.world {E : Env} {w w' : World} {o : AObj} {r : Reg} (hw : w'.heap[r.b]? = w.heap[r.b]?) (h : ObjRel E w o r) : ObjRel E w' o r := by
  cases o <;> simpa only [ObjRel, hw] using h

structure HSat (E : Env) (h : Hp) (nx : Nat) (w : World) : Prop where
  fresh : ∀ n, nx ≤ n → E n = none
  obj : ∀ n o r, hget h n = some o → E n = some r → ObjRel E w o r
  apart : ∀ n m o o' r r', hget h n = some o → hget h m = some o' → n ≠ m → own o = true → E n = some r → E m = some r' → r.b ≠ r'.b

/-- Blocks that are owned. -/
def FP (E : Env) (h : Hp) (b : Nat) : Prop := ∃ n o r, hget h n = some o ∧ own o = true ∧ E n = some r ∧ r.b = b

structure Trans (E : Env) (h : Hp) (w : World) (E' : Env) (h' : Hp) (w' : World) : Prop where
  ext : Ext E E'
  size : w.heap.size ≤ w'.heap.size
  keep : ∀ b, b < w.heap.size → ¬ FP E h b → w'.heap[b]? = w.heap[b]? ∧ ¬ FP E' h' b
  os : w'.os = w.os
  tape : w'.tape = w.tape
  output : w'.output = w.output

theorem Trans.refl (E : Env) (h : Hp) (w : World) : Trans E h w E h w := ⟨Ext.refl E, Nat.le_refl _, fun _ _ hf => ⟨rfl, hf⟩, rfl, rfl, rfl⟩
theorem Trans.trans {E E' E'' : Env} {h h' h'' : Hp} {w w' w'' : World} (a : Trans E h w E' h' w') (b : Trans E' h' w' E'' h'' w'') : Trans E h w E'' h'' w'' :=
  ⟨a.ext.trans b.ext, Nat.le_trans a.size b.size, fun x hx hf => by
    obtain ⟨h1, h2⟩ := a.keep x hx hf
    obtain ⟨h3, h4⟩ := b.keep x (Nat.lt_of_lt_of_le hx a.size) h2
    exact ⟨h3.trans h1, h4⟩, b.os.trans a.os, b.tape.trans a.tape, b.output.trans a.output⟩

theorem hget_hset (h : Hp) (n m : Nat) (o : AObj) : hget (Tr.set o h (Nat.succ n)) m = if m = n then some o else hget h m := by
  unfold hget
  rw [Tr.get_set o h _ _ (Nat.succ_pos _) (Nat.succ_pos _)]
  simp
theorem hget_hdel (h : Hp) (n m : Nat) : hget (Tr.del h (Nat.succ n)) m = if m = n then none else hget h m := by
  unfold hget
  rw [Tr.get_del h _ _ (Nat.succ_pos _) (Nat.succ_pos _)]
  simp
theorem tget_tset (T : Tm) (n m : Nat) (v : AVal) : tget (Tr.set v T (Nat.succ n)) m = if m = n then v else tget T m := by
  unfold tget
  rw [Tr.get_set v T _ _ (Nat.succ_pos _) (Nat.succ_pos _)]
  by_cases h : m = n
  · simp [h]
  · simp [h]
theorem tget_nil (m : Nat) : tget .nil m = .tup [] := rfl
theorem hget_nil (m : Nat) : hget .nil m = none := rfl

theorem hset_k {β : Type} (h : Hp) (n : Nat) (o : AObj) (k : Hp → β) : hset h n o k = k (Tr.set o h (Nat.succ n)) := Tr.setk_k o h _ k
theorem hdel_k {β : Type} (h : Hp) (n : Nat) (k : Hp → β) : hdel h n k = k (Tr.del h (Nat.succ n)) := Tr.delk_k h _ k
theorem tset_k {β : Type} (T : Tm) (i : Nat) (v : AVal) (k : Tm → β) : tset T i v k = k (Tr.set v T (Nat.succ i)) := Tr.setk_k v T _ k

/-- Another object under an owned name, in the same block: the rest stays. -/
theorem HSat.update {E : Env} {h : Hp} {nx : Nat} {w w' : World} {n : Nat} {o o' : AObj} {r : Reg} (hs : HSat E h nx w) (hn : hget h n = some o) (ho : own o = true)
    (hr : E n = some r) (hother : ∀ b, b ≠ r.b → w'.heap[b]? = w.heap[b]?) (ho' : ObjRel E w' o' r) : HSat E (Tr.set o' h (Nat.succ n)) nx w' := by
  refine ⟨hs.fresh, ?_, ?_⟩
  · intro m x r' hm h1
    rw [hget_hset] at hm
    by_cases e : m = n
    · subst e
      simp at hm
      subst hm
      rw [hr] at h1
      cases h1
      exact ho'
    · simp [e] at hm
      exact (hs.obj m x r' hm h1).world (hother _ (Ne.symm (hs.apart n m o x r r' hn hm (Ne.symm e) ho hr h1)))
  · intro a b x y ra rb ha hb hab hx hra hrb
    rw [hget_hset] at ha hb
    by_cases ea : a = n
    · subst ea
      have eb : b ≠ a := Ne.symm hab
      simp [eb] at hb
      rw [hr] at hra
      cases hra
      exact hs.apart a b o y r rb hn hb hab ho hr hrb
    · simp [ea] at ha
      by_cases eb : b = n
      · subst eb
        rw [hr] at hrb
        cases hrb
        exact hs.apart a b x o ra r ha hn hab hx hra hr
      · simp [eb] at hb
        exact hs.apart a b x y ra rb ha hb hab hx hra hrb

theorem FP.update {E : Env} {h : Hp} {n : Nat} {o o' : AObj} (hn : hget h n = some o) (ho : own o = true) {b : Nat} (hf : FP E (Tr.set o' h (Nat.succ n)) b) : FP E h b := by
  obtain ⟨m, x, r, h1, h2, h3, h4⟩ := hf
  rw [hget_hset] at h1
  by_cases e : m = n
  · subst e; exact ⟨m, o, r, hn, ho, h3, h4⟩
  · simp [e] at h1; exact ⟨m, x, r, h1, h2, h3, h4⟩

theorem Trans.update {E : Env} {h : Hp} {w w' : World} {n : Nat} {o o' : AObj} {r : Reg} (hn : hget h n = some o) (ho : own o = true) (hr : E n = some r)
    (hother : ∀ b, b ≠ r.b → w'.heap[b]? = w.heap[b]?) (hsz : w'.heap.size = w.heap.size) (os : w'.os = w.os) (tape : w'.tape = w.tape) (out : w'.output = w.output) :
    Trans E h w E (Tr.set o' h (Nat.succ n)) w' :=
  ⟨Ext.refl E, Nat.le_of_eq hsz.symm, fun b _ hf => ⟨hother b fun e => hf ⟨n, o, r, hn, ho, hr, e.symm⟩, fun x => hf (x.update hn ho)⟩, os, tape, out⟩

/-- An env with one name more. -/
def Env.put (E : Env) (n : Nat) (r : Reg) : Env := fun m => if m = n then some r else E m
theorem Env.put_same (E : Env) (n : Nat) (r : Reg) : E.put n r n = some r := by simp [Env.put]
theorem Env.put_other (E : Env) (n m : Nat) (r : Reg) (h : m ≠ n) : E.put n r m = E m := by simp [Env.put, h]
theorem Env.ext_put (E : Env) (n : Nat) (r : Reg) (h : E n = none) : Ext E (E.put n r) := fun m x hm => by
  by_cases e : m = n
  · subst e; rw [h] at hm; cases hm
  · rw [Env.put_other _ _ _ _ e]; exact hm

/-- A new name, over a block that nobody owns. -/
theorem HSat.add {E : Env} {h : Hp} {nx nx' : Nat} {w w' : World} {n : Nat} {o : AObj} {r : Reg} (hs : HSat E h nx w) (hn : E n = none) (hnx : n < nx') (hle : nx ≤ nx')
    (hsame : ∀ m x q, hget h m = some x → E m = some q → w'.heap[q.b]? = w.heap[q.b]? ∧ q.b ≠ r.b) (ho : ObjRel (E.put n r) w' o r) :
    HSat (E.put n r) (Tr.set o h (Nat.succ n)) nx' w' := by
  refine ⟨?_, ?_, ?_⟩
  · intro m hm
    rw [Env.put_other _ _ _ _ (by omega)]
    exact hs.fresh m (by omega)
  · intro m x q hm h1
    rw [hget_hset] at hm
    by_cases e : m = n
    · subst e
      simp at hm
      subst hm
      rw [Env.put_same] at h1
      cases h1
      exact ho
    · simp [e] at hm
      rw [Env.put_other _ _ _ _ e] at h1
      exact ((hs.obj m x q hm h1).world (hsame m x q hm h1).1).mono (Env.ext_put E n r hn)
  · intro a b x y ra rb ha hb hab hx hra hrb
    rw [hget_hset] at ha hb
    by_cases ea : a = n
    · subst ea
      have eb : b ≠ a := Ne.symm hab
      simp [eb] at hb
      rw [Env.put_same] at hra
      cases hra
      rw [Env.put_other _ _ _ _ eb] at hrb
      exact Ne.symm (hsame b y rb hb hrb).2
    · simp [ea] at ha
      rw [Env.put_other _ _ _ _ ea] at hra
      by_cases eb : b = n
      · subst eb
        rw [Env.put_same] at hrb
        cases hrb
        exact (hsame a x ra ha hra).2
      · simp [eb] at hb
        rw [Env.put_other _ _ _ _ eb] at hrb
        exact hs.apart a b x y ra rb ha hb hab hx hra hrb

theorem HSat.lt {E : Env} {h : Hp} {nx : Nat} {w : World} (hs : HSat E h nx w) {n : Nat} {o : AObj} {r : Reg} (hn : hget h n = some o) (hr : E n = some r) : r.b < w.heap.size := by
  have ho := hs.obj n o r hn hr
  have : ∃ x, w.heap[r.b]? = some x := by
    cases o with
    | row cs t m => obtain ⟨cells, fr, h1, _⟩ := ho; exact ⟨_, h1⟩
    | map es c => obtain ⟨mes, h1, _⟩ := ho; exact ⟨_, h1⟩
    | iter m since seen stepped => obtain ⟨_, mo, sn, h1, _⟩ := ho; exact ⟨_, h1⟩
    | siter s pos => obtain ⟨_, h1, _⟩ := ho; exact ⟨_, h1⟩
    | hrow cs t s j => obtain ⟨_, cells, fr, h1, _⟩ := ho; exact ⟨_, h1⟩
  obtain ⟨x, hx⟩ := this
  rcases Nat.lt_or_ge r.b w.heap.size with h | h
  · exact h
  · rw [Array.getElem?_eq_none h] at hx; cases hx

/-- A new block, under a new name. -/
theorem HSat.alloc {E : Env} {h : Hp} {nx nx' : Nat} {w : World} {n : Nat} {o : AObj} {x : Obj} {d k s : Nat} (hs : HSat E h nx w) (hn : E n = none) (hnx : n < nx') (hle : nx ≤ nx')
    (ho : ObjRel (E.put n ⟨w.heap.size, d, k, s, []⟩) { w with heap := w.heap.push x } o ⟨w.heap.size, d, k, s, []⟩) :
    HSat (E.put n ⟨w.heap.size, d, k, s, []⟩) (Tr.set o h (Nat.succ n)) nx' { w with heap := w.heap.push x } :=
  hs.add hn hnx hle (fun m y q hm hq => by
    have := hs.lt hm hq
    refine ⟨?_, by simp; omega⟩
    show (w.heap.push x)[q.b]? = _
    rw [Array.getElem?_push]
    simp; omega) ho

theorem FP.put {E : Env} {h : Hp} {n : Nat} {o : AObj} {r : Reg} {b : Nat} (hf : FP (E.put n r) (Tr.set o h (Nat.succ n)) b) : b = r.b ∨ FP E h b := by
  obtain ⟨m, x, q, h1, h2, h3, h4⟩ := hf
  rw [hget_hset] at h1
  by_cases e : m = n
  · subst e; rw [Env.put_same] at h3; cases h3; exact .inl h4.symm
  · simp [e] at h1; rw [Env.put_other _ _ _ _ e] at h3; exact .inr ⟨m, x, q, h1, h2, h3, h4⟩

theorem Trans.alloc {E : Env} {h : Hp} {w : World} {n : Nat} {o : AObj} {x : Obj} {d k s : Nat} (hn : E n = none) :
    Trans E h w (E.put n ⟨w.heap.size, d, k, s, []⟩) (Tr.set o h (Nat.succ n)) { w with heap := w.heap.push x } :=
  ⟨Env.ext_put _ _ _ hn, by simp, fun b hb hf => ⟨by
    show (w.heap.push x)[b]? = _
    rw [Array.getElem?_push]
    simp; omega, fun hx => by
      rcases hx.put with e | e
      · subst e; exact Nat.lt_irrefl _ hb
      · exact hf e⟩, rfl, rfl, rfl⟩

theorem HSat.drawn {E : Env} {h : Hp} {nx : Nat} {w : World} (hs : HSat E h nx w) (n : Nat) : HSat E h nx { w with drawn := n } :=
  ⟨hs.fresh, fun m o r hm hr => (hs.obj m o r hm hr).world rfl, hs.apart⟩
theorem Trans.drawn (E : Env) (h : Hp) (w : World) (n : Nat) : Trans E h w E h { w with drawn := n } :=
  ⟨Ext.refl E, Nat.le_refl _, fun _ _ hf => ⟨rfl, hf⟩, rfl, rfl, rfl⟩

theorem HSat.del {E : Env} {h : Hp} {nx : Nat} {w : World} (hs : HSat E h nx w) (n : Nat) : HSat E (Tr.del h (Nat.succ n)) nx w := by
  refine ⟨hs.fresh, fun m o r hm hr => ?_, fun a b x y ra rb ha hb => ?_⟩
  · rw [hget_hdel] at hm
    by_cases e : m = n
    · simp [e] at hm
    · simp [e] at hm; exact hs.obj m o r hm hr
  · rw [hget_hdel] at ha hb
    by_cases ea : a = n
    · simp [ea] at ha
    · by_cases eb : b = n
      · simp [eb] at hb
      · simp [ea] at ha; simp [eb] at hb; exact hs.apart a b x y ra rb ha hb
theorem FP.del {E : Env} {h : Hp} {n b : Nat} (hf : FP E (Tr.del h (Nat.succ n)) b) : FP E h b := by
  obtain ⟨m, x, q, h1, h2, h3, h4⟩ := hf
  rw [hget_hdel] at h1
  by_cases e : m = n
  · simp [e] at h1
  · simp [e] at h1; exact ⟨m, x, q, h1, h2, h3, h4⟩

/-- What a step leaves: a transition, and what names it may have touched. -/
structure Goes (E : Env) (h : Hp) (nx : Nat) (w : World) (E' : Env) (h' : Hp) (nx' : Nat) (w' : World) : Prop where
  trans : Trans E h w E' h' w'
  le : nx ≤ nx'
  same : ∀ n, n < nx → E' n = E n
  ghost : ∀ n, n < nx → E n = none → hget h' n = hget h n

theorem Goes.refl (E : Env) (h : Hp) (nx : Nat) (w : World) : Goes E h nx w E h nx w := ⟨Trans.refl E h w, Nat.le_refl _, fun _ _ => rfl, fun _ _ _ => rfl⟩
theorem Goes.next {E E' E'' : Env} {h h' h'' : Hp} {nx nx' nx'' : Nat} {w w' w'' : World} (a : Goes E h nx w E' h' nx' w') (b : Goes E' h' nx' w' E'' h'' nx'' w'') : Goes E h nx w E'' h'' nx'' w'' :=
  ⟨a.trans.trans b.trans, Nat.le_trans a.le b.le, fun n hn => (b.same n (Nat.lt_of_lt_of_le hn a.le)).trans (a.same n hn),
    fun n hn he => (b.ghost n (Nat.lt_of_lt_of_le hn a.le) ((a.same n hn).trans he)).trans (a.ghost n hn he)⟩

/-- In one block that is owned. -/
theorem Goes.update {E : Env} {h : Hp} {nx : Nat} {w w' : World} {n : Nat} {o o' : AObj} {r : Reg} (hn : hget h n = some o) (ho : own o = true) (hr : E n = some r)
    (hother : ∀ b, b ≠ r.b → w'.heap[b]? = w.heap[b]?) (hsz : w'.heap.size = w.heap.size) (os : w'.os = w.os) (tape : w'.tape = w.tape) (out : w'.output = w.output) :
    Goes E h nx w E (Tr.set o' h (Nat.succ n)) nx w' :=
  ⟨Trans.update hn ho hr hother hsz os tape out, Nat.le_refl _, fun _ _ => rfl, fun m _ he => by
    rw [hget_hset, if_neg]
    rintro rfl
    rw [hr] at he
    cases he⟩

/-- A new block, under a new name. -/
theorem Goes.alloc {E : Env} {h : Hp} {nx nx' : Nat} {w : World} {n : Nat} {o : AObj} {x : Obj} {d k s : Nat} (hn : E n = none) (hle : nx ≤ n) (hnx : nx ≤ nx') :
    Goes E h nx w (E.put n ⟨w.heap.size, d, k, s, []⟩) (Tr.set o h (Nat.succ n)) nx' { w with heap := w.heap.push x } :=
  ⟨Trans.alloc hn, hnx, fun m hm => Env.put_other _ _ _ _ (by omega), fun m hm _ => by rw [hget_hset, if_neg (by omega)]⟩

theorem Goes.drawn (E : Env) (h : Hp) (nx : Nat) (w : World) (n : Nat) : Goes E h nx w E h nx { w with drawn := n } :=
  ⟨Trans.drawn E h w n, Nat.le_refl _, fun _ _ => rfl, fun _ _ _ => rfl⟩

/-- A name that is dropped. -/
theorem Goes.del {E : Env} {h : Hp} {nx : Nat} {w : World} {n : Nat} {r : Reg} (hr : E n = some r) : Goes E h nx w E (Tr.del h (Nat.succ n)) nx w :=
  ⟨⟨Ext.refl E, Nat.le_refl _, fun _ _ hf => ⟨rfl, fun x => hf x.del⟩, rfl, rfl, rfl⟩, Nat.le_refl _, fun _ _ => rfl, fun m _ he => by
    rw [hget_hdel, if_neg]
    rintro rfl
    rw [hr] at he
    cases he⟩

theorem HSat.congr {E : Env} {h h' : Hp} {nx : Nat} {w : World} (hs : HSat E h nx w) (he : ∀ n, hget h' n = hget h n) : HSat E h' nx w :=
  ⟨hs.fresh, fun n o r hn => by rw [he] at hn; exact hs.obj n o r hn, fun a b x y ra rb ha hb => by rw [he] at ha hb; exact hs.apart a b x y ra rb ha hb⟩
theorem FP.congr {E : Env} {h h' : Hp} {b : Nat} (he : ∀ n, hget h' n = hget h n) (hf : FP E h' b) : FP E h b := by
  obtain ⟨n, o, r, h1, h2⟩ := hf
  rw [he] at h1
  exact ⟨n, o, r, h1, h2⟩
theorem Goes.congr {E E' : Env} {h h' h'' : Hp} {nx nx' : Nat} {w w' : World} (g : Goes E h nx w E' h' nx' w') (he : ∀ n, hget h'' n = hget h' n) : Goes E h nx w E' h'' nx' w' :=
  ⟨⟨g.trans.ext, g.trans.size, fun b hb hf => let ⟨h1, h2⟩ := g.trans.keep b hb hf; ⟨h1, fun x => h2 (x.congr he)⟩, g.trans.os, g.trans.tape, g.trans.output⟩, g.le, g.same, fun n hn hE => (he n).trans (g.ghost n hn hE)⟩

end Go.Am
