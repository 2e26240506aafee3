/-
  The walk of TermReplies: it returns true, whatever its arguments. Conditions: that the arguments read as slices.
-/
import Derived.Test.YtgmhcbmkdimoiaaGreatDoorCl
import Derived.WalkKit
import Derived.ProofKit
import Derived.Below
import Derived.Laws.OwnMore
import Derived.Deep.AppendLies
import Derived.Deep.Draws
import Derived.Deep.QuietTactic
import Derived.BigQuiet
import Derived.IntWalk
import Derived.Lib.Hide
set_option maxRecDepth 100000
namespace Go.Proofs
open Go.RowKit Go.Am
namespace TR
theorem block_of_add (a : Addr) (n : Nat) : (a.add n).block = a.block := by unfold Addr.add; split <;> rfl
theorem add_of_add (a : Addr) (i j : Nat) : (a.add i).add j = a.add (i + j) := by
  unfold Addr.add
  by_cases hi : i = 0 <;> by_cases hj : j = 0 <;> simp [hi, hj, Nat.add_assoc]

def Reads (w : World) (B size : Nat) (A : Option Addr) (n : Nat) (xs : List Value) : Prop :=
  xs.length = n * size ∧ (0 < n → ∃ ad, A = some ad ∧ ad.block < B ∧ ∀ j u, xs[j]? = some u → w.cell? (ad.add j) = some u)

section
variable {w w' : World} {B B' size n : Nat} {A : Option Addr} {xs : List Value}
theorem Reads.none_ : Reads w B size A 0 [] := ⟨by simp, fun h => absurd h (by omega)⟩
theorem Reads.at_ {k : Nat} (h : Reads w B 1 A n xs) (hk : k < n) : ∃ ad u, A = some ad ∧ ad.block < B ∧ xs[k]? = some u ∧ w.cell? (ad.add k) = some u := by
  obtain ⟨ad, e, hb, hc⟩ := h.2 (by omega)
  have hl : k < xs.length := by have := h.1; omega
  exact ⟨ad, xs[k], e, hb, List.getElem?_eq_getElem hl, hc k _ (List.getElem?_eq_getElem hl)⟩
theorem Reads.keep (h : Reads w B size A n xs) (hk : ∀ p : Addr, p.block < B → w'.cell? p = w.cell? p) : Reads w' B size A n xs :=
  ⟨h.1, fun hn => by
    obtain ⟨ad, e, hb, hc⟩ := h.2 hn
    exact ⟨ad, e, hb, fun j u hu => (hk _ (by rw [block_of_add]; exact hb)).trans (hc j u hu)⟩⟩
theorem Reads.more (h : Reads w B size A n xs) (hB : B ≤ B') : Reads w B' size A n xs :=
  ⟨h.1, fun hn => by
    obtain ⟨ad, e, hb, hc⟩ := h.2 hn
    exact ⟨ad, e, by omega, hc⟩⟩
theorem Reads.below (h : Reads w B size A n xs) (hb : Below B w w') : Reads w' B size A n xs := h.keep fun _ hp => hb.cell hp
theorem Reads.drew (h : Reads w B size A n xs) : Reads w.drew B size A n xs := h
theorem Reads.drewN (h : Reads w B size A n xs) (k : Nat) : Reads (w.drewN k) B size A n xs := h
theorem Reads.alloc (h : Reads w B size A n xs) (hB : B ≤ w.heap.size) (o : Obj) : Reads (w.alloc o) B size A n xs := h.keep fun p hp => World.cell?_alloc_lt w o p (by omega)
theorem Reads.setCell (h : Reads w B size A n xs) {p : Addr} (hB : B ≤ p.block) (u : Value) : Reads (w.setCell p u) B size A n xs :=
  h.keep fun q hq => World.cell?_setCell_other w p q u (fun e => by subst e; omega)
theorem Reads.grown (h : Reads w B size A n xs) {row : Option Nat} (hg : w.grownBy w' row) (hB : B ≤ w.heap.size) (hr : ∀ g, row = some g → B ≤ g) : Reads w' B size A n xs :=
  h.keep fun p hp => World.cell?_of_block (hg.block p.block (by omega) (fun e => by have := hr _ e.symm; omega))
theorem Reads.cut (h : Reads w B size A n xs) {k cap : Nat} (hk : k ≤ n) (hc : n ≤ cap) :
    Reads w B size (if cap = k then A else A.map (·.add (k * size))) (n - k) (xs.drop (k * size)) := by
  refine ⟨by rw [List.length_drop, h.1, Nat.sub_mul], fun hn => ?_⟩
  obtain ⟨ad, rfl, hb, hcell⟩ := h.2 (by omega)
  rw [if_neg (by omega)]
  refine ⟨ad.add (k * size), rfl, by rw [block_of_add]; exact hb, fun j u hu => ?_⟩
  rw [add_of_add]
  exact hcell _ u (by rw [← hu, List.getElem?_drop])
theorem Reads.of_own {base : Nat} {e : TypeId} {c : Nat} (h : w.ownsRow base e size (.slice A n c) n xs) : Reads w w.heap.size size A n xs := by
  refine ⟨h.1, fun hn => ?_⟩
  obtain ⟨g, cap, hv, _, hlt⟩ := h.form hn
  have hA : A = some ⟨g, 0, none⟩ := by injection hv
  subst hA
  exact ⟨_, rfl, hlt, h.cells (g := g) rfl⟩
end
theorem small_c (w : World) : Calls Tryz.prog 6 #[] w fun e w' => e = .returned (.agg #[.int .i64 4, .int .i64 6, .int .i64 2, .int .i64 2, .int .i64 3, .int .i64 2000]) ∧ Below w.heap.size w w' := small_ok w
theorem new_c (w : World) : Calls Tryz.prog 5 #[.agg #[.int .i64 4, .int .i64 6, .int .i64 2, .int .i64 2, .int .i64 3, .int .i64 2000]] w fun e w' => ∃ p, e = .returned (.tuple #[.pointer (some p), .int .i64 0]) ∧ J 0 [] p w.heap.size w' ∧ Below w.heap.size w w' := new_ok w
theorem u33 : Tryz.prog.underlying 33 = some (.slice 5) := by kernel_rfl
theorem u5 : Tryz.prog.underlying 5 = some (.int .u8) := by kernel_rfl
theorem conv_new (w : World) (cv : Array Value) (n : Nat) (hn : cv.size = n) (hn0 : n ≠ 0) :
    (convert 33 33 (.slice (some ⟨w.heap.size, 0, none⟩) n n)).run Tryz.prog (w.alloc (.cells cv 5)) = .ok (.slice (some ⟨w.heap.size, 0, none⟩) n n) (w.alloc (.cells cv 5 (n, n + 1))) := by
  subst hn
  have hb : (w.alloc (.cells cv 5)).heap[w.heap.size]? = some (.cells cv 5 (0, 0)) := heap_new w _
  have hsh : (w.alloc (.cells cv 5)).shape? w.heap.size = some (5, cv.size) := by unfold World.shape?; rw [hb]
  have hrun : (convert 33 33 (.slice (some ⟨w.heap.size, 0, none⟩) cv.size cv.size)).run Tryz.prog (w.alloc (.cells cv 5)) = .ok (.slice (some ⟨w.heap.size, 0, none⟩) cv.size cv.size) ((w.alloc (.cells cv 5)).freeze ⟨w.heap.size, cv.size, none⟩ 1) := by
    simp [convert, run_und _ u33, run_und _ u5, markStringish, hsh]
  rw [hrun]
  have hw : (w.alloc (.cells cv 5)).freeze ⟨w.heap.size, cv.size, none⟩ 1 = w.alloc (.cells cv 5 (cv.size, cv.size + 1)) := by
    unfold World.freeze
    rw [if_neg (by omega)]
    have hh : (w.alloc (.cells cv 5)).heap = w.heap.push (.cells cv 5) := rfl
    have hh2 : w.alloc (.cells cv 5 (cv.size, cv.size + 1)) = { w.alloc (.cells cv 5) with heap := w.heap.push (.cells cv 5 (cv.size, cv.size + 1)) } := rfl
    rw [hh2, hh]
    congr 1
    refine Array.ext (by simp) fun i h1 h2 => ?_
    rw [Array.getElem_modify]
    simp only [Array.getElem_push]
    by_cases h : i < w.heap.size
    · rw [if_neg (by show ¬ (w.heap.size = i); omega), dif_pos h, dif_pos h]
    · have : w.heap.size = i := by simp at h1; omega
      rw [if_pos (by exact this), dif_neg h, dif_neg h]
      simp
  rw [hw]
theorem feed0 {c : Nat} {R : List Nat} {p : Addr} {s0 : Nat} {w : World} (hc : c ≤ 60) (hR : R.length + 11 ≤ 1048576) (hJ : J c R p s0 w) :
    Calls Tryz.prog 7 #[.pointer (some p), .slice (some ⟨w.heap.size, 0, none⟩) 4 4] (w.alloc (.cells #[.int .u8 27, .int .u8 91, .int .u8 53, .int .u8 110] 5 (4, 5))) fun e w' => e = .returned (.tuple #[]) ∧ J c (R ++ [27, 91, 48, 110]) p s0 w' ∧ Below s0 w w' :=
  feed (m := 0) (C_ok _) Tryz.func7 (by kernel_rfl) (by kernel_rfl) hc (by omega) hR hJ
theorem feed1 {c : Nat} {R : List Nat} {p : Addr} {s0 : Nat} {w : World} (hc : c ≤ 60) (hR : R.length + 11 ≤ 1048576) (hJ : J c R p s0 w) :
    Calls Tryz.prog 7 #[.pointer (some p), .slice (some ⟨w.heap.size, 0, none⟩) 3 3] (w.alloc (.cells #[.int .u8 27, .int .u8 91, .int .u8 99] 5 (3, 4))) fun e w' => e = .returned (.tuple #[]) ∧ J c (R ++ [27, 91, 63, 54, 50, 59, 52, 99]) p s0 w' ∧ Below s0 w w' :=
  feed (m := 1) (C_ok _) Tryz.func7 (by kernel_rfl) (by kernel_rfl) hc (by omega) hR hJ
theorem feed2 {c : Nat} {R : List Nat} {p : Addr} {s0 : Nat} {w : World} (hc : c ≤ 60) (hR : R.length + 11 ≤ 1048576) (hJ : J c R p s0 w) :
    Calls Tryz.prog 7 #[.pointer (some p), .slice (some ⟨w.heap.size, 0, none⟩) 27 27] (w.alloc (.cells #[.int .u8 27, .int .u8 95, .int .u8 71, .int .u8 97, .int .u8 61, .int .u8 113, .int .u8 44, .int .u8 105, .int .u8 61, .int .u8 51, .int .u8 44, .int .u8 115, .int .u8 61, .int .u8 49, .int .u8 44, .int .u8 118, .int .u8 61, .int .u8 49, .int .u8 59, .int .u8 65, .int .u8 65, .int .u8 65, .int .u8 65, .int .u8 65, .int .u8 65, .int .u8 27, .int .u8 92] 5 (27, 28))) fun e w' => e = .returned (.tuple #[]) ∧ J c (R ++ [27, 95, 71, 105, 61, 51, 59, 79, 75, 27, 92]) p s0 w' ∧ Below s0 w w' :=
  feed (m := 2) (C_ok _) Tryz.func7 (by kernel_rfl) (by kernel_rfl) hc (by omega) hR hJ
theorem feed3 {c : Nat} {R : List Nat} {p : Addr} {s0 : Nat} {w : World} (hc : c < 60) (hJ : J c R p s0 w) :
    Calls Tryz.prog 7 #[.pointer (some p), .slice (some ⟨w.heap.size, 0, none⟩) 1 1] (w.alloc (.cells #[.int .u8 120] 5 (1, 2))) fun e w' => e = .returned (.tuple #[]) ∧ J (c + 1) R p s0 w' ∧ Below s0 w w' :=
  feedx (C_ok _) Tryz.func7 (by kernel_rfl) (by kernel_rfl) hc hJ
theorem u9 : Tryz.prog.underlying 9 = some .string := by kernel_rfl
theorem conv_bytes (w : World) (q : Option Addr) (m c : Nat) : (convert 33 9 (.slice q m c)).run Tryz.prog w = (Conv.bytesToString (.slice q m c)).run Tryz.prog w := by
  unfold convert
  rw [Sem.run_bind, run_und w u33, Result.andThen_ok, Sem.run_bind, run_und w u9, Result.andThen_ok]
  show (do match ← underlying 5 with
    | .int .u8 => Conv.bytesToString (.slice q m c)
    | .int .i32 => Conv.runesToString (.slice q m c)
    | _ => stuck "Convert: a slice of what to string?" : Sem Value).run Tryz.prog w = _
  rw [Sem.run_bind, run_und w u5, Result.andThen_ok]
theorem conv_read (w : World) (b o cap : Nat) (R : List Nat) (h : ∀ i x, R[i]? = some x → w.cell? ⟨b, o + i, none⟩ = some (bv x)) : (convert 33 9 (.slice (some ⟨b, o, none⟩) R.length cap)).run Tryz.prog w = .ok (.string (bytesOf R)) w := by
  have hload := run_loadCells_list (P := Tryz.prog) w ⟨b, o, none⟩ ((R.map Int.ofNat).map (Value.int .u8)) (fun j v hj => by
    rw [List.map_map, List.getElem?_map] at hj
    cases hx : R[j]? with
    | none => rw [hx] at hj; cases hj
    | some x => rw [hx] at hj; cases hj; rw [Addr.add_lit]; exact h j x hx)
  have hl : ((R.map Int.ofNat).map (Value.int .u8)).length = R.length := by simp
  rw [hl] at hload
  rw [conv_bytes, run_bytesToString w _ _ _ _ hload, fold_bytes]
  have : (⟨ByteArray.empty.data ++ (R.map UInt8.ofNat).toArray⟩ : ByteArray) = bytesOf R := by
    apply ByteArray.ext; apply Array.ext'; simp [bytesOf]
  rw [this]
theorem conv_nil (w : World) : (convert 33 9 (.slice none 0 0)).run Tryz.prog w = .ok (.string (bytesOf [])) w := by
  rw [conv_bytes]
  rfl
theorem replies_w {c : Nat} {R : List Nat} {p : Addr} {s0 : Nat} {w : World} (hJ : J c R p s0 w) :
    Calls Tryz.prog 8 #[.pointer (some p)] w fun e w' => ∃ a L cap, e = .returned (.slice a L cap) ∧ L = R.length ∧ (convert 33 9 (.slice a L cap)).run Tryz.prog w' = .ok (.string (bytesOf R)) w' ∧ J c [] p s0 w' ∧ Below s0 w w' := by
  refine (replies_ok hJ).mono ?_
  rintro e w' ⟨v, rfl, hR, hJ', hb⟩
  rcases hR with ⟨rfl, rfl⟩ | ⟨b, o, cap, rfl, hcap, hcell⟩
  · exact ⟨none, 0, 0, rfl, rfl, conv_nil w', hJ', hb⟩
  · exact ⟨_, _, cap, rfl, rfl, conv_read w' b o cap R hcell, hJ', hb⟩
theorem replies_0 {c : Nat} {p : Addr} {s0 : Nat} {w : World} (hJ : J c [] p s0 w) :
    Calls Tryz.prog 8 #[.pointer (some p)] w fun e w' => ∃ a cap, e = .returned (.slice a 0 cap) ∧ J c [] p s0 w' ∧ Below s0 w w' := by
  refine (replies_ok hJ).mono ?_
  rintro e w' ⟨v, rfl, hR, hJ', hb⟩
  rcases hR with ⟨_, rfl⟩ | ⟨b, o, cap, rfl, _, _⟩
  · exact ⟨none, 0, rfl, hJ', hb⟩
  · exact ⟨_, cap, rfl, hJ', hb⟩
def Lp (n s0 : Nat) (w : World) (p : Addr) (want got i : Value) (wr : World) : Prop :=
  ∃ (k c : Nat) (Rl Gl : List Nat), k ≤ n ∧ c ≤ k ∧ i = .int .i64 k ∧ want = .string (bytesOf (Gl ++ Rl)) ∧ got = .string (bytesOf Gl) ∧ J c Rl p s0 wr ∧ Below w.heap.size w wr ∧ (Gl ++ Rl).length ≤ 11 * k

theorem int_succ (k : Nat) : Value.int .i64 ((k : Int) + 1) = Value.int .i64 ((k + 1 : Nat) : Int) := by simp
theorem meas (n k : Nat) (h : k < n) : n - (intOf (Value.int .i64 ((k : Int) + 1))).toNat < n - (intOf (Value.int .i64 (k : Int))).toNat := by
  simp [intOf]
  omega
section
variable {n s0 k c : Nat} {w w4 : World} {p : Addr} {Gl Rl s : List Nat} {lit : ByteArray}
theorem close1 (hl : bytesOf s = lit) (hs : s.length ≤ 11) (hkn : k < n) (hck : c ≤ k) (hJ : J c (Rl ++ s) p s0 w4) (hb : Below w.heap.size w w4) (hlen : (Gl ++ Rl).length ≤ 11 * k) :
    Lp n s0 w p (.string (bytesOf (Gl ++ Rl) ++ lit)) (.string (bytesOf Gl)) (.int .i64 ((k : Int) + 1)) w4 ∧ n - (intOf (Value.int .i64 ((k : Int) + 1))).toNat < n - (intOf (Value.int .i64 (k : Int))).toNat :=
  ⟨⟨k + 1, c, Rl ++ s, Gl, by omega, by omega, int_succ k, by rw [← hl, bytesOf_append, List.append_assoc], rfl, hJ, hb, by simp at hlen ⊢; omega⟩, meas n k hkn⟩
theorem close1a (hl : bytesOf s = lit) (hs : s.length ≤ 11) (hkn : k < n) (hck : c ≤ k) (hJ : J c [] p s0 w4) (hb : Below w.heap.size w w4) (hlen : (Gl ++ Rl).length ≤ 11 * k) :
    Lp n s0 w p (.string (bytesOf (Gl ++ Rl) ++ lit)) (.string (bytesOf Gl ++ bytesOf (Rl ++ s))) (.int .i64 ((k : Int) + 1)) w4 ∧ n - (intOf (Value.int .i64 ((k : Int) + 1))).toNat < n - (intOf (Value.int .i64 (k : Int))).toNat :=
  ⟨⟨k + 1, c, [], Gl ++ (Rl ++ s), by omega, by omega, int_succ k, by rw [← hl, bytesOf_append, List.append_nil, List.append_assoc], by rw [bytesOf_append], hJ, hb, by simp at hlen ⊢; omega⟩, meas n k hkn⟩
theorem close0 (hkn : k < n) (hck : c ≤ k) (hJ : J (c + 1) Rl p s0 w4) (hb : Below w.heap.size w w4) (hlen : (Gl ++ Rl).length ≤ 11 * k) :
    Lp n s0 w p (.string (bytesOf (Gl ++ Rl))) (.string (bytesOf Gl)) (.int .i64 ((k : Int) + 1)) w4 ∧ n - (intOf (Value.int .i64 ((k : Int) + 1))).toNat < n - (intOf (Value.int .i64 (k : Int))).toNat :=
  ⟨⟨k + 1, c + 1, Rl, Gl, by omega, by omega, int_succ k, rfl, rfl, hJ, hb, by simp at hlen ⊢; omega⟩, meas n k hkn⟩
theorem close0a (hkn : k < n) (hck : c ≤ k) (hJ : J (c + 1) [] p s0 w4) (hb : Below w.heap.size w w4) (hlen : (Gl ++ Rl).length ≤ 11 * k) :
    Lp n s0 w p (.string (bytesOf (Gl ++ Rl))) (.string (bytesOf Gl ++ bytesOf Rl)) (.int .i64 ((k : Int) + 1)) w4 ∧ n - (intOf (Value.int .i64 ((k : Int) + 1))).toNat < n - (intOf (Value.int .i64 (k : Int))).toNat :=
  ⟨⟨k + 1, c + 1, [], Gl ++ Rl, by omega, by omega, int_succ k, by rw [List.append_nil], by rw [bytesOf_append], hJ, hb, by simp at hlen ⊢; omega⟩, meas n k hkn⟩
end
set_option maxHeartbeats 8000000 in
theorem walk (A B : Option Addr) (n m cn cm : Nat) (xs : List Int) (ys : List Bool) (w : World) (hA : Reads w w.heap.size 1 A n (xs.map (Value.int .i64))) (hB : Reads w w.heap.size 1 B m (ys.map Value.bool)) (hn : n ≤ 60) :
    Calls Tryz.prog 3 #[.slice A n cn, .slice B m cm] w fun e w' => e = .returned (.bool true) ∧ Below w.heap.size w w' := by
  have hlt : ¬ 60 < (n : Int) := by omega
  go_enter Tryz.func3, Tryz.ntmps3
  go_wp2_with (first
    | (go_at_call 4; refine (known_true _).mono ?_; rintro e w1 ⟨rfl, hb1⟩)
    | (go_at_call 6; refine (small_c _).mono ?_; rintro e w2 ⟨rfl, hb2⟩)
    | (go_at_call 5; refine (new_c _).mono ?_; rintro e w3 ⟨p, rfl, hJ, hb3⟩))
  have hbW : Below w.heap.size w w3 := (hb1.trans (hb2.mono hb1.size)).trans (hb3.mono (by have := hb1.size; have := hb2.size; omega))
  have hs0 : w.heap.size ≤ w2.heap.size := by have := hb1.size; have := hb2.size; omega
  clear hb1 hb2 hb3
  go_loopw [7, 8, 9] (fun want got i wr => Lp n w2.heap.size w p want got i wr) (fun _ _ i _ => n - (intOf i).toNat)
  case atStart => exact ⟨0, 0, [], [], Nat.zero_le _, Nat.le_refl _, rfl, rfl, rfl, hJ, hbW, by simp⟩
  case round =>
    obtain ⟨k, c, Rl, Gl, hk, hck, rfl, rfl, rfl, hJr, hbr, hlen⟩ := hrel
    clear hJ hbW
    by_cases hkn : k < n
    · obtain ⟨ad, u, rfl, hab, hxu, hcu⟩ := (hA.below hbr).at_ hkn
      rw [List.getElem?_map] at hxu
      cases hxk : xs[k]? with
      | none => rw [hxk] at hxu; cases hxu
      | some x =>
        rw [hxk] at hxu
        cases hxu
        have hR : Rl.length + 11 ≤ 1048576 := by simp at hlen; omega
        have hc60 : c < 60 := by omega
        have hsz : (bytesOf (Gl ++ Rl)).size ≤ 1000 := by rw [bytesOf_size]; omega
        have hszG : (bytesOf Gl).size ≤ 1000 := by rw [bytesOf_size]; simp at hlen; omega
        by_cases hkm : k < m
        · obtain ⟨bd, ub, rfl, hbb, hyu, hcy⟩ := hB.at_ hkm
          rw [List.getElem?_map] at hyu
          cases hyk : ys[k]? with
          | none => rw [hyk] at hyu; cases hyu
          | some y =>
            rw [hyk] at hyu
            cases hyu
            have hbcell : ∀ w4 : World, Below w.heap.size w w4 → w4.cell? (bd.add k) = some (.bool y) := fun w4 h => (h.cell (by rw [block_of_add]; exact hbb)).trans hcy
            have HB := Lib.hid hbcell
            clear hbcell hcy hyk
            cases y
            all_goals
              by_cases h0 : (bits BinOp.and IntKind.i64 x 3 == 0) = true
              · have hc4 := conv_new wr #[.int .u8 27, .int .u8 91, .int .u8 53, .int .u8 110] 4 rfl (by omega)
                have hszR : (bytesOf (Rl ++ [27, 91, 48, 110])).size ≤ 1000 := by rw [bytesOf_size]; simp at hlen ⊢; omega
                go_wp2_with (first
                  | (go_at_call 7; refine (feed0 (by omega) hR hJr).mono ?_; rintro e w4 ⟨rfl, hJ4, hb4⟩; have hbr4 := hbr.trans (hb4.mono hs0); have hcy4 := HB.out w4 hbr4)
                  | (go_at_call 8; refine (replies_w hJ4).mono ?_; rintro e w5 ⟨a5, L5, cap5, rfl, -, hcv5, hJ5, hb5⟩; have hbr5 := hbr4.trans (hb5.mono hs0)))
                first
                  | exact close1 rfl (by decide) hkn hck hJ4 hbr4 hlen
                  | exact close1a rfl (by decide) hkn hck hJ5 hbr5 hlen
              have g0 : (bits BinOp.and IntKind.i64 x 3 == 0) = false := by simpa using h0
              clear h0
              by_cases h1 : (bits BinOp.and IntKind.i64 x 3 == 1) = true
              · have hc4 := conv_new wr #[.int .u8 27, .int .u8 91, .int .u8 99] 3 rfl (by omega)
                have hszR : (bytesOf (Rl ++ [27, 91, 63, 54, 50, 59, 52, 99])).size ≤ 1000 := by rw [bytesOf_size]; simp at hlen ⊢; omega
                go_wp2_with (first
                  | (go_at_call 7; refine (feed1 (by omega) hR hJr).mono ?_; rintro e w4 ⟨rfl, hJ4, hb4⟩; have hbr4 := hbr.trans (hb4.mono hs0); have hcy4 := HB.out w4 hbr4)
                  | (go_at_call 8; refine (replies_w hJ4).mono ?_; rintro e w5 ⟨a5, L5, cap5, rfl, -, hcv5, hJ5, hb5⟩; have hbr5 := hbr4.trans (hb5.mono hs0)))
                first
                  | exact close1 rfl (by decide) hkn hck hJ4 hbr4 hlen
                  | exact close1a rfl (by decide) hkn hck hJ5 hbr5 hlen
              have g1 : (bits BinOp.and IntKind.i64 x 3 == 1) = false := by simpa using h1
              clear h1
              by_cases h2 : (bits BinOp.and IntKind.i64 x 3 == 2) = true
              · have hc4 := conv_new wr #[.int .u8 27, .int .u8 95, .int .u8 71, .int .u8 97, .int .u8 61, .int .u8 113, .int .u8 44, .int .u8 105, .int .u8 61, .int .u8 51, .int .u8 44, .int .u8 115, .int .u8 61, .int .u8 49, .int .u8 44, .int .u8 118, .int .u8 61, .int .u8 49, .int .u8 59, .int .u8 65, .int .u8 65, .int .u8 65, .int .u8 65, .int .u8 65, .int .u8 65, .int .u8 27, .int .u8 92] 27 rfl (by omega)
                have hszR : (bytesOf (Rl ++ [27, 95, 71, 105, 61, 51, 59, 79, 75, 27, 92])).size ≤ 1000 := by rw [bytesOf_size]; simp at hlen ⊢; omega
                go_wp2_with (first
                  | (go_at_call 7; refine (feed2 (by omega) hR hJr).mono ?_; rintro e w4 ⟨rfl, hJ4, hb4⟩; have hbr4 := hbr.trans (hb4.mono hs0); have hcy4 := HB.out w4 hbr4)
                  | (go_at_call 8; refine (replies_w hJ4).mono ?_; rintro e w5 ⟨a5, L5, cap5, rfl, -, hcv5, hJ5, hb5⟩; have hbr5 := hbr4.trans (hb5.mono hs0)))
                first
                  | exact close1 rfl (by decide) hkn hck hJ4 hbr4 hlen
                  | exact close1a rfl (by decide) hkn hck hJ5 hbr5 hlen
              have g2 : (bits BinOp.and IntKind.i64 x 3 == 2) = false := by simpa using h2
              clear h2
              have hc4 := conv_new wr #[.int .u8 120] 1 rfl (by omega)
              have hszR : (bytesOf Rl).size ≤ 1000 := by rw [bytesOf_size]; simp at hlen; omega
              go_wp2_with (first
                | (go_at_call 7; refine (feed3 hc60 hJr).mono ?_; rintro e w4 ⟨rfl, hJ4, hb4⟩; have hbr4 := hbr.trans (hb4.mono hs0); have hcy4 := HB.out w4 hbr4)
                | (go_at_call 8; refine (replies_w hJ4).mono ?_; rintro e w5 ⟨a5, L5, cap5, rfl, -, hcv5, hJ5, hb5⟩; have hbr5 := hbr4.trans (hb5.mono hs0)))
              first
                | exact close0 hkn hck hJ4 hbr4 hlen
                | exact close0a hkn hck hJ5 hbr5 hlen
        · have hkm' : decide (k < m) = false := by simpa using hkm
          by_cases h0 : (bits BinOp.and IntKind.i64 x 3 == 0) = true
          · have hc4 := conv_new wr #[.int .u8 27, .int .u8 91, .int .u8 53, .int .u8 110] 4 rfl (by omega)
            have hszR : (bytesOf (Rl ++ [27, 91, 48, 110])).size ≤ 1000 := by rw [bytesOf_size]; simp at hlen ⊢; omega
            go_wp2_with (first
              | (go_at_call 7; refine (feed0 (by omega) hR hJr).mono ?_; rintro e w4 ⟨rfl, hJ4, hb4⟩; have hbr4 := hbr.trans (hb4.mono hs0))
              | (go_at_call 8; refine (replies_w hJ4).mono ?_; rintro e w5 ⟨a5, L5, cap5, rfl, -, hcv5, hJ5, hb5⟩; have hbr5 := hbr4.trans (hb5.mono hs0)))
            first
              | exact close1 rfl (by decide) hkn hck hJ4 hbr4 hlen
              | exact close1a rfl (by decide) hkn hck hJ5 hbr5 hlen
          have g0 : (bits BinOp.and IntKind.i64 x 3 == 0) = false := by simpa using h0
          clear h0
          by_cases h1 : (bits BinOp.and IntKind.i64 x 3 == 1) = true
          · have hc4 := conv_new wr #[.int .u8 27, .int .u8 91, .int .u8 99] 3 rfl (by omega)
            have hszR : (bytesOf (Rl ++ [27, 91, 63, 54, 50, 59, 52, 99])).size ≤ 1000 := by rw [bytesOf_size]; simp at hlen ⊢; omega
            go_wp2_with (first
              | (go_at_call 7; refine (feed1 (by omega) hR hJr).mono ?_; rintro e w4 ⟨rfl, hJ4, hb4⟩; have hbr4 := hbr.trans (hb4.mono hs0))
              | (go_at_call 8; refine (replies_w hJ4).mono ?_; rintro e w5 ⟨a5, L5, cap5, rfl, -, hcv5, hJ5, hb5⟩; have hbr5 := hbr4.trans (hb5.mono hs0)))
            first
              | exact close1 rfl (by decide) hkn hck hJ4 hbr4 hlen
              | exact close1a rfl (by decide) hkn hck hJ5 hbr5 hlen
          have g1 : (bits BinOp.and IntKind.i64 x 3 == 1) = false := by simpa using h1
          clear h1
          by_cases h2 : (bits BinOp.and IntKind.i64 x 3 == 2) = true
          · have hc4 := conv_new wr #[.int .u8 27, .int .u8 95, .int .u8 71, .int .u8 97, .int .u8 61, .int .u8 113, .int .u8 44, .int .u8 105, .int .u8 61, .int .u8 51, .int .u8 44, .int .u8 115, .int .u8 61, .int .u8 49, .int .u8 44, .int .u8 118, .int .u8 61, .int .u8 49, .int .u8 59, .int .u8 65, .int .u8 65, .int .u8 65, .int .u8 65, .int .u8 65, .int .u8 65, .int .u8 27, .int .u8 92] 27 rfl (by omega)
            have hszR : (bytesOf (Rl ++ [27, 95, 71, 105, 61, 51, 59, 79, 75, 27, 92])).size ≤ 1000 := by rw [bytesOf_size]; simp at hlen ⊢; omega
            go_wp2_with (first
              | (go_at_call 7; refine (feed2 (by omega) hR hJr).mono ?_; rintro e w4 ⟨rfl, hJ4, hb4⟩; have hbr4 := hbr.trans (hb4.mono hs0))
              | (go_at_call 8; refine (replies_w hJ4).mono ?_; rintro e w5 ⟨a5, L5, cap5, rfl, -, hcv5, hJ5, hb5⟩; have hbr5 := hbr4.trans (hb5.mono hs0)))
            first
              | exact close1 rfl (by decide) hkn hck hJ4 hbr4 hlen
              | exact close1a rfl (by decide) hkn hck hJ5 hbr5 hlen
          have g2 : (bits BinOp.and IntKind.i64 x 3 == 2) = false := by simpa using h2
          clear h2
          have hc4 := conv_new wr #[.int .u8 120] 1 rfl (by omega)
          have hszR : (bytesOf Rl).size ≤ 1000 := by rw [bytesOf_size]; simp at hlen; omega
          go_wp2_with (first
            | (go_at_call 7; refine (feed3 hc60 hJr).mono ?_; rintro e w4 ⟨rfl, hJ4, hb4⟩; have hbr4 := hbr.trans (hb4.mono hs0))
            | (go_at_call 8; refine (replies_w hJ4).mono ?_; rintro e w5 ⟨a5, L5, cap5, rfl, -, hcv5, hJ5, hb5⟩; have hbr5 := hbr4.trans (hb5.mono hs0)))
          first
            | exact close0 hkn hck hJ4 hbr4 hlen
            | exact close0a hkn hck hJ5 hbr5 hlen
    · have hkeq : decide (k < n) = false := by simpa using hkn
      have hszG : (bytesOf Gl).size ≤ 1000 := by rw [bytesOf_size]; simp at hlen; omega
      have hszR : (bytesOf Rl).size ≤ 1000 := by rw [bytesOf_size]; simp at hlen; omega
      have happ := bytesOf_append Gl Rl
      go_wp2_with (first
        | (go_at_call 8; refine (replies_0 hJ5).mono ?_; rintro e w6 ⟨a6, cap6, rfl, hJ6, hb6⟩; have hbr6 := hbr5.trans (hb6.mono hs0))
        | (go_at_call 8; refine (replies_w hJr).mono ?_; rintro e w5 ⟨a5, L5, cap5, rfl, -, hcv5, hJ5, hb5⟩; have hbr5 := hbr.trans (hb5.mono hs0)))
      go_ret
      exact ⟨rfl, hbr6⟩
theorem walk_big (A B : Option Addr) (n m cn cm : Nat) (w : World) (hn : 60 < n) : Calls Tryz.prog 3 #[.slice A n cn, .slice B m cm] w fun e w' => e = .returned (.bool true) ∧ Below w.heap.size w w' := by
  have hlt : decide (60 < (n : Int)) = true := decide_eq_true (by omega)
  go_enter Tryz.func3, Tryz.ntmps3
  go_wp2_with (go_at_call 4; refine (known_true _).mono ?_; rintro e w1 ⟨rfl, hb1⟩)
  go_ret
  exact ⟨rfl, hb1⟩
end TR
end Go.Proofs
