/-
  The abstract machine, part 18b: bytes that a string shares. No conditions.
-/
import Derived.Test.YtgmhcbmkdimoiaaGreatDoorAm18
namespace Go.Am
section
variable {P : Program} {E : Env} {T : Tm} {h : Hp} {nx : Nat} {w : World} {cm : Bool}

theorem run_loadBytes : ∀ (s : List Nat) (a : Addr) (acc : ByteArray), (∀ b ∈ s, b < 256) → (∀ j (b : Nat), s[j]? = some b → w.cell? (a.add j) = some (.int .u8 (b : Int))) →
    (loadBytes a acc s.length).run P w = .ok ⟨acc.data ++ (s.map UInt8.ofNat).toArray⟩ w
  | [], a, acc, _, _ => by simp [loadBytes]
  | b :: s, a, acc, hb, hc => by
    have h0 := hc 0 b rfl
    rw [show a.add 0 = a from by unfold Addr.add; simp] at h0
    have hadd : ∀ j, (a.add 1).add j = a.add (j + 1) := fun j => by
      cases j with
      | zero => simp [Addr.add]
      | succ j =>
        simp [Addr.add]
        omega
    have ih := run_loadBytes s (a.add 1) (acc.push (UInt8.ofNat b)) (fun x hx => hb x (by simp [hx])) (fun j x hx => by rw [hadd]; exact hc (j + 1) x (by simpa using hx))
    simp only [List.length_cons, loadBytes, Sem.run_bind, run_load, h0, Result.andThen_ok]
    have : ((b : Int).toNat).toUInt8 = UInt8.ofNat b := by simp
    rw [this, ih]
    congr 1
    simp [ByteArray.push]

theorem run_uss (hs : HSat E h nx w) {pt tt ty u : TypeId} (hu : P.underlying pt = some (.pointer u)) (hu8 : P.underlying u = some (.int .u8)) (hz : sizeOf? P u = some 1) {a b : AVal} {x y : Value} (ha : Rel E a x) (hb : Rel E b y) {k : HK}
    (hk : match (generalizing := false) b with
    | .int _ (.ofNat m) => sel (Nat.ble m 9223372036854775807) (sel (Nat.beq m 0) (match (generalizing := false) a with
        | .nilp => k (.str []) h nx
        | .ptr _ _ => k (.str []) h nx
        | _ => False)
      (match (generalizing := false) a with
        | .ptr r off => match hget h r with
          | some (.row cs t (.grow s)) => sel (Nat.beq t u) (dropk off cs (fun l => takek m l (fun l => match cellsToBytes l with
            | some b => hset h r (.row cs t (.ro s)) fun h => k (.str b) h nx
            | none => False) False) False) False
          | _ => False
        | _ => False)) False
    | _ => False) :
    ∃ r w' v h', (Builtin.unsafeString_ #[pt, tt] ty #[x, y]).run P w = .ok r w' ∧ Rel E v r ∧ HSat E h' nx w' ∧ Goes E h nx w E h' nx w' ∧ k v h' nx := by
  split at hk
  · rename_i kd m
    cases hb with
    | int _ _ =>
      rw [sel_ble] at hk
      split at hk
      · rename_i hm
        have hA : (asInt (.int kd (Int.ofNat m))).run P w = .ok (m : Int) w := by simp [asInt, asIntOf]
        have hn1 : ¬ ((m : Int) < 0) := by omega
        have hn2 : ¬ ((m : Int) > IntKind.i64.max) := by show ¬ ((m : Int) > 9223372036854775807); omega
        have hempty : Rel E (.str []) (.string .empty) := .str [] (by simp)
        have hz0 : ∀ (p : Option Addr), m = 0 → (Builtin.unsafeString_ #[pt, tt] ty #[.pointer p, .int kd (Int.ofNat m)]).run P w = .ok (.string .empty) w := by
          intro p h0
          show (asInt (.int kd (Int.ofNat m)) >>= _).run P w = _
          rw [Sem.run_bind, hA]
          subst h0
          cases p <;> simp [Result.andThen]
        rw [sel_beq] at hk
        split at hk
        · rename_i h0
          subst h0
          cases ha with
          | nilp => exact ⟨_, w, _, h, hz0 _ rfl, hempty, hs, Goes.refl _ _ _ _, hk⟩
          | ptr n off r hr => exact ⟨_, w, _, h, hz0 _ rfl, hempty, hs, Goes.refl _ _ _ _, hk⟩
          | _ => exact hk.elim
        · rename_i h0
          cases ha with
          | ptr n off r hr =>
            dsimp only at hk
            split at hk
            · rename_i cs t s hn
              rw [sel_beq] at hk
              split at hk
              · rename_i ht
                subst ht
                rw [dropk_eq] at hk
                split at hk
                · rename_i hoff
                  rw [takek_eq] at hk
                  split at hk
                  · rename_i hlen
                    split at hk
                    · rename_i bs hbs
                      rw [hset_k] at hk
                      obtain ⟨hcb, hlt⟩ := cellsToBytes_some hbs
                      obtain ⟨cells, fr, q1, q2, q3, q4, q5, q6, q7, q8⟩ := hs.obj n _ _ hn hr
                      have hl : off + m ≤ cs.length := by simp at hlen; omega
                      have hbl : bs.length = m := by
                        have := congrArg List.length hcb
                        simp [bytesToCells] at this
                        omega
                      have hcell : ∀ j (b : Nat), bs[j]? = some b → w.cell? ((⟨r.b, r.d + off, none⟩ : Addr).add j) = some (.int .u8 (b : Int)) := by
                        intro j b hj
                        have hjl := (List.getElem?_eq_some_iff.1 hj).1
                        have hcj : cs[off + j]? = some (.int .u8 (.ofNat b)) := by
                          have h5 : ((cs.drop off).take m)[j]? = (bytesToCells bs)[j]? := by rw [hcb]
                          rw [List.getElem?_take, if_pos (by omega), List.getElem?_drop] at h5
                          rw [h5]
                          simp [bytesToCells, hj]
                        obtain ⟨v, hv, hrel⟩ := q8 _ _ hcj
                        cases hrel
                        rw [Addr.add_lit]
                        simp only [World.cell?, q1, Option.isSome_none, Bool.false_eq_true, if_false]
                        rw [show r.d + off + j = r.d + (off + j) from by omega]
                        exact hv
                      have hload := run_loadBytes (P := P) (w := w) bs ⟨r.b, r.d + off, none⟩ .empty hlt hcell
                      rw [hbl] at hload
                      have hsh : w.shape? r.b = some (t, cells.size) := by simp [World.shape?, q1]
                      have hlies : liesAt P P.depth t (cells.size / P.cellsOf t) (r.d + off) t m = true := by
                        rw [cellsOf_of_size hz]
                        exact lies_same hz (by decide) (Nat.mod_one _) (by rw [Nat.div_one, Nat.div_one]; omega)
                      have helem : (elemOf pt).run P w = .ok t w := by simp [elemOf, run_und w hu]
                      have ho := freeze_only w r.b (r.d + off) m
                      obtain ⟨fr', hb'⟩ : ∃ fr', (w.freeze ⟨r.b, r.d + off, none⟩ m).heap[r.b]? = some (.cells cells t fr') := by
                        unfold World.freeze
                        rw [if_neg h0]
                        simp only [Array.getElem?_modify, if_true, q1, Option.map_some]
                        exact ⟨_, rfl⟩
                      have hobj : ObjRel E (w.freeze ⟨r.b, r.d + off, none⟩ m) (.row cs t (.ro s)) r := ⟨cells, fr', hb', q2, q3, (fun h => by cases h), (fun s' hs' => q5 s' (by rcases hs' with h | h <;> cases h; exact .inl rfl)), (fun h => by cases h), q7, q8⟩
                      refine ⟨.string (bytesOf bs), _, _, _, ?_, .str bs hlt, hs.update hn rfl hr ho.other hobj, Goes.update hn rfl hr ho.other ho.size ho.os ho.tape ho.output, hk⟩
                      show (asInt (.int kd (Int.ofNat m)) >>= _).run P w = _
                      rw [Sem.run_bind, hA]
                      have hm0 : ¬ ((m : Int) = 0) := by omega
                      have hn2' : ¬ (9223372036854775807 < (m : Int)) := hn2
                      have hmax : IntKind.i64.max = 9223372036854775807 := by decide
                      have hva : (variablesAt ⟨r.b, r.d + off, none⟩ t m).run P w = .ok true w := by
                        simp [variablesAt, hsh, hlies]
                      simp [hn1, hn2', hmax, h0, helem, hva, hload]
                      rfl
                    · exact hk.elim
                  · exact hk.elim
                · exact hk.elim
              · exact hk.elim
            · exact hk.elim
          | _ => exact hk.elim
      · exact hk.elim
  · exact hk.elim
end
end Go.Am
