/- Words of this seat: rows of structs made new; rows some of whose elements are one's own. -/
import Derived.Test.YtehjiiebjkkcmaaGreatDoorQ32xVerifyTells
set_option linter.unusedVariables false
set_option linter.unusedSimpArgs false
namespace Go.Q
theorem Z2a {z : Array Value} (hz : 0 < z.size) (m : Nat) : (madeCells z (m * z.size)).toList = (List.replicate m z.toList).flatten := by
 have key : ∀ (m i : Nat), ((List.replicate m z.toList).flatten)[i]? = if i < m * z.size then some z[i % z.size]! else none := by
  intro m
  induction m with
  | zero => intro i; simp
  | succ m ih =>
   intro i
   rw [List.replicate_succ, List.flatten_cons, Nat.succ_mul]
   by_cases h : i < z.size
   ·rw [List.getElem?_append_left (by simpa using h), Nat.mod_eq_of_lt h, if_pos (by omega), Array.getElem?_toList, Array.getElem?_eq_getElem h, getElem!_pos z i h]
   ·rw [List.getElem?_append_right (by simpa using Nat.le_of_not_lt h), Array.length_toList, ih, Nat.mod_eq_sub_mod (Nat.le_of_not_lt h)]
    by_cases h2 : i - z.size < m * z.size
    ·rw [if_pos h2, if_pos (by omega)]
    ·rw [if_neg h2, if_neg (by omega)]
 apply List.ext_getElem?
 intro i
 rw [key]
 by_cases h : i < m * z.size
 ·rw [if_pos h]; simp [madeCells, h]
 ·rw [if_neg h]; simp [madeCells]; omega
def strAt (s : ByteArray) (i : Int) : Option Int := if hi : 0 ≤ i ∧ i < s.size then some ((s[i.toNat]'(by omega)).toNat : Int) else none
theorem Val.indexS {P : Program} {n : Fr} {σ : List (Nat × Value)} {A : World → Prop} {dd : Option Nat} {t tr : TypeId} {x y : Operand} {pos : String} {af : Array Edge} {g : Option (Nat × Bool)} {s : ByteArray} {ik : IntKind} {i c : Int} (hu : P.underlying t = some .string) (h : strAt s i = some c) (hx : ev σ x = some (.string s)) (hy : ev σ y = some (.int ik i)) :
    Val P n σ A ⟨dd, .index t x y, tr, pos, af, g⟩ (.int .u8 c) := by
 intro a w ha hw
 unfold strAt at h
 by_cases hi : 0 ≤ i ∧ i < s.size
 ·rw [dif_pos hi] at h
  obtain rfl := Option.some.inj h
  have := run_index_string (P := P) w t s ik i hu
  rw [dif_pos hi] at this
  simp [execOp, ha.eval hx, ha.eval hy, this]
 ·rw [dif_neg hi] at h; cases h
section
variable {P : Program} {n : Fr} {ρ : Option Nat} {σ : List (Nat × Value)} {w0 w : World} {hA hV : Hp} {ps : List HP} {os : List HO} {L l : List Oper} {Q : Cont} {d : Nat} {dd : Option Nat} {t e T T' tr : TypeId} {x y : Operand} {pos : String} {af : Array Edge} {g : Option (Nat × Bool)} {v u p s : Value} {α β : Type}
theorem SP.makeS {k : Kd α} {cs : List Value} {z : α} {bytes : Nat} {kk : Int} {kl : IntKind} (hu : P.underlying t = some (.slice e)) (hi : (P.info? e).map (fun i => ((i.zero.map fun z => z.cells.toList), i.size, i.bytes)) = some (some cs, k.sz, bytes)) (hl : cs.length = k.sz) (h0 : Nat.blt 0 k.sz = true) (hz : ∀ a, k.rd a cs z) (hg : gd L σ g = some true) (hn : Nat.blt d n.n = true)
    (hx : ev σ x = some (.int kl kk)) (hy : ev σ y = some (.int kl kk)) (hb : (0 : Int) ≤ kk ∧ (bytes : Int) * kk ≤ 281474976710656 ∧ (kk : Int) ≤ 9223372036854775807)
    (h : ∀ v, SP P n ρ ((d, v) :: σ) (St w0 hA hV ps (slO k e v (List.replicate kk.toNat z) :: os)) L l Q) : SP P n ρ σ (St w0 hA hV ps os) L (⟨some d, .makeSlice t x y, tr, pos, af, g⟩ :: l) Q := by
 obtain ⟨i, zz, i1, i2, i3, i4, i5⟩ := J2 hi
 have h0' : 0 < k.sz := by simpa using h0
 have e1 : zz.cells.toList = cs := congrArg Array.toList i3
 have e2 : zz.cells.size = k.sz := by rw [← Array.length_toList, e1, hl]
 refine SP.op (fun v : Value => v) (fun v => St w0 hA hV ps (slO k e v (List.replicate kk.toNat z) :: os)) hg rfl hn (fun a w ha hw => ⟨.slice (some ⟨w.heap.size, 0, none⟩) kk.toNat kk.toNat, _, ?_, hw.allocP (.cells (madeCells zz.cells (kk.toNat * i.size)) e) fun b hb' => ?_⟩) h
 ·have := run_make (P := P) w t e i zz hu i1 i2 kl kl kk kk hb.1 (Int.le_refl _) (by rw [i5]; exact hb.2.1) hb.2.2
  simp [execOp, ha.eval hx, ha.eval hy, this]
 ·rw [i4]
  have q1 := Z2a (z := zz.cells) (by omega) kk.toNat
  have q2 : (madeCells zz.cells (kk.toNat * zz.cells.size)).size = kk.toNat * zz.cells.size := size_madeCells _ _
  rw [e2] at q1 q2
  have q3 : Flat k b (madeCells zz.cells (kk.toNat * k.sz)).toList (List.replicate kk.toNat z) := by
   rw [q1, e1]; exact Flat.rep (hz b) _
  refine ⟨_, q3, ?_, .inr ⟨w.heap.size, kk.toNat, _, ?_, Z7p, ?_, ?_, ?_, ?_⟩⟩
  ·rw [Array.length_toList, q2, List.length_replicate]
  ·rw [List.length_replicate]
  ·rw [List.length_replicate]; exact Nat.le_refl _
  ·simp only [maxLen]; omega
  ·rw [q2]
  ·rw [List.length_replicate]
   exact List.take_of_length_le (by rw [Array.length_toList, q2]; exact Nat.le_refl _)
end
end Go.Q
