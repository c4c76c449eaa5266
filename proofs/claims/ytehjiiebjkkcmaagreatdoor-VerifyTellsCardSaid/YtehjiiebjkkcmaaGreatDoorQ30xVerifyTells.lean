/- Words of this seat: room for rows. -/
import Derived.Test.YtehjiiebjkkcmaaGreatDoorQ29xVerifyTells
import Derived.Laws.AppendOwn
set_option linter.unusedVariables false
set_option linter.unusedSimpArgs false
namespace Go.Q
theorem Z6R {P : Program} {e : TypeId} {cs : List Value} {s b : Nat} (h : (P.info? e).map (fun i => ((i.zero.map fun z => z.cells.toList), i.size, i.bytes)) = some (some cs, s, b)) :
    ∃ i0 z, P.info? e = some i0 ∧ i0.zero = some z ∧ i0.size = s ∧ i0.bytes = b ∧ z.cells.size = cs.length := by
 cases hi : P.info? e with
 | none => simp [hi] at h
 | some i0 =>
  cases hz : i0.zero with
  | none => simp [hi, hz] at h
  | some z =>
   simp [hi, hz] at h
   exact ⟨i0, z, rfl, hz, h.2.1, h.2.2, by rw [← h.1]; simp⟩
theorem Z52 {w w' : World} {hV : Hp} {e : Ending} {α : Type} {k : Kd α} {T : TypeId} {cells : Array Value} {cap : Nat} (he : e = .returned (.slice (some ⟨w.heap.size, 0, none⟩) 0 cap)) (hw : w' = w.drew.alloc (.cells cells T))
    (hmax : cap ≤ maxLen) (hz : cells.size = cap * k.sz) : ∃ v, e = .returned v ∧ Since w em hV ((fun r => HO.ex fun u : Value => HO.pand (r = u) (HO.seps [slO k T u ([] : List α)])) v).p w' := by
 subst he; subst hw
 refine ⟨_, rfl, ⟨rfl, rfl, rfl, ?_⟩, fun b o e1 _ => JE _ _ _ _ e1, em, bk w.heap.size (.cells cells T (0, 0)), fun _ _ _ => rfl, fun b hb _ => by
  have : b ≠ w.heap.size := by omega
  simp [bk, this], Dj.Yw _, Sub.em _, fun b o eb => ?_, _, rfl, bk w.heap.size (.cells cells T (0, 0)), em, Dj.XR _, Sub.refl _, Sub.em _, ?_, trivial⟩
 ·show w.heap.size ≤ (w.heap.push _).size
  simp
 ·unfold bk at eb
  split at eb
  ·rename_i hb; subst hb; simp at eb; subst eb; exact JY w.drew _
  ·cases eb
 ·exact ⟨[], rfl, by simp, .inr ⟨w.heap.size, cap, cells, rfl, by simp [bk], Nat.zero_le _, hmax, hz, by simp⟩⟩
theorem Z53 {z : Array Value} {m cap s : Nat} (hc : m ≤ cap) (hz : z.size = s) : (([] : List Value).toArray ++ Builtin.zeroCells z (0 + m - 0) ++ Builtin.zeroCells z (cap - (0 + m))).size = cap * s := by
 simp only [Nat.zero_add, Nat.sub_zero, Array.size_append, List.size_toArray, List.length_nil, size_zeroCells, hz]
 rw [← Nat.add_mul]; congr 1; omega
end Go.Q
