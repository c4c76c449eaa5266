/- Words of this seat: arrays as values. -/
import Derived.Test.YtpbmkaenleedoaaGreatDoorQ26v308309
set_option linter.unusedVariables false
set_option linter.unusedSimpArgs false
namespace Go.Q
/-- How long a row is. -/
def lenP (m N : Nat) : HP := ⟨fun _ => m = N, fun _ _ _ h => h⟩
section
variable {P : Program} {n : Fr} {ρ : Option Nat} {σ : List (Nat × Value)} {w0 w : World} {hA hV : Hp} {ps : List HP} {os : List HO} {L l : List Oper} {Q : Cont} {d : Nat} {t tr T : TypeId} {x : Operand} {pos : String} {af : Array Edge} {g : Option (Nat × Bool)} {α : Type} {f : α → Value} {N b : Nat} {xs : List α}
theorem SP.loadArrAll (i : Nat) (hi : os[i]? = some (arrO b [] f N xs [] T)) {dsc : TypeDesc} (hu : P.underlying t = some dsc) (hd : (match dsc with | .struct _ | .array _ _ => true | _ => false) = true) (hs : (P.info? t).map (·.size) = some N)
    (hx : ev σ x = some (.pointer (some ⟨b, 0, none⟩))) (hg : gd L σ g = some true) (hn : Nat.blt d n.n = true)
    (h : SP P n ρ ((d, .agg (xs.map f).toArray) :: σ) (St w0 hA hV (lenP xs.length N :: ps) os) L l Q) : SP P n ρ σ (St w0 hA hV ps os) L (⟨some d, .load t x, tr, pos, af, g⟩ :: l) Q := by
  refine SP.have (q := xs.length = N) (fun w2 hw => (hw.arrCell i hi).1) fun hl => ?_
  refine SP.imp (A' := St w0 hA hV (lenP xs.length N :: ps) os) (fun w2 hw => hw.know fun _ _ => hl) (SP.val (v := .agg (xs.map f).toArray) (fun a w ha hw => ?_) hg rfl hn h)
  have hw' : ∃ ps', St w0 hA hV ps' os w := ⟨_, hw⟩
  obtain ⟨ps', hw'⟩ := hw'
  obtain ⟨-, hc⟩ := hw'.arrCell i hi
  have := run_loadVar_agg (P := P) (w := w) (a := ⟨b, 0, none⟩) (cs := xs.map f) hu hd (by rw [List.length_map, hl]; exact hs) (fun j u hj => by
    have hadd : (⟨b, 0, none⟩ : Addr).add j = ⟨b, j, none⟩ := by unfold Addr.add; split <;> simp_all
    rw [hadd]
    simp only [World.cell?]
    rw [hc]
    simp only [List.nil_append, List.append_nil]
    simpa using hj)
  simp [execOp, ha.eval hx, Instr.loadAt, Instr.sureAddr, this]
end
end Go.Q
