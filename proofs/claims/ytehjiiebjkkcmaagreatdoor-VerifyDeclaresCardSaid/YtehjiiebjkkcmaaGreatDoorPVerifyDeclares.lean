/- An accepted module whose methods declare as much as may be is accepted, with the same certificates; so is one of which a method doesn't say any more that it reads, unless another one that says so calls it: then the error for that (the law VerifyDeclares): for every input, with no condition but what the card ties to the program (what op's table of bounds holds). -/
import Derived.Test.YtehjiiebjkkcmaaGreatDoorP0VerifyDeclares
set_option linter.unusedVariables false
set_option linter.unusedSimpArgs false
set_option linter.unusedSectionVars false
namespace Go.Proofs.YtehjiiebjkkcmaaGreatDoor
open Go.Q
namespace VerifyPure
open FlowPure TypesPure CallsPure CostPure
theorem costs_len {m : api_Module} (h : (costsC m).2 = 0) : (costsC m).1.length = m.Methods.length := by
 revert h
 unfold costsC
 split
 ·intro h; simp at h
 ·split
  ·intro h; rename_i h1; exact absurd h h1
  ·split
   ·intro h; rename_i h1; exact absurd h h1
   ·split
    ·intro h; simp at h
    ·rename_i hA
     intro _
     have := (certs_len _ _ _ hA).1
     simpa using this
noncomputable def standsC (m : api_Module) : Int × Int :=
 if mayC m ≠ 0 then (0, mayC m) else if movesC m ≠ 0 then (1, movesC m) else if (firstC m).2 ≠ 0 then (2, (firstC m).2) else if callsC m ≠ 0 then (3, callsC m) else
 if (costsC m).2 ≠ 0 then (4, (costsC m).2) else if pureC m ≠ 0 then (5, pureC m) else (-1, 0)
theorem p_stands {m : api_Module} (hm : wf_api_Module m) (S : Small m) : verify_stands.f m = some (standsC m) := by
 have hE := (mayC_err S).2
 unfold verify_stands.f verify_checks.f standsC verify_stands.j2
 simp only [Option.bind_some]
 rw [p_may hm S]; simp only [Option.bind_some]
 by_cases h1 : mayC m ≠ 0
 ·rw [if_pos h1, if_pos h1]
 rw [if_neg h1, if_neg h1, p_moves S (hE (Classical.not_not.1 h1)).2]; simp only [Option.bind_some]
 by_cases h2 : movesC m ≠ 0
 ·rw [if_pos h2, if_pos h2]
 unfold verify_kinds.f
 rw [if_neg h2, if_neg h2, p_first hm S]; simp only [Option.bind_some]
 by_cases h3 : (firstC m).2 ≠ 0
 ·rw [if_pos h3, if_pos h3]
 rw [if_neg h3, if_neg h3, p_calls S]; simp only [Option.bind_some]
 by_cases h4 : callsC m ≠ 0
 ·rw [if_pos h4, if_pos h4]
 rw [if_neg h4, if_neg h4, p_cost hm S]; simp only [Option.bind_some]
 by_cases h5 : (costsC m).2 ≠ 0
 ·rw [if_pos h5, if_pos h5]
 rw [if_neg h5, if_neg h5, p_pure S]; simp only [Option.bind_some]
 by_cases h6 : pureC m ≠ 0
 ·rw [if_pos h6, if_pos h6]
 ·rw [if_neg h6, if_neg h6, Classical.not_not.1 h6]
theorem p_vmay {m : api_Module} (hm : wf_api_Module m) (S : Small m) : verify_May.f m = some (standsC m).2 := by
 unfold verify_May.f
 rw [p_stands hm S]; rfl
noncomputable def acceptC (m : api_Module) : List api_Cert × Int := if (standsC m).2 ≠ 0 then ([], (standsC m).2) else costsC m
theorem p_accept {m : api_Module} (hm : wf_api_Module m) (S : Small m) : verify_Accept.f m = some (acceptC m) := by
 unfold verify_Accept.f acceptC
 rw [p_vmay hm S]; simp only [Option.bind_some]
 split
 ·rfl
 ·rw [prog_costs hm S]; rfl
noncomputable def blameC (m : api_Module) : Int := if (standsC m).1 ≠ 2 then -1 else (firstC m).1
theorem p_blame {m : api_Module} (hm : wf_api_Module m) (S : Small m) : verify_Blame.f m = some (blameC m) := by
 unfold verify_Blame.f blameC
 rw [p_stands hm S]; simp only [Option.bind_some]
 split
 ·rfl
 ·rw [p_first hm S]; rfl
end VerifyPure
namespace VerifyPure
open FlowPure TypesPure CallsPure CostPure
def thereB (m : api_Module) (x : api_Method) : Bool := x.Code.all fun i => there (envOf m x) i
theorem e_rows {m : api_Module} (S : Small m) (hm : wf_api_Module m) {k : Nat} {x : api_Method} (hk : k < m.Methods.length) (hx : m.Methods[k] = x) (h : ((knownB x.Code && fineB x.Code) && thereB m x) = true) : rowsM m k = rowsC (envOf m x) x.Code := by
 rw [Bool.and_eq_true, Bool.and_eq_true] at h
 obtain ⟨k1, k2, k3⟩ := knownB_ok h.1.1
 have h3 := h.2
 unfold thereB at h3
 rw [List.all_eq_true] at h3
 have hxm : x ∈ m.Methods := by rw [← hx]; exact List.getElem_mem hk
 have hwx : ∀ i ∈ x.Code, wf_api_Instr i := ((hm.2.2.1.2 x hxm).2.2.2.2.2.2.2).2
 have r := rows_well (m := m) (x := x) (k := (k : Int)) (by omega) (by omega) (by rw [elt_lt hk, hx]) ⟨k1, fineB_iff.1 h.1.2, hwx, h3, fun y hy => by have := S.x y hy; omega⟩ (by have := S.x x hxm; omega)
 unfold rowsM; rw [r]; rfl
theorem certs_cons {one : List api_Cert → Nat → api_Cert} {fit : Nat → api_Cert → Bool} {a : Int} {o : List Int} {l : List api_Cert} {c : api_Cert} (h : one l a.toNat = c) (hf : fit a.toNat c = true) : certsC one fit (a :: o) l = certsC one fit o (l.set a.toNat c) := by
 subst h; rw [certsC, if_pos hf]
def eC : List api_Instr := [⟨4, 0, 0⟩, ⟨31, 0, 0⟩]
def eX (f : Int) : api_Method := ⟨[], [], 1, false, f, 1, 0, eC⟩
def eM (f : Int) : api_Module := ⟨[⟨1, 0, 0⟩], [], [eX f], -1⟩
def eB : api_Module := ⟨[⟨1, 0, 0⟩], [], [⟨[], [], 1, false, 2, 1, 0, [⟨31, 0, 0⟩]⟩], -1⟩
def eV : api_Module := ⟨[⟨1, 0, 0⟩], [], [⟨[3], [], 1, false, 2, 1, 0, eC⟩], 0⟩
def eN : api_Module := ⟨[], [], [], -1⟩
theorem small_eq (f : Int) : capstanlaw14_small.f f = some (eM f) := rfl
theorem eM_small (f : Int) : Small (eM f) := ⟨by simp [eM], by simp [eM], by simp [eM], fun x hx => by simp [eM, eX, eC] at hx; subst hx; simp⟩
theorem eB_small : Small eB := small_of (by decide +kernel)
theorem eV_small : Small eV := small_of (by decide +kernel)
theorem eN_small : Small eN := small_of (by decide +kernel)
theorem eM_wf {f : Int} (h0 : -9223372036854775808 ≤ f) (h1 : f < 9223372036854775808) : wf_api_Module (eM f) := by
 have h : ∀ x ∈ (eM f).Methods, wf_api_Method x := by
  intro x hx
  simp only [eM, List.mem_cons, List.not_mem_nil, or_false] at hx
  rcases hx with rfl
  refine ⟨?_, ?_, show (Lit.int .u8 1).wf = true by decide, trivial, ?_, show (Lit.int .i64 1).wf = true by decide, show (Lit.int .i64 0).wf = true by decide, ?_⟩
  ·simp [eX, maxLen]
  ·simp [eX, maxLen]
  ·unfold eX Lit.wf; simp [IntKind.min, IntKind.max, IntKind.signed, IntKind.bits]; omega
  ·simp [eX, eC, maxLen, wf_api_Instr]; decide
 exact ⟨by simp [eM, maxLen, wf_api_Value]; decide, by simp [eM], ⟨by simp [eM, maxLen], h⟩, show (Lit.int .i64 (-1)).wf = true by decide⟩
theorem eB_wf : wf_api_Module eB := by
 have h : ∀ x ∈ eB.Methods, wf_api_Method x := by
  intro x hx
  simp only [eB, List.mem_cons, List.not_mem_nil, or_false] at hx
  rcases hx with rfl
  refine ⟨?_, ?_, by decide, trivial, by decide, by decide, by decide, ?_⟩ <;> simp [maxLen, wf_api_Instr] <;> decide
 exact ⟨by simp [eB, maxLen, wf_api_Value]; decide, by simp [eB], ⟨by simp [eB, maxLen], h⟩, by decide⟩
theorem eV_wf : wf_api_Module eV := by
 have h : ∀ x ∈ eV.Methods, wf_api_Method x := by
  intro x hx
  simp only [eV, List.mem_cons, List.not_mem_nil, or_false] at hx
  rcases hx with rfl
  refine ⟨?_, ?_, by decide, trivial, by decide, by decide, by decide, ?_⟩
  ·simp [maxLen]; decide
  ·simp [maxLen]
  ·simp [eC, maxLen, wf_api_Instr]; decide
 exact ⟨by simp [eV, maxLen, wf_api_Value]; decide, by simp [eV], ⟨by simp [eV, maxLen], h⟩, by decide⟩
theorem eN_wf : wf_api_Module eN := ⟨by simp [eN, maxLen], by simp [eN, maxLen], ⟨by simp [eN, maxLen], by simp [eN]⟩, by decide⟩
theorem e_rows1 {f : Int} (h0 : -9223372036854775808 ≤ f) (h1 : f < 9223372036854775808) : rowsM (eM f) 0 = rowsC (envOf (eM f) (eX f)) eC := e_rows (eM_small f) (eM_wf h0 h1) (k := 0) (x := eX f) (by simp [eM]) rfl (by
 have : ((knownB eC && fineB eC) && thereB (eM 0) (eX 0)) = true := by decide +kernel
 exact this)
theorem e_rows0 : (rowsC (envOf (eM 0) (eX 0)) eC) = ([⟨true, []⟩, ⟨true, [1]⟩], 0) := by decide +kernel
theorem e_rowsF {f : Int} (h0 : -9223372036854775808 ≤ f) (h1 : f < 9223372036854775808) : rowsM (eM f) 0 = ([⟨true, []⟩, ⟨true, [1]⟩], 0) := (e_rows1 h0 h1).trans e_rows0
theorem e_rowsB : rowsM eB 0 = ([], 101) := (e_rows eB_small eB_wf (k := 0) (x := ⟨[], [], 1, false, 2, 1, 0, [⟨31, 0, 0⟩]⟩) (by simp [eB]) rfl (by decide +kernel)).trans (by decide +kernel)
theorem first1 {m : api_Module} (h : m.Methods.length = 1) : firstC m = if (rowsM m 0).2 = 0 then (-1, 0) else (0, (rowsM m 0).2) := by
 unfold firstC
 rw [h, show List.range 1 = [0] from rfl]
 by_cases h0 : (rowsM m 0).2 = 0
 ·simp [h0]
 ·simp [h0]
theorem e_err {f : Int} (h0 : -9223372036854775808 ≤ f) (h1 : f < 9223372036854775808) : errM (eM f) = 0 := by
 unfold errM
 rw [show List.range (eM f).Methods.length = [0] from rfl, List.map_cons, List.map_nil, e_rowsF h0 h1]; rfl
theorem e_one {f : Int} (h0 : -9223372036854775808 ≤ f) (h1 : f < 9223372036854775808) (kn : List api_Cert) : oneM (eM f) kn 0 = ⟨2, 1, 0⟩ := by
 have : oneM (eM f) kn 0 = oneC (alens (eM f)) kn (eX f) [⟨true, []⟩, ⟨true, [1]⟩] := by unfold oneM; rw [e_rowsF h0 h1]; rfl
 rw [this]
 have e : ∀ al : List Nat, oneC al kn (eX f) [⟨true, []⟩, ⟨true, [1]⟩] = oneC [] [] (eX 0) [⟨true, []⟩, ⟨true, [1]⟩] := fun al => by
  unfold oneC
  have : ∀ (al : List Nat) (kn : List api_Cert) (x : api_Method) (rows : List types_Row) (ts : List Int) (s : api_Cert), runC al kn x rows ts eC 0 s = runC [] [] (eX 0) rows ts eC 0 s := fun al kn x rows ts s => rfl
  exact this ..
 rw [e]
 have : oneC [] [] (eX 0) [⟨true, []⟩, ⟨true, [1]⟩] = ⟨2, 1, 0⟩ := by kernel_rfl
 exact this
theorem e_costs2 : costsC (eM 2) = ([⟨2, 1, 0⟩], 0) := by
 have hb : anyBad (eM 2) = false := by decide +kernel
 have ho : ordN (whoms (eM 2)) (eM 2).Methods.length [] = ([0], 0) := by decide +kernel
 unfold costsC
 rw [if_neg (by rw [hb]; simp), ho, if_neg (by simp), e_err (by omega) (by omega), if_neg (by simp)]
 have s1 : certsC (oneM (eM 2)) (fun k c => fitB c (methM (eM 2) k)) [0] (List.replicate (eM 2).Methods.length api_Cert.zero) = some [⟨2, 1, 0⟩] :=
  (certs_cons (a := 0) (e_one (by omega) (by omega) _) (by decide +kernel)).trans rfl
 rw [s1]
theorem e_costs1 : costsC (eM 1) = ([], 120) := by
 have hb : anyBad (eM 1) = false := by decide +kernel
 have ho : ordN (whoms (eM 1)) (eM 1).Methods.length [] = ([0], 0) := by decide +kernel
 unfold costsC
 rw [if_neg (by rw [hb]; simp), ho, if_neg (by simp), e_err (by omega) (by omega), if_neg (by simp)]
 have s1 : certsC (oneM (eM 1)) (fun k c => fitB c (methM (eM 1) k)) [0] (List.replicate (eM 1).Methods.length api_Cert.zero) = none := by
  rw [certsC]
  have : oneM (eM 1) (List.replicate (eM 1).Methods.length api_Cert.zero) (Int.toNat 0) = ⟨2, 1, 0⟩ := e_one (by omega) (by omega) _
  rw [this]
  exact if_neg (by decide +kernel)
 rw [s1]
theorem e_stands2 : standsC (eM 2) = (-1, 0) := by
 have h1 : mayC (eM 2) = 0 := by decide +kernel
 have h2 : movesC (eM 2) = 0 := by decide +kernel
 have h3 : (firstC (eM 2)).2 = 0 := by rw [first1 rfl, e_rowsF (by omega) (by omega)]; rfl
 have h4 : callsC (eM 2) = 0 := by decide +kernel
 have h6 : pureC (eM 2) = 0 := by decide +kernel
 unfold standsC
 rw [h1, h2, h3, h4, e_costs2, h6]; simp
theorem e_stands1 : standsC (eM 1) = (4, 120) := by
 have h1 : mayC (eM 1) = 0 := by decide +kernel
 have h2 : movesC (eM 1) = 0 := by decide +kernel
 have h3 : (firstC (eM 1)).2 = 0 := by rw [first1 rfl, e_rowsF (by omega) (by omega)]; rfl
 have h4 : callsC (eM 1) = 0 := by decide +kernel
 unfold standsC
 rw [h1, h2, h3, h4, e_costs1]; simp
theorem e_standsB : standsC eB = (2, 101) ∧ firstC eB = (0, 101) := by
 have h1 : mayC eB = 0 := by decide +kernel
 have h2 : movesC eB = 0 := by decide +kernel
 have h3 : firstC eB = (0, 101) := by rw [first1 rfl, e_rowsB]; rfl
 refine ⟨?_, h3⟩
 unfold standsC
 rw [h1, h2, h3]; simp
theorem e_standsV : standsC eV = (1, 70) := by
 have h1 : mayC eV = 0 := by decide +kernel
 have h2 : movesC eV = 70 := by decide +kernel
 unfold standsC
 rw [h1, h2]; simp
theorem e_standsN : standsC eN = (-1, 0) ∧ costsC eN = ([], 0) := by
 have h1 : mayC eN = 0 := by decide +kernel
 have h2 : movesC eN = 0 := by decide +kernel
 have h3 : (firstC eN).2 = 0 := rfl
 have h4 : callsC eN = 0 := by decide +kernel
 have h6 : pureC eN = 0 := by decide +kernel
 have h5 : costsC eN = ([], 0) := rfl
 refine ⟨?_, h5⟩
 unfold standsC
 rw [h1, h2, h3, h4, h5, h6]; simp
theorem e_get (at_ : Nat) (h : at_ < 4) : octet_Get.f [0, 0, 0, 255] at_ 1 = some (if at_ = 3 then 255 else 0, (at_ : Int) + 1, 0) := by
 have hc : octet_cut.f [0, 0, 0, 255] at_ 1 = some ([if at_ = 3 then 255 else 0], 0) := by
  have : at_ = 0 ∨ at_ = 1 ∨ at_ = 2 ∨ at_ = 3 := by omega
  rcases this with rfl | rfl | rfl | rfl <;> decide +kernel
 have hg : octet_gather_uint64.f [if at_ = 3 then 255 else 0] = some (if at_ = 3 then 255 else 0) := by
  unfold octet_gather_uint64.f
  have : at_ = 3 ∨ at_ ≠ 3 := by omega
  rcases this with h3 | h3
  ·rw [if_pos h3]
   rw [runF_step (t := .l1 0 0) rfl, runF_step (t := .l1 255 1) (by kernel_rfl), runF_end (r := 255) (by kernel_rfl)]
  ·rw [if_neg h3]
   rw [runF_step (t := .l1 0 0) rfl, runF_step (t := .l1 0 1) (by kernel_rfl), runF_end (r := 0) (by kernel_rfl)]
 unfold octet_Get.f
 rw [if_neg (by simp), hc]; simp only [Option.bind_some]
 rw [hg]; simp only [Option.bind_some]
 unfold octet_Get.j1
 have w : IntKind.i64.wrap ((at_ : Int) + 1) = (at_ : Int) + 1 := wrap_id (by omega) (by omega)
 by_cases h3 : at_ = 3
 ·rw [if_pos h3, if_neg (by omega), if_neg (by simp), w]; rfl
 ·rw [if_neg h3, if_neg (by omega), if_neg (by simp), w]; rfl
theorem e_pool (at_ : Nat) (h : at_ < 3) : pool_Read.f [0, 0, 0, 255] at_ = some ([], (at_ : Int) + 1, 0) := by
 have g := e_get at_ (by omega)
 rw [if_neg (by omega)] at g
 unfold pool_Read.f
 rw [runF_step (t := .l1 (0, (at_ : Int) + 1, 0) ((at_ : Int) + 1) [] 0) (by dsimp only [pool_Read.F]; rw [g]; rfl)]
 exact runF_end (by dsimp only [pool_Read.F]; rw [if_neg (by omega)])
theorem e_parse : module_Parse.f [0, 0, 0, 255] = some (eN, 0) := by
 have p0 := e_pool 0 (by omega)
 have p1 := e_pool 1 (by omega)
 have g2 := e_get 2 (by omega)
 have g3 := e_get 3 (by omega)
 unfold module_Parse.f
 rw [runF_step (t := .l1 ([], 1, 0) ([], 2, 0) (0, 3, 0) 0 0 3 []) (by
  dsimp only [module_Parse.F]
  rw [if_neg (by simp), show pool_Read.f [0, 0, 0, 255] 0 = some ([], 1, 0) from p0]; simp only [Option.bind_some]
  rw [if_neg (by simp), if_neg (by simp), show pool_Read.f [0, 0, 0, 255] 1 = some ([], 2, 0) from p1]; simp only [Option.bind_some]
  rw [if_neg (by simp), show octet_Get.f [0, 0, 0, 255] 2 1 = some (0, 3, 0) from g2]; simp only [Option.bind_some]
  rw [if_neg (by simp), if_neg (by simp)])]
 refine runF_end ?_
 dsimp only [module_Parse.F]
 rw [if_neg (by simp), if_neg (by simp), show octet_Get.f [0, 0, 0, 255] 3 1 = some (255, 4, 0) from g3]; simp only [Option.bind_some]
 rw [if_neg (by simp), if_neg (by simp), if_neg (by simp)]
 unfold module_Parse.j2 module_Parse.j3
 rw [if_neg (by simp), if_pos rfl]; rfl
theorem e_load : verify_Load.f [0, 0, 0, 255] = some (eN, [], 0) := by
 have a := p_accept eN_wf eN_small
 have : acceptC eN = ([], 0) := by unfold acceptC; rw [e_standsN.1, e_standsN.2]; simp
 rw [this] at a
 unfold verify_Load.f
 rw [e_parse]; simp only [Option.bind_some]
 rw [if_neg (by simp), a]; simp only [Option.bind_some]
 rw [if_neg (by simp)]
theorem vawake : capstanlaw14_awake.f = some true := by
 have a2 : acceptC (eM 2) = ([⟨2, 1, 0⟩], 0) := by unfold acceptC; rw [e_stands2, e_costs2]; simp
 have w2 : wf_api_Module (eM 2) := eM_wf (by omega) (by omega)
 have w1 : wf_api_Module (eM 1) := eM_wf (by omega) (by omega)
 have b1 := p_accept w2 (eM_small 2)
 rw [a2] at b1
 have b2 := p_vmay w1 (eM_small 1)
 rw [e_stands1] at b2
 have b3 := p_vmay eB_wf eB_small
 rw [e_standsB.1] at b3
 have b4 := p_blame eB_wf eB_small
 have b5 : blameC eB = 0 := by unfold blameC; rw [e_standsB.1, e_standsB.2]; simp
 rw [b5] at b4
 have b6 := p_vmay eV_wf eV_small
 rw [e_standsV] at b6
 have hB : (⟨(eM 2).Globals, (eM 2).Pool, (eM 2).Methods.set (0 : Int).toNat ({ (eX 2) with Code := ((eX 2).Code.drop (1 : Int).toNat) } : api_Method), (eM 2).Migrate⟩ : api_Module) = eB := rfl
 have hV : (⟨(eM 2).Globals, (eM 2).Pool, (eM 2).Methods.set (0 : Int).toNat ({ (eX 2) with Args := [3] } : api_Method), 0⟩ : api_Module) = eV := rfl
 have e2 := small_eq 2
 have e1 := small_eq 1
 have el : elt (eM 2).Methods 0 = some (eX 2) := rfl
 have hc : (0 : Int) ≤ 1 ∧ 1 ≤ ((eX 2).Code.length : Int) := by unfold eX eC; simp
 have ec : elt ([⟨2, 1, 0⟩] : List api_Cert) 0 = some ⟨2, 1, 0⟩ := rfl
 generalize eM 2 = M at *
 generalize eM 1 = M1 at *
 generalize eX 2 = x at *
 unfold capstanlaw14_awake.f
 rw [e2, Option.bind_some, b1, Option.bind_some, Option.bind_some, el, Option.bind_some, if_pos hc, Option.bind_some, Option.bind_some, el, Option.bind_some, e_load, Option.bind_some, e1, hB, hV, b3, b4, b6]
 rw [if_pos (by simp), ec, Option.bind_some, Option.bind_some, if_pos (by simp), Option.bind_some, b2, Option.bind_some, Option.bind_some, if_pos (by simp), Option.bind_some, Option.bind_some, if_pos (by simp), Option.bind_some, Option.bind_some, if_pos (by simp), Option.bind_some, Option.bind_some]
 simp [eN]
end VerifyPure
namespace CostPure
open FlowPure TypesPure CallsPure
def un (x : api_Method) : api_Method := { x with Fuel := 0, Stack := 0, Heap := 0, Reads := false }
structure Redecl (m w : api_Module) : Prop where
 G : w.Globals = m.Globals
 P : w.Pool = m.Pool
 M : w.Methods.map un = m.Methods.map un
namespace Redecl
variable {m w : api_Module} (R : Redecl m w)
include R
theorem len : w.Methods.length = m.Methods.length := by have := congrArg List.length R.M; simpa using this
theorem mp {α : Type} {f : api_Method → α} (hf : ∀ x, f (un x) = f x) : w.Methods.map f = m.Methods.map f := by
 have h : ∀ l : List api_Method, l.map f = (l.map un).map f := fun l => by rw [List.map_map]; congr 1; funext x; exact (hf x).symm
 rw [h, h m.Methods, R.M]
theorem at_ (k : Nat) : un (methM w k) = un (methM m k) := by
 have h := congrArg (fun l => l.getD k (un api_Method.zero)) R.M
 simpa [methM, List.getD_eq_getElem?_getD, List.getElem?_map, Option.getD_map] using h
theorem code (k : Nat) : (methM w k).Code = (methM m k).Code := by have := congrArg api_Method.Code (R.at_ k); exact this
theorem bad : anyBad w = anyBad m := by
 unfold anyBad
 have h : ∀ (l : List api_Method) (f : api_Method → Bool), l.any f = (l.map f).any id := fun l f => by rw [List.any_map]; rfl
 rw [R.len, h, h m.Methods, R.mp (fun _ => rfl)]
theorem who : whoms w = whoms m := by unfold whoms; rw [R.len]; exact R.mp (fun _ => rfl)
theorem al : alens w = alens m := R.mp (fun _ => rfl)
theorem at2 (a : Int) : un (At w.Methods api_Method.zero a) = un (At m.Methods api_Method.zero a) := by
 have := R.at_ a.toNat
 unfold methM at this
 rw [List.getD_eq_getElem?_getD, List.getD_eq_getElem?_getD] at this
 exact this
theorem alike {x x' : api_Method} (h : un x' = un x) : TypesPure.Alike (envOf m x) (envOf w x') := by
 refine ⟨?_, ?_, ?_, ?_, ?_, ?_, ?_, ?_⟩
 ·simp [envOf, R.G]
 ·simp [envOf, R.G]
 ·simp [envOf, R.P]
 ·simp [envOf, R.P]
 ·simp [envOf, R.len]
 ·intro a
  have := R.at2 a
  have e1 := congrArg api_Method.Args this
  have e2 := congrArg api_Method.Result this
  exact ⟨e1, e2⟩
 ·have e := congrArg api_Method.Result h
  exact e
 ·have h1 : x'.Args = x.Args := by have e := congrArg api_Method.Args h; exact e
  have h2 : x'.Locals = x.Locals := by have e := congrArg api_Method.Locals h; exact e
  simp [envOf, h1, h2]
theorem small (S : Small m) : Small w := by
 refine ⟨by rw [R.G]; exact S.G, by rw [R.P]; exact S.P, by rw [R.len]; exact S.M, fun x hx => ?_⟩
 have h1 : un x ∈ m.Methods.map un := by rw [← R.M]; exact List.mem_map_of_mem hx
 obtain ⟨y, hy, h⟩ := List.mem_map.1 h1
 have := S.x y hy
 rw [show x.Args = y.Args from (congrArg api_Method.Args h).symm, show x.Locals = y.Locals from (congrArg api_Method.Locals h).symm, show x.Code = y.Code from (congrArg api_Method.Code h).symm]
 exact this
theorem rows (hm : wf_api_Module m) (S : Small m) {k : Nat} (hk : k < m.Methods.length) : rowsM w k = rowsM m k := by
 have hk' : k < w.Methods.length := by rw [R.len]; exact hk
 have hu := R.at_ k
 rw [methM_at hk, methM_at hk'] at hu
 have S' := R.small S
 have hs := S.x _ (List.getElem_mem hk)
 unfold rowsM
 have e := rows_alike (m := m) (w := w) (x := m.Methods[k]) (x' := w.Methods[k]) (by omega) (by omega) (elt_lt hk) (elt_lt hk') (by have e := congrArg api_Method.Code hu; exact e) (by have e := congrArg api_Method.Args hu; exact e) (by have e := congrArg api_Method.Locals hu; exact e) (R.alike hu)
  (fun y hy => by have := S.x y hy; omega) (fun y hy => by have := S'.x y hy; omega) (by omega) ((hm.2.2.1.2 _ (List.getElem_mem hk)).2.2.2.2.2.2.2).2 (by omega)
 rw [e]
theorem err (hm : wf_api_Module m) (S : Small m) : errM w = errM m := by
 unfold errM
 rw [R.len]
 congr 2
 refine List.map_congr_left fun k hk => ?_
 rw [R.rows hm S (List.mem_range.1 hk)]
omit R in
theorem runC_un {al : List Nat} {kn : List api_Cert} {x x' : api_Method} (h : un x' = un x) {rows : List types_Row} {ts : List Int} : ∀ (c : List api_Instr) (i : Nat) (s : api_Cert), runC al kn x' rows ts c i s = runC al kn x rows ts c i s
 | [], _, _ => rfl
 | o :: c, i, s => by
  have h1 : x'.Args = x.Args := by have e := congrArg api_Method.Args h; exact e
  have h2 : x'.Locals = x.Locals := by have e := congrArg api_Method.Locals h; exact e
  have : ∀ t r s, stepC al kn x' t r o s = stepC al kn x t r o s := fun t r s => by unfold stepC highC; rw [h1, h2]
  rw [runC, runC, this, runC_un h]
omit R in
theorem oneC_un {al : List Nat} {kn : List api_Cert} {x x' : api_Method} (h : un x' = un x) {rows : List types_Row} : oneC al kn x' rows = oneC al kn x rows := by
 have h1 : x'.Args = x.Args := by have e := congrArg api_Method.Args h; exact e
 have h2 : x'.Locals = x.Locals := by have e := congrArg api_Method.Locals h; exact e
 have h3 : x'.Code = x.Code := by have e := congrArg api_Method.Code h; exact e
 unfold oneC
 rw [h1, h2, h3, runC_un h]
theorem one (hm : wf_api_Module m) (S : Small m) {k : Nat} (hk : k < m.Methods.length) (kn : List api_Cert) : oneM w kn k = oneM m kn k := by
 unfold oneM
 rw [R.rows hm S hk, R.al, oneC_un (R.at_ k)]
end Redecl
end CostPure
namespace CostPure
open FlowPure TypesPure CallsPure
theorem ready_new {W : List (List Int)} (out : List Int) (k : Nat) (h : ready W out k = true) : (k : Int) ∉ out := by
 unfold ready at h
 rw [Bool.and_eq_true] at h
 exact of_decide_eq_true h.1
end CostPure
namespace CostPure
open FlowPure TypesPure CallsPure
theorem declares {m w : api_Module} {L : List api_Cert} (hm : wf_api_Module m) (S : Small m) (R : Redecl m w) (h : costsC m = (L, 0)) :
    ((∀ k, k < m.Methods.length → fitB (L.getD k api_Cert.zero) (methM w k) = true) → costsC w = (L, 0)) ∧ (∀ k, k < m.Methods.length → fitB (L.getD k api_Cert.zero) (methM w k) ≠ true → (costsC w).2 = 120) ∧ (∀ k, k < m.Methods.length → fitB (L.getD k api_Cert.zero) (methM m k) = true) := by
 revert h
 unfold costsC
 rw [R.bad, R.who, R.len, R.err hm S]
 by_cases hb : anyBad m = true
 ·rw [if_pos hb, if_pos hb]; intro h; simp at h
 rw [if_neg hb, if_neg hb]
 have hok := ordN_ok (W := whoms m) m.Methods.length [] (by simp)
 have hnd := ordN_nodup (W := whoms m) ready_new m.Methods.length [] (by simp)
 have hWl : (whoms m).length = m.Methods.length := by simp [whoms]
 generalize ordN (whoms m) m.Methods.length [] = oe at hok hnd
 obtain ⟨o, e⟩ := oe
 dsimp only at hok hnd ⊢
 by_cases he : e = 0
 ·subst he
  have z : ¬ ((0 : Int) ≠ 0) := by simp
  simp only [if_neg z]
  by_cases hE : errM m = 0
  ·have z2 : ¬ (errM m ≠ 0) := by simpa using hE
   simp only [if_neg z2]
   obtain ⟨ho1, ho2⟩ := hok rfl
   have hnd := hnd rfl
   have hol : o.length = m.Methods.length := by simpa using ho1
   have hr : ∀ a ∈ o, 0 ≤ a ∧ a < (m.Methods.length : Int) := fun a ha => by have := ho2 a ha; rw [hWl] at this; exact this
   have hcov : ∀ k, k < m.Methods.length → (k : Int) ∈ o := fun k hk => covers hol hnd hr hk
   have hone : ∀ kn k, k < m.Methods.length → oneM w kn k = oneM m kn k := fun kn k hk => R.one hm S hk kn
   have hl0 : (List.replicate m.Methods.length api_Cert.zero).length = m.Methods.length := by simp
   have all_of : ∀ (r : List api_Cert) (y : api_Module), (∀ a ∈ o, fitB (r.getD a.toNat api_Cert.zero) (methM y a.toNat) = true) ↔ ∀ k, k < m.Methods.length → fitB (r.getD k api_Cert.zero) (methM y k) = true := by
    intro r y
    refine ⟨fun h k hk => ?_, fun h a ha => h a.toNat (by have := hr a ha; omega)⟩
    have := h _ (hcov k hk)
    rwa [Int.toNat_natCast] at this
   cases hA : certsC (oneM m) (fun k c => fitB c (methM m k)) o (List.replicate m.Methods.length api_Cert.zero) with
   | none => intro h; simp at h
   | some L' =>
    intro h
    obtain rfl : L' = L := (Prod.mk.inj h).1
    obtain ⟨a1, a2, a3⟩ := certs_again (fit2 := fun k c => fitB c (methM w k)) hone o _ L' hl0 hr hnd hA
    refine ⟨fun hall => ?_, fun k hk hno => ?_, (all_of L' m).1 a1⟩
    ·rw [a2 ((all_of L' w).2 hall)]
    ·cases hB : certsC (oneM w) (fun k c => fitB c (methM w k)) o (List.replicate m.Methods.length api_Cert.zero) with
     | none => rfl
     | some C =>
      obtain rfl := a3 C hB
      obtain ⟨b1, -, -⟩ := certs_again (fit2 := fun k c => fitB c (methM w k)) (fun _ _ _ => rfl) o _ C hl0 hr hnd hB
      exact absurd ((all_of C w).1 b1 k hk) hno
  ·simp only [if_pos hE]; intro h; exact absurd (Prod.mk.inj h).2 hE
 ·simp only [if_pos he]; intro h; exact absurd (Prod.mk.inj h).2 he
end CostPure
namespace VerifyPure
open FlowPure TypesPure CallsPure CostPure
structure Acc (m : api_Module) (L : List api_Cert) : Prop where
 may : mayC m = 0
 moves : movesC m = 0
 first : (firstC m).2 = 0
 calls : callsC m = 0
 cost : costsC m = (L, 0)
 pure : pureC m = 0
theorem acc_of {m : api_Module} (h : (standsC m).2 = 0) : Acc m (costsC m).1 := by
 unfold standsC at h
 by_cases h1 : mayC m ≠ 0
 ·rw [if_pos h1] at h; exact absurd h h1
 rw [if_neg h1] at h
 by_cases h2 : movesC m ≠ 0
 ·rw [if_pos h2] at h; exact absurd h h2
 rw [if_neg h2] at h
 by_cases h3 : (firstC m).2 ≠ 0
 ·rw [if_pos h3] at h; exact absurd h h3
 rw [if_neg h3] at h
 by_cases h4 : callsC m ≠ 0
 ·rw [if_pos h4] at h; exact absurd h h4
 rw [if_neg h4] at h
 by_cases h5 : (costsC m).2 ≠ 0
 ·rw [if_pos h5] at h; exact absurd h h5
 rw [if_neg h5] at h
 by_cases h6 : pureC m ≠ 0
 ·rw [if_pos h6] at h; exact absurd h h6
 exact ⟨Classical.not_not.1 h1, Classical.not_not.1 h2, Classical.not_not.1 h3, Classical.not_not.1 h4, Prod.ext rfl (Classical.not_not.1 h5), Classical.not_not.1 h6⟩
theorem acc_stands {m : api_Module} {L : List api_Cert} (h1 : mayC m = 0) (h2 : movesC m = 0) (h3 : (firstC m).2 = 0) (h4 : callsC m = 0) (h5 : costsC m = (L, 0)) : standsC m = if pureC m ≠ 0 then (5, pureC m) else (-1, 0) := by
 unfold standsC
 rw [h1, h2, h3, h4, h5]; simp
theorem put_ok {w : Nat} {n : Int} (h : (putC w n).2 = 0) : (putC w n).1.length = w := by
 unfold putC at h ⊢
 split at h
 ·rename_i hf; rw [if_pos hf]; simp [spr_len]
 ·cases h
structure Mx (x y : api_Method) : Prop where
 un : un y = un x
 f : y.Fuel = 1048576
 s : y.Stack = 256
 h : y.Heap = 1024
theorem Mx.same {x y : api_Method} (h : Mx x y) : y.Args = x.Args ∧ y.Locals = x.Locals ∧ y.Result = x.Result ∧ y.Code = x.Code :=
 ⟨by have e := congrArg api_Method.Args h.un; exact e, by have e := congrArg api_Method.Locals h.un; exact e, by have e := congrArg api_Method.Result h.un; exact e, by have e := congrArg api_Method.Code h.un; exact e⟩
theorem mx_may {x y : api_Method} (h : Mx x y) (hx : mMay x = true) : mMay y = true := by
 obtain ⟨a, b, c, d⟩ := h.same
 unfold mMay at hx ⊢
 rw [a, b, c, h.f, h.s, h.h]
 split at hx
 ·cases hx
 ·rename_i h1
  rw [if_neg h1]
  split at hx
  ·cases hx
  ·rename_i h2
   rw [if_neg h2]; decide
theorem mx_bytes {x y : api_Method} (h : Mx x y) (hx : (mBytes x).2 = 0) : (mBytes y).2 = 0 ∧ (mBytes y).1.length = (mBytes x).1.length := by
 obtain ⟨a, b, c, d⟩ := h.same
 unfold mBytes at hx ⊢
 split at hx
 ·cases hx
 ·rename_i h1
  have hm : mMay x = true := by simpa using h1
  rw [if_neg h1, if_neg (by rw [mx_may h hm]; simp)]
  unfold mTail at hx ⊢
  split at hx
  ·cases hx
  ·rename_i p1
   split at hx
   ·cases hx
   ·rename_i p2
    split at hx
    ·cases hx
    ·rename_i p3
     have q1 : (putC 3 y.Fuel).2 = 0 := by rw [h.f]; decide +kernel
     have q2 : (putC 2 y.Stack).2 = 0 := by rw [h.s]; decide +kernel
     have q3 : (putC 2 y.Heap).2 = 0 := by rw [h.h]; decide +kernel
     rw [if_neg p1, if_neg p2, if_neg p3, if_neg (by simpa using q1), if_neg (by simpa using q2), if_neg (by simpa using q3)]
     refine ⟨rfl, ?_⟩
     simp only [List.length_append]
     rw [put_ok q1, put_ok q2, put_ok q3, put_ok (Classical.not_not.1 p1), put_ok (Classical.not_not.1 p2), put_ok (Classical.not_not.1 p3)]
     unfold mHead
     rw [a, b]; simp
inductive Mxs : List api_Method → List api_Method → Prop
 | nil : Mxs [] []
 | cons {x y : api_Method} {c d : List api_Method} (h : Mx x y) (t : Mxs c d) : Mxs (x :: c) (y :: d)
theorem mx_loop {m w : api_Module} : ∀ {c d : List api_Method} (o o2 : List Int), Mxs c d → o.length = o2.length → (wLoop m c o).2 = 0 → (wLoop w d o2).2 = 0 ∧ (wLoop w d o2).1.length = (wLoop m c o).1.length
 | [], _, o, o2, h, ho, _ => by
  cases h
  simp [wLoop, ho]
 | x :: c, _, o, o2, h, ho, h0 => by
  cases h with
  | cons hx t =>
   rename_i y d
   rw [wLoop] at h0 ⊢
   split at h0
   ·rename_i h1; exact absurd h0 h1
   ·rename_i h1
    split at h0
    ·rename_i h2; exact absurd h0 h2
    ·rename_i h2
     have b := mx_bytes hx (Classical.not_not.1 h1)
     have hc := hx.same.2.2.2
     rw [wLoop, if_neg (by rw [b.1]; simp), hc, if_neg h2, if_neg h1, if_neg h2]
     exact mx_loop _ _ t (by simp [ho, b.2]) h0
theorem mxs_at {m w : api_Module} (hl : w.Methods.length = m.Methods.length) (h : ∀ k, k < m.Methods.length → Mx (methM m k) (methM w k)) : Mxs m.Methods w.Methods := by
 have key : ∀ (c d : List api_Method), d.length = c.length → (∀ k (h1 : k < c.length) (h2 : k < d.length), Mx c[k] d[k]) → Mxs c d := by
  intro c
  induction c with
  | nil => intro d hd _; rw [List.length_eq_zero_iff.1 hd]; exact .nil
  | cons x c ih =>
   intro d hd hk
   cases d with
   | nil => simp at hd
   | cons y d => exact .cons (hk 0 (by simp) (by simp)) (ih d (by simpa using hd) fun k h1 h2 => by have := hk (k + 1) (by simpa using h1) (by simpa using h2); simpa using this)
 refine key _ _ hl fun k h1 h2 => ?_
 have := h k h1
 rwa [methM_at h1, methM_at h2] at this
theorem mx_parts {m w : api_Module} {L : List api_Cert} (hm : wf_api_Module m) (S : Small m) (A : Acc m L) (hl : w.Methods.length = m.Methods.length) (h : ∀ k, k < m.Methods.length → Mx (methM m k) (methM w k)) (hG : w.Globals = m.Globals) (hP : w.Pool = m.Pool) (hMg : w.Migrate = m.Migrate) :
    Redecl m w ∧ mayC w = 0 ∧ movesC w = 0 ∧ (firstC w).2 = 0 ∧ callsC w = 0 ∧ costsC w = (L, 0) := by
 have R : Redecl m w := ⟨hG, hP, List.ext_getElem (by simp [hl]) fun i h1 h2 => by
  have hi : i < m.Methods.length := by simpa using h2
  have hi2 : i < w.Methods.length := by simpa using h1
  have := (h i hi).un
  rw [methM_at hi, methM_at hi2] at this
  simpa using this⟩
 refine ⟨R, ?_, ?_, ?_, ?_, ?_⟩
 ·have a := A.may
  unfold mayC bytesC at a ⊢
  have key : (wholeC m).2 = 0 ∧ ¬ ((wholeC m).1.length : Int) > 2000 := by
   by_cases h1 : (wholeC m).2 = 0
   ·refine ⟨h1, fun h2 => ?_⟩
    rw [if_neg (by simpa using h1), if_pos h2] at a; cases a
   ·rw [if_pos h1] at a; exact absurd a h1
  have kw : (wholeC w).2 = 0 ∧ (wholeC w).1.length = (wholeC m).1.length := by
   have k1 := key.1
   unfold wholeC at k1 ⊢
   rw [hG, hP, hMg, hl]
   split at k1
   ·cases k1
   ·rename_i c1
    split at k1
    ·rename_i c2; exact absurd k1 c2
    ·rename_i c2
     split at k1
     ·rename_i c3; exact absurd k1 c3
     ·rename_i c3
      rw [if_neg c1, if_neg c2, if_neg c3, if_neg c1, if_neg c2, if_neg c3]
      exact mx_loop _ _ (mxs_at hl h) rfl k1
  rw [if_neg (by rw [kw.1]; simp), kw.2, if_neg key.2]
 ·have a := A.moves
  unfold movesC at a ⊢
  rw [hMg]
  split at a
  ·cases a
  ·rename_i h1
   rw [if_neg]
   rintro ⟨h2, h3⟩
   have hmi := (mayC_err S).2 A.may
   have hk : m.Migrate.toNat < m.Methods.length := by omega
   have hx := h _ hk
   have h4 : migB (methM m m.Migrate.toNat) = true := by
    cases hh : migB (methM m m.Migrate.toNat)
    ·exact absurd ⟨h2, hh⟩ h1
    ·rfl
   unfold migB at h3 h4
   rw [Bool.and_eq_true] at h4
   rw [mx_may hx h4.1, hx.same.1, h4.2] at h3
   cases h3
 ·have : firstC w = firstC m := by
   unfold firstC
   rw [hl]
   have e : (List.range m.Methods.length).find? (fun k => decide ((rowsM w k).2 ≠ 0)) = (List.range m.Methods.length).find? (fun k => decide ((rowsM m k).2 ≠ 0)) := by
    have : ∀ l : List Nat, (∀ k ∈ l, k < m.Methods.length) → l.find? (fun k => decide ((rowsM w k).2 ≠ 0)) = l.find? (fun k => decide ((rowsM m k).2 ≠ 0)) := by
     intro l
     induction l with
     | nil => intro _; rfl
     | cons k l ih =>
      intro hk
      rw [List.find?_cons, List.find?_cons, R.rows hm S (hk k (by simp)), ih fun j hj => hk j (by simp [hj])]
    exact this _ fun k hk => List.mem_range.1 hk
   rw [e]
   cases hf : (List.range m.Methods.length).find? (fun k => decide ((rowsM m k).2 ≠ 0)) with
   | none => rfl
   | some k => dsimp only; rw [R.rows hm S (List.mem_range.1 (List.mem_of_find?_eq_some hf))]
  rw [this]; exact A.first
 ·have a := A.calls
  unfold callsC at a ⊢
  rw [R.bad, R.who, R.len]; exact a
 ·obtain ⟨d1, -, d3⟩ := declares hm S R A.cost
  refine d1 fun k hk => ?_
  have := d3 k hk
  have hx := h k hk
  unfold fitB at this ⊢
  simp only [decide_eq_true_eq] at this ⊢
  rw [hx.f, hx.s, hx.h]
  omega
theorem who_ok {m : api_Module} (h : callsC m = 0) : anyBad m = false := by
 unfold callsC at h
 cases hb : anyBad m with
 | false => rfl
 | true => rw [if_pos hb] at h; cases h
theorem bad_none {m : api_Module} (hb : anyBad m = false) (h : pureC m = 0) : ∀ k, k < m.Methods.length → badR m k = false := by
 intro k hk
 unfold pureC at h
 rw [if_neg (by rw [hb]; simp)] at h
 split at h
 ·cases h
 ·rename_i hn
  cases hh : badR m k
  ·rfl
  ·exact absurd (List.any_eq_true.2 ⟨k, List.mem_range.2 hk, hh⟩) hn
def wantC (m : api_Module) (k n : Nat) : Int := if (List.range n).any (fun i => ((methM m i).Reads && decide ((k : Int) ∈ (whoms m).getD i [])) && decide (i ≠ k)) = true then 130 else 0
theorem any_eq {α : Type} {p q : α → Bool} : ∀ {l : List α}, (∀ x ∈ l, p x = q x) → l.any p = l.any q
 | [], _ => rfl
 | x :: l, h => by rw [List.any_cons, List.any_cons, h x (by simp), any_eq fun y hy => h y (by simp [hy])]
theorem pure_same {m w : api_Module} (R : Redecl m w) (hr : ∀ k, k < m.Methods.length → (methM w k).Reads = (methM m k).Reads) (hin : ∀ k, k < m.Methods.length → ∀ a ∈ (whoms m).getD k [], 0 ≤ a ∧ a < m.Methods.length) : pureC w = pureC m := by
 unfold pureC
 rw [R.bad, R.len]
 have : (List.range m.Methods.length).any (badR w) = (List.range m.Methods.length).any (badR m) := by
  refine any_eq ?_
  intro k hk
  have hk := List.mem_range.1 hk
  unfold badR storesB loudB
  rw [hr k hk, R.code k, R.who]
  congr 2
  refine any_eq ?_
  intro a ha
  have := hin k hk a ha
  rw [hr _ (by omega)]
 rw [this]
end VerifyPure
namespace VerifyPure
open FlowPure TypesPure CallsPure CostPure
theorem whom_in {m : api_Module} {k : Nat} (hk : k < m.Methods.length) : ∀ a ∈ (whoms m).getD k [], 0 ≤ a ∧ a < m.Methods.length := by
 intro a ha
 rw [whoms_at hk] at ha
 unfold whomL at ha
 obtain ⟨j, hj, rfl⟩ := List.mem_map.1 (List.mem_filter.1 ha).1
 have := List.mem_range.1 hj
 omega
theorem pure_less {m w : api_Module} (R : Redecl m w) (hb : anyBad m = false) (hp : pureC m = 0) {k : Nat} (hr : ∀ i, i < m.Methods.length → (methM w i).Reads = if i = k then false else (methM m i).Reads) : pureC w = wantC m k m.Methods.length := by
 have hn := bad_none hb hp
 unfold pureC wantC
 rw [R.bad, R.len, if_neg (by rw [hb]; simp)]
 have : (List.range m.Methods.length).any (badR w) = (List.range m.Methods.length).any (fun i => ((methM m i).Reads && decide ((k : Int) ∈ (whoms m).getD i [])) && decide (i ≠ k)) := by
  refine any_eq fun i hi => ?_
  have hi := List.mem_range.1 hi
  have h1 := hn i hi
  have hin := whom_in hi
  unfold badR storesB loudB at h1 ⊢
  rw [hr i hi, R.code i, R.who]
  by_cases e : i = k
  ·rw [if_pos e]; simp [e]
  ·rw [if_neg e]
   cases hR : (methM m i).Reads with
   | false => rfl
   | true =>
    rw [hR, Bool.true_and, Bool.or_eq_false_iff] at h1
    rw [h1.1, Bool.true_and, Bool.true_and, Bool.false_or, decide_eq_true e, Bool.and_true, Bool.eq_iff_iff, List.any_eq_true, decide_eq_true_eq]
    refine ⟨fun ⟨a, ha, h2⟩ => ?_, fun ha => ⟨(k : Int), ha, ?_⟩⟩
    ·have h3 := hin a ha
     have h4 := List.any_eq_false.1 h1.2 a ha
     rw [hr _ (by omega)] at h2
     by_cases e2 : a.toNat = k
     ·rwa [show (k : Int) = a by omega]
     ·rw [if_neg e2] at h2; exact absurd h2 h4
    ·have h3 := hin _ ha
     rw [hr _ (by omega), Int.toNat_natCast, if_pos rfl]; rfl
 rw [this]
def mxC (x : api_Method) : api_Method := { x with Fuel := 1048576, Stack := 256, Heap := 1024 }
theorem mxC_wf {x : api_Method} (h : wf_api_Method x) : wf_api_Method (mxC x) := by
 obtain ⟨g1, g2, g3, g4, -, -, -, g8⟩ := h
 exact ⟨g1, g2, g3, g4, show (Lit.int .i64 1048576).wf = true by decide, show (Lit.int .i64 256).wf = true by decide, show (Lit.int .i64 1024).wf = true by decide, g8⟩
theorem same_refl {l : List api_Cert} (h : l.length < 4611686018427387904) : capstanref12_Same.f l l = some true := certs_refl h
theorem law_declares {m : api_Module} {k : Int} (hm : wf_api_Module m) : capstanlaw14_VerifyDeclares.f m k = some true := by
 unfold capstanlaw14_VerifyDeclares.f
 by_cases hg : greatB m = true
 ·refine runF_end ?_
  dsimp only [capstanlaw14_VerifyDeclares.F]
  rw [vawake, Option.bind_some, if_neg (by simp), great_eq, Option.bind_some, if_pos hg]
 have S := small_of (by simpa using hg)
 have hM := S.M
 have pa := p_accept hm S
 have start : ∀ q, (if (((decide ((acceptC m).2 ≠ 0)) || (decide (k < 0))) || (decide (k ≥ (m.Methods.length : Int)))) = true then (some (.inr true)) else (some (.inl (.l1 (acceptC m) m m.Methods 0)))) = q → capstanlaw14_VerifyDeclares.F m k .start = q := by
  intro q hq
  dsimp only [capstanlaw14_VerifyDeclares.F]
  rw [vawake, Option.bind_some, if_neg (by simp), great_eq, Option.bind_some, if_neg hg, pa, Option.bind_some, copy_eq S, Option.bind_some]
  exact hq
 by_cases hc : (((decide ((acceptC m).2 ≠ 0)) || (decide (k < 0))) || (decide (k ≥ (m.Methods.length : Int)))) = true
 ·rw [if_pos hc] at start; exact runF_end (start _ rfl)
 rw [if_neg hc] at start
 rw [runF_step (start _ rfl)]
 simp only [Bool.or_eq_true, decide_eq_true_eq, not_or, Classical.not_not] at hc
 obtain ⟨⟨c1, k0⟩, k1⟩ := hc
 obtain ⟨i, rfl⟩ : ∃ i : Nat, k = (i : Int) := ⟨k.toNat, by omega⟩
 have hi : i < m.Methods.length := by omega
 have hst : (standsC m).2 = 0 := by
  unfold acceptC at c1
  by_cases h : (standsC m).2 ≠ 0
  ·rw [if_pos h] at c1; exact absurd c1 h
  ·exact Classical.not_not.1 h
 have A := acc_of hst
 have hacc : acceptC m = costsC m := by unfold acceptC; rw [if_neg (by simpa using hst)]
 have hL := costs_len (show (costsC m).2 = 0 by rw [A.cost])
 rw [hacc]
 generalize (costsC m).1 = L at A hL
 have hcost := A.cost
 -- all declare as much as may be
 generalize hAd : m.Methods.map mxC = B
 have hBl : B.length = m.Methods.length := by rw [← hAd]; simp
 have hBt : ∀ j (h : j < B.length), B[j] = mxC (m.Methods[j]'(by omega)) := fun j h => by subst hAd; simp
 have loop : runF (capstanlaw14_VerifyDeclares.F m (i : Int)) (.l1 (costsC m) m m.Methods 0) = runF (capstanlaw14_VerifyDeclares.F m (i : Int)) (.l1 (costsC m) m B (m.Methods.length : Int)) := by
  have := runF_up (F := capstanlaw14_VerifyDeclares.F m (i : Int)) (n := m.Methods.length) (fun j => .l1 (costsC m) m (B.take j ++ m.Methods.drop j) (j : Int)) (fun j hj => by
   have hjm : j < (B.take j ++ m.Methods.drop j).length := by simp; omega
   have hl : (B.take j ++ m.Methods.drop j).length = m.Methods.length := by simp; omega
   dsimp only [capstanlaw14_VerifyDeclares.F]
   rw [hl, if_pos (by omega), mix_at hBl hj, Option.bind_some, Option.bind_some, Int.toNat_natCast]
   have h2 : ∀ y z : api_Method, elt (((B.take j ++ m.Methods.drop j).set j y).set j z) (j : Int) = some z := fun y z => by rw [elt_lt (by rw [List.length_set, List.length_set]; exact hjm)]; simp
   rw [h2, Option.bind_some, wrap_succ j (by omega), List.set_set, List.set_set, ← mix_set hBl (by omega), hBt j (by omega)]
   rfl)
  simpa [List.take_of_length_le (Nat.le_of_eq hBl)] using this
 rw [loop]
 have wfB : ∀ x ∈ B, wf_api_Method x := by
  intro x hx
  rw [← hAd] at hx
  obtain ⟨y, hy, rfl⟩ := List.mem_map.1 hx
  exact mxC_wf (hm.2.2.1.2 y hy)
 have hw : wf_api_Module ⟨m.Globals, m.Pool, B, m.Migrate⟩ := ⟨hm.1, hm.2.1, ⟨by dsimp only; rw [hBl]; exact hm.2.2.1.1, wfB⟩, hm.2.2.2⟩
 have hme : ∀ j, j < m.Methods.length → methM ⟨m.Globals, m.Pool, B, m.Migrate⟩ j = mxC (methM m j) := by
  intro j hj
  have hj2 : j < (⟨m.Globals, m.Pool, B, m.Migrate⟩ : api_Module).Methods.length := by dsimp only; omega
  rw [methM_at hj2, methM_at hj]
  exact hBt j (by omega)
 obtain ⟨R, p1, p2, p3, p4, p5⟩ := mx_parts (w := ⟨m.Globals, m.Pool, B, m.Migrate⟩) hm S A hBl (fun j hj => by rw [hme j hj]; exact ⟨rfl, rfl, rfl, rfl⟩) rfl rfl rfl
 have Sw := R.small S
 have hin := fun j (hj : j < m.Methods.length) => whom_in hj
 have p6 : pureC ⟨m.Globals, m.Pool, B, m.Migrate⟩ = 0 := (pure_same R (fun j hj => by rw [hme j hj]; rfl) hin).trans A.pure
 have sw := acc_stands p1 p2 p3 p4 p5
 rw [p6, if_neg (by simp)] at sw
 have aw : acceptC ⟨m.Globals, m.Pool, B, m.Migrate⟩ = (L, 0) := by unfold acceptC; rw [sw, if_neg (by simp), p5]
 have pw := p_accept hw Sw
 rw [aw] at pw
 have hiB : i < B.length := by omega
 have l1 : capstanlaw14_VerifyDeclares.F m (i : Int) (.l1 (costsC m) m B (m.Methods.length : Int)) = some (.inl (.l2 m B B[i] 0 0)) := by
  dsimp only [capstanlaw14_VerifyDeclares.F]
  rw [if_neg (by omega), pw, Option.bind_some, if_neg (by simp), hcost, same_refl (show L.length < 4611686018427387904 by omega), Option.bind_some, Option.bind_some, if_neg (by simp), elt_lt hiB, Option.bind_some]
 rw [runF_step l1]
 -- what is asked for
 have hb := who_ok A.calls
 have rounds : ∀ n, n ≤ m.Methods.length → runF (capstanlaw14_VerifyDeclares.F m (i : Int)) (.l2 m B B[i] 0 0) = runF (capstanlaw14_VerifyDeclares.F m (i : Int)) (.l2 m B B[i] (wantC m i n) (n : Int)) := by
  intro n
  induction n with
  | zero => intro _; rfl
  | succ n ih =>
   intro hn
   rw [ih (by omega)]
   have hbn : (nm m.Methods[n].Code).any (badN m.Methods.length) = false := by
    have := List.any_eq_false.1 (show (m.Methods.any fun x => (nm x.Code).any (badN m.Methods.length)) = false by simpa [anyBad] using hb) _ (List.getElem_mem hn)
    simpa using this
   have hwho := prog_whom (m := m) (k := n) (by omega) (S.x _ (List.getElem_mem hn)).2.2
   have hwl : whomC m.Methods.length m.Methods[n].Code = ((whoms m).getD n [], 0) := by unfold whomC; rw [if_neg (by rw [hbn]; simp), whoms_at hn]
   rw [hwl] at hwho
   have hlen : ((whoms m).getD n []).length ≤ 100 := by
    rw [whoms_at hn]
    have := whomL_len m.Methods.length m.Methods[n].Code
    omega
   have l2 : capstanlaw14_VerifyDeclares.F m (i : Int) (.l2 m B B[i] (wantC m i n) (n : Int)) = some (.inl (.l3 m B B[i] (n : Int) ((whoms m).getD n [], 0) (wantC m i n) 0)) := by
    dsimp only [capstanlaw14_VerifyDeclares.F]
    rw [if_pos (by omega), hwho, Option.bind_some]
   rw [runF_step l2]
   have en := elt_lt (xs := m.Methods) (k := n) (by omega)
   rw [← methM_at hn] at en
   generalize hwi : (whoms m).getD n [] = W at hlen
   have inner := runF_up (F := capstanlaw14_VerifyDeclares.F m (i : Int)) (n := W.length) (fun j => .l3 m B B[i] (n : Int) (W, 0) (if (((methM m n).Reads && decide ((i : Int) ∈ W.take j)) && decide (n ≠ i)) = true then 130 else wantC m i n) (j : Int)) (fun j hj => by
    dsimp only [capstanlaw14_VerifyDeclares.F]
    rw [if_pos (by omega), elt_lt hj, Option.bind_some, en]
    have ht : W.take (j + 1) = W.take j ++ [W[j]] := by rw [List.take_add_one, List.getElem?_eq_getElem hj]; rfl
    unfold capstanlaw14_VerifyDeclares.j1
    have h1 : decide ((n : Int) ≠ (i : Int)) = decide (n ≠ i) := decide_eq_decide.2 (by omega)
    have h2 : decide ((i : Int) ∈ W.take j ++ [W[j]]) = (decide ((i : Int) ∈ W.take j) || decide ((i : Int) = W[j])) := by rw [Bool.eq_iff_iff, Bool.or_eq_true, decide_eq_true_eq, decide_eq_true_eq, decide_eq_true_eq, List.mem_append, List.mem_singleton]
    rw [wrap_succ j (by omega), ht, h1, h2]
    generalize decide (n ≠ i) = b1
    generalize decide ((i : Int) ∈ W.take j) = b3
    simp only [Option.bind_some]
    generalize (methM m n).Reads = b2
    generalize wantC m i n = v
    by_cases e : W[j] = (i : Int)
    ·rw [if_pos e, decide_eq_true e.symm]
     cases b1 <;> cases b2 <;> cases b3 <;> rfl
    ·rw [if_neg e, decide_eq_false (fun z => e z.symm)]
     cases b1 <;> cases b2 <;> cases b3 <;> rfl)
   have fin : (if (((methM m n).Reads && decide ((i : Int) ∈ W.take W.length)) && decide (n ≠ i)) = true then 130 else wantC m i n) = wantC m i (n + 1) := by
    unfold wantC
    rw [List.take_length, List.range_succ, List.any_append, ← hwi]
    simp only [List.any_cons, List.any_nil, Bool.or_false]
    cases (List.range n).any (fun i_1 => ((methM m i_1).Reads && decide ((i : Int) ∈ (whoms m).getD i_1 [])) && decide (i_1 ≠ i)) <;> cases (((methM m n).Reads && decide ((i : Int) ∈ (whoms m).getD n [])) && decide (n ≠ i)) <;> rfl
   have inner0 : runF (capstanlaw14_VerifyDeclares.F m (i : Int)) (.l3 m B B[i] (n : Int) (W, 0) (wantC m i n) 0) = runF (capstanlaw14_VerifyDeclares.F m (i : Int)) (.l3 m B B[i] (n : Int) (W, 0) (wantC m i (n + 1)) (W.length : Int)) := by
    have z : (if (((methM m n).Reads && decide ((i : Int) ∈ W.take 0)) && decide (n ≠ i)) = true then 130 else wantC m i n) = wantC m i n := by simp
    rw [z, fin] at inner
    exact inner
   rw [inner0]
   refine runF_step ?_
   dsimp only [capstanlaw14_VerifyDeclares.F]
   rw [if_neg (by omega), wrap_succ n (by omega)]
 rw [rounds m.Methods.length (Nat.le_refl _)]
 -- one of them doesn't say any more that it reads
 generalize hy : ({ B[i] with Reads := false } : api_Method) = y
 have wy : wf_api_Method y := by
  obtain ⟨g1, g2, g3, g4, g5, g6, g7, g8⟩ := wfB _ (List.getElem_mem hiB)
  rw [← hy]
  exact ⟨g1, g2, g3, trivial, g5, g6, g7, g8⟩
 have hw2 : wf_api_Module ⟨m.Globals, m.Pool, B.set i y, m.Migrate⟩ := by
  refine ⟨hm.1, hm.2.1, ⟨by dsimp only; rw [List.length_set, hBl]; exact hm.2.2.1.1, fun x hx => ?_⟩, hm.2.2.2⟩
  rcases List.mem_or_eq_of_mem_set hx with h | rfl
  ·exact wfB x h
  ·exact wy
 have hme2 : ∀ j, j < m.Methods.length → methM ⟨m.Globals, m.Pool, B.set i y, m.Migrate⟩ j = if j = i then y else mxC (methM m j) := by
  intro j hj
  have hj2 : j < (⟨m.Globals, m.Pool, B.set i y, m.Migrate⟩ : api_Module).Methods.length := by dsimp only; rw [List.length_set]; omega
  rw [methM_at hj2, methM_at hj]
  dsimp only
  rw [List.getElem_set]
  by_cases e : i = j
  ·rw [if_pos e, if_pos e.symm]
  ·rw [if_neg e, if_neg (Ne.symm e)]; exact hBt j (by omega)
 have yB : y = { mxC (methM m i) with Reads := false } := by rw [← hy, hBt i hiB, methM_at hi]
 obtain ⟨R2, q1, q2, q3, q4, q5⟩ := mx_parts (w := ⟨m.Globals, m.Pool, B.set i y, m.Migrate⟩) hm S A (by dsimp only; rw [List.length_set]; exact hBl) (fun j hj => by
  rw [hme2 j hj]
  by_cases e : j = i
  ·rw [if_pos e, yB, e]; exact ⟨rfl, rfl, rfl, rfl⟩
  ·rw [if_neg e]; exact ⟨rfl, rfl, rfl, rfl⟩) rfl rfl rfl
 have q6 := pure_less R2 hb A.pure (k := i) (fun j hj => by
  rw [hme2 j hj]
  by_cases e : j = i
  ·rw [if_pos e, if_pos e, yB]
  ·rw [if_neg e, if_neg e]; rfl)
 have sw2 := acc_stands q1 q2 q3 q4 q5
 have v2 := p_vmay hw2 (R2.small S)
 have e2 : (standsC ⟨m.Globals, m.Pool, B.set i y, m.Migrate⟩).2 = wantC m i m.Methods.length := by
  rw [sw2, q6]
  split
  ·rfl
  ·rename_i h; exact (Classical.not_not.1 h).symm
 refine runF_end ?_
 dsimp only [capstanlaw14_VerifyDeclares.F]
 rw [if_neg (by omega), Int.toNat_natCast, hy, v2, Option.bind_some, e2]; simp
end VerifyPure
theorem verifyDeclares_card : Rows.VerifyDeclaresCardSaid := verifyDeclares.card fun x0 x1 h _ => VerifyPure.law_declares h
#print axioms verifyDeclares_card
end Go.Proofs.YtehjiiebjkkcmaaGreatDoor
