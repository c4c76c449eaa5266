/- An accepted module with a method more at its end, that no one calls and that takes a number or two and tells it or their sum, or traps, is accepted, if its bytes are few enough, and the others' certificates stay (the law VerifyMore): for every input, with no condition but what the card ties to the program (what op's table of bounds holds). -/
import Derived.Test.YtehjiiebjkkcmaaGreatDoorP0VerifyMore
set_option linter.unusedVariables false
set_option linter.unusedSimpArgs false
set_option linter.unusedSectionVars false
namespace Go.Proofs.YtehjiiebjkkcmaaGreatDoor
open Go.Q
namespace VerifyPure
open FlowPure TypesPure CallsPure CostPure
theorem costs_len {m : api_Module} (h : (costsC m).2 = 0) : (costsC m).1.length = m.Methods.length := by
 revert h
 unfold costsC
 split
 ·intro h; simp at h
 ·split
  ·intro h; rename_i h1; exact absurd h h1
  ·split
   ·intro h; rename_i h1; exact absurd h h1
   ·split
    ·intro h; simp at h
    ·rename_i hA
     intro _
     have := (certs_len _ _ _ hA).1
     simpa using this
noncomputable def standsC (m : api_Module) : Int × Int :=
 if mayC m ≠ 0 then (0, mayC m) else if movesC m ≠ 0 then (1, movesC m) else if (firstC m).2 ≠ 0 then (2, (firstC m).2) else if callsC m ≠ 0 then (3, callsC m) else
 if (costsC m).2 ≠ 0 then (4, (costsC m).2) else if pureC m ≠ 0 then (5, pureC m) else (-1, 0)
theorem p_stands {m : api_Module} (hm : wf_api_Module m) (S : Small m) : verify_stands.f m = some (standsC m) := by
 have hE := (mayC_err S).2
 unfold verify_stands.f verify_checks.f standsC verify_stands.j2
 simp only [Option.bind_some]
 rw [p_may hm S]; simp only [Option.bind_some]
 by_cases h1 : mayC m ≠ 0
 ·rw [if_pos h1, if_pos h1]
 rw [if_neg h1, if_neg h1, p_moves S (hE (Classical.not_not.1 h1)).2]; simp only [Option.bind_some]
 by_cases h2 : movesC m ≠ 0
 ·rw [if_pos h2, if_pos h2]
 unfold verify_kinds.f
 rw [if_neg h2, if_neg h2, p_first hm S]; simp only [Option.bind_some]
 by_cases h3 : (firstC m).2 ≠ 0
 ·rw [if_pos h3, if_pos h3]
 rw [if_neg h3, if_neg h3, p_calls S]; simp only [Option.bind_some]
 by_cases h4 : callsC m ≠ 0
 ·rw [if_pos h4, if_pos h4]
 rw [if_neg h4, if_neg h4, p_cost hm S]; simp only [Option.bind_some]
 by_cases h5 : (costsC m).2 ≠ 0
 ·rw [if_pos h5, if_pos h5]
 rw [if_neg h5, if_neg h5, p_pure S]; simp only [Option.bind_some]
 by_cases h6 : pureC m ≠ 0
 ·rw [if_pos h6, if_pos h6]
 ·rw [if_neg h6, if_neg h6, Classical.not_not.1 h6]
theorem p_vmay {m : api_Module} (hm : wf_api_Module m) (S : Small m) : verify_May.f m = some (standsC m).2 := by
 unfold verify_May.f
 rw [p_stands hm S]; rfl
noncomputable def acceptC (m : api_Module) : List api_Cert × Int := if (standsC m).2 ≠ 0 then ([], (standsC m).2) else costsC m
theorem p_accept {m : api_Module} (hm : wf_api_Module m) (S : Small m) : verify_Accept.f m = some (acceptC m) := by
 unfold verify_Accept.f acceptC
 rw [p_vmay hm S]; simp only [Option.bind_some]
 split
 ·rfl
 ·rw [prog_costs hm S]; rfl
noncomputable def blameC (m : api_Module) : Int := if (standsC m).1 ≠ 2 then -1 else (firstC m).1
theorem p_blame {m : api_Module} (hm : wf_api_Module m) (S : Small m) : verify_Blame.f m = some (blameC m) := by
 unfold verify_Blame.f blameC
 rw [p_stands hm S]; simp only [Option.bind_some]
 split
 ·rfl
 ·rw [p_first hm S]; rfl
end VerifyPure
namespace VerifyPure
open FlowPure TypesPure CallsPure CostPure
def thereB (m : api_Module) (x : api_Method) : Bool := x.Code.all fun i => there (envOf m x) i
theorem e_rows {m : api_Module} (S : Small m) (hm : wf_api_Module m) {k : Nat} {x : api_Method} (hk : k < m.Methods.length) (hx : m.Methods[k] = x) (h : ((knownB x.Code && fineB x.Code) && thereB m x) = true) : rowsM m k = rowsC (envOf m x) x.Code := by
 rw [Bool.and_eq_true, Bool.and_eq_true] at h
 obtain ⟨k1, k2, k3⟩ := knownB_ok h.1.1
 have h3 := h.2
 unfold thereB at h3
 rw [List.all_eq_true] at h3
 have hxm : x ∈ m.Methods := by rw [← hx]; exact List.getElem_mem hk
 have hwx : ∀ i ∈ x.Code, wf_api_Instr i := ((hm.2.2.1.2 x hxm).2.2.2.2.2.2.2).2
 have r := rows_well (m := m) (x := x) (k := (k : Int)) (by omega) (by omega) (by rw [elt_lt hk, hx]) ⟨k1, fineB_iff.1 h.1.2, hwx, h3, fun y hy => by have := S.x y hy; omega⟩ (by have := S.x x hxm; omega)
 unfold rowsM; rw [r]; rfl
theorem certs_cons {one : List api_Cert → Nat → api_Cert} {fit : Nat → api_Cert → Bool} {a : Int} {o : List Int} {l : List api_Cert} {c : api_Cert} (h : one l a.toNat = c) (hf : fit a.toNat c = true) : certsC one fit (a :: o) l = certsC one fit o (l.set a.toNat c) := by
 subst h; rw [certsC, if_pos hf]
def eC : List api_Instr := [⟨4, 0, 0⟩, ⟨31, 0, 0⟩]
def eX (f : Int) : api_Method := ⟨[], [], 1, false, f, 1, 0, eC⟩
def eM (f : Int) : api_Module := ⟨[⟨1, 0, 0⟩], [], [eX f], -1⟩
def eB : api_Module := ⟨[⟨1, 0, 0⟩], [], [⟨[], [], 1, false, 2, 1, 0, [⟨31, 0, 0⟩]⟩], -1⟩
def eV : api_Module := ⟨[⟨1, 0, 0⟩], [], [⟨[3], [], 1, false, 2, 1, 0, eC⟩], 0⟩
def eN : api_Module := ⟨[], [], [], -1⟩
theorem small_eq (f : Int) : capstanlaw14_small.f f = some (eM f) := rfl
theorem eM_small (f : Int) : Small (eM f) := ⟨by simp [eM], by simp [eM], by simp [eM], fun x hx => by simp [eM, eX, eC] at hx; subst hx; simp⟩
theorem eB_small : Small eB := small_of (by decide +kernel)
theorem eV_small : Small eV := small_of (by decide +kernel)
theorem eN_small : Small eN := small_of (by decide +kernel)
theorem eM_wf {f : Int} (h0 : -9223372036854775808 ≤ f) (h1 : f < 9223372036854775808) : wf_api_Module (eM f) := by
 have h : ∀ x ∈ (eM f).Methods, wf_api_Method x := by
  intro x hx
  simp only [eM, List.mem_cons, List.not_mem_nil, or_false] at hx
  rcases hx with rfl
  refine ⟨?_, ?_, show (Lit.int .u8 1).wf = true by decide, trivial, ?_, show (Lit.int .i64 1).wf = true by decide, show (Lit.int .i64 0).wf = true by decide, ?_⟩
  ·simp [eX, maxLen]
  ·simp [eX, maxLen]
  ·unfold eX Lit.wf; simp [IntKind.min, IntKind.max, IntKind.signed, IntKind.bits]; omega
  ·simp [eX, eC, maxLen, wf_api_Instr]; decide
 exact ⟨by simp [eM, maxLen, wf_api_Value]; decide, by simp [eM], ⟨by simp [eM, maxLen], h⟩, show (Lit.int .i64 (-1)).wf = true by decide⟩
theorem eB_wf : wf_api_Module eB := by
 have h : ∀ x ∈ eB.Methods, wf_api_Method x := by
  intro x hx
  simp only [eB, List.mem_cons, List.not_mem_nil, or_false] at hx
  rcases hx with rfl
  refine ⟨?_, ?_, by decide, trivial, by decide, by decide, by decide, ?_⟩ <;> simp [maxLen, wf_api_Instr] <;> decide
 exact ⟨by simp [eB, maxLen, wf_api_Value]; decide, by simp [eB], ⟨by simp [eB, maxLen], h⟩, by decide⟩
theorem eV_wf : wf_api_Module eV := by
 have h : ∀ x ∈ eV.Methods, wf_api_Method x := by
  intro x hx
  simp only [eV, List.mem_cons, List.not_mem_nil, or_false] at hx
  rcases hx with rfl
  refine ⟨?_, ?_, by decide, trivial, by decide, by decide, by decide, ?_⟩
  ·simp [maxLen]; decide
  ·simp [maxLen]
  ·simp [eC, maxLen, wf_api_Instr]; decide
 exact ⟨by simp [eV, maxLen, wf_api_Value]; decide, by simp [eV], ⟨by simp [eV, maxLen], h⟩, by decide⟩
theorem eN_wf : wf_api_Module eN := ⟨by simp [eN, maxLen], by simp [eN, maxLen], ⟨by simp [eN, maxLen], by simp [eN]⟩, by decide⟩
theorem e_rows1 {f : Int} (h0 : -9223372036854775808 ≤ f) (h1 : f < 9223372036854775808) : rowsM (eM f) 0 = rowsC (envOf (eM f) (eX f)) eC := e_rows (eM_small f) (eM_wf h0 h1) (k := 0) (x := eX f) (by simp [eM]) rfl (by
 have : ((knownB eC && fineB eC) && thereB (eM 0) (eX 0)) = true := by decide +kernel
 exact this)
theorem e_rows0 : (rowsC (envOf (eM 0) (eX 0)) eC) = ([⟨true, []⟩, ⟨true, [1]⟩], 0) := by decide +kernel
theorem e_rowsF {f : Int} (h0 : -9223372036854775808 ≤ f) (h1 : f < 9223372036854775808) : rowsM (eM f) 0 = ([⟨true, []⟩, ⟨true, [1]⟩], 0) := (e_rows1 h0 h1).trans e_rows0
theorem e_rowsB : rowsM eB 0 = ([], 101) := (e_rows eB_small eB_wf (k := 0) (x := ⟨[], [], 1, false, 2, 1, 0, [⟨31, 0, 0⟩]⟩) (by simp [eB]) rfl (by decide +kernel)).trans (by decide +kernel)
theorem first1 {m : api_Module} (h : m.Methods.length = 1) : firstC m = if (rowsM m 0).2 = 0 then (-1, 0) else (0, (rowsM m 0).2) := by
 unfold firstC
 rw [h, show List.range 1 = [0] from rfl]
 by_cases h0 : (rowsM m 0).2 = 0
 ·simp [h0]
 ·simp [h0]
theorem e_err {f : Int} (h0 : -9223372036854775808 ≤ f) (h1 : f < 9223372036854775808) : errM (eM f) = 0 := by
 unfold errM
 rw [show List.range (eM f).Methods.length = [0] from rfl, List.map_cons, List.map_nil, e_rowsF h0 h1]; rfl
theorem e_one {f : Int} (h0 : -9223372036854775808 ≤ f) (h1 : f < 9223372036854775808) (kn : List api_Cert) : oneM (eM f) kn 0 = ⟨2, 1, 0⟩ := by
 have : oneM (eM f) kn 0 = oneC (alens (eM f)) kn (eX f) [⟨true, []⟩, ⟨true, [1]⟩] := by unfold oneM; rw [e_rowsF h0 h1]; rfl
 rw [this]
 have e : ∀ al : List Nat, oneC al kn (eX f) [⟨true, []⟩, ⟨true, [1]⟩] = oneC [] [] (eX 0) [⟨true, []⟩, ⟨true, [1]⟩] := fun al => by
  unfold oneC
  have : ∀ (al : List Nat) (kn : List api_Cert) (x : api_Method) (rows : List types_Row) (ts : List Int) (s : api_Cert), runC al kn x rows ts eC 0 s = runC [] [] (eX 0) rows ts eC 0 s := fun al kn x rows ts s => rfl
  exact this ..
 rw [e]
 have : oneC [] [] (eX 0) [⟨true, []⟩, ⟨true, [1]⟩] = ⟨2, 1, 0⟩ := by kernel_rfl
 exact this
theorem e_costs2 : costsC (eM 2) = ([⟨2, 1, 0⟩], 0) := by
 have hb : anyBad (eM 2) = false := by decide +kernel
 have ho : ordN (whoms (eM 2)) (eM 2).Methods.length [] = ([0], 0) := by decide +kernel
 unfold costsC
 rw [if_neg (by rw [hb]; simp), ho, if_neg (by simp), e_err (by omega) (by omega), if_neg (by simp)]
 have s1 : certsC (oneM (eM 2)) (fun k c => fitB c (methM (eM 2) k)) [0] (List.replicate (eM 2).Methods.length api_Cert.zero) = some [⟨2, 1, 0⟩] :=
  (certs_cons (a := 0) (e_one (by omega) (by omega) _) (by decide +kernel)).trans rfl
 rw [s1]
theorem e_costs1 : costsC (eM 1) = ([], 120) := by
 have hb : anyBad (eM 1) = false := by decide +kernel
 have ho : ordN (whoms (eM 1)) (eM 1).Methods.length [] = ([0], 0) := by decide +kernel
 unfold costsC
 rw [if_neg (by rw [hb]; simp), ho, if_neg (by simp), e_err (by omega) (by omega), if_neg (by simp)]
 have s1 : certsC (oneM (eM 1)) (fun k c => fitB c (methM (eM 1) k)) [0] (List.replicate (eM 1).Methods.length api_Cert.zero) = none := by
  rw [certsC]
  have : oneM (eM 1) (List.replicate (eM 1).Methods.length api_Cert.zero) (Int.toNat 0) = ⟨2, 1, 0⟩ := e_one (by omega) (by omega) _
  rw [this]
  exact if_neg (by decide +kernel)
 rw [s1]
theorem e_stands2 : standsC (eM 2) = (-1, 0) := by
 have h1 : mayC (eM 2) = 0 := by decide +kernel
 have h2 : movesC (eM 2) = 0 := by decide +kernel
 have h3 : (firstC (eM 2)).2 = 0 := by rw [first1 rfl, e_rowsF (by omega) (by omega)]; rfl
 have h4 : callsC (eM 2) = 0 := by decide +kernel
 have h6 : pureC (eM 2) = 0 := by decide +kernel
 unfold standsC
 rw [h1, h2, h3, h4, e_costs2, h6]; simp
theorem e_stands1 : standsC (eM 1) = (4, 120) := by
 have h1 : mayC (eM 1) = 0 := by decide +kernel
 have h2 : movesC (eM 1) = 0 := by decide +kernel
 have h3 : (firstC (eM 1)).2 = 0 := by rw [first1 rfl, e_rowsF (by omega) (by omega)]; rfl
 have h4 : callsC (eM 1) = 0 := by decide +kernel
 unfold standsC
 rw [h1, h2, h3, h4, e_costs1]; simp
theorem e_standsB : standsC eB = (2, 101) ∧ firstC eB = (0, 101) := by
 have h1 : mayC eB = 0 := by decide +kernel
 have h2 : movesC eB = 0 := by decide +kernel
 have h3 : firstC eB = (0, 101) := by rw [first1 rfl, e_rowsB]; rfl
 refine ⟨?_, h3⟩
 unfold standsC
 rw [h1, h2, h3]; simp
theorem e_standsV : standsC eV = (1, 70) := by
 have h1 : mayC eV = 0 := by decide +kernel
 have h2 : movesC eV = 70 := by decide +kernel
 unfold standsC
 rw [h1, h2]; simp
theorem e_standsN : standsC eN = (-1, 0) ∧ costsC eN = ([], 0) := by
 have h1 : mayC eN = 0 := by decide +kernel
 have h2 : movesC eN = 0 := by decide +kernel
 have h3 : (firstC eN).2 = 0 := rfl
 have h4 : callsC eN = 0 := by decide +kernel
 have h6 : pureC eN = 0 := by decide +kernel
 have h5 : costsC eN = ([], 0) := rfl
 refine ⟨?_, h5⟩
 unfold standsC
 rw [h1, h2, h3, h4, h5, h6]; simp
theorem e_get (at_ : Nat) (h : at_ < 4) : octet_Get.f [0, 0, 0, 255] at_ 1 = some (if at_ = 3 then 255 else 0, (at_ : Int) + 1, 0) := by
 have hc : octet_cut.f [0, 0, 0, 255] at_ 1 = some ([if at_ = 3 then 255 else 0], 0) := by
  have : at_ = 0 ∨ at_ = 1 ∨ at_ = 2 ∨ at_ = 3 := by omega
  rcases this with rfl | rfl | rfl | rfl <;> decide +kernel
 have hg : octet_gather_uint64.f [if at_ = 3 then 255 else 0] = some (if at_ = 3 then 255 else 0) := by
  unfold octet_gather_uint64.f
  have : at_ = 3 ∨ at_ ≠ 3 := by omega
  rcases this with h3 | h3
  ·rw [if_pos h3]
   rw [runF_step (t := .l1 0 0) rfl, runF_step (t := .l1 255 1) (by kernel_rfl), runF_end (r := 255) (by kernel_rfl)]
  ·rw [if_neg h3]
   rw [runF_step (t := .l1 0 0) rfl, runF_step (t := .l1 0 1) (by kernel_rfl), runF_end (r := 0) (by kernel_rfl)]
 unfold octet_Get.f
 rw [if_neg (by simp), hc]; simp only [Option.bind_some]
 rw [hg]; simp only [Option.bind_some]
 unfold octet_Get.j1
 have w : IntKind.i64.wrap ((at_ : Int) + 1) = (at_ : Int) + 1 := wrap_id (by omega) (by omega)
 by_cases h3 : at_ = 3
 ·rw [if_pos h3, if_neg (by omega), if_neg (by simp), w]; rfl
 ·rw [if_neg h3, if_neg (by omega), if_neg (by simp), w]; rfl
theorem e_pool (at_ : Nat) (h : at_ < 3) : pool_Read.f [0, 0, 0, 255] at_ = some ([], (at_ : Int) + 1, 0) := by
 have g := e_get at_ (by omega)
 rw [if_neg (by omega)] at g
 unfold pool_Read.f
 rw [runF_step (t := .l1 (0, (at_ : Int) + 1, 0) ((at_ : Int) + 1) [] 0) (by dsimp only [pool_Read.F]; rw [g]; rfl)]
 exact runF_end (by dsimp only [pool_Read.F]; rw [if_neg (by omega)])
theorem e_parse : module_Parse.f [0, 0, 0, 255] = some (eN, 0) := by
 have p0 := e_pool 0 (by omega)
 have p1 := e_pool 1 (by omega)
 have g2 := e_get 2 (by omega)
 have g3 := e_get 3 (by omega)
 unfold module_Parse.f
 rw [runF_step (t := .l1 ([], 1, 0) ([], 2, 0) (0, 3, 0) 0 0 3 []) (by
  dsimp only [module_Parse.F]
  rw [if_neg (by simp), show pool_Read.f [0, 0, 0, 255] 0 = some ([], 1, 0) from p0]; simp only [Option.bind_some]
  rw [if_neg (by simp), if_neg (by simp), show pool_Read.f [0, 0, 0, 255] 1 = some ([], 2, 0) from p1]; simp only [Option.bind_some]
  rw [if_neg (by simp), show octet_Get.f [0, 0, 0, 255] 2 1 = some (0, 3, 0) from g2]; simp only [Option.bind_some]
  rw [if_neg (by simp), if_neg (by simp)])]
 refine runF_end ?_
 dsimp only [module_Parse.F]
 rw [if_neg (by simp), if_neg (by simp), show octet_Get.f [0, 0, 0, 255] 3 1 = some (255, 4, 0) from g3]; simp only [Option.bind_some]
 rw [if_neg (by simp), if_neg (by simp), if_neg (by simp)]
 unfold module_Parse.j2 module_Parse.j3
 rw [if_neg (by simp), if_pos rfl]; rfl
theorem e_load : verify_Load.f [0, 0, 0, 255] = some (eN, [], 0) := by
 have a := p_accept eN_wf eN_small
 have : acceptC eN = ([], 0) := by unfold acceptC; rw [e_standsN.1, e_standsN.2]; simp
 rw [this] at a
 unfold verify_Load.f
 rw [e_parse]; simp only [Option.bind_some]
 rw [if_neg (by simp), a]; simp only [Option.bind_some]
 rw [if_neg (by simp)]
theorem vawake : capstanlaw14_awake.f = some true := by
 have a2 : acceptC (eM 2) = ([⟨2, 1, 0⟩], 0) := by unfold acceptC; rw [e_stands2, e_costs2]; simp
 have w2 : wf_api_Module (eM 2) := eM_wf (by omega) (by omega)
 have w1 : wf_api_Module (eM 1) := eM_wf (by omega) (by omega)
 have b1 := p_accept w2 (eM_small 2)
 rw [a2] at b1
 have b2 := p_vmay w1 (eM_small 1)
 rw [e_stands1] at b2
 have b3 := p_vmay eB_wf eB_small
 rw [e_standsB.1] at b3
 have b4 := p_blame eB_wf eB_small
 have b5 : blameC eB = 0 := by unfold blameC; rw [e_standsB.1, e_standsB.2]; simp
 rw [b5] at b4
 have b6 := p_vmay eV_wf eV_small
 rw [e_standsV] at b6
 have hB : (⟨(eM 2).Globals, (eM 2).Pool, (eM 2).Methods.set (0 : Int).toNat ({ (eX 2) with Code := ((eX 2).Code.drop (1 : Int).toNat) } : api_Method), (eM 2).Migrate⟩ : api_Module) = eB := rfl
 have hV : (⟨(eM 2).Globals, (eM 2).Pool, (eM 2).Methods.set (0 : Int).toNat ({ (eX 2) with Args := [3] } : api_Method), 0⟩ : api_Module) = eV := rfl
 have e2 := small_eq 2
 have e1 := small_eq 1
 have el : elt (eM 2).Methods 0 = some (eX 2) := rfl
 have hc : (0 : Int) ≤ 1 ∧ 1 ≤ ((eX 2).Code.length : Int) := by unfold eX eC; simp
 have ec : elt ([⟨2, 1, 0⟩] : List api_Cert) 0 = some ⟨2, 1, 0⟩ := rfl
 generalize eM 2 = M at *
 generalize eM 1 = M1 at *
 generalize eX 2 = x at *
 unfold capstanlaw14_awake.f
 rw [e2, Option.bind_some, b1, Option.bind_some, Option.bind_some, el, Option.bind_some, if_pos hc, Option.bind_some, Option.bind_some, el, Option.bind_some, e_load, Option.bind_some, e1, hB, hV, b3, b4, b6]
 rw [if_pos (by simp), ec, Option.bind_some, Option.bind_some, if_pos (by simp), Option.bind_some, b2, Option.bind_some, Option.bind_some, if_pos (by simp), Option.bind_some, Option.bind_some, if_pos (by simp), Option.bind_some, Option.bind_some, if_pos (by simp), Option.bind_some, Option.bind_some]
 simp [eN]
end VerifyPure
namespace CostPure
open FlowPure TypesPure CallsPure
def un (x : api_Method) : api_Method := { x with Fuel := 0, Stack := 0, Heap := 0, Reads := false }
structure Redecl (m w : api_Module) : Prop where
 G : w.Globals = m.Globals
 P : w.Pool = m.Pool
 M : w.Methods.map un = m.Methods.map un
namespace Redecl
variable {m w : api_Module} (R : Redecl m w)
include R
theorem len : w.Methods.length = m.Methods.length := by have := congrArg List.length R.M; simpa using this
theorem mp {α : Type} {f : api_Method → α} (hf : ∀ x, f (un x) = f x) : w.Methods.map f = m.Methods.map f := by
 have h : ∀ l : List api_Method, l.map f = (l.map un).map f := fun l => by rw [List.map_map]; congr 1; funext x; exact (hf x).symm
 rw [h, h m.Methods, R.M]
theorem at_ (k : Nat) : un (methM w k) = un (methM m k) := by
 have h := congrArg (fun l => l.getD k (un api_Method.zero)) R.M
 simpa [methM, List.getD_eq_getElem?_getD, List.getElem?_map, Option.getD_map] using h
theorem al : alens w = alens m := R.mp (fun _ => rfl)
theorem at2 (a : Int) : un (At w.Methods api_Method.zero a) = un (At m.Methods api_Method.zero a) := by
 have := R.at_ a.toNat
 unfold methM at this
 rw [List.getD_eq_getElem?_getD, List.getD_eq_getElem?_getD] at this
 exact this
theorem alike {x x' : api_Method} (h : un x' = un x) : TypesPure.Alike (envOf m x) (envOf w x') := by
 refine ⟨?_, ?_, ?_, ?_, ?_, ?_, ?_, ?_⟩
 ·simp [envOf, R.G]
 ·simp [envOf, R.G]
 ·simp [envOf, R.P]
 ·simp [envOf, R.P]
 ·simp [envOf, R.len]
 ·intro a
  have := R.at2 a
  have e1 := congrArg api_Method.Args this
  have e2 := congrArg api_Method.Result this
  exact ⟨e1, e2⟩
 ·have e := congrArg api_Method.Result h
  exact e
 ·have h1 : x'.Args = x.Args := by have e := congrArg api_Method.Args h; exact e
  have h2 : x'.Locals = x.Locals := by have e := congrArg api_Method.Locals h; exact e
  simp [envOf, h1, h2]
theorem small (S : Small m) : Small w := by
 refine ⟨by rw [R.G]; exact S.G, by rw [R.P]; exact S.P, by rw [R.len]; exact S.M, fun x hx => ?_⟩
 have h1 : un x ∈ m.Methods.map un := by rw [← R.M]; exact List.mem_map_of_mem hx
 obtain ⟨y, hy, h⟩ := List.mem_map.1 h1
 have := S.x y hy
 rw [show x.Args = y.Args from (congrArg api_Method.Args h).symm, show x.Locals = y.Locals from (congrArg api_Method.Locals h).symm, show x.Code = y.Code from (congrArg api_Method.Code h).symm]
 exact this
theorem rows (hm : wf_api_Module m) (S : Small m) {k : Nat} (hk : k < m.Methods.length) : rowsM w k = rowsM m k := by
 have hk' : k < w.Methods.length := by rw [R.len]; exact hk
 have hu := R.at_ k
 rw [methM_at hk, methM_at hk'] at hu
 have S' := R.small S
 have hs := S.x _ (List.getElem_mem hk)
 unfold rowsM
 have e := rows_alike (m := m) (w := w) (x := m.Methods[k]) (x' := w.Methods[k]) (by omega) (by omega) (elt_lt hk) (elt_lt hk') (by have e := congrArg api_Method.Code hu; exact e) (by have e := congrArg api_Method.Args hu; exact e) (by have e := congrArg api_Method.Locals hu; exact e) (R.alike hu)
  (fun y hy => by have := S.x y hy; omega) (fun y hy => by have := S'.x y hy; omega) (by omega) ((hm.2.2.1.2 _ (List.getElem_mem hk)).2.2.2.2.2.2.2).2 (by omega)
 rw [e]
omit R in
theorem runC_un {al : List Nat} {kn : List api_Cert} {x x' : api_Method} (h : un x' = un x) {rows : List types_Row} {ts : List Int} : ∀ (c : List api_Instr) (i : Nat) (s : api_Cert), runC al kn x' rows ts c i s = runC al kn x rows ts c i s
 | [], _, _ => rfl
 | o :: c, i, s => by
  have h1 : x'.Args = x.Args := by have e := congrArg api_Method.Args h; exact e
  have h2 : x'.Locals = x.Locals := by have e := congrArg api_Method.Locals h; exact e
  have : ∀ t r s, stepC al kn x' t r o s = stepC al kn x t r o s := fun t r s => by unfold stepC highC; rw [h1, h2]
  rw [runC, runC, this, runC_un h]
omit R in
theorem oneC_un {al : List Nat} {kn : List api_Cert} {x x' : api_Method} (h : un x' = un x) {rows : List types_Row} : oneC al kn x' rows = oneC al kn x rows := by
 have h1 : x'.Args = x.Args := by have e := congrArg api_Method.Args h; exact e
 have h2 : x'.Locals = x.Locals := by have e := congrArg api_Method.Locals h; exact e
 have h3 : x'.Code = x.Code := by have e := congrArg api_Method.Code h; exact e
 unfold oneC
 rw [h1, h2, h3, runC_un h]
theorem one (hm : wf_api_Module m) (S : Small m) {k : Nat} (hk : k < m.Methods.length) (kn : List api_Cert) : oneM w kn k = oneM m kn k := by
 unfold oneM
 rw [R.rows hm S hk, R.al, oneC_un (R.at_ k)]
end Redecl
end CostPure
namespace CostPure
open FlowPure TypesPure CallsPure
theorem ready_new {W : List (List Int)} (out : List Int) (k : Nat) (h : ready W out k = true) : (k : Int) ∉ out := by
 unfold ready at h
 rw [Bool.and_eq_true] at h
 exact of_decide_eq_true h.1
end CostPure
namespace CostPure
open FlowPure TypesPure CallsPure
end CostPure
namespace VerifyPure
open FlowPure TypesPure CallsPure CostPure
structure Acc (m : api_Module) (L : List api_Cert) : Prop where
 may : mayC m = 0
 moves : movesC m = 0
 first : (firstC m).2 = 0
 calls : callsC m = 0
 cost : costsC m = (L, 0)
 pure : pureC m = 0
theorem acc_of {m : api_Module} (h : (standsC m).2 = 0) : Acc m (costsC m).1 := by
 unfold standsC at h
 by_cases h1 : mayC m ≠ 0
 ·rw [if_pos h1] at h; exact absurd h h1
 rw [if_neg h1] at h
 by_cases h2 : movesC m ≠ 0
 ·rw [if_pos h2] at h; exact absurd h h2
 rw [if_neg h2] at h
 by_cases h3 : (firstC m).2 ≠ 0
 ·rw [if_pos h3] at h; exact absurd h h3
 rw [if_neg h3] at h
 by_cases h4 : callsC m ≠ 0
 ·rw [if_pos h4] at h; exact absurd h h4
 rw [if_neg h4] at h
 by_cases h5 : (costsC m).2 ≠ 0
 ·rw [if_pos h5] at h; exact absurd h h5
 rw [if_neg h5] at h
 by_cases h6 : pureC m ≠ 0
 ·rw [if_pos h6] at h; exact absurd h h6
 exact ⟨Classical.not_not.1 h1, Classical.not_not.1 h2, Classical.not_not.1 h3, Classical.not_not.1 h4, Prod.ext rfl (Classical.not_not.1 h5), Classical.not_not.1 h6⟩
theorem acc_stands {m : api_Module} {L : List api_Cert} (h1 : mayC m = 0) (h2 : movesC m = 0) (h3 : (firstC m).2 = 0) (h4 : callsC m = 0) (h5 : costsC m = (L, 0)) : standsC m = if pureC m ≠ 0 then (5, pureC m) else (-1, 0) := by
 unfold standsC
 rw [h1, h2, h3, h4, h5]; simp
theorem put_ok {w : Nat} {n : Int} (h : (putC w n).2 = 0) : (putC w n).1.length = w := by
 unfold putC at h ⊢
 split at h
 ·rename_i hf; rw [if_pos hf]; simp [spr_len]
 ·cases h
structure Mx (x y : api_Method) : Prop where
 un : un y = un x
 f : y.Fuel = 1048576
 s : y.Stack = 256
 h : y.Heap = 1024
theorem Mx.same {x y : api_Method} (h : Mx x y) : y.Args = x.Args ∧ y.Locals = x.Locals ∧ y.Result = x.Result ∧ y.Code = x.Code :=
 ⟨by have e := congrArg api_Method.Args h.un; exact e, by have e := congrArg api_Method.Locals h.un; exact e, by have e := congrArg api_Method.Result h.un; exact e, by have e := congrArg api_Method.Code h.un; exact e⟩
theorem who_ok {m : api_Module} (h : callsC m = 0) : anyBad m = false := by
 unfold callsC at h
 cases hb : anyBad m with
 | false => rfl
 | true => rw [if_pos hb] at h; cases h
theorem bad_none {m : api_Module} (hb : anyBad m = false) (h : pureC m = 0) : ∀ k, k < m.Methods.length → badR m k = false := by
 intro k hk
 unfold pureC at h
 rw [if_neg (by rw [hb]; simp)] at h
 split at h
 ·cases h
 ·rename_i hn
  cases hh : badR m k
  ·rfl
  ·exact absurd (List.any_eq_true.2 ⟨k, List.mem_range.2 hk, hh⟩) hn
theorem any_eq {α : Type} {p q : α → Bool} : ∀ {l : List α}, (∀ x ∈ l, p x = q x) → l.any p = l.any q
 | [], _ => rfl
 | x :: l, h => by rw [List.any_cons, List.any_cons, h x (by simp), any_eq fun y hy => h y (by simp [hy])]
theorem whom_in {m : api_Module} {k : Nat} (hk : k < m.Methods.length) : ∀ a ∈ (whoms m).getD k [], 0 ≤ a ∧ a < m.Methods.length := by
 intro a ha
 rw [whoms_at hk] at ha
 unfold whomL at ha
 obtain ⟨j, hj, rfl⟩ := List.mem_map.1 (List.mem_filter.1 ha).1
 have := List.mem_range.1 hj
 omega
end VerifyPure
namespace VerifyPure
open FlowPure TypesPure CallsPure CostPure
def plus (m : api_Module) (x : api_Method) : api_Module := ⟨m.Globals, m.Pool, m.Methods ++ [x], m.Migrate⟩
theorem plus_len (m : api_Module) (x : api_Method) : (plus m x).Methods.length = m.Methods.length + 1 := by simp [plus]
theorem plus_at {m : api_Module} {x : api_Method} {k : Nat} (hk : k < m.Methods.length) : methM (plus m x) k = methM m k := by
 unfold methM plus
 dsimp only
 rw [List.getD_eq_getElem?_getD, List.getD_eq_getElem?_getD, List.getElem?_append_left hk]
theorem plus_last (m : api_Module) (x : api_Method) : methM (plus m x) m.Methods.length = x := by
 unfold methM plus
 dsimp only
 rw [List.getD_eq_getElem?_getD, List.getElem?_append_right (Nat.le_refl _), Nat.sub_self]; rfl
structure New (x : api_Method) : Prop where
 wf : wf_api_Method x
 sz : x.Args.length ≤ 100 ∧ x.Locals.length ≤ 100 ∧ x.Code.length ≤ 300
 b : (mBytes x).2 = 0
 c : (cBytes x.Code).2 = 0
 none : nm x.Code = []
 quiet : storesB x = false ∨ x.Reads = false
 known : (knownB x.Code && fineB x.Code) = true
 there : ∀ G P M, (x.Code.all fun i => there ⟨G, P, M, x.Result, x.Args ++ x.Locals⟩ i) = true
theorem plus_wf {m : api_Module} {x : api_Method} (hm : wf_api_Module m) (S : Small m) (N : New x) : wf_api_Module (plus m x) := by
 have hM := S.M
 refine ⟨hm.1, hm.2.1, ⟨by rw [plus_len]; unfold maxLen; omega, fun y hy => ?_⟩, hm.2.2.2⟩
 rcases List.mem_append.1 hy with h | h
 ·exact hm.2.2.1.2 y h
 ·rw [List.mem_singleton] at h; subst h; exact N.wf
theorem plus_small {m : api_Module} {x : api_Method} (S : Small m) (N : New x) (hn : m.Methods.length < 16) : Small (plus m x) := by
 refine ⟨S.G, S.P, by rw [plus_len]; omega, fun y hy => ?_⟩
 rcases List.mem_append.1 hy with h | h
 ·exact S.x y h
 ·rw [List.mem_singleton] at h; subst h; exact N.sz
theorem plus_may {m : api_Module} {x : api_Method} (N : New x) (h : mayC m = 0) (hn : m.Methods.length < 16) : mayC (plus m x) = 0 ∨ mayC (plus m x) = 3 := by
 have hw : (wholeC m).2 = 0 := by
  unfold mayC bytesC at h
  by_cases h1 : (wholeC m).2 = 0
  ·exact h1
  ·rw [if_pos h1] at h; exact absurd h h1
 have hp : (wholeC (plus m x)).2 = 0 := by
  have hl := plus_len m x
  unfold wholeC at hw ⊢
  rw [hl]
  rw [show (plus m x).Globals = m.Globals from rfl, show (plus m x).Pool = m.Pool from rfl, show (plus m x).Migrate = m.Migrate from rfl, show (plus m x).Methods = m.Methods ++ [x] from rfl]
  split at hw
  ·cases hw
  ·rename_i c1
   split at hw
   ·rename_i c2; exact absurd hw c2
   ·rename_i c2
    split at hw
    ·rename_i c3; exact absurd hw c3
    ·rename_i c3
     rw [if_neg (by omega), if_neg c2, if_neg c3]
     have key : ∀ (c : List api_Method) (o o2 : List Int), (wLoop m c o).2 = 0 → (wLoop (plus m x) (c ++ [x]) o2).2 = 0 := by
      intro c
      induction c with
      | nil => intro o o2 _; rw [List.nil_append, wLoop, if_neg (by simpa using N.b), if_neg (by simpa using N.c), wLoop]
      | cons y c ih =>
       intro o o2 h
       rw [wLoop] at h
       rw [List.cons_append, wLoop]
       split at h
       ·rename_i h1; exact absurd h h1
       ·rename_i h1
        split at h
        ·rename_i h2; exact absurd h h2
        ·rename_i h2
         rw [if_neg h1, if_neg h2]
         exact ih _ _ h
     exact key _ _ _ hw
 unfold mayC bytesC
 rw [if_neg (by simpa using hp)]
 split
 ·exact .inr rfl
 ·exact .inl rfl
theorem plus_moves {m : api_Module} {x : api_Method} (S : Small m) (h : mayC m = 0) (h2 : movesC m = 0) : movesC (plus m x) = 0 := by
 have hmi := (mayC_err S).2 h
 unfold movesC at h2 ⊢
 rw [show (plus m x).Migrate = m.Migrate from rfl]
 by_cases h0 : m.Migrate ≥ 0
 ·rw [plus_at (by omega)]; exact h2
 ·rw [if_neg (fun z => h0 z.1)]
theorem at_eq {E E' : TE} {l : List api_Instr} (h : ∀ i ∈ l, ∀ row, afterC E' i row = afterC E i row) : ∀ k, k ≤ l.length → rowsAt E' l k = rowsAt E l k
 | 0, _ => rfl
 | k + 1, hk => by
  unfold rowsAt
  rw [at_eq h k (by omega)]
  have ha : At l api_Instr.zero (k : Int) = l[k] := At_nat (by omega)
  have : ∀ rows, placeC E' l rows k = placeC E l rows k := by
   intro rows
   unfold placeC
   rw [ha, h _ (List.getElem_mem (by omega))]
  rw [this]
theorem rowsC_eq {E E' : TE} {l : List api_Instr} (h : ∀ i ∈ l, ∀ row, afterC E' i row = afterC E i row) : rowsC E' l = rowsC E l := by
 unfold rowsC
 rw [at_eq h _ (Nat.le_refl _)]
theorem At_left {α : Type} {xs ys : List α} {d : α} {a : Int} (h : a.toNat < xs.length) : At (xs ++ ys) d a = At xs d a := by
 unfold TypesPure.At; rw [List.getElem?_append_left h]
theorem plus_after {m : api_Module} {x y : api_Method} {i : api_Instr} (hi : i.Op = 30 → 0 ≤ i.A ∧ i.A < m.Methods.length) (row : List Int) : afterC (envOf (plus m x) y) i row = afterC (envOf m y) i row := by
 have : shapeC (envOf (plus m x) y) i row = shapeC (envOf m y) i row := by
  by_cases h30 : i.Op = 30
  ·have := hi h30
   have e : At (plus m x).Methods api_Method.zero i.A = At m.Methods api_Method.zero i.A := At_left (by omega)
   unfold shapeC named
   simp only [envOf]
   rw [e]; rfl
  ·unfold shapeC named
   simp only [envOf, if_neg h30]; rfl
 unfold afterC
 rw [this]
theorem calls_in {m : api_Module} (hb : anyBad m = false) {k : Nat} (hk : k < m.Methods.length) : ∀ i ∈ m.Methods[k].Code, i.Op = 30 → 0 ≤ i.A ∧ i.A < m.Methods.length := by
 intro i hi h30
 have hb1 : (nm m.Methods[k].Code).any (badN m.Methods.length) = false := by
  have := List.any_eq_false.1 (show (m.Methods.any fun x => (nm x.Code).any (badN m.Methods.length)) = false by simpa [anyBad] using hb) _ (List.getElem_mem hk)
  simpa using this
 have := List.any_eq_false.1 hb1 i.A (List.mem_map.2 ⟨i, List.mem_filter.2 ⟨hi, by simpa using h30⟩, rfl⟩)
 simp only [badN, Bool.or_eq_true, decide_eq_true_eq, not_or] at this
 omega
theorem plus_rows {m : api_Module} {x : api_Method} (hm : wf_api_Module m) (S : Small m) (N : New x) (hn : m.Methods.length < 16) (hb : anyBad m = false) {k : Nat} (hk : k < m.Methods.length) (h0 : (rowsM m k).2 = 0) : rowsM (plus m x) k = rowsM m k := by
 have S2 := plus_small S N hn
 have hin := calls_in hb hk
 have hs := S.x _ (List.getElem_mem hk)
 rcases rows_cases (k := (k : Int)) hm S with ⟨e, he, hR⟩ | ⟨y, rows, -, -, hx, -, W, hC, hR, -⟩
 ·unfold rowsM at h0; rw [hR] at h0; exact absurd h0 he
 ·rw [elt_lt hk] at hx
  obtain rfl : m.Methods[k] = y := by simpa using hx
  have hk2 : k < (plus m x).Methods.length := by rw [plus_len]; omega
  have hy : (plus m x).Methods[k] = m.Methods[k] := by have := plus_at (x := x) hk; rwa [methM_at hk2, methM_at hk] at this
  have W2 : Well (envOf (plus m x) m.Methods[k]) m.Methods[k].Code := ⟨W.known, W.fine, W.wf, fun i hi => by
   have := W.th i hi
   have h3 := hin i hi
   rw [← this]
   unfold TypesPure.there
   by_cases h30 : i.Op = 30
   ·have h4 := h3 h30
    have e1 : decide (i.A < ((envOf (plus m x) m.Methods[k]).M.length : Int)) = true := decide_eq_true (by show i.A < ((plus m x).Methods.length : Int); rw [plus_len]; omega)
    have e2 : decide (i.A < ((envOf m m.Methods[k]).M.length : Int)) = true := decide_eq_true (by show i.A < (m.Methods.length : Int); omega)
    rw [e1, e2]; rfl
   ·rw [if_neg h30, if_neg h30]; rfl, fun y hy => by have := S2.x y hy; omega⟩
  have r := rows_well (m := plus m x) (x := m.Methods[k]) (k := (k : Int)) (by omega) (by omega) (by rw [elt_lt hk2, hy]) W2 (by omega)
  rw [rowsC_eq fun i hi row => plus_after (hin i hi) row, hC] at r
  unfold rowsM
  rw [r, hR]
theorem plus_new {m : api_Module} {x : api_Method} (hm : wf_api_Module m) (S : Small m) (N : New x) (hn : m.Methods.length < 16) : rowsM (plus m x) m.Methods.length = rowsC (envOf (plus m x) x) x.Code := by
 have S2 := plus_small S N hn
 have hk2 : m.Methods.length < (plus m x).Methods.length := by rw [plus_len]; omega
 have hx : (plus m x).Methods[m.Methods.length] = x := by have := plus_last m x; rwa [methM_at hk2] at this
 exact e_rows S2 (plus_wf hm S N) hk2 hx (by rw [N.known, Bool.true_and]; exact N.there _ _ _)
theorem plus_bad {m : api_Module} {x : api_Method} (N : New x) (hb : anyBad m = false) : anyBad (plus m x) = false := by
 unfold anyBad
 rw [show (plus m x).Methods = m.Methods ++ [x] from rfl, List.any_append]
 rw [Bool.or_eq_false_iff]
 refine ⟨?_, by simp [N.none]⟩
 rw [List.any_eq_false]
 intro y hy
 obtain ⟨k, hk, rfl⟩ := List.mem_iff_getElem.1 hy
 rw [Bool.not_eq_true, List.any_eq_false]
 intro a ha
 obtain ⟨i, hi, rfl⟩ := List.mem_map.1 ha
 have := calls_in hb hk i (List.mem_filter.1 hi).1 (by simpa using (List.mem_filter.1 hi).2)
 unfold badN
 simp
 omega
theorem whomL_more {n : Nat} {c : List api_Instr} (h : ∀ i ∈ c, i.Op = 30 → 0 ≤ i.A ∧ i.A < n) : whomL (n + 1) c = whomL n c := by
 unfold whomL
 rw [List.range_succ, List.map_append, List.filter_append]
 have : (([n].map fun k : Nat => (k : Int)).filter fun a => decide (a ∈ nm c)) = [] := by
  simp only [List.map_cons, List.map_nil, List.filter_cons, List.filter_nil]
  rw [if_neg]
  simp only [decide_eq_true_eq]
  intro hm
  obtain ⟨i, hi, e⟩ := List.mem_map.1 hm
  have := h i (List.mem_filter.1 hi).1 (by simpa using (List.mem_filter.1 hi).2)
  omega
 rw [this, List.append_nil]
theorem plus_whoms {m : api_Module} {x : api_Method} (N : New x) (hb : anyBad m = false) : whoms (plus m x) = whoms m ++ [[]] := by
 unfold whoms
 rw [plus_len, show (plus m x).Methods = m.Methods ++ [x] from rfl, List.map_append]
 congr 1
 ·refine List.map_congr_left fun y hy => ?_
  obtain ⟨k, hk, rfl⟩ := List.mem_iff_getElem.1 hy
  exact whomL_more (calls_in hb hk)
 ·simp [whomL, N.none]
theorem next_more {W : List (List Int)} {out : List Int} : nextOf (W ++ [[]]) out = (nextOf W out).or (if (W.length : Int) ∈ out then none else some W.length) := by
 unfold nextOf
 rw [List.length_append, List.length_singleton, List.range_succ, List.find?_append]
 congr 1
 ·have : ∀ l : List Nat, (∀ k ∈ l, k < W.length) → l.find? (ready (W ++ [[]]) out) = l.find? (ready W out) := by
   intro l
   induction l with
   | nil => intro _; rfl
   | cons k l ih =>
    intro hk
    have : ready (W ++ [[]]) out k = ready W out k := by
     unfold ready
     rw [List.getD_eq_getElem?_getD, List.getD_eq_getElem?_getD, List.getElem?_append_left (hk k (by simp))]
    rw [List.find?_cons, List.find?_cons, this, ih fun j hj => hk j (by simp [hj])]
  exact this _ fun k hk => List.mem_range.1 hk
 ·have : ready (W ++ [[]]) out W.length = decide (¬ (W.length : Int) ∈ out) := by
   unfold ready
   rw [List.getD_eq_getElem?_getD, List.getElem?_append_right (Nat.le_refl _), Nat.sub_self]; simp
  rw [List.find?_cons, this]
  by_cases h : (W.length : Int) ∈ out
  ·simp [h]
  ·simp [h]
theorem ordN_more {W : List (List Int)} : ∀ (f : Nat) (out o : List Int), ordN W f out = (o, 0) → nextOf W o = none → ¬ (W.length : Int) ∈ out → ordN (W ++ [[]]) (f + 1) out = (o ++ [(W.length : Int)], 0)
 | 0, out, o, h, hn, hw => by
  obtain rfl : out = o := (Prod.mk.inj h).1
  rw [ordN, next_more, hn, if_neg hw]; rfl
 | f + 1, out, o, h, hn, hw => by
  rw [ordN] at h
  rw [ordN, next_more]
  cases hk : nextOf W out with
  | none => rw [hk] at h; simp at h
  | some k =>
   rw [hk] at h
   have hkl : k < W.length := List.mem_range.1 (List.mem_of_find?_eq_some hk)
   exact ordN_more f (out ++ [(k : Int)]) o h hn (by
    intro hh
    rcases List.mem_append.1 hh with z | z
    ·exact hw z
    ·rw [List.mem_singleton] at z; omega)
end VerifyPure
namespace VerifyPure
open FlowPure TypesPure CallsPure CostPure
theorem runC_al {al al2 : List Nat} {kn kn2 : List api_Cert} {x : api_Method} {rows : List types_Row} {ts : List Int} : ∀ (c : List api_Instr) (i : Nat) (s : api_Cert), (∀ o ∈ c, o.Op = 30 → kn.getD o.A.toNat api_Cert.zero = kn2.getD o.A.toNat api_Cert.zero ∧ al.getD o.A.toNat 0 = al2.getD o.A.toNat 0) → runC al kn x rows ts c i s = runC al2 kn2 x rows ts c i s
 | [], _, _, _ => rfl
 | o :: c, i, s, h => by
  have : stepC al kn x (ts.getD i 0) (g rows i) o s = stepC al2 kn2 x (ts.getD i 0) (g rows i) o s := by
   unfold stepC
   by_cases h30 : o.Op = 30
   ·have := h o (by simp) h30
    rw [if_pos h30, if_pos h30, this.1, this.2]
   ·rw [if_neg h30, if_neg h30]
  rw [runC, runC, this, runC_al c (i + 1) _ fun o ho => h o (by simp [ho])]
section
variable {m : api_Module} {x : api_Method} (hm : wf_api_Module m) (S : Small m) (N : New x) (hn : m.Methods.length < 16) (hb : anyBad m = false) (h0 : ∀ k, k < m.Methods.length → (rowsM m k).2 = 0)
include hm S N hn hb h0
theorem plus_one {l : List api_Cert} {z : api_Cert} (hl : l.length = m.Methods.length) {k : Nat} (hk : k < m.Methods.length) : oneM (plus m x) (l ++ [z]) k = oneM m l k := by
 unfold oneM
 rw [plus_rows hm S N hn hb hk (h0 k hk), plus_at hk]
 unfold oneC
 refine runC_al _ _ _ fun o ho h30 => ?_
 have := calls_in hb hk o (by rwa [methM_at hk] at ho) h30
 have ha : alens (plus m x) = alens m ++ [x.Args.length] := by simp [alens, plus]
 have hla : (alens m).length = m.Methods.length := by simp [alens]
 refine ⟨?_, ?_⟩
 ·rw [List.getD_eq_getElem?_getD, List.getD_eq_getElem?_getD, List.getElem?_append_left (by omega)]
 ·rw [ha, List.getD_eq_getElem?_getD, List.getD_eq_getElem?_getD, List.getElem?_append_left (by omega)]
theorem plus_certs {z : api_Cert} : ∀ (o : List Int) (l r : List api_Cert), l.length = m.Methods.length → (∀ a ∈ o, 0 ≤ a ∧ a < m.Methods.length) → certsC (oneM m) (fun k c => fitB c (methM m k)) o l = some r →
    certsC (oneM (plus m x)) (fun k c => fitB c (methM (plus m x) k)) o (l ++ [z]) = some (r ++ [z])
 | [], l, r, _, _, h => by
  rw [certsC] at h ⊢
  rw [Option.some.inj h]
 | a :: o, l, r, hl, ho, h => by
  obtain ⟨a0, a1⟩ := ho a (by simp)
  have hk : a.toNat < m.Methods.length := by omega
  rw [certsC] at h ⊢
  rw [plus_one hm S N hn hb h0 hl hk, plus_at hk]
  split at h
  ·rename_i hf
   rw [if_pos hf, List.set_append_left _ _ (by omega)]
   exact plus_certs o _ r (by rw [List.length_set]; exact hl) (fun b hb => ho b (by simp [hb])) h
  ·cases h
theorem plus_costs {L : List api_Cert} {rows : List types_Row} {c : api_Cert} (hc : costsC m = (L, 0)) (hr : rowsM (plus m x) m.Methods.length = (rows, 0)) (h1 : ∀ al kn, oneC al kn x rows = c) (hf : fitB c x = true) : callsC (plus m x) = 0 ∧ costsC (plus m x) = (L ++ [c], 0) := by
 have hb2 := plus_bad (x := x) N hb
 have hW := plus_whoms (x := x) N hb
 have hWl : (whoms m).length = m.Methods.length := by simp [whoms]
 have hok := ordN_ok (W := whoms m) m.Methods.length [] (by simp)
 have hnd := ordN_nodup (W := whoms m) ready_new m.Methods.length [] (by simp)
 unfold costsC at hc
 rw [if_neg (by rw [hb]; simp)] at hc
 have he : (ordN (whoms m) m.Methods.length []).2 = 0 := by
  by_cases h : (ordN (whoms m) m.Methods.length []).2 = 0
  ·exact h
  ·rw [if_pos h] at hc; exact absurd (Prod.mk.inj hc).2 h
 rw [if_neg (by simpa using he)] at hc
 obtain ⟨ho1, ho2⟩ := hok he
 have hnd := hnd he
 have hE : errM m = 0 := by
  by_cases h : errM m = 0
  ·exact h
  ·rw [if_pos h] at hc; exact absurd (Prod.mk.inj hc).2 h
 rw [if_neg (by simpa using hE)] at hc
 generalize hoe : ordN (whoms m) m.Methods.length [] = oe at he ho1 ho2 hnd hc
 obtain ⟨o, e⟩ := oe
 dsimp only at he ho1 ho2 hnd hc
 subst he
 have hol : o.length = m.Methods.length := by simpa using ho1
 have hr' : ∀ a ∈ o, 0 ≤ a ∧ a < (m.Methods.length : Int) := fun a ha => by have := ho2 a ha; rw [hWl] at this; exact this
 have hcov : ∀ k, k < m.Methods.length → (k : Int) ∈ o := fun k hk => covers hol hnd hr' hk
 have hnone : nextOf (whoms m) o = none := by
  unfold nextOf
  rw [List.find?_eq_none]
  intro k hk hrd
  exact ready_new o k hrd (hcov k (by have := List.mem_range.1 hk; omega))
 have hord := ordN_more m.Methods.length [] o hoe hnone (by simp)
 rw [hWl, ← hW, ← plus_len m x] at hord
 refine ⟨by unfold callsC; rw [if_neg (by rw [hb2]; simp), hord], ?_⟩
 have herr : errM (plus m x) = 0 := by
  unfold errM
  have : ((List.range (plus m x).Methods.length).map fun k => (rowsM (plus m x) k).2).find? (fun e => decide (e ≠ 0)) = none := by
   rw [List.find?_eq_none]
   intro e he
   obtain ⟨k, hk, rfl⟩ := List.mem_map.1 he
   have hk := List.mem_range.1 hk
   rw [plus_len] at hk
   by_cases e : k = m.Methods.length
   ·rw [e, hr]; simp
   ·rw [plus_rows hm S N hn hb (by omega) (h0 k (by omega)), h0 k (by omega)]; simp
  rw [this]; rfl
 unfold costsC
 rw [if_neg (by rw [hb2]; simp), hord]
 dsimp only
 rw [if_neg (by simp), if_neg (by rw [herr]; simp)]
 cases hA : certsC (oneM m) (fun k c => fitB c (methM m k)) o (List.replicate m.Methods.length api_Cert.zero) with
 | none => rw [hA] at hc; simp at hc
 | some r =>
  rw [hA] at hc
  obtain rfl : r = L := (Prod.mk.inj hc).1
  have hl : (List.replicate m.Methods.length api_Cert.zero).length = m.Methods.length := by simp
  have hrl := (certs_len _ _ _ hA).1
  rw [hl] at hrl
  have p := plus_certs (z := api_Cert.zero) hm S N hn hb h0 o _ r hl hr' hA
  have app : ∀ (o1 o2 : List Int) (one : List api_Cert → Nat → api_Cert) (fit : Nat → api_Cert → Bool) (l l2 : List api_Cert), certsC one fit o1 l = some l2 → certsC one fit (o1 ++ o2) l = certsC one fit o2 l2 := by
   intro o1
   induction o1 with
   | nil => intro o2 one fit l l2 h; rw [certsC] at h; rw [Option.some.inj h]; rfl
   | cons a o1 ih =>
    intro o2 one fit l l2 h
    rw [certsC] at h
    rw [List.cons_append, certsC]
    split at h
    ·rename_i hf; rw [if_pos hf]; exact ih o2 one fit _ l2 h
    ·cases h
  have hrep : List.replicate (plus m x).Methods.length api_Cert.zero = List.replicate m.Methods.length api_Cert.zero ++ [api_Cert.zero] := by rw [plus_len, List.replicate_succ']
  rw [hrep, app _ [(m.Methods.length : Int)] _ _ _ _ p]
  have h1c : oneM (plus m x) (r ++ [api_Cert.zero]) m.Methods.length = c := by
   unfold oneM
   rw [plus_last, hr]; exact h1 _ _
  rw [certsC, Int.toNat_natCast, h1c]
  rw [plus_last, if_pos hf, certsC, List.set_append_right _ _ (by omega), hrl, Nat.sub_self]; rfl
end
theorem plus_pure {m : api_Module} {x : api_Method} (N : New x) (hb : anyBad m = false) (hp : pureC m = 0) : pureC (plus m x) = 0 := by
 have hn := bad_none hb hp
 unfold pureC
 rw [if_neg (by rw [plus_bad N hb]; simp), if_neg]
 intro ha
 obtain ⟨k, hk, h⟩ := List.any_eq_true.1 ha
 have hk := List.mem_range.1 hk
 rw [plus_len] at hk
 have hWl : (whoms m).length = m.Methods.length := by simp [whoms]
 unfold badR loudB at h
 rw [plus_whoms N hb] at h
 by_cases e : k = m.Methods.length
 ·subst e
  have e2 : (whoms m ++ [[]]).getD m.Methods.length [] = [] := by rw [List.getD_eq_getElem?_getD, List.getElem?_append_right (by omega), hWl, Nat.sub_self]; rfl
  rw [plus_last, e2] at h
  simp only [List.any_nil, Bool.or_false, Bool.and_eq_true] at h
  rcases N.quiet with q | q
  ·rw [h.2] at q; cases q
  ·rw [h.1] at q; cases q
 ·have hk2 : k < m.Methods.length := by omega
  have e2 : (whoms m ++ [[]]).getD k [] = (whoms m).getD k [] := by rw [List.getD_eq_getElem?_getD, List.getD_eq_getElem?_getD, List.getElem?_append_left (by omega)]
  rw [plus_at hk2, e2] at h
  have hk3 := hn k hk2
  unfold badR loudB at hk3
  have : ((whoms m).getD k []).any (fun a => !(methM (plus m x) a.toNat).Reads) = ((whoms m).getD k []).any (fun a => !(methM m a.toNat).Reads) := any_eq fun a ha => by
   have := whom_in hk2 a ha
   rw [plus_at (by omega)]
  rw [this, hk3] at h; cases h
theorem plus_acc {m : api_Module} {x : api_Method} {L : List api_Cert} {rows : List types_Row} {c : api_Cert} (hm : wf_api_Module m) (S : Small m) (N : New x) (hn : m.Methods.length < 16) (A : Acc m L) (hr : rowsC (envOf (plus m x) x) x.Code = (rows, 0)) (h1 : ∀ al kn, oneC al kn x rows = c) (hf : fitB c x = true) (hmay : mayC (plus m x) ≠ 3) : acceptC (plus m x) = (L ++ [c], 0) := by
 have hb := who_ok A.calls
 have h0 : ∀ k, k < m.Methods.length → (rowsM m k).2 = 0 := by
  rcases first_cases hm S with ⟨-, -, h⟩ | ⟨k, -, -, h, h2, -⟩
  ·exact h
  ·rw [A.first] at h; exact absurd h.symm h2
 have hrm := (plus_new hm S N hn).trans hr
 obtain ⟨c1, c2⟩ := plus_costs hm S N hn hb h0 A.cost hrm h1 hf
 have hm0 : mayC (plus m x) = 0 := by
  rcases plus_may N A.may hn with h | h
  ·exact h
  ·exact absurd h hmay
 have hf0 : (firstC (plus m x)).2 = 0 := by
  have S2 := plus_small S N hn
  rcases first_cases (plus_wf hm S N) S2 with ⟨h, -, -⟩ | ⟨k, hk, -, -, h2, -⟩
  ·exact h
  ·rw [plus_len] at hk
   by_cases e : k = m.Methods.length
   ·rw [e, hrm] at h2; exact absurd rfl h2
   ·rw [plus_rows hm S N hn hb (by omega) (h0 k (by omega)), h0 k (by omega)] at h2; exact absurd rfl h2
 have st := acc_stands hm0 (plus_moves S A.may A.moves) hf0 c1 c2
 rw [plus_pure N hb A.pure, if_neg (by simp)] at st
 unfold acceptC
 rw [st, if_neg (by simp), c2]
def x1 : api_Method := ⟨[1], [], 1, true, 2, 2, 0, [⟨2, 0, 0⟩, ⟨31, 0, 0⟩]⟩
def x2 : api_Method := ⟨[1, 1], [], 1, false, 4, 4, 0, [⟨2, 0, 0⟩, ⟨2, 1, 0⟩, ⟨9, 0, 0⟩, ⟨31, 0, 0⟩]⟩
def x3 : api_Method := ⟨[], [], 2, false, 1, 0, 0, [⟨32, 0, 0⟩]⟩
theorem x_wf : wf_api_Method x1 ∧ wf_api_Method x2 ∧ wf_api_Method x3 := by
 refine ⟨⟨?_, ?_, by decide, trivial, by decide, by decide, by decide, ?_⟩, ⟨?_, ?_, by decide, trivial, by decide, by decide, by decide, ?_⟩, ⟨?_, ?_, by decide, trivial, by decide, by decide, by decide, ?_⟩⟩ <;> simp [x1, x2, x3, maxLen, wf_api_Instr] <;> decide
theorem new1 : New x1 := ⟨x_wf.1, by simp [x1], by decide +kernel, by decide +kernel, by decide +kernel, .inl (by decide +kernel), by decide +kernel, fun G P M => by kernel_rfl⟩
theorem new2 : New x2 := ⟨x_wf.2.1, by simp [x2], by decide +kernel, by decide +kernel, by decide +kernel, .inl (by decide +kernel), by decide +kernel, fun G P M => by kernel_rfl⟩
theorem new3 : New x3 := ⟨x_wf.2.2, by simp [x3], by decide +kernel, by decide +kernel, by decide +kernel, .inl (by decide +kernel), by decide +kernel, fun G P M => by kernel_rfl⟩
theorem rows1 (G P : List api_Value) (M : List api_Method) : rowsC ⟨G, P, M, 1, [1]⟩ x1.Code = ([⟨true, []⟩, ⟨true, [1]⟩], 0) := by kernel_rfl
theorem rows2 (G P : List api_Value) (M : List api_Method) : rowsC ⟨G, P, M, 1, [1, 1]⟩ x2.Code = ([⟨true, []⟩, ⟨true, [1]⟩, ⟨true, [1, 1]⟩, ⟨true, [1]⟩], 0) := by kernel_rfl
theorem rows3 (G P : List api_Value) (M : List api_Method) : rowsC ⟨G, P, M, 2, []⟩ x3.Code = ([⟨true, []⟩], 0) := by kernel_rfl
theorem one1 (al : List Nat) (kn : List api_Cert) : oneC al kn x1 [⟨true, []⟩, ⟨true, [1]⟩] = ⟨2, 2, 0⟩ := by kernel_rfl
theorem one2 (al : List Nat) (kn : List api_Cert) : oneC al kn x2 [⟨true, []⟩, ⟨true, [1]⟩, ⟨true, [1, 1]⟩, ⟨true, [1]⟩] = ⟨4, 4, 0⟩ := by kernel_rfl
theorem one3 (al : List Nat) (kn : List api_Cert) : oneC al kn x3 [⟨true, []⟩] = ⟨1, 0, 0⟩ := by kernel_rfl
theorem law_more {m : api_Module} {two ends : Bool} (hm : wf_api_Module m) : capstanlaw14_VerifyMore.f m two ends = some true := by
 unfold capstanlaw14_VerifyMore.f
 rw [vawake, Option.bind_some, if_neg (by simp), great_eq, Option.bind_some]
 by_cases hg : greatB m = true
 ·rw [if_pos hg]
 rw [if_neg hg]
 have S := small_of (by simpa using hg)
 have hM := S.M
 rw [p_accept hm S, Option.bind_some]
 by_cases hc : ((decide ((acceptC m).2 ≠ 0)) || (decide ((m.Methods.length : Int) ≥ 16))) = true
 ·rw [if_pos hc]
 rw [if_neg hc]
 simp only [Bool.or_eq_true, decide_eq_true_eq, not_or, Classical.not_not] at hc
 obtain ⟨c1, c2⟩ := hc
 have hn : m.Methods.length < 16 := by omega
 have hst : (standsC m).2 = 0 := by
  unfold acceptC at c1
  by_cases h : (standsC m).2 ≠ 0
  ·rw [if_pos h] at c1; exact absurd c1 h
  ·exact Classical.not_not.1 h
 have A := acc_of hst
 have hacc : acceptC m = costsC m := by unfold acceptC; rw [if_neg (by simpa using hst)]
 have hL := costs_len (show (costsC m).2 = 0 by rw [A.cost])
 rw [hacc]
 generalize (costsC m).1 = L at A hL
 rw [A.cost]
 have key : ∀ (x : api_Method) (rows : List types_Row) (c : api_Cert), New x → rowsC (envOf (plus m x) x) x.Code = (rows, 0) → (∀ al kn, oneC al kn x rows = c) → fitB c x = true → c.Heap = 0 → x.Locals = [] → x.Heap = 0 →
     capstanlaw14_VerifyMore.j2 m two ends (L, 0) c.Fuel c.Stack x.Args x.Result x.Reads x.Fuel x.Stack x.Code = some true := by
  intro x rows c N hr h1 hf hh hx1 hx2
  have ex : (⟨x.Args, [], x.Result, x.Reads, x.Fuel, x.Stack, 0, x.Code⟩ : api_Method) = x := by rw [← hx1, ← hx2]
  have ep : (⟨m.Globals, m.Pool, m.Methods ++ [x], m.Migrate⟩ : api_Module) = plus m x := rfl
  have hw := plus_wf hm S N
  have S2 := plus_small S N hn
  unfold capstanlaw14_VerifyMore.j2
  rw [copy_eq S, Option.bind_some, ex, if_pos (by simp; omega), ep, p_may hw S2, Option.bind_some]
  by_cases h3 : mayC (plus m x) = 3
  ·rw [if_pos h3, p_vmay hw S2, Option.bind_some]
   have : (standsC (plus m x)).2 = 3 := by unfold standsC; rw [if_pos (by omega)]; exact h3
   rw [this]; simp
  ·have ha := plus_acc hm S N hn A hr h1 hf h3
   rw [if_neg h3, p_accept hw S2, Option.bind_some, ha]
   have w : IntKind.i64.wrap ((L.length : Int) + 1) = ((L.length + 1 : Nat) : Int) := wrap_succ _ (by omega)
   dsimp only
   rw [if_pos rfl, w, if_pos (by simp), if_pos (by simp; omega), Int.toNat_natCast, List.take_left, certs_refl (by omega), Option.bind_some, if_pos rfl, elt_lt (by simp), Option.bind_some]
   unfold capstanlaw14_VerifyMore.j3
   simp [hh]
 have k1 := key x1 _ _ new1 (rows1 ..) one1 (by decide +kernel) rfl rfl rfl
 have k2 := key x2 _ _ new2 (rows2 ..) one2 (by decide +kernel) rfl rfl rfl
 have k3 := key x3 _ _ new3 (rows3 ..) one3 (by decide +kernel) rfl rfl rfl
 unfold capstanlaw14_VerifyMore.j1
 cases ends with
 | true => cases two <;> exact k3
 | false =>
  cases two with
  | true => exact k2
  | false => exact k1
end VerifyPure
theorem verifyMore_card : Rows.VerifyMoreCardSaid := verifyMore.card fun x0 x1 x2 h _ _ => VerifyPure.law_more h
#print axioms verifyMore_card
end Go.Proofs.YtehjiiebjkkcmaaGreatDoor
