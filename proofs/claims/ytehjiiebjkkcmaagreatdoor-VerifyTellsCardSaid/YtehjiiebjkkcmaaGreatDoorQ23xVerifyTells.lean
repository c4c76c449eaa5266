/- Words of this seat: a row of one's own that the library sorts. -/
import Derived.Test.YtehjiiebjkkcmaaGreatDoorQ22xVerifyTells
import Derived.Shelf.GgSortFunc.InsertionK
set_option linter.unusedVariables false
set_option linter.unusedSimpArgs false
namespace Go.Q
open Go.Sort Go.Proofs
def flatL {α : Type} (enc : α → List Value) (xs : List α) : List Value := xs.flatMap enc
theorem Z03 {α : Type} {enc : α → List Value} {s : Nat} (he : ∀ x, (enc x).length = s) : ∀ xs : List α, (flatL enc xs).length = xs.length * s
 | [] => by simp [flatL]
 | x :: xs => by
  have := Z03 he xs
  simp only [flatL, List.flatMap_cons, List.length_append, List.length_cons] at this ⊢
  rw [he, this, Nat.add_mul]; omega
theorem Z04 {α : Type} [Inhabited α] {enc : α → List Value} {s : Nat} (he : ∀ x, (enc x).length = s) : ∀ (xs : List α) (t : Nat), t < xs.length * s → (flatL enc xs)[t]? = some (enc xs.toArray[t / s]!)[t % s]!
 | [], t, h => by simp at h
 | x :: xs, t, h => by
  have hs : 0 < s := by
   rcases Nat.eq_zero_or_pos s with z | z
   ·subst z; simp at h
   ·exact z
  simp only [flatL, List.flatMap_cons]
  by_cases ht : t < s
  ·rw [List.getElem?_append_left (by rw [he]; exact ht), Nat.div_eq_of_lt ht, Nat.mod_eq_of_lt ht]
   have : (x :: xs).toArray[0]! = x := rfl
   rw [this]
   have hl : t < (enc x).length := by rw [he]; exact ht
   rw [List.getElem?_eq_getElem hl, getElem!_pos (enc x) t hl]
  ·rw [List.getElem?_append_right (by rw [he]; omega), he]
   have ih := Z04 he xs (t - s) (by simp only [List.length_cons, Nat.add_mul] at h; omega)
   simp only [flatL] at ih
   rw [ih]
   have e1 : t / s = (t - s) / s + 1 := by
    rw [← Nat.add_div_right _ hs, Nat.sub_add_cancel (by omega)]
   have e2 : t % s = (t - s) % s := by
    rw [← Nat.mod_eq_sub_mod (by omega)]
   have hd : (t - s) / s < xs.length := by
    rw [Nat.div_lt_iff_lt_mul hs]
    simp only [List.length_cons, Nat.add_mul] at h; omega
   rw [e1, e2]
   congr 2
   have a1 : (x :: xs).toArray[(t - s) / s + 1]! = (x :: xs)[(t - s) / s + 1]'(by simp; omega) := by
    rw [getElem!_pos _ _ (by simp; omega)]; simp
   have a2 : xs.toArray[(t - s) / s]! = xs[(t - s) / s]'hd := by
    rw [getElem!_pos _ _ (by simpa using hd)]; simp
   rw [a1, a2]
   simp
theorem Z3j {α : Type} [Inhabited α] {enc : α → List Value} {s : Nat} (he : ∀ x, (enc x).length = s) (xs : List α) : (flatK enc s xs.toArray).toList = flatL enc xs := by
 apply List.ext_getElem?
 intro t
 by_cases h : t < xs.length * s
 ·rw [Z04 he xs t h, Array.getElem?_toList]
  have hz : t < (flatK enc s xs.toArray).size := by simpa using h
  rw [Array.getElem?_eq_getElem hz, ← getElem!_pos _ t hz, get_flatK _ _ _ _ (by simpa using h)]
 ·rw [List.getElem?_eq_none (by simpa using Nat.le_of_not_lt h), List.getElem?_eq_none (by rw [Z03 he]; omega)]
theorem Flat.enc {α : Type} {k : Kd α} {enc : α → List Value} (hk : ∀ h cs x, k.rd h cs x ↔ cs = enc x) {a : Hp} : ∀ {xs : List α} {cells : List Value}, Flat k a cells xs ↔ cells = flatL enc xs
 | [], cells => Iff.rfl
 | x :: xs, cells => by
  constructor
  ·rintro ⟨cs, rest, rfl, r, f⟩
   rw [(hk _ _ _).1 r, (Flat.enc hk).1 f]; rfl
  ·rintro rfl
   exact ⟨enc x, flatL enc xs, rfl, (hk _ _ _).2 rfl, (Flat.enc hk).2 rfl⟩
theorem slO.Z0J {P : Program} {f : FuncId} {α : Type} [Inhabited α] {k : Kd α} {T : TypeId} {v : Value} {l : List α} (ar : Value → Array Value) (rs : Value → Value) (enc : α → List Value) (hk : ∀ h cs x, k.rd h cs x ↔ cs = enc x) (srt : Array α → Array α) (hz : ∀ d, (srt d).size = d.size)
    (hc : ∀ (blk cap : Nat) (d : Array α) (w : World), HoldsK enc k.sz w blk 0 d → blk < w.heap.size → d.size < 4611686018427387904 → d.size ≤ cap → d = l.toArray →
     Calls P f (ar (.slice (some ⟨blk, 0, none⟩) d.size cap)) w fun e w' => e = .returned (rs (.slice (some ⟨blk, 0, none⟩) d.size cap)) ∧ ∃ n os, w' = sortWorldK enc k.sz w blk 0 n (srt d) os)
    (hn : l = [] → ∀ w hV, Sub hV (hp w) → Trip P f (ar (.slice none 0 0)) em hV w (fun v => HO.pure (v = rs (.slice none 0 0))))
    (hll : l.length < 4611686018427387904) {w : World} {hP h1 : Hp} (sub : Sub hP (hp w)) (s1 : Sub h1 (hp w)) (dj : Dj hP h1) (hI : (slO k T v l).p hP h1) :
    Trip P f (ar v) h1 hP w (fun r => HO.pand (r = rs v) (HO.seps [slO k T v (srt l.toArray).toList])) := by
 have he : ∀ x, (enc x).length = k.sz := fun x => k.len em _ _ ((hk em _ x).2 rfl)
 obtain ⟨cells, fl, hl, ⟨rfl, hn0⟩ | ⟨g, cap, cur, rfl, hg, hle, hm, hs, ht⟩⟩ := hI
 ·obtain rfl := List.eq_nil_of_length_eq_zero hn0
  have hsz : (srt #[]).toList = [] := by
   have := hz #[]
   exact List.eq_nil_of_length_eq_zero (by simpa using this)
  refine (hn rfl w hP sub).mono fun e w' ⟨r, h1', h2⟩ => ⟨r, h1', ?_⟩
  obtain ⟨m, fr, hN, hO, n1, n2, d, t1, t2, q⟩ := h2
  refine ⟨m, fun b o hb ha => fr b o hb rfl, hN, em, fun b hb ha => n1 b hb rfl, fun _ _ _ => rfl, Dj.XR _, t1, Sub.em _, q, ?_⟩
  rw [hsz]
  exact ⟨em, em, Dj.Yw _, Sub.em _, Sub.em _, ⟨[], rfl, by simp, .inl ⟨rfl, rfl⟩⟩, trivial⟩
 ·have hcells : cells = flatL enc l := (Flat.enc hk).1 fl
  have hgw : w.heap[g]? = some (.cells cur T (0, 0)) := s1 _ _ hg
  have hlt : g < w.heap.size := (Array.getElem?_eq_some_iff.1 hgw).1
  have hold : HoldsK enc k.sz w g 0 l.toArray := by
   intro j hj
   have hj' : j < l.length * k.sz := by simpa using hj
   have e1 : cur[j]? = some (flatK enc k.sz l.toArray)[j]! := by
    have a1 : (flatL enc l)[j]? = some (flatK enc k.sz l.toArray)[j]! := by
     rw [Z04 he l j hj', get_flatK _ _ _ _ (by simpa using hj')]
    rw [← a1, ← hcells, ← ht, List.getElem?_take_of_lt hj', Array.getElem?_toList]
   refine ⟨?_, ?_⟩
   ·simp only [World.cell?, Nat.zero_add]
    rw [hgw]
    simpa using e1
   ·simp only [World.frozen?]
    rw [hgw]
    simp
  have hsz : l.toArray.size < 4611686018427387904 := by simpa using hll
  have := hc g cap l.toArray w hold hlt hsz (by simpa using hle) rfl
  rw [List.size_toArray] at this
  refine this.mono fun e w' ⟨r, n, os, hw⟩ => ⟨_, r, ?_⟩
  subst hw
  have hnew : ∀ b, b < w.heap.size → (sortWorldK enc k.sz w g 0 n (srt l.toArray) os).heap[b]? = if b = g then some (.cells (putCells id 0 (flatK enc k.sz (srt l.toArray)) cur) T (0, 0)) else w.heap[b]? := by
   intro b hb
   have e0 : (sortWorldK enc k.sz w g 0 n (srt l.toArray) os).heap = w.heap.modify g (onCells (putCells id 0 (flatK enc k.sz (srt l.toArray)))) ++ os := rfl
   rw [e0, Array.getElem?_append_left (by simpa using hb), Array.getElem?_modify]
   by_cases hbg : g = b
   ·subst hbg; rw [if_pos rfl, if_pos rfl, hgw]; rfl
   ·rw [if_neg hbg, if_neg (Ne.symm hbg)]
  refine ⟨⟨rfl, rfl, rfl, ?_⟩, ?_, em, fun b => if b = g then some (.cells (putCells id 0 (flatK enc k.sz (srt l.toArray)) cur) T (0, 0)) else none, fun _ _ _ => rfl, ?_, Dj.Yw _, Sub.em _, ?_, rfl, ?_⟩
  ·have e0 : (sortWorldK enc k.sz w g 0 n (srt l.toArray) os).heap = w.heap.modify g (onCells (putCells id 0 (flatK enc k.sz (srt l.toArray)))) ++ os := rfl
   rw [e0]; simp
  ·intro b o hb ha
   have hbs : b < w.heap.size := (Array.getElem?_eq_some_iff.1 hb).1
   have hbg : b ≠ g := fun e => by subst e; rw [hg] at ha; cases ha
   show (sortWorldK enc k.sz w g 0 n (srt l.toArray) os).heap[b]? = some o
   rw [hnew b hbs, if_neg hbg]; exact hb
  ·intro b hb ha
   have hbg : b ≠ g := fun e => by subst e; rw [hg] at ha; cases ha
   exact if_neg hbg
  ·intro b o hb
   dsimp only at hb
   by_cases hbg : b = g
   ·subst hbg
    rw [if_pos rfl] at hb
    show (sortWorldK enc k.sz w b 0 n (srt l.toArray) os).heap[b]? = some o
    rw [hnew b hlt, if_pos rfl]; exact hb
   ·rw [if_neg hbg] at hb; cases hb
  ·have hlen : (srt l.toArray).toList.length = l.length := by rw [Array.length_toList, hz]; simp
   refine ⟨_, em, Dj.XR _, Sub.refl _, Sub.em _, ⟨flatL enc (srt l.toArray).toList, (Flat.enc hk).2 rfl, by rw [Z03 he], .inr ⟨g, cap, putCells id 0 (flatK enc k.sz (srt l.toArray)) cur, by rw [hlen], if_pos rfl, by rw [hlen]; exact hle, hm, by simp [putCells, hs], ?_⟩⟩, trivial⟩
   have hf : (flatK enc k.sz (srt l.toArray)).toList = flatL enc (srt l.toArray).toList := by
    have := Z3j (enc := enc) he (srt l.toArray).toList
    simpa using this
   rw [← hf]
   apply List.ext_getElem?
   intro t
   rw [hlen]
   have hfs : (flatK enc k.sz (srt l.toArray)).size = l.length * k.sz := by rw [size_flatK, hz]; simp
   have hle' : l.length * k.sz ≤ cur.size := by rw [hs]; exact Nat.mul_le_mul_right _ hle
   by_cases h : t < l.length * k.sz
   ·rw [List.getElem?_take_of_lt h, Array.getElem?_toList, Array.getElem?_toList]
    have h2 : t < cur.size := by omega
    have h3 : t < (flatK enc k.sz (srt l.toArray)).size := by omega
    simp only [putCells, Array.getElem?_mapIdx]
    rw [Array.getElem?_eq_getElem h2, Array.getElem?_eq_getElem h3]
    simp only [Option.map_some, Nat.zero_le, true_and, Nat.zero_add, Nat.sub_zero, id]
    rw [if_pos h3, getElem!_pos _ t h3]
   ·rw [List.getElem?_eq_none (by rw [List.length_take]; omega), List.getElem?_eq_none (by rw [Array.length_toList]; omega)]
end Go.Q
