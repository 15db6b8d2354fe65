/-
  Arguments opened: acts, lists of texts, lists of numbers.
-/
import Derived.Test.YtoojhdjdhhkkcaaTrn
import Derived.Deep.Slices
import Derived.Deep.Fields
import Derived.ChangeSame
import Derived.SliceStrings
namespace Go.Proofs.Ytoojhdjdhhkkcaa
open Go.RowKit Go.ChangeShapes Go.WideShapes Go.ChangeAt Go.Deep

section
variable {H : Type} {enc : TypeId × Value → H} {P : Program} {w : World} {base : Nat} {spare : Nat → Bool} {held : Bool}
theorem open_slice_fields {t e : TypeId} {fs : Array Field} {fuel : Nat} {cs : List Value} {x : DataW H × List MemPlace} (ht : P.underlying t = some (.slice e)) (he : P.underlying e = some (.struct fs))
    (hone : oneCellFields P fs = true) (hC : P.cellsOf e = fs.size) (h : DataW.trod enc P w base spare held fuel t cs = some x) :
    (cs = [.slice none 0 0] ∧ x = (.nil, [])) ∨
    ∃ (a : Addr) (len cap m : Nat), cs = [.slice (some a) len cap] ∧ base ≤ a.block ∧ len ≤ cap ∧ cap ≤ maxLen ∧ m = (if spare a.block then cap else len) ∧
      ∀ i, i < m → ∃ (n : Nat), ∀ (j : Nat) (f : Field), fs[j]? = some f → ∃ (v : Value) (y : DataW H × List MemPlace), w.cell? (a.add (i * fs.size + j)) = some v ∧ DataW.trod enc P w base spare held n f.type [v] = some y := by
  rcases open_slice ht h with h0 | ⟨a, len, cap, m, n, D, Pl, hcs, hb, hl, hm, hmm, hx, hi⟩
  · exact .inl h0
  · refine .inr ⟨a, len, cap, m, hcs, hb, hl, hm, hmm, fun i him => ?_⟩
    obtain ⟨cs', hc, ht'⟩ := hi i him
    rw [hC] at hc
    obtain ⟨ys, n', hn', hy, hlen, hyl, hf⟩ := DataW.trod_struct he ht'
    obtain ⟨_, hcl, hat⟩ := World.cells?_some hc
    refine ⟨n', fun j f hj => ?_⟩
    obtain ⟨ho, hk⟩ := hone_of hone j f hj
    have hjl : j < fs.size := (Array.getElem?_eq_some_iff.1 hj).1
    have hcell := hat j hjl
    have hv : cs'[j]? = some (cs'[j]'(by omega)) := List.getElem?_eq_getElem (by omega)
    have h1 := hf j f hj
    rw [ho, hk] at h1
    have hone' : (cs'.drop j).take 1 = [cs'[j]'(by omega)] := by
      rw [List.drop_eq_getElem_cons (by omega)]
      rfl
    rw [hone'] at h1
    have hys : ys[j]? = some (ys[j]'(by omega)) := List.getElem?_eq_getElem (by omega)
    refine ⟨_, _, ?_, h1.trans hys⟩
    rw [← Go.Deep.add_add, hcell, hv]
end

theorem add_zero_addr (a : Addr) : a.add 0 = a := by unfold Addr.add; simp

theorem addr_of_cell {w : World} {a : Addr} {v : Value} (h : w.cell? (a.add 0) = some v) : ∃ b o, a = ⟨b, o, none⟩ := by
  obtain ⟨b, off, spot⟩ := a
  have hspot : spot = none := by simpa [Addr.add] using World.cell?_spot h
  subst hspot
  exact ⟨b, off, rfl⟩

/-- A slice of numbers inside an argument. -/
theorem nums_in {H : Type} {enc : TypeId × Value → H} {W : World} {fuel : Nat} {v : Value} {y : DataW H × List MemPlace} (h : DataW.trod enc Try.prog W 0 (fun _ => true) true fuel 29 [v] = some y) :
    ∃ ao n cap l, v = .slice ao n cap ∧ n ≤ cap ∧ cap ≤ maxLen ∧ Nn (· < W.heap.size) W ao n l := by
  rcases open_ints Try.underlying29 Try.underlying3 (by kernel_rfl) h with ⟨hcs, _⟩ | ⟨x, l, c, zs, hcs, _, hl, hm, hz, _, hcell, hwz⟩
  · cases hcs
    exact ⟨none, 0, 0, [], rfl, Nat.le_refl _, Nat.zero_le _, Rv.nil _ _, fun z hz => by cases hz⟩
  · cases hcs
    simp only [if_true] at hz
    refine ⟨some x, l, c, zs.take l, rfl, hl, hm, ⟨by simp; omega, fun hn => ?_⟩, fun z hz' => bounds_i64 (hwz z (List.mem_of_mem_take hz'))⟩
    have h0 := hcell 0 (by omega)
    obtain ⟨b, o, rfl⟩ := addr_of_cell h0
    refine ⟨b, o, rfl, World.block_lt_of_cell? W _ (by simpa [add_zero_addr] using h0), fun i u hu => ?_⟩
    have hi : i < l := by
      have := (List.getElem?_eq_some_iff.1 hu).1
      simp at this
      omega
    have h1 := hcell i (by omega)
    rw [Go.WideShapes.add_plain] at h1
    rw [h1]
    rw [List.getElem?_map, List.getElem?_take, if_pos hi] at hu
    have hi2 : i < zs.length := by omega
    rw [List.getElem?_eq_getElem hi2] at hu
    rw [← hu]
    simp [hi2]

/-- An argument that is a list of numbers. -/
theorem open_nums {H : Type} {enc : TypeId × Value → H} {W : World} {base : Nat} {v : Value} {d : DataW H} {p : List MemPlace} (hv : Value.okWide Try.prog W .any base 29 v) (h : DataW.Trod enc Try.prog W 0 (fun _ => true) true 29 v d p) :
    ∃ ao n cap l, v = .slice ao n cap ∧ n ≤ cap ∧ cap ≤ maxLen ∧ Nn (· < W.heap.size) W ao n l := by
  obtain ⟨a, len, cap, rfl⟩ := okWide_slice Try.underlying29 hv
  obtain ⟨fuel, hf⟩ := h
  exact nums_in hf

/-- An argument that is a list of texts. -/
theorem open_texts {H : Type} {enc : TypeId × Value → H} {W : World} {base : Nat} {v : Value} {d : DataW H} {p : List MemPlace} (hv : Value.okWide Try.prog W .any base 28 v) (h : DataW.Trod enc Try.prog W 0 (fun _ => true) true 28 v d p) :
    ∃ ao n cap xs, v = .slice ao n cap ∧ n ≤ cap ∧ cap ≤ maxLen ∧ Rs (· < W.heap.size) W ao n xs ∧ ∀ s ∈ xs, s.size ≤ maxLen := by
  obtain ⟨a, len, cap, rfl⟩ := okWide_slice Try.underlying28 hv
  obtain ⟨fuel, hf⟩ := h
  rcases open_strings Try.underlying28 Try.underlying9 (by kernel_rfl) hf with ⟨hcs, _⟩ | ⟨x, l, c, ss, hcs, _, hl, hm, hz, _, hcell, hsz⟩
  · simp [Value.cells] at hcs
    obtain ⟨rfl, rfl, rfl⟩ := hcs
    exact ⟨none, 0, 0, [], rfl, Nat.le_refl _, Nat.zero_le _, Rv.nil _ _, fun s hs => by cases hs⟩
  · simp [Value.cells] at hcs
    obtain ⟨rfl, rfl, rfl⟩ := hcs
    simp only [if_true] at hz
    refine ⟨some x, len, cap, ss.take len, rfl, hl, hm, ⟨by simp; omega, fun hn => ?_⟩, fun s hs => hsz s (List.mem_of_mem_take hs)⟩
    have h0 := hcell 0 (by omega)
    obtain ⟨b, o, rfl⟩ := addr_of_cell h0
    refine ⟨b, o, rfl, World.block_lt_of_cell? W _ (by simpa [add_zero_addr] using h0), fun i u hu => ?_⟩
    have hi : i < len := by
      have := (List.getElem?_eq_some_iff.1 hu).1
      simp at this
      omega
    have h1 := hcell i (by omega)
    rw [Go.WideShapes.add_plain] at h1
    rw [h1]
    rw [List.getElem?_map, List.getElem?_take, if_pos hi] at hu
    have hi2 : i < ss.length := by omega
    rw [List.getElem?_eq_getElem hi2] at hu
    rw [← hu]
    simp [hi2]
end Go.Proofs.Ytoojhdjdhhkkcaa
