/-
  Slices that read as lists: of bytes, of rows of bytes, of numbers.
-/
import Derived.Test.YtegecjilpmkamaaFrame
import Derived.Deep.Matrix
namespace Go.Proofs.Ytegecjilpmkamaa
open Go.RowKit Go.ChangeShapes Go.WideShapes Go.ChangeAt Sb

/-- From an address on, in a block that P lets, lie these values. -/
def Rv (P : Nat → Prop) (w : World) (ao : Option Addr) (n : Nat) (vs : List Value) : Prop :=
  vs.length = n ∧ (0 < n → ∃ b o, ao = some ⟨b, o, none⟩ ∧ P b ∧ ∀ i u, vs[i]? = some u → w.cell? ⟨b, o + i, none⟩ = some u)

section
variable {P Q S : Nat → Prop} {w w' : World} {ao : Option Addr} {n k : Nat} {vs : List Value}
theorem Rv.at_ (h : Rv P w ao n vs) (hk : k < n) : ∃ b o u, ao = some ⟨b, o, none⟩ ∧ P b ∧ vs[k]? = some u ∧ w.cell? ⟨b, o + k, none⟩ = some u := by
  obtain ⟨b, o, e, hP, hc⟩ := h.2 (by omega)
  have hl : k < vs.length := by have := h.1; omega
  exact ⟨b, o, vs[k], e, hP, List.getElem?_eq_getElem hl, hc k _ (List.getElem?_eq_getElem hl)⟩
theorem Rv.keep (h : Rv P w ao n vs) (hk : Keep S w w') (hs : ∀ b, b < w.heap.size → P b → ¬ S b) : Rv P w' ao n vs :=
  ⟨h.1, fun hn => by
    obtain ⟨b, o, e, hP, hc⟩ := h.2 hn
    refine ⟨b, o, e, hP, fun i u hu => ?_⟩
    have hcu := hc i u hu
    have hlt := World.block_lt_of_cell? w _ hcu
    exact (hk.cell hlt (hs b hlt hP)).trans hcu⟩
theorem Rv.mono (h : Rv P w ao n vs) (hs : ∀ b, b < w.heap.size → P b → Q b) : Rv Q w ao n vs :=
  ⟨h.1, fun hn => by
    obtain ⟨b, o, e, hP, hc⟩ := h.2 hn
    obtain ⟨u, hu⟩ : ∃ u, vs[0]? = some u := ⟨vs[0]'(by have := h.1; omega), List.getElem?_eq_getElem _⟩
    exact ⟨b, o, e, hs b (World.block_lt_of_cell? w _ (hc 0 u hu)) hP, hc⟩⟩
theorem Rv.drewN (h : Rv P w ao n vs) (m : Nat) : Rv P (w.drewN m) ao n vs := h
theorem Rv.take (h : Rv P w ao n vs) {m : Nat} (hm : m ≤ n) : Rv P w ao m (vs.take m) := by
  refine ⟨by rw [List.length_take, h.1]; omega, fun hn => ?_⟩
  obtain ⟨b, o, e, hP, hc⟩ := h.2 (by omega)
  refine ⟨b, o, e, hP, fun i u hu => hc i u ?_⟩
  rw [List.getElem?_take] at hu
  split at hu
  · exact hu
  · cases hu
theorem Rv.nil (w : World) (ao : Option Addr) : Rv P w ao 0 [] := ⟨rfl, fun h => by omega⟩
/-- A block that is known whole reads as its list. -/
theorem Rv.blk {g : Nat} {t : TypeId} {cs : Array Value} (h : Blk w g t cs) (hP : P g) {n : Nat} (hn : n ≤ cs.size) : Rv P w (some ⟨g, 0, none⟩) n (cs.toList.take n) := by
  refine ⟨by rw [List.length_take, Array.length_toList]; omega, fun _ => ⟨g, 0, rfl, hP, fun i u hu => ?_⟩⟩
  rw [Nat.zero_add, h.cell]
  rw [List.getElem?_take] at hu
  split at hu
  · rw [← Array.getElem?_toList]; exact hu
  · cases hu
end

/-- A slice of bytes that reads as a list. -/
def Rb (P : Nat → Prop) (w : World) (ao : Option Addr) (n : Nat) (xs : List UInt8) : Prop := Rv P w ao n (xs.map bv)

section
variable {P Q S : Nat → Prop} {w w' : World} {ao : Option Addr} {n k : Nat} {xs : List UInt8}
theorem Rb.len (h : Rb P w ao n xs) : xs.length = n := by have := h.1; simpa using this
theorem Rb.at_ (h : Rb P w ao n xs) (hk : k < n) : ∃ b o x, ao = some ⟨b, o, none⟩ ∧ P b ∧ xs[k]? = some x ∧ w.cell? ⟨b, o + k, none⟩ = some (bv x) := by
  obtain ⟨b, o, u, e, hP, hu, hc⟩ := Rv.at_ h hk
  rw [List.getElem?_map] at hu
  cases hx : xs[k]? with
  | none => rw [hx] at hu; cases hu
  | some x =>
    rw [hx] at hu
    have : bv x = u := by simpa using hu
    exact ⟨b, o, x, e, hP, rfl, by rw [this]; exact hc⟩
theorem Rb.keep (h : Rb P w ao n xs) (hk : Keep S w w') (hs : ∀ b, b < w.heap.size → P b → ¬ S b) : Rb P w' ao n xs := Rv.keep h hk hs
theorem Rb.mono (h : Rb P w ao n xs) (hs : ∀ b, b < w.heap.size → P b → Q b) : Rb Q w ao n xs := Rv.mono h hs
theorem Rb.drewN (h : Rb P w ao n xs) (m : Nat) : Rb P (w.drewN m) ao n xs := h
theorem Rb.take (h : Rb P w ao n xs) {m : Nat} (hm : m ≤ n) : Rb P w ao m (xs.take m) := by
  have := Rv.take h hm
  rwa [← List.map_take] at this
end

/-- A value that is a slice of bytes. -/
def Bs (P : Nat → Prop) (w : World) (v : Value) (xs : List UInt8) : Prop := ∃ ao n cap, v = .slice ao n cap ∧ n ≤ cap ∧ cap ≤ maxLen ∧ Rb P w ao n xs

theorem Bs.keep {P S : Nat → Prop} {w w' : World} {v : Value} {xs : List UInt8} (h : Bs P w v xs) (hk : Keep S w w') (hs : ∀ b, b < w.heap.size → P b → ¬ S b) : Bs P w' v xs := by
  obtain ⟨ao, n, cap, e, h1, h2, h3⟩ := h
  exact ⟨ao, n, cap, e, h1, h2, h3.keep hk hs⟩
theorem Bs.mono {P Q : Nat → Prop} {w : World} {v : Value} {xs : List UInt8} (h : Bs P w v xs) (hs : ∀ b, b < w.heap.size → P b → Q b) : Bs Q w v xs := by
  obtain ⟨ao, n, cap, e, h1, h2, h3⟩ := h
  exact ⟨ao, n, cap, e, h1, h2, h3.mono hs⟩
theorem Bs.drewN {P : Nat → Prop} {w : World} {v : Value} {xs : List UInt8} (h : Bs P w v xs) (m : Nat) : Bs P (w.drewN m) v xs := h

/-- A list of numbers that are bytes. -/
theorem bytes_of_ints : ∀ {zs : List Int}, (∀ z ∈ zs, (Lit.int .u8 z).wf = true) → ∃ xs : List UInt8, zs = xs.map (fun x => (x.toNat : Int))
  | [], _ => ⟨[], rfl⟩
  | z :: zs, h => by
    obtain ⟨x, hx⟩ := u8_of_wf (h z (by simp))
    obtain ⟨xs, hxs⟩ := bytes_of_ints (zs := zs) (fun y hy => h y (by simp [hy]))
    exact ⟨x :: xs, by rw [hx, hxs]; rfl⟩

theorem add_zero_addr (a : Addr) : a.add 0 = a := by unfold Addr.add; simp

theorem addr_of_cell {w : World} {a : Addr} {v : Value} (h : w.cell? (a.add 0) = some v) : ∃ b o, a = ⟨b, o, none⟩ := by
  obtain ⟨b, off, spot⟩ := a
  have hspot : spot = none := by simpa [Addr.add] using World.cell?_spot h
  subst hspot
  exact ⟨b, off, rfl⟩

theorem rb_of_cells {w : World} {a : Addr} {L C : Nat} {zs : List Int} (hL : L ≤ C) (hz : zs.length = C) (hwz : ∀ z ∈ zs, (Lit.int .u8 z).wf = true) (hc : ∀ c, c < C → w.cell? (a.add c) = some (.int .u8 (zs.getD c 0))) :
    ∃ xs, Rb (· < w.heap.size) w (some a) L xs := by
  obtain ⟨xs, rfl⟩ := bytes_of_ints hwz
  have hx : xs.length = C := by simpa using hz
  refine ⟨xs.take L, by rw [List.length_map, List.length_take]; omega, fun hn => ?_⟩
  obtain ⟨b, o, rfl⟩ := addr_of_cell (hc 0 (by omega))
  refine ⟨b, o, rfl, World.block_lt_of_cell? w _ (by simpa [add_zero_addr] using hc 0 (by omega)), fun i u hu => ?_⟩
  have hi : i < L := by
    have := (List.getElem?_eq_some_iff.1 hu).1
    simp at this
    omega
  have h1 := hc i (by omega)
  rw [Go.WideShapes.add_plain] at h1
  rw [h1]
  rw [List.getElem?_map, List.getElem?_take, if_pos hi] at hu
  rw [← hu]
  have : i < xs.length := by omega
  simp [this, bv]

set_option maxRecDepth 100000 in
theorem open_bytes {H : Type} {enc : TypeId × Value → H} {W : World} {base : Nat} {v : Value} {d : DataW H} {p : List MemPlace} (hv : Value.okWide Try.prog W .any base 33 v) (h : DataW.Trod enc Try.prog W 0 (fun _ => true) true 33 v d p) :
    ∃ xs, Bs (· < W.heap.size) W v xs := by
  obtain ⟨a, len, cap, rfl⟩ := okWide_slice Try.underlying33 hv
  obtain ⟨fuel, hf⟩ := h
  rcases open_ints Try.underlying33 Try.underlying5 (by kernel_rfl) hf with ⟨hcs, _⟩ | ⟨x, l, c, zs, hcs, _, hl, hm, hz, _, hcell, hwz⟩
  · simp [Value.cells] at hcs
    obtain ⟨rfl, rfl, rfl⟩ := hcs
    exact ⟨[], none, 0, 0, rfl, Nat.le_refl _, Nat.zero_le _, Rv.nil _ _⟩
  · simp [Value.cells] at hcs
    obtain ⟨rfl, rfl, rfl⟩ := hcs
    simp only [if_true] at hz
    obtain ⟨xs, hx⟩ := rb_of_cells (w := W) (a := x) hl hz hwz (fun i hi => hcell i (by rw [hz]; exact hi))
    exact ⟨xs, some x, len, cap, rfl, hl, hm, hx⟩
end Go.Proofs.Ytegecjilpmkamaa
