/-
  Slices of rows of bytes that read as matrices; and how an argument is opened as one.
-/
import Derived.Test.YtegecjilpmkamaaPoly
namespace Go.Proofs.Ytegecjilpmkamaa
open Go.RowKit Go.ChangeShapes Go.WideShapes Go.ChangeAt Sb

/-- From an address on lie slices of bytes, that read as the rows of m; us: the slices themselves. -/
def Mv (P : Nat → Prop) (w : World) (ao : Option Addr) (n : Nat) (us : List Value) (m : List (List UInt8)) : Prop :=
  Rv P w ao n us ∧ m.length = n ∧ ∀ (i : Nat) (u : Value) (r : List UInt8), us[i]? = some u → m[i]? = some r → Bs P w u r

section
variable {P Q S : Nat → Prop} {w w' : World} {ao : Option Addr} {n k : Nat} {us : List Value} {m : List (List UInt8)}
theorem Mv.len (h : Mv P w ao n us m) : m.length = n := h.2.1
theorem Mv.lenu (h : Mv P w ao n us m) : us.length = n := h.1.1
theorem Mv.at_ (h : Mv P w ao n us m) (hk : k < n) : ∃ b o ao' n' cap' r, ao = some ⟨b, o, none⟩ ∧ P b ∧ us[k]? = some (.slice ao' n' cap') ∧ m[k]? = some r ∧ w.cell? ⟨b, o + k, none⟩ = some (.slice ao' n' cap') ∧ n' ≤ cap' ∧ cap' ≤ maxLen ∧ Rb P w ao' n' r := by
  obtain ⟨b, o, u, e, hP, hu, hc⟩ := Rv.at_ h.1 hk
  obtain ⟨r, hr⟩ : ∃ r, m[k]? = some r := ⟨m[k]'(by have := h.2.1; omega), List.getElem?_eq_getElem _⟩
  obtain ⟨ao', n', cap', rfl, h1, h2, h3⟩ := h.2.2 k u r hu hr
  exact ⟨b, o, ao', n', cap', r, e, hP, hu, hr, hc, h1, h2, h3⟩
theorem Mv.keep (h : Mv P w ao n us m) (hk : Keep S w w') (hs : ∀ b, b < w.heap.size → P b → ¬ S b) : Mv P w' ao n us m :=
  ⟨h.1.keep hk hs, h.2.1, fun i u r hu hr => (h.2.2 i u r hu hr).keep hk hs⟩
theorem Mv.mono (h : Mv P w ao n us m) (hs : ∀ b, b < w.heap.size → P b → Q b) : Mv Q w ao n us m :=
  ⟨h.1.mono hs, h.2.1, fun i u r hu hr => (h.2.2 i u r hu hr).mono hs⟩
theorem Mv.drewN (h : Mv P w ao n us m) (d : Nat) : Mv P (w.drewN d) ao n us m := h
theorem Mv.nil (w : World) (ao : Option Addr) : Mv P w ao 0 [] [] := ⟨Rv.nil w ao, rfl, fun i u r h => by simp at h⟩
theorem Mv.row (h : Mv P w ao n us m) {u : Value} {r : List UInt8} (hu : us[k]? = some u) (hr : m[k]? = some r) : ∃ ao' n' cap', u = .slice ao' n' cap' ∧ n' ≤ cap' ∧ cap' ≤ maxLen ∧ Rb P w ao' n' r := h.2.2 k u r hu hr
end

/-- A value that is a matrix. -/
def Ms (P : Nat → Prop) (w : World) (v : Value) (m : List (List UInt8)) : Prop := ∃ ao n cap us, v = .slice ao n cap ∧ n ≤ cap ∧ cap ≤ maxLen ∧ Mv P w ao n us m

theorem Ms.keep {P S : Nat → Prop} {w w' : World} {v : Value} {m : List (List UInt8)} (h : Ms P w v m) (hk : Keep S w w') (hs : ∀ b, b < w.heap.size → P b → ¬ S b) : Ms P w' v m := by
  obtain ⟨ao, n, cap, us, e, h1, h2, h3⟩ := h
  exact ⟨ao, n, cap, us, e, h1, h2, h3.keep hk hs⟩
theorem Ms.mono {P Q : Nat → Prop} {w : World} {v : Value} {m : List (List UInt8)} (h : Ms P w v m) (hs : ∀ b, b < w.heap.size → P b → Q b) : Ms Q w v m := by
  obtain ⟨ao, n, cap, us, e, h1, h2, h3⟩ := h
  exact ⟨ao, n, cap, us, e, h1, h2, h3.mono hs⟩

set_option maxRecDepth 100000 in
/-- An argument that is a slice of slices of bytes. -/
theorem open_rows {H : Type} {enc : TypeId × Value → H} {W : World} {base : Nat} {v : Value} {d : DataW H} {p : List MemPlace} (hv : Value.okWide Try.prog W .any base 40 v) (h : DataW.Trod enc Try.prog W 0 (fun _ => true) true 40 v d p) :
    ∃ m, Ms (· < W.heap.size) W v m := by
  obtain ⟨a, len, cap, rfl⟩ := okWide_slice Try.underlying40 hv
  obtain ⟨fuel, hf⟩ := h
  rcases Go.Deep.open_int_rows Try.underlying40 Try.underlying33 Try.underlying5 (by kernel_rfl) (by kernel_rfl) hf with ⟨hcs, _⟩ | ⟨x, l, c, A, L, C, Z, hcs, _, hl, hm, _, hx⟩
  · simp [Value.cells] at hcs
    obtain ⟨rfl, rfl, rfl⟩ := hcs
    exact ⟨[], none, 0, 0, [], rfl, Nat.le_refl _, Nat.zero_le _, Mv.nil _ _⟩
  · simp [Value.cells] at hcs
    obtain ⟨rfl, rfl, rfl⟩ := hcs
    have each : ∀ r, r < cap → ∃ xs, Rb (· < W.heap.size) W (A r) (L r) xs := by
      intro r hr
      obtain ⟨h1, h2, h3, h4, h5, h6, h7⟩ := hx r hr
      cases hA : A r with
      | none =>
        have hz : L r = 0 := by have := h6 hA; omega
        rw [hz]
        exact ⟨[], Rv.nil _ _⟩
      | some a' => exact rb_of_cells (w := W) (a := a') h2 h4 h5 (h7 a' hA).2
    obtain ⟨X, hX⟩ := Go.Deep.choose_lt each
    have hlt : ∀ i, i < len → i < cap := fun i hi => by omega
    refine ⟨(List.range len).map X, some x, len, cap, (List.range len).map (fun r => Value.slice (A r) (L r) (C r)), rfl, hl, hm, ⟨by simp, fun hn => ?_⟩, by simp, fun i u r hu hr => ?_⟩
    · obtain ⟨h1, _⟩ := hx 0 (by omega)
      obtain ⟨b, o, rfl⟩ := addr_of_cell h1
      refine ⟨b, o, rfl, World.block_lt_of_cell? W _ (by simpa [add_zero_addr] using h1), fun i u hu => ?_⟩
      have hi : i < len := by
        have := (List.getElem?_eq_some_iff.1 hu).1
        simpa using this
      rw [List.getElem?_map, List.getElem?_range hi] at hu
      have h2 := (hx i (by omega)).1
      rw [Go.WideShapes.add_plain] at h2
      rw [h2]
      simpa using hu
    · have hi : i < len := by
        have := (List.getElem?_eq_some_iff.1 hu).1
        simpa using this
      rw [List.getElem?_map, List.getElem?_range hi] at hu hr
      have hu' : Value.slice (A i) (L i) (C i) = u := by simpa using hu
      have hr' : X i = r := by simpa using hr
      obtain ⟨_, h2, h3, _⟩ := hx i (by omega)
      exact ⟨A i, L i, C i, hu'.symm, h2, h3, hr' ▸ hX i (by omega)⟩

/-- The first place from k on, of so many, at which q holds; -1, if there is none. -/
def fidx (q : Nat → Bool) : Nat → Nat → Int
  | 0, _ => -1
  | r + 1, k => if q k = true then (k : Int) else fidx q r (k + 1)

theorem fidx_step {q : Nat → Bool} {n k : Nat} (hk : k < n) : fidx q (n - k) k = if q k = true then (k : Int) else fidx q (n - (k + 1)) (k + 1) := by
  obtain ⟨r, hr⟩ : ∃ r, n - k = r + 1 := ⟨n - k - 1, by omega⟩
  rw [hr, show n - (k + 1) = r by omega, fidx]

theorem fidx_spec (q : Nat → Bool) (r : Nat) : ∀ k, (fidx q r k = -1 ∧ ∀ i, k ≤ i → i < k + r → q i = false) ∨ ∃ j, k ≤ j ∧ j < k + r ∧ fidx q r k = (j : Int) ∧ q j = true ∧ ∀ i, k ≤ i → i < j → q i = false := by
  induction r with
  | zero => intro k; exact .inl ⟨rfl, fun i h1 h2 => by omega⟩
  | succ r ih =>
    intro k
    cases hq : q k with
    | true => exact .inr ⟨k, Nat.le_refl _, by omega, by simp [fidx, hq], hq, fun i h1 h2 => by omega⟩
    | false =>
      have he : fidx q (r + 1) k = fidx q r (k + 1) := by simp [fidx, hq]
      rcases ih (k + 1) with ⟨h1, h2⟩ | ⟨j, h1, h2, h3, h4, h5⟩
      · left
        refine ⟨he.trans h1, fun i h3 h4 => ?_⟩
        by_cases hi : i = k
        · rw [hi]; exact hq
        · exact h2 i (by omega) (by omega)
      · right
        refine ⟨j, by omega, by omega, he.trans h3, h4, fun i h6 h7 => ?_⟩
        by_cases hi : i = k
        · rw [hi]; exact hq
        · exact h5 i (by omega) h7

theorem fidx_any (q : Nat → Bool) (n : Nat) : decide (0 ≤ fidx q n 0) = (List.range n).any q := by
  rw [Bool.eq_iff_iff, decide_eq_true_eq, List.any_eq_true]
  rcases fidx_spec q n 0 with ⟨h1, h2⟩ | ⟨j, _, h2, h3, h4, _⟩
  · constructor
    · intro h; omega
    · rintro ⟨i, hi, hq⟩
      rw [List.mem_range] at hi
      rw [h2 i (Nat.zero_le _) (by omega)] at hq
      cases hq
  · constructor
    · intro _
      exact ⟨j, List.mem_range.2 (by omega), h4⟩
    · intro _; omega
end Go.Proofs.Ytegecjilpmkamaa
