/-
  A matrix in own memory, its rows somewhere; sums and multiples of rows by their entries; the closure of sink.
-/
import Derived.Test.YtegecjilpmkamaaClone
import Derived.Deep.RegionLaw
import Derived.Deep.RegionHeld3
namespace Go.Proofs.Ytegecjilpmkamaa
open Go.RowKit Sb

theorem bs_rb {P Q : Nat → Prop} {w : World} {ao : Option Addr} {n cap : Nat} {xs : List UInt8} (h : Bs P w (.slice ao n cap) xs) (hs : ∀ b, P b → Q b) : Rb Q w ao n xs := by
  obtain ⟨ao', n', cap', e, _, _, hr⟩ := h
  cases e
  exact hr.mono (fun b _ => hs b)

/-- A row by its entries. -/
abbrev rowOf (c : Nat) (f : Nat → UInt8) : List UInt8 := (List.range c).map f

theorem rowOf_len (c : Nat) (f : Nat → UInt8) : (rowOf c f).length = c := by simp
theorem rowOf_get {c j : Nat} (f : Nat → UInt8) (h : j < c) : (rowOf c f)[j]? = some (f j) := by
  rw [List.getElem?_map, List.getElem?_range h]
  rfl
theorem rowOf_congr {c : Nat} {f h : Nat → UInt8} (e : ∀ j, j < c → f j = h j) : rowOf c f = rowOf c h := by
  apply List.map_congr_left
  intro j hj
  exact e j (List.mem_range.1 hj)
theorem rowOf_scale (c : Nat) (f : Nat → UInt8) (y : UInt8) : gscale (rowOf c f) y = rowOf c (fun j => gmul (f j) y) := by
  unfold gscale rowOf
  rw [List.map_map]
  rfl
theorem rowOf_getD {c j : Nat} (f : Nat → UInt8) (h : j < c) : (rowOf c f).getD j 0 = f j := by
  rw [List.getD_eq_getElem?_getD, rowOf_get f h]
  rfl
theorem rowOf_sum (c : Nat) (f h : Nat → UInt8) : gsum (rowOf c f) (rowOf c h) = rowOf c (fun j => f j ^^^ h j) := by
  unfold gsum
  rw [rowOf_len, rowOf_len, Nat.max_self]
  apply List.map_congr_left
  intro j hj
  rw [rowOf_getD f (List.mem_range.1 hj), rowOf_getD h (List.mem_range.1 hj)]

/-- Block g holds n slices; they read as rows of c bytes each, in blocks that are not older than N and are not g. -/
def Om (N : Nat) (w : World) (g n c : Nat) (F : Nat → Nat → UInt8) : Prop :=
  ∃ us : List Value, Blk w g 33 us.toArray ∧ us.length = n ∧ ∀ (i : Nat) (u : Value), us[i]? = some u → Bs (fun b => N ≤ b ∧ b ≠ g) w u (rowOf c (F i))

theorem Om.keep {N : Nat} {S : Nat → Prop} {w w' : World} {g n c : Nat} {F : Nat → Nat → UInt8} (h : Om N w g n c F) (hk : Keep S w w') (hg : ¬ S g) (hs : ∀ b, b < w.heap.size → N ≤ b → b ≠ g → ¬ S b) : Om N w' g n c F := by
  obtain ⟨us, h1, h2, h3⟩ := h
  exact ⟨us, h1.keep hk hg, h2, fun i u hu => (h3 i u hu).keep hk (fun b hb hp => hs b hb hp.1 hp.2)⟩

theorem Om.congr {N : Nat} {w : World} {g n c : Nat} {F F' : Nat → Nat → UInt8} (h : Om N w g n c F) (e : ∀ i j, i < n → j < c → F i j = F' i j) : Om N w g n c F' := by
  obtain ⟨us, h1, h2, h3⟩ := h
  refine ⟨us, h1, h2, fun i u hu => ?_⟩
  have hi : i < n := by
    have := (List.getElem?_eq_some_iff.1 hu).1
    omega
  rw [← rowOf_congr (fun j hj => e i j hi hj)]
  exact h3 i u hu

theorem Om.lt {N : Nat} {w : World} {g n c : Nat} {F : Nat → Nat → UInt8} (h : Om N w g n c F) : g < w.heap.size := by
  obtain ⟨us, h1, _⟩ := h
  exact h1.lt

theorem Om.at_ {N : Nat} {w : World} {g n c i : Nat} {F : Nat → Nat → UInt8} (h : Om N w g n c F) (hi : i < n) :
    ∃ ao cap, w.cell? ⟨g, i, none⟩ = some (.slice ao c cap) ∧ w.frozen? ⟨g, i, none⟩ = false ∧ c ≤ cap ∧ cap ≤ maxLen ∧ Rb (fun b => N ≤ b ∧ b ≠ g) w ao c (rowOf c (F i)) := by
  obtain ⟨us, h1, h2, h3⟩ := h
  have hl : i < us.length := by omega
  have hu := List.getElem?_eq_getElem hl
  obtain ⟨ao, n', cap, e, h4, h5, h6⟩ := h3 i _ hu
  have : n' = c := by have := h6.len; rw [rowOf_len] at this; omega
  subst this
  refine ⟨ao, cap, ?_, h1.frozen i, h4, h5, h6⟩
  rw [h1.cell, List.getElem?_toArray, hu, e]

/-- One row is put in the place of another. -/
theorem Om.set_ {N : Nat} {w : World} {g n c i : Nat} {F : Nat → Nat → UInt8} (h : Om N w g n c F) {u : Value} {f : Nat → UInt8} (hu : Bs (fun b => N ≤ b ∧ b ≠ g) w u (rowOf c f)) :
    Om N (w.setCell ⟨g, i, none⟩ u) g n c (fun k => if k = i then f else F k) := by
  obtain ⟨us, h1, h2, h3⟩ := h
  have hk : Keep (· = g) w (w.setCell ⟨g, i, none⟩ u) := (Keep.refl (· = g) w).setCell (p := ⟨g, i, none⟩) (fun _ => rfl) u
  refine ⟨us.set i u, ?_, by simpa using h2, fun k v hv => ?_⟩
  · have := h1.set_ i u
    rwa [← List.setIfInBounds_toArray] at *
  · dsimp only
    by_cases hki : k = i
    · subst hki
      rw [if_pos rfl]
      have hl : k < us.length := by
        have := (List.getElem?_eq_some_iff.1 hv).1
        simpa using this
      rw [List.getElem?_set_self hl] at hv
      cases hv
      exact hu.keep hk (fun b _ hp e => hp.2 e)
    · rw [if_neg hki]
      rw [List.getElem?_set_ne (fun e => hki e.symm)] at hv
      exact (h3 k v hv).keep hk (fun b _ hp e => hp.2 e)

/-- It reads as a matrix, from row a on. -/
theorem Om.mv {N : Nat} {w : World} {g n c : Nat} {F : Nat → Nat → UInt8} (h : Om N w g n c F) (hN : N ≤ g) (a : Nat) : ∃ us, Mv (fun b => N ≤ b) w (some ⟨g, a, none⟩) (n - a) us ((List.range (n - a)).map (fun i => rowOf c (F (a + i)))) := by
  obtain ⟨us, h1, h2, h3⟩ := h
  refine ⟨us.drop a, ⟨by rw [List.length_drop]; omega, fun _ => ⟨g, a, rfl, hN, fun i u hu => ?_⟩⟩, by simp, fun i u r hu hr => ?_⟩
  · rw [List.getElem?_drop] at hu
    rw [h1.cell, List.getElem?_toArray]
    exact hu
  · rw [List.getElem?_drop] at hu
    have hi : i < n - a := by
      have := (List.getElem?_eq_some_iff.1 hu).1
      omega
    rw [List.getElem?_map, List.getElem?_range hi] at hr
    have hr' : rowOf c (F (a + i)) = r := by simpa using hr
    subst hr'
    exact (h3 _ u hu).mono (fun b _ hp => hp.1)

theorem Om.ms {N : Nat} {w : World} {g n c : Nat} {F : Nat → Nat → UInt8} (h : Om N w g n c F) (hN : N ≤ g) : ∃ us, Mv (fun b => N ≤ b) w (some ⟨g, 0, none⟩) n us ((List.range n).map (fun i => rowOf c (F i))) := by
  obtain ⟨us, hu⟩ := h.mv hN 0
  simp only [Nat.zero_add, Nat.sub_zero] at hu
  exact ⟨us, hu⟩

theorem Fl.om {N : Nat} {w : World} {g : Nat} {G : Nat → Nat} {n c : Nat} {F : Nat → Nat → UInt8} (h : Fl N w g G n c (fun i => rowOf c (F i))) (hc : c ≤ maxLen) : Om N w g n c F := by
  obtain ⟨h1, cs, h2, h3, h4, _⟩ := h
  refine ⟨cs.toList, h2, by rw [Array.length_toList]; exact h3, fun i u hu => ?_⟩
  have hi : i < n := by
    have := (List.getElem?_eq_some_iff.1 hu).1
    simpa [h3] using this
  obtain ⟨i1, i2, i3, i4⟩ := h4 i hi
  rw [Array.getElem?_toList, i1] at hu
  cases hu
  refine ⟨_, c, c, rfl, Nat.le_refl _, hc, ⟨by simp, fun hn => ⟨G i, 0, rfl, ⟨i2, Blk.ne_ i3 h2 (by decide)⟩, fun j v hv => ?_⟩⟩⟩
  rw [Nat.zero_add, i3.cell]
  simpa [bcells] using hv

theorem closure103 (P : Nat → Prop) (ao : Option Addr) (n cap lb col : Nat) (xs : List UInt8) (x : UInt8) (w : World) (hr : Rb P w ao n xs) (hx : xs[col]? = some x) (hl : w.cell? ⟨lb, 0, none⟩ = some (.int .i64 col)) :
    Calls Try.prog 103 #[.slice ao n cap, .pointer (some ⟨lb, 0, none⟩)] w fun e w' => e = .returned (.bool (x != 0)) ∧ w = w' := by
  have hlt : col < n := by
    have := (List.getElem?_eq_some_iff.1 hx).1
    have := hr.len
    omega
  obtain ⟨b, o, x', rfl, _, hx', hc⟩ := hr.at_ hlt
  rw [hx] at hx'
  cases hx'
  have h0 : (0 : Int) ≤ (col : Int) := by omega
  have h1 : (col : Int) < (n : Int) := by omega
  clear hr hx hlt
  have e : Hid ((x != 0) = ((x.toNat : Int) != 0)) := by
    show (x != 0) = ((x.toNat : Int) != 0)
    rw [Bool.eq_iff_iff, bne_iff_ne, bne_iff_ne]
    constructor
    · intro h1 h2
      apply h1
      apply UInt8.toNat_inj.1
      simpa using h2
    · rintro h1 rfl
      exact h1 rfl
  go_enter Try.func103, Try.ntmps103
  go_wp2_with fail
  go_ret
  exact ⟨by rw [e.out]; rfl, rfl⟩
end Go.Proofs.Ytegecjilpmkamaa
