/-
  Plain: sums over the field; what a product of matrices has at a place.
-/
import Derived.Test.YtegecjilpmkamaaOm
namespace Go.Proofs.Ytegecjilpmkamaa
open Go.RowKit Sb

/-- f 0 + .. + f (n - 1). -/
def xsum : Nat → (Nat → UInt8) → UInt8
  | 0, _ => 0
  | n + 1, f => xsum n f ^^^ f n

theorem xsum_congr {n : Nat} {f h : Nat → UInt8} (e : ∀ i, i < n → f i = h i) : xsum n f = xsum n h := by
  induction n with
  | zero => rfl
  | succ n ih => rw [xsum, xsum, ih (fun i hi => e i (by omega)), e n (by omega)]

theorem xsum_head (n : Nat) (f : Nat → UInt8) : xsum (n + 1) f = f 0 ^^^ xsum n (fun i => f (i + 1)) := by
  induction n with
  | zero => rw [xsum, xsum, xsum, UInt8.zero_xor, UInt8.xor_zero]
  | succ n ih => rw [xsum, ih, xsum, UInt8.xor_assoc]

theorem rowOf_head (n : Nat) (f : Nat → UInt8) : rowOf (n + 1) f = f 0 :: rowOf n (fun i => f (i + 1)) := by
  unfold rowOf
  rw [List.range_succ_eq_map, List.map_cons, List.map_map]
  rfl

theorem gdot_rowOf (n : Nat) : ∀ f h : Nat → UInt8, gdot (rowOf n f) (rowOf n h) = xsum n (fun k => gmul (f k) (h k)) := by
  induction n with
  | zero => intro f h; rfl
  | succ n ih => intro f h; rw [rowOf_head, rowOf_head, gdot, ih, xsum_head]

/-- What the product has at a place. -/
def mulE (K : Nat) (A B : Nat → Nat → UInt8) (i j : Nat) : UInt8 := xsum K (fun k => gmul (A i k) (B k j))

/-- One number of an own matrix is written. -/
theorem Fl.set_ {N : Nat} {w : World} {g : Nat} {G : Nat → Nat} {n c i l : Nat} {F : Nat → Nat → UInt8} (h : Fl N w g G n c (fun i => rowOf c (F i))) (hi : i < n) (hl : l < c) (x : UInt8) :
    Fl N (w.setCell ⟨G i, l, none⟩ (bv x)) g G n c (fun i' => rowOf c (fun l' => if i' = i ∧ l' = l then x else F i' l')) := by
  obtain ⟨h1, cs, h2, h3, h4, h5⟩ := h
  have hgi := (h4 i hi).2.2.1
  refine ⟨h1, cs, h2.far (p := ⟨G i, l, none⟩) (Ne.symm (Blk.ne_ hgi h2 (by decide))) _, h3, fun j hj => ?_, h5⟩
  obtain ⟨q1, q2, q3, q4⟩ := h4 j hj
  refine ⟨q1, q2, ?_, by simp⟩
  by_cases hji : j = i
  · subst hji
    have h6 := q3.set_ l (bv x)
    rw [bcells_set] at h6
    have e : (rowOf c (F j)).set l x = rowOf c (fun l' => if j = j ∧ l' = l then x else F j l') := by
      apply List.ext_getElem?
      intro q
      by_cases hq : q < c
      · rw [rowOf_get _ hq]
        by_cases hql : q = l
        · subst hql
          rw [List.getElem?_set_self (by rw [rowOf_len]; omega), if_pos ⟨rfl, rfl⟩]
        · rw [List.getElem?_set_ne (fun e => hql e.symm), rowOf_get _ hq, if_neg (fun e => hql e.2)]
      · rw [List.getElem?_eq_none (by rw [List.length_set, rowOf_len]; omega), List.getElem?_eq_none (by rw [rowOf_len]; omega)]
    dsimp only
    rw [← e]
    exact h6
  · have e : rowOf c (fun l' => if j = i ∧ l' = l then x else F j l') = rowOf c (F j) := rowOf_congr (fun l' _ => by rw [if_neg (fun e => hji e.1)])
    dsimp only
    rw [e]
    exact q3.far (p := ⟨G i, l, none⟩) (h5 j i hj hi hji) _

theorem Fl.congr {N : Nat} {w : World} {g : Nat} {G : Nat → Nat} {n c : Nat} {F F' : Nat → Nat → UInt8} (h : Fl N w g G n c (fun i => rowOf c (F i))) (e : ∀ i l, i < n → l < c → F i l = F' i l) : Fl N w g G n c (fun i => rowOf c (F' i)) := by
  obtain ⟨h1, cs, h2, h3, h4, h5⟩ := h
  refine ⟨h1, cs, h2, h3, fun j hj => ?_, h5⟩
  obtain ⟨q1, q2, q3, q4⟩ := h4 j hj
  refine ⟨q1, q2, ?_, by simp⟩
  dsimp only
  rw [← rowOf_congr (fun l hl => e j l hj hl)]
  exact q3

theorem Fl.keep {N : Nat} {S : Nat → Prop} {w w' : World} {g : Nat} {G : Nat → Nat} {n c : Nat} {f : Nat → List UInt8} (h : Fl N w g G n c f) (hk : Keep S w w') (hs : ∀ b, b < w.heap.size → N ≤ b → ¬ S b) : Fl N w' g G n c f := by
  obtain ⟨h1, cs, h2, h3, h4, h5⟩ := h
  refine ⟨h1, cs, h2.keep hk (hs g h2.lt h1), h3, fun j hj => ?_, h5⟩
  obtain ⟨q1, q2, q3, q4⟩ := h4 j hj
  exact ⟨q1, q2, q3.keep hk (hs _ q3.lt q2), q4⟩

theorem Fl.old {N M : Nat} {w : World} {g : Nat} {G : Nat → Nat} {n c : Nat} {f : Nat → List UInt8} (h : Fl N w g G n c f) (hM : M ≤ N) : Fl M w g G n c f := by
  obtain ⟨h1, cs, h2, h3, h4, h5⟩ := h
  exact ⟨by omega, cs, h2, h3, fun j hj => by obtain ⟨q1, q2, q3⟩ := h4 j hj; exact ⟨q1, by omega, q3⟩, h5⟩
end Go.Proofs.Ytegecjilpmkamaa
