/-
  Plain: what Back computes turns a matrix back; and where it stops the rank is less.
-/
import Derived.Test.YtegecjilpmkamaaGauss
import Derived.Test.YtegecjilpmkamaaBackw
namespace Go.Proofs.Ytegecjilpmkamaa
open Sb

/-- How the wide matrix stands, where k columns are done. -/
structure Bst (n : Nat) (F : Nat → Nat → UInt8) (k : Nat) (E : Nat → Nat → UInt8) : Prop where
  rows : RowEq n (n + n) (wideE n F) E
  unit : ∀ i j, i < n → j < k → E i j = idE i j

theorem Bst.start (n : Nat) (F : Nat → Nat → UInt8) : Bst n F 0 (wideE n F) := ⟨RowEq.refl _ _ _, fun _ j _ h => absurd h (Nat.not_lt_zero j)⟩

theorem Bst.step {n k j : Nat} {F E : Nat → Nat → UInt8} (h : Bst n F k E) (hk : k < n) (hs : sinkAt E n k k = (j : Int)) : Bst n F (k + 1) (sinkE E k (k + j) k true) := by
  obtain ⟨hp, hne⟩ := sinkAt_some hs
  refine ⟨h.rows.trans (sinkE_rows E true hk hp hne _), fun i l hi hl => ?_⟩
  by_cases e : l = k
  · subst e
    by_cases hik : i = l
    · rw [hik, sinkE_one _ _ _ _ _ hne, idE_self]
    · rw [sinkE_zero _ _ _ _ _ (.inr ⟨rfl, hik⟩) hne, idE_ne hik]
  · have hlk : l < k := by omega
    have hpl : E (k + j) l = 0 := by rw [h.unit (k + j) l hp hlk, idE_ne (by omega)]
    by_cases hik : i = k
    · rw [hik, sinkE_a, hpl, zero_gmul, idE_ne (by omega)]
    · rw [sinkE_on E k (k + j) k true (.inr ⟨rfl, hik⟩), hpl, zero_gmul, zero_gmul, UInt8.xor_zero]
      by_cases hip : i = k + j
      · rw [if_pos hip, h.unit k l hk hlk, idE_ne (by omega), idE_ne (by omega)]
      · rw [if_neg hip, h.unit i l hi hlk]

/-- Where no row has another number than 0 in the next column, the columns hang on one another. -/
theorem Bst.fail {n k : Nat} {F E : Nat → Nat → UInt8} (h : Bst n F k E) (hk : k < n) (hs : sinkAt E n k k < 0) : mrank n n F < n := by
  obtain ⟨P, Q, h1, h2, h3, h4⟩ := h.rows
  have hz := sinkAt_neg hs
  have key : ∀ i, i < n → xsum n (fun j => gmul (F i j) (if j < k then E j k else idE k j)) = 0 := by
    intro i hi
    have e1 : ∀ j, j < n → F i j = mulE n P E i j := fun j hj => by rw [h4 i j hi (by omega), wideE, if_pos hj]
    have e2 : xsum n (fun j => gmul (F i j) (if j < k then E j k else idE k j)) = mulE n (mulE n P E) (fun j _ => if j < k then E j k else idE k j) i 0 := xsum_congr (fun j hj => by rw [e1 j hj])
    rw [e2, mulE_assoc, mulE]
    refine xsum_zero (fun l hl => ?_)
    have e3 : mulE n E (fun j _ => if j < k then E j k else idE k j) l 0 = 0 := by
      rw [mulE]
      have e4 : xsum n (fun j => gmul (E l j) (if j < k then E j k else idE k j)) = xsum n (fun j => gmul (if j < k then idE l j else 0) (E j k)) ^^^ xsum n (fun j => gmul (E l j) (idE j k)) := by
        rw [← xsum_xor]
        refine xsum_congr (fun j hj => ?_)
        by_cases hjk : j < k
        · rw [if_pos hjk, if_pos hjk, h.unit l j hl hjk, idE_ne (show j ≠ k by omega), gmul_zero, UInt8.xor_zero]
        · rw [if_neg hjk, if_neg hjk, zero_gmul, UInt8.zero_xor]
          by_cases e : j = k
          · rw [e]
          · rw [idE_ne e, idE_ne (fun e' => e e'.symm)]
      have e5 : xsum n (fun j => gmul (E l j) (idE j k)) = E l k := mulE_id' E l hk
      rw [e4, e5]
      by_cases hlk : l < k
      · rw [xsum_single hl (fun j _ hjl => ?_), if_pos hlk, idE_self, one_gmul, UInt8.xor_self]
        split
        · rw [idE_ne (fun e => hjl e.symm), zero_gmul]
        · rw [zero_gmul]
      · rw [hz l (by omega) hl, UInt8.xor_zero]
        refine xsum_zero (fun j _ => ?_)
        split
        · rw [idE_ne (by omega), zero_gmul]
        · rw [zero_gmul]
    rw [e3, gmul_zero]
  rw [← mrank_tr]
  refine lt_of_kernel (v := fun j => if j < k then E j k else idE k j) (i := k) hk ?_ (fun i hi => ?_)
  · rw [if_neg (Nat.lt_irrefl k), idE_self]
    decide
  · rw [← key i hi]
    exact xsum_congr (fun j _ => gmul_comm _ _)

/-- Where all columns are done, what stands behind turns back, both ways round. -/
theorem Bst.done {n : Nat} {F E : Nat → Nat → UInt8} (h : Bst n F n E) : Eqm n n (mulE n F (fun i j => E i (n + j))) idE ∧ Eqm n n (mulE n (fun i j => E i (n + j)) F) idE := by
  obtain ⟨P, Q, h1, h2, h3, h4⟩ := h.rows
  have eP : Eqm n n P F := fun i j hi hj => by
    have e := h4 i j hi (by omega)
    rw [wideE, if_pos hj] at e
    rw [← e, ← mulE_id' P i hj, mulE, mulE]
    exact xsum_congr (fun l hl => by rw [h.unit l j hl hj])
  have eQ : Eqm n n Q (fun i j => E i (n + j)) := fun i j hi hj => by
    have e := h3 i (n + j) hi (by omega)
    dsimp only
    rw [← e, ← mulE_id' Q i hj, mulE, mulE]
    exact xsum_congr (fun l _ => by rw [wideE, if_neg (by omega), Nat.add_sub_cancel_left])
  exact ⟨(eP.symm.mul eQ.symm).trans h1, (eQ.symm.mul eP.symm).trans h2⟩
end Go.Proofs.Ytegecjilpmkamaa
