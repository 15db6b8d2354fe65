/-
  Plain: the matrix of powers of unlike numbers has full rank; of numbers of which two are alike it has less; what it makes of a polynomial's numbers.
-/
import Derived.Test.YtegecjilpmkamaaCau
import Derived.Test.YtegecjilpmkamaaEval
namespace Go.Proofs.Ytegecjilpmkamaa
open Sb

/-- A polynomial without its value at a, divided by x - a. -/
def syn (a : UInt8) : List UInt8 → List UInt8
  | [] => []
  | [_] => []
  | _ :: d :: ds => peval a (d :: ds) :: syn a (d :: ds)

theorem syn_len (a : UInt8) : ∀ xs, (syn a xs).length = xs.length - 1
  | [] => rfl
  | [_] => rfl
  | _ :: d :: ds => by
    rw [syn, List.length_cons, syn_len a (d :: ds)]
    simp

theorem syn_eval (a x : UInt8) : ∀ xs, peval x xs ^^^ peval a xs = gmul (peval x (syn a xs)) (x ^^^ a)
  | [] => by
    show (0 : UInt8) ^^^ 0 = gmul 0 (x ^^^ a)
    rw [zero_gmul, UInt8.xor_self]
  | [c] => by
    rw [syn]
    show (gmul 0 x ^^^ c) ^^^ (gmul 0 a ^^^ c) = gmul 0 (x ^^^ a)
    rw [zero_gmul, zero_gmul, zero_gmul, UInt8.xor_self]
  | c :: d :: ds => by
    have ih := syn_eval a x (d :: ds)
    rw [syn]
    show (gmul (peval x (d :: ds)) x ^^^ c) ^^^ (gmul (peval a (d :: ds)) a ^^^ c) = gmul (gmul (peval x (syn a (d :: ds))) x ^^^ peval a (d :: ds)) (x ^^^ a)
    generalize peval x (d :: ds) = px at *
    generalize peval a (d :: ds) = pa at *
    have e : px = gmul (peval x (syn a (d :: ds))) (x ^^^ a) ^^^ pa := by rw [← ih, UInt8.xor_assoc, UInt8.xor_self, UInt8.xor_zero]
    rw [xor_gmul (gmul _ x), gmul_assoc, gmul_comm x (x ^^^ a), ← gmul_assoc, xor4', UInt8.xor_self, UInt8.xor_zero]
    generalize gmul (peval x (syn a (d :: ds))) (x ^^^ a) = q at *
    rw [e, xor_gmul, gmul_xor, UInt8.xor_assoc]

theorem syn_zero (a : UInt8) : ∀ xs, peval a xs = 0 → (∀ c ∈ syn a xs, c = 0) → ∀ c ∈ xs, c = 0
  | [], _, _ => fun c hc => by cases hc
  | [d], h, _ => fun c hc => by
    rw [List.mem_singleton] at hc
    rw [peval, peval, zero_gmul, UInt8.zero_xor] at h
    rw [hc, h]
  | b :: d :: ds, h, hs => fun c hc => by
    rw [syn] at hs
    have h1 : peval a (d :: ds) = 0 := hs _ (by simp)
    have h2 := syn_zero a (d :: ds) h1 (fun c hc => hs c (by simp [hc]))
    rcases List.mem_cons.1 hc with rfl | hc
    · have h3 : gmul (peval a (d :: ds)) a ^^^ c = 0 := h
      rw [h1, zero_gmul, UInt8.zero_xor] at h3
      exact h3
    · exact h2 c hc

/-- A polynomial that is 0 at as many numbers as it has has only zeros. -/
theorem poly_zero : ∀ (pts xs : List UInt8), pts.Nodup → xs.length ≤ pts.length → (∀ x ∈ pts, peval x xs = 0) → ∀ c ∈ xs, c = 0 := by
  intro pts
  induction pts with
  | nil =>
    intro xs _ hl _ c hc
    have : xs = [] := List.length_eq_zero_iff.1 (by simpa using hl)
    subst this
    cases hc
  | cons a pts ih =>
    intro xs hnd hl hz
    rw [List.nodup_cons] at hnd
    refine syn_zero a xs (hz a (by simp)) (ih (syn a xs) hnd.2 ?_ (fun x hx => ?_))
    · rw [syn_len]
      simp at hl
      omega
    · have h1 := syn_eval a x xs
      rw [hz x (by simp [hx]), hz a (by simp), UInt8.xor_self] at h1
      exact gmul_eq_zero h1.symm (xor_ne (fun e => hnd.1 (e ▸ hx)))

theorem psum_row (x : UInt8) (n : Nat) : ∀ (i : Nat) (f : Nat → UInt8), xsum n (fun j => gmul (f j) (gpow x (i + j))) = psum x i (rowOf n f) := by
  induction n with
  | zero => intro i f; rfl
  | succ n ih =>
    intro i f
    rw [xsum_head, rowOf_head, psum, ← ih (i + 1) (fun j => f (j + 1)), Nat.add_zero]
    congr 1
    exact xsum_congr (fun j _ => by rw [Nat.add_right_comm, Nat.add_assoc])

theorem pow_eval (x : UInt8) (n : Nat) (f : Nat → UInt8) : xsum n (fun j => gmul (f j) (gpow x j)) = peval x (rowOf n f) := by
  rw [← psum_zero, ← psum_row x n 0 f]
  exact xsum_congr (fun j _ => by rw [Nat.zero_add])

/-- The numbers of the matrix of powers. -/
def powE (xs : List UInt8) (i j : Nat) : UInt8 := gpow (xs.getD i 0) j

theorem van_rank {n : Nat} {xs : List UInt8} (hl : xs.length = n) (hnd : xs.Nodup) : mrank n n (powE xs) = n := by
  apply Classical.byContradiction
  intro hne
  have h1 : mrank n n (trE (powE xs)) < n := by
    rw [mrank_tr]
    have := mrank_le n n (powE xs)
    omega
  obtain ⟨v, ⟨k, hk, hv⟩, hker⟩ := kernel_of_lt h1
  have h2 := poly_zero xs (rowOf n v) hnd (by rw [rowOf_len]; omega) (fun x hx => by
    obtain ⟨i, hi, rfl⟩ := List.getElem_of_mem hx
    rw [← pow_eval, ← hker i (by omega)]
    refine xsum_congr (fun j _ => ?_)
    unfold trE powE
    simp [hi])
  exact hv (h2 (v k) (List.mem_of_getElem? (rowOf_get v hk)))

theorem van_less {n i k : Nat} {xs : List UInt8} (hi : i < n) (hk : k < n) (hne : i ≠ k) (e : xs.getD i 0 = xs.getD k 0) : mrank n n (powE xs) < n := by
  refine lt_of_kernel (v := fun t => idE i t ^^^ idE k t) (i := i) hi ?_ (fun j hj => ?_)
  · rw [idE_self, idE_ne (fun e => hne e.symm)]
    decide
  · rw [xsum_congr (h := fun t => gmul (idE i t) (powE xs t j) ^^^ gmul (idE k t) (powE xs t j)) (fun t _ => xor_gmul _ _ _), xsum_xor]
    have e1 := mulE_id (powE xs) j hi
    have e2 := mulE_id (powE xs) j hk
    unfold mulE at e1 e2
    rw [e1, e2]
    unfold powE
    rw [e, UInt8.xor_self]

theorem van_eval (xs p : List UInt8) (i : Nat) : xsum p.length (fun k => gmul (powE xs i k) (p.getD k 0)) = peval (xs.getD i 0) p := by
  have e : rowOf p.length (fun k => p.getD k 0) = p := by
    apply List.ext_getElem?
    intro j
    by_cases h : j < p.length
    · rw [rowOf_get _ h]
      simp [h]
    · rw [List.getElem?_eq_none (by rw [rowOf_len]; omega), List.getElem?_eq_none (by omega)]
  conv => rhs; rw [← e]
  rw [← pow_eval]
  exact xsum_congr (fun k _ => gmul_comm _ _)
end Go.Proofs.Ytegecjilpmkamaa
