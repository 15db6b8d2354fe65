/-
  Plain: matrices over the field, as functions of row and column: products, and row operations, that can be undone.
-/
import Derived.Test.YtegecjilpmkamaaXs
namespace Go.Proofs.Ytegecjilpmkamaa
open Sb

theorem xsum_zero {n : Nat} {f : Nat → UInt8} (h : ∀ i, i < n → f i = 0) : xsum n f = 0 := by
  induction n with
  | zero => rfl
  | succ n ih => rw [xsum, ih (fun i hi => h i (by omega)), h n (by omega), UInt8.zero_xor]

theorem xor4' (a b c d : UInt8) : (a ^^^ b) ^^^ (c ^^^ d) = (a ^^^ c) ^^^ (b ^^^ d) := by
  rw [UInt8.xor_assoc, ← UInt8.xor_assoc b c d, UInt8.xor_comm b c, UInt8.xor_assoc c b d, ← UInt8.xor_assoc]

theorem xsum_xor (n : Nat) (f h : Nat → UInt8) : xsum n (fun k => f k ^^^ h k) = xsum n f ^^^ xsum n h := by
  induction n with
  | zero => exact (UInt8.xor_zero (a := 0)).symm
  | succ n ih => rw [xsum, xsum, xsum, ih, xor4']

theorem xsum_mul (n : Nat) (f : Nat → UInt8) (x : UInt8) : gmul (xsum n f) x = xsum n (fun k => gmul (f k) x) := by
  induction n with
  | zero => exact zero_gmul x
  | succ n ih => rw [xsum, xsum, xor_gmul, ih]

theorem mul_xsum (n : Nat) (f : Nat → UInt8) (x : UInt8) : gmul x (xsum n f) = xsum n (fun k => gmul x (f k)) := by
  induction n with
  | zero => exact gmul_zero x
  | succ n ih => rw [xsum, xsum, gmul_xor, ih]

theorem xsum_comm (n m : Nat) (f : Nat → Nat → UInt8) : xsum n (fun i => xsum m (f i)) = xsum m (fun j => xsum n (fun i => f i j)) := by
  induction n with
  | zero => exact (xsum_zero (fun _ _ => rfl)).symm
  | succ n ih =>
    rw [xsum, ih, ← xsum_xor]
    exact xsum_congr (fun j _ => rfl)

theorem xsum_single {n i : Nat} {f : Nat → UInt8} (hi : i < n) (h : ∀ k, k < n → k ≠ i → f k = 0) : xsum n f = f i := by
  induction n with
  | zero => omega
  | succ n ih =>
    rw [xsum]
    by_cases e : i = n
    · subst e
      rw [xsum_zero (fun k hk => h k (by omega) (by omega)), UInt8.zero_xor]
    · rw [ih (by omega) (fun k hk => h k (by omega)), h n (by omega) (by omega), UInt8.xor_zero]

theorem xsum_cut {n r : Nat} {f : Nat → UInt8} (hr : r ≤ n) (h : ∀ k, r ≤ k → k < n → f k = 0) : xsum n f = xsum r f := by
  induction n with
  | zero =>
    have : r = 0 := by omega
    rw [this]
  | succ n ih =>
    by_cases e : r = n + 1
    · rw [e]
    · rw [xsum, ih (by omega) (fun k h1 h2 => h k h1 (by omega)), h n (by omega) (by omega), UInt8.xor_zero]

/-- The numbers of the matrix that changes nothing. -/
def idE (i j : Nat) : UInt8 := if i = j then 1 else 0
theorem idE_self (i : Nat) : idE i i = 1 := if_pos rfl
theorem idE_ne {i j : Nat} (h : i ≠ j) : idE i j = 0 := if_neg h

theorem mulE_id {n i : Nat} (F : Nat → Nat → UInt8) (j : Nat) (hi : i < n) : mulE n idE F i j = F i j := by
  rw [mulE, xsum_single hi (fun k _ hk => by rw [idE_ne (fun e => hk e.symm), zero_gmul]), idE_self, one_gmul]
theorem mulE_id' {n j : Nat} (F : Nat → Nat → UInt8) (i : Nat) (hj : j < n) : mulE n F idE i j = F i j := by
  rw [mulE, xsum_single hj (fun k _ hk => by rw [idE_ne hk, gmul_zero]), idE_self, gmul_one]

theorem mulE_assoc (K L : Nat) (A B C : Nat → Nat → UInt8) (i j : Nat) : mulE K (mulE L A B) C i j = mulE L A (mulE K B C) i j := by
  unfold mulE
  have e1 : ∀ k, k < K → gmul (xsum L fun l => gmul (A i l) (B l k)) (C k j) = xsum L (fun l => gmul (A i l) (gmul (B l k) (C k j))) := fun k _ => by
    rw [xsum_mul]
    exact xsum_congr (fun l _ => gmul_assoc _ _ _)
  have e2 : ∀ l, l < L → gmul (A i l) (xsum K fun k => gmul (B l k) (C k j)) = xsum K (fun k => gmul (A i l) (gmul (B l k) (C k j))) := fun l _ => mul_xsum _ _ _
  rw [xsum_congr e1, xsum_congr e2, xsum_comm]

/-- Two have the same numbers, as far as n rows and c columns go. -/
def Eqm (n c : Nat) (F G : Nat → Nat → UInt8) : Prop := ∀ i j, i < n → j < c → F i j = G i j
theorem Eqm.refl (n c : Nat) (F : Nat → Nat → UInt8) : Eqm n c F F := fun _ _ _ _ => rfl
theorem Eqm.symm {n c : Nat} {F G : Nat → Nat → UInt8} (h : Eqm n c F G) : Eqm n c G F := fun i j hi hj => (h i j hi hj).symm
theorem Eqm.trans {n c : Nat} {F G H : Nat → Nat → UInt8} (h : Eqm n c F G) (k : Eqm n c G H) : Eqm n c F H := fun i j hi hj => (h i j hi hj).trans (k i j hi hj)
theorem Eqm.mul {n c K : Nat} {A A' B B' : Nat → Nat → UInt8} (h : Eqm n K A A') (k : Eqm K c B B') : Eqm n c (mulE K A B) (mulE K A' B') := fun i j hi hj =>
  xsum_congr (fun l hl => by rw [h i l hi hl, k l j hl hj])
theorem Eqm.assoc (n c K L : Nat) (A B C : Nat → Nat → UInt8) : Eqm n c (mulE K (mulE L A B) C) (mulE L A (mulE K B C)) := fun i j _ _ => mulE_assoc K L A B C i j
theorem Eqm.id_ (n c : Nat) (F : Nat → Nat → UInt8) : Eqm n c (mulE n idE F) F := fun _ j hi _ => mulE_id F j hi
theorem Eqm.id_' (n c : Nat) (F : Nat → Nat → UInt8) : Eqm n c (mulE c F idE) F := fun i _ _ hj => mulE_id' F i hj

/-- The rows of E come of those of F, and those of F of those of E, by matrices that undo one another. -/
def RowEq (n c : Nat) (F E : Nat → Nat → UInt8) : Prop :=
  ∃ P Q, Eqm n n (mulE n P Q) idE ∧ Eqm n n (mulE n Q P) idE ∧ Eqm n c (mulE n Q F) E ∧ Eqm n c (mulE n P E) F

theorem RowEq.refl (n c : Nat) (F : Nat → Nat → UInt8) : RowEq n c F F := ⟨idE, idE, Eqm.id_ _ _ _, Eqm.id_ _ _ _, Eqm.id_ _ _ _, Eqm.id_ _ _ _⟩

theorem Eqm.four {n : Nat} {A B C D : Nat → Nat → UInt8} (h1 : Eqm n n (mulE n A D) idE) (h2 : Eqm n n (mulE n B C) idE) : Eqm n n (mulE n (mulE n A B) (mulE n C D)) idE :=
  (Eqm.assoc n n n n A B (mulE n C D)).trans (((Eqm.refl n n A).mul ((Eqm.assoc n n n n B C D).symm.trans ((h2.mul (Eqm.refl n n D)).trans (Eqm.id_ n n D)))).trans h1)

theorem RowEq.trans {n c : Nat} {F E G : Nat → Nat → UInt8} (h : RowEq n c F E) (k : RowEq n c E G) : RowEq n c F G := by
  obtain ⟨P, Q, h1, h2, h3, h4⟩ := h
  obtain ⟨P', Q', k1, k2, k3, k4⟩ := k
  exact ⟨mulE n P P', mulE n Q' Q, h1.four k1, k2.four h2, (Eqm.assoc _ _ _ _ _ _ _).trans (((Eqm.refl n n Q').mul h3).trans k3), (Eqm.assoc _ _ _ _ _ _ _).trans (((Eqm.refl n n P).mul k4).trans h4)⟩

/-- An operation on rows that is undone by another. -/
theorem RowEq.op {n : Nat} (c : Nat) (T T' : (Nat → Nat → UInt8) → Nat → Nat → UInt8) (hT : ∀ c F, Eqm n c (mulE n (T idE) F) (T F)) (hT' : ∀ c F, Eqm n c (mulE n (T' idE) F) (T' F))
    (h1 : ∀ F, T (T' F) = F) (h2 : ∀ F, T' (T F) = F) (F : Nat → Nat → UInt8) : RowEq n c F (T F) := by
  refine ⟨T' idE, T idE, ?_, ?_, hT c F, ?_⟩
  · exact (hT' n (T idE)).trans (by rw [h2]; exact Eqm.refl _ _ _)
  · exact (hT n (T' idE)).trans (by rw [h1]; exact Eqm.refl _ _ _)
  · exact (hT' c (T F)).trans (by rw [h2]; exact Eqm.refl _ _ _)

/-- Row a is taken times y. -/
def timesE (a : Nat) (y : UInt8) (F : Nat → Nat → UInt8) : Nat → Nat → UInt8 := fun i j => if i = a then gmul (F a j) y else F i j
/-- Rows a and p change places. -/
def turnE (a p : Nat) (F : Nat → Nat → UInt8) : Nat → Nat → UInt8 := fun i j => if i = p then F a j else if i = a then F p j else F i j
/-- Row a, so many times, is put to each row. -/
def putE (a : Nat) (t : Nat → UInt8) (F : Nat → Nat → UInt8) : Nat → Nat → UInt8 := fun i j => F i j ^^^ gmul (F a j) (t i)

theorem times_mul {n a : Nat} (ha : a < n) (y : UInt8) (c : Nat) (F : Nat → Nat → UInt8) : Eqm n c (mulE n (timesE a y idE) F) (timesE a y F) := by
  intro i j hi _
  by_cases h : i = a
  · have e1 : timesE a y F i j = gmul (F a j) y := if_pos h
    rw [e1, ← mulE_id F j ha, mulE, mulE, xsum_mul]
    refine xsum_congr (fun k _ => ?_)
    have e2 : timesE a y idE i k = gmul (idE a k) y := if_pos h
    rw [e2, gmul_assoc, gmul_assoc, gmul_comm y]
  · have e1 : timesE a y F i j = F i j := if_neg h
    rw [e1, ← mulE_id F j hi, mulE, mulE]
    refine xsum_congr (fun k _ => ?_)
    have e2 : timesE a y idE i k = idE i k := if_neg h
    rw [e2]

theorem turn_mul {n a p : Nat} (ha : a < n) (hp : p < n) (c : Nat) (F : Nat → Nat → UInt8) : Eqm n c (mulE n (turnE a p idE) F) (turnE a p F) := by
  intro i j hi _
  unfold turnE
  by_cases h : i = p
  · rw [if_pos h, ← mulE_id F j ha, mulE, mulE]
    exact xsum_congr (fun k _ => by rw [if_pos h])
  · by_cases h' : i = a
    · rw [if_neg h, if_pos h', ← mulE_id F j hp, mulE, mulE]
      exact xsum_congr (fun k _ => by rw [if_neg h, if_pos h'])
    · rw [if_neg h, if_neg h', ← mulE_id F j hi, mulE, mulE]
      exact xsum_congr (fun k _ => by rw [if_neg h, if_neg h'])

theorem put_mul {n a : Nat} (ha : a < n) (t : Nat → UInt8) (c : Nat) (F : Nat → Nat → UInt8) : Eqm n c (mulE n (putE a t idE) F) (putE a t F) := by
  intro i j hi _
  have e : putE a t F i j = F i j ^^^ gmul (F a j) (t i) := rfl
  rw [e, ← mulE_id F j hi, ← mulE_id F j ha, mulE, mulE, mulE, xsum_mul, ← xsum_xor]
  refine xsum_congr (fun k _ => ?_)
  have e2 : putE a t idE i k = idE i k ^^^ gmul (idE a k) (t i) := rfl
  rw [e2, xor_gmul, gmul_assoc, gmul_assoc, gmul_comm (t i)]

theorem turn_turn (a p : Nat) (F : Nat → Nat → UInt8) : turnE a p (turnE a p F) = F := by
  funext i j
  unfold turnE
  by_cases h : i = p
  · rw [if_pos h]
    by_cases h2 : a = p
    · rw [if_pos h2, h, h2]
    · rw [if_neg h2, if_pos rfl, h]
  · by_cases h' : i = a
    · rw [if_neg h, if_pos h', if_pos rfl, h']
    · rw [if_neg h, if_neg h', if_neg h, if_neg h']

theorem times_times (a : Nat) (y z : UInt8) (h : gmul y z = 1) (F : Nat → Nat → UInt8) : timesE a z (timesE a y F) = F := by
  funext i j
  unfold timesE
  by_cases h' : i = a
  · rw [if_pos h', if_pos rfl, gmul_assoc, h, gmul_one, h']
  · rw [if_neg h', if_neg h']

theorem put_put (a : Nat) (t : Nat → UInt8) (h : t a = 0) (F : Nat → Nat → UInt8) : putE a t (putE a t F) = F := by
  funext i j
  unfold putE
  rw [h, gmul_zero, UInt8.xor_zero, UInt8.xor_assoc, UInt8.xor_self, UInt8.xor_zero]

theorem RowEq.turn {n a p : Nat} (ha : a < n) (hp : p < n) (c : Nat) (F : Nat → Nat → UInt8) : RowEq n c F (turnE a p F) :=
  RowEq.op c (turnE a p) (turnE a p) (turn_mul ha hp) (turn_mul ha hp) (turn_turn a p) (turn_turn a p) F
theorem RowEq.times {n a : Nat} (ha : a < n) {y : UInt8} (hy : y ≠ 0) (c : Nat) (F : Nat → Nat → UInt8) : RowEq n c F (timesE a y F) :=
  RowEq.op c (timesE a y) (timesE a (ginv y)) (times_mul ha y) (times_mul ha (ginv y)) (times_times a (ginv y) y (ginv_gmul hy)) (times_times a y (ginv y) (gmul_inv hy)) F
theorem RowEq.put {n a : Nat} (ha : a < n) {t : Nat → UInt8} (ht : t a = 0) (c : Nat) (F : Nat → Nat → UInt8) : RowEq n c F (putE a t F) :=
  RowEq.op c (putE a t) (putE a t) (put_mul ha t) (put_mul ha t) (put_put a t ht) (put_put a t ht) F

/-- The rows, so many times each, come to nothing. -/
def LK (n c : Nat) (F : Nat → Nat → UInt8) (v : Nat → UInt8) : Prop := ∀ j, j < c → xsum n (fun i => gmul (v i) (F i j)) = 0
theorem LK.congr {n c : Nat} {F G : Nat → Nat → UInt8} {v : Nat → UInt8} (h : LK n c F v) (e : Eqm n c F G) : LK n c G v := fun j hj => by
  rw [← h j hj]
  exact xsum_congr (fun i hi => by rw [e i j hi hj])
/-- What is so for a matrix is so for its product with another. -/
theorem LK.mul {n s c : Nat} {X B : Nat → Nat → UInt8} {v : Nat → UInt8} (h : LK n s X v) : LK n c (mulE s X B) v := fun j _ => by
  have e := mulE_assoc s n (fun _ => v) X B 0 j
  have e2 : mulE n (fun _ => v) (mulE s X B) 0 j = xsum n (fun i => gmul (v i) (mulE s X B i j)) := rfl
  rw [← e2, ← e, mulE]
  exact xsum_zero (fun k hk => by
    have e3 : mulE n (fun _ => v) X 0 k = xsum n (fun i => gmul (v i) (X i k)) := rfl
    rw [e3, h k hk, zero_gmul])
end Go.Proofs.Ytegecjilpmkamaa
