/-
  The walk of the law GfField: it answers true, at every input.
-/
import Derived.Test.YtegecjilpmkamaaFrame
namespace Go.Proofs.Ytegecjilpmkamaa
open Go.RowKit Sb

theorem mul_lit1 (fb : Nat) (a : UInt8) (w : World) (hf : FieldAt w fb) : Calls Try.prog 22 #[.pointer (some ⟨fb, 0, none⟩), bv a, .int .u8 1] w fun e w' => e = .returned (bv a) ∧ Fp fb w w' := by
  have h := mul_any fb a 1 w hf
  rw [gmul_one] at h
  exact h

theorem mul_lit0 (fb : Nat) (a : UInt8) (w : World) (hf : FieldAt w fb) : Calls Try.prog 22 #[.pointer (some ⟨fb, 0, none⟩), bv a, .int .u8 0] w fun e w' => e = .returned (.int .u8 0) ∧ Fp fb w w' := by
  have h := mul_any fb a 0 w hf
  rw [gmul_zero] at h
  exact h

theorem mul_inv1 (fb : Nat) (a : UInt8) (w : World) (hf : FieldAt w fb) (ha : a ≠ 0) : Calls Try.prog 22 #[.pointer (some ⟨fb, 0, none⟩), bv a, bv (ginv a)] w fun e w' => e = .returned (.int .u8 1) ∧ Fp fb w w' := by
  have h := mul_any fb a (ginv a) w hf
  rw [gmul_inv ha] at h
  exact h

theorem logV_ne {a : UInt8} (ha : a ≠ 0) : logV a.toNat = (glog a : Int) := by
  unfold logV
  rw [if_neg (ne_zero ha)]
  rfl

theorem exp_log1 (fb : Nat) (a : UInt8) (w : World) (hf : FieldAt w fb) (ha : a ≠ 0) : Calls Try.prog 31 #[.pointer (some ⟨fb, 0, none⟩), .int .i64 (logV a.toNat)] w fun e w' => e = .returned (bv a) ∧ Fp fb w w' := by
  have h := exp_any fb (logV a.toNat) w hf
  have e : gexpI (logV a.toNat) = a := by rw [logV_ne ha, gexpI_nat, gexp_log ha]
  rw [e] at h
  exact h

theorem div_mul1 (fb : Nat) (a b : UInt8) (w : World) (hf : FieldAt w fb) (ha : a ≠ 0) : Calls Try.prog 25 #[.pointer (some ⟨fb, 0, none⟩), bv (gmul a b), bv a] w fun e w' => e = .returned (bv b) ∧ Fp fb w w' := by
  have h := div_any fb (gmul a b) a w hf
  have e : gmul (gmul a b) (ginv a) = b := by rw [gmul_comm a b, gmul_assoc, gmul_inv ha, gmul_one]
  rw [e] at h
  exact h

set_option maxRecDepth 100000 in
set_option maxHeartbeats 2000000 in
theorem gfField_zero (a b c : UInt8) (w : World) (h1 : ((a.toNat : Int) == 0) = true) (h2 : (((a.toNat : Int) != 0) = false)) (h3 : logV a.toNat < 0) : Calls Try.prog 4 #[bv a, bv b, bv c] w fun e w' => e = .returned (.bool true) ∧ Below w.heap.size w w' := by
  go_enter Try.func4, Try.ntmps4
  go_wp2_with fail
  refine (new_any _).mono ?_
  rintro e w1 ⟨rfl, rfl⟩
  have l1 := Lw.start w
  generalize w.alloc (.cells Try.zeroCells102 102) = w1 at *
  go_wp2_with fail
  refine (mul_any _ a b _ l1.at_).mono ?_
  rintro e w2 ⟨rfl, hp⟩
  have l2 := l1.p hp
  clear l1 hp
  go_wp2_with fail
  refine (mul_any _ b a _ l2.at_).mono ?_
  rintro e w3 ⟨rfl, hp⟩
  have l3 := l2.p hp
  clear l2 hp
  rw [gmul_comm b a]
  go_wp2_with fail
  refine (mul_any _ b c _ l3.at_).mono ?_
  rintro e w4 ⟨rfl, hp⟩
  have l4 := l3.p hp
  clear l3 hp
  go_wp2_with fail
  refine (mul_any _ a (gmul b c) _ l4.at_).mono ?_
  rintro e w5 ⟨rfl, hp⟩
  have l5 := l4.p hp
  clear l4 hp
  go_wp2_with fail
  refine (mul_any _ a b _ l5.at_).mono ?_
  rintro e w6 ⟨rfl, hp⟩
  have l6 := l5.p hp
  clear l5 hp
  go_wp2_with fail
  refine (mul_any _ (gmul a b) c _ l6.at_).mono ?_
  rintro e w7 ⟨rfl, hp⟩
  have l7 := l6.p hp
  clear l6 hp
  rw [gmul_assoc a b c]
  go_wp2_with fail
  refine (add_any _ b c _).mono ?_
  rintro e w' ⟨rfl, rfl⟩
  go_wp2_with fail
  refine (mul_any _ a (b ^^^ c) _ l7.at_).mono ?_
  rintro e w8 ⟨rfl, hp⟩
  have l8 := l7.p hp
  clear l7 hp
  go_wp2_with fail
  refine (mul_any _ a b _ l8.at_).mono ?_
  rintro e w9 ⟨rfl, hp⟩
  have l9 := l8.p hp
  clear l8 hp
  go_wp2_with fail
  refine (mul_any _ a c _ l9.at_).mono ?_
  rintro e w10 ⟨rfl, hp⟩
  have l10 := l9.p hp
  clear l9 hp
  go_wp2_with fail
  refine (add_any _ (gmul a b) (gmul a c) _).mono ?_
  rintro e w' ⟨rfl, rfl⟩
  rw [← gmul_xor a b c]
  go_wp2_with fail
  refine (mul_lit1 _ a _ l10.at_).mono ?_
  rintro e w11 ⟨rfl, hp⟩
  have l11 := l10.p hp
  clear l10 hp
  go_wp2_with fail
  refine (mul_lit0 _ a _ l11.at_).mono ?_
  rintro e w12 ⟨rfl, hp⟩
  have l12 := l11.p hp
  clear l11 hp
  go_wp2_with fail
  refine (log_any _ a _ l12.at_).mono ?_
  rintro e w13 ⟨rfl, hp⟩
  have l13 := l12.p hp
  clear l12 hp
  go_wp2_with fail
  refine (one4_any _).mono ?_
  rintro e w14 ⟨rfl, hp⟩
  have l14 := l13.k hp
  clear l13 hp
  go_wp2_with fail
  go_ret
  exact ⟨rfl, l14.below⟩

set_option maxRecDepth 100000 in
set_option maxHeartbeats 2000000 in
theorem gfField_ne (a b c : UInt8) (w : World) (HA : Hid (a ≠ 0)) (h1 : ((a.toNat : Int) == 0) = false) (h2 : (((a.toNat : Int) != 0) = true)) (h3 : decide (logV a.toNat < 0) = false) : Calls Try.prog 4 #[bv a, bv b, bv c] w fun e w' => e = .returned (.bool true) ∧ Below w.heap.size w w' := by
  go_enter Try.func4, Try.ntmps4
  go_wp2_with fail
  refine (new_any _).mono ?_
  rintro e w1 ⟨rfl, rfl⟩
  have l1 := Lw.start w
  generalize w.alloc (.cells Try.zeroCells102 102) = w1 at *
  go_wp2_with fail
  refine (mul_any _ a b _ l1.at_).mono ?_
  rintro e w2 ⟨rfl, hp⟩
  have l2 := l1.p hp
  clear l1 hp
  go_wp2_with fail
  refine (mul_any _ b a _ l2.at_).mono ?_
  rintro e w3 ⟨rfl, hp⟩
  have l3 := l2.p hp
  clear l2 hp
  rw [gmul_comm b a]
  go_wp2_with fail
  refine (mul_any _ b c _ l3.at_).mono ?_
  rintro e w4 ⟨rfl, hp⟩
  have l4 := l3.p hp
  clear l3 hp
  go_wp2_with fail
  refine (mul_any _ a (gmul b c) _ l4.at_).mono ?_
  rintro e w5 ⟨rfl, hp⟩
  have l5 := l4.p hp
  clear l4 hp
  go_wp2_with fail
  refine (mul_any _ a b _ l5.at_).mono ?_
  rintro e w6 ⟨rfl, hp⟩
  have l6 := l5.p hp
  clear l5 hp
  go_wp2_with fail
  refine (mul_any _ (gmul a b) c _ l6.at_).mono ?_
  rintro e w7 ⟨rfl, hp⟩
  have l7 := l6.p hp
  clear l6 hp
  rw [gmul_assoc a b c]
  go_wp2_with fail
  refine (add_any _ b c _).mono ?_
  rintro e w' ⟨rfl, rfl⟩
  go_wp2_with fail
  refine (mul_any _ a (b ^^^ c) _ l7.at_).mono ?_
  rintro e w8 ⟨rfl, hp⟩
  have l8 := l7.p hp
  clear l7 hp
  go_wp2_with fail
  refine (mul_any _ a b _ l8.at_).mono ?_
  rintro e w9 ⟨rfl, hp⟩
  have l9 := l8.p hp
  clear l8 hp
  go_wp2_with fail
  refine (mul_any _ a c _ l9.at_).mono ?_
  rintro e w10 ⟨rfl, hp⟩
  have l10 := l9.p hp
  clear l9 hp
  go_wp2_with fail
  refine (add_any _ (gmul a b) (gmul a c) _).mono ?_
  rintro e w' ⟨rfl, rfl⟩
  rw [← gmul_xor a b c]
  go_wp2_with fail
  refine (mul_lit1 _ a _ l10.at_).mono ?_
  rintro e w11 ⟨rfl, hp⟩
  have l11 := l10.p hp
  clear l10 hp
  go_wp2_with fail
  refine (mul_lit0 _ a _ l11.at_).mono ?_
  rintro e w12 ⟨rfl, hp⟩
  have l12 := l11.p hp
  clear l11 hp
  go_wp2_with fail
  refine (inv_any _ a _ l12.at_).mono ?_
  rintro e w13 ⟨rfl, hp⟩
  have l13 := l12.q hp
  clear l12 hp
  go_wp2_with fail
  refine (mul_inv1 _ a _ l13.at_ HA.out).mono ?_
  rintro e w14 ⟨rfl, hp⟩
  have l14 := l13.p hp
  clear l13 hp
  go_wp2_with fail
  refine (log_any _ a _ l14.at_).mono ?_
  rintro e w15 ⟨rfl, hp⟩
  have l15 := l14.p hp
  clear l14 hp
  go_wp2_with fail
  refine (exp_log1 _ a _ l15.at_ HA.out).mono ?_
  rintro e w16 ⟨rfl, hp⟩
  have l16 := l15.p hp
  clear l15 hp
  go_wp2_with fail
  refine (mul_any _ a b _ l16.at_).mono ?_
  rintro e w17 ⟨rfl, hp⟩
  have l17 := l16.p hp
  clear l16 hp
  go_wp2_with fail
  refine (div_mul1 _ a b _ l17.at_ HA.out).mono ?_
  rintro e w18 ⟨rfl, hp⟩
  have l18 := l17.p hp
  clear l17 hp
  go_wp2_with fail
  refine (log_any _ a _ l18.at_).mono ?_
  rintro e w19 ⟨rfl, hp⟩
  have l19 := l18.p hp
  clear l18 hp
  go_wp2_with fail
  refine (one4_any _).mono ?_
  rintro e w20 ⟨rfl, hp⟩
  have l20 := l19.k hp
  clear l19 hp
  go_wp2_with fail
  go_ret
  exact ⟨rfl, l20.below⟩

theorem gfField_walk (a b c : UInt8) (w : World) : Calls Try.prog 4 #[bv a, bv b, bv c] w fun e w' => e = .returned (.bool true) ∧ Below w.heap.size w w' := by
  by_cases ha : a = 0
  · subst ha
    exact gfField_zero 0 b c w rfl rfl (by decide)
  · have h := bne0 ha
    refine gfField_ne a b c w ha h ?_ ?_
    · show (!((a.toNat : Int) == 0)) = true
      rw [h]
      rfl
    · rw [logV_ne ha]
      simp
end Go.Proofs.Ytegecjilpmkamaa
