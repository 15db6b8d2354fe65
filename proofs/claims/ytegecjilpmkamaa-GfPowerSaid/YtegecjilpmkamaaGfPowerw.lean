/-
  The walk of the law GfPower: it answers true, at every input.
-/
import Derived.Test.YtegecjilpmkamaaFrame
namespace Go.Proofs.Ytegecjilpmkamaa
open Go.RowKit Sb

theorem gpowI_eq {a : UInt8} (ha : a ≠ 0) (n : Int) : gpowI a n = gexpI (glog a * n) := by
  unfold gpowI
  by_cases h : n = 0
  · subst h
    rw [if_pos rfl, Int.mul_zero]
    exact gexp_zero.symm
  · rw [if_neg h, if_neg ha]

theorem gexpI_add (x y : Int) : gmul (gexpI x) (gexpI y) = gexpI (x + y) := by
  unfold gexpI
  rw [gmul_exp]
  exact gexp_congr (by omega)

theorem gpowI_add {a : UInt8} (ha : a ≠ 0) (n m : Int) : gmul (gpowI a n) (gpowI a m) = gpowI a (n + m) := by
  rw [gpowI_eq ha, gpowI_eq ha, gpowI_eq ha, gexpI_add, Int.mul_add]

theorem gpowI_255 {a : UInt8} (ha : a ≠ 0) (n : Int) : gpowI a (n + 255) = gpowI a n := by
  rw [gpowI_eq ha, gpowI_eq ha]
  apply gexpI_congr
  rw [Int.mul_add, Int.add_mul_emod_self_right]

theorem mul_neg1 (fb : Nat) (a : UInt8) (n : Int) (w : World) (hf : FieldAt w fb) (ha : a ≠ 0) : Calls Try.prog 22 #[.pointer (some ⟨fb, 0, none⟩), bv (gpowI a n), bv (gpowI a (-n))] w fun e w' => e = .returned (.int .u8 1) ∧ Fp fb w w' := by
  have h := mul_any fb (gpowI a n) (gpowI a (-n)) w hf
  have e : gmul (gpowI a n) (gpowI a (-n)) = 1 := by rw [gpowI_add ha, Int.add_right_neg, gpowI_zero]
  rw [e] at h
  exact h

theorem power_lit0 (fb : Nat) (a : UInt8) (w : World) (hf : FieldAt w fb) : Calls Try.prog 32 #[.pointer (some ⟨fb, 0, none⟩), bv a, .int .i64 0] w fun e w' => e = .returned (.int .u8 1) ∧ Fp fb w w' := by
  have h := power_any fb a 0 w hf
  rw [gpowI_zero] at h
  exact h

theorem power_z1 (fb : Nat) (n : Int) (w : World) (hf : FieldAt w fb) (hn : n ≠ 0) : Calls Try.prog 32 #[.pointer (some ⟨fb, 0, none⟩), .int .u8 0, .int .i64 n] w fun e w' => e = .returned (.int .u8 0) ∧ Fp fb w w' := by
  have h := power_any fb 0 n w hf
  rw [gpowI_of_zero hn] at h
  exact h

theorem and_mask (n : Int) : 0 ≤ bits BinOp.and IntKind.i64 n 65535 ∧ bits BinOp.and IntKind.i64 n 65535 ≤ 65535 := by
  have h : (BitVec.ofInt 64 n &&& BitVec.ofInt 64 65535).toNat ≤ 65535 := by
    rw [BitVec.toNat_and]
    exact Nat.and_le_right
  have e : bits BinOp.and IntKind.i64 n 65535 = IntKind.i64.wrap ((BitVec.ofInt 64 n &&& BitVec.ofInt 64 65535).toNat : Int) := rfl
  rw [e, IntKind.wrap_i64]
  omega

set_option maxRecDepth 100000 in
set_option maxHeartbeats 2000000 in
theorem gfPower_zero (a : UInt8) (n0 m0 n m : Int) (w : World) (e1 : bits BinOp.and IntKind.i64 n0 65535 = n) (e2 : bits BinOp.and IntKind.i64 m0 65535 = m) (b1 : 0 ≤ n) (b2 : n ≤ 65535) (_b3 : 0 ≤ m) (_b4 : m ≤ 65535) (h2 : (((a.toNat : Int) != 0) = false)) : Calls Try.prog 5 #[bv a, .int .i64 n0, .int .i64 m0] w fun e w' => e = .returned (.bool true) ∧ Below w.heap.size w w' := by
  go_enter Try.func5, Try.ntmps5
  go_wp2_with fail
  refine (new_any _).mono ?_
  rintro e w1 ⟨rfl, rfl⟩
  have l1 := Lw.start w
  generalize w.alloc (.cells Try.zeroCells102 102) = w1 at *
  go_wp2_with fail
  refine (power_lit0 _ a _ l1.at_).mono ?_
  rintro e w2 ⟨rfl, hp⟩
  have l2 := l1.p hp
  clear l1 hp
  go_wp2_with fail
  refine (power_z1 _ (1 + n) _ l2.at_ (by omega)).mono ?_
  rintro e w3 ⟨rfl, hp⟩
  have l3 := l2.p hp
  clear l2 hp
  go_wp2_with fail
  refine (power_z1 _ (-1 - n) _ l3.at_ (by omega)).mono ?_
  rintro e w4 ⟨rfl, hp⟩
  have l4 := l3.p hp
  clear l3 hp
  go_wp2_with fail
  refine (one4_any _).mono ?_
  rintro e w5 ⟨rfl, hp⟩
  have l5 := l4.k hp
  clear l4 hp
  go_wp2_with fail
  go_ret
  exact ⟨rfl, l5.below⟩

set_option maxRecDepth 100000 in
set_option maxHeartbeats 2000000 in
theorem gfPower_ne (a : UInt8) (n0 m0 n m : Int) (w : World) (e1 : bits BinOp.and IntKind.i64 n0 65535 = n) (e2 : bits BinOp.and IntKind.i64 m0 65535 = m) (b1 : 0 ≤ n) (b2 : n ≤ 65535) (_b3 : 0 ≤ m) (_b4 : m ≤ 65535) (HA : Hid (a ≠ 0)) (h2 : (((a.toNat : Int) != 0) = true)) : Calls Try.prog 5 #[bv a, .int .i64 n0, .int .i64 m0] w fun e w' => e = .returned (.bool true) ∧ Below w.heap.size w w' := by
  go_enter Try.func5, Try.ntmps5
  go_wp2_with fail
  refine (new_any _).mono ?_
  rintro e w1 ⟨rfl, rfl⟩
  have l1 := Lw.start w
  generalize w.alloc (.cells Try.zeroCells102 102) = w1 at *
  go_wp2_with fail
  refine (power_any _ a (n + m) _ l1.at_).mono ?_
  rintro e w2 ⟨rfl, hp⟩
  have l2 := l1.p hp
  clear l1 hp
  go_wp2_with fail
  refine (power_any _ a n _ l2.at_).mono ?_
  rintro e w3 ⟨rfl, hp⟩
  have l3 := l2.p hp
  clear l2 hp
  go_wp2_with fail
  refine (power_any _ a m _ l3.at_).mono ?_
  rintro e w4 ⟨rfl, hp⟩
  have l4 := l3.p hp
  clear l3 hp
  go_wp2_with fail
  refine (mul_any _ (gpowI a n) (gpowI a m) _ l4.at_).mono ?_
  rintro e w5 ⟨rfl, hp⟩
  have l5 := l4.p hp
  clear l4 hp
  rw [gpowI_add HA.out n m]
  go_wp2_with fail
  refine (power_any _ a (n + 255) _ l5.at_).mono ?_
  rintro e w6 ⟨rfl, hp⟩
  have l6 := l5.p hp
  clear l5 hp
  rw [gpowI_255 HA.out n]
  go_wp2_with fail
  refine (power_any _ a n _ l6.at_).mono ?_
  rintro e w7 ⟨rfl, hp⟩
  have l7 := l6.p hp
  clear l6 hp
  go_wp2_with fail
  refine (power_any _ a n _ l7.at_).mono ?_
  rintro e w8 ⟨rfl, hp⟩
  have l8 := l7.p hp
  clear l7 hp
  go_wp2_with fail
  refine (power_any _ a (-n) _ l8.at_).mono ?_
  rintro e w9 ⟨rfl, hp⟩
  have l9 := l8.p hp
  clear l8 hp
  go_wp2_with fail
  refine (mul_neg1 _ a n _ l9.at_ HA.out).mono ?_
  rintro e w10 ⟨rfl, hp⟩
  have l10 := l9.p hp
  clear l9 hp
  go_wp2_with fail
  refine (power_lit0 _ a _ l10.at_).mono ?_
  rintro e w11 ⟨rfl, hp⟩
  have l11 := l10.p hp
  clear l10 hp
  go_wp2_with fail
  refine (power_z1 _ (1 + n) _ l11.at_ (by omega)).mono ?_
  rintro e w12 ⟨rfl, hp⟩
  have l12 := l11.p hp
  clear l11 hp
  go_wp2_with fail
  refine (power_z1 _ (-1 - n) _ l12.at_ (by omega)).mono ?_
  rintro e w13 ⟨rfl, hp⟩
  have l13 := l12.p hp
  clear l12 hp
  go_wp2_with fail
  refine (one4_any _).mono ?_
  rintro e w14 ⟨rfl, hp⟩
  have l14 := l13.k hp
  clear l13 hp
  go_wp2_with fail
  go_ret
  exact ⟨rfl, l14.below⟩

theorem bne0' {a : UInt8} (h : a ≠ 0) : ((a.toNat : Int) != 0) = true := by
  show (!((a.toNat : Int) == 0)) = true
  rw [bne0 h]
  rfl

theorem gfPower_walk (a : UInt8) (n m : Int) (_ : -9223372036854775808 ≤ n ∧ n ≤ 9223372036854775807) (_ : -9223372036854775808 ≤ m ∧ m ≤ 9223372036854775807) (w : World) :
    Calls Try.prog 5 #[bv a, .int .i64 n, .int .i64 m] w fun e w' => e = .returned (.bool true) ∧ Below w.heap.size w w' := by
  by_cases ha : a = 0
  · subst ha
    exact gfPower_zero 0 n m _ _ w rfl rfl (and_mask n).1 (and_mask n).2 (and_mask m).1 (and_mask m).2 rfl
  · exact gfPower_ne a n m _ _ w rfl rfl (and_mask n).1 (and_mask n).2 (and_mask m).1 (and_mask m).2 ha (bne0' ha)
end Go.Proofs.Ytegecjilpmkamaa
