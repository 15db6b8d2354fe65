/-
  The walks of the reference's functions on single numbers.
-/
import Derived.Test.YtegecjilpmkamaaMulw
namespace Go.Proofs.Ytegecjilpmkamaa
open Go.RowKit Sb

theorem tb (b k : Nat) : (((b : Int) / (2 : Int) ^ k).tmod 2 == 1) = b.testBit k := by
  rw [Nat.testBit_eq_decide_div_mod_eq]
  have e : (b : Int) / (2 : Int) ^ k = ((b / 2 ^ k : Nat) : Int) := by
    rw [Int.natCast_ediv, Int.natCast_pow]
    rfl
  rw [e, Int.tmod_eq_emod_of_nonneg (Int.natCast_nonneg _), Bool.eq_iff_iff]
  generalize b / 2 ^ k = n
  simp
  omega

theorem pow_le_of {k n : Nat} (h : k ≤ n) : 2 ^ k ≤ 2 ^ n := Nat.pow_le_pow_right (by omega) h

/-- One bit more of the product. -/
theorem mul_bit {a k q : Nat} (ha : a < 256) (hk : k < 8) (hq : q < 32768) : bits BinOp.xor IntKind.i64 (q : Int) (wrap64 ((a : Int) * (2 : Int) ^ k)) = ((q ^^^ (a <<< k) : Nat) : Int) ∧ q ^^^ (a <<< k) < 32768 := by
  have h1 : a <<< k < 32768 := by
    rw [Nat.shiftLeft_eq]
    have : 2 ^ k ≤ 128 := pow_le_of (n := 7) (by omega)
    have := Nat.mul_le_mul (show a ≤ 255 by omega) this
    omega
  have e : (a : Int) * (2 : Int) ^ k = ((a <<< k : Nat) : Int) := by
    rw [Nat.shiftLeft_eq, Int.natCast_mul, Int.natCast_pow]
    rfl
  rw [e]
  generalize a <<< k = n at h1
  rw [IntWalk.wrap64_in (n : Int) ⟨by omega, by omega⟩, xor_i64 _ _ (by omega) (by omega)]
  exact ⟨rfl, Nat.xor_lt_two_pow (n := 15) hq h1⟩

theorem red_bit {k q : Nat} (hk : k < 8) (hq : q < 131072) : bits BinOp.xor IntKind.i64 (q : Int) (wrap64 (285 * (2 : Int) ^ k)) = ((q ^^^ (285 <<< k) : Nat) : Int) ∧ q ^^^ (285 <<< k) < 131072 := by
  have h1 : 285 <<< k < 131072 := by
    rw [Nat.shiftLeft_eq]
    have : 2 ^ k ≤ 128 := pow_le_of (n := 7) (by omega)
    omega
  have e : (285 : Int) * (2 : Int) ^ k = ((285 <<< k : Nat) : Int) := by
    rw [Nat.shiftLeft_eq, Int.natCast_mul, Int.natCast_pow]
    rfl
  rw [e]
  generalize 285 <<< k = n at h1
  rw [IntWalk.wrap64_in (n : Int) ⟨by omega, by omega⟩, xor_i64 _ _ (by omega) (by omega)]
  exact ⟨rfl, Nat.xor_lt_two_pow (n := 17) hq h1⟩

theorem mulBits_yes {a b k q : Nat} (hk : k < 8) (h : b.testBit k = true) : mulBits a b (8 - k) q = mulBits a b (8 - (k + 1)) (q ^^^ (a <<< k)) := by
  obtain ⟨j, hj⟩ : ∃ j, 8 - k = j + 1 := ⟨7 - k, by omega⟩
  rw [hj, show 8 - (k + 1) = j by omega]
  simp only [mulBits]
  rw [show 7 - j = k by omega, h]
  rfl

theorem mulBits_no {a b k q : Nat} (hk : k < 8) (h : b.testBit k = false) : mulBits a b (8 - k) q = mulBits a b (8 - (k + 1)) q := by
  obtain ⟨j, hj⟩ : ∃ j, 8 - k = j + 1 := ⟨7 - k, by omega⟩
  rw [hj, show 8 - (k + 1) = j by omega]
  simp only [mulBits]
  rw [show 7 - j = k by omega, h]
  simp [sel]

theorem redBits_yes {m q : Nat} (hm : 8 ≤ m) (h : q.testBit m = true) : redBits (m - 7) q = redBits (m - 1 - 7) (q ^^^ (285 <<< (m - 8))) := by
  obtain ⟨j, rfl⟩ : ∃ j, m = j + 8 := ⟨m - 8, by omega⟩
  rw [show j + 8 - 7 = j + 1 by omega, show j + 8 - 1 - 7 = j by omega, show j + 8 - 8 = j by omega]
  simp only [redBits]
  rw [h]
  rfl

theorem redBits_no {m q : Nat} (hm : 8 ≤ m) (h : q.testBit m = false) : redBits (m - 7) q = redBits (m - 1 - 7) q := by
  obtain ⟨j, rfl⟩ : ∃ j, m = j + 8 := ⟨m - 8, by omega⟩
  rw [show j + 8 - 7 = j + 1 by omega, show j + 8 - 1 - 7 = j by omega]
  simp only [redBits]
  rw [h]
  simp [sel]

set_option maxRecDepth 100000 in
set_option maxHeartbeats 1000000 in
theorem refmul_n (a b : Nat) (w : World) (ha : a < 256) (hb : b < 256) :
    Calls Try.prog 23 #[.int .u8 a, .int .u8 b] w fun e w' => e = .returned (.int .u8 (mulN a b : Nat)) ∧ w = w' := by
  go_enter Try.func23, Try.ntmps23
  go_wp2
  go_loop [5, 6] (fun p i => ∃ k q : Nat, k ≤ 8 ∧ i = .int .i64 k ∧ p = .int .i64 q ∧ q < 32768 ∧ Hid (mulBits a b (8 - k) q = mulBits a b 8 0)) (fun _ i => 8 - (intOf i).toNat)
  case atStart => exact ⟨0, 0, by omega, rfl, rfl, by omega, rfl⟩
  case round =>
    obtain ⟨k, q, hk, rfl, rfl, hq, HI⟩ := hrel
    by_cases hlt : k < 8
    · go_wp2
      · have ht : (((b : Int) / 2 ^ k).tmod 2 == 1) = true := by assumption
        rw [tb] at ht
        obtain ⟨e1, e2⟩ := mul_bit (a := a) (k := k) ha hlt hq
        rw [e1]
        go_round
        case rel => exact ⟨k + 1, _, by omega, by go_num, rfl, e2, (mulBits_yes hlt ht).symm.trans HI.out⟩
        case measure => simp [intOf]; omega
      · have ht : (((b : Int) / 2 ^ k).tmod 2 == 1) = false := by assumption
        rw [tb] at ht
        go_round
        case rel => exact ⟨k + 1, _, by omega, by go_num, rfl, hq, (mulBits_no hlt ht).symm.trans HI.out⟩
        case measure => simp [intOf]; omega
    · obtain rfl : k = 8 := by omega
      have HJ : Hid (redBits (14 - 7) q = mulN a b) := congrArg (redBits 7) HI.out
      clear HI
      go_wp2
      go_loop [5, 7] (fun p i => ∃ m q : Nat, 7 ≤ m ∧ m ≤ 14 ∧ i = .int .i64 m ∧ p = .int .i64 q ∧ q < 131072 ∧ Hid (redBits (m - 7) q = mulN a b)) (fun _ i => (intOf i).toNat)
      case atStart => exact ⟨14, q, by omega, by omega, rfl, rfl, by omega, HJ⟩
      case round =>
        clear HJ hq
        obtain ⟨m, q, hm1, hm2, rfl, rfl, hq, HI⟩ := hrel
        by_cases hlt : 8 ≤ m
        · go_wp2
          · have ht : (((q : Int) / 2 ^ m).tmod 2 == 1) = true := by assumption
            rw [tb] at ht
            obtain ⟨e1, e2⟩ := red_bit (k := m - 8) (by omega) hq
            rw [e1]
            go_round
            case rel => exact ⟨m - 1, _, by omega, by omega, by go_num, rfl, e2, (redBits_yes hlt ht).symm.trans HI.out⟩
            case measure => simp [intOf]; omega
          · have ht : (((q : Int) / 2 ^ m).tmod 2 == 1) = false := by assumption
            rw [tb] at ht
            go_round
            case rel => exact ⟨m - 1, _, by omega, by omega, by go_num, rfl, hq, (redBits_no hlt ht).symm.trans HI.out⟩
            case measure => simp [intOf]; omega
        · obtain rfl : m = 7 := by omega
          have HJ : Hid (q = mulN a b) := HI.out
          have hl : mulN a b < 256 := by rw [mulN_eq ha hb]; exact mulT_lt _ _
          have hq2 : q < 256 := by rw [HJ.out]; exact hl
          clear hl HI
          go_wp2
          go_ret
          exact ⟨by rw [← HJ.out]; rfl, rfl⟩

theorem refmul_any (a b : UInt8) (w : World) : Calls Try.prog 23 #[bv a, bv b] w fun e w' => e = .returned (bv (gmul a b)) ∧ w = w' := by
  refine (refmul_n a.toNat b.toNat w a.toNat_lt b.toNat_lt).mono ?_
  rintro e w' ⟨rfl, rfl⟩
  refine ⟨?_, rfl⟩
  show _ = Ending.returned (.int .u8 ((gmul a b).toNat : Int))
  rw [toNat_gmul, mulN_eq a.toNat_lt b.toNat_lt]

/-- A number below 256, as a byte. -/
theorem toNat_u8 {k : Nat} (h : k < 256) : (UInt8.ofNat k).toNat = k := by
  rw [UInt8.toNat_ofNat']
  exact Nat.mod_eq_of_lt h

theorem bv_u8 {k : Nat} (h : k < 256) : bv (UInt8.ofNat k) = .int .u8 (k : Int) := by
  show Value.int .u8 _ = _
  rw [toNat_u8 h]

theorem u8_toNat (a : UInt8) : UInt8.ofNat a.toNat = a := by
  apply UInt8.toNat_inj.1
  rw [toNat_u8 a.toNat_lt]

theorem eq1_yes {a : UInt8} (h : ((a.toNat : Int) == 1) = true) : a = 1 := by
  have h2 : (a.toNat : Int) = 1 := by simpa using h
  apply UInt8.toNat_inj.1
  show a.toNat = 1
  omega

theorem eq1_no {a : UInt8} (h : ((a.toNat : Int) == 1) = false) : a ≠ 1 := by
  rintro rfl
  exact absurd h (by decide)

set_option maxRecDepth 100000 in
set_option maxHeartbeats 1000000 in
theorem refinv_any (a : UInt8) (w : World) : Calls Try.prog 26 #[bv a] w fun e w' => e = .returned (bv (ginv a)) ∧ w = w' := by
  go_enter Try.func26, Try.ntmps26
  go_wp2
  go_loop [3] (fun i => ∃ k : Nat, 1 ≤ k ∧ k ≤ 256 ∧ i = .int .i64 k ∧ Hid (∀ j, 1 ≤ j → j < k → gmul a (UInt8.ofNat j) ≠ 1)) (fun i => 256 - (intOf i).toNat)
  case atStart => exact ⟨1, by omega, by omega, rfl, fun j h1 h2 => by omega⟩
  case round =>
    obtain ⟨k, hk1, hk2, rfl, HI⟩ := hrel
    by_cases hlt : k < 256
    · have HV := Lib.hid (bv_u8 hlt)
      by_cases hg : gmul a (UInt8.ofNat k) = 1
      · have ht : (((gmul a (UInt8.ofNat k)).toNat : Int) == 1) = true := by rw [hg]; rfl
        have HG := Lib.hid (ginv_unique hg)
        have HR := Lib.hid (fun w => refmul_any a (UInt8.ofNat k) w)
        clear hg
        go_wp2_with fail
        rw [← HV.out]
        refine (HR.out _).mono ?_
        rintro e w' ⟨rfl, rfl⟩
        go_wp2_with fail
        go_ret
        exact ⟨by rw [← HG.out, HV.out]; rfl, rfl⟩
      · have ht : (((gmul a (UInt8.ofNat k)).toNat : Int) == 1) = false := by
          cases h : (((gmul a (UInt8.ofNat k)).toNat : Int) == 1)
          · rfl
          · exact absurd (eq1_yes h) hg
        have HG := Lib.hid hg
        have HR := Lib.hid (fun w => refmul_any a (UInt8.ofNat k) w)
        clear hg
        go_wp2_with fail
        rw [← HV.out]
        refine (HR.out _).mono ?_
        rintro e w' ⟨rfl, rfl⟩
        go_wp2_with fail
        go_round
        case rel =>
          refine ⟨k + 1, by omega, by omega, by go_num, fun j h1 h2 => ?_⟩
          by_cases hj : j = k
          · rw [hj]; exact HG.out
          · exact HI.out j h1 (by omega)
        case measure => simp [intOf]; omega
    · obtain rfl : k = 256 := by omega
      have ha : a = 0 := by
        by_cases ha : a = 0
        · exact ha
        · have h0 := ne_zero (ginv_ne ha)
          have := HI.out (ginv a).toNat (by omega) (ginv a).toNat_lt
          rw [u8_toNat, gmul_inv ha] at this
          exact absurd rfl this
      have HA := Lib.hid ha
      clear ha HI
      go_wp2
      go_ret
      exact ⟨by rw [HA.out]; rfl, rfl⟩
end Go.Proofs.Ytegecjilpmkamaa
