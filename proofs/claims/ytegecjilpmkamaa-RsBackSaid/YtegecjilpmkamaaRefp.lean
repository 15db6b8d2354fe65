/-
  The walks of the reference's powers and logarithms.
-/
import Derived.Test.YtegecjilpmkamaaRefm
namespace Go.Proofs.Ytegecjilpmkamaa
open Go.RowKit Sb

theorem tmod_abs (n : Int) : (0 ≤ n → n.tmod 255 = n % 255) ∧ (n < 0 → n.tmod 255 = -((-n) % 255)) := by
  refine ⟨fun h => Int.tmod_eq_emod_of_nonneg h, fun h => ?_⟩
  rw [← Int.tmod_eq_emod_of_nonneg (by omega), Int.neg_tmod]
  omega

theorem emod_mul_congr {a b : Int} (g : Int) (h : a % 255 = b % 255) : (g * a) % 255 = (g * b) % 255 := by
  rw [Int.mul_emod, h, ← Int.mul_emod]

theorem gexpI_of {m : Nat} {n : Int} (h : (m : Int) % 255 = n % 255) : gexp m = gexpI n := by
  rw [← gexpI_nat]
  exact gexpI_congr h

/-- The base and the count of the reference's loop. -/
theorem pow_of_loop_pos {a : UInt8} {n : Int} (hn : 0 < n) (ha : a ≠ 0) : gpow a (n % 255).toNat = gpowI a n := by
  unfold gpowI
  rw [if_neg (by omega), if_neg ha, gpow_eq ha]
  apply gexpI_of
  rw [Int.natCast_mul]
  apply emod_mul_congr
  omega

theorem glog_inv {a : UInt8} (ha : a ≠ 0) : ((glog (ginv a) : Nat) : Int) % 255 = (-(glog a : Int)) % 255 := by
  have h : ginv a = gexp (255 - glog a) := by unfold ginv; rw [if_neg ha]
  have := glog_le ha
  rw [h, glog_mod]
  omega

theorem pow_of_loop_neg {a : UInt8} {n : Int} (hn : n < 0) (ha : a ≠ 0) : gpow (ginv a) ((-n) % 255).toNat = gpowI a n := by
  unfold gpowI
  rw [if_neg (by omega), if_neg ha, gpow_eq (ginv_ne ha)]
  apply gexpI_of
  rw [Int.natCast_mul, Int.mul_emod, glog_inv ha, ← Int.mul_emod, Int.neg_mul, ← Int.mul_neg]
  apply emod_mul_congr
  omega

theorem gpowI_zero (a : UInt8) : gpowI a 0 = 1 := by simp [gpowI]
theorem gpowI_of_zero {n : Int} (hn : n ≠ 0) : gpowI 0 n = 0 := by simp [gpowI, hn]

set_option maxRecDepth 100000 in
set_option maxHeartbeats 1000000 in
/-- The loop, for a base and a count. -/
theorem refpow_pos (a : UInt8) (n : Int) (w : World) (h0 : 0 ≤ n) (hne : n = 0 ∨ a ≠ 0) :
    Calls Try.prog 33 #[bv a, .int .i64 n] w fun e w' => e = .returned (bv (gpow a (n % 255).toNat)) ∧ w = w' := by
  have ht := (tmod_abs n).1 h0
  obtain ⟨m, hm⟩ : ∃ m : Nat, n % 255 = m := ⟨(n % 255).toNat, by omega⟩
  have hm255 : m < 255 := by omega
  have hx : n.tmod 255 = (m : Int) := ht.trans hm
  have HM := Lib.hid hm
  have hn1 : ((n != 0) = false) ∨ ((n != 0) = true ∧ ((a.toNat : Int) == 0) = false) := by
    by_cases h : n = 0
    · left; rw [h]; rfl
    · right
      exact ⟨by rw [bne_iff_ne]; exact h, bne0 (hne.resolve_left h)⟩
  clear hne hm ht
  rcases hn1 with h1 | ⟨h1, h2⟩
  all_goals
    go_enter Try.func33, Try.ntmps33
    go_wp2_with fail
    go_loop [6, 7] (fun p i => ∃ k : Nat, k ≤ m ∧ i = .int .i64 k ∧ p = bv (gpow a k)) (fun _ i => m - (intOf i).toNat)
    case atStart => exact ⟨0, by omega, rfl, rfl⟩
    case round =>
      obtain ⟨k, hk, rfl, rfl⟩ := hrel
      by_cases hlt : k < m
      · go_wp2_with (go_at_call 23; refine (refmul_any _ _ _).mono ?_; rintro e w' ⟨rfl, rfl⟩)
        go_round
        case rel => exact ⟨k + 1, by omega, by go_num, rfl⟩
        case measure => simp [intOf]; omega
      · obtain rfl : k = m := by omega
        go_wp2_with fail
        go_ret
        exact ⟨by rw [HM.out]; rfl, rfl⟩

set_option maxRecDepth 100000 in
set_option maxHeartbeats 1000000 in
theorem refpow_neg (a : UInt8) (n : Int) (w : World) (h0 : n < 0) (ha : a ≠ 0) :
    Calls Try.prog 33 #[bv a, .int .i64 n] w fun e w' => e = .returned (bv (gpow (ginv a) ((-n) % 255).toNat)) ∧ w = w' := by
  have ht := (tmod_abs n).2 h0
  obtain ⟨m, hm⟩ : ∃ m : Nat, (-n) % 255 = m := ⟨((-n) % 255).toNat, by omega⟩
  have hm255 : m < 255 := by omega
  have hx : n.tmod 255 = -(m : Int) := by rw [ht, hm]
  have HM := Lib.hid hm
  have h1 : (n != 0) = true := by rw [bne_iff_ne]; omega
  have h2 := bne0 (ginv_ne ha)
  clear hm ht ha
  by_cases hm0 : m = 0
  · subst hm0
    have hx0 : n.tmod 255 = 0 := by omega
    clear hx
    go_enter Try.func33, Try.ntmps33
    go_wp2_with (go_at_call 26; refine (refinv_any _ _).mono ?_; rintro e w' ⟨rfl, rfl⟩)
    go_loop [6, 7] (fun p i => i = .int .i64 0 ∧ p = bv 1) (fun _ i => 0)
    case atStart => exact ⟨rfl, rfl⟩
    case round =>
      obtain ⟨rfl, rfl⟩ := hrel
      go_wp2_with fail
      go_ret
      exact ⟨by rw [HM.out]; rfl, rfl⟩
  · have hlt0 : 0 < m := by omega
    go_enter Try.func33, Try.ntmps33
    go_wp2_with (go_at_call 26; refine (refinv_any _ _).mono ?_; rintro e w' ⟨rfl, rfl⟩)
    go_loop [6, 7] (fun p i => ∃ k : Nat, k ≤ m ∧ i = .int .i64 k ∧ p = bv (gpow (ginv a) k)) (fun _ i => m - (intOf i).toNat)
    case atStart => exact ⟨0, by omega, rfl, rfl⟩
    case round =>
      obtain ⟨k, hk, rfl, rfl⟩ := hrel
      by_cases hlt : k < m
      · go_wp2_with (go_at_call 23; refine (refmul_any _ _ _).mono ?_; rintro e w' ⟨rfl, rfl⟩)
        go_round
        case rel => exact ⟨k + 1, by omega, by go_num, rfl⟩
        case measure => simp [intOf]; omega
      · obtain rfl : k = m := by omega
        go_wp2_with fail
        go_ret
        exact ⟨by rw [HM.out]; rfl, rfl⟩

set_option maxRecDepth 100000 in
set_option maxHeartbeats 1000000 in
/-- Of 0. -/
theorem refpow_zero (n : Int) (w : World) (hn : n ≠ 0) :
    Calls Try.prog 33 #[bv 0, .int .i64 n] w fun e w' => e = .returned (bv 0) ∧ w = w' := by
  have h1 : (n != 0) = true := by rw [bne_iff_ne]; omega
  have h2 := beq0 (a := 0) rfl
  have h3 := beq0 (a := ginv 0) rfl
  have hr : -254 ≤ n.tmod 255 ∧ n.tmod 255 ≤ 254 := (tmod255 n).2
  obtain ⟨r1, r2⟩ := hr
  by_cases h0 : 0 ≤ n
  · have ht : 0 ≤ n.tmod 255 := by rw [(tmod_abs n).1 h0]; omega
    go_enter Try.func33, Try.ntmps33
    go_wp2_with fail
    go_ret
    exact ⟨rfl, rfl⟩
  · have ht : n.tmod 255 ≤ 0 := by rw [(tmod_abs n).2 (by omega)]; omega
    have hneg : n < 0 := by omega
    by_cases he : n.tmod 255 = 0
    · clear ht r1 r2
      go_enter Try.func33, Try.ntmps33
      go_wp2_with (go_at_call 26; refine (refinv_any _ _).mono ?_; rintro e w' ⟨rfl, rfl⟩)
      go_ret
      exact ⟨rfl, rfl⟩
    · have hlt : n.tmod 255 < 0 := by omega
      clear he
      go_enter Try.func33, Try.ntmps33
      go_wp2_with (go_at_call 26; refine (refinv_any _ _).mono ?_; rintro e w' ⟨rfl, rfl⟩)
      go_ret
      exact ⟨rfl, rfl⟩

theorem refpow_any (a : UInt8) (n : Int) (w : World) :
    Calls Try.prog 33 #[bv a, .int .i64 n] w fun e w' => e = .returned (bv (gpowI a n)) ∧ w = w' := by
  by_cases hn : n = 0
  · subst hn
    refine (refpow_pos a 0 w (by omega) (.inl rfl)).mono ?_
    rintro e w' ⟨rfl, rfl⟩
    exact ⟨by rw [gpowI_zero]; rfl, rfl⟩
  · by_cases ha : a = 0
    · subst ha
      refine (refpow_zero n w hn).mono ?_
      rintro e w' ⟨rfl, rfl⟩
      exact ⟨by rw [gpowI_of_zero hn], rfl⟩
    · by_cases h0 : 0 ≤ n
      · refine (refpow_pos a n w h0 (.inr ha)).mono ?_
        rintro e w' ⟨rfl, rfl⟩
        exact ⟨by rw [pow_of_loop_pos (by omega) ha], rfl⟩
      · refine (refpow_neg a n w (by omega) ha).mono ?_
        rintro e w' ⟨rfl, rfl⟩
        exact ⟨by rw [pow_of_loop_neg (by omega) ha], rfl⟩

theorem glog_two : glog 2 = 1 := by decide +kernel
theorem pow_two (n : Nat) : gpowI 2 n = gexp n := by
  by_cases h : n = 0
  · subst h
    rw [gexp_zero]
    rfl
  · unfold gpowI
    rw [if_neg (by omega), if_neg (by decide), glog_two]
    rw [← gexpI_nat]
    exact gexpI_congr (by omega)

theorem bv_eq_iff {a b : UInt8} : ((a.toNat : Int) == (b.toNat : Int)) = decide (a = b) := by
  rw [Bool.eq_iff_iff]
  simp only [beq_iff_eq, decide_eq_true_eq]
  constructor
  · intro h
    apply UInt8.toNat_inj.1
    omega
  · rintro rfl
    rfl

set_option maxRecDepth 100000 in
set_option maxHeartbeats 1000000 in
theorem reflog_any (a : UInt8) (w : World) :
    Calls Try.prog 29 #[bv a] w fun e w' => e = .returned (.int .i64 (logV a.toNat)) ∧ w = w' := by
  go_enter Try.func29, Try.ntmps29
  go_wp2_with fail
  go_loop [3] (fun i => ∃ k : Nat, k ≤ 255 ∧ i = .int .i64 k ∧ Hid (∀ j, j < k → gexp j ≠ a)) (fun i => 255 - (intOf i).toNat)
  case atStart => exact ⟨0, by omega, rfl, fun j h => by omega⟩
  case round =>
    obtain ⟨k, hk, rfl, HI⟩ := hrel
    by_cases hlt : k < 255
    · have HP := Lib.hid (pow_two k)
      by_cases hg : gexp k = a
      · have ht : (((gexp k).toNat : Int) == (a.toNat : Int)) = true := by rw [bv_eq_iff]; simpa using hg
        have HL : Hid (logV a.toNat = k) := by
          have h0 : a ≠ 0 := by rw [← hg]; exact gexp_ne k
          have := glog_exp hlt
          rw [hg] at this
          show logV a.toNat = k
          unfold logV
          rw [if_neg (ne_zero h0)]
          have : logN a.toNat = k := this
          omega
        clear hg
        go_wp2_with fail
        refine (refpow_any 2 (k : Int) _).mono ?_
        rintro e w' ⟨rfl, rfl⟩
        rw [HP.out]
        go_wp2_with fail
        go_ret
        exact ⟨by rw [HL.out]; rfl, rfl⟩
      · have ht : (((gexp k).toNat : Int) == (a.toNat : Int)) = false := by rw [bv_eq_iff]; simpa using hg
        have HG := Lib.hid hg
        clear hg
        go_wp2_with fail
        refine (refpow_any 2 (k : Int) _).mono ?_
        rintro e w' ⟨rfl, rfl⟩
        rw [HP.out]
        go_wp2_with fail
        go_round
        case rel =>
          refine ⟨k + 1, by omega, by go_num, fun j h => ?_⟩
          by_cases hj : j = k
          · rw [hj]; exact HG.out
          · exact HI.out j (by omega)
        case measure => simp [intOf]; omega
    · obtain rfl : k = 255 := by omega
      have ha : a = 0 := by
        by_cases ha : a = 0
        · exact ha
        · exact absurd (gexp_log ha) (HI.out _ (by have := glog_le ha; omega))
      have HA := Lib.hid ha
      clear ha HI
      go_wp2
      go_ret
      exact ⟨by rw [HA.out]; rfl, rfl⟩
end Go.Proofs.Ytegecjilpmkamaa
