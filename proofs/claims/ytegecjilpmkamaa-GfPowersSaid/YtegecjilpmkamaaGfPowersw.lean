/-
  The walk of the law GfPowers: it answers true, at every input.
-/
import Derived.Test.YtegecjilpmkamaaEval
namespace Go.Proofs.Ytegecjilpmkamaa
open Go.RowKit Sb

theorem gexpI_two (n : Int) : gpowI 2 n = gexpI n := by
  unfold gpowI
  by_cases h : n = 0
  · subst h
    rw [if_pos rfl]
    exact gexp_zero.symm
  · rw [if_neg h, if_neg (by decide), glog_two, Int.natCast_one, Int.one_mul]

theorem refpow_two (n : Int) (w : World) : Calls Try.prog 33 #[.int .u8 2, .int .i64 n] w fun e w' => e = .returned (bv (gexpI n)) ∧ w = w' := by
  have h := refpow_any 2 n w
  rw [gexpI_two] at h
  exact h

theorem Rb.keepf {N fb : Nat} {w w' : World} {ao : Option Addr} {n : Nat} {xs : List UInt8} (h : Rb (· < N) w ao n xs) (hk : Keep (· = fb) w w') (hN : N ≤ fb) : Rb (· < N) w' ao n xs :=
  h.keep hk (fun b _ (hb : b < N) (e : b = fb) => by omega)

theorem Lw.drewN {w w1 : World} {fb : Nat} (h : Lw w fb w1) (m : Nat) : Lw w fb (w1.drewN m) := ⟨h.ge, h.at_, h.keep.drewN m⟩

set_option maxRecDepth 100000 in
set_option maxHeartbeats 2000000 in
theorem gfPowers_short (w : World) (a : UInt8) (m : Int) (ao : Option Addr) (n cap : Nat) (xs : List UInt8) (hshort : n ≤ 200) (hr : Rb (· < w.heap.size) w ao n xs) :
    Calls Try.prog 6 #[bv a, .int .i64 m, .slice ao n cap] w fun e w' => e = .returned (.bool true) ∧ Below w.heap.size w w' := by
  go_enter Try.func6, Try.ntmps6
  go_wp2_with fail
  refine (new_any _).mono ?_
  rintro e w1 ⟨rfl, rfl⟩
  have l1 := Lw.start w
  generalize w.alloc (.cells Try.zeroCells102 102) = w1 at *
  have hr2 : Rb (· < w.heap.size) w1 ao n xs := hr.keep l1.keep (fun _ _ _ => id)
  clear hr
  go_wp2_with fail
  refine (power_any _ a m _ l1.at_).mono ?_
  rintro e w2 ⟨rfl, hp⟩
  have hk := hp.keep
  have l2 := l1.p hp
  clear l1 hp
  have hr3 := hr2.keepf hk (Nat.le_refl _)
  clear hr2 hk
  go_wp2_with fail
  refine (refpow_any a m _).mono ?_
  rintro e w' ⟨rfl, rfl⟩
  go_wp2_with fail
  refine (exp_any _ m _ l2.at_).mono ?_
  rintro e w3 ⟨rfl, hp⟩
  have hk := hp.keep
  have l3 := l2.p hp
  clear l2 hp
  have hr4 := hr3.keepf hk (Nat.le_refl _)
  clear hr3 hk
  go_wp2_with fail
  refine (refpow_two m _).mono ?_
  rintro e w' ⟨rfl, rfl⟩
  have hlim : n ≤ 9223372036854775807 := by omega
  go_wp2_with fail
  refine (eval_any _ _ ao n cap xs a _ l3.at_ hr4 (by simp) hlim).mono ?_
  rintro e w4 ⟨rfl, hp⟩
  have hk := hp.keep
  have l4 := l3.p hp
  clear l3 hp
  have hr5 := hr4.keepf hk (Nat.le_refl _)
  clear hr4 hk
  go_wp2_with fail
  refine (refeval_any _ ao n cap xs a _ hr5 hlim).mono ?_
  rintro e w' ⟨rfl, q, rfl⟩
  have l4 := l4.drewN q
  go_wp2_with fail
  refine (one4_any _).mono ?_
  rintro e w5 ⟨rfl, hp⟩
  have l5 := l4.k hp
  clear l4 hp
  go_wp2_with fail
  go_ret
  exact ⟨rfl, l5.below⟩

set_option maxRecDepth 100000 in
set_option maxHeartbeats 2000000 in
theorem gfPowers_long (w : World) (a : UInt8) (m : Int) (ao : Option Addr) (n cap : Nat) (xs : List UInt8) (hlong : 200 < n) (hcap : n ≤ cap) (hm : cap ≤ 9223372036854775807) (hr : Rb (· < w.heap.size) w ao 200 (xs.take 200)) :
    Calls Try.prog 6 #[bv a, .int .i64 m, .slice ao n cap] w fun e w' => e = .returned (.bool true) ∧ Below w.heap.size w w' := by
  go_enter Try.func6, Try.ntmps6
  go_wp2_with fail
  refine (new_any _).mono ?_
  rintro e w1 ⟨rfl, rfl⟩
  have l1 := Lw.start w
  generalize w.alloc (.cells Try.zeroCells102 102) = w1 at *
  have hr2 : Rb (· < w.heap.size) w1 ao 200 (xs.take 200) := hr.keep l1.keep (fun _ _ _ => id)
  clear hr
  go_wp2_with fail
  refine (power_any _ a m _ l1.at_).mono ?_
  rintro e w2 ⟨rfl, hp⟩
  have hk := hp.keep
  have l2 := l1.p hp
  clear l1 hp
  have hr3 := hr2.keepf hk (Nat.le_refl _)
  clear hr2 hk
  go_wp2_with fail
  refine (refpow_any a m _).mono ?_
  rintro e w' ⟨rfl, rfl⟩
  go_wp2_with fail
  refine (exp_any _ m _ l2.at_).mono ?_
  rintro e w3 ⟨rfl, hp⟩
  have hk := hp.keep
  have l3 := l2.p hp
  clear l2 hp
  have hr4 := hr3.keepf hk (Nat.le_refl _)
  clear hr3 hk
  go_wp2_with fail
  refine (refpow_two m _).mono ?_
  rintro e w' ⟨rfl, rfl⟩
  have hlim : 200 ≤ 9223372036854775807 := by omega
  go_wp2_with fail
  refine (eval_any _ _ ao 200 cap (xs.take 200) a _ l3.at_ hr4 (by simp) hlim).mono ?_
  rintro e w4 ⟨rfl, hp⟩
  have hk := hp.keep
  have l4 := l3.p hp
  clear l3 hp
  have hr5 := hr4.keepf hk (Nat.le_refl _)
  clear hr4 hk
  go_wp2_with fail
  refine (refeval_any _ ao 200 cap (xs.take 200) a _ hr5 hlim).mono ?_
  rintro e w' ⟨rfl, q, rfl⟩
  have l4 := l4.drewN q
  go_wp2_with fail
  refine (one4_any _).mono ?_
  rintro e w5 ⟨rfl, hp⟩
  have l5 := l4.k hp
  clear l4 hp
  go_wp2_with fail
  go_ret
  exact ⟨rfl, l5.below⟩

theorem gfPowers_walk (w : World) (a : UInt8) (m : Int) (v : Value) (xs : List UInt8) (h : Bs (· < w.heap.size) w v xs) (_ : -9223372036854775808 ≤ m ∧ m ≤ 9223372036854775807) :
    Calls Try.prog 6 #[bv a, .int .i64 m, v] w fun e w' => e = .returned (.bool true) ∧ Below w.heap.size w w' := by
  obtain ⟨ao, n, cap, rfl, hc, hm, hr⟩ := h
  unfold maxLen at hm
  by_cases hn : n ≤ 200
  · exact gfPowers_short w a m ao n cap xs hn hr
  · exact gfPowers_long w a m ao n cap xs (by omega) hc (by omega) (hr.take (by omega))
end Go.Proofs.Ytegecjilpmkamaa
