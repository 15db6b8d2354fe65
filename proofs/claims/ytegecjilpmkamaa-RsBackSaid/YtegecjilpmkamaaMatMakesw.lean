/-
  The walk of the law 'MatMakes'.
-/
import Derived.Test.YtegecjilpmkamaaOne5
import Derived.Test.YtegecjilpmkamaaRefm5
namespace Go.Proofs.Ytegecjilpmkamaa
open Go.RowKit Sb

theorem ilt_or (a b : Int) : a < b ∨ b ≤ a := by omega
theorem same_self (m : List (List UInt8)) : (m == m) = true := by rw [beq_iff_eq]

set_option maxRecDepth 100000 in
set_option maxHeartbeats 4000000 in
theorem matMakes_a1 (r c : Int) (hr : -9223372036854775808 ≤ r ∧ r ≤ 9223372036854775807) (hc : -9223372036854775808 ≤ c ∧ c ≤ 9223372036854775807) (hx : r < 1) (w : World) :
    Calls Try.prog 9 #[.int .i64 r, .int .i64 c] w fun e w' => e = .returned (.bool true) ∧ Below w.heap.size w w' := by
  have hr1 := hr.1
  have hr2 := hr.2
  have hc1 := hc.1
  have hc2 := hc.2
  clear hr hc
  have hnt := hnot
  go_enter Try.func9, Try.ntmps9
  go_wp2_with fail
  refine (new_any w).mono ?_
  rintro e w1 ⟨rfl, hw1⟩
  have HL : Hid (Lw w w.heap.size w1) := hw1 ▸ Lw.start w
  clear hw1
  go_wp2_with fail
  refine (one_no r _ (by omega)).mono ?_
  rintro e w' ⟨rfl, rfl⟩
  go_wp2_with fail
  refine (cauchy_no (some ⟨w.heap.size, 0, none⟩) r c w1 (by omega)).mono ?_
  rintro e w3 ⟨rfl, hk3⟩
  have HL3 := Lib.hid (HL.out.k hk3)
  have HK3 : Hid (Keep (fun b => b = w.heap.size) w1 w3) := hk3.mono (fun _ _ h => h.elim)
  clear hk3
  go_wp2_with fail
  refine (one5_any _).mono ?_
  rintro e w8 ⟨rfl, hk8⟩
  have HL8 := Lib.hid (HL3.out.k hk8)
  clear hk8
  go_wp2_with fail
  go_ret
  exact ⟨rfl, HL8.out.below⟩

set_option maxRecDepth 100000 in
set_option maxHeartbeats 4000000 in
theorem matMakes_a2 (r c : Int) (hr : -9223372036854775808 ≤ r ∧ r ≤ 9223372036854775807) (hc : -9223372036854775808 ≤ c ∧ c ≤ 9223372036854775807) (hy : 1 ≤ r) (hx : 255 < r) (w : World) :
    Calls Try.prog 9 #[.int .i64 r, .int .i64 c] w fun e w' => e = .returned (.bool true) ∧ Below w.heap.size w w' := by
  have hr1 := hr.1
  have hr2 := hr.2
  have hc1 := hc.1
  have hc2 := hc.2
  clear hr hc
  have hnt := hnot
  go_enter Try.func9, Try.ntmps9
  go_wp2_with fail
  refine (new_any w).mono ?_
  rintro e w1 ⟨rfl, hw1⟩
  have HL : Hid (Lw w w.heap.size w1) := hw1 ▸ Lw.start w
  clear hw1
  go_wp2_with fail
  refine (one_no r _ (by omega)).mono ?_
  rintro e w' ⟨rfl, rfl⟩
  go_wp2_with fail
  refine (cauchy_no (some ⟨w.heap.size, 0, none⟩) r c w1 (by omega)).mono ?_
  rintro e w3 ⟨rfl, hk3⟩
  have HL3 := Lib.hid (HL.out.k hk3)
  have HK3 : Hid (Keep (fun b => b = w.heap.size) w1 w3) := hk3.mono (fun _ _ h => h.elim)
  clear hk3
  go_wp2_with fail
  refine (one5_any _).mono ?_
  rintro e w8 ⟨rfl, hk8⟩
  have HL8 := Lib.hid (HL3.out.k hk8)
  clear hk8
  go_wp2_with fail
  go_ret
  exact ⟨rfl, HL8.out.below⟩

set_option maxRecDepth 100000 in
set_option maxHeartbeats 4000000 in
theorem matMakes_b1y (n : Nat) (c : Int) (hn1 : 1 ≤ n) (hn2 : n ≤ 255) (hc : -9223372036854775808 ≤ c ∧ c ≤ 9223372036854775807) (hx : c < 1) (h40 : n ≤ 40) (w : World) :
    Calls Try.prog 9 #[.int .i64 n, .int .i64 c] w fun e w' => e = .returned (.bool true) ∧ Below w.heap.size w w' := by
  have n1 : (1 : Int) ≤ (n : Int) := by omega
  have n2 : (n : Int) ≤ 255 := by omega
  have hc1 := hc.1
  have hc2 := hc.2
  clear hc
  have n4 : (n : Int) ≤ 40 := by omega
  have hnt := hnot
  go_enter Try.func9, Try.ntmps9
  go_wp2_with fail
  refine (new_any w).mono ?_
  rintro e w1 ⟨rfl, hw1⟩
  have HL : Hid (Lw w w.heap.size w1) := hw1 ▸ Lw.start w
  clear hw1
  go_wp2_with fail
  refine (one_yes n w1 (by omega) (by omega)).mono ?_
  rintro e w2 ⟨g2, G2, rfl, hfl2, hk2⟩
  have HL2 := Lib.hid (HL.out.k hk2)
  obtain ⟨ao2, n2, cap2, us2, e2, hcap2, hmx2, hmv2⟩ := hfl2.ms (by omega) (by omega)
  cases e2
  have HM2 := Lib.hid hmv2
  clear hfl2 hk2 hmv2 hcap2 hmx2
  go_wp2_with fail
  refine (cauchy_no (some ⟨w.heap.size, 0, none⟩) n c w2 (by omega)).mono ?_
  rintro e w3 ⟨rfl, hk3⟩
  have HL3 := Lib.hid (HL2.out.k hk3)
  have HK3 : Hid (Keep (fun b => b = w.heap.size) w2 w3) := hk3.mono (fun _ _ h => h.elim)
  clear hk3
  go_wp2_with fail
  refine (refone_any n w3 (by omega)).mono ?_
  rintro e w4 ⟨v4, rfl, hgr, hk4⟩
  obtain ⟨ao4, cap4, rfl, _, _⟩ := hgr.len
  obtain ⟨us4, hmv4⟩ := hgr.mv
  have HM4 := Lib.hid hmv4
  have HL4 := Lib.hid (HL3.out.k hk4)
  have HK4 := Lib.hid hk4
  have HLEN : Hid ((oneM n).length = n) := by show (oneM n).length = n; simp [oneM]
  clear hgr hk4 hmv4
  go_wp2_with fail
  refine (refsame_any _ _ _ _ n _ n cap4 us2 us4 _ _ w4 ((HM2.out.keep HK3.out (fun b _ (hb : w1.heap.size ≤ b) (e : b = w.heap.size) => absurd hb (by have h1 := HL.out.at_.lt; omega))).keep HK4.out (fun _ _ _ => id)) HM4.out (by omega) (by have := HLEN.out; omega)).mono ?_
  rintro e w5 ⟨rfl, hk5⟩
  have HL5 := Lib.hid (HL4.out.k hk5)
  have HK5 := Lib.hid (HK4.out.trans hk5)
  rw [show (((List.range n).map (oneRow n)) == oneM n) = true from same_self _]
  clear hk5
  go_wp2_with fail
  refine (one5_any _).mono ?_
  rintro e w8 ⟨rfl, hk8⟩
  have HL8 := Lib.hid (HL5.out.k hk8)
  clear hk8
  go_wp2_with fail
  go_ret
  exact ⟨rfl, HL8.out.below⟩

set_option maxRecDepth 100000 in
set_option maxHeartbeats 4000000 in
theorem matMakes_b1n (n : Nat) (c : Int) (hn1 : 1 ≤ n) (hn2 : n ≤ 255) (hc : -9223372036854775808 ≤ c ∧ c ≤ 9223372036854775807) (hx : c < 1) (h40 : 40 < n) (w : World) :
    Calls Try.prog 9 #[.int .i64 n, .int .i64 c] w fun e w' => e = .returned (.bool true) ∧ Below w.heap.size w w' := by
  have n1 : (1 : Int) ≤ (n : Int) := by omega
  have n2 : (n : Int) ≤ 255 := by omega
  have hc1 := hc.1
  have hc2 := hc.2
  clear hc
  have n4 : (40 : Int) < (n : Int) := by omega
  have hnt := hnot
  go_enter Try.func9, Try.ntmps9
  go_wp2_with fail
  refine (new_any w).mono ?_
  rintro e w1 ⟨rfl, hw1⟩
  have HL : Hid (Lw w w.heap.size w1) := hw1 ▸ Lw.start w
  clear hw1
  go_wp2_with fail
  refine (one_yes n w1 (by omega) (by omega)).mono ?_
  rintro e w2 ⟨g2, G2, rfl, hfl2, hk2⟩
  have HL2 := Lib.hid (HL.out.k hk2)
  obtain ⟨ao2, n2, cap2, us2, e2, hcap2, hmx2, hmv2⟩ := hfl2.ms (by omega) (by omega)
  cases e2
  have HM2 := Lib.hid hmv2
  clear hfl2 hk2 hmv2 hcap2 hmx2
  go_wp2_with fail
  refine (cauchy_no (some ⟨w.heap.size, 0, none⟩) n c w2 (by omega)).mono ?_
  rintro e w3 ⟨rfl, hk3⟩
  have HL3 := Lib.hid (HL2.out.k hk3)
  have HK3 : Hid (Keep (fun b => b = w.heap.size) w2 w3) := hk3.mono (fun _ _ h => h.elim)
  clear hk3
  go_wp2_with fail
  refine (one5_any _).mono ?_
  rintro e w8 ⟨rfl, hk8⟩
  have HL8 := Lib.hid (HL3.out.k hk8)
  clear hk8
  go_wp2_with fail
  go_ret
  exact ⟨rfl, HL8.out.below⟩

set_option maxRecDepth 100000 in
set_option maxHeartbeats 4000000 in
theorem matMakes_b2y (n : Nat) (c : Int) (hn1 : 1 ≤ n) (hn2 : n ≤ 255) (hc : -9223372036854775808 ≤ c ∧ c ≤ 9223372036854775807) (hy : 1 ≤ c) (hx : 255 < c) (h40 : n ≤ 40) (w : World) :
    Calls Try.prog 9 #[.int .i64 n, .int .i64 c] w fun e w' => e = .returned (.bool true) ∧ Below w.heap.size w w' := by
  have n1 : (1 : Int) ≤ (n : Int) := by omega
  have n2 : (n : Int) ≤ 255 := by omega
  have hc1 := hc.1
  have hc2 := hc.2
  clear hc
  have n4 : (n : Int) ≤ 40 := by omega
  have hnt := hnot
  go_enter Try.func9, Try.ntmps9
  go_wp2_with fail
  refine (new_any w).mono ?_
  rintro e w1 ⟨rfl, hw1⟩
  have HL : Hid (Lw w w.heap.size w1) := hw1 ▸ Lw.start w
  clear hw1
  go_wp2_with fail
  refine (one_yes n w1 (by omega) (by omega)).mono ?_
  rintro e w2 ⟨g2, G2, rfl, hfl2, hk2⟩
  have HL2 := Lib.hid (HL.out.k hk2)
  obtain ⟨ao2, n2, cap2, us2, e2, hcap2, hmx2, hmv2⟩ := hfl2.ms (by omega) (by omega)
  cases e2
  have HM2 := Lib.hid hmv2
  clear hfl2 hk2 hmv2 hcap2 hmx2
  go_wp2_with fail
  refine (cauchy_no (some ⟨w.heap.size, 0, none⟩) n c w2 (by omega)).mono ?_
  rintro e w3 ⟨rfl, hk3⟩
  have HL3 := Lib.hid (HL2.out.k hk3)
  have HK3 : Hid (Keep (fun b => b = w.heap.size) w2 w3) := hk3.mono (fun _ _ h => h.elim)
  clear hk3
  go_wp2_with fail
  refine (refone_any n w3 (by omega)).mono ?_
  rintro e w4 ⟨v4, rfl, hgr, hk4⟩
  obtain ⟨ao4, cap4, rfl, _, _⟩ := hgr.len
  obtain ⟨us4, hmv4⟩ := hgr.mv
  have HM4 := Lib.hid hmv4
  have HL4 := Lib.hid (HL3.out.k hk4)
  have HK4 := Lib.hid hk4
  have HLEN : Hid ((oneM n).length = n) := by show (oneM n).length = n; simp [oneM]
  clear hgr hk4 hmv4
  go_wp2_with fail
  refine (refsame_any _ _ _ _ n _ n cap4 us2 us4 _ _ w4 ((HM2.out.keep HK3.out (fun b _ (hb : w1.heap.size ≤ b) (e : b = w.heap.size) => absurd hb (by have h1 := HL.out.at_.lt; omega))).keep HK4.out (fun _ _ _ => id)) HM4.out (by omega) (by have := HLEN.out; omega)).mono ?_
  rintro e w5 ⟨rfl, hk5⟩
  have HL5 := Lib.hid (HL4.out.k hk5)
  have HK5 := Lib.hid (HK4.out.trans hk5)
  rw [show (((List.range n).map (oneRow n)) == oneM n) = true from same_self _]
  clear hk5
  go_wp2_with fail
  refine (one5_any _).mono ?_
  rintro e w8 ⟨rfl, hk8⟩
  have HL8 := Lib.hid (HL5.out.k hk8)
  clear hk8
  go_wp2_with fail
  go_ret
  exact ⟨rfl, HL8.out.below⟩

set_option maxRecDepth 100000 in
set_option maxHeartbeats 4000000 in
theorem matMakes_b2n (n : Nat) (c : Int) (hn1 : 1 ≤ n) (hn2 : n ≤ 255) (hc : -9223372036854775808 ≤ c ∧ c ≤ 9223372036854775807) (hy : 1 ≤ c) (hx : 255 < c) (h40 : 40 < n) (w : World) :
    Calls Try.prog 9 #[.int .i64 n, .int .i64 c] w fun e w' => e = .returned (.bool true) ∧ Below w.heap.size w w' := by
  have n1 : (1 : Int) ≤ (n : Int) := by omega
  have n2 : (n : Int) ≤ 255 := by omega
  have hc1 := hc.1
  have hc2 := hc.2
  clear hc
  have n4 : (40 : Int) < (n : Int) := by omega
  have hnt := hnot
  go_enter Try.func9, Try.ntmps9
  go_wp2_with fail
  refine (new_any w).mono ?_
  rintro e w1 ⟨rfl, hw1⟩
  have HL : Hid (Lw w w.heap.size w1) := hw1 ▸ Lw.start w
  clear hw1
  go_wp2_with fail
  refine (one_yes n w1 (by omega) (by omega)).mono ?_
  rintro e w2 ⟨g2, G2, rfl, hfl2, hk2⟩
  have HL2 := Lib.hid (HL.out.k hk2)
  obtain ⟨ao2, n2, cap2, us2, e2, hcap2, hmx2, hmv2⟩ := hfl2.ms (by omega) (by omega)
  cases e2
  have HM2 := Lib.hid hmv2
  clear hfl2 hk2 hmv2 hcap2 hmx2
  go_wp2_with fail
  refine (cauchy_no (some ⟨w.heap.size, 0, none⟩) n c w2 (by omega)).mono ?_
  rintro e w3 ⟨rfl, hk3⟩
  have HL3 := Lib.hid (HL2.out.k hk3)
  have HK3 : Hid (Keep (fun b => b = w.heap.size) w2 w3) := hk3.mono (fun _ _ h => h.elim)
  clear hk3
  go_wp2_with fail
  refine (one5_any _).mono ?_
  rintro e w8 ⟨rfl, hk8⟩
  have HL8 := Lib.hid (HL3.out.k hk8)
  clear hk8
  go_wp2_with fail
  go_ret
  exact ⟨rfl, HL8.out.below⟩

set_option maxRecDepth 100000 in
set_option maxHeartbeats 4000000 in
theorem matMakes_b3y (n : Nat) (c : Int) (hn1 : 1 ≤ n) (hn2 : n ≤ 255) (hc : -9223372036854775808 ≤ c ∧ c ≤ 9223372036854775807) (hy : 1 ≤ c) (hz : c ≤ 255) (hx : 256 < (n : Int) + c) (h40 : n ≤ 40) (w : World) :
    Calls Try.prog 9 #[.int .i64 n, .int .i64 c] w fun e w' => e = .returned (.bool true) ∧ Below w.heap.size w w' := by
  have n1 : (1 : Int) ≤ (n : Int) := by omega
  have n2 : (n : Int) ≤ 255 := by omega
  have hc1 := hc.1
  have hc2 := hc.2
  clear hc
  have n4 : (n : Int) ≤ 40 := by omega
  have hnt := hnot
  go_enter Try.func9, Try.ntmps9
  go_wp2_with fail
  refine (new_any w).mono ?_
  rintro e w1 ⟨rfl, hw1⟩
  have HL : Hid (Lw w w.heap.size w1) := hw1 ▸ Lw.start w
  clear hw1
  go_wp2_with fail
  refine (one_yes n w1 (by omega) (by omega)).mono ?_
  rintro e w2 ⟨g2, G2, rfl, hfl2, hk2⟩
  have HL2 := Lib.hid (HL.out.k hk2)
  obtain ⟨ao2, n2, cap2, us2, e2, hcap2, hmx2, hmv2⟩ := hfl2.ms (by omega) (by omega)
  cases e2
  have HM2 := Lib.hid hmv2
  clear hfl2 hk2 hmv2 hcap2 hmx2
  go_wp2_with fail
  refine (cauchy_no (some ⟨w.heap.size, 0, none⟩) n c w2 (by omega)).mono ?_
  rintro e w3 ⟨rfl, hk3⟩
  have HL3 := Lib.hid (HL2.out.k hk3)
  have HK3 : Hid (Keep (fun b => b = w.heap.size) w2 w3) := hk3.mono (fun _ _ h => h.elim)
  clear hk3
  go_wp2_with fail
  refine (refone_any n w3 (by omega)).mono ?_
  rintro e w4 ⟨v4, rfl, hgr, hk4⟩
  obtain ⟨ao4, cap4, rfl, _, _⟩ := hgr.len
  obtain ⟨us4, hmv4⟩ := hgr.mv
  have HM4 := Lib.hid hmv4
  have HL4 := Lib.hid (HL3.out.k hk4)
  have HK4 := Lib.hid hk4
  have HLEN : Hid ((oneM n).length = n) := by show (oneM n).length = n; simp [oneM]
  clear hgr hk4 hmv4
  go_wp2_with fail
  refine (refsame_any _ _ _ _ n _ n cap4 us2 us4 _ _ w4 ((HM2.out.keep HK3.out (fun b _ (hb : w1.heap.size ≤ b) (e : b = w.heap.size) => absurd hb (by have h1 := HL.out.at_.lt; omega))).keep HK4.out (fun _ _ _ => id)) HM4.out (by omega) (by have := HLEN.out; omega)).mono ?_
  rintro e w5 ⟨rfl, hk5⟩
  have HL5 := Lib.hid (HL4.out.k hk5)
  have HK5 := Lib.hid (HK4.out.trans hk5)
  rw [show (((List.range n).map (oneRow n)) == oneM n) = true from same_self _]
  clear hk5
  go_wp2_with fail
  refine (one5_any _).mono ?_
  rintro e w8 ⟨rfl, hk8⟩
  have HL8 := Lib.hid (HL5.out.k hk8)
  clear hk8
  go_wp2_with fail
  go_ret
  exact ⟨rfl, HL8.out.below⟩

set_option maxRecDepth 100000 in
set_option maxHeartbeats 4000000 in
theorem matMakes_b3n (n : Nat) (c : Int) (hn1 : 1 ≤ n) (hn2 : n ≤ 255) (hc : -9223372036854775808 ≤ c ∧ c ≤ 9223372036854775807) (hy : 1 ≤ c) (hz : c ≤ 255) (hx : 256 < (n : Int) + c) (h40 : 40 < n) (w : World) :
    Calls Try.prog 9 #[.int .i64 n, .int .i64 c] w fun e w' => e = .returned (.bool true) ∧ Below w.heap.size w w' := by
  have n1 : (1 : Int) ≤ (n : Int) := by omega
  have n2 : (n : Int) ≤ 255 := by omega
  have hc1 := hc.1
  have hc2 := hc.2
  clear hc
  have n4 : (40 : Int) < (n : Int) := by omega
  have hnt := hnot
  go_enter Try.func9, Try.ntmps9
  go_wp2_with fail
  refine (new_any w).mono ?_
  rintro e w1 ⟨rfl, hw1⟩
  have HL : Hid (Lw w w.heap.size w1) := hw1 ▸ Lw.start w
  clear hw1
  go_wp2_with fail
  refine (one_yes n w1 (by omega) (by omega)).mono ?_
  rintro e w2 ⟨g2, G2, rfl, hfl2, hk2⟩
  have HL2 := Lib.hid (HL.out.k hk2)
  obtain ⟨ao2, n2, cap2, us2, e2, hcap2, hmx2, hmv2⟩ := hfl2.ms (by omega) (by omega)
  cases e2
  have HM2 := Lib.hid hmv2
  clear hfl2 hk2 hmv2 hcap2 hmx2
  go_wp2_with fail
  refine (cauchy_no (some ⟨w.heap.size, 0, none⟩) n c w2 (by omega)).mono ?_
  rintro e w3 ⟨rfl, hk3⟩
  have HL3 := Lib.hid (HL2.out.k hk3)
  have HK3 : Hid (Keep (fun b => b = w.heap.size) w2 w3) := hk3.mono (fun _ _ h => h.elim)
  clear hk3
  go_wp2_with fail
  refine (one5_any _).mono ?_
  rintro e w8 ⟨rfl, hk8⟩
  have HL8 := Lib.hid (HL3.out.k hk8)
  clear hk8
  go_wp2_with fail
  go_ret
  exact ⟨rfl, HL8.out.below⟩

set_option maxRecDepth 100000 in
set_option maxHeartbeats 4000000 in
theorem matMakes_cyy (n c : Nat) (hn1 : 1 ≤ n) (hcc1 : 1 ≤ c) (hnc : n + c ≤ 256) (h40 : n ≤ 40) (h12 : n ≤ 12) (hc12 : c ≤ 12) (w : World) :
    Calls Try.prog 9 #[.int .i64 n, .int .i64 c] w fun e w' => e = .returned (.bool true) ∧ Below w.heap.size w w' := by
  have n1 : (1 : Int) ≤ (n : Int) := by omega
  have n2 : (n : Int) ≤ 255 := by omega
  have c1 : (1 : Int) ≤ (c : Int) := by omega
  have c2 : (c : Int) ≤ 255 := by omega
  have c3 : (n : Int) + (c : Int) ≤ 256 := by omega
  have n4 : (n : Int) ≤ 40 := by omega
  have n5 : (n : Int) ≤ 12 := by omega
  have n6 : (c : Int) ≤ 12 := by omega
  have hnt := hnot
  go_enter Try.func9, Try.ntmps9
  go_wp2_with fail
  refine (new_any w).mono ?_
  rintro e w1 ⟨rfl, hw1⟩
  have HL : Hid (Lw w w.heap.size w1) := hw1 ▸ Lw.start w
  clear hw1
  go_wp2_with fail
  refine (one_yes n w1 (by omega) (by omega)).mono ?_
  rintro e w2 ⟨g2, G2, rfl, hfl2, hk2⟩
  have HL2 := Lib.hid (HL.out.k hk2)
  obtain ⟨ao2, n2, cap2, us2, e2, hcap2, hmx2, hmv2⟩ := hfl2.ms (by omega) (by omega)
  cases e2
  have HM2 := Lib.hid hmv2
  clear hfl2 hk2 hmv2 hcap2 hmx2
  go_wp2_with fail
  refine (cauchy_yes w.heap.size n c w2 HL2.out.at_ (by omega) (by omega) (by omega)).mono ?_
  rintro e w3 ⟨g3, G3, rfl, hfl3, hq3⟩
  have HL3 := Lib.hid (HL2.out.q hq3)
  have HK3 := Lib.hid hq3.keep
  obtain ⟨ao3, n3, cap3, us3, e3, hcap3, hmx3, hmv3⟩ := hfl3.ms (by omega) (by omega)
  cases e3
  have HM3 := Lib.hid hmv3
  clear hfl3 hq3 hmv3 hcap3 hmx3
  go_wp2_with fail
  refine (refone_any n w3 (by omega)).mono ?_
  rintro e w4 ⟨v4, rfl, hgr, hk4⟩
  obtain ⟨ao4, cap4, rfl, _, _⟩ := hgr.len
  obtain ⟨us4, hmv4⟩ := hgr.mv
  have HM4 := Lib.hid hmv4
  have HL4 := Lib.hid (HL3.out.k hk4)
  have HK4 := Lib.hid hk4
  have HLEN : Hid ((oneM n).length = n) := by show (oneM n).length = n; simp [oneM]
  clear hgr hk4 hmv4
  go_wp2_with fail
  refine (refsame_any _ _ _ _ n _ n cap4 us2 us4 _ _ w4 ((HM2.out.keep HK3.out (fun b _ (hb : w1.heap.size ≤ b) (e : b = w.heap.size) => absurd hb (by have h1 := HL.out.at_.lt; omega))).keep HK4.out (fun _ _ _ => id)) HM4.out (by omega) (by have := HLEN.out; omega)).mono ?_
  rintro e w5 ⟨rfl, hk5⟩
  have HL5 := Lib.hid (HL4.out.k hk5)
  have HK5 := Lib.hid (HK4.out.trans hk5)
  rw [show (((List.range n).map (oneRow n)) == oneM n) = true from same_self _]
  clear hk5
  go_wp2_with fail
  refine (refcauchy_any n c w5 (by omega)).mono ?_
  rintro e w6 ⟨v6, rfl, hgr, hk6⟩
  obtain ⟨ao6, cap6, rfl, _, _⟩ := hgr.len
  obtain ⟨us6, hmv6⟩ := hgr.mv
  have HM6 := Lib.hid hmv6
  have HL6 := Lib.hid (HL5.out.k hk6)
  have HK6 := Lib.hid hk6
  have HLEN6 : Hid ((cauM n c).length = n) := by show (cauM n c).length = n; simp [cauM]
  clear hgr hk6 hmv6
  go_wp2_with fail
  refine (refsame_any _ _ _ _ n _ n cap6 us3 us6 _ _ w6 ((HM3.out.keep HK5.out (fun _ _ _ => id)).keep HK6.out (fun _ _ _ => id)) HM6.out (by omega) (by have := HLEN6.out; omega)).mono ?_
  rintro e w7 ⟨rfl, hk7⟩
  have HL7 := Lib.hid (HL6.out.k hk7)
  rw [show (((List.range n).map (cauRow c)) == cauM n c) = true from same_self _]
  clear hk7
  go_wp2_with fail
  refine (one5_any _).mono ?_
  rintro e w8 ⟨rfl, hk8⟩
  have HL8 := Lib.hid (HL7.out.k hk8)
  clear hk8
  go_wp2_with fail
  go_ret
  exact ⟨rfl, HL8.out.below⟩

set_option maxRecDepth 100000 in
set_option maxHeartbeats 4000000 in
theorem matMakes_cym (n c : Nat) (hn1 : 1 ≤ n) (hcc1 : 1 ≤ c) (hnc : n + c ≤ 256) (h40 : n ≤ 40) (h12 : n ≤ 12) (hc12 : 12 < c) (w : World) :
    Calls Try.prog 9 #[.int .i64 n, .int .i64 c] w fun e w' => e = .returned (.bool true) ∧ Below w.heap.size w w' := by
  have n1 : (1 : Int) ≤ (n : Int) := by omega
  have n2 : (n : Int) ≤ 255 := by omega
  have c1 : (1 : Int) ≤ (c : Int) := by omega
  have c2 : (c : Int) ≤ 255 := by omega
  have c3 : (n : Int) + (c : Int) ≤ 256 := by omega
  have n4 : (n : Int) ≤ 40 := by omega
  have n5 : (n : Int) ≤ 12 := by omega
  have n6 : (12 : Int) < (c : Int) := by omega
  have hnt := hnot
  go_enter Try.func9, Try.ntmps9
  go_wp2_with fail
  refine (new_any w).mono ?_
  rintro e w1 ⟨rfl, hw1⟩
  have HL : Hid (Lw w w.heap.size w1) := hw1 ▸ Lw.start w
  clear hw1
  go_wp2_with fail
  refine (one_yes n w1 (by omega) (by omega)).mono ?_
  rintro e w2 ⟨g2, G2, rfl, hfl2, hk2⟩
  have HL2 := Lib.hid (HL.out.k hk2)
  obtain ⟨ao2, n2, cap2, us2, e2, hcap2, hmx2, hmv2⟩ := hfl2.ms (by omega) (by omega)
  cases e2
  have HM2 := Lib.hid hmv2
  clear hfl2 hk2 hmv2 hcap2 hmx2
  go_wp2_with fail
  refine (cauchy_yes w.heap.size n c w2 HL2.out.at_ (by omega) (by omega) (by omega)).mono ?_
  rintro e w3 ⟨g3, G3, rfl, hfl3, hq3⟩
  have HL3 := Lib.hid (HL2.out.q hq3)
  have HK3 := Lib.hid hq3.keep
  obtain ⟨ao3, n3, cap3, us3, e3, hcap3, hmx3, hmv3⟩ := hfl3.ms (by omega) (by omega)
  cases e3
  have HM3 := Lib.hid hmv3
  clear hfl3 hq3 hmv3 hcap3 hmx3
  go_wp2_with fail
  refine (refone_any n w3 (by omega)).mono ?_
  rintro e w4 ⟨v4, rfl, hgr, hk4⟩
  obtain ⟨ao4, cap4, rfl, _, _⟩ := hgr.len
  obtain ⟨us4, hmv4⟩ := hgr.mv
  have HM4 := Lib.hid hmv4
  have HL4 := Lib.hid (HL3.out.k hk4)
  have HK4 := Lib.hid hk4
  have HLEN : Hid ((oneM n).length = n) := by show (oneM n).length = n; simp [oneM]
  clear hgr hk4 hmv4
  go_wp2_with fail
  refine (refsame_any _ _ _ _ n _ n cap4 us2 us4 _ _ w4 ((HM2.out.keep HK3.out (fun b _ (hb : w1.heap.size ≤ b) (e : b = w.heap.size) => absurd hb (by have h1 := HL.out.at_.lt; omega))).keep HK4.out (fun _ _ _ => id)) HM4.out (by omega) (by have := HLEN.out; omega)).mono ?_
  rintro e w5 ⟨rfl, hk5⟩
  have HL5 := Lib.hid (HL4.out.k hk5)
  have HK5 := Lib.hid (HK4.out.trans hk5)
  rw [show (((List.range n).map (oneRow n)) == oneM n) = true from same_self _]
  clear hk5
  go_wp2_with fail
  refine (one5_any _).mono ?_
  rintro e w8 ⟨rfl, hk8⟩
  have HL8 := Lib.hid (HL5.out.k hk8)
  clear hk8
  go_wp2_with fail
  go_ret
  exact ⟨rfl, HL8.out.below⟩

set_option maxRecDepth 100000 in
set_option maxHeartbeats 4000000 in
theorem matMakes_cyn (n c : Nat) (hn1 : 1 ≤ n) (hcc1 : 1 ≤ c) (hnc : n + c ≤ 256) (h40 : n ≤ 40) (h12 : 12 < n) (w : World) :
    Calls Try.prog 9 #[.int .i64 n, .int .i64 c] w fun e w' => e = .returned (.bool true) ∧ Below w.heap.size w w' := by
  have n1 : (1 : Int) ≤ (n : Int) := by omega
  have n2 : (n : Int) ≤ 255 := by omega
  have c1 : (1 : Int) ≤ (c : Int) := by omega
  have c2 : (c : Int) ≤ 255 := by omega
  have c3 : (n : Int) + (c : Int) ≤ 256 := by omega
  have n4 : (n : Int) ≤ 40 := by omega
  have n5 : (12 : Int) < (n : Int) := by omega
  have hnt := hnot
  go_enter Try.func9, Try.ntmps9
  go_wp2_with fail
  refine (new_any w).mono ?_
  rintro e w1 ⟨rfl, hw1⟩
  have HL : Hid (Lw w w.heap.size w1) := hw1 ▸ Lw.start w
  clear hw1
  go_wp2_with fail
  refine (one_yes n w1 (by omega) (by omega)).mono ?_
  rintro e w2 ⟨g2, G2, rfl, hfl2, hk2⟩
  have HL2 := Lib.hid (HL.out.k hk2)
  obtain ⟨ao2, n2, cap2, us2, e2, hcap2, hmx2, hmv2⟩ := hfl2.ms (by omega) (by omega)
  cases e2
  have HM2 := Lib.hid hmv2
  clear hfl2 hk2 hmv2 hcap2 hmx2
  go_wp2_with fail
  refine (cauchy_yes w.heap.size n c w2 HL2.out.at_ (by omega) (by omega) (by omega)).mono ?_
  rintro e w3 ⟨g3, G3, rfl, hfl3, hq3⟩
  have HL3 := Lib.hid (HL2.out.q hq3)
  have HK3 := Lib.hid hq3.keep
  obtain ⟨ao3, n3, cap3, us3, e3, hcap3, hmx3, hmv3⟩ := hfl3.ms (by omega) (by omega)
  cases e3
  have HM3 := Lib.hid hmv3
  clear hfl3 hq3 hmv3 hcap3 hmx3
  go_wp2_with fail
  refine (refone_any n w3 (by omega)).mono ?_
  rintro e w4 ⟨v4, rfl, hgr, hk4⟩
  obtain ⟨ao4, cap4, rfl, _, _⟩ := hgr.len
  obtain ⟨us4, hmv4⟩ := hgr.mv
  have HM4 := Lib.hid hmv4
  have HL4 := Lib.hid (HL3.out.k hk4)
  have HK4 := Lib.hid hk4
  have HLEN : Hid ((oneM n).length = n) := by show (oneM n).length = n; simp [oneM]
  clear hgr hk4 hmv4
  go_wp2_with fail
  refine (refsame_any _ _ _ _ n _ n cap4 us2 us4 _ _ w4 ((HM2.out.keep HK3.out (fun b _ (hb : w1.heap.size ≤ b) (e : b = w.heap.size) => absurd hb (by have h1 := HL.out.at_.lt; omega))).keep HK4.out (fun _ _ _ => id)) HM4.out (by omega) (by have := HLEN.out; omega)).mono ?_
  rintro e w5 ⟨rfl, hk5⟩
  have HL5 := Lib.hid (HL4.out.k hk5)
  have HK5 := Lib.hid (HK4.out.trans hk5)
  rw [show (((List.range n).map (oneRow n)) == oneM n) = true from same_self _]
  clear hk5
  go_wp2_with fail
  refine (one5_any _).mono ?_
  rintro e w8 ⟨rfl, hk8⟩
  have HL8 := Lib.hid (HL5.out.k hk8)
  clear hk8
  go_wp2_with fail
  go_ret
  exact ⟨rfl, HL8.out.below⟩

set_option maxRecDepth 100000 in
set_option maxHeartbeats 4000000 in
theorem matMakes_cnn (n c : Nat) (hn1 : 1 ≤ n) (hcc1 : 1 ≤ c) (hnc : n + c ≤ 256) (h40 : 40 < n)  (w : World) :
    Calls Try.prog 9 #[.int .i64 n, .int .i64 c] w fun e w' => e = .returned (.bool true) ∧ Below w.heap.size w w' := by
  have n1 : (1 : Int) ≤ (n : Int) := by omega
  have n2 : (n : Int) ≤ 255 := by omega
  have c1 : (1 : Int) ≤ (c : Int) := by omega
  have c2 : (c : Int) ≤ 255 := by omega
  have c3 : (n : Int) + (c : Int) ≤ 256 := by omega
  have n4 : (40 : Int) < (n : Int) := by omega
  have n5 : (12 : Int) < (n : Int) := by omega
  have hnt := hnot
  go_enter Try.func9, Try.ntmps9
  go_wp2_with fail
  refine (new_any w).mono ?_
  rintro e w1 ⟨rfl, hw1⟩
  have HL : Hid (Lw w w.heap.size w1) := hw1 ▸ Lw.start w
  clear hw1
  go_wp2_with fail
  refine (one_yes n w1 (by omega) (by omega)).mono ?_
  rintro e w2 ⟨g2, G2, rfl, hfl2, hk2⟩
  have HL2 := Lib.hid (HL.out.k hk2)
  obtain ⟨ao2, n2, cap2, us2, e2, hcap2, hmx2, hmv2⟩ := hfl2.ms (by omega) (by omega)
  cases e2
  have HM2 := Lib.hid hmv2
  clear hfl2 hk2 hmv2 hcap2 hmx2
  go_wp2_with fail
  refine (cauchy_yes w.heap.size n c w2 HL2.out.at_ (by omega) (by omega) (by omega)).mono ?_
  rintro e w3 ⟨g3, G3, rfl, hfl3, hq3⟩
  have HL3 := Lib.hid (HL2.out.q hq3)
  have HK3 := Lib.hid hq3.keep
  obtain ⟨ao3, n3, cap3, us3, e3, hcap3, hmx3, hmv3⟩ := hfl3.ms (by omega) (by omega)
  cases e3
  have HM3 := Lib.hid hmv3
  clear hfl3 hq3 hmv3 hcap3 hmx3
  go_wp2_with fail
  refine (one5_any _).mono ?_
  rintro e w8 ⟨rfl, hk8⟩
  have HL8 := Lib.hid (HL3.out.k hk8)
  clear hk8
  go_wp2_with fail
  go_ret
  exact ⟨rfl, HL8.out.below⟩

theorem matMakes_walk (r c : Int) (hr : -9223372036854775808 ≤ r ∧ r ≤ 9223372036854775807) (hc : -9223372036854775808 ≤ c ∧ c ≤ 9223372036854775807) (w : World) :
    Calls Try.prog 9 #[.int .i64 r, .int .i64 c] w fun e w' => e = .returned (.bool true) ∧ Below w.heap.size w w' := by
  rcases ilt_or r 1 with h1 | h1
  · exact matMakes_a1 r c hr hc h1 w
  rcases ilt_or 255 r with h2 | h2
  · exact matMakes_a2 r c hr hc h1 h2 w
  obtain ⟨n, rfl⟩ := Int.eq_ofNat_of_zero_le (show 0 ≤ r by omega)
  have hn1 : 1 ≤ n := by omega
  have hn2 : n ≤ 255 := by omega
  rcases Nat.lt_or_ge 40 n with h40 | h40
  · rcases ilt_or c 1 with h3 | h3
    · exact matMakes_b1n n c hn1 hn2 hc h3 h40 w
    rcases ilt_or 255 c with h4 | h4
    · exact matMakes_b2n n c hn1 hn2 hc h3 h4 h40 w
    rcases ilt_or 256 ((n : Int) + c) with h5 | h5
    · exact matMakes_b3n n c hn1 hn2 hc h3 h4 h5 h40 w
    obtain ⟨c, rfl⟩ := Int.eq_ofNat_of_zero_le (show 0 ≤ c by omega)
    exact matMakes_cnn n c hn1 (by omega) (by omega) h40 w
  · rcases ilt_or c 1 with h3 | h3
    · exact matMakes_b1y n c hn1 hn2 hc h3 h40 w
    rcases ilt_or 255 c with h4 | h4
    · exact matMakes_b2y n c hn1 hn2 hc h3 h4 h40 w
    rcases ilt_or 256 ((n : Int) + c) with h5 | h5
    · exact matMakes_b3y n c hn1 hn2 hc h3 h4 h5 h40 w
    obtain ⟨c, rfl⟩ := Int.eq_ofNat_of_zero_le (show 0 ≤ c by omega)
    rcases Nat.lt_or_ge 12 n with h6 | h6
    · exact matMakes_cyn n c hn1 (by omega) (by omega) h40 h6 w
    rcases Nat.lt_or_ge 12 c with h7 | h7
    · exact matMakes_cym n c hn1 (by omega) (by omega) h40 h6 h7 w
    · exact matMakes_cyy n c hn1 (by omega) (by omega) h40 h6 h7 w
end Go.Proofs.Ytegecjilpmkamaa

