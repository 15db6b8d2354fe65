/-
  The walk of the law 'MatRows'.
-/
import Derived.Test.YtegecjilpmkamaaMatRowsa
namespace Go.Proofs.Ytegecjilpmkamaa
open Go.RowKit Sb


set_option maxRecDepth 100000 in
set_option maxHeartbeats 8000000 in
theorem matRows_u_mb (a1 a2 a3 : Option Addr) (n1 n2 k c1 c2 ck : Nat) (us vs : List Value) (a b : List (List UInt8)) (l : List Int) (w : World) (h1 : Mv (· < w.heap.size) w a1 n1 us a) (h2 : Mv (· < w.heap.size) w a2 n2 vs b) (h3 : Nn (· < w.heap.size) w a3 k l) (hfa : few a 20 = true) (hfb : few b 20 = true) (hk300 : k ≤ 300) (hma : mright a = true) (hmb : mright b = false) (hk0 : 1 ≤ k ∧ k ≤ 255) (hnm : named n1 l = false) :
    Calls Try.prog 10 #[.slice a1 n1 c1, .slice a2 n2 c2, .slice a3 k ck] w fun e w' => e = .returned (.bool true) ∧ Keep (fun _ => False) w w' := by
  have HN1 : Hid (n1 ≤ 20) := by
    have h3 := (few_spec hfa).1
    rw [h1.len] at h3
    exact h3
  have HN2 : Hid (n2 ≤ 20) := by
    have h3 := (few_spec hfb).1
    rw [h2.len] at h3
    exact h3
  have t1 : (n1 : Int) ≤ 20 := by have := HN1.out; omega
  have t2 : (n2 : Int) ≤ 20 := by have := HN2.out; omega
  have t3 : (k : Int) ≤ 300 := Int.ofNat_le.2 hk300
  have hnt := hnot
  have HA := Lib.hid hfa
  have HB := Lib.hid hfb
  have HMA := Lib.hid hma
  have HLL : Hid (l.length = k) := h3.len
  have HMB := Lib.hid hmb
  have HBA := Lib.hid (right_bounds h1.len hma)
  obtain ⟨qa, oa, aa, ca, capa, ra, rfl, _, hu, hm0, hca, _, hmx, hrb⟩ := h1.at_ (k := 0) (by have := HBA.out; omega)
  rw [Nat.add_zero] at hca
  have hmc := mcols_at hm0
  rw [hrb.len] at hmc
  have HMC := Lib.hid hmc
  have HCA := Lib.hid hca
  have HLA := Lib.hid (World.block_lt_of_cell? _ _ hca)
  have HROWA : Hid (∀ r ∈ a, r.length = ca) := fun r hr => ((of_mright hma).2.2 r hr).trans hmc
  have pa : (0 : Int) < (n1 : Int) := by have := HBA.out; omega
  have pa' : 0 < n1 := by have := HBA.out; omega
  clear hu hm0 hca hmx hrb
  have kk : (1 : Int) ≤ (k : Int) := by omega
  have kk2 : (k : Int) ≤ 255 := by omega
  have HKO := Lib.hid hk0
  have HNM := Lib.hid hnm
  have H1 := Lib.hid h1
  have H2 := Lib.hid h2
  have H3 := Lib.hid h3
  clear h1 h2 h3 hfa hfb hma hk300 hmb hk0 hmc hnm
  go_enter Try.func10, Try.ntmps10
  go_wp2_with fail
  refine (few_yes _ _ n1 c1 20 us a w H1.out (by omega) HA.out).mono ?_
  rintro e w1 ⟨rfl, hk⟩
  have HK1 := Lib.hid hk
  clear hk
  go_wp2_with fail
  refine (few_yes _ _ n2 c2 20 vs b w1 (H2.out.keep HK1.out (fun _ _ _ => id)) (by omega) HB.out).mono ?_
  rintro e w2 ⟨rfl, hk⟩
  have HK2 := Lib.hid (HK1.out.trans hk)
  clear hk
  go_wp2_with fail
  refine (rows_any _ _ _ _ n1 c1 k ck us a l w2 (H1.out.keep HK2.out (fun _ _ _ => id)) (H3.out.keep HK2.out (fun _ _ _ => id)) HMA.out HKO.out.1 HKO.out.2).mono ?_
  rintro e w3 ⟨hk, hcase⟩
  have HK3 := Lib.hid (HK2.out.trans hk)
  clear hk
  rcases hcase with ⟨_, rfl⟩ | ⟨hno, _⟩
  case inr =>
    rw [HNM.out] at hno
    cases hno
  go_wp2_with fail
  refine (refright_is _ _ n1 c1 us a w3 true (H1.out.keep HK3.out (fun _ _ _ => id)) (by have := HN1.out; omega) HMA.out).mono ?_
  rintro e w4 ⟨rfl, hk⟩
  have HK4 := Lib.hid (HK3.out.trans hk)
  clear hk
  go_wp2_with fail
  go_loopw [9, 10] (fun u i wr => ∃ (j : Nat) (t : Bool), j ≤ k ∧ i = .int .i64 (j : Int) ∧ u = .bool t ∧ Hid (t = named n1 (l.take j) ∧ wr = w4)) (fun _ i _ => k - (intOf i).toNat)
  case atStart => exact ⟨0, true, Nat.zero_le _, rfl, rfl, rfl, rfl⟩
  case round =>
    obtain ⟨j, t, hj, rfl, rfl, HI⟩ := hrel
    have hwr := HI.out.2
    subst hwr
    by_cases hlt : j < k
    · have j0 : (0 : Int) ≤ (j : Int) := by omega
      have jn : (j : Int) < (k : Int) := by omega
      have jN : j < k := hlt
      have HLT := Lib.hid hlt
      obtain ⟨b3, o3, z, rfl, _, hz, hcz⟩ := (H3.out.keep HK4.out (fun _ _ _ => id)).at_ hlt
      have HST := Lib.hid (named_step (n := n1) hz)
      clear hlt hz
      cases t with
      | false =>
        have HT : Hid (named n1 (l.take j) = false) := HI.out.1.symm
        go_wp2_with fail
        go_roundw
        case rel => exact ⟨j + 1, false, by have := HLT.out; omega, by go_num, rfl, by rw [HST.out, HT.out]; rfl, by first | rfl | trivial⟩
        case measure => have := HLT.out; simp [intOf]; omega
      | true =>
        have HT : Hid (named n1 (l.take j) = true) := HI.out.1.symm
        by_cases hz0 : z < 0
        · have HZ : Hid (decide (0 ≤ z ∧ z < (n1 : Int)) = false) := decide_eq_false (by omega)
          have d1 : decide (0 ≤ z) = false := decide_eq_false (by omega)
          go_wp2_with fail
          go_roundw
          case rel => exact ⟨j + 1, false, by have := HLT.out; omega, by go_num, rfl, by rw [HST.out, HT.out, HZ.out]; rfl, by first | rfl | trivial⟩
          case measure => have := HLT.out; simp [intOf]; omega
        · have hz1 : 0 ≤ z := by omega
          have d1 : decide (0 ≤ z) = true := decide_eq_true hz1
          clear hz0
          by_cases hzn : z < (n1 : Int)
          · have HZ : Hid (decide (0 ≤ z ∧ z < (n1 : Int)) = true) := decide_eq_true ⟨hz1, hzn⟩
            have d2 : decide (z < (n1 : Int)) = true := decide_eq_true hzn
            go_wp2_with fail
            go_roundw
            case rel => exact ⟨j + 1, true, by have := HLT.out; omega, by go_num, rfl, by rw [HST.out, HT.out, HZ.out]; rfl, by first | rfl | trivial⟩
            case measure => have := HLT.out; simp [intOf]; omega
          · have HZ : Hid (decide (0 ≤ z ∧ z < (n1 : Int)) = false) := decide_eq_false (by omega)
            have d2 : decide (z < (n1 : Int)) = false := decide_eq_false hzn
            have d3 : (n1 : Int) ≤ z := by omega
            clear hzn
            go_wp2_with fail
            go_roundw
            case rel => exact ⟨j + 1, false, by have := HLT.out; omega, by go_num, rfl, by rw [HST.out, HT.out, HZ.out]; rfl, by first | rfl | trivial⟩
            case measure => have := HLT.out; simp [intOf]; omega
    · have hkn : (k : Int) ≤ (j : Int) := by omega
      have hd : decide (j < k) = false := decide_eq_false hlt
      have hje : j = k := by omega
      have ht := HI.out.1
      rw [hje, List.take_of_length_le (by rw [HLL.out]; omega), HNM.out] at ht
      subst ht
      clear hje
      clear hlt hj HI
      go_wp2_with fail
      clear hkn hd
      go_loopw [11] (fun i wx => ∃ j d : Nat, j ≤ k ∧ i = .int .i64 (j : Int) ∧ Hid (wx = wr.drewN d)) (fun i _ => k - (intOf i).toNat)
      case atStart => exact ⟨0, 0, Nat.zero_le _, rfl, rfl⟩
      case round =>
        obtain ⟨j, d, hj, rfl, HD⟩ := hrel
        obtain ⟨wq, rfl⟩ : ∃ wq : World, wq = wr := ⟨_, rfl⟩
        have HKQ : Hid (Keep (fun _ => False) w wq) := by
          rw [HD.out]
          exact HK4.out.drewN d
        clear hj HD
        go_wp2_with fail
        have HJF : Hid (jfit a b = false) := by show jfit a b = false; rw [jfit, HMA.out, HMB.out]; rfl
        refine (join_no _ _ _ _ n1 n2 c1 c2 us vs a b wq (H1.out.keep HKQ.out (fun _ _ _ => id)) (H2.out.keep HKQ.out (fun _ _ _ => id)) (by have := HN1.out; omega) (by have := HN2.out; omega) HJF.out).mono ?_
        rintro e w8 ⟨rfl, hk⟩
        have HK8 := Lib.hid (HKQ.out.trans hk)
        clear hk
        go_wp2_with fail
        go_quiet ((first | (go_at_call_of 49 (Value.slice (some ⟨qa, oa, none⟩) n1 c1); exact Calls.quiet_of (refright_q (· < w.heap.size) _ n1 c1 us a _ true ((H1.out.keep HK8.out (fun _ _ _ => id)).drewN _) (by have := HN1.out; omega) HMA.out)) | (go_at_call_of 49 (Value.slice a2 n2 c2); exact Calls.quiet_of (refright_q (· < w.heap.size) _ n2 c2 vs b _ false ((H2.out.keep HK8.out (fun _ _ _ => id)).drewN _) (by have := HN2.out; omega) HMB.out))))
        have HK9 := Lib.hid (HK8.out.drewN nq)
        go_wp2_with fail
        refine (one5_any _).mono ?_
        rintro e w12 ⟨rfl, hk⟩
        have HK12 := Lib.hid (HK9.out.trans hk)
        clear hk
        go_wp2_with fail
        go_ret
        exact ⟨rfl, HK12.out⟩

set_option maxRecDepth 100000 in
set_option maxHeartbeats 8000000 in
theorem matRows_u_cols (a1 a2 a3 : Option Addr) (n1 n2 k c1 c2 ck : Nat) (us vs : List Value) (a b : List (List UInt8)) (l : List Int) (w : World) (h1 : Mv (· < w.heap.size) w a1 n1 us a) (h2 : Mv (· < w.heap.size) w a2 n2 vs b) (h3 : Nn (· < w.heap.size) w a3 k l) (hfa : few a 20 = true) (hfb : few b 20 = true) (hk300 : k ≤ 300) (hma : mright a = true) (hmb : mright b = true) (hcol : mcols a ≠ mcols b) (hk0 : 1 ≤ k ∧ k ≤ 255) (hnm : named n1 l = false) :
    Calls Try.prog 10 #[.slice a1 n1 c1, .slice a2 n2 c2, .slice a3 k ck] w fun e w' => e = .returned (.bool true) ∧ Keep (fun _ => False) w w' := by
  have HN1 : Hid (n1 ≤ 20) := by
    have h3 := (few_spec hfa).1
    rw [h1.len] at h3
    exact h3
  have HN2 : Hid (n2 ≤ 20) := by
    have h3 := (few_spec hfb).1
    rw [h2.len] at h3
    exact h3
  have t1 : (n1 : Int) ≤ 20 := by have := HN1.out; omega
  have t2 : (n2 : Int) ≤ 20 := by have := HN2.out; omega
  have t3 : (k : Int) ≤ 300 := Int.ofNat_le.2 hk300
  have hnt := hnot
  have HA := Lib.hid hfa
  have HB := Lib.hid hfb
  have HMA := Lib.hid hma
  have HLL : Hid (l.length = k) := h3.len
  have HMB := Lib.hid hmb
  have HBA := Lib.hid (right_bounds h1.len hma)
  obtain ⟨qa, oa, aa, ca, capa, ra, rfl, _, hu, hm0, hca, _, hmx, hrb⟩ := h1.at_ (k := 0) (by have := HBA.out; omega)
  rw [Nat.add_zero] at hca
  have hmc := mcols_at hm0
  rw [hrb.len] at hmc
  have HMC := Lib.hid hmc
  have HCA := Lib.hid hca
  have HLA := Lib.hid (World.block_lt_of_cell? _ _ hca)
  have HROWA : Hid (∀ r ∈ a, r.length = ca) := fun r hr => ((of_mright hma).2.2 r hr).trans hmc
  have pa : (0 : Int) < (n1 : Int) := by have := HBA.out; omega
  have pa' : 0 < n1 := by have := HBA.out; omega
  clear hu hm0 hca hmx hrb
  have kk : (1 : Int) ≤ (k : Int) := by omega
  have kk2 : (k : Int) ≤ 255 := by omega
  have HKO := Lib.hid hk0
  have HNM := Lib.hid hnm
  have HBB := Lib.hid (right_bounds h2.len hmb)
  obtain ⟨qb, ob, ab, L, capb, rb, rfl, _, hub, hmb0, hcb, _, hmxb, hrbb⟩ := h2.at_ (k := 0) (by have := HBB.out; omega)
  rw [Nat.add_zero] at hcb
  have hlc := mcols_at hmb0
  rw [hrbb.len] at hlc
  have HLC := Lib.hid hlc
  have HCBB := Lib.hid hcb
  have HLB := Lib.hid (World.block_lt_of_cell? _ _ hcb)
  have pb : (0 : Int) < (n2 : Int) := by have := HBB.out; omega
  have pb' : 0 < n2 := by have := HBB.out; omega
  have e1 : ((ca : Int) == (L : Int)) = false := by rw [beq_eq_false_iff_ne]; omega
  have HCOL := Lib.hid hcol
  clear hub hmb0 hcb hmxb hrbb hlc hcol
  have H1 := Lib.hid h1
  have H2 := Lib.hid h2
  have H3 := Lib.hid h3
  clear h1 h2 h3 hfa hfb hma hk300 hmb hk0 hmc hnm
  go_enter Try.func10, Try.ntmps10
  go_wp2_with fail
  refine (few_yes _ _ n1 c1 20 us a w H1.out (by omega) HA.out).mono ?_
  rintro e w1 ⟨rfl, hk⟩
  have HK1 := Lib.hid hk
  clear hk
  go_wp2_with fail
  refine (few_yes _ _ n2 c2 20 vs b w1 (H2.out.keep HK1.out (fun _ _ _ => id)) (by omega) HB.out).mono ?_
  rintro e w2 ⟨rfl, hk⟩
  have HK2 := Lib.hid (HK1.out.trans hk)
  clear hk
  go_wp2_with fail
  refine (rows_any _ _ _ _ n1 c1 k ck us a l w2 (H1.out.keep HK2.out (fun _ _ _ => id)) (H3.out.keep HK2.out (fun _ _ _ => id)) HMA.out HKO.out.1 HKO.out.2).mono ?_
  rintro e w3 ⟨hk, hcase⟩
  have HK3 := Lib.hid (HK2.out.trans hk)
  clear hk
  rcases hcase with ⟨_, rfl⟩ | ⟨hno, _⟩
  case inr =>
    rw [HNM.out] at hno
    cases hno
  go_wp2_with fail
  refine (refright_is _ _ n1 c1 us a w3 true (H1.out.keep HK3.out (fun _ _ _ => id)) (by have := HN1.out; omega) HMA.out).mono ?_
  rintro e w4 ⟨rfl, hk⟩
  have HK4 := Lib.hid (HK3.out.trans hk)
  clear hk
  go_wp2_with fail
  go_loopw [9, 10] (fun u i wr => ∃ (j : Nat) (t : Bool), j ≤ k ∧ i = .int .i64 (j : Int) ∧ u = .bool t ∧ Hid (t = named n1 (l.take j) ∧ wr = w4)) (fun _ i _ => k - (intOf i).toNat)
  case atStart => exact ⟨0, true, Nat.zero_le _, rfl, rfl, rfl, rfl⟩
  case round =>
    obtain ⟨j, t, hj, rfl, rfl, HI⟩ := hrel
    have hwr := HI.out.2
    subst hwr
    by_cases hlt : j < k
    · have j0 : (0 : Int) ≤ (j : Int) := by omega
      have jn : (j : Int) < (k : Int) := by omega
      have jN : j < k := hlt
      have HLT := Lib.hid hlt
      obtain ⟨b3, o3, z, rfl, _, hz, hcz⟩ := (H3.out.keep HK4.out (fun _ _ _ => id)).at_ hlt
      have HST := Lib.hid (named_step (n := n1) hz)
      clear hlt hz
      cases t with
      | false =>
        have HT : Hid (named n1 (l.take j) = false) := HI.out.1.symm
        go_wp2_with fail
        go_roundw
        case rel => exact ⟨j + 1, false, by have := HLT.out; omega, by go_num, rfl, by rw [HST.out, HT.out]; rfl, by first | rfl | trivial⟩
        case measure => have := HLT.out; simp [intOf]; omega
      | true =>
        have HT : Hid (named n1 (l.take j) = true) := HI.out.1.symm
        by_cases hz0 : z < 0
        · have HZ : Hid (decide (0 ≤ z ∧ z < (n1 : Int)) = false) := decide_eq_false (by omega)
          have d1 : decide (0 ≤ z) = false := decide_eq_false (by omega)
          go_wp2_with fail
          go_roundw
          case rel => exact ⟨j + 1, false, by have := HLT.out; omega, by go_num, rfl, by rw [HST.out, HT.out, HZ.out]; rfl, by first | rfl | trivial⟩
          case measure => have := HLT.out; simp [intOf]; omega
        · have hz1 : 0 ≤ z := by omega
          have d1 : decide (0 ≤ z) = true := decide_eq_true hz1
          clear hz0
          by_cases hzn : z < (n1 : Int)
          · have HZ : Hid (decide (0 ≤ z ∧ z < (n1 : Int)) = true) := decide_eq_true ⟨hz1, hzn⟩
            have d2 : decide (z < (n1 : Int)) = true := decide_eq_true hzn
            go_wp2_with fail
            go_roundw
            case rel => exact ⟨j + 1, true, by have := HLT.out; omega, by go_num, rfl, by rw [HST.out, HT.out, HZ.out]; rfl, by first | rfl | trivial⟩
            case measure => have := HLT.out; simp [intOf]; omega
          · have HZ : Hid (decide (0 ≤ z ∧ z < (n1 : Int)) = false) := decide_eq_false (by omega)
            have d2 : decide (z < (n1 : Int)) = false := decide_eq_false hzn
            have d3 : (n1 : Int) ≤ z := by omega
            clear hzn
            go_wp2_with fail
            go_roundw
            case rel => exact ⟨j + 1, false, by have := HLT.out; omega, by go_num, rfl, by rw [HST.out, HT.out, HZ.out]; rfl, by first | rfl | trivial⟩
            case measure => have := HLT.out; simp [intOf]; omega
    · have hkn : (k : Int) ≤ (j : Int) := by omega
      have hd : decide (j < k) = false := decide_eq_false hlt
      have hje : j = k := by omega
      have ht := HI.out.1
      rw [hje, List.take_of_length_le (by rw [HLL.out]; omega), HNM.out] at ht
      subst ht
      clear hje
      clear hlt hj HI
      go_wp2_with fail
      clear hkn hd
      go_loopw [11] (fun i wx => ∃ j d : Nat, j ≤ k ∧ i = .int .i64 (j : Int) ∧ Hid (wx = wr.drewN d)) (fun i _ => k - (intOf i).toNat)
      case atStart => exact ⟨0, 0, Nat.zero_le _, rfl, rfl⟩
      case round =>
        obtain ⟨j, d, hj, rfl, HD⟩ := hrel
        obtain ⟨wq, rfl⟩ : ∃ wq : World, wq = wr := ⟨_, rfl⟩
        have HKQ : Hid (Keep (fun _ => False) w wq) := by
          rw [HD.out]
          exact HK4.out.drewN d
        clear hj HD
        go_wp2_with fail
        have HJF : Hid (jfit a b = false) := by show jfit a b = false; rw [jfit, HMA.out, HMB.out, decide_eq_false HCOL.out]; rfl
        refine (join_no _ _ _ _ n1 n2 c1 c2 us vs a b wq (H1.out.keep HKQ.out (fun _ _ _ => id)) (H2.out.keep HKQ.out (fun _ _ _ => id)) (by have := HN1.out; omega) (by have := HN2.out; omega) HJF.out).mono ?_
        rintro e w8 ⟨rfl, hk⟩
        have HK8 := Lib.hid (HKQ.out.trans hk)
        clear hk
        have hca8 := (HK8.out.cell (p := ⟨qa, oa, none⟩) HLA.out id).trans HCA.out
        have hcb8 := (HK8.out.cell (p := ⟨qb, ob, none⟩) HLB.out id).trans HCBB.out
        go_wp2_with fail
        go_quiet ((first | (go_at_call_of 49 (Value.slice (some ⟨qa, oa, none⟩) n1 c1); exact Calls.quiet_of (refright_q (· < w.heap.size) _ n1 c1 us a _ true ((H1.out.keep HK8.out (fun _ _ _ => id)).drewN _) (by have := HN1.out; omega) HMA.out)) | (go_at_call_of 49 (Value.slice (some ⟨qb, ob, none⟩) n2 c2); exact Calls.quiet_of (refright_q (· < w.heap.size) _ n2 c2 vs b _ true ((H2.out.keep HK8.out (fun _ _ _ => id)).drewN _) (by have := HN2.out; omega) HMB.out))))
        clear hca8 hcb8
        have HK9 := Lib.hid (HK8.out.drewN nq)
        go_wp2_with fail
        refine (one5_any _).mono ?_
        rintro e w12 ⟨rfl, hk⟩
        have HK12 := Lib.hid (HK9.out.trans hk)
        clear hk
        go_wp2_with fail
        go_ret
        exact ⟨rfl, HK12.out⟩

set_option maxRecDepth 100000 in
set_option maxHeartbeats 8000000 in
theorem matRows_u_yes (a1 a2 a3 : Option Addr) (n1 n2 k c1 c2 ck : Nat) (us vs : List Value) (a b : List (List UInt8)) (l : List Int) (w : World) (h1 : Mv (· < w.heap.size) w a1 n1 us a) (h2 : Mv (· < w.heap.size) w a2 n2 vs b) (h3 : Nn (· < w.heap.size) w a3 k l) (hfa : few a 20 = true) (hfb : few b 20 = true) (hk300 : k ≤ 300) (hma : mright a = true) (hmb : mright b = true) (hcol : mcols a = mcols b) (hk0 : 1 ≤ k ∧ k ≤ 255) (hnm : named n1 l = false) :
    Calls Try.prog 10 #[.slice a1 n1 c1, .slice a2 n2 c2, .slice a3 k ck] w fun e w' => e = .returned (.bool true) ∧ Keep (fun _ => False) w w' := by
  have HN1 : Hid (n1 ≤ 20) := by
    have h3 := (few_spec hfa).1
    rw [h1.len] at h3
    exact h3
  have HN2 : Hid (n2 ≤ 20) := by
    have h3 := (few_spec hfb).1
    rw [h2.len] at h3
    exact h3
  have t1 : (n1 : Int) ≤ 20 := by have := HN1.out; omega
  have t2 : (n2 : Int) ≤ 20 := by have := HN2.out; omega
  have t3 : (k : Int) ≤ 300 := Int.ofNat_le.2 hk300
  have hnt := hnot
  have HA := Lib.hid hfa
  have HB := Lib.hid hfb
  have HMA := Lib.hid hma
  have HLL : Hid (l.length = k) := h3.len
  have HMB := Lib.hid hmb
  have HBA := Lib.hid (right_bounds h1.len hma)
  obtain ⟨qa, oa, aa, ca, capa, ra, rfl, _, hu, hm0, hca, _, hmx, hrb⟩ := h1.at_ (k := 0) (by have := HBA.out; omega)
  rw [Nat.add_zero] at hca
  have hmc := mcols_at hm0
  rw [hrb.len] at hmc
  have HMC := Lib.hid hmc
  have HCA := Lib.hid hca
  have HLA := Lib.hid (World.block_lt_of_cell? _ _ hca)
  have HROWA : Hid (∀ r ∈ a, r.length = ca) := fun r hr => ((of_mright hma).2.2 r hr).trans hmc
  have pa : (0 : Int) < (n1 : Int) := by have := HBA.out; omega
  have pa' : 0 < n1 := by have := HBA.out; omega
  clear hu hm0 hca hmx hrb
  have kk : (1 : Int) ≤ (k : Int) := by omega
  have kk2 : (k : Int) ≤ 255 := by omega
  have HKO := Lib.hid hk0
  have HNM := Lib.hid hnm
  have HBB := Lib.hid (right_bounds h2.len hmb)
  obtain ⟨qb, ob, ab, L, capb, rb, rfl, _, hub, hmb0, hcb, _, hmxb, hrbb⟩ := h2.at_ (k := 0) (by have := HBB.out; omega)
  rw [Nat.add_zero] at hcb
  have hlc := mcols_at hmb0
  rw [hrbb.len] at hlc
  have HLC := Lib.hid hlc
  have HCBB := Lib.hid hcb
  have HLB := Lib.hid (World.block_lt_of_cell? _ _ hcb)
  have pb : (0 : Int) < (n2 : Int) := by have := HBB.out; omega
  have pb' : 0 < n2 := by have := HBB.out; omega
  have e1 : ((ca : Int) == (L : Int)) = true := by rw [beq_iff_eq]; omega
  have HCOL := Lib.hid hcol
  clear hub hmb0 hcb hmxb hrbb hlc hcol
  have H1 := Lib.hid h1
  have H2 := Lib.hid h2
  have H3 := Lib.hid h3
  clear h1 h2 h3 hfa hfb hma hk300 hmb hk0 hmc hnm
  go_enter Try.func10, Try.ntmps10
  go_wp2_with fail
  refine (few_yes _ _ n1 c1 20 us a w H1.out (by omega) HA.out).mono ?_
  rintro e w1 ⟨rfl, hk⟩
  have HK1 := Lib.hid hk
  clear hk
  go_wp2_with fail
  refine (few_yes _ _ n2 c2 20 vs b w1 (H2.out.keep HK1.out (fun _ _ _ => id)) (by omega) HB.out).mono ?_
  rintro e w2 ⟨rfl, hk⟩
  have HK2 := Lib.hid (HK1.out.trans hk)
  clear hk
  go_wp2_with fail
  refine (rows_any _ _ _ _ n1 c1 k ck us a l w2 (H1.out.keep HK2.out (fun _ _ _ => id)) (H3.out.keep HK2.out (fun _ _ _ => id)) HMA.out HKO.out.1 HKO.out.2).mono ?_
  rintro e w3 ⟨hk, hcase⟩
  have HK3 := Lib.hid (HK2.out.trans hk)
  clear hk
  rcases hcase with ⟨_, rfl⟩ | ⟨hno, _⟩
  case inr =>
    rw [HNM.out] at hno
    cases hno
  go_wp2_with fail
  refine (refright_is _ _ n1 c1 us a w3 true (H1.out.keep HK3.out (fun _ _ _ => id)) (by have := HN1.out; omega) HMA.out).mono ?_
  rintro e w4 ⟨rfl, hk⟩
  have HK4 := Lib.hid (HK3.out.trans hk)
  clear hk
  go_wp2_with fail
  go_loopw [9, 10] (fun u i wr => ∃ (j : Nat) (t : Bool), j ≤ k ∧ i = .int .i64 (j : Int) ∧ u = .bool t ∧ Hid (t = named n1 (l.take j) ∧ wr = w4)) (fun _ i _ => k - (intOf i).toNat)
  case atStart => exact ⟨0, true, Nat.zero_le _, rfl, rfl, rfl, rfl⟩
  case round =>
    obtain ⟨j, t, hj, rfl, rfl, HI⟩ := hrel
    have hwr := HI.out.2
    subst hwr
    by_cases hlt : j < k
    · have j0 : (0 : Int) ≤ (j : Int) := by omega
      have jn : (j : Int) < (k : Int) := by omega
      have jN : j < k := hlt
      have HLT := Lib.hid hlt
      obtain ⟨b3, o3, z, rfl, _, hz, hcz⟩ := (H3.out.keep HK4.out (fun _ _ _ => id)).at_ hlt
      have HST := Lib.hid (named_step (n := n1) hz)
      clear hlt hz
      cases t with
      | false =>
        have HT : Hid (named n1 (l.take j) = false) := HI.out.1.symm
        go_wp2_with fail
        go_roundw
        case rel => exact ⟨j + 1, false, by have := HLT.out; omega, by go_num, rfl, by rw [HST.out, HT.out]; rfl, by first | rfl | trivial⟩
        case measure => have := HLT.out; simp [intOf]; omega
      | true =>
        have HT : Hid (named n1 (l.take j) = true) := HI.out.1.symm
        by_cases hz0 : z < 0
        · have HZ : Hid (decide (0 ≤ z ∧ z < (n1 : Int)) = false) := decide_eq_false (by omega)
          have d1 : decide (0 ≤ z) = false := decide_eq_false (by omega)
          go_wp2_with fail
          go_roundw
          case rel => exact ⟨j + 1, false, by have := HLT.out; omega, by go_num, rfl, by rw [HST.out, HT.out, HZ.out]; rfl, by first | rfl | trivial⟩
          case measure => have := HLT.out; simp [intOf]; omega
        · have hz1 : 0 ≤ z := by omega
          have d1 : decide (0 ≤ z) = true := decide_eq_true hz1
          clear hz0
          by_cases hzn : z < (n1 : Int)
          · have HZ : Hid (decide (0 ≤ z ∧ z < (n1 : Int)) = true) := decide_eq_true ⟨hz1, hzn⟩
            have d2 : decide (z < (n1 : Int)) = true := decide_eq_true hzn
            go_wp2_with fail
            go_roundw
            case rel => exact ⟨j + 1, true, by have := HLT.out; omega, by go_num, rfl, by rw [HST.out, HT.out, HZ.out]; rfl, by first | rfl | trivial⟩
            case measure => have := HLT.out; simp [intOf]; omega
          · have HZ : Hid (decide (0 ≤ z ∧ z < (n1 : Int)) = false) := decide_eq_false (by omega)
            have d2 : decide (z < (n1 : Int)) = false := decide_eq_false hzn
            have d3 : (n1 : Int) ≤ z := by omega
            clear hzn
            go_wp2_with fail
            go_roundw
            case rel => exact ⟨j + 1, false, by have := HLT.out; omega, by go_num, rfl, by rw [HST.out, HT.out, HZ.out]; rfl, by first | rfl | trivial⟩
            case measure => have := HLT.out; simp [intOf]; omega
    · have hkn : (k : Int) ≤ (j : Int) := by omega
      have hd : decide (j < k) = false := decide_eq_false hlt
      have hje : j = k := by omega
      have ht := HI.out.1
      rw [hje, List.take_of_length_le (by rw [HLL.out]; omega), HNM.out] at ht
      subst ht
      clear hje
      clear hlt hj HI
      go_wp2_with fail
      clear hkn hd
      go_loopw [11] (fun i wx => ∃ j d : Nat, j ≤ k ∧ i = .int .i64 (j : Int) ∧ Hid (wx = wr.drewN d)) (fun i _ => k - (intOf i).toNat)
      case atStart => exact ⟨0, 0, Nat.zero_le _, rfl, rfl⟩
      case round =>
        obtain ⟨j, d, hj, rfl, HD⟩ := hrel
        obtain ⟨wq, rfl⟩ : ∃ wq : World, wq = wr := ⟨_, rfl⟩
        have HKQ : Hid (Keep (fun _ => False) w wq) := by
          rw [HD.out]
          exact HK4.out.drewN d
        clear hj HD
        go_wp2_with fail
        refine (join_yes _ _ _ _ n1 n2 c1 c2 us vs a b wq (H1.out.keep HKQ.out (fun _ _ _ => id)) (H2.out.keep HKQ.out (fun _ _ _ => id)) HMA.out HMB.out HCOL.out (by have := HN1.out; have := HN2.out; omega)).mono ?_
        rintro e w8 ⟨v8, rfl, hgr, hk⟩
        have HK8 := Lib.hid (HKQ.out.trans hk)
        have HLEN : Hid ((a ++ b).length = n1 + n2) := by show (a ++ b).length = n1 + n2; rw [List.length_append, H1.out.len, H2.out.len]
        obtain ⟨ao8, cap8, rfl, hc8, _⟩ := hgr.len
        obtain ⟨ys, hys⟩ := hgr.mv
        rw [HLEN.out] at hys hc8 ⊢
        obtain ⟨q8, o8, _, _, _, _, rfl, _⟩ := hys.at_ (k := 0) (by have := HBA.out; omega)
        have hy1 := hys.take (k := n1) (by omega)
        have hy2 := hys.drop
        rw [List.take_left' H1.out.len] at hy1
        rw [List.drop_left' H1.out.len] at hy2
        have HY1 := Lib.hid hy1
        have HY2 := Lib.hid hy2
        have s1 : (n1 : Int) ≤ (cap8 : Int) := by omega
        have s2 : (n1 : Int) ≤ (n1 : Int) + (n2 : Int) := by omega
        have s3 : (n1 : Int) + (n2 : Int) ≤ (cap8 : Int) := by omega
        clear hk hgr hys hy1 hy2 hc8
        have hca8 := (HK8.out.cell (p := ⟨qa, oa, none⟩) HLA.out id).trans HCA.out
        have hcb8 := (HK8.out.cell (p := ⟨qb, ob, none⟩) HLB.out id).trans HCBB.out
        go_wp2_with fail
        go_quiet ((first | (go_at_call_of 49 (Value.slice (some ⟨qa, oa, none⟩) n1 c1); exact Calls.quiet_of (refright_q (· < w.heap.size) _ n1 c1 us a _ true ((H1.out.keep HK8.out (fun _ _ _ => id)).drewN _) (by have := HN1.out; omega) HMA.out)) | (go_at_call_of 49 (Value.slice (some ⟨qb, ob, none⟩) n2 c2); exact Calls.quiet_of (refright_q (· < w.heap.size) _ n2 c2 vs b _ true ((H2.out.keep HK8.out (fun _ _ _ => id)).drewN _) (by have := HN2.out; omega) HMB.out))))
        clear hca8 hcb8
        have HK9 := Lib.hid (HK8.out.drewN nq)
        go_wp2_with fail
        refine (refsame_is _ _ _ _ n1 n1 _ c1 _ us _ a _ true (HY1.out.drewN nq) (H1.out.keep HK9.out (fun _ _ _ => id)) (by have := HN1.out; omega) (by have := HN1.out; omega) (same_yes rfl)).mono ?_
        rintro e w10 ⟨rfl, hk⟩
        have HK10 := Lib.hid (HK9.out.trans hk)
        have HY10 := Lib.hid (HY2.out.keep (S := fun _ => False) ⟨hk.os, hk.tape, hk.output, hk.size, hk.block⟩ (fun _ _ _ => id))
        clear hk
        go_wp2_with fail
        refine (refsame_is _ _ _ _ n2 n2 _ c2 _ vs _ b w10 true HY10.out (H2.out.keep HK10.out (fun _ _ _ => id)) (by have := HN2.out; omega) (by have := HN2.out; omega) (same_yes rfl)).mono ?_
        rintro e w11 ⟨rfl, hk⟩
        have HK11 := Lib.hid (HK10.out.trans hk)
        clear hk
        go_wp2_with fail
        refine (one5_any _).mono ?_
        rintro e w12 ⟨rfl, hk⟩
        have HK12 := Lib.hid (HK11.out.trans hk)
        clear hk
        go_wp2_with fail
        go_ret
        exact ⟨rfl, HK12.out⟩

set_option maxRecDepth 100000 in
set_option maxHeartbeats 8000000 in
theorem matRows_n_mb (a1 a2 a3 : Option Addr) (n1 n2 k c1 c2 ck : Nat) (us vs : List Value) (a b : List (List UInt8)) (l : List Int) (w : World) (h1 : Mv (· < w.heap.size) w a1 n1 us a) (h2 : Mv (· < w.heap.size) w a2 n2 vs b) (h3 : Nn (· < w.heap.size) w a3 k l) (hfa : few a 20 = true) (hfb : few b 20 = true) (hk300 : k ≤ 300) (hma : mright a = true) (hmb : mright b = false) (hk0 : 1 ≤ k ∧ k ≤ 255) (hnm : named n1 l = true) :
    Calls Try.prog 10 #[.slice a1 n1 c1, .slice a2 n2 c2, .slice a3 k ck] w fun e w' => e = .returned (.bool true) ∧ Keep (fun _ => False) w w' := by
  have HN1 : Hid (n1 ≤ 20) := by
    have h3 := (few_spec hfa).1
    rw [h1.len] at h3
    exact h3
  have HN2 : Hid (n2 ≤ 20) := by
    have h3 := (few_spec hfb).1
    rw [h2.len] at h3
    exact h3
  have t1 : (n1 : Int) ≤ 20 := by have := HN1.out; omega
  have t2 : (n2 : Int) ≤ 20 := by have := HN2.out; omega
  have t3 : (k : Int) ≤ 300 := Int.ofNat_le.2 hk300
  have hnt := hnot
  have HA := Lib.hid hfa
  have HB := Lib.hid hfb
  have HMA := Lib.hid hma
  have HLL : Hid (l.length = k) := h3.len
  have HMB := Lib.hid hmb
  have HBA := Lib.hid (right_bounds h1.len hma)
  obtain ⟨qa, oa, aa, ca, capa, ra, rfl, _, hu, hm0, hca, _, hmx, hrb⟩ := h1.at_ (k := 0) (by have := HBA.out; omega)
  rw [Nat.add_zero] at hca
  have hmc := mcols_at hm0
  rw [hrb.len] at hmc
  have HMC := Lib.hid hmc
  have HCA := Lib.hid hca
  have HLA := Lib.hid (World.block_lt_of_cell? _ _ hca)
  have HROWA : Hid (∀ r ∈ a, r.length = ca) := fun r hr => ((of_mright hma).2.2 r hr).trans hmc
  have pa : (0 : Int) < (n1 : Int) := by have := HBA.out; omega
  have pa' : 0 < n1 := by have := HBA.out; omega
  clear hu hm0 hca hmx hrb
  have kk : (1 : Int) ≤ (k : Int) := by omega
  have kk2 : (k : Int) ≤ 255 := by omega
  have HKO := Lib.hid hk0
  have HNM := Lib.hid hnm
  have H1 := Lib.hid h1
  have H2 := Lib.hid h2
  have H3 := Lib.hid h3
  clear h1 h2 h3 hfa hfb hma hk300 hmb hk0 hmc hnm
  go_enter Try.func10, Try.ntmps10
  go_wp2_with fail
  refine (few_yes _ _ n1 c1 20 us a w H1.out (by omega) HA.out).mono ?_
  rintro e w1 ⟨rfl, hk⟩
  have HK1 := Lib.hid hk
  clear hk
  go_wp2_with fail
  refine (few_yes _ _ n2 c2 20 vs b w1 (H2.out.keep HK1.out (fun _ _ _ => id)) (by omega) HB.out).mono ?_
  rintro e w2 ⟨rfl, hk⟩
  have HK2 := Lib.hid (HK1.out.trans hk)
  clear hk
  go_wp2_with fail
  refine (rows_any _ _ _ _ n1 c1 k ck us a l w2 (H1.out.keep HK2.out (fun _ _ _ => id)) (H3.out.keep HK2.out (fun _ _ _ => id)) HMA.out HKO.out.1 HKO.out.2).mono ?_
  rintro e w3 ⟨hk, hcase⟩
  have HK3 := Lib.hid (HK2.out.trans hk)
  clear hk
  rcases hcase with ⟨hno, _⟩ | ⟨_, g, G, rfl, hfl⟩
  · rw [HNM.out] at hno
    cases hno
  rw [HMC.out] at hfl
  have HFL := Lib.hid hfl
  clear hfl
  go_wp2_with fail
  refine (refright_is _ _ n1 c1 us a w3 true (H1.out.keep HK3.out (fun _ _ _ => id)) (by have := HN1.out; omega) HMA.out).mono ?_
  rintro e w4 ⟨rfl, hk⟩
  have HK4 := Lib.hid (HK3.out.trans hk)
  have HFL4 := Lib.hid (HFL.out.keep hk (fun _ _ _ => id))
  clear hk
  go_wp2_with fail
  go_loopw [9, 10] (fun u i wr => ∃ (j : Nat) (t : Bool), j ≤ k ∧ i = .int .i64 (j : Int) ∧ u = .bool t ∧ Hid (t = named n1 (l.take j) ∧ wr = w4)) (fun _ i _ => k - (intOf i).toNat)
  case atStart => exact ⟨0, true, Nat.zero_le _, rfl, rfl, rfl, rfl⟩
  case round =>
    obtain ⟨j, t, hj, rfl, rfl, HI⟩ := hrel
    have hwr := HI.out.2
    subst hwr
    by_cases hlt : j < k
    · have j0 : (0 : Int) ≤ (j : Int) := by omega
      have jn : (j : Int) < (k : Int) := by omega
      have jN : j < k := hlt
      have HLT := Lib.hid hlt
      obtain ⟨b3, o3, z, rfl, _, hz, hcz⟩ := (H3.out.keep HK4.out (fun _ _ _ => id)).at_ hlt
      have HST := Lib.hid (named_step (n := n1) hz)
      clear hlt hz
      cases t with
      | false =>
        have HT : Hid (named n1 (l.take j) = false) := HI.out.1.symm
        go_wp2_with fail
        go_roundw
        case rel => exact ⟨j + 1, false, by have := HLT.out; omega, by go_num, rfl, by rw [HST.out, HT.out]; rfl, by first | rfl | trivial⟩
        case measure => have := HLT.out; simp [intOf]; omega
      | true =>
        have HT : Hid (named n1 (l.take j) = true) := HI.out.1.symm
        by_cases hz0 : z < 0
        · have HZ : Hid (decide (0 ≤ z ∧ z < (n1 : Int)) = false) := decide_eq_false (by omega)
          have d1 : decide (0 ≤ z) = false := decide_eq_false (by omega)
          go_wp2_with fail
          go_roundw
          case rel => exact ⟨j + 1, false, by have := HLT.out; omega, by go_num, rfl, by rw [HST.out, HT.out, HZ.out]; rfl, by first | rfl | trivial⟩
          case measure => have := HLT.out; simp [intOf]; omega
        · have hz1 : 0 ≤ z := by omega
          have d1 : decide (0 ≤ z) = true := decide_eq_true hz1
          clear hz0
          by_cases hzn : z < (n1 : Int)
          · have HZ : Hid (decide (0 ≤ z ∧ z < (n1 : Int)) = true) := decide_eq_true ⟨hz1, hzn⟩
            have d2 : decide (z < (n1 : Int)) = true := decide_eq_true hzn
            go_wp2_with fail
            go_roundw
            case rel => exact ⟨j + 1, true, by have := HLT.out; omega, by go_num, rfl, by rw [HST.out, HT.out, HZ.out]; rfl, by first | rfl | trivial⟩
            case measure => have := HLT.out; simp [intOf]; omega
          · have HZ : Hid (decide (0 ≤ z ∧ z < (n1 : Int)) = false) := decide_eq_false (by omega)
            have d2 : decide (z < (n1 : Int)) = false := decide_eq_false hzn
            have d3 : (n1 : Int) ≤ z := by omega
            clear hzn
            go_wp2_with fail
            go_roundw
            case rel => exact ⟨j + 1, false, by have := HLT.out; omega, by go_num, rfl, by rw [HST.out, HT.out, HZ.out]; rfl, by first | rfl | trivial⟩
            case measure => have := HLT.out; simp [intOf]; omega
    · have hkn : (k : Int) ≤ (j : Int) := by omega
      have hd : decide (j < k) = false := decide_eq_false hlt
      have hje : j = k := by omega
      have ht := HI.out.1
      rw [hje, List.take_of_length_le (by rw [HLL.out]; omega), HNM.out] at ht
      subst ht
      clear hje
      clear hlt hj HI
      go_wp2_with fail
      clear hkn hd
      go_loopw [11] (fun i wx => ∃ j d : Nat, j ≤ k ∧ i = .int .i64 (j : Int) ∧ Hid (wx = wr.drewN d)) (fun i _ => k - (intOf i).toNat)
      case atStart => exact ⟨0, 0, Nat.zero_le _, rfl, rfl⟩
      case round =>
        obtain ⟨j, d, hj, rfl, HD⟩ := hrel
        obtain ⟨wq, rfl⟩ : ∃ wq : World, wq = wr := ⟨_, rfl⟩
        have HKQ : Hid (Keep (fun _ => False) w wq) := by
          rw [HD.out]
          exact HK4.out.drewN d
        have HFLQ : Hid (Fl w2.heap.size wq g G k ca (fun i => (List.range ca).map (ent (sel a l) i))) := by
          rw [HD.out]
          exact HFL4.out.keep ((Keep.refl (fun _ => False) _).drewN d) (fun _ _ _ => id)
        by_cases hlt : j < k
        · have j0 : (0 : Int) ≤ (j : Int) := by omega
          have jn : (j : Int) < (k : Int) := by omega
          have jN : j < k := hlt
          have HLT := Lib.hid hlt
          obtain ⟨f1, cs5, f2, f3, f4, f5⟩ := HFLQ.out
          obtain ⟨f6, f7, f8, f9⟩ := f4 j hlt
          have hco : wq.cell? ⟨g, j, none⟩ = some (.slice (some ⟨G j, 0, none⟩) ca ca) := (f2.cell j).trans f6
          have hrow : Rb (fun _ => True) wq (some ⟨G j, 0, none⟩) ca ((List.range ca).map (ent (sel a l) j)) := f8.rb (by simp) trivial
          obtain ⟨b3, o3, z, rfl, _, hz, hcz⟩ := (H3.out.keep HKQ.out (fun _ _ _ => id)).at_ hlt
          have hzb : 0 ≤ z ∧ z < (n1 : Int) := by
            have h9 := HNM.out
            rw [named, List.all_eq_true] at h9
            exact of_decide_eq_true (h9 z (List.mem_of_getElem? hz))
          obtain ⟨x, rfl⟩ : ∃ x : Nat, z = (x : Int) := ⟨z.toNat, by omega⟩
          have x0 : (0 : Int) ≤ (x : Int) := by omega
          have xn : (x : Int) < (n1 : Int) := hzb.2
          have xN : x < n1 := by omega
          obtain ⟨q4, o4, rl, nl, cl, r4, e4, _, hul, hrl, hcl, _, _, hrbl⟩ := (H1.out.keep HKQ.out (fun _ _ _ => id)).at_ xN
          cases e4
          have hnl : nl = ca := by have h5 := HROWA.out r4 (List.mem_of_getElem? hrl); rw [hrbl.len] at h5; exact h5
          subst hnl
          have hsel : (List.range nl).map (ent (sel a l) j) = r4 := by
            refine ent_row ?_ hrbl.len
            rw [sel, List.getElem?_map, hz]
            simp [hrl]
          rw [hsel] at hrow
          have g1 := fun (d : Nat) => conv_bytes (cap := nl) (hrow.drewN d)
          have g2 := fun (d : Nat) => conv_bytes (cap := cl) (hrbl.drewN d)
          have hb := bstr_eq r4 r4
          rw [show (r4 == r4) = true from by rw [beq_iff_eq]] at hb
          clear hlt f1 f2 f3 f4 f5 f6 f7 f8 f9 hrow hz hzb hul hrl hrbl hsel
          go_wp2_with fail
          go_quiet (fail)
          go_wp2_with fail
          go_roundw
          case rel =>
            refine ⟨j + 1, d + nq, by have := HLT.out; omega, by go_num, ?_⟩
            show wq.drewN nq = _
            rw [HD.out, World.drewN_drewN]
          case measure => have := HLT.out; simp [intOf]; omega
        · have hkn : (k : Int) ≤ (j : Int) := by omega
          clear hlt hj HD HFLQ
          go_wp2_with fail
          clear hkn
          have HJF : Hid (jfit a b = false) := by show jfit a b = false; rw [jfit, HMA.out, HMB.out]; rfl
          refine (join_no _ _ _ _ n1 n2 c1 c2 us vs a b wq (H1.out.keep HKQ.out (fun _ _ _ => id)) (H2.out.keep HKQ.out (fun _ _ _ => id)) (by have := HN1.out; omega) (by have := HN2.out; omega) HJF.out).mono ?_
          rintro e w8 ⟨rfl, hk⟩
          have HK8 := Lib.hid (HKQ.out.trans hk)
          clear hk
          go_wp2_with fail
          go_quiet ((first | (go_at_call_of 49 (Value.slice (some ⟨qa, oa, none⟩) n1 c1); exact Calls.quiet_of (refright_q (· < w.heap.size) _ n1 c1 us a _ true ((H1.out.keep HK8.out (fun _ _ _ => id)).drewN _) (by have := HN1.out; omega) HMA.out)) | (go_at_call_of 49 (Value.slice a2 n2 c2); exact Calls.quiet_of (refright_q (· < w.heap.size) _ n2 c2 vs b _ false ((H2.out.keep HK8.out (fun _ _ _ => id)).drewN _) (by have := HN2.out; omega) HMB.out))))
          have HK9 := Lib.hid (HK8.out.drewN nq)
          go_wp2_with fail
          refine (one5_any _).mono ?_
          rintro e w12 ⟨rfl, hk⟩
          have HK12 := Lib.hid (HK9.out.trans hk)
          clear hk
          go_wp2_with fail
          go_ret
          exact ⟨rfl, HK12.out⟩

set_option maxRecDepth 100000 in
set_option maxHeartbeats 8000000 in
theorem matRows_n_cols (a1 a2 a3 : Option Addr) (n1 n2 k c1 c2 ck : Nat) (us vs : List Value) (a b : List (List UInt8)) (l : List Int) (w : World) (h1 : Mv (· < w.heap.size) w a1 n1 us a) (h2 : Mv (· < w.heap.size) w a2 n2 vs b) (h3 : Nn (· < w.heap.size) w a3 k l) (hfa : few a 20 = true) (hfb : few b 20 = true) (hk300 : k ≤ 300) (hma : mright a = true) (hmb : mright b = true) (hcol : mcols a ≠ mcols b) (hk0 : 1 ≤ k ∧ k ≤ 255) (hnm : named n1 l = true) :
    Calls Try.prog 10 #[.slice a1 n1 c1, .slice a2 n2 c2, .slice a3 k ck] w fun e w' => e = .returned (.bool true) ∧ Keep (fun _ => False) w w' := by
  have HN1 : Hid (n1 ≤ 20) := by
    have h3 := (few_spec hfa).1
    rw [h1.len] at h3
    exact h3
  have HN2 : Hid (n2 ≤ 20) := by
    have h3 := (few_spec hfb).1
    rw [h2.len] at h3
    exact h3
  have t1 : (n1 : Int) ≤ 20 := by have := HN1.out; omega
  have t2 : (n2 : Int) ≤ 20 := by have := HN2.out; omega
  have t3 : (k : Int) ≤ 300 := Int.ofNat_le.2 hk300
  have hnt := hnot
  have HA := Lib.hid hfa
  have HB := Lib.hid hfb
  have HMA := Lib.hid hma
  have HLL : Hid (l.length = k) := h3.len
  have HMB := Lib.hid hmb
  have HBA := Lib.hid (right_bounds h1.len hma)
  obtain ⟨qa, oa, aa, ca, capa, ra, rfl, _, hu, hm0, hca, _, hmx, hrb⟩ := h1.at_ (k := 0) (by have := HBA.out; omega)
  rw [Nat.add_zero] at hca
  have hmc := mcols_at hm0
  rw [hrb.len] at hmc
  have HMC := Lib.hid hmc
  have HCA := Lib.hid hca
  have HLA := Lib.hid (World.block_lt_of_cell? _ _ hca)
  have HROWA : Hid (∀ r ∈ a, r.length = ca) := fun r hr => ((of_mright hma).2.2 r hr).trans hmc
  have pa : (0 : Int) < (n1 : Int) := by have := HBA.out; omega
  have pa' : 0 < n1 := by have := HBA.out; omega
  clear hu hm0 hca hmx hrb
  have kk : (1 : Int) ≤ (k : Int) := by omega
  have kk2 : (k : Int) ≤ 255 := by omega
  have HKO := Lib.hid hk0
  have HNM := Lib.hid hnm
  have HBB := Lib.hid (right_bounds h2.len hmb)
  obtain ⟨qb, ob, ab, L, capb, rb, rfl, _, hub, hmb0, hcb, _, hmxb, hrbb⟩ := h2.at_ (k := 0) (by have := HBB.out; omega)
  rw [Nat.add_zero] at hcb
  have hlc := mcols_at hmb0
  rw [hrbb.len] at hlc
  have HLC := Lib.hid hlc
  have HCBB := Lib.hid hcb
  have HLB := Lib.hid (World.block_lt_of_cell? _ _ hcb)
  have pb : (0 : Int) < (n2 : Int) := by have := HBB.out; omega
  have pb' : 0 < n2 := by have := HBB.out; omega
  have e1 : ((ca : Int) == (L : Int)) = false := by rw [beq_eq_false_iff_ne]; omega
  have HCOL := Lib.hid hcol
  clear hub hmb0 hcb hmxb hrbb hlc hcol
  have H1 := Lib.hid h1
  have H2 := Lib.hid h2
  have H3 := Lib.hid h3
  clear h1 h2 h3 hfa hfb hma hk300 hmb hk0 hmc hnm
  go_enter Try.func10, Try.ntmps10
  go_wp2_with fail
  refine (few_yes _ _ n1 c1 20 us a w H1.out (by omega) HA.out).mono ?_
  rintro e w1 ⟨rfl, hk⟩
  have HK1 := Lib.hid hk
  clear hk
  go_wp2_with fail
  refine (few_yes _ _ n2 c2 20 vs b w1 (H2.out.keep HK1.out (fun _ _ _ => id)) (by omega) HB.out).mono ?_
  rintro e w2 ⟨rfl, hk⟩
  have HK2 := Lib.hid (HK1.out.trans hk)
  clear hk
  go_wp2_with fail
  refine (rows_any _ _ _ _ n1 c1 k ck us a l w2 (H1.out.keep HK2.out (fun _ _ _ => id)) (H3.out.keep HK2.out (fun _ _ _ => id)) HMA.out HKO.out.1 HKO.out.2).mono ?_
  rintro e w3 ⟨hk, hcase⟩
  have HK3 := Lib.hid (HK2.out.trans hk)
  clear hk
  rcases hcase with ⟨hno, _⟩ | ⟨_, g, G, rfl, hfl⟩
  · rw [HNM.out] at hno
    cases hno
  rw [HMC.out] at hfl
  have HFL := Lib.hid hfl
  clear hfl
  go_wp2_with fail
  refine (refright_is _ _ n1 c1 us a w3 true (H1.out.keep HK3.out (fun _ _ _ => id)) (by have := HN1.out; omega) HMA.out).mono ?_
  rintro e w4 ⟨rfl, hk⟩
  have HK4 := Lib.hid (HK3.out.trans hk)
  have HFL4 := Lib.hid (HFL.out.keep hk (fun _ _ _ => id))
  clear hk
  go_wp2_with fail
  go_loopw [9, 10] (fun u i wr => ∃ (j : Nat) (t : Bool), j ≤ k ∧ i = .int .i64 (j : Int) ∧ u = .bool t ∧ Hid (t = named n1 (l.take j) ∧ wr = w4)) (fun _ i _ => k - (intOf i).toNat)
  case atStart => exact ⟨0, true, Nat.zero_le _, rfl, rfl, rfl, rfl⟩
  case round =>
    obtain ⟨j, t, hj, rfl, rfl, HI⟩ := hrel
    have hwr := HI.out.2
    subst hwr
    by_cases hlt : j < k
    · have j0 : (0 : Int) ≤ (j : Int) := by omega
      have jn : (j : Int) < (k : Int) := by omega
      have jN : j < k := hlt
      have HLT := Lib.hid hlt
      obtain ⟨b3, o3, z, rfl, _, hz, hcz⟩ := (H3.out.keep HK4.out (fun _ _ _ => id)).at_ hlt
      have HST := Lib.hid (named_step (n := n1) hz)
      clear hlt hz
      cases t with
      | false =>
        have HT : Hid (named n1 (l.take j) = false) := HI.out.1.symm
        go_wp2_with fail
        go_roundw
        case rel => exact ⟨j + 1, false, by have := HLT.out; omega, by go_num, rfl, by rw [HST.out, HT.out]; rfl, by first | rfl | trivial⟩
        case measure => have := HLT.out; simp [intOf]; omega
      | true =>
        have HT : Hid (named n1 (l.take j) = true) := HI.out.1.symm
        by_cases hz0 : z < 0
        · have HZ : Hid (decide (0 ≤ z ∧ z < (n1 : Int)) = false) := decide_eq_false (by omega)
          have d1 : decide (0 ≤ z) = false := decide_eq_false (by omega)
          go_wp2_with fail
          go_roundw
          case rel => exact ⟨j + 1, false, by have := HLT.out; omega, by go_num, rfl, by rw [HST.out, HT.out, HZ.out]; rfl, by first | rfl | trivial⟩
          case measure => have := HLT.out; simp [intOf]; omega
        · have hz1 : 0 ≤ z := by omega
          have d1 : decide (0 ≤ z) = true := decide_eq_true hz1
          clear hz0
          by_cases hzn : z < (n1 : Int)
          · have HZ : Hid (decide (0 ≤ z ∧ z < (n1 : Int)) = true) := decide_eq_true ⟨hz1, hzn⟩
            have d2 : decide (z < (n1 : Int)) = true := decide_eq_true hzn
            go_wp2_with fail
            go_roundw
            case rel => exact ⟨j + 1, true, by have := HLT.out; omega, by go_num, rfl, by rw [HST.out, HT.out, HZ.out]; rfl, by first | rfl | trivial⟩
            case measure => have := HLT.out; simp [intOf]; omega
          · have HZ : Hid (decide (0 ≤ z ∧ z < (n1 : Int)) = false) := decide_eq_false (by omega)
            have d2 : decide (z < (n1 : Int)) = false := decide_eq_false hzn
            have d3 : (n1 : Int) ≤ z := by omega
            clear hzn
            go_wp2_with fail
            go_roundw
            case rel => exact ⟨j + 1, false, by have := HLT.out; omega, by go_num, rfl, by rw [HST.out, HT.out, HZ.out]; rfl, by first | rfl | trivial⟩
            case measure => have := HLT.out; simp [intOf]; omega
    · have hkn : (k : Int) ≤ (j : Int) := by omega
      have hd : decide (j < k) = false := decide_eq_false hlt
      have hje : j = k := by omega
      have ht := HI.out.1
      rw [hje, List.take_of_length_le (by rw [HLL.out]; omega), HNM.out] at ht
      subst ht
      clear hje
      clear hlt hj HI
      go_wp2_with fail
      clear hkn hd
      go_loopw [11] (fun i wx => ∃ j d : Nat, j ≤ k ∧ i = .int .i64 (j : Int) ∧ Hid (wx = wr.drewN d)) (fun i _ => k - (intOf i).toNat)
      case atStart => exact ⟨0, 0, Nat.zero_le _, rfl, rfl⟩
      case round =>
        obtain ⟨j, d, hj, rfl, HD⟩ := hrel
        obtain ⟨wq, rfl⟩ : ∃ wq : World, wq = wr := ⟨_, rfl⟩
        have HKQ : Hid (Keep (fun _ => False) w wq) := by
          rw [HD.out]
          exact HK4.out.drewN d
        have HFLQ : Hid (Fl w2.heap.size wq g G k ca (fun i => (List.range ca).map (ent (sel a l) i))) := by
          rw [HD.out]
          exact HFL4.out.keep ((Keep.refl (fun _ => False) _).drewN d) (fun _ _ _ => id)
        by_cases hlt : j < k
        · have j0 : (0 : Int) ≤ (j : Int) := by omega
          have jn : (j : Int) < (k : Int) := by omega
          have jN : j < k := hlt
          have HLT := Lib.hid hlt
          obtain ⟨f1, cs5, f2, f3, f4, f5⟩ := HFLQ.out
          obtain ⟨f6, f7, f8, f9⟩ := f4 j hlt
          have hco : wq.cell? ⟨g, j, none⟩ = some (.slice (some ⟨G j, 0, none⟩) ca ca) := (f2.cell j).trans f6
          have hrow : Rb (fun _ => True) wq (some ⟨G j, 0, none⟩) ca ((List.range ca).map (ent (sel a l) j)) := f8.rb (by simp) trivial
          obtain ⟨b3, o3, z, rfl, _, hz, hcz⟩ := (H3.out.keep HKQ.out (fun _ _ _ => id)).at_ hlt
          have hzb : 0 ≤ z ∧ z < (n1 : Int) := by
            have h9 := HNM.out
            rw [named, List.all_eq_true] at h9
            exact of_decide_eq_true (h9 z (List.mem_of_getElem? hz))
          obtain ⟨x, rfl⟩ : ∃ x : Nat, z = (x : Int) := ⟨z.toNat, by omega⟩
          have x0 : (0 : Int) ≤ (x : Int) := by omega
          have xn : (x : Int) < (n1 : Int) := hzb.2
          have xN : x < n1 := by omega
          obtain ⟨q4, o4, rl, nl, cl, r4, e4, _, hul, hrl, hcl, _, _, hrbl⟩ := (H1.out.keep HKQ.out (fun _ _ _ => id)).at_ xN
          cases e4
          have hnl : nl = ca := by have h5 := HROWA.out r4 (List.mem_of_getElem? hrl); rw [hrbl.len] at h5; exact h5
          subst hnl
          have hsel : (List.range nl).map (ent (sel a l) j) = r4 := by
            refine ent_row ?_ hrbl.len
            rw [sel, List.getElem?_map, hz]
            simp [hrl]
          rw [hsel] at hrow
          have g1 := fun (d : Nat) => conv_bytes (cap := nl) (hrow.drewN d)
          have g2 := fun (d : Nat) => conv_bytes (cap := cl) (hrbl.drewN d)
          have hb := bstr_eq r4 r4
          rw [show (r4 == r4) = true from by rw [beq_iff_eq]] at hb
          clear hlt f1 f2 f3 f4 f5 f6 f7 f8 f9 hrow hz hzb hul hrl hrbl hsel
          go_wp2_with fail
          go_quiet (fail)
          go_wp2_with fail
          go_roundw
          case rel =>
            refine ⟨j + 1, d + nq, by have := HLT.out; omega, by go_num, ?_⟩
            show wq.drewN nq = _
            rw [HD.out, World.drewN_drewN]
          case measure => have := HLT.out; simp [intOf]; omega
        · have hkn : (k : Int) ≤ (j : Int) := by omega
          clear hlt hj HD HFLQ
          go_wp2_with fail
          clear hkn
          have HJF : Hid (jfit a b = false) := by show jfit a b = false; rw [jfit, HMA.out, HMB.out, decide_eq_false HCOL.out]; rfl
          refine (join_no _ _ _ _ n1 n2 c1 c2 us vs a b wq (H1.out.keep HKQ.out (fun _ _ _ => id)) (H2.out.keep HKQ.out (fun _ _ _ => id)) (by have := HN1.out; omega) (by have := HN2.out; omega) HJF.out).mono ?_
          rintro e w8 ⟨rfl, hk⟩
          have HK8 := Lib.hid (HKQ.out.trans hk)
          clear hk
          have hca8 := (HK8.out.cell (p := ⟨qa, oa, none⟩) HLA.out id).trans HCA.out
          have hcb8 := (HK8.out.cell (p := ⟨qb, ob, none⟩) HLB.out id).trans HCBB.out
          go_wp2_with fail
          go_quiet ((first | (go_at_call_of 49 (Value.slice (some ⟨qa, oa, none⟩) n1 c1); exact Calls.quiet_of (refright_q (· < w.heap.size) _ n1 c1 us a _ true ((H1.out.keep HK8.out (fun _ _ _ => id)).drewN _) (by have := HN1.out; omega) HMA.out)) | (go_at_call_of 49 (Value.slice (some ⟨qb, ob, none⟩) n2 c2); exact Calls.quiet_of (refright_q (· < w.heap.size) _ n2 c2 vs b _ true ((H2.out.keep HK8.out (fun _ _ _ => id)).drewN _) (by have := HN2.out; omega) HMB.out))))
          clear hca8 hcb8
          have HK9 := Lib.hid (HK8.out.drewN nq)
          go_wp2_with fail
          refine (one5_any _).mono ?_
          rintro e w12 ⟨rfl, hk⟩
          have HK12 := Lib.hid (HK9.out.trans hk)
          clear hk
          go_wp2_with fail
          go_ret
          exact ⟨rfl, HK12.out⟩

set_option maxRecDepth 100000 in
set_option maxHeartbeats 8000000 in
theorem matRows_n_yes (a1 a2 a3 : Option Addr) (n1 n2 k c1 c2 ck : Nat) (us vs : List Value) (a b : List (List UInt8)) (l : List Int) (w : World) (h1 : Mv (· < w.heap.size) w a1 n1 us a) (h2 : Mv (· < w.heap.size) w a2 n2 vs b) (h3 : Nn (· < w.heap.size) w a3 k l) (hfa : few a 20 = true) (hfb : few b 20 = true) (hk300 : k ≤ 300) (hma : mright a = true) (hmb : mright b = true) (hcol : mcols a = mcols b) (hk0 : 1 ≤ k ∧ k ≤ 255) (hnm : named n1 l = true) :
    Calls Try.prog 10 #[.slice a1 n1 c1, .slice a2 n2 c2, .slice a3 k ck] w fun e w' => e = .returned (.bool true) ∧ Keep (fun _ => False) w w' := by
  have HN1 : Hid (n1 ≤ 20) := by
    have h3 := (few_spec hfa).1
    rw [h1.len] at h3
    exact h3
  have HN2 : Hid (n2 ≤ 20) := by
    have h3 := (few_spec hfb).1
    rw [h2.len] at h3
    exact h3
  have t1 : (n1 : Int) ≤ 20 := by have := HN1.out; omega
  have t2 : (n2 : Int) ≤ 20 := by have := HN2.out; omega
  have t3 : (k : Int) ≤ 300 := Int.ofNat_le.2 hk300
  have hnt := hnot
  have HA := Lib.hid hfa
  have HB := Lib.hid hfb
  have HMA := Lib.hid hma
  have HLL : Hid (l.length = k) := h3.len
  have HMB := Lib.hid hmb
  have HBA := Lib.hid (right_bounds h1.len hma)
  obtain ⟨qa, oa, aa, ca, capa, ra, rfl, _, hu, hm0, hca, _, hmx, hrb⟩ := h1.at_ (k := 0) (by have := HBA.out; omega)
  rw [Nat.add_zero] at hca
  have hmc := mcols_at hm0
  rw [hrb.len] at hmc
  have HMC := Lib.hid hmc
  have HCA := Lib.hid hca
  have HLA := Lib.hid (World.block_lt_of_cell? _ _ hca)
  have HROWA : Hid (∀ r ∈ a, r.length = ca) := fun r hr => ((of_mright hma).2.2 r hr).trans hmc
  have pa : (0 : Int) < (n1 : Int) := by have := HBA.out; omega
  have pa' : 0 < n1 := by have := HBA.out; omega
  clear hu hm0 hca hmx hrb
  have kk : (1 : Int) ≤ (k : Int) := by omega
  have kk2 : (k : Int) ≤ 255 := by omega
  have HKO := Lib.hid hk0
  have HNM := Lib.hid hnm
  have HBB := Lib.hid (right_bounds h2.len hmb)
  obtain ⟨qb, ob, ab, L, capb, rb, rfl, _, hub, hmb0, hcb, _, hmxb, hrbb⟩ := h2.at_ (k := 0) (by have := HBB.out; omega)
  rw [Nat.add_zero] at hcb
  have hlc := mcols_at hmb0
  rw [hrbb.len] at hlc
  have HLC := Lib.hid hlc
  have HCBB := Lib.hid hcb
  have HLB := Lib.hid (World.block_lt_of_cell? _ _ hcb)
  have pb : (0 : Int) < (n2 : Int) := by have := HBB.out; omega
  have pb' : 0 < n2 := by have := HBB.out; omega
  have e1 : ((ca : Int) == (L : Int)) = true := by rw [beq_iff_eq]; omega
  have HCOL := Lib.hid hcol
  clear hub hmb0 hcb hmxb hrbb hlc hcol
  have H1 := Lib.hid h1
  have H2 := Lib.hid h2
  have H3 := Lib.hid h3
  clear h1 h2 h3 hfa hfb hma hk300 hmb hk0 hmc hnm
  go_enter Try.func10, Try.ntmps10
  go_wp2_with fail
  refine (few_yes _ _ n1 c1 20 us a w H1.out (by omega) HA.out).mono ?_
  rintro e w1 ⟨rfl, hk⟩
  have HK1 := Lib.hid hk
  clear hk
  go_wp2_with fail
  refine (few_yes _ _ n2 c2 20 vs b w1 (H2.out.keep HK1.out (fun _ _ _ => id)) (by omega) HB.out).mono ?_
  rintro e w2 ⟨rfl, hk⟩
  have HK2 := Lib.hid (HK1.out.trans hk)
  clear hk
  go_wp2_with fail
  refine (rows_any _ _ _ _ n1 c1 k ck us a l w2 (H1.out.keep HK2.out (fun _ _ _ => id)) (H3.out.keep HK2.out (fun _ _ _ => id)) HMA.out HKO.out.1 HKO.out.2).mono ?_
  rintro e w3 ⟨hk, hcase⟩
  have HK3 := Lib.hid (HK2.out.trans hk)
  clear hk
  rcases hcase with ⟨hno, _⟩ | ⟨_, g, G, rfl, hfl⟩
  · rw [HNM.out] at hno
    cases hno
  rw [HMC.out] at hfl
  have HFL := Lib.hid hfl
  clear hfl
  go_wp2_with fail
  refine (refright_is _ _ n1 c1 us a w3 true (H1.out.keep HK3.out (fun _ _ _ => id)) (by have := HN1.out; omega) HMA.out).mono ?_
  rintro e w4 ⟨rfl, hk⟩
  have HK4 := Lib.hid (HK3.out.trans hk)
  have HFL4 := Lib.hid (HFL.out.keep hk (fun _ _ _ => id))
  clear hk
  go_wp2_with fail
  go_loopw [9, 10] (fun u i wr => ∃ (j : Nat) (t : Bool), j ≤ k ∧ i = .int .i64 (j : Int) ∧ u = .bool t ∧ Hid (t = named n1 (l.take j) ∧ wr = w4)) (fun _ i _ => k - (intOf i).toNat)
  case atStart => exact ⟨0, true, Nat.zero_le _, rfl, rfl, rfl, rfl⟩
  case round =>
    obtain ⟨j, t, hj, rfl, rfl, HI⟩ := hrel
    have hwr := HI.out.2
    subst hwr
    by_cases hlt : j < k
    · have j0 : (0 : Int) ≤ (j : Int) := by omega
      have jn : (j : Int) < (k : Int) := by omega
      have jN : j < k := hlt
      have HLT := Lib.hid hlt
      obtain ⟨b3, o3, z, rfl, _, hz, hcz⟩ := (H3.out.keep HK4.out (fun _ _ _ => id)).at_ hlt
      have HST := Lib.hid (named_step (n := n1) hz)
      clear hlt hz
      cases t with
      | false =>
        have HT : Hid (named n1 (l.take j) = false) := HI.out.1.symm
        go_wp2_with fail
        go_roundw
        case rel => exact ⟨j + 1, false, by have := HLT.out; omega, by go_num, rfl, by rw [HST.out, HT.out]; rfl, by first | rfl | trivial⟩
        case measure => have := HLT.out; simp [intOf]; omega
      | true =>
        have HT : Hid (named n1 (l.take j) = true) := HI.out.1.symm
        by_cases hz0 : z < 0
        · have HZ : Hid (decide (0 ≤ z ∧ z < (n1 : Int)) = false) := decide_eq_false (by omega)
          have d1 : decide (0 ≤ z) = false := decide_eq_false (by omega)
          go_wp2_with fail
          go_roundw
          case rel => exact ⟨j + 1, false, by have := HLT.out; omega, by go_num, rfl, by rw [HST.out, HT.out, HZ.out]; rfl, by first | rfl | trivial⟩
          case measure => have := HLT.out; simp [intOf]; omega
        · have hz1 : 0 ≤ z := by omega
          have d1 : decide (0 ≤ z) = true := decide_eq_true hz1
          clear hz0
          by_cases hzn : z < (n1 : Int)
          · have HZ : Hid (decide (0 ≤ z ∧ z < (n1 : Int)) = true) := decide_eq_true ⟨hz1, hzn⟩
            have d2 : decide (z < (n1 : Int)) = true := decide_eq_true hzn
            go_wp2_with fail
            go_roundw
            case rel => exact ⟨j + 1, true, by have := HLT.out; omega, by go_num, rfl, by rw [HST.out, HT.out, HZ.out]; rfl, by first | rfl | trivial⟩
            case measure => have := HLT.out; simp [intOf]; omega
          · have HZ : Hid (decide (0 ≤ z ∧ z < (n1 : Int)) = false) := decide_eq_false (by omega)
            have d2 : decide (z < (n1 : Int)) = false := decide_eq_false hzn
            have d3 : (n1 : Int) ≤ z := by omega
            clear hzn
            go_wp2_with fail
            go_roundw
            case rel => exact ⟨j + 1, false, by have := HLT.out; omega, by go_num, rfl, by rw [HST.out, HT.out, HZ.out]; rfl, by first | rfl | trivial⟩
            case measure => have := HLT.out; simp [intOf]; omega
    · have hkn : (k : Int) ≤ (j : Int) := by omega
      have hd : decide (j < k) = false := decide_eq_false hlt
      have hje : j = k := by omega
      have ht := HI.out.1
      rw [hje, List.take_of_length_le (by rw [HLL.out]; omega), HNM.out] at ht
      subst ht
      clear hje
      clear hlt hj HI
      go_wp2_with fail
      clear hkn hd
      go_loopw [11] (fun i wx => ∃ j d : Nat, j ≤ k ∧ i = .int .i64 (j : Int) ∧ Hid (wx = wr.drewN d)) (fun i _ => k - (intOf i).toNat)
      case atStart => exact ⟨0, 0, Nat.zero_le _, rfl, rfl⟩
      case round =>
        obtain ⟨j, d, hj, rfl, HD⟩ := hrel
        obtain ⟨wq, rfl⟩ : ∃ wq : World, wq = wr := ⟨_, rfl⟩
        have HKQ : Hid (Keep (fun _ => False) w wq) := by
          rw [HD.out]
          exact HK4.out.drewN d
        have HFLQ : Hid (Fl w2.heap.size wq g G k ca (fun i => (List.range ca).map (ent (sel a l) i))) := by
          rw [HD.out]
          exact HFL4.out.keep ((Keep.refl (fun _ => False) _).drewN d) (fun _ _ _ => id)
        by_cases hlt : j < k
        · have j0 : (0 : Int) ≤ (j : Int) := by omega
          have jn : (j : Int) < (k : Int) := by omega
          have jN : j < k := hlt
          have HLT := Lib.hid hlt
          obtain ⟨f1, cs5, f2, f3, f4, f5⟩ := HFLQ.out
          obtain ⟨f6, f7, f8, f9⟩ := f4 j hlt
          have hco : wq.cell? ⟨g, j, none⟩ = some (.slice (some ⟨G j, 0, none⟩) ca ca) := (f2.cell j).trans f6
          have hrow : Rb (fun _ => True) wq (some ⟨G j, 0, none⟩) ca ((List.range ca).map (ent (sel a l) j)) := f8.rb (by simp) trivial
          obtain ⟨b3, o3, z, rfl, _, hz, hcz⟩ := (H3.out.keep HKQ.out (fun _ _ _ => id)).at_ hlt
          have hzb : 0 ≤ z ∧ z < (n1 : Int) := by
            have h9 := HNM.out
            rw [named, List.all_eq_true] at h9
            exact of_decide_eq_true (h9 z (List.mem_of_getElem? hz))
          obtain ⟨x, rfl⟩ : ∃ x : Nat, z = (x : Int) := ⟨z.toNat, by omega⟩
          have x0 : (0 : Int) ≤ (x : Int) := by omega
          have xn : (x : Int) < (n1 : Int) := hzb.2
          have xN : x < n1 := by omega
          obtain ⟨q4, o4, rl, nl, cl, r4, e4, _, hul, hrl, hcl, _, _, hrbl⟩ := (H1.out.keep HKQ.out (fun _ _ _ => id)).at_ xN
          cases e4
          have hnl : nl = ca := by have h5 := HROWA.out r4 (List.mem_of_getElem? hrl); rw [hrbl.len] at h5; exact h5
          subst hnl
          have hsel : (List.range nl).map (ent (sel a l) j) = r4 := by
            refine ent_row ?_ hrbl.len
            rw [sel, List.getElem?_map, hz]
            simp [hrl]
          rw [hsel] at hrow
          have g1 := fun (d : Nat) => conv_bytes (cap := nl) (hrow.drewN d)
          have g2 := fun (d : Nat) => conv_bytes (cap := cl) (hrbl.drewN d)
          have hb := bstr_eq r4 r4
          rw [show (r4 == r4) = true from by rw [beq_iff_eq]] at hb
          clear hlt f1 f2 f3 f4 f5 f6 f7 f8 f9 hrow hz hzb hul hrl hrbl hsel
          go_wp2_with fail
          go_quiet (fail)
          go_wp2_with fail
          go_roundw
          case rel =>
            refine ⟨j + 1, d + nq, by have := HLT.out; omega, by go_num, ?_⟩
            show wq.drewN nq = _
            rw [HD.out, World.drewN_drewN]
          case measure => have := HLT.out; simp [intOf]; omega
        · have hkn : (k : Int) ≤ (j : Int) := by omega
          clear hlt hj HD HFLQ
          go_wp2_with fail
          clear hkn
          refine (join_yes _ _ _ _ n1 n2 c1 c2 us vs a b wq (H1.out.keep HKQ.out (fun _ _ _ => id)) (H2.out.keep HKQ.out (fun _ _ _ => id)) HMA.out HMB.out HCOL.out (by have := HN1.out; have := HN2.out; omega)).mono ?_
          rintro e w8 ⟨v8, rfl, hgr, hk⟩
          have HK8 := Lib.hid (HKQ.out.trans hk)
          have HLEN : Hid ((a ++ b).length = n1 + n2) := by show (a ++ b).length = n1 + n2; rw [List.length_append, H1.out.len, H2.out.len]
          obtain ⟨ao8, cap8, rfl, hc8, _⟩ := hgr.len
          obtain ⟨ys, hys⟩ := hgr.mv
          rw [HLEN.out] at hys hc8 ⊢
          obtain ⟨q8, o8, _, _, _, _, rfl, _⟩ := hys.at_ (k := 0) (by have := HBA.out; omega)
          have hy1 := hys.take (k := n1) (by omega)
          have hy2 := hys.drop
          rw [List.take_left' H1.out.len] at hy1
          rw [List.drop_left' H1.out.len] at hy2
          have HY1 := Lib.hid hy1
          have HY2 := Lib.hid hy2
          have s1 : (n1 : Int) ≤ (cap8 : Int) := by omega
          have s2 : (n1 : Int) ≤ (n1 : Int) + (n2 : Int) := by omega
          have s3 : (n1 : Int) + (n2 : Int) ≤ (cap8 : Int) := by omega
          clear hk hgr hys hy1 hy2 hc8
          have hca8 := (HK8.out.cell (p := ⟨qa, oa, none⟩) HLA.out id).trans HCA.out
          have hcb8 := (HK8.out.cell (p := ⟨qb, ob, none⟩) HLB.out id).trans HCBB.out
          go_wp2_with fail
          go_quiet ((first | (go_at_call_of 49 (Value.slice (some ⟨qa, oa, none⟩) n1 c1); exact Calls.quiet_of (refright_q (· < w.heap.size) _ n1 c1 us a _ true ((H1.out.keep HK8.out (fun _ _ _ => id)).drewN _) (by have := HN1.out; omega) HMA.out)) | (go_at_call_of 49 (Value.slice (some ⟨qb, ob, none⟩) n2 c2); exact Calls.quiet_of (refright_q (· < w.heap.size) _ n2 c2 vs b _ true ((H2.out.keep HK8.out (fun _ _ _ => id)).drewN _) (by have := HN2.out; omega) HMB.out))))
          clear hca8 hcb8
          have HK9 := Lib.hid (HK8.out.drewN nq)
          go_wp2_with fail
          refine (refsame_is _ _ _ _ n1 n1 _ c1 _ us _ a _ true (HY1.out.drewN nq) (H1.out.keep HK9.out (fun _ _ _ => id)) (by have := HN1.out; omega) (by have := HN1.out; omega) (same_yes rfl)).mono ?_
          rintro e w10 ⟨rfl, hk⟩
          have HK10 := Lib.hid (HK9.out.trans hk)
          have HY10 := Lib.hid (HY2.out.keep (S := fun _ => False) ⟨hk.os, hk.tape, hk.output, hk.size, hk.block⟩ (fun _ _ _ => id))
          clear hk
          go_wp2_with fail
          refine (refsame_is _ _ _ _ n2 n2 _ c2 _ vs _ b w10 true HY10.out (H2.out.keep HK10.out (fun _ _ _ => id)) (by have := HN2.out; omega) (by have := HN2.out; omega) (same_yes rfl)).mono ?_
          rintro e w11 ⟨rfl, hk⟩
          have HK11 := Lib.hid (HK10.out.trans hk)
          clear hk
          go_wp2_with fail
          refine (one5_any _).mono ?_
          rintro e w12 ⟨rfl, hk⟩
          have HK12 := Lib.hid (HK11.out.trans hk)
          clear hk
          go_wp2_with fail
          go_ret
          exact ⟨rfl, HK12.out⟩

theorem matRows_walk (W : World) (v0 : Value) (a : List (List UInt8)) (i0 : Ms (· < W.heap.size) W v0 a) (v1 : Value) (b : List (List UInt8)) (i1 : Ms (· < W.heap.size) W v1 b) (v2 : Value) (l : List Int) (i2 : Ns (· < W.heap.size) W v2 l) :
    Calls Try.prog 10 #[v0, v1, v2] W fun e w' => e = .returned (.bool true) ∧ Below W.heap.size W w' := by
  obtain ⟨a1, n1, c1, us, rfl, _, _, h1⟩ := i0
  obtain ⟨a2, n2, c2, vs, rfl, _, _, h2⟩ := i1
  obtain ⟨a3, k, ck, rfl, _, _, h3, _⟩ := i2
  have hx : Calls Try.prog 10 #[.slice a1 n1 c1, .slice a2 n2 c2, .slice a3 k ck] W fun e w' => e = .returned (.bool true) ∧ Keep (fun _ => False) W w' := by
    by_cases hf : few a 20 = true ∧ few b 20 = true ∧ k ≤ 300
    · cases hma : mright a with
      | false => exact matRows_ma a1 a2 a3 n1 n2 k c1 c2 ck us vs a b l W h1 h2 h3 hf.1 hf.2.1 hf.2.2 hma
      | true =>
        by_cases hk0 : k = 0
        · cases hmb : mright b with
          | false => exact matRows_k0_mb a1 a2 a3 n1 n2 k c1 c2 ck us vs a b l W h1 h2 h3 hf.1 hf.2.1 hf.2.2 hma hmb hk0
          | true =>
            by_cases hc : mcols a = mcols b
            · exact matRows_k0_yes a1 a2 a3 n1 n2 k c1 c2 ck us vs a b l W h1 h2 h3 hf.1 hf.2.1 hf.2.2 hma hmb hc hk0
            · exact matRows_k0_cols a1 a2 a3 n1 n2 k c1 c2 ck us vs a b l W h1 h2 h3 hf.1 hf.2.1 hf.2.2 hma hmb hc hk0
        · by_cases hk1 : 255 < k
          · cases hmb : mright b with
            | false => exact matRows_k256_mb a1 a2 a3 n1 n2 k c1 c2 ck us vs a b l W h1 h2 h3 hf.1 hf.2.1 hf.2.2 hma hmb hk1
            | true =>
              by_cases hc : mcols a = mcols b
              · exact matRows_k256_yes a1 a2 a3 n1 n2 k c1 c2 ck us vs a b l W h1 h2 h3 hf.1 hf.2.1 hf.2.2 hma hmb hc hk1
              · exact matRows_k256_cols a1 a2 a3 n1 n2 k c1 c2 ck us vs a b l W h1 h2 h3 hf.1 hf.2.1 hf.2.2 hma hmb hc hk1
          · have hk2 : 1 ≤ k ∧ k ≤ 255 := by omega
            cases hnm : named n1 l with
            | false =>
              cases hmb : mright b with
              | false => exact matRows_u_mb a1 a2 a3 n1 n2 k c1 c2 ck us vs a b l W h1 h2 h3 hf.1 hf.2.1 hf.2.2 hma hmb hk2 hnm
              | true =>
                by_cases hc : mcols a = mcols b
                · exact matRows_u_yes a1 a2 a3 n1 n2 k c1 c2 ck us vs a b l W h1 h2 h3 hf.1 hf.2.1 hf.2.2 hma hmb hc hk2 hnm
                · exact matRows_u_cols a1 a2 a3 n1 n2 k c1 c2 ck us vs a b l W h1 h2 h3 hf.1 hf.2.1 hf.2.2 hma hmb hc hk2 hnm
            | true =>
              cases hmb : mright b with
              | false => exact matRows_n_mb a1 a2 a3 n1 n2 k c1 c2 ck us vs a b l W h1 h2 h3 hf.1 hf.2.1 hf.2.2 hma hmb hk2 hnm
              | true =>
                by_cases hc : mcols a = mcols b
                · exact matRows_n_yes a1 a2 a3 n1 n2 k c1 c2 ck us vs a b l W h1 h2 h3 hf.1 hf.2.1 hf.2.2 hma hmb hc hk2 hnm
                · exact matRows_n_cols a1 a2 a3 n1 n2 k c1 c2 ck us vs a b l W h1 h2 h3 hf.1 hf.2.1 hf.2.2 hma hmb hc hk2 hnm
    · exact matRows_big _ _ a1 a2 a3 n1 n2 k c1 c2 ck us vs a b W h1 h2 hf
  exact hx.mono fun _ _ ⟨he, hk⟩ => ⟨he, hk.below (Nat.le_refl _) (fun _ _ => id)⟩
end Go.Proofs.Ytegecjilpmkamaa
