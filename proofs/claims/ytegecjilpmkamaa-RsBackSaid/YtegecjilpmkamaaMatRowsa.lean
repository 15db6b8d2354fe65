/-
  The walk of the law 'MatRows', the first ways.
-/
import Derived.Test.YtegecjilpmkamaaRows48
import Derived.Test.YtegecjilpmkamaaJoinno
import Derived.Test.YtegecjilpmkamaaClone
import Derived.BigQuiet
import Derived.Test.YtegecjilpmkamaaMatMakesw
namespace Go.Proofs.Ytegecjilpmkamaa
open Go.RowKit Sb


theorem Mv.take {P : Nat → Prop} {w : World} {ao : Option Addr} {n k : Nat} {us : List Value} {m : List (List UInt8)} (h : Mv P w ao n us m) (hk : k ≤ n) : Mv P w ao k (us.take k) (m.take k) := by
  refine ⟨h.1.take hk, by rw [List.length_take, h.2.1]; omega, fun i u r hu hr => ?_⟩
  rw [List.getElem?_take] at hu hr
  split at hu
  · rename_i hi
    rw [if_pos hi] at hr
    exact h.2.2 i u r hu hr
  · cases hu

theorem Mv.drop {P : Nat → Prop} {w : World} {b o n k : Nat} {us : List Value} {m : List (List UInt8)} (h : Mv P w (some ⟨b, o, none⟩) (k + n) us m) : Mv P w (some ⟨b, o + k, none⟩) n (us.drop k) (m.drop k) := by
  have hl := h.1.1
  refine ⟨⟨by simp; omega, fun hn => ?_⟩, by have := h.2.1; simp; omega, fun i u r hu hr => ?_⟩
  · obtain ⟨b', o', e, hp, hc⟩ := h.1.2 (by omega)
    cases e
    refine ⟨b, o + k, rfl, hp, fun i u hu => ?_⟩
    rw [List.getElem?_drop] at hu
    rw [Nat.add_assoc]
    exact hc _ u hu
  · rw [List.getElem?_drop] at hu hr
    exact h.2.2 _ u r hu hr

theorem refright_q (P : Nat → Prop) (ao : Option Addr) (n cap : Nat) (us : List Value) (m : List (List UInt8)) (w : World) (b : Bool) (hr : Mv P w ao n us m) (hn : n ≤ 9223372036854775807) (hb : mright m = b) :
    Calls Try.prog 49 #[.slice ao n cap] w fun e w' => e = .returned (.bool b) ∧ ∃ d, w' = w.drewN d :=
  (refright_any P ao n cap us m w hr hn).mono fun _ _ ⟨he, hd⟩ => ⟨by rw [he, hb], hd⟩

theorem named_step {n : Nat} {l : List Int} {k : Nat} {z : Int} (hz : l[k]? = some z) : named n (l.take (k + 1)) = (named n (l.take k) && decide (0 ≤ z ∧ z < n)) := by
  rw [List.take_add_one, hz, named, List.all_append, named]
  simp

set_option maxRecDepth 100000 in
set_option maxHeartbeats 4000000 in
theorem matRows_big (P Q : Nat → Prop) (a1 a2 a3 : Option Addr) (n1 n2 k c1 c2 ck : Nat) (us vs : List Value) (a b : List (List UInt8)) (w : World) (h1 : Mv P w a1 n1 us a) (h2 : Mv Q w a2 n2 vs b) (hf : ¬ (few a 20 = true ∧ few b 20 = true ∧ k ≤ 300)) :
    Calls Try.prog 10 #[.slice a1 n1 c1, .slice a2 n2 c2, .slice a3 k ck] w fun e w' => e = .returned (.bool true) ∧ Keep (fun _ => False) w w' := by
  have H1 := Lib.hid h1
  have H2 := Lib.hid h2
  have HFF := Lib.hid hf
  have hnt := hnot
  cases ha : few a 20 with
  | false =>
    have HA := Lib.hid ha
    clear h1 h2 hf ha
    go_enter Try.func10, Try.ntmps10
    go_wp2_with fail
    refine (few_no P a1 n1 c1 20 us a w H1.out (by omega) HA.out).mono ?_
    rintro e w1 ⟨rfl, hk⟩
    have HK := Lib.hid hk
    clear hk
    go_wp2_with fail
    go_ret
    exact ⟨rfl, HK.out⟩
  | true =>
    have HA := Lib.hid ha
    cases hb : few b 20 with
    | false =>
      have HB := Lib.hid hb
      clear h1 h2 hf ha hb
      go_enter Try.func10, Try.ntmps10
      go_wp2_with fail
      refine (few_yes P a1 n1 c1 20 us a w H1.out (by omega) HA.out).mono ?_
      rintro e w1 ⟨rfl, hk⟩
      have HK := Lib.hid hk
      clear hk
      go_wp2_with fail
      refine (few_no Q a2 n2 c2 20 vs b w1 (H2.out.keep HK.out (fun _ _ _ => id)) (by omega) HB.out).mono ?_
      rintro e w2 ⟨rfl, hk⟩
      have HK2 := Lib.hid (HK.out.trans hk)
      clear hk
      go_wp2_with fail
      go_ret
      exact ⟨rfl, HK2.out⟩
    | true =>
      have HB := Lib.hid hb
      have hk300 : (300 : Int) < (k : Int) := by
        have : ¬ k ≤ 300 := fun h => hf ⟨ha, hb, h⟩
        omega
      clear h1 h2 hf ha hb
      go_enter Try.func10, Try.ntmps10
      go_wp2_with fail
      refine (few_yes P a1 n1 c1 20 us a w H1.out (by omega) HA.out).mono ?_
      rintro e w1 ⟨rfl, hk⟩
      have HK := Lib.hid hk
      clear hk
      go_wp2_with fail
      refine (few_yes Q a2 n2 c2 20 vs b w1 (H2.out.keep HK.out (fun _ _ _ => id)) (by omega) HB.out).mono ?_
      rintro e w2 ⟨rfl, hk⟩
      have HK2 := Lib.hid (HK.out.trans hk)
      clear hk
      go_wp2_with fail
      go_ret
      exact ⟨rfl, HK2.out⟩


set_option maxRecDepth 100000 in
set_option maxHeartbeats 8000000 in
theorem matRows_ma (a1 a2 a3 : Option Addr) (n1 n2 k c1 c2 ck : Nat) (us vs : List Value) (a b : List (List UInt8)) (l : List Int) (w : World) (h1 : Mv (· < w.heap.size) w a1 n1 us a) (h2 : Mv (· < w.heap.size) w a2 n2 vs b) (h3 : Nn (· < w.heap.size) w a3 k l) (hfa : few a 20 = true) (hfb : few b 20 = true) (hk300 : k ≤ 300) (hma : mright a = false) :
    Calls Try.prog 10 #[.slice a1 n1 c1, .slice a2 n2 c2, .slice a3 k ck] w fun e w' => e = .returned (.bool true) ∧ Keep (fun _ => False) w w' := by
  have HN1 : Hid (n1 ≤ 20) := by
    have h3 := (few_spec hfa).1
    rw [h1.len] at h3
    exact h3
  have HN2 : Hid (n2 ≤ 20) := by
    have h3 := (few_spec hfb).1
    rw [h2.len] at h3
    exact h3
  have t1 : (n1 : Int) ≤ 20 := by have := HN1.out; omega
  have t2 : (n2 : Int) ≤ 20 := by have := HN2.out; omega
  have t3 : (k : Int) ≤ 300 := Int.ofNat_le.2 hk300
  have hnt := hnot
  have HA := Lib.hid hfa
  have HB := Lib.hid hfb
  have HMA := Lib.hid hma
  have HLL : Hid (l.length = k) := h3.len
  have HKB : Hid (mright a = false ∨ ¬ (1 ≤ k ∧ k ≤ 255)) := .inl hma
  have H1 := Lib.hid h1
  have H2 := Lib.hid h2
  have H3 := Lib.hid h3
  clear h1 h2 h3 hfa hfb hma hk300
  go_enter Try.func10, Try.ntmps10
  go_wp2_with fail
  refine (few_yes _ _ n1 c1 20 us a w H1.out (by omega) HA.out).mono ?_
  rintro e w1 ⟨rfl, hk⟩
  have HK1 := Lib.hid hk
  clear hk
  go_wp2_with fail
  refine (few_yes _ _ n2 c2 20 vs b w1 (H2.out.keep HK1.out (fun _ _ _ => id)) (by omega) HB.out).mono ?_
  rintro e w2 ⟨rfl, hk⟩
  have HK2 := Lib.hid (HK1.out.trans hk)
  clear hk
  go_wp2_with fail
  refine (rows_no _ _ _ n1 c1 k ck us a w2 (H1.out.keep HK2.out (fun _ _ _ => id)) (by have := HN1.out; omega) HKB.out).mono ?_
  rintro e w3 ⟨rfl, hk⟩
  have HK3 := Lib.hid (HK2.out.trans hk)
  clear hk
  go_wp2_with fail
  refine (refright_is _ _ n1 c1 us a w3 false (H1.out.keep HK3.out (fun _ _ _ => id)) (by have := HN1.out; omega) HMA.out).mono ?_
  rintro e w4 ⟨rfl, hk⟩
  have HK4 := Lib.hid (HK3.out.trans hk)
  clear hk
  go_wp2_with fail
  go_loopw [9, 10] (fun u i wr => ∃ (j : Nat) (t : Bool), j ≤ k ∧ i = .int .i64 (j : Int) ∧ u = .bool t ∧ Hid (t = false ∧ wr = w4)) (fun _ i _ => k - (intOf i).toNat)
  case atStart => exact ⟨0, false, Nat.zero_le _, rfl, rfl, rfl, rfl⟩
  case round =>
    obtain ⟨j, t, hj, rfl, rfl, HI⟩ := hrel
    have hwr := HI.out.2
    subst hwr
    by_cases hlt : j < k
    · have j0 : (0 : Int) ≤ (j : Int) := by omega
      have jn : (j : Int) < (k : Int) := by omega
      have jN : j < k := hlt
      have HLT := Lib.hid hlt
      have ht := HI.out.1
      subst ht
      clear hlt
      go_wp2_with fail
      go_roundw
      case rel => exact ⟨j + 1, false, by have := HLT.out; omega, by go_num, rfl, by first | rfl | trivial, by first | rfl | trivial⟩
      case measure => have := HLT.out; simp [intOf]; omega
    · have hkn : (k : Int) ≤ (j : Int) := by omega
      have hd : decide (j < k) = false := decide_eq_false hlt
      have ht := HI.out.1
      subst ht
      clear hlt hj HI
      go_wp2_with fail
      clear hkn hd
      go_loopw [11] (fun i wx => ∃ j d : Nat, j ≤ k ∧ i = .int .i64 (j : Int) ∧ Hid (wx = wr.drewN d)) (fun i _ => k - (intOf i).toNat)
      case atStart => exact ⟨0, 0, Nat.zero_le _, rfl, rfl⟩
      case round =>
        obtain ⟨j, d, hj, rfl, HD⟩ := hrel
        obtain ⟨wq, rfl⟩ : ∃ wq : World, wq = wr := ⟨_, rfl⟩
        have HKQ : Hid (Keep (fun _ => False) w wq) := by
          rw [HD.out]
          exact HK4.out.drewN d
        clear hj HD
        go_wp2_with fail
        have HJF : Hid (jfit a b = false) := by show jfit a b = false; rw [jfit, HMA.out]; rfl
        refine (join_no _ _ _ _ n1 n2 c1 c2 us vs a b wq (H1.out.keep HKQ.out (fun _ _ _ => id)) (H2.out.keep HKQ.out (fun _ _ _ => id)) (by have := HN1.out; omega) (by have := HN2.out; omega) HJF.out).mono ?_
        rintro e w8 ⟨rfl, hk⟩
        have HK8 := Lib.hid (HKQ.out.trans hk)
        clear hk
        go_wp2_with fail
        go_quiet ((go_at_call_of 49 (Value.slice a1 n1 c1); exact Calls.quiet_of (refright_q (· < w.heap.size) _ n1 c1 us a _ false ((H1.out.keep HK8.out (fun _ _ _ => id)).drewN _) (by have := HN1.out; omega) HMA.out)))
        have HK9 := Lib.hid (HK8.out.drewN nq)
        go_wp2_with fail
        refine (one5_any _).mono ?_
        rintro e w12 ⟨rfl, hk⟩
        have HK12 := Lib.hid (HK9.out.trans hk)
        clear hk
        go_wp2_with fail
        go_ret
        exact ⟨rfl, HK12.out⟩

set_option maxRecDepth 100000 in
set_option maxHeartbeats 8000000 in
theorem matRows_k0_mb (a1 a2 a3 : Option Addr) (n1 n2 k c1 c2 ck : Nat) (us vs : List Value) (a b : List (List UInt8)) (l : List Int) (w : World) (h1 : Mv (· < w.heap.size) w a1 n1 us a) (h2 : Mv (· < w.heap.size) w a2 n2 vs b) (h3 : Nn (· < w.heap.size) w a3 k l) (hfa : few a 20 = true) (hfb : few b 20 = true) (hk300 : k ≤ 300) (hma : mright a = true) (hmb : mright b = false) (hk0 : k = 0) :
    Calls Try.prog 10 #[.slice a1 n1 c1, .slice a2 n2 c2, .slice a3 k ck] w fun e w' => e = .returned (.bool true) ∧ Keep (fun _ => False) w w' := by
  have HN1 : Hid (n1 ≤ 20) := by
    have h3 := (few_spec hfa).1
    rw [h1.len] at h3
    exact h3
  have HN2 : Hid (n2 ≤ 20) := by
    have h3 := (few_spec hfb).1
    rw [h2.len] at h3
    exact h3
  have t1 : (n1 : Int) ≤ 20 := by have := HN1.out; omega
  have t2 : (n2 : Int) ≤ 20 := by have := HN2.out; omega
  have t3 : (k : Int) ≤ 300 := Int.ofNat_le.2 hk300
  have hnt := hnot
  have HA := Lib.hid hfa
  have HB := Lib.hid hfb
  have HMA := Lib.hid hma
  have HLL : Hid (l.length = k) := h3.len
  have HMB := Lib.hid hmb
  have HBA := Lib.hid (right_bounds h1.len hma)
  obtain ⟨qa, oa, aa, ca, capa, ra, rfl, _, hu, hm0, hca, _, hmx, hrb⟩ := h1.at_ (k := 0) (by have := HBA.out; omega)
  rw [Nat.add_zero] at hca
  have hmc := mcols_at hm0
  rw [hrb.len] at hmc
  have HMC := Lib.hid hmc
  have HCA := Lib.hid hca
  have HLA := Lib.hid (World.block_lt_of_cell? _ _ hca)
  have HROWA : Hid (∀ r ∈ a, r.length = ca) := fun r hr => ((of_mright hma).2.2 r hr).trans hmc
  have pa : (0 : Int) < (n1 : Int) := by have := HBA.out; omega
  have pa' : 0 < n1 := by have := HBA.out; omega
  clear hu hm0 hca hmx hrb
  have kk : (k : Int) ≤ 0 := by omega
  have HKB : Hid (mright a = false ∨ ¬ (1 ≤ k ∧ k ≤ 255)) := .inr (by omega)
  have H1 := Lib.hid h1
  have H2 := Lib.hid h2
  have H3 := Lib.hid h3
  clear h1 h2 h3 hfa hfb hma hk300 hmb hk0 hmc
  go_enter Try.func10, Try.ntmps10
  go_wp2_with fail
  refine (few_yes _ _ n1 c1 20 us a w H1.out (by omega) HA.out).mono ?_
  rintro e w1 ⟨rfl, hk⟩
  have HK1 := Lib.hid hk
  clear hk
  go_wp2_with fail
  refine (few_yes _ _ n2 c2 20 vs b w1 (H2.out.keep HK1.out (fun _ _ _ => id)) (by omega) HB.out).mono ?_
  rintro e w2 ⟨rfl, hk⟩
  have HK2 := Lib.hid (HK1.out.trans hk)
  clear hk
  go_wp2_with fail
  refine (rows_no _ _ _ n1 c1 k ck us a w2 (H1.out.keep HK2.out (fun _ _ _ => id)) (by have := HN1.out; omega) HKB.out).mono ?_
  rintro e w3 ⟨rfl, hk⟩
  have HK3 := Lib.hid (HK2.out.trans hk)
  clear hk
  go_wp2_with fail
  refine (refright_is _ _ n1 c1 us a w3 true (H1.out.keep HK3.out (fun _ _ _ => id)) (by have := HN1.out; omega) HMA.out).mono ?_
  rintro e w4 ⟨rfl, hk⟩
  have HK4 := Lib.hid (HK3.out.trans hk)
  clear hk
  go_wp2_with fail
  go_loopw [9, 10] (fun u i wr => ∃ (j : Nat) (t : Bool), j ≤ k ∧ i = .int .i64 (j : Int) ∧ u = .bool t ∧ Hid (t = false ∧ wr = w4)) (fun _ i _ => k - (intOf i).toNat)
  case atStart => exact ⟨0, false, Nat.zero_le _, rfl, rfl, rfl, rfl⟩
  case round =>
    obtain ⟨j, t, hj, rfl, rfl, HI⟩ := hrel
    have hwr := HI.out.2
    subst hwr
    by_cases hlt : j < k
    · have j0 : (0 : Int) ≤ (j : Int) := by omega
      have jn : (j : Int) < (k : Int) := by omega
      have jN : j < k := hlt
      have HLT := Lib.hid hlt
      have ht := HI.out.1
      subst ht
      clear hlt
      go_wp2_with fail
      go_roundw
      case rel => exact ⟨j + 1, false, by have := HLT.out; omega, by go_num, rfl, by first | rfl | trivial, by first | rfl | trivial⟩
      case measure => have := HLT.out; simp [intOf]; omega
    · have hkn : (k : Int) ≤ (j : Int) := by omega
      have hd : decide (j < k) = false := decide_eq_false hlt
      have ht := HI.out.1
      subst ht
      clear hlt hj HI
      go_wp2_with fail
      clear hkn hd
      go_loopw [11] (fun i wx => ∃ j d : Nat, j ≤ k ∧ i = .int .i64 (j : Int) ∧ Hid (wx = wr.drewN d)) (fun i _ => k - (intOf i).toNat)
      case atStart => exact ⟨0, 0, Nat.zero_le _, rfl, rfl⟩
      case round =>
        obtain ⟨j, d, hj, rfl, HD⟩ := hrel
        obtain ⟨wq, rfl⟩ : ∃ wq : World, wq = wr := ⟨_, rfl⟩
        have HKQ : Hid (Keep (fun _ => False) w wq) := by
          rw [HD.out]
          exact HK4.out.drewN d
        clear hj HD
        go_wp2_with fail
        have HJF : Hid (jfit a b = false) := by show jfit a b = false; rw [jfit, HMA.out, HMB.out]; rfl
        refine (join_no _ _ _ _ n1 n2 c1 c2 us vs a b wq (H1.out.keep HKQ.out (fun _ _ _ => id)) (H2.out.keep HKQ.out (fun _ _ _ => id)) (by have := HN1.out; omega) (by have := HN2.out; omega) HJF.out).mono ?_
        rintro e w8 ⟨rfl, hk⟩
        have HK8 := Lib.hid (HKQ.out.trans hk)
        clear hk
        go_wp2_with fail
        go_quiet ((first | (go_at_call_of 49 (Value.slice (some ⟨qa, oa, none⟩) n1 c1); exact Calls.quiet_of (refright_q (· < w.heap.size) _ n1 c1 us a _ true ((H1.out.keep HK8.out (fun _ _ _ => id)).drewN _) (by have := HN1.out; omega) HMA.out)) | (go_at_call_of 49 (Value.slice a2 n2 c2); exact Calls.quiet_of (refright_q (· < w.heap.size) _ n2 c2 vs b _ false ((H2.out.keep HK8.out (fun _ _ _ => id)).drewN _) (by have := HN2.out; omega) HMB.out))))
        have HK9 := Lib.hid (HK8.out.drewN nq)
        go_wp2_with fail
        refine (one5_any _).mono ?_
        rintro e w12 ⟨rfl, hk⟩
        have HK12 := Lib.hid (HK9.out.trans hk)
        clear hk
        go_wp2_with fail
        go_ret
        exact ⟨rfl, HK12.out⟩

set_option maxRecDepth 100000 in
set_option maxHeartbeats 8000000 in
theorem matRows_k0_cols (a1 a2 a3 : Option Addr) (n1 n2 k c1 c2 ck : Nat) (us vs : List Value) (a b : List (List UInt8)) (l : List Int) (w : World) (h1 : Mv (· < w.heap.size) w a1 n1 us a) (h2 : Mv (· < w.heap.size) w a2 n2 vs b) (h3 : Nn (· < w.heap.size) w a3 k l) (hfa : few a 20 = true) (hfb : few b 20 = true) (hk300 : k ≤ 300) (hma : mright a = true) (hmb : mright b = true) (hcol : mcols a ≠ mcols b) (hk0 : k = 0) :
    Calls Try.prog 10 #[.slice a1 n1 c1, .slice a2 n2 c2, .slice a3 k ck] w fun e w' => e = .returned (.bool true) ∧ Keep (fun _ => False) w w' := by
  have HN1 : Hid (n1 ≤ 20) := by
    have h3 := (few_spec hfa).1
    rw [h1.len] at h3
    exact h3
  have HN2 : Hid (n2 ≤ 20) := by
    have h3 := (few_spec hfb).1
    rw [h2.len] at h3
    exact h3
  have t1 : (n1 : Int) ≤ 20 := by have := HN1.out; omega
  have t2 : (n2 : Int) ≤ 20 := by have := HN2.out; omega
  have t3 : (k : Int) ≤ 300 := Int.ofNat_le.2 hk300
  have hnt := hnot
  have HA := Lib.hid hfa
  have HB := Lib.hid hfb
  have HMA := Lib.hid hma
  have HLL : Hid (l.length = k) := h3.len
  have HMB := Lib.hid hmb
  have HBA := Lib.hid (right_bounds h1.len hma)
  obtain ⟨qa, oa, aa, ca, capa, ra, rfl, _, hu, hm0, hca, _, hmx, hrb⟩ := h1.at_ (k := 0) (by have := HBA.out; omega)
  rw [Nat.add_zero] at hca
  have hmc := mcols_at hm0
  rw [hrb.len] at hmc
  have HMC := Lib.hid hmc
  have HCA := Lib.hid hca
  have HLA := Lib.hid (World.block_lt_of_cell? _ _ hca)
  have HROWA : Hid (∀ r ∈ a, r.length = ca) := fun r hr => ((of_mright hma).2.2 r hr).trans hmc
  have pa : (0 : Int) < (n1 : Int) := by have := HBA.out; omega
  have pa' : 0 < n1 := by have := HBA.out; omega
  clear hu hm0 hca hmx hrb
  have kk : (k : Int) ≤ 0 := by omega
  have HKB : Hid (mright a = false ∨ ¬ (1 ≤ k ∧ k ≤ 255)) := .inr (by omega)
  have HBB := Lib.hid (right_bounds h2.len hmb)
  obtain ⟨qb, ob, ab, L, capb, rb, rfl, _, hub, hmb0, hcb, _, hmxb, hrbb⟩ := h2.at_ (k := 0) (by have := HBB.out; omega)
  rw [Nat.add_zero] at hcb
  have hlc := mcols_at hmb0
  rw [hrbb.len] at hlc
  have HLC := Lib.hid hlc
  have HCBB := Lib.hid hcb
  have HLB := Lib.hid (World.block_lt_of_cell? _ _ hcb)
  have pb : (0 : Int) < (n2 : Int) := by have := HBB.out; omega
  have pb' : 0 < n2 := by have := HBB.out; omega
  have e1 : ((ca : Int) == (L : Int)) = false := by rw [beq_eq_false_iff_ne]; omega
  have HCOL := Lib.hid hcol
  clear hub hmb0 hcb hmxb hrbb hlc hcol
  have H1 := Lib.hid h1
  have H2 := Lib.hid h2
  have H3 := Lib.hid h3
  clear h1 h2 h3 hfa hfb hma hk300 hmb hk0 hmc
  go_enter Try.func10, Try.ntmps10
  go_wp2_with fail
  refine (few_yes _ _ n1 c1 20 us a w H1.out (by omega) HA.out).mono ?_
  rintro e w1 ⟨rfl, hk⟩
  have HK1 := Lib.hid hk
  clear hk
  go_wp2_with fail
  refine (few_yes _ _ n2 c2 20 vs b w1 (H2.out.keep HK1.out (fun _ _ _ => id)) (by omega) HB.out).mono ?_
  rintro e w2 ⟨rfl, hk⟩
  have HK2 := Lib.hid (HK1.out.trans hk)
  clear hk
  go_wp2_with fail
  refine (rows_no _ _ _ n1 c1 k ck us a w2 (H1.out.keep HK2.out (fun _ _ _ => id)) (by have := HN1.out; omega) HKB.out).mono ?_
  rintro e w3 ⟨rfl, hk⟩
  have HK3 := Lib.hid (HK2.out.trans hk)
  clear hk
  go_wp2_with fail
  refine (refright_is _ _ n1 c1 us a w3 true (H1.out.keep HK3.out (fun _ _ _ => id)) (by have := HN1.out; omega) HMA.out).mono ?_
  rintro e w4 ⟨rfl, hk⟩
  have HK4 := Lib.hid (HK3.out.trans hk)
  clear hk
  go_wp2_with fail
  go_loopw [9, 10] (fun u i wr => ∃ (j : Nat) (t : Bool), j ≤ k ∧ i = .int .i64 (j : Int) ∧ u = .bool t ∧ Hid (t = false ∧ wr = w4)) (fun _ i _ => k - (intOf i).toNat)
  case atStart => exact ⟨0, false, Nat.zero_le _, rfl, rfl, rfl, rfl⟩
  case round =>
    obtain ⟨j, t, hj, rfl, rfl, HI⟩ := hrel
    have hwr := HI.out.2
    subst hwr
    by_cases hlt : j < k
    · have j0 : (0 : Int) ≤ (j : Int) := by omega
      have jn : (j : Int) < (k : Int) := by omega
      have jN : j < k := hlt
      have HLT := Lib.hid hlt
      have ht := HI.out.1
      subst ht
      clear hlt
      go_wp2_with fail
      go_roundw
      case rel => exact ⟨j + 1, false, by have := HLT.out; omega, by go_num, rfl, by first | rfl | trivial, by first | rfl | trivial⟩
      case measure => have := HLT.out; simp [intOf]; omega
    · have hkn : (k : Int) ≤ (j : Int) := by omega
      have hd : decide (j < k) = false := decide_eq_false hlt
      have ht := HI.out.1
      subst ht
      clear hlt hj HI
      go_wp2_with fail
      clear hkn hd
      go_loopw [11] (fun i wx => ∃ j d : Nat, j ≤ k ∧ i = .int .i64 (j : Int) ∧ Hid (wx = wr.drewN d)) (fun i _ => k - (intOf i).toNat)
      case atStart => exact ⟨0, 0, Nat.zero_le _, rfl, rfl⟩
      case round =>
        obtain ⟨j, d, hj, rfl, HD⟩ := hrel
        obtain ⟨wq, rfl⟩ : ∃ wq : World, wq = wr := ⟨_, rfl⟩
        have HKQ : Hid (Keep (fun _ => False) w wq) := by
          rw [HD.out]
          exact HK4.out.drewN d
        clear hj HD
        go_wp2_with fail
        have HJF : Hid (jfit a b = false) := by show jfit a b = false; rw [jfit, HMA.out, HMB.out, decide_eq_false HCOL.out]; rfl
        refine (join_no _ _ _ _ n1 n2 c1 c2 us vs a b wq (H1.out.keep HKQ.out (fun _ _ _ => id)) (H2.out.keep HKQ.out (fun _ _ _ => id)) (by have := HN1.out; omega) (by have := HN2.out; omega) HJF.out).mono ?_
        rintro e w8 ⟨rfl, hk⟩
        have HK8 := Lib.hid (HKQ.out.trans hk)
        clear hk
        have hca8 := (HK8.out.cell (p := ⟨qa, oa, none⟩) HLA.out id).trans HCA.out
        have hcb8 := (HK8.out.cell (p := ⟨qb, ob, none⟩) HLB.out id).trans HCBB.out
        go_wp2_with fail
        go_quiet ((first | (go_at_call_of 49 (Value.slice (some ⟨qa, oa, none⟩) n1 c1); exact Calls.quiet_of (refright_q (· < w.heap.size) _ n1 c1 us a _ true ((H1.out.keep HK8.out (fun _ _ _ => id)).drewN _) (by have := HN1.out; omega) HMA.out)) | (go_at_call_of 49 (Value.slice (some ⟨qb, ob, none⟩) n2 c2); exact Calls.quiet_of (refright_q (· < w.heap.size) _ n2 c2 vs b _ true ((H2.out.keep HK8.out (fun _ _ _ => id)).drewN _) (by have := HN2.out; omega) HMB.out))))
        clear hca8 hcb8
        have HK9 := Lib.hid (HK8.out.drewN nq)
        go_wp2_with fail
        refine (one5_any _).mono ?_
        rintro e w12 ⟨rfl, hk⟩
        have HK12 := Lib.hid (HK9.out.trans hk)
        clear hk
        go_wp2_with fail
        go_ret
        exact ⟨rfl, HK12.out⟩

set_option maxRecDepth 100000 in
set_option maxHeartbeats 8000000 in
theorem matRows_k0_yes (a1 a2 a3 : Option Addr) (n1 n2 k c1 c2 ck : Nat) (us vs : List Value) (a b : List (List UInt8)) (l : List Int) (w : World) (h1 : Mv (· < w.heap.size) w a1 n1 us a) (h2 : Mv (· < w.heap.size) w a2 n2 vs b) (h3 : Nn (· < w.heap.size) w a3 k l) (hfa : few a 20 = true) (hfb : few b 20 = true) (hk300 : k ≤ 300) (hma : mright a = true) (hmb : mright b = true) (hcol : mcols a = mcols b) (hk0 : k = 0) :
    Calls Try.prog 10 #[.slice a1 n1 c1, .slice a2 n2 c2, .slice a3 k ck] w fun e w' => e = .returned (.bool true) ∧ Keep (fun _ => False) w w' := by
  have HN1 : Hid (n1 ≤ 20) := by
    have h3 := (few_spec hfa).1
    rw [h1.len] at h3
    exact h3
  have HN2 : Hid (n2 ≤ 20) := by
    have h3 := (few_spec hfb).1
    rw [h2.len] at h3
    exact h3
  have t1 : (n1 : Int) ≤ 20 := by have := HN1.out; omega
  have t2 : (n2 : Int) ≤ 20 := by have := HN2.out; omega
  have t3 : (k : Int) ≤ 300 := Int.ofNat_le.2 hk300
  have hnt := hnot
  have HA := Lib.hid hfa
  have HB := Lib.hid hfb
  have HMA := Lib.hid hma
  have HLL : Hid (l.length = k) := h3.len
  have HMB := Lib.hid hmb
  have HBA := Lib.hid (right_bounds h1.len hma)
  obtain ⟨qa, oa, aa, ca, capa, ra, rfl, _, hu, hm0, hca, _, hmx, hrb⟩ := h1.at_ (k := 0) (by have := HBA.out; omega)
  rw [Nat.add_zero] at hca
  have hmc := mcols_at hm0
  rw [hrb.len] at hmc
  have HMC := Lib.hid hmc
  have HCA := Lib.hid hca
  have HLA := Lib.hid (World.block_lt_of_cell? _ _ hca)
  have HROWA : Hid (∀ r ∈ a, r.length = ca) := fun r hr => ((of_mright hma).2.2 r hr).trans hmc
  have pa : (0 : Int) < (n1 : Int) := by have := HBA.out; omega
  have pa' : 0 < n1 := by have := HBA.out; omega
  clear hu hm0 hca hmx hrb
  have kk : (k : Int) ≤ 0 := by omega
  have HKB : Hid (mright a = false ∨ ¬ (1 ≤ k ∧ k ≤ 255)) := .inr (by omega)
  have HBB := Lib.hid (right_bounds h2.len hmb)
  obtain ⟨qb, ob, ab, L, capb, rb, rfl, _, hub, hmb0, hcb, _, hmxb, hrbb⟩ := h2.at_ (k := 0) (by have := HBB.out; omega)
  rw [Nat.add_zero] at hcb
  have hlc := mcols_at hmb0
  rw [hrbb.len] at hlc
  have HLC := Lib.hid hlc
  have HCBB := Lib.hid hcb
  have HLB := Lib.hid (World.block_lt_of_cell? _ _ hcb)
  have pb : (0 : Int) < (n2 : Int) := by have := HBB.out; omega
  have pb' : 0 < n2 := by have := HBB.out; omega
  have e1 : ((ca : Int) == (L : Int)) = true := by rw [beq_iff_eq]; omega
  have HCOL := Lib.hid hcol
  clear hub hmb0 hcb hmxb hrbb hlc hcol
  have H1 := Lib.hid h1
  have H2 := Lib.hid h2
  have H3 := Lib.hid h3
  clear h1 h2 h3 hfa hfb hma hk300 hmb hk0 hmc
  go_enter Try.func10, Try.ntmps10
  go_wp2_with fail
  refine (few_yes _ _ n1 c1 20 us a w H1.out (by omega) HA.out).mono ?_
  rintro e w1 ⟨rfl, hk⟩
  have HK1 := Lib.hid hk
  clear hk
  go_wp2_with fail
  refine (few_yes _ _ n2 c2 20 vs b w1 (H2.out.keep HK1.out (fun _ _ _ => id)) (by omega) HB.out).mono ?_
  rintro e w2 ⟨rfl, hk⟩
  have HK2 := Lib.hid (HK1.out.trans hk)
  clear hk
  go_wp2_with fail
  refine (rows_no _ _ _ n1 c1 k ck us a w2 (H1.out.keep HK2.out (fun _ _ _ => id)) (by have := HN1.out; omega) HKB.out).mono ?_
  rintro e w3 ⟨rfl, hk⟩
  have HK3 := Lib.hid (HK2.out.trans hk)
  clear hk
  go_wp2_with fail
  refine (refright_is _ _ n1 c1 us a w3 true (H1.out.keep HK3.out (fun _ _ _ => id)) (by have := HN1.out; omega) HMA.out).mono ?_
  rintro e w4 ⟨rfl, hk⟩
  have HK4 := Lib.hid (HK3.out.trans hk)
  clear hk
  go_wp2_with fail
  go_loopw [9, 10] (fun u i wr => ∃ (j : Nat) (t : Bool), j ≤ k ∧ i = .int .i64 (j : Int) ∧ u = .bool t ∧ Hid (t = false ∧ wr = w4)) (fun _ i _ => k - (intOf i).toNat)
  case atStart => exact ⟨0, false, Nat.zero_le _, rfl, rfl, rfl, rfl⟩
  case round =>
    obtain ⟨j, t, hj, rfl, rfl, HI⟩ := hrel
    have hwr := HI.out.2
    subst hwr
    by_cases hlt : j < k
    · have j0 : (0 : Int) ≤ (j : Int) := by omega
      have jn : (j : Int) < (k : Int) := by omega
      have jN : j < k := hlt
      have HLT := Lib.hid hlt
      have ht := HI.out.1
      subst ht
      clear hlt
      go_wp2_with fail
      go_roundw
      case rel => exact ⟨j + 1, false, by have := HLT.out; omega, by go_num, rfl, by first | rfl | trivial, by first | rfl | trivial⟩
      case measure => have := HLT.out; simp [intOf]; omega
    · have hkn : (k : Int) ≤ (j : Int) := by omega
      have hd : decide (j < k) = false := decide_eq_false hlt
      have ht := HI.out.1
      subst ht
      clear hlt hj HI
      go_wp2_with fail
      clear hkn hd
      go_loopw [11] (fun i wx => ∃ j d : Nat, j ≤ k ∧ i = .int .i64 (j : Int) ∧ Hid (wx = wr.drewN d)) (fun i _ => k - (intOf i).toNat)
      case atStart => exact ⟨0, 0, Nat.zero_le _, rfl, rfl⟩
      case round =>
        obtain ⟨j, d, hj, rfl, HD⟩ := hrel
        obtain ⟨wq, rfl⟩ : ∃ wq : World, wq = wr := ⟨_, rfl⟩
        have HKQ : Hid (Keep (fun _ => False) w wq) := by
          rw [HD.out]
          exact HK4.out.drewN d
        clear hj HD
        go_wp2_with fail
        refine (join_yes _ _ _ _ n1 n2 c1 c2 us vs a b wq (H1.out.keep HKQ.out (fun _ _ _ => id)) (H2.out.keep HKQ.out (fun _ _ _ => id)) HMA.out HMB.out HCOL.out (by have := HN1.out; have := HN2.out; omega)).mono ?_
        rintro e w8 ⟨v8, rfl, hgr, hk⟩
        have HK8 := Lib.hid (HKQ.out.trans hk)
        have HLEN : Hid ((a ++ b).length = n1 + n2) := by show (a ++ b).length = n1 + n2; rw [List.length_append, H1.out.len, H2.out.len]
        obtain ⟨ao8, cap8, rfl, hc8, _⟩ := hgr.len
        obtain ⟨ys, hys⟩ := hgr.mv
        rw [HLEN.out] at hys hc8 ⊢
        obtain ⟨q8, o8, _, _, _, _, rfl, _⟩ := hys.at_ (k := 0) (by have := HBA.out; omega)
        have hy1 := hys.take (k := n1) (by omega)
        have hy2 := hys.drop
        rw [List.take_left' H1.out.len] at hy1
        rw [List.drop_left' H1.out.len] at hy2
        have HY1 := Lib.hid hy1
        have HY2 := Lib.hid hy2
        have s1 : (n1 : Int) ≤ (cap8 : Int) := by omega
        have s2 : (n1 : Int) ≤ (n1 : Int) + (n2 : Int) := by omega
        have s3 : (n1 : Int) + (n2 : Int) ≤ (cap8 : Int) := by omega
        clear hk hgr hys hy1 hy2 hc8
        have hca8 := (HK8.out.cell (p := ⟨qa, oa, none⟩) HLA.out id).trans HCA.out
        have hcb8 := (HK8.out.cell (p := ⟨qb, ob, none⟩) HLB.out id).trans HCBB.out
        go_wp2_with fail
        go_quiet ((first | (go_at_call_of 49 (Value.slice (some ⟨qa, oa, none⟩) n1 c1); exact Calls.quiet_of (refright_q (· < w.heap.size) _ n1 c1 us a _ true ((H1.out.keep HK8.out (fun _ _ _ => id)).drewN _) (by have := HN1.out; omega) HMA.out)) | (go_at_call_of 49 (Value.slice (some ⟨qb, ob, none⟩) n2 c2); exact Calls.quiet_of (refright_q (· < w.heap.size) _ n2 c2 vs b _ true ((H2.out.keep HK8.out (fun _ _ _ => id)).drewN _) (by have := HN2.out; omega) HMB.out))))
        clear hca8 hcb8
        have HK9 := Lib.hid (HK8.out.drewN nq)
        go_wp2_with fail
        refine (refsame_is _ _ _ _ n1 n1 _ c1 _ us _ a _ true (HY1.out.drewN nq) (H1.out.keep HK9.out (fun _ _ _ => id)) (by have := HN1.out; omega) (by have := HN1.out; omega) (same_yes rfl)).mono ?_
        rintro e w10 ⟨rfl, hk⟩
        have HK10 := Lib.hid (HK9.out.trans hk)
        have HY10 := Lib.hid (HY2.out.keep (S := fun _ => False) ⟨hk.os, hk.tape, hk.output, hk.size, hk.block⟩ (fun _ _ _ => id))
        clear hk
        go_wp2_with fail
        refine (refsame_is _ _ _ _ n2 n2 _ c2 _ vs _ b w10 true HY10.out (H2.out.keep HK10.out (fun _ _ _ => id)) (by have := HN2.out; omega) (by have := HN2.out; omega) (same_yes rfl)).mono ?_
        rintro e w11 ⟨rfl, hk⟩
        have HK11 := Lib.hid (HK10.out.trans hk)
        clear hk
        go_wp2_with fail
        refine (one5_any _).mono ?_
        rintro e w12 ⟨rfl, hk⟩
        have HK12 := Lib.hid (HK11.out.trans hk)
        clear hk
        go_wp2_with fail
        go_ret
        exact ⟨rfl, HK12.out⟩

set_option maxRecDepth 100000 in
set_option maxHeartbeats 8000000 in
theorem matRows_k256_mb (a1 a2 a3 : Option Addr) (n1 n2 k c1 c2 ck : Nat) (us vs : List Value) (a b : List (List UInt8)) (l : List Int) (w : World) (h1 : Mv (· < w.heap.size) w a1 n1 us a) (h2 : Mv (· < w.heap.size) w a2 n2 vs b) (h3 : Nn (· < w.heap.size) w a3 k l) (hfa : few a 20 = true) (hfb : few b 20 = true) (hk300 : k ≤ 300) (hma : mright a = true) (hmb : mright b = false) (hk0 : 255 < k) :
    Calls Try.prog 10 #[.slice a1 n1 c1, .slice a2 n2 c2, .slice a3 k ck] w fun e w' => e = .returned (.bool true) ∧ Keep (fun _ => False) w w' := by
  have HN1 : Hid (n1 ≤ 20) := by
    have h3 := (few_spec hfa).1
    rw [h1.len] at h3
    exact h3
  have HN2 : Hid (n2 ≤ 20) := by
    have h3 := (few_spec hfb).1
    rw [h2.len] at h3
    exact h3
  have t1 : (n1 : Int) ≤ 20 := by have := HN1.out; omega
  have t2 : (n2 : Int) ≤ 20 := by have := HN2.out; omega
  have t3 : (k : Int) ≤ 300 := Int.ofNat_le.2 hk300
  have hnt := hnot
  have HA := Lib.hid hfa
  have HB := Lib.hid hfb
  have HMA := Lib.hid hma
  have HLL : Hid (l.length = k) := h3.len
  have HMB := Lib.hid hmb
  have HBA := Lib.hid (right_bounds h1.len hma)
  obtain ⟨qa, oa, aa, ca, capa, ra, rfl, _, hu, hm0, hca, _, hmx, hrb⟩ := h1.at_ (k := 0) (by have := HBA.out; omega)
  rw [Nat.add_zero] at hca
  have hmc := mcols_at hm0
  rw [hrb.len] at hmc
  have HMC := Lib.hid hmc
  have HCA := Lib.hid hca
  have HLA := Lib.hid (World.block_lt_of_cell? _ _ hca)
  have HROWA : Hid (∀ r ∈ a, r.length = ca) := fun r hr => ((of_mright hma).2.2 r hr).trans hmc
  have pa : (0 : Int) < (n1 : Int) := by have := HBA.out; omega
  have pa' : 0 < n1 := by have := HBA.out; omega
  clear hu hm0 hca hmx hrb
  have kk : (255 : Int) < (k : Int) := by omega
  have kd : decide ((k : Int) ≤ 255) = false := decide_eq_false (by omega)
  have HKB : Hid (mright a = false ∨ ¬ (1 ≤ k ∧ k ≤ 255)) := .inr (by omega)
  have H1 := Lib.hid h1
  have H2 := Lib.hid h2
  have H3 := Lib.hid h3
  clear h1 h2 h3 hfa hfb hma hk300 hmb hk0 hmc
  go_enter Try.func10, Try.ntmps10
  go_wp2_with fail
  refine (few_yes _ _ n1 c1 20 us a w H1.out (by omega) HA.out).mono ?_
  rintro e w1 ⟨rfl, hk⟩
  have HK1 := Lib.hid hk
  clear hk
  go_wp2_with fail
  refine (few_yes _ _ n2 c2 20 vs b w1 (H2.out.keep HK1.out (fun _ _ _ => id)) (by omega) HB.out).mono ?_
  rintro e w2 ⟨rfl, hk⟩
  have HK2 := Lib.hid (HK1.out.trans hk)
  clear hk
  go_wp2_with fail
  refine (rows_no _ _ _ n1 c1 k ck us a w2 (H1.out.keep HK2.out (fun _ _ _ => id)) (by have := HN1.out; omega) HKB.out).mono ?_
  rintro e w3 ⟨rfl, hk⟩
  have HK3 := Lib.hid (HK2.out.trans hk)
  clear hk
  go_wp2_with fail
  refine (refright_is _ _ n1 c1 us a w3 true (H1.out.keep HK3.out (fun _ _ _ => id)) (by have := HN1.out; omega) HMA.out).mono ?_
  rintro e w4 ⟨rfl, hk⟩
  have HK4 := Lib.hid (HK3.out.trans hk)
  clear hk
  go_wp2_with fail
  go_loopw [9, 10] (fun u i wr => ∃ (j : Nat) (t : Bool), j ≤ k ∧ i = .int .i64 (j : Int) ∧ u = .bool t ∧ Hid (t = false ∧ wr = w4)) (fun _ i _ => k - (intOf i).toNat)
  case atStart => exact ⟨0, false, Nat.zero_le _, rfl, rfl, rfl, rfl⟩
  case round =>
    obtain ⟨j, t, hj, rfl, rfl, HI⟩ := hrel
    have hwr := HI.out.2
    subst hwr
    by_cases hlt : j < k
    · have j0 : (0 : Int) ≤ (j : Int) := by omega
      have jn : (j : Int) < (k : Int) := by omega
      have jN : j < k := hlt
      have HLT := Lib.hid hlt
      have ht := HI.out.1
      subst ht
      clear hlt
      go_wp2_with fail
      go_roundw
      case rel => exact ⟨j + 1, false, by have := HLT.out; omega, by go_num, rfl, by first | rfl | trivial, by first | rfl | trivial⟩
      case measure => have := HLT.out; simp [intOf]; omega
    · have hkn : (k : Int) ≤ (j : Int) := by omega
      have hd : decide (j < k) = false := decide_eq_false hlt
      have ht := HI.out.1
      subst ht
      clear hlt hj HI
      go_wp2_with fail
      clear hkn hd
      go_loopw [11] (fun i wx => ∃ j d : Nat, j ≤ k ∧ i = .int .i64 (j : Int) ∧ Hid (wx = wr.drewN d)) (fun i _ => k - (intOf i).toNat)
      case atStart => exact ⟨0, 0, Nat.zero_le _, rfl, rfl⟩
      case round =>
        obtain ⟨j, d, hj, rfl, HD⟩ := hrel
        obtain ⟨wq, rfl⟩ : ∃ wq : World, wq = wr := ⟨_, rfl⟩
        have HKQ : Hid (Keep (fun _ => False) w wq) := by
          rw [HD.out]
          exact HK4.out.drewN d
        clear hj HD
        go_wp2_with fail
        have HJF : Hid (jfit a b = false) := by show jfit a b = false; rw [jfit, HMA.out, HMB.out]; rfl
        refine (join_no _ _ _ _ n1 n2 c1 c2 us vs a b wq (H1.out.keep HKQ.out (fun _ _ _ => id)) (H2.out.keep HKQ.out (fun _ _ _ => id)) (by have := HN1.out; omega) (by have := HN2.out; omega) HJF.out).mono ?_
        rintro e w8 ⟨rfl, hk⟩
        have HK8 := Lib.hid (HKQ.out.trans hk)
        clear hk
        go_wp2_with fail
        go_quiet ((first | (go_at_call_of 49 (Value.slice (some ⟨qa, oa, none⟩) n1 c1); exact Calls.quiet_of (refright_q (· < w.heap.size) _ n1 c1 us a _ true ((H1.out.keep HK8.out (fun _ _ _ => id)).drewN _) (by have := HN1.out; omega) HMA.out)) | (go_at_call_of 49 (Value.slice a2 n2 c2); exact Calls.quiet_of (refright_q (· < w.heap.size) _ n2 c2 vs b _ false ((H2.out.keep HK8.out (fun _ _ _ => id)).drewN _) (by have := HN2.out; omega) HMB.out))))
        have HK9 := Lib.hid (HK8.out.drewN nq)
        go_wp2_with fail
        refine (one5_any _).mono ?_
        rintro e w12 ⟨rfl, hk⟩
        have HK12 := Lib.hid (HK9.out.trans hk)
        clear hk
        go_wp2_with fail
        go_ret
        exact ⟨rfl, HK12.out⟩

set_option maxRecDepth 100000 in
set_option maxHeartbeats 8000000 in
theorem matRows_k256_cols (a1 a2 a3 : Option Addr) (n1 n2 k c1 c2 ck : Nat) (us vs : List Value) (a b : List (List UInt8)) (l : List Int) (w : World) (h1 : Mv (· < w.heap.size) w a1 n1 us a) (h2 : Mv (· < w.heap.size) w a2 n2 vs b) (h3 : Nn (· < w.heap.size) w a3 k l) (hfa : few a 20 = true) (hfb : few b 20 = true) (hk300 : k ≤ 300) (hma : mright a = true) (hmb : mright b = true) (hcol : mcols a ≠ mcols b) (hk0 : 255 < k) :
    Calls Try.prog 10 #[.slice a1 n1 c1, .slice a2 n2 c2, .slice a3 k ck] w fun e w' => e = .returned (.bool true) ∧ Keep (fun _ => False) w w' := by
  have HN1 : Hid (n1 ≤ 20) := by
    have h3 := (few_spec hfa).1
    rw [h1.len] at h3
    exact h3
  have HN2 : Hid (n2 ≤ 20) := by
    have h3 := (few_spec hfb).1
    rw [h2.len] at h3
    exact h3
  have t1 : (n1 : Int) ≤ 20 := by have := HN1.out; omega
  have t2 : (n2 : Int) ≤ 20 := by have := HN2.out; omega
  have t3 : (k : Int) ≤ 300 := Int.ofNat_le.2 hk300
  have hnt := hnot
  have HA := Lib.hid hfa
  have HB := Lib.hid hfb
  have HMA := Lib.hid hma
  have HLL : Hid (l.length = k) := h3.len
  have HMB := Lib.hid hmb
  have HBA := Lib.hid (right_bounds h1.len hma)
  obtain ⟨qa, oa, aa, ca, capa, ra, rfl, _, hu, hm0, hca, _, hmx, hrb⟩ := h1.at_ (k := 0) (by have := HBA.out; omega)
  rw [Nat.add_zero] at hca
  have hmc := mcols_at hm0
  rw [hrb.len] at hmc
  have HMC := Lib.hid hmc
  have HCA := Lib.hid hca
  have HLA := Lib.hid (World.block_lt_of_cell? _ _ hca)
  have HROWA : Hid (∀ r ∈ a, r.length = ca) := fun r hr => ((of_mright hma).2.2 r hr).trans hmc
  have pa : (0 : Int) < (n1 : Int) := by have := HBA.out; omega
  have pa' : 0 < n1 := by have := HBA.out; omega
  clear hu hm0 hca hmx hrb
  have kk : (255 : Int) < (k : Int) := by omega
  have kd : decide ((k : Int) ≤ 255) = false := decide_eq_false (by omega)
  have HKB : Hid (mright a = false ∨ ¬ (1 ≤ k ∧ k ≤ 255)) := .inr (by omega)
  have HBB := Lib.hid (right_bounds h2.len hmb)
  obtain ⟨qb, ob, ab, L, capb, rb, rfl, _, hub, hmb0, hcb, _, hmxb, hrbb⟩ := h2.at_ (k := 0) (by have := HBB.out; omega)
  rw [Nat.add_zero] at hcb
  have hlc := mcols_at hmb0
  rw [hrbb.len] at hlc
  have HLC := Lib.hid hlc
  have HCBB := Lib.hid hcb
  have HLB := Lib.hid (World.block_lt_of_cell? _ _ hcb)
  have pb : (0 : Int) < (n2 : Int) := by have := HBB.out; omega
  have pb' : 0 < n2 := by have := HBB.out; omega
  have e1 : ((ca : Int) == (L : Int)) = false := by rw [beq_eq_false_iff_ne]; omega
  have HCOL := Lib.hid hcol
  clear hub hmb0 hcb hmxb hrbb hlc hcol
  have H1 := Lib.hid h1
  have H2 := Lib.hid h2
  have H3 := Lib.hid h3
  clear h1 h2 h3 hfa hfb hma hk300 hmb hk0 hmc
  go_enter Try.func10, Try.ntmps10
  go_wp2_with fail
  refine (few_yes _ _ n1 c1 20 us a w H1.out (by omega) HA.out).mono ?_
  rintro e w1 ⟨rfl, hk⟩
  have HK1 := Lib.hid hk
  clear hk
  go_wp2_with fail
  refine (few_yes _ _ n2 c2 20 vs b w1 (H2.out.keep HK1.out (fun _ _ _ => id)) (by omega) HB.out).mono ?_
  rintro e w2 ⟨rfl, hk⟩
  have HK2 := Lib.hid (HK1.out.trans hk)
  clear hk
  go_wp2_with fail
  refine (rows_no _ _ _ n1 c1 k ck us a w2 (H1.out.keep HK2.out (fun _ _ _ => id)) (by have := HN1.out; omega) HKB.out).mono ?_
  rintro e w3 ⟨rfl, hk⟩
  have HK3 := Lib.hid (HK2.out.trans hk)
  clear hk
  go_wp2_with fail
  refine (refright_is _ _ n1 c1 us a w3 true (H1.out.keep HK3.out (fun _ _ _ => id)) (by have := HN1.out; omega) HMA.out).mono ?_
  rintro e w4 ⟨rfl, hk⟩
  have HK4 := Lib.hid (HK3.out.trans hk)
  clear hk
  go_wp2_with fail
  go_loopw [9, 10] (fun u i wr => ∃ (j : Nat) (t : Bool), j ≤ k ∧ i = .int .i64 (j : Int) ∧ u = .bool t ∧ Hid (t = false ∧ wr = w4)) (fun _ i _ => k - (intOf i).toNat)
  case atStart => exact ⟨0, false, Nat.zero_le _, rfl, rfl, rfl, rfl⟩
  case round =>
    obtain ⟨j, t, hj, rfl, rfl, HI⟩ := hrel
    have hwr := HI.out.2
    subst hwr
    by_cases hlt : j < k
    · have j0 : (0 : Int) ≤ (j : Int) := by omega
      have jn : (j : Int) < (k : Int) := by omega
      have jN : j < k := hlt
      have HLT := Lib.hid hlt
      have ht := HI.out.1
      subst ht
      clear hlt
      go_wp2_with fail
      go_roundw
      case rel => exact ⟨j + 1, false, by have := HLT.out; omega, by go_num, rfl, by first | rfl | trivial, by first | rfl | trivial⟩
      case measure => have := HLT.out; simp [intOf]; omega
    · have hkn : (k : Int) ≤ (j : Int) := by omega
      have hd : decide (j < k) = false := decide_eq_false hlt
      have ht := HI.out.1
      subst ht
      clear hlt hj HI
      go_wp2_with fail
      clear hkn hd
      go_loopw [11] (fun i wx => ∃ j d : Nat, j ≤ k ∧ i = .int .i64 (j : Int) ∧ Hid (wx = wr.drewN d)) (fun i _ => k - (intOf i).toNat)
      case atStart => exact ⟨0, 0, Nat.zero_le _, rfl, rfl⟩
      case round =>
        obtain ⟨j, d, hj, rfl, HD⟩ := hrel
        obtain ⟨wq, rfl⟩ : ∃ wq : World, wq = wr := ⟨_, rfl⟩
        have HKQ : Hid (Keep (fun _ => False) w wq) := by
          rw [HD.out]
          exact HK4.out.drewN d
        clear hj HD
        go_wp2_with fail
        have HJF : Hid (jfit a b = false) := by show jfit a b = false; rw [jfit, HMA.out, HMB.out, decide_eq_false HCOL.out]; rfl
        refine (join_no _ _ _ _ n1 n2 c1 c2 us vs a b wq (H1.out.keep HKQ.out (fun _ _ _ => id)) (H2.out.keep HKQ.out (fun _ _ _ => id)) (by have := HN1.out; omega) (by have := HN2.out; omega) HJF.out).mono ?_
        rintro e w8 ⟨rfl, hk⟩
        have HK8 := Lib.hid (HKQ.out.trans hk)
        clear hk
        have hca8 := (HK8.out.cell (p := ⟨qa, oa, none⟩) HLA.out id).trans HCA.out
        have hcb8 := (HK8.out.cell (p := ⟨qb, ob, none⟩) HLB.out id).trans HCBB.out
        go_wp2_with fail
        go_quiet ((first | (go_at_call_of 49 (Value.slice (some ⟨qa, oa, none⟩) n1 c1); exact Calls.quiet_of (refright_q (· < w.heap.size) _ n1 c1 us a _ true ((H1.out.keep HK8.out (fun _ _ _ => id)).drewN _) (by have := HN1.out; omega) HMA.out)) | (go_at_call_of 49 (Value.slice (some ⟨qb, ob, none⟩) n2 c2); exact Calls.quiet_of (refright_q (· < w.heap.size) _ n2 c2 vs b _ true ((H2.out.keep HK8.out (fun _ _ _ => id)).drewN _) (by have := HN2.out; omega) HMB.out))))
        clear hca8 hcb8
        have HK9 := Lib.hid (HK8.out.drewN nq)
        go_wp2_with fail
        refine (one5_any _).mono ?_
        rintro e w12 ⟨rfl, hk⟩
        have HK12 := Lib.hid (HK9.out.trans hk)
        clear hk
        go_wp2_with fail
        go_ret
        exact ⟨rfl, HK12.out⟩

set_option maxRecDepth 100000 in
set_option maxHeartbeats 8000000 in
theorem matRows_k256_yes (a1 a2 a3 : Option Addr) (n1 n2 k c1 c2 ck : Nat) (us vs : List Value) (a b : List (List UInt8)) (l : List Int) (w : World) (h1 : Mv (· < w.heap.size) w a1 n1 us a) (h2 : Mv (· < w.heap.size) w a2 n2 vs b) (h3 : Nn (· < w.heap.size) w a3 k l) (hfa : few a 20 = true) (hfb : few b 20 = true) (hk300 : k ≤ 300) (hma : mright a = true) (hmb : mright b = true) (hcol : mcols a = mcols b) (hk0 : 255 < k) :
    Calls Try.prog 10 #[.slice a1 n1 c1, .slice a2 n2 c2, .slice a3 k ck] w fun e w' => e = .returned (.bool true) ∧ Keep (fun _ => False) w w' := by
  have HN1 : Hid (n1 ≤ 20) := by
    have h3 := (few_spec hfa).1
    rw [h1.len] at h3
    exact h3
  have HN2 : Hid (n2 ≤ 20) := by
    have h3 := (few_spec hfb).1
    rw [h2.len] at h3
    exact h3
  have t1 : (n1 : Int) ≤ 20 := by have := HN1.out; omega
  have t2 : (n2 : Int) ≤ 20 := by have := HN2.out; omega
  have t3 : (k : Int) ≤ 300 := Int.ofNat_le.2 hk300
  have hnt := hnot
  have HA := Lib.hid hfa
  have HB := Lib.hid hfb
  have HMA := Lib.hid hma
  have HLL : Hid (l.length = k) := h3.len
  have HMB := Lib.hid hmb
  have HBA := Lib.hid (right_bounds h1.len hma)
  obtain ⟨qa, oa, aa, ca, capa, ra, rfl, _, hu, hm0, hca, _, hmx, hrb⟩ := h1.at_ (k := 0) (by have := HBA.out; omega)
  rw [Nat.add_zero] at hca
  have hmc := mcols_at hm0
  rw [hrb.len] at hmc
  have HMC := Lib.hid hmc
  have HCA := Lib.hid hca
  have HLA := Lib.hid (World.block_lt_of_cell? _ _ hca)
  have HROWA : Hid (∀ r ∈ a, r.length = ca) := fun r hr => ((of_mright hma).2.2 r hr).trans hmc
  have pa : (0 : Int) < (n1 : Int) := by have := HBA.out; omega
  have pa' : 0 < n1 := by have := HBA.out; omega
  clear hu hm0 hca hmx hrb
  have kk : (255 : Int) < (k : Int) := by omega
  have kd : decide ((k : Int) ≤ 255) = false := decide_eq_false (by omega)
  have HKB : Hid (mright a = false ∨ ¬ (1 ≤ k ∧ k ≤ 255)) := .inr (by omega)
  have HBB := Lib.hid (right_bounds h2.len hmb)
  obtain ⟨qb, ob, ab, L, capb, rb, rfl, _, hub, hmb0, hcb, _, hmxb, hrbb⟩ := h2.at_ (k := 0) (by have := HBB.out; omega)
  rw [Nat.add_zero] at hcb
  have hlc := mcols_at hmb0
  rw [hrbb.len] at hlc
  have HLC := Lib.hid hlc
  have HCBB := Lib.hid hcb
  have HLB := Lib.hid (World.block_lt_of_cell? _ _ hcb)
  have pb : (0 : Int) < (n2 : Int) := by have := HBB.out; omega
  have pb' : 0 < n2 := by have := HBB.out; omega
  have e1 : ((ca : Int) == (L : Int)) = true := by rw [beq_iff_eq]; omega
  have HCOL := Lib.hid hcol
  clear hub hmb0 hcb hmxb hrbb hlc hcol
  have H1 := Lib.hid h1
  have H2 := Lib.hid h2
  have H3 := Lib.hid h3
  clear h1 h2 h3 hfa hfb hma hk300 hmb hk0 hmc
  go_enter Try.func10, Try.ntmps10
  go_wp2_with fail
  refine (few_yes _ _ n1 c1 20 us a w H1.out (by omega) HA.out).mono ?_
  rintro e w1 ⟨rfl, hk⟩
  have HK1 := Lib.hid hk
  clear hk
  go_wp2_with fail
  refine (few_yes _ _ n2 c2 20 vs b w1 (H2.out.keep HK1.out (fun _ _ _ => id)) (by omega) HB.out).mono ?_
  rintro e w2 ⟨rfl, hk⟩
  have HK2 := Lib.hid (HK1.out.trans hk)
  clear hk
  go_wp2_with fail
  refine (rows_no _ _ _ n1 c1 k ck us a w2 (H1.out.keep HK2.out (fun _ _ _ => id)) (by have := HN1.out; omega) HKB.out).mono ?_
  rintro e w3 ⟨rfl, hk⟩
  have HK3 := Lib.hid (HK2.out.trans hk)
  clear hk
  go_wp2_with fail
  refine (refright_is _ _ n1 c1 us a w3 true (H1.out.keep HK3.out (fun _ _ _ => id)) (by have := HN1.out; omega) HMA.out).mono ?_
  rintro e w4 ⟨rfl, hk⟩
  have HK4 := Lib.hid (HK3.out.trans hk)
  clear hk
  go_wp2_with fail
  go_loopw [9, 10] (fun u i wr => ∃ (j : Nat) (t : Bool), j ≤ k ∧ i = .int .i64 (j : Int) ∧ u = .bool t ∧ Hid (t = false ∧ wr = w4)) (fun _ i _ => k - (intOf i).toNat)
  case atStart => exact ⟨0, false, Nat.zero_le _, rfl, rfl, rfl, rfl⟩
  case round =>
    obtain ⟨j, t, hj, rfl, rfl, HI⟩ := hrel
    have hwr := HI.out.2
    subst hwr
    by_cases hlt : j < k
    · have j0 : (0 : Int) ≤ (j : Int) := by omega
      have jn : (j : Int) < (k : Int) := by omega
      have jN : j < k := hlt
      have HLT := Lib.hid hlt
      have ht := HI.out.1
      subst ht
      clear hlt
      go_wp2_with fail
      go_roundw
      case rel => exact ⟨j + 1, false, by have := HLT.out; omega, by go_num, rfl, by first | rfl | trivial, by first | rfl | trivial⟩
      case measure => have := HLT.out; simp [intOf]; omega
    · have hkn : (k : Int) ≤ (j : Int) := by omega
      have hd : decide (j < k) = false := decide_eq_false hlt
      have ht := HI.out.1
      subst ht
      clear hlt hj HI
      go_wp2_with fail
      clear hkn hd
      go_loopw [11] (fun i wx => ∃ j d : Nat, j ≤ k ∧ i = .int .i64 (j : Int) ∧ Hid (wx = wr.drewN d)) (fun i _ => k - (intOf i).toNat)
      case atStart => exact ⟨0, 0, Nat.zero_le _, rfl, rfl⟩
      case round =>
        obtain ⟨j, d, hj, rfl, HD⟩ := hrel
        obtain ⟨wq, rfl⟩ : ∃ wq : World, wq = wr := ⟨_, rfl⟩
        have HKQ : Hid (Keep (fun _ => False) w wq) := by
          rw [HD.out]
          exact HK4.out.drewN d
        clear hj HD
        go_wp2_with fail
        refine (join_yes _ _ _ _ n1 n2 c1 c2 us vs a b wq (H1.out.keep HKQ.out (fun _ _ _ => id)) (H2.out.keep HKQ.out (fun _ _ _ => id)) HMA.out HMB.out HCOL.out (by have := HN1.out; have := HN2.out; omega)).mono ?_
        rintro e w8 ⟨v8, rfl, hgr, hk⟩
        have HK8 := Lib.hid (HKQ.out.trans hk)
        have HLEN : Hid ((a ++ b).length = n1 + n2) := by show (a ++ b).length = n1 + n2; rw [List.length_append, H1.out.len, H2.out.len]
        obtain ⟨ao8, cap8, rfl, hc8, _⟩ := hgr.len
        obtain ⟨ys, hys⟩ := hgr.mv
        rw [HLEN.out] at hys hc8 ⊢
        obtain ⟨q8, o8, _, _, _, _, rfl, _⟩ := hys.at_ (k := 0) (by have := HBA.out; omega)
        have hy1 := hys.take (k := n1) (by omega)
        have hy2 := hys.drop
        rw [List.take_left' H1.out.len] at hy1
        rw [List.drop_left' H1.out.len] at hy2
        have HY1 := Lib.hid hy1
        have HY2 := Lib.hid hy2
        have s1 : (n1 : Int) ≤ (cap8 : Int) := by omega
        have s2 : (n1 : Int) ≤ (n1 : Int) + (n2 : Int) := by omega
        have s3 : (n1 : Int) + (n2 : Int) ≤ (cap8 : Int) := by omega
        clear hk hgr hys hy1 hy2 hc8
        have hca8 := (HK8.out.cell (p := ⟨qa, oa, none⟩) HLA.out id).trans HCA.out
        have hcb8 := (HK8.out.cell (p := ⟨qb, ob, none⟩) HLB.out id).trans HCBB.out
        go_wp2_with fail
        go_quiet ((first | (go_at_call_of 49 (Value.slice (some ⟨qa, oa, none⟩) n1 c1); exact Calls.quiet_of (refright_q (· < w.heap.size) _ n1 c1 us a _ true ((H1.out.keep HK8.out (fun _ _ _ => id)).drewN _) (by have := HN1.out; omega) HMA.out)) | (go_at_call_of 49 (Value.slice (some ⟨qb, ob, none⟩) n2 c2); exact Calls.quiet_of (refright_q (· < w.heap.size) _ n2 c2 vs b _ true ((H2.out.keep HK8.out (fun _ _ _ => id)).drewN _) (by have := HN2.out; omega) HMB.out))))
        clear hca8 hcb8
        have HK9 := Lib.hid (HK8.out.drewN nq)
        go_wp2_with fail
        refine (refsame_is _ _ _ _ n1 n1 _ c1 _ us _ a _ true (HY1.out.drewN nq) (H1.out.keep HK9.out (fun _ _ _ => id)) (by have := HN1.out; omega) (by have := HN1.out; omega) (same_yes rfl)).mono ?_
        rintro e w10 ⟨rfl, hk⟩
        have HK10 := Lib.hid (HK9.out.trans hk)
        have HY10 := Lib.hid (HY2.out.keep (S := fun _ => False) ⟨hk.os, hk.tape, hk.output, hk.size, hk.block⟩ (fun _ _ _ => id))
        clear hk
        go_wp2_with fail
        refine (refsame_is _ _ _ _ n2 n2 _ c2 _ vs _ b w10 true HY10.out (H2.out.keep HK10.out (fun _ _ _ => id)) (by have := HN2.out; omega) (by have := HN2.out; omega) (same_yes rfl)).mono ?_
        rintro e w11 ⟨rfl, hk⟩
        have HK11 := Lib.hid (HK10.out.trans hk)
        clear hk
        go_wp2_with fail
        refine (one5_any _).mono ?_
        rintro e w12 ⟨rfl, hk⟩
        have HK12 := Lib.hid (HK11.out.trans hk)
        clear hk
        go_wp2_with fail
        go_ret
        exact ⟨rfl, HK12.out⟩
end Go.Proofs.Ytegecjilpmkamaa
