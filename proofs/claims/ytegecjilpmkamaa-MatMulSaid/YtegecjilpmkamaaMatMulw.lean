/-
  The walk of the law 'MatMul'.
-/
import Derived.Test.YtegecjilpmkamaaRrank
import Derived.Test.YtegecjilpmkamaaApplyc
import Derived.Test.YtegecjilpmkamaaMk
import Derived.BigQuiet
namespace Go.Proofs.Ytegecjilpmkamaa
open Go.RowKit Sb

theorem apply_no (p : Value) (P Q : Nat → Prop) (a1 a2 : Option Addr) (n1 n2 c1 c2 : Nat) (us vs : List Value) (m l : List (List UInt8)) (w : World) (h1 : Mv P w a1 n1 us m) (h2 : Mv Q w a2 n2 vs l) (hn1 : n1 ≤ 9223372036854775807) (hno : mapp m l = false) :
    Calls Try.prog 55 #[p, .slice a1 n1 c1, .slice a2 n2 c2] w fun e w' => e = .returned (.tuple #[.slice none 0 0, .int .i64 2]) ∧ Keep (fun _ => False) w w' := by
  cases hm : mright m with
  | false => exact apply_no1 p P a1 a2 n1 n2 c1 c2 us m w h1 hn1 hm
  | true =>
    by_cases hl : n2 = mcols m
    · rw [mapp, hm, Bool.true_and, h2.len, decide_eq_true hl, Bool.true_and] at hno
      exact apply_no3 p P Q a1 a2 n1 n2 c1 c2 us vs m l w h1 h2 hm hl hno
    · exact apply_no2 p P a1 a2 n1 n2 c1 c2 us m w h1 hm hl

theorem rows_succ {b : List (List UInt8)} {k L : Nat} {r1 : List UInt8} (h : ∀ (i : Nat) (r : List UInt8), i < k → b[i]? = some r → r.length = L) (hr : b[k]? = some r1) (hl : r1.length = L) : ∀ (i : Nat) (r : List UInt8), i < k + 1 → b[i]? = some r → r.length = L := by
  intro i r hi h1
  by_cases e : i = k
  · rw [e, hr] at h1
    cases h1
    exact hl
  · exact h i r (by omega) h1

theorem size_yes (P : Nat → Prop) (ao : Option Addr) (n cap : Nat) (us : List Value) (m : List (List UInt8)) (w : World) (hr : Mv P w ao n us m) (hn : n ≤ 9223372036854775807) (hm : mright m = true) :
    Calls Try.prog 56 #[.slice ao n cap] w fun e w' => e = .returned (.tuple #[.int .i64 (n : Nat), .int .i64 (mcols m : Nat)]) ∧ Keep (fun _ => False) w w' :=
  (size_any P ao n cap us m w hr hn).mono fun _ _ ⟨he, hk⟩ => ⟨by rw [he, if_pos hm, if_pos hm], hk⟩
theorem size_no (P : Nat → Prop) (ao : Option Addr) (n cap : Nat) (us : List Value) (m : List (List UInt8)) (w : World) (hr : Mv P w ao n us m) (hn : n ≤ 9223372036854775807) (hm : mright m = false) :
    Calls Try.prog 56 #[.slice ao n cap] w fun e w' => e = .returned (.tuple #[.int .i64 0, .int .i64 0]) ∧ Keep (fun _ => False) w w' :=
  (size_any P ao n cap us m w hr hn).mono fun _ _ ⟨he, hk⟩ => ⟨by rw [he, hm]; rfl, hk⟩

set_option maxRecDepth 100000 in
set_option maxHeartbeats 4000000 in
theorem matMul_few (P Q : Nat → Prop) (a1 a2 : Option Addr) (n1 n2 c1 c2 : Nat) (us vs : List Value) (a b : List (List UInt8)) (w : World) (h1 : Mv P w a1 n1 us a) (h2 : Mv Q w a2 n2 vs b) (hf : (few a 12 && few b 12) = false) :
    Calls Try.prog 12 #[.slice a1 n1 c1, .slice a2 n2 c2] w fun e w' => e = .returned (.bool true) ∧ Keep (fun _ => False) w w' := by
  have H1 := Lib.hid h1
  have H2 := Lib.hid h2
  have hnt := hnot
  cases ha : few a 12 with
  | false =>
    have HA := Lib.hid ha
    clear h1 h2 hf ha
    go_enter Try.func12, Try.ntmps12
    go_wp2_with fail
    refine (few_no P a1 n1 c1 12 us a w H1.out (by omega) HA.out).mono ?_
    rintro e w1 ⟨rfl, hk⟩
    have HK := Lib.hid hk
    clear hk
    go_wp2_with fail
    go_ret
    exact ⟨rfl, HK.out⟩
  | true =>
    have HA := Lib.hid ha
    rw [ha, Bool.true_and] at hf
    have HB := Lib.hid hf
    clear h1 h2 hf ha
    go_enter Try.func12, Try.ntmps12
    go_wp2_with fail
    refine (few_yes P a1 n1 c1 12 us a w H1.out (by omega) HA.out).mono ?_
    rintro e w1 ⟨rfl, hk⟩
    have HK := Lib.hid hk
    clear hk
    go_wp2_with fail
    refine (few_no Q a2 n2 c2 12 vs b w1 (H2.out.keep HK.out (fun _ _ _ => id)) (by omega) HB.out).mono ?_
    rintro e w2 ⟨rfl, hk⟩
    have HK2 := Lib.hid (HK.out.trans hk)
    clear hk
    go_wp2_with fail
    go_ret
    exact ⟨rfl, HK2.out⟩


set_option maxRecDepth 100000 in
set_option maxHeartbeats 8000000 in
theorem matMul_i (a1 a2 : Option Addr) (n1 n2 c1 c2 : Nat) (us vs : List Value) (a b : List (List UInt8)) (w : World) (h1 : Mv (· < w.heap.size) w a1 n1 us a) (h2 : Mv (· < w.heap.size) w a2 n2 vs b) (hfa : few a 12 = true) (hfb : few b 12 = true) (hma : mright a = false) :
    Calls Try.prog 12 #[.slice a1 n1 c1, .slice a2 n2 c2] w fun e w' => e = .returned (.bool true) ∧ Keep (fun _ => False) w w' := by
  have HN1 : Hid (n1 ≤ 12) := by
    have h3 := (few_spec hfa).1
    rw [h1.len] at h3
    exact h3
  have HN2 : Hid (n2 ≤ 12) := by
    have h3 := (few_spec hfb).1
    rw [h2.len] at h3
    exact h3
  have HRB : Hid (∀ r ∈ b, r.length ≤ 12) := (few_spec hfb).2
  have t1 : (n1 : Int) ≤ 12 := by have := HN1.out; omega
  have t2 : (n2 : Int) ≤ 12 := by have := HN2.out; omega
  have hnt := hnot
  have HA := Lib.hid hfa
  have HB := Lib.hid hfb
  have HMA := Lib.hid hma
  have HFIT : Hid (mfit a b = false) := by show mfit a b = false; rw [mfit, hma]; rfl
  have HAPP : Hid (mapp a b = false) := by show mapp a b = false; rw [mapp, hma]; rfl
  have H1 := Lib.hid h1
  have H2 := Lib.hid h2
  clear h1 h2 hfa hfb hma
  go_enter Try.func12, Try.ntmps12
  go_wp2_with fail
  refine (few_yes _ _ n1 c1 12 us a w H1.out (by omega) HA.out).mono ?_
  rintro e w1 ⟨rfl, hk⟩
  have HK := Lib.hid hk
  clear hk
  go_wp2_with fail
  refine (few_yes _ _ n2 c2 12 vs b w1 (H2.out.keep HK.out (fun _ _ _ => id)) (by omega) HB.out).mono ?_
  rintro e w2 ⟨rfl, hk⟩
  have HK2 := Lib.hid (HK.out.trans hk)
  clear hk
  go_wp2_with fail
  refine (new_any w2).mono ?_
  rintro e w3 ⟨rfl, rfl⟩
  have HK3 : Hid (Keep (fun _ => False) w (w2.alloc (.cells Try.zeroCells102 102))) := HK2.out.alloc _
  have HF3 : Hid (FieldAt (w2.alloc (.cells Try.zeroCells102 102)) w2.heap.size) := field_new w2
  have HS : Hid (w.heap.size ≤ w2.heap.size) := HK2.out.size
  generalize (w2.alloc (.cells Try.zeroCells102 102)) = w3 at *
  generalize w2.heap.size = fb at *
  have HFB := Lib.hid HF3.out.lt
  go_wp2_with fail
  refine (mul_no _ (· < w.heap.size) (· < w.heap.size) _ _ n1 n2 c1 c2 us vs a b w3 (H1.out.keep HK3.out (fun _ _ _ => id)) (H2.out.keep HK3.out (fun _ _ _ => id)) (by have := HN1.out; omega) (by have := HN2.out; omega) HFIT.out).mono ?_
  rintro e w4 ⟨rfl, hk⟩
  have HK4 := Lib.hid (HK3.out.trans hk)
  have HF4 := Lib.hid (HF3.out.keep hk id)
  clear hk
  go_wp2_with fail
  refine (refright_is _ _ n1 c1 us a w4 false (H1.out.keep HK4.out (fun _ _ _ => id)) (by have := HN1.out; omega) HMA.out).mono ?_
  rintro e w5 ⟨rfl, hk⟩
  have HK5 := Lib.hid (HK4.out.trans hk)
  have HF5 := Lib.hid (HF4.out.keep hk id)
  clear hk
  go_wp2_with fail
  refine (apply_no _ (· < w.heap.size) (· < w.heap.size) _ _ n1 n2 c1 c2 us vs a b w5 (H1.out.keep HK5.out (fun _ _ _ => id)) (H2.out.keep HK5.out (fun _ _ _ => id)) (by have := HN1.out; omega) HAPP.out).mono ?_
  rintro e w6 ⟨rfl, hk⟩
  have HK6 := Lib.hid (HK5.out.trans hk)
  have HF6 := Lib.hid (HF5.out.keep hk id)
  clear hk
  go_wp2_with fail
  refine (refright_is _ _ n1 c1 us a w6 false (H1.out.keep HK6.out (fun _ _ _ => id)) (by have := HN1.out; omega) HMA.out).mono ?_
  rintro e w7 ⟨rfl, hk⟩
  have HK7 := Lib.hid (HK6.out.trans hk)
  have HF7 := Lib.hid (HF6.out.keep hk id)
  clear hk
  go_wp2_with fail
  obtain ⟨wq, hwq⟩ : ∃ wq, wq = w7 := ⟨_, rfl⟩
  have HWQ := Lib.hid hwq
  clear hwq
  go_loopw [11, 12] (fun u i wr => ∃ (k d : Nat) (t : Bool), k ≤ n2 ∧ i = .int .i64 (k : Int) ∧ u = .bool t ∧ Hid (t = false ∧ wr = w7.drewN d)) (fun _ i _ => n2 - (intOf i).toNat)
  case atStart => exact ⟨0, 0, false, Nat.zero_le _, rfl, rfl, rfl, rfl⟩
  case round =>
    obtain ⟨k, d, t, hk, rfl, rfl, HI⟩ := hrel
    have hkw : Keep (fun _ => False) w wr := by
      rw [HI.out.2]
      exact HK7.out.drewN d
    have HKW := Lib.hid hkw
    clear hkw
    by_cases hlt : k < n2
    · have k0 : (0 : Int) ≤ (k : Int) := by omega
      have kn : (k : Int) < (n2 : Int) := by omega
      have HLT := Lib.hid hlt
      have ht := HI.out.1
      subst ht
      clear hlt
      go_wp2_with fail
      go_quiet (fail)
      go_wp2_with fail
      go_roundw
      case rel =>
        refine ⟨k + 1, d + nq, false, by have := HLT.out; omega, by go_num, rfl, rfl, ?_⟩
        rw [HI.out.2, World.drewN_drewN]
      case measure => have := HLT.out; simp [intOf]; omega
    · have hkn : (n2 : Int) ≤ (k : Int) := by omega
      have hke : k = n2 := by omega
      have ht := HI.out.1
      subst ht
      have HF9 : Hid (FieldAt wr fb) := by
        rw [HI.out.2]
        exact HF7.out.keep ((Keep.refl (fun _ => False) w7).drewN d) id
      clear hke hlt hk HI
      have HK9 := Lib.hid HKW.out
      go_wp2_with fail
      clear hkn
      refine (size_no _ _ n1 c1 us a wr (H1.out.keep HK9.out (fun _ _ _ => id)) (by have := HN1.out; omega) HMA.out).mono ?_
      rintro e w10 ⟨rfl, hk⟩
      have HK10 := Lib.hid (HK9.out.trans hk)
      have HF10 := Lib.hid (HF9.out.keep hk id)
      clear hk
      go_wp2_with fail
      refine (refright_is _ _ n1 c1 us a w10 false (H1.out.keep HK10.out (fun _ _ _ => id)) (by have := HN1.out; omega) HMA.out).mono ?_
      rintro e w11 ⟨rfl, hk⟩
      have HK11 := Lib.hid (HK10.out.trans hk)
      have HF11 := Lib.hid (HF10.out.keep hk id)
      clear hk
      go_wp2_with fail
      refine (refright_is _ _ n1 c1 us a w11 false (H1.out.keep HK11.out (fun _ _ _ => id)) (by have := HN1.out; omega) HMA.out).mono ?_
      rintro e w12 ⟨rfl, hk⟩
      have HK12 := Lib.hid (HK11.out.trans hk)
      have HF12 := Lib.hid (HF11.out.keep hk id)
      clear hk
      go_wp2_with fail
      refine (rank_no _ _ _ n1 c1 us a w12 (H1.out.keep HK12.out (fun _ _ _ => id)) (by have := HN1.out; omega) HMA.out).mono ?_
      rintro e w13 ⟨rfl, hk⟩
      have HK13 := Lib.hid (HK12.out.trans hk)
      have HF13 := Lib.hid (HF12.out.keep hk id)
      clear hk
      go_wp2_with fail
      refine (right_false _ _ n1 c1 us a w13 (H1.out.keep HK13.out (fun _ _ _ => id)) (by have := HN1.out; omega) HMA.out).mono ?_
      rintro e w14 ⟨rfl, hk⟩
      have HK14 := Lib.hid (HK13.out.trans hk)
      have HF14 := Lib.hid (HF13.out.keep hk id)
      clear hk
      go_wp2_with fail
      refine (refright_is _ _ n1 c1 us a w14 false (H1.out.keep HK14.out (fun _ _ _ => id)) (by have := HN1.out; omega) HMA.out).mono ?_
      rintro e w15 ⟨rfl, hk⟩
      have HK15 := Lib.hid (HK14.out.trans hk)
      have HF15 := Lib.hid (HF14.out.keep hk id)
      clear hk
      go_wp2_with fail
      refine (same_any _ _ _ _ n1 n2 c1 c2 us vs a b w15 (H1.out.keep HK15.out (fun _ _ _ => id)) (H2.out.keep HK15.out (fun _ _ _ => id)) (by have := HN1.out; omega) (by have := HN2.out; omega)).mono ?_
      rintro e w16 ⟨rfl, hk⟩
      have HK16 := Lib.hid (HK15.out.trans hk)
      have HF16 := Lib.hid (HF15.out.keep hk id)
      clear hk
      rw [show msame a b = false by rw [msame, HMA.out]; rfl]
      go_wp2_with fail
      refine (refright_is _ _ n1 c1 us a w16 false (H1.out.keep HK16.out (fun _ _ _ => id)) (by have := HN1.out; omega) HMA.out).mono ?_
      rintro e w17 ⟨rfl, hk⟩
      have HK17 := Lib.hid (HK16.out.trans hk)
      have HF17 := Lib.hid (HF16.out.keep hk id)
      clear hk
      go_wp2_with fail
      refine (one5_any w17).mono ?_
      rintro e w18 ⟨rfl, hk⟩
      have HK18 := Lib.hid (HK17.out.trans hk)
      have HF18 := Lib.hid (HF17.out.keep hk id)
      clear hk
      go_wp2_with fail
      go_ret
      exact ⟨rfl, HK18.out⟩

set_option maxRecDepth 100000 in
set_option maxHeartbeats 8000000 in
theorem matMul_ii2 (a1 a2 : Option Addr) (n1 n2 c1 c2 : Nat) (us vs : List Value) (a b : List (List UInt8)) (w : World) (h1 : Mv (· < w.heap.size) w a1 n1 us a) (h2 : Mv (· < w.heap.size) w a2 n2 vs b) (hfa : few a 12 = true) (hfb : few b 12 = true) (hma : mright a = true) (hmb : mright b = false) (hne : n2 ≠ mcols a) :
    Calls Try.prog 12 #[.slice a1 n1 c1, .slice a2 n2 c2] w fun e w' => e = .returned (.bool true) ∧ Keep (fun _ => False) w w' := by
  have HN1 : Hid (n1 ≤ 12) := by
    have h3 := (few_spec hfa).1
    rw [h1.len] at h3
    exact h3
  have HN2 : Hid (n2 ≤ 12) := by
    have h3 := (few_spec hfb).1
    rw [h2.len] at h3
    exact h3
  have HRB : Hid (∀ r ∈ b, r.length ≤ 12) := (few_spec hfb).2
  have t1 : (n1 : Int) ≤ 12 := by have := HN1.out; omega
  have t2 : (n2 : Int) ≤ 12 := by have := HN2.out; omega
  have hnt := hnot
  have HA := Lib.hid hfa
  have HB := Lib.hid hfb
  have HMA := Lib.hid hma
  have HMB := Lib.hid hmb
  have HBA := Lib.hid (right_bounds h1.len hma)
  have HFIT : Hid (mfit a b = false) := by show mfit a b = false; rw [mfit, hma, hmb]; rfl
  have HAPP : Hid (mapp a b = false) := by show mapp a b = false; rw [mapp, h2.len, decide_eq_false hne, Bool.false_and, Bool.and_false]
  obtain ⟨qa, oa, aa, ca, capa, ra, rfl, _, hu, hm0, hca, _, hmx, hrb⟩ := h1.at_ (k := 0) (by have := HBA.out; omega)
  rw [Nat.add_zero] at hca
  have hmc := mcols_at hm0
  rw [hrb.len] at hmc
  have HMC := Lib.hid hmc
  have HCA := Lib.hid hca
  have HLA := Lib.hid (World.block_lt_of_cell? _ _ hca)
  have HCB : Hid (1 ≤ ca ∧ ca ≤ 255) := by have h3 := HBA.out; rw [hmc] at h3; exact h3.2.2
  have pa : (0 : Int) < (n1 : Int) := by have := HBA.out; omega
  have pa' : 0 < n1 := by have := HBA.out; omega
  have e1 : ((ca : Int) == (n2 : Int)) = false := by rw [beq_eq_false_iff_ne]; omega
  have e2 : ((n2 : Int) == (ca : Int)) = false := by rw [beq_eq_false_iff_ne]; omega
  clear hne hu hm0 hca hmx hrb hmc
  have H1 := Lib.hid h1
  have H2 := Lib.hid h2
  clear h1 h2 hfa hfb hma hmb
  go_enter Try.func12, Try.ntmps12
  go_wp2_with fail
  refine (few_yes _ _ n1 c1 12 us a w H1.out (by omega) HA.out).mono ?_
  rintro e w1 ⟨rfl, hk⟩
  have HK := Lib.hid hk
  clear hk
  go_wp2_with fail
  refine (few_yes _ _ n2 c2 12 vs b w1 (H2.out.keep HK.out (fun _ _ _ => id)) (by omega) HB.out).mono ?_
  rintro e w2 ⟨rfl, hk⟩
  have HK2 := Lib.hid (HK.out.trans hk)
  clear hk
  go_wp2_with fail
  refine (new_any w2).mono ?_
  rintro e w3 ⟨rfl, rfl⟩
  have HK3 : Hid (Keep (fun _ => False) w (w2.alloc (.cells Try.zeroCells102 102))) := HK2.out.alloc _
  have HF3 : Hid (FieldAt (w2.alloc (.cells Try.zeroCells102 102)) w2.heap.size) := field_new w2
  have HS : Hid (w.heap.size ≤ w2.heap.size) := HK2.out.size
  generalize (w2.alloc (.cells Try.zeroCells102 102)) = w3 at *
  generalize w2.heap.size = fb at *
  have HFB := Lib.hid HF3.out.lt
  go_wp2_with fail
  refine (mul_no _ (· < w.heap.size) (· < w.heap.size) _ _ n1 n2 c1 c2 us vs a b w3 (H1.out.keep HK3.out (fun _ _ _ => id)) (H2.out.keep HK3.out (fun _ _ _ => id)) (by have := HN1.out; omega) (by have := HN2.out; omega) HFIT.out).mono ?_
  rintro e w4 ⟨rfl, hk⟩
  have HK4 := Lib.hid (HK3.out.trans hk)
  have HF4 := Lib.hid (HF3.out.keep hk id)
  clear hk
  go_wp2_with fail
  refine (refright_is _ _ n1 c1 us a w4 true (H1.out.keep HK4.out (fun _ _ _ => id)) (by have := HN1.out; omega) HMA.out).mono ?_
  rintro e w5 ⟨rfl, hk⟩
  have HK5 := Lib.hid (HK4.out.trans hk)
  have HF5 := Lib.hid (HF4.out.keep hk id)
  clear hk
  go_wp2_with fail
  refine (refright_is _ _ n2 c2 vs b w5 false (H2.out.keep HK5.out (fun _ _ _ => id)) (by have := HN2.out; omega) HMB.out).mono ?_
  rintro e w6 ⟨rfl, hk⟩
  have HK6 := Lib.hid (HK5.out.trans hk)
  have HF6 := Lib.hid (HF5.out.keep hk id)
  clear hk
  go_wp2_with fail
  refine (apply_no _ (· < w.heap.size) (· < w.heap.size) _ _ n1 n2 c1 c2 us vs a b w6 (H1.out.keep HK6.out (fun _ _ _ => id)) (H2.out.keep HK6.out (fun _ _ _ => id)) (by have := HN1.out; omega) HAPP.out).mono ?_
  rintro e w7 ⟨rfl, hk⟩
  have HK7 := Lib.hid (HK6.out.trans hk)
  have HF7 := Lib.hid (HF6.out.keep hk id)
  clear hk
  go_wp2_with fail
  refine (refright_is _ _ n1 c1 us a w7 true (H1.out.keep HK7.out (fun _ _ _ => id)) (by have := HN1.out; omega) HMA.out).mono ?_
  rintro e w8 ⟨rfl, hk⟩
  have HK8 := Lib.hid (HK7.out.trans hk)
  have HF8 := Lib.hid (HF7.out.keep hk id)
  clear hk
  have hc9 := (HK8.out.cell (p := ⟨qa, oa, none⟩) HLA.out id).trans HCA.out
  go_wp2_with fail
  clear hc9
  obtain ⟨wq, hwq⟩ : ∃ wq, wq = w8 := ⟨_, rfl⟩
  have HWQ := Lib.hid hwq
  clear hwq
  go_loopw [11, 12] (fun u i wr => ∃ (k d : Nat) (t : Bool), k ≤ n2 ∧ i = .int .i64 (k : Int) ∧ u = .bool t ∧ Hid (t = false ∧ wr = w8.drewN d)) (fun _ i _ => n2 - (intOf i).toNat)
  case atStart => exact ⟨0, 0, false, Nat.zero_le _, rfl, rfl, rfl, rfl⟩
  case round =>
    obtain ⟨k, d, t, hk, rfl, rfl, HI⟩ := hrel
    have hkw : Keep (fun _ => False) w wr := by
      rw [HI.out.2]
      exact HK8.out.drewN d
    have HKW := Lib.hid hkw
    clear hkw
    by_cases hlt : k < n2
    · have k0 : (0 : Int) ≤ (k : Int) := by omega
      have kn : (k : Int) < (n2 : Int) := by omega
      have HLT := Lib.hid hlt
      have ht := HI.out.1
      subst ht
      clear hlt
      go_wp2_with fail
      go_quiet (fail)
      go_wp2_with fail
      go_roundw
      case rel =>
        refine ⟨k + 1, d + nq, false, by have := HLT.out; omega, by go_num, rfl, rfl, ?_⟩
        rw [HI.out.2, World.drewN_drewN]
      case measure => have := HLT.out; simp [intOf]; omega
    · have hkn : (n2 : Int) ≤ (k : Int) := by omega
      have hke : k = n2 := by omega
      have ht := HI.out.1
      subst ht
      have HF9 : Hid (FieldAt wr fb) := by
        rw [HI.out.2]
        exact HF8.out.keep ((Keep.refl (fun _ => False) w8).drewN d) id
      clear hke hlt hk HI
      have HK9 := Lib.hid HKW.out
      go_wp2_with fail
      clear hkn
      refine (size_yes _ _ n1 c1 us a wr (H1.out.keep HK9.out (fun _ _ _ => id)) (by have := HN1.out; omega) HMA.out).mono ?_
      rintro e w10 ⟨rfl, hk⟩
      have HK10 := Lib.hid (HK9.out.trans hk)
      have HF10 := Lib.hid (HF9.out.keep hk id)
      clear hk
      rw [HMC.out]
      go_wp2_with fail
      refine (refright_is _ _ n1 c1 us a w10 true (H1.out.keep HK10.out (fun _ _ _ => id)) (by have := HN1.out; omega) HMA.out).mono ?_
      rintro e w11 ⟨rfl, hk⟩
      have HK11 := Lib.hid (HK10.out.trans hk)
      have HF11 := Lib.hid (HF10.out.keep hk id)
      clear hk
      have hc17 := (HK11.out.cell (p := ⟨qa, oa, none⟩) HLA.out id).trans HCA.out
      go_wp2_with fail
      clear hc17
      refine (rank_yes fb _ _ n1 c1 us a w11 HF11.out (H1.out.keep HK11.out (fun _ _ _ => id)) HMA.out).mono ?_
      rintro e w12 ⟨rfl, hq⟩
      have HK12 : Hid (Keep (fun _ => False) w w12) := HK11.out.trans' hq.keep (fun i hi e => by have := HS.out; omega)
      have HF12 := Lib.hid hq.at_
      clear hq
      go_wp2_with fail
      refine (refrank_any _ _ n1 c1 us a w12 (H1.out.keep HK12.out (fun _ _ _ => id)) HMA.out).mono ?_
      rintro e w13 ⟨rfl, hk⟩
      have HK13 := Lib.hid (HK12.out.trans hk)
      have HF13 := Lib.hid (HF12.out.keep hk id)
      clear hk
      go_wp2_with fail
      refine (refright_is _ _ n1 c1 us a w13 true (H1.out.keep HK13.out (fun _ _ _ => id)) (by have := HN1.out; omega) HMA.out).mono ?_
      rintro e w14 ⟨rfl, hk⟩
      have HK14 := Lib.hid (HK13.out.trans hk)
      have HF14 := Lib.hid (HF13.out.keep hk id)
      clear hk
      go_wp2_with fail
      refine (right_true _ _ n1 c1 us a w14 (H1.out.keep HK14.out (fun _ _ _ => id)) (by have := HN1.out; omega) HMA.out).mono ?_
      rintro e w15 ⟨rfl, hk⟩
      have HK15 := Lib.hid (HK14.out.trans hk)
      have HF15 := Lib.hid (HF14.out.keep hk id)
      clear hk
      go_wp2_with fail
      refine (refright_is _ _ n1 c1 us a w15 true (H1.out.keep HK15.out (fun _ _ _ => id)) (by have := HN1.out; omega) HMA.out).mono ?_
      rintro e w16 ⟨rfl, hk⟩
      have HK16 := Lib.hid (HK15.out.trans hk)
      have HF16 := Lib.hid (HF15.out.keep hk id)
      clear hk
      go_wp2_with fail
      refine (same_any _ _ _ _ n1 n2 c1 c2 us vs a b w16 (H1.out.keep HK16.out (fun _ _ _ => id)) (H2.out.keep HK16.out (fun _ _ _ => id)) (by have := HN1.out; omega) (by have := HN2.out; omega)).mono ?_
      rintro e w17 ⟨rfl, hk⟩
      have HK17 := Lib.hid (HK16.out.trans hk)
      have HF17 := Lib.hid (HF16.out.keep hk id)
      clear hk
      rw [show msame a b = false by rw [msame, HMA.out, HMB.out]; rfl]
      go_wp2_with fail
      refine (refright_is _ _ n1 c1 us a w17 true (H1.out.keep HK17.out (fun _ _ _ => id)) (by have := HN1.out; omega) HMA.out).mono ?_
      rintro e w18 ⟨rfl, hk⟩
      have HK18 := Lib.hid (HK17.out.trans hk)
      have HF18 := Lib.hid (HF17.out.keep hk id)
      clear hk
      go_wp2_with fail
      refine (refright_is _ _ n2 c2 vs b w18 false (H2.out.keep HK18.out (fun _ _ _ => id)) (by have := HN2.out; omega) HMB.out).mono ?_
      rintro e w19 ⟨rfl, hk⟩
      have HK19 := Lib.hid (HK18.out.trans hk)
      have HF19 := Lib.hid (HF18.out.keep hk id)
      clear hk
      go_wp2_with fail
      refine (one5_any w19).mono ?_
      rintro e w20 ⟨rfl, hk⟩
      have HK20 := Lib.hid (HK19.out.trans hk)
      have HF20 := Lib.hid (HF19.out.keep hk id)
      clear hk
      go_wp2_with fail
      go_ret
      exact ⟨rfl, HK20.out⟩

set_option maxRecDepth 100000 in
set_option maxHeartbeats 8000000 in
theorem matMul_ii3 (a1 a2 : Option Addr) (n1 n2 c1 c2 : Nat) (us vs : List Value) (a b : List (List UInt8)) (w : World) (h1 : Mv (· < w.heap.size) w a1 n1 us a) (h2 : Mv (· < w.heap.size) w a2 n2 vs b) (hfa : few a 12 = true) (hfb : few b 12 = true) (hma : mright a = true) (hmb : mright b = false) (heq : n2 = mcols a) (hall : b.all (fun r => decide (r.length = mcols b)) = false) :
    Calls Try.prog 12 #[.slice a1 n1 c1, .slice a2 n2 c2] w fun e w' => e = .returned (.bool true) ∧ Keep (fun _ => False) w w' := by
  have HN1 : Hid (n1 ≤ 12) := by
    have h3 := (few_spec hfa).1
    rw [h1.len] at h3
    exact h3
  have HN2 : Hid (n2 ≤ 12) := by
    have h3 := (few_spec hfb).1
    rw [h2.len] at h3
    exact h3
  have HRB : Hid (∀ r ∈ b, r.length ≤ 12) := (few_spec hfb).2
  have t1 : (n1 : Int) ≤ 12 := by have := HN1.out; omega
  have t2 : (n2 : Int) ≤ 12 := by have := HN2.out; omega
  have hnt := hnot
  have HA := Lib.hid hfa
  have HB := Lib.hid hfb
  have HMA := Lib.hid hma
  have HMB := Lib.hid hmb
  have HBA := Lib.hid (right_bounds h1.len hma)
  have HFIT : Hid (mfit a b = false) := by show mfit a b = false; rw [mfit, hma, hmb]; rfl
  have HAPP : Hid (mapp a b = false) := by show mapp a b = false; rw [mapp, hall, Bool.and_false, Bool.and_false]
  obtain ⟨qa, oa, aa, ca, capa, ra, rfl, _, hu, hm0, hca, _, hmx, hrb⟩ := h1.at_ (k := 0) (by have := HBA.out; omega)
  rw [Nat.add_zero] at hca
  have hmc := mcols_at hm0
  rw [hrb.len] at hmc
  have HMC := Lib.hid hmc
  have HCA := Lib.hid hca
  have HLA := Lib.hid (World.block_lt_of_cell? _ _ hca)
  have HCB : Hid (1 ≤ ca ∧ ca ≤ 255) := by have h3 := HBA.out; rw [hmc] at h3; exact h3.2.2
  have pa : (0 : Int) < (n1 : Int) := by have := HBA.out; omega
  have pa' : 0 < n1 := by have := HBA.out; omega
  have HEQ : Hid (n2 = ca) := heq.trans hmc
  have e1 : ((ca : Int) == (n2 : Int)) = true := by rw [beq_iff_eq]; omega
  have e2 : ((n2 : Int) == (ca : Int)) = true := by rw [beq_iff_eq]; omega
  obtain ⟨qb, ob, ab, L, capb, rb, rfl, _, hub, hmb0, hcb, _, hmxb, hrbb⟩ := h2.at_ (k := 0) (by have := HEQ.out; have := HCB.out; omega)
  rw [Nat.add_zero] at hcb
  have hlc := mcols_at hmb0
  rw [hrbb.len] at hlc
  have HLC := Lib.hid hlc
  have HCBB := Lib.hid hcb
  have HLB := Lib.hid (World.block_lt_of_cell? _ _ hcb)
  have pb : (0 : Int) < (n2 : Int) := by have := HEQ.out; have := HCB.out; omega
  have pb' : 0 < n2 := by have := HEQ.out; have := HCB.out; omega
  have HL12 : Hid (L ≤ 12) := by have h3 := HRB.out rb (List.mem_of_getElem? hmb0); rw [hrbb.len] at h3; exact h3
  have HALL := Lib.hid hall
  clear heq hu hm0 hca hmx hrb hmc hub hmb0 hcb hmxb hrbb hlc hall
  have H1 := Lib.hid h1
  have H2 := Lib.hid h2
  clear h1 h2 hfa hfb hma hmb
  go_enter Try.func12, Try.ntmps12
  go_wp2_with fail
  refine (few_yes _ _ n1 c1 12 us a w H1.out (by omega) HA.out).mono ?_
  rintro e w1 ⟨rfl, hk⟩
  have HK := Lib.hid hk
  clear hk
  go_wp2_with fail
  refine (few_yes _ _ n2 c2 12 vs b w1 (H2.out.keep HK.out (fun _ _ _ => id)) (by omega) HB.out).mono ?_
  rintro e w2 ⟨rfl, hk⟩
  have HK2 := Lib.hid (HK.out.trans hk)
  clear hk
  go_wp2_with fail
  refine (new_any w2).mono ?_
  rintro e w3 ⟨rfl, rfl⟩
  have HK3 : Hid (Keep (fun _ => False) w (w2.alloc (.cells Try.zeroCells102 102))) := HK2.out.alloc _
  have HF3 : Hid (FieldAt (w2.alloc (.cells Try.zeroCells102 102)) w2.heap.size) := field_new w2
  have HS : Hid (w.heap.size ≤ w2.heap.size) := HK2.out.size
  generalize (w2.alloc (.cells Try.zeroCells102 102)) = w3 at *
  generalize w2.heap.size = fb at *
  have HFB := Lib.hid HF3.out.lt
  go_wp2_with fail
  refine (mul_no _ (· < w.heap.size) (· < w.heap.size) _ _ n1 n2 c1 c2 us vs a b w3 (H1.out.keep HK3.out (fun _ _ _ => id)) (H2.out.keep HK3.out (fun _ _ _ => id)) (by have := HN1.out; omega) (by have := HN2.out; omega) HFIT.out).mono ?_
  rintro e w4 ⟨rfl, hk⟩
  have HK4 := Lib.hid (HK3.out.trans hk)
  have HF4 := Lib.hid (HF3.out.keep hk id)
  clear hk
  go_wp2_with fail
  refine (refright_is _ _ n1 c1 us a w4 true (H1.out.keep HK4.out (fun _ _ _ => id)) (by have := HN1.out; omega) HMA.out).mono ?_
  rintro e w5 ⟨rfl, hk⟩
  have HK5 := Lib.hid (HK4.out.trans hk)
  have HF5 := Lib.hid (HF4.out.keep hk id)
  clear hk
  go_wp2_with fail
  refine (refright_is _ _ n2 c2 vs b w5 false (H2.out.keep HK5.out (fun _ _ _ => id)) (by have := HN2.out; omega) HMB.out).mono ?_
  rintro e w6 ⟨rfl, hk⟩
  have HK6 := Lib.hid (HK5.out.trans hk)
  have HF6 := Lib.hid (HF5.out.keep hk id)
  clear hk
  go_wp2_with fail
  refine (apply_no _ (· < w.heap.size) (· < w.heap.size) _ _ n1 n2 c1 c2 us vs a b w6 (H1.out.keep HK6.out (fun _ _ _ => id)) (H2.out.keep HK6.out (fun _ _ _ => id)) (by have := HN1.out; omega) HAPP.out).mono ?_
  rintro e w7 ⟨rfl, hk⟩
  have HK7 := Lib.hid (HK6.out.trans hk)
  have HF7 := Lib.hid (HF6.out.keep hk id)
  clear hk
  go_wp2_with fail
  refine (refright_is _ _ n1 c1 us a w7 true (H1.out.keep HK7.out (fun _ _ _ => id)) (by have := HN1.out; omega) HMA.out).mono ?_
  rintro e w8 ⟨rfl, hk⟩
  have HK8 := Lib.hid (HK7.out.trans hk)
  have HF8 := Lib.hid (HF7.out.keep hk id)
  clear hk
  have hc9 := (HK8.out.cell (p := ⟨qa, oa, none⟩) HLA.out id).trans HCA.out
  go_wp2_with fail
  clear hc9
  obtain ⟨wq, hwq⟩ : ∃ wq, wq = w8 := ⟨_, rfl⟩
  have HWQ := Lib.hid hwq
  clear hwq
  go_loopw [11, 12] (fun u i wr => ∃ (k d : Nat) (t : Bool), k ≤ n2 ∧ i = .int .i64 (k : Int) ∧ u = .bool t ∧ Hid ((t = true ↔ ∀ (i : Nat) (r : List UInt8), i < k → b[i]? = some r → r.length = L) ∧ wr = w8.drewN d)) (fun _ i _ => n2 - (intOf i).toNat)
  case atStart => exact ⟨0, 0, true, Nat.zero_le _, rfl, rfl, ⟨fun _ i r h => absurd h (Nat.not_lt_zero _), fun _ => rfl⟩, rfl⟩
  case round =>
    obtain ⟨k, d, t, hk, rfl, rfl, HI⟩ := hrel
    have hkw : Keep (fun _ => False) w wr := by
      rw [HI.out.2]
      exact HK8.out.drewN d
    have HKW := Lib.hid hkw
    clear hkw
    by_cases hlt : k < n2
    · have k0 : (0 : Int) ≤ (k : Int) := by omega
      have kn : (k : Int) < (n2 : Int) := by omega
      have HLT := Lib.hid hlt
      obtain ⟨q1, o1, a1', L1, cp1, r1, eb, _, hu1, hr1, hc1, _, _, hrb1⟩ := (H2.out.keep HKW.out (fun _ _ _ => id)).at_ hlt
      cases eb
      have hcb := (HKW.out.cell (p := ⟨qb, ob, none⟩) HLB.out id).trans HCBB.out
      have HR1 := Lib.hid hr1
      have HRL1 := Lib.hid hrb1.len
      clear hlt hu1 hr1 hrb1
      cases t with
      | false =>
        go_wp2_with fail
        go_quiet (fail)
        go_wp2_with fail
        go_roundw
        case rel =>
          refine ⟨k + 1, d + nq, false, by have := HLT.out; omega, by go_num, rfl, ⟨fun h => (by cases h), fun h => HI.out.1.2 (fun i r hi hr => h i r (by omega) hr)⟩, ?_⟩
          rw [HI.out.2, World.drewN_drewN]
        case measure => have := HLT.out; simp [intOf]; omega
      | true =>
        by_cases hll : L1 = L
        · have el : ((L1 : Int) == (L : Int)) = true := by rw [beq_iff_eq]; omega
          have HLL := Lib.hid hll
          clear hll
          go_wp2_with fail
          go_quiet (fail)
          go_wp2_with fail
          go_roundw
          case rel =>
            refine ⟨k + 1, d + nq, true, by have := HLT.out; omega, by go_num, rfl, ⟨fun _ => rows_succ (HI.out.1.1 (by simp)) HR1.out (HRL1.out.trans HLL.out), fun _ => rfl⟩, ?_⟩
            rw [HI.out.2, World.drewN_drewN]
          case measure => have := HLT.out; simp [intOf]; omega
        · have el : ((L1 : Int) == (L : Int)) = false := by rw [beq_eq_false_iff_ne]; omega
          have HLL := Lib.hid hll
          clear hll
          go_wp2_with fail
          go_quiet (fail)
          go_wp2_with fail
          go_roundw
          case rel =>
            refine ⟨k + 1, d + nq, false, by have := HLT.out; omega, by go_num, rfl, ⟨fun h => (by cases h), fun h => absurd (HRL1.out.symm.trans (h k r1 (by omega) HR1.out)) HLL.out⟩, ?_⟩
            rw [HI.out.2, World.drewN_drewN]
          case measure => have := HLT.out; simp [intOf]; omega
    · have hkn : (n2 : Int) ≤ (k : Int) := by omega
      have hke : k = n2 := by omega
      have ht : t = false := by
        cases t with
        | false => rfl
        | true =>
          have h5 : b.all (fun r => decide (r.length = mcols b)) = true := by
            rw [List.all_eq_true]
            intro r hr
            obtain ⟨i, hi, rfl⟩ := List.getElem_of_mem hr
            rw [H2.out.len] at hi
            rw [HLC.out]
            exact decide_eq_true (HI.out.1.1 rfl i _ (by omega) (List.getElem?_eq_getElem _))
          rw [HALL.out] at h5
          cases h5
      subst ht
      have HF9 : Hid (FieldAt wr fb) := by
        rw [HI.out.2]
        exact HF8.out.keep ((Keep.refl (fun _ => False) w8).drewN d) id
      clear hke hlt hk HI
      have HK9 := Lib.hid HKW.out
      go_wp2_with fail
      clear hkn
      refine (size_yes _ _ n1 c1 us a wr (H1.out.keep HK9.out (fun _ _ _ => id)) (by have := HN1.out; omega) HMA.out).mono ?_
      rintro e w10 ⟨rfl, hk⟩
      have HK10 := Lib.hid (HK9.out.trans hk)
      have HF10 := Lib.hid (HF9.out.keep hk id)
      clear hk
      rw [HMC.out]
      go_wp2_with fail
      refine (refright_is _ _ n1 c1 us a w10 true (H1.out.keep HK10.out (fun _ _ _ => id)) (by have := HN1.out; omega) HMA.out).mono ?_
      rintro e w11 ⟨rfl, hk⟩
      have HK11 := Lib.hid (HK10.out.trans hk)
      have HF11 := Lib.hid (HF10.out.keep hk id)
      clear hk
      have hc17 := (HK11.out.cell (p := ⟨qa, oa, none⟩) HLA.out id).trans HCA.out
      go_wp2_with fail
      clear hc17
      refine (rank_yes fb _ _ n1 c1 us a w11 HF11.out (H1.out.keep HK11.out (fun _ _ _ => id)) HMA.out).mono ?_
      rintro e w12 ⟨rfl, hq⟩
      have HK12 : Hid (Keep (fun _ => False) w w12) := HK11.out.trans' hq.keep (fun i hi e => by have := HS.out; omega)
      have HF12 := Lib.hid hq.at_
      clear hq
      go_wp2_with fail
      refine (refrank_any _ _ n1 c1 us a w12 (H1.out.keep HK12.out (fun _ _ _ => id)) HMA.out).mono ?_
      rintro e w13 ⟨rfl, hk⟩
      have HK13 := Lib.hid (HK12.out.trans hk)
      have HF13 := Lib.hid (HF12.out.keep hk id)
      clear hk
      go_wp2_with fail
      refine (refright_is _ _ n1 c1 us a w13 true (H1.out.keep HK13.out (fun _ _ _ => id)) (by have := HN1.out; omega) HMA.out).mono ?_
      rintro e w14 ⟨rfl, hk⟩
      have HK14 := Lib.hid (HK13.out.trans hk)
      have HF14 := Lib.hid (HF13.out.keep hk id)
      clear hk
      go_wp2_with fail
      refine (right_true _ _ n1 c1 us a w14 (H1.out.keep HK14.out (fun _ _ _ => id)) (by have := HN1.out; omega) HMA.out).mono ?_
      rintro e w15 ⟨rfl, hk⟩
      have HK15 := Lib.hid (HK14.out.trans hk)
      have HF15 := Lib.hid (HF14.out.keep hk id)
      clear hk
      go_wp2_with fail
      refine (refright_is _ _ n1 c1 us a w15 true (H1.out.keep HK15.out (fun _ _ _ => id)) (by have := HN1.out; omega) HMA.out).mono ?_
      rintro e w16 ⟨rfl, hk⟩
      have HK16 := Lib.hid (HK15.out.trans hk)
      have HF16 := Lib.hid (HF15.out.keep hk id)
      clear hk
      go_wp2_with fail
      refine (same_any _ _ _ _ n1 n2 c1 c2 us vs a b w16 (H1.out.keep HK16.out (fun _ _ _ => id)) (H2.out.keep HK16.out (fun _ _ _ => id)) (by have := HN1.out; omega) (by have := HN2.out; omega)).mono ?_
      rintro e w17 ⟨rfl, hk⟩
      have HK17 := Lib.hid (HK16.out.trans hk)
      have HF17 := Lib.hid (HF16.out.keep hk id)
      clear hk
      rw [show msame a b = false by rw [msame, HMA.out, HMB.out]; rfl]
      go_wp2_with fail
      refine (refright_is _ _ n1 c1 us a w17 true (H1.out.keep HK17.out (fun _ _ _ => id)) (by have := HN1.out; omega) HMA.out).mono ?_
      rintro e w18 ⟨rfl, hk⟩
      have HK18 := Lib.hid (HK17.out.trans hk)
      have HF18 := Lib.hid (HF17.out.keep hk id)
      clear hk
      go_wp2_with fail
      refine (refright_is _ _ n2 c2 vs b w18 false (H2.out.keep HK18.out (fun _ _ _ => id)) (by have := HN2.out; omega) HMB.out).mono ?_
      rintro e w19 ⟨rfl, hk⟩
      have HK19 := Lib.hid (HK18.out.trans hk)
      have HF19 := Lib.hid (HF18.out.keep hk id)
      clear hk
      go_wp2_with fail
      refine (one5_any w19).mono ?_
      rintro e w20 ⟨rfl, hk⟩
      have HK20 := Lib.hid (HK19.out.trans hk)
      have HF20 := Lib.hid (HF19.out.keep hk id)
      clear hk
      go_wp2_with fail
      go_ret
      exact ⟨rfl, HK20.out⟩

set_option maxRecDepth 100000 in
set_option maxHeartbeats 8000000 in
theorem matMul_ii0 (a1 a2 : Option Addr) (n1 n2 c1 c2 : Nat) (us vs : List Value) (a b : List (List UInt8)) (w : World) (h1 : Mv (· < w.heap.size) w a1 n1 us a) (h2 : Mv (· < w.heap.size) w a2 n2 vs b) (hfa : few a 12 = true) (hfb : few b 12 = true) (hma : mright a = true) (hmb : mright b = false) (heq : n2 = mcols a) (hall : b.all (fun r => decide (r.length = mcols b)) = true) :
    Calls Try.prog 12 #[.slice a1 n1 c1, .slice a2 n2 c2] w fun e w' => e = .returned (.bool true) ∧ Keep (fun _ => False) w w' := by
  have HN1 : Hid (n1 ≤ 12) := by
    have h3 := (few_spec hfa).1
    rw [h1.len] at h3
    exact h3
  have HN2 : Hid (n2 ≤ 12) := by
    have h3 := (few_spec hfb).1
    rw [h2.len] at h3
    exact h3
  have HRB : Hid (∀ r ∈ b, r.length ≤ 12) := (few_spec hfb).2
  have t1 : (n1 : Int) ≤ 12 := by have := HN1.out; omega
  have t2 : (n2 : Int) ≤ 12 := by have := HN2.out; omega
  have hnt := hnot
  have HA := Lib.hid hfa
  have HB := Lib.hid hfb
  have HMA := Lib.hid hma
  have HMB := Lib.hid hmb
  have HBA := Lib.hid (right_bounds h1.len hma)
  have HFIT : Hid (mfit a b = false) := by show mfit a b = false; rw [mfit, hma, hmb]; rfl
  have HAPP : Hid (mapp a b = true) := by show mapp a b = true; rw [mapp, hma, h2.len, hall, heq]; simp
  obtain ⟨qa, oa, aa, ca, capa, ra, rfl, _, hu, hm0, hca, _, hmx, hrb⟩ := h1.at_ (k := 0) (by have := HBA.out; omega)
  rw [Nat.add_zero] at hca
  have hmc := mcols_at hm0
  rw [hrb.len] at hmc
  have HMC := Lib.hid hmc
  have HCA := Lib.hid hca
  have HLA := Lib.hid (World.block_lt_of_cell? _ _ hca)
  have HCB : Hid (1 ≤ ca ∧ ca ≤ 255) := by have h3 := HBA.out; rw [hmc] at h3; exact h3.2.2
  have pa : (0 : Int) < (n1 : Int) := by have := HBA.out; omega
  have pa' : 0 < n1 := by have := HBA.out; omega
  have HEQ : Hid (n2 = ca) := heq.trans hmc
  have e1 : ((ca : Int) == (n2 : Int)) = true := by rw [beq_iff_eq]; omega
  have e2 : ((n2 : Int) == (ca : Int)) = true := by rw [beq_iff_eq]; omega
  obtain ⟨qb, ob, ab, L, capb, rb, rfl, _, hub, hmb0, hcb, _, hmxb, hrbb⟩ := h2.at_ (k := 0) (by have := HEQ.out; have := HCB.out; omega)
  rw [Nat.add_zero] at hcb
  have hlc := mcols_at hmb0
  rw [hrbb.len] at hlc
  have HLC := Lib.hid hlc
  have HCBB := Lib.hid hcb
  have HLB := Lib.hid (World.block_lt_of_cell? _ _ hcb)
  have pb : (0 : Int) < (n2 : Int) := by have := HEQ.out; have := HCB.out; omega
  have pb' : 0 < n2 := by have := HEQ.out; have := HCB.out; omega
  have HL12 : Hid (L ≤ 12) := by have h3 := HRB.out rb (List.mem_of_getElem? hmb0); rw [hrbb.len] at h3; exact h3
  have HROWB : Hid (∀ r ∈ b, r.length = L) := fun r hr => by rw [← hlc]; exact of_decide_eq_true (List.all_eq_true.1 hall r hr)
  have HL0 : Hid (L = 0) := by
    apply Classical.byContradiction
    intro hL
    have h5 : mright b = true := mright_true ⟨by rw [h2.len]; have := HN2.out; have := HEQ.out; have := HCB.out; omega, by rw [hlc]; have := HL12.out; exact ⟨Nat.pos_of_ne_zero hL, by omega⟩, fun r hr => by rw [hlc]; exact HROWB.out r hr⟩
    rw [hmb] at h5
    cases h5
  have l0 : (L : Int) ≤ 0 := by have := HL0.out; omega
  clear heq hu hm0 hca hmx hrb hmc hub hmb0 hcb hmxb hrbb hlc hall
  have H1 := Lib.hid h1
  have H2 := Lib.hid h2
  clear h1 h2 hfa hfb hma hmb
  go_enter Try.func12, Try.ntmps12
  go_wp2_with fail
  refine (few_yes _ _ n1 c1 12 us a w H1.out (by omega) HA.out).mono ?_
  rintro e w1 ⟨rfl, hk⟩
  have HK := Lib.hid hk
  clear hk
  go_wp2_with fail
  refine (few_yes _ _ n2 c2 12 vs b w1 (H2.out.keep HK.out (fun _ _ _ => id)) (by omega) HB.out).mono ?_
  rintro e w2 ⟨rfl, hk⟩
  have HK2 := Lib.hid (HK.out.trans hk)
  clear hk
  go_wp2_with fail
  refine (new_any w2).mono ?_
  rintro e w3 ⟨rfl, rfl⟩
  have HK3 : Hid (Keep (fun _ => False) w (w2.alloc (.cells Try.zeroCells102 102))) := HK2.out.alloc _
  have HF3 : Hid (FieldAt (w2.alloc (.cells Try.zeroCells102 102)) w2.heap.size) := field_new w2
  have HS : Hid (w.heap.size ≤ w2.heap.size) := HK2.out.size
  generalize (w2.alloc (.cells Try.zeroCells102 102)) = w3 at *
  generalize w2.heap.size = fb at *
  have HFB := Lib.hid HF3.out.lt
  go_wp2_with fail
  refine (mul_no _ (· < w.heap.size) (· < w.heap.size) _ _ n1 n2 c1 c2 us vs a b w3 (H1.out.keep HK3.out (fun _ _ _ => id)) (H2.out.keep HK3.out (fun _ _ _ => id)) (by have := HN1.out; omega) (by have := HN2.out; omega) HFIT.out).mono ?_
  rintro e w4 ⟨rfl, hk⟩
  have HK4 := Lib.hid (HK3.out.trans hk)
  have HF4 := Lib.hid (HF3.out.keep hk id)
  clear hk
  go_wp2_with fail
  refine (refright_is _ _ n1 c1 us a w4 true (H1.out.keep HK4.out (fun _ _ _ => id)) (by have := HN1.out; omega) HMA.out).mono ?_
  rintro e w5 ⟨rfl, hk⟩
  have HK5 := Lib.hid (HK4.out.trans hk)
  have HF5 := Lib.hid (HF4.out.keep hk id)
  clear hk
  go_wp2_with fail
  refine (refright_is _ _ n2 c2 vs b w5 false (H2.out.keep HK5.out (fun _ _ _ => id)) (by have := HN2.out; omega) HMB.out).mono ?_
  rintro e w6 ⟨rfl, hk⟩
  have HK6 := Lib.hid (HK5.out.trans hk)
  have HF6 := Lib.hid (HF5.out.keep hk id)
  clear hk
  go_wp2_with fail
  refine (apply_yes fb (· < w.heap.size) (· < w.heap.size) _ _ n1 n2 c1 c2 us vs a b w6 HF6.out (fun x (hx : x < w.heap.size) e => by have := HS.out; omega) (fun x (hx : x < w.heap.size) e => by have := HS.out; omega) (H1.out.keep HK6.out (fun _ _ _ => id)) (H2.out.keep HK6.out (fun _ _ _ => id)) HAPP.out (by rw [HLC.out]; have := HL12.out; omega)).mono ?_
  rintro e w7 ⟨v8, rfl, hgs, hq⟩
  have HK7 : Hid (Keep (fun _ => False) w w7) := HK6.out.trans' hq.keep (fun i hi e => by have := HS.out; omega)
  have HF7 := Lib.hid hq.at_
  obtain ⟨ao8, cap8, rfl, _, _⟩ := hgs.len
  clear hq hgs
  go_wp2_with fail
  refine (refright_is _ _ n1 c1 us a w7 true (H1.out.keep HK7.out (fun _ _ _ => id)) (by have := HN1.out; omega) HMA.out).mono ?_
  rintro e w8 ⟨rfl, hk⟩
  have HK8 := Lib.hid (HK7.out.trans hk)
  have HF8 := Lib.hid (HF7.out.keep hk id)
  clear hk
  have hc9 := (HK8.out.cell (p := ⟨qa, oa, none⟩) HLA.out id).trans HCA.out
  go_wp2_with fail
  clear hc9
  obtain ⟨wq, hwq⟩ : ∃ wq, wq = w8 := ⟨_, rfl⟩
  have HWQ := Lib.hid hwq
  clear hwq
  go_loopw [11, 12] (fun u i wr => ∃ (k d : Nat) (t : Bool), k ≤ n2 ∧ i = .int .i64 (k : Int) ∧ u = .bool t ∧ Hid (t = true ∧ wr = w8.drewN d)) (fun _ i _ => n2 - (intOf i).toNat)
  case atStart => exact ⟨0, 0, true, Nat.zero_le _, rfl, rfl, rfl, rfl⟩
  case round =>
    obtain ⟨k, d, t, hk, rfl, rfl, HI⟩ := hrel
    have hkw : Keep (fun _ => False) w wr := by
      rw [HI.out.2]
      exact HK8.out.drewN d
    have HKW := Lib.hid hkw
    clear hkw
    by_cases hlt : k < n2
    · have k0 : (0 : Int) ≤ (k : Int) := by omega
      have kn : (k : Int) < (n2 : Int) := by omega
      have HLT := Lib.hid hlt
      obtain ⟨q1, o1, a1', L1, cp1, r1, eb, _, hu1, hr1, hc1, _, _, hrb1⟩ := (H2.out.keep HKW.out (fun _ _ _ => id)).at_ hlt
      cases eb
      have hcb := (HKW.out.cell (p := ⟨qb, ob, none⟩) HLB.out id).trans HCBB.out
      have HR1 := Lib.hid hr1
      have HRL1 := Lib.hid hrb1.len
      have hl1 : L1 = L := by have h5 := HROWB.out r1 (List.mem_of_getElem? hr1); rw [hrb1.len] at h5; exact h5
      subst hl1
      have ht := HI.out.1
      subst ht
      clear hlt hu1 hr1 hrb1
      go_wp2_with fail
      go_quiet (fail)
      go_wp2_with fail
      go_roundw
      case rel =>
        refine ⟨k + 1, d + nq, true, by have := HLT.out; omega, by go_num, rfl, rfl, ?_⟩
        rw [HI.out.2, World.drewN_drewN]
      case measure => have := HLT.out; simp [intOf]; omega
    · have hkn : (n2 : Int) ≤ (k : Int) := by omega
      have hke : k = n2 := by omega
      have ht := HI.out.1
      subst ht
      have HF9 : Hid (FieldAt wr fb) := by
        rw [HI.out.2]
        exact HF8.out.keep ((Keep.refl (fun _ => False) w8).drewN d) id
      clear hke hlt hk HI
      have hcb := (HKW.out.cell (p := ⟨qb, ob, none⟩) HLB.out id).trans HCBB.out
      have HK9 := Lib.hid HKW.out
      go_wp2_with fail
      clear hkn
      clear hcb
      refine (size_yes _ _ n1 c1 us a wr (H1.out.keep HK9.out (fun _ _ _ => id)) (by have := HN1.out; omega) HMA.out).mono ?_
      rintro e w10 ⟨rfl, hk⟩
      have HK10 := Lib.hid (HK9.out.trans hk)
      have HF10 := Lib.hid (HF9.out.keep hk id)
      clear hk
      rw [HMC.out]
      go_wp2_with fail
      refine (refright_is _ _ n1 c1 us a w10 true (H1.out.keep HK10.out (fun _ _ _ => id)) (by have := HN1.out; omega) HMA.out).mono ?_
      rintro e w11 ⟨rfl, hk⟩
      have HK11 := Lib.hid (HK10.out.trans hk)
      have HF11 := Lib.hid (HF10.out.keep hk id)
      clear hk
      have hc17 := (HK11.out.cell (p := ⟨qa, oa, none⟩) HLA.out id).trans HCA.out
      go_wp2_with fail
      clear hc17
      refine (rank_yes fb _ _ n1 c1 us a w11 HF11.out (H1.out.keep HK11.out (fun _ _ _ => id)) HMA.out).mono ?_
      rintro e w12 ⟨rfl, hq⟩
      have HK12 : Hid (Keep (fun _ => False) w w12) := HK11.out.trans' hq.keep (fun i hi e => by have := HS.out; omega)
      have HF12 := Lib.hid hq.at_
      clear hq
      go_wp2_with fail
      refine (refrank_any _ _ n1 c1 us a w12 (H1.out.keep HK12.out (fun _ _ _ => id)) HMA.out).mono ?_
      rintro e w13 ⟨rfl, hk⟩
      have HK13 := Lib.hid (HK12.out.trans hk)
      have HF13 := Lib.hid (HF12.out.keep hk id)
      clear hk
      go_wp2_with fail
      refine (refright_is _ _ n1 c1 us a w13 true (H1.out.keep HK13.out (fun _ _ _ => id)) (by have := HN1.out; omega) HMA.out).mono ?_
      rintro e w14 ⟨rfl, hk⟩
      have HK14 := Lib.hid (HK13.out.trans hk)
      have HF14 := Lib.hid (HF13.out.keep hk id)
      clear hk
      go_wp2_with fail
      refine (right_true _ _ n1 c1 us a w14 (H1.out.keep HK14.out (fun _ _ _ => id)) (by have := HN1.out; omega) HMA.out).mono ?_
      rintro e w15 ⟨rfl, hk⟩
      have HK15 := Lib.hid (HK14.out.trans hk)
      have HF15 := Lib.hid (HF14.out.keep hk id)
      clear hk
      go_wp2_with fail
      refine (refright_is _ _ n1 c1 us a w15 true (H1.out.keep HK15.out (fun _ _ _ => id)) (by have := HN1.out; omega) HMA.out).mono ?_
      rintro e w16 ⟨rfl, hk⟩
      have HK16 := Lib.hid (HK15.out.trans hk)
      have HF16 := Lib.hid (HF15.out.keep hk id)
      clear hk
      go_wp2_with fail
      refine (same_any _ _ _ _ n1 n2 c1 c2 us vs a b w16 (H1.out.keep HK16.out (fun _ _ _ => id)) (H2.out.keep HK16.out (fun _ _ _ => id)) (by have := HN1.out; omega) (by have := HN2.out; omega)).mono ?_
      rintro e w17 ⟨rfl, hk⟩
      have HK17 := Lib.hid (HK16.out.trans hk)
      have HF17 := Lib.hid (HF16.out.keep hk id)
      clear hk
      rw [show msame a b = false by rw [msame, HMA.out, HMB.out]; rfl]
      go_wp2_with fail
      refine (refright_is _ _ n1 c1 us a w17 true (H1.out.keep HK17.out (fun _ _ _ => id)) (by have := HN1.out; omega) HMA.out).mono ?_
      rintro e w18 ⟨rfl, hk⟩
      have HK18 := Lib.hid (HK17.out.trans hk)
      have HF18 := Lib.hid (HF17.out.keep hk id)
      clear hk
      go_wp2_with fail
      refine (refright_is _ _ n2 c2 vs b w18 false (H2.out.keep HK18.out (fun _ _ _ => id)) (by have := HN2.out; omega) HMB.out).mono ?_
      rintro e w19 ⟨rfl, hk⟩
      have HK19 := Lib.hid (HK18.out.trans hk)
      have HF19 := Lib.hid (HF18.out.keep hk id)
      clear hk
      go_wp2_with fail
      refine (one5_any w19).mono ?_
      rintro e w20 ⟨rfl, hk⟩
      have HK20 := Lib.hid (HK19.out.trans hk)
      have HF20 := Lib.hid (HF19.out.keep hk id)
      clear hk
      go_wp2_with fail
      go_ret
      exact ⟨rfl, HK20.out⟩

set_option maxRecDepth 100000 in
set_option maxHeartbeats 8000000 in
theorem matMul_iii (a1 a2 : Option Addr) (n1 n2 c1 c2 : Nat) (us vs : List Value) (a b : List (List UInt8)) (w : World) (h1 : Mv (· < w.heap.size) w a1 n1 us a) (h2 : Mv (· < w.heap.size) w a2 n2 vs b) (hfa : few a 12 = true) (hfb : few b 12 = true) (hma : mright a = true) (hmb : mright b = true) (heq : n2 = mcols a) :
    Calls Try.prog 12 #[.slice a1 n1 c1, .slice a2 n2 c2] w fun e w' => e = .returned (.bool true) ∧ Keep (fun _ => False) w w' := by
  have HN1 : Hid (n1 ≤ 12) := by
    have h3 := (few_spec hfa).1
    rw [h1.len] at h3
    exact h3
  have HN2 : Hid (n2 ≤ 12) := by
    have h3 := (few_spec hfb).1
    rw [h2.len] at h3
    exact h3
  have HRB : Hid (∀ r ∈ b, r.length ≤ 12) := (few_spec hfb).2
  have t1 : (n1 : Int) ≤ 12 := by have := HN1.out; omega
  have t2 : (n2 : Int) ≤ 12 := by have := HN2.out; omega
  have hnt := hnot
  have HA := Lib.hid hfa
  have HB := Lib.hid hfb
  have HMA := Lib.hid hma
  have HMB := Lib.hid hmb
  have HBA := Lib.hid (right_bounds h1.len hma)
  have HFIT : Hid (mfit a b = true) := by show mfit a b = true; rw [mfit, hma, hmb, h2.len, heq]; simp
  have HAPP : Hid (mapp a b = true) := by show mapp a b = true; rw [mapp, hma, h2.len, heq, Bool.true_and, decide_eq_true rfl, Bool.true_and, List.all_eq_true]; exact fun r hr => decide_eq_true ((of_mright hmb).2.2 r hr)
  obtain ⟨qa, oa, aa, ca, capa, ra, rfl, _, hu, hm0, hca, _, hmx, hrb⟩ := h1.at_ (k := 0) (by have := HBA.out; omega)
  rw [Nat.add_zero] at hca
  have hmc := mcols_at hm0
  rw [hrb.len] at hmc
  have HMC := Lib.hid hmc
  have HCA := Lib.hid hca
  have HLA := Lib.hid (World.block_lt_of_cell? _ _ hca)
  have HCB : Hid (1 ≤ ca ∧ ca ≤ 255) := by have h3 := HBA.out; rw [hmc] at h3; exact h3.2.2
  have pa : (0 : Int) < (n1 : Int) := by have := HBA.out; omega
  have pa' : 0 < n1 := by have := HBA.out; omega
  have HEQ : Hid (n2 = ca) := heq.trans hmc
  have e1 : ((ca : Int) == (n2 : Int)) = true := by rw [beq_iff_eq]; omega
  have e2 : ((n2 : Int) == (ca : Int)) = true := by rw [beq_iff_eq]; omega
  obtain ⟨qb, ob, ab, L, capb, rb, rfl, _, hub, hmb0, hcb, _, hmxb, hrbb⟩ := h2.at_ (k := 0) (by have := HEQ.out; have := HCB.out; omega)
  rw [Nat.add_zero] at hcb
  have hlc := mcols_at hmb0
  rw [hrbb.len] at hlc
  have HLC := Lib.hid hlc
  have HCBB := Lib.hid hcb
  have HLB := Lib.hid (World.block_lt_of_cell? _ _ hcb)
  have pb : (0 : Int) < (n2 : Int) := by have := HEQ.out; have := HCB.out; omega
  have pb' : 0 < n2 := by have := HEQ.out; have := HCB.out; omega
  have HL12 : Hid (L ≤ 12) := by have h3 := HRB.out rb (List.mem_of_getElem? hmb0); rw [hrbb.len] at h3; exact h3
  have HROWB : Hid (∀ r ∈ b, r.length = L) := fun r hr => by rw [← hlc]; exact (of_mright hmb).2.2 r hr
  have l0 : (0 : Int) < (L : Int) := by have h3 := (right_bounds h2.len hmb).2.2; rw [hlc] at h3; omega
  clear heq hu hm0 hca hmx hrb hmc hub hmb0 hcb hmxb hrbb hlc
  have H1 := Lib.hid h1
  have H2 := Lib.hid h2
  clear h1 h2 hfa hfb hma hmb
  go_enter Try.func12, Try.ntmps12
  go_wp2_with fail
  refine (few_yes _ _ n1 c1 12 us a w H1.out (by omega) HA.out).mono ?_
  rintro e w1 ⟨rfl, hk⟩
  have HK := Lib.hid hk
  clear hk
  go_wp2_with fail
  refine (few_yes _ _ n2 c2 12 vs b w1 (H2.out.keep HK.out (fun _ _ _ => id)) (by omega) HB.out).mono ?_
  rintro e w2 ⟨rfl, hk⟩
  have HK2 := Lib.hid (HK.out.trans hk)
  clear hk
  go_wp2_with fail
  refine (new_any w2).mono ?_
  rintro e w3 ⟨rfl, rfl⟩
  have HK3 : Hid (Keep (fun _ => False) w (w2.alloc (.cells Try.zeroCells102 102))) := HK2.out.alloc _
  have HF3 : Hid (FieldAt (w2.alloc (.cells Try.zeroCells102 102)) w2.heap.size) := field_new w2
  have HS : Hid (w.heap.size ≤ w2.heap.size) := HK2.out.size
  generalize (w2.alloc (.cells Try.zeroCells102 102)) = w3 at *
  generalize w2.heap.size = fb at *
  have HFB := Lib.hid HF3.out.lt
  go_wp2_with fail
  have HG3 : Hid (w3.heap.size ≤ w3.heap.size) := Nat.le_refl _
  refine (mul_yes fb (· < w.heap.size) (· < w.heap.size) _ _ n1 n2 c1 c2 us vs a b w3 HF3.out (fun x (hx : x < w.heap.size) e => by have := HS.out; omega) (fun x (hx : x < w.heap.size) e => by have := HS.out; omega) (H1.out.keep HK3.out (fun _ _ _ => id)) (H2.out.keep HK3.out (fun _ _ _ => id)) HFIT.out).mono ?_
  rintro e w4 ⟨g4, G4, rfl, hfl, hq⟩
  have HK4 : Hid (Keep (fun _ => False) w w4) := HK3.out.trans' hq.keep (fun i hi e => by have := HS.out; omega)
  have HF4 := Lib.hid hq.at_
  have HG4 := Lib.hid (Nat.le_trans HG3.out hq.keep.size)
  rw [HLC.out] at hfl
  obtain ⟨ps, hps⟩ := hfl.mv (by have := HN1.out; omega) (by have := HL12.out; omega)
  have HMM : Hid (mulM a b = mk n1 L (mulE n2 (ent a) (ent b))) := by
    show mulM a b = _
    rw [mulM, H1.out.len, H2.out.len, HLC.out]
    rfl
  have hps2 : Mv (fun b => w3.heap.size ≤ b) w4 (some ⟨g4, 0, none⟩) n1 ps (mulM a b) := by
    rw [HMM.out]
    exact hps
  have HP4 := Lib.hid hps2
  have HMLEN : Hid ((mulM a b).length = n1) := by
    show (mulM a b).length = n1
    rw [HMM.out, mk_len]
  clear hq hfl hps hps2
  go_wp2_with fail
  refine (refright_is _ _ n1 c1 us a w4 true (H1.out.keep HK4.out (fun _ _ _ => id)) (by have := HN1.out; omega) HMA.out).mono ?_
  rintro e w5 ⟨rfl, hk⟩
  have HK5 := Lib.hid (HK4.out.trans hk)
  have HF5 := Lib.hid (HF4.out.keep hk id)
  have HG5 := Lib.hid (Nat.le_trans HG4.out hk.size)
  have HP5 := Lib.hid (HP4.out.keep hk (fun _ _ _ => id))
  clear hk
  go_wp2_with fail
  refine (refright_is _ _ n2 c2 vs b w5 true (H2.out.keep HK5.out (fun _ _ _ => id)) (by have := HN2.out; omega) HMB.out).mono ?_
  rintro e w6 ⟨rfl, hk⟩
  have HK6 := Lib.hid (HK5.out.trans hk)
  have HF6 := Lib.hid (HF5.out.keep hk id)
  have HG6 := Lib.hid (Nat.le_trans HG5.out hk.size)
  have HP6 := Lib.hid (HP5.out.keep hk (fun _ _ _ => id))
  clear hk
  have hc5 := (HK6.out.cell (p := ⟨qa, oa, none⟩) HLA.out id).trans HCA.out
  go_wp2_with fail
  clear hc5
  refine (refmat_mul _ _ _ _ n1 n2 c1 c2 us vs a b w6 (H1.out.keep HK6.out (fun _ _ _ => id)) (H2.out.keep HK6.out (fun _ _ _ => id)) HFIT.out).mono ?_
  rintro e w7 ⟨v6, rfl, hgr, hk⟩
  have HK7 := Lib.hid (HK6.out.trans hk)
  have HF7 := Lib.hid (HF6.out.keep hk id)
  have HG7 := Lib.hid (Nat.le_trans HG6.out hk.size)
  have HP7 := Lib.hid (HP6.out.keep hk (fun _ _ _ => id))
  obtain ⟨ao7, cap7, rfl, _, _⟩ := hgr.len
  obtain ⟨rs7, hrs⟩ := hgr.mv
  rw [HMLEN.out] at hrs ⊢
  have HR7 := Lib.hid hrs
  clear hk hgr hrs
  go_wp2_with fail
  refine (refsame_is _ _ _ _ n1 n1 n1 cap7 ps rs7 _ _ w7 true HP7.out HR7.out (by have := HN1.out; omega) (by have := HN1.out; omega) (same_yes rfl)).mono ?_
  rintro e w8 ⟨rfl, hk⟩
  have HK8 := Lib.hid (HK7.out.trans hk)
  have HF8 := Lib.hid (HF7.out.keep hk id)
  have HG8 := Lib.hid (Nat.le_trans HG7.out hk.size)
  have HP8 := Lib.hid (HP7.out.keep hk (fun _ _ _ => id))
  clear hk
  go_wp2_with fail
  refine (apply_yes fb (· < w.heap.size) (· < w.heap.size) _ _ n1 n2 c1 c2 us vs a b w8 HF8.out (fun x (hx : x < w.heap.size) e => by have := HS.out; omega) (fun x (hx : x < w.heap.size) e => by have := HS.out; omega) (H1.out.keep HK8.out (fun _ _ _ => id)) (H2.out.keep HK8.out (fun _ _ _ => id)) HAPP.out (by rw [HLC.out]; have := HL12.out; omega)).mono ?_
  rintro e w9 ⟨v8, rfl, hgs, hq⟩
  have HK9 : Hid (Keep (fun _ => False) w w9) := HK8.out.trans' hq.keep (fun i hi e => by have := HS.out; omega)
  have HF9 := Lib.hid hq.at_
  have HG9 := Lib.hid (Nat.le_trans HG8.out hq.keep.size)
  have HP9 := Lib.hid (HP8.out.keep hq.keep (fun x _ (hx : w3.heap.size ≤ x) (e : x = fb) => by have := HFB.out; omega))
  obtain ⟨ao8, cap8, rfl, _, _⟩ := hgs.len
  obtain ⟨ss, hss⟩ := hgs.mv
  rw [HMLEN.out] at hss ⊢
  have hge : w3.heap.size ≤ w8.heap.size := HG8.out
  have hss2 : Mv (fun b => w3.heap.size ≤ b) w9 ao8 n1 ss (mulM a b) := hss.mono (fun b _ hb => Nat.le_trans hge (hb.elim id id))
  have HT9 := Lib.hid hss2
  clear hq hgs hss hss2 hge
  go_wp2_with fail
  refine (refright_is _ _ n1 c1 us a w9 true (H1.out.keep HK9.out (fun _ _ _ => id)) (by have := HN1.out; omega) HMA.out).mono ?_
  rintro e w10 ⟨rfl, hk⟩
  have HK10 := Lib.hid (HK9.out.trans hk)
  have HF10 := Lib.hid (HF9.out.keep hk id)
  have HG10 := Lib.hid (Nat.le_trans HG9.out hk.size)
  have HT10 := Lib.hid (HT9.out.keep hk (fun _ _ _ => id))
  clear hk
  have hc9 := (HK10.out.cell (p := ⟨qa, oa, none⟩) HLA.out id).trans HCA.out
  go_wp2_with fail
  clear hc9
  obtain ⟨wq, hwq⟩ : ∃ wq, wq = w10 := ⟨_, rfl⟩
  have HWQ := Lib.hid hwq
  clear hwq
  go_loopw [11, 12] (fun u i wr => ∃ (k d : Nat) (t : Bool), k ≤ n2 ∧ i = .int .i64 (k : Int) ∧ u = .bool t ∧ Hid (t = true ∧ wr = w10.drewN d)) (fun _ i _ => n2 - (intOf i).toNat)
  case atStart => exact ⟨0, 0, true, Nat.zero_le _, rfl, rfl, rfl, rfl⟩
  case round =>
    obtain ⟨k, d, t, hk, rfl, rfl, HI⟩ := hrel
    have hkw : Keep (fun _ => False) w wr := by
      rw [HI.out.2]
      exact HK10.out.drewN d
    have HKW := Lib.hid hkw
    clear hkw
    by_cases hlt : k < n2
    · have k0 : (0 : Int) ≤ (k : Int) := by omega
      have kn : (k : Int) < (n2 : Int) := by omega
      have HLT := Lib.hid hlt
      obtain ⟨q1, o1, a1', L1, cp1, r1, eb, _, hu1, hr1, hc1, _, _, hrb1⟩ := (H2.out.keep HKW.out (fun _ _ _ => id)).at_ hlt
      cases eb
      have hcb := (HKW.out.cell (p := ⟨qb, ob, none⟩) HLB.out id).trans HCBB.out
      have HR1 := Lib.hid hr1
      have HRL1 := Lib.hid hrb1.len
      have hl1 : L1 = L := by have h5 := HROWB.out r1 (List.mem_of_getElem? hr1); rw [hrb1.len] at h5; exact h5
      subst hl1
      have ht := HI.out.1
      subst ht
      clear hlt hu1 hr1 hrb1
      go_wp2_with fail
      go_quiet (fail)
      go_wp2_with fail
      go_roundw
      case rel =>
        refine ⟨k + 1, d + nq, true, by have := HLT.out; omega, by go_num, rfl, rfl, ?_⟩
        rw [HI.out.2, World.drewN_drewN]
      case measure => have := HLT.out; simp [intOf]; omega
    · have hkn : (n2 : Int) ≤ (k : Int) := by omega
      have hke : k = n2 := by omega
      have ht := HI.out.1
      subst ht
      have HF9 : Hid (FieldAt wr fb) := by
        rw [HI.out.2]
        exact HF10.out.keep ((Keep.refl (fun _ => False) w10).drewN d) id
      have HT9 : Hid (Mv (fun b => w3.heap.size ≤ b) wr ao8 n1 ss (mulM a b)) := by
        rw [HI.out.2]
        exact HT10.out.drewN d
      clear hke hlt hk HI
      have hcb := (HKW.out.cell (p := ⟨qb, ob, none⟩) HLB.out id).trans HCBB.out
      have HK9 := Lib.hid HKW.out
      go_wp2_with fail
      clear hkn
      clear hcb
      refine (refmat_mul _ _ _ _ n1 n2 c1 c2 us vs a b wr (H1.out.keep HK9.out (fun _ _ _ => id)) (H2.out.keep HK9.out (fun _ _ _ => id)) HFIT.out).mono ?_
      rintro e w10 ⟨v10, rfl, hgr, hk⟩
      have HK10 := Lib.hid (HK9.out.trans hk)
      have HF10 := Lib.hid (HF9.out.keep hk id)
      have HT10 := Lib.hid (HT9.out.keep hk (fun _ _ _ => id))
      obtain ⟨ao10, cap10, rfl, _, _⟩ := hgr.len
      obtain ⟨rs10, hrs⟩ := hgr.mv
      rw [HMLEN.out] at hrs ⊢
      have HR10 := Lib.hid hrs
      clear hk hgr hrs
      go_wp2_with fail
      refine (refsame_is _ _ _ _ n1 n1 cap8 cap10 ss rs10 _ _ w10 true HT10.out HR10.out (by have := HN1.out; omega) (by have := HN1.out; omega) (same_yes rfl)).mono ?_
      rintro e w11 ⟨rfl, hk⟩
      have HK11 := Lib.hid (HK10.out.trans hk)
      have HF11 := Lib.hid (HF10.out.keep hk id)
      clear hk
      go_wp2_with fail
      refine (size_yes _ _ n1 c1 us a w11 (H1.out.keep HK11.out (fun _ _ _ => id)) (by have := HN1.out; omega) HMA.out).mono ?_
      rintro e w12 ⟨rfl, hk⟩
      have HK12 := Lib.hid (HK11.out.trans hk)
      have HF12 := Lib.hid (HF11.out.keep hk id)
      clear hk
      rw [HMC.out]
      go_wp2_with fail
      refine (refright_is _ _ n1 c1 us a w12 true (H1.out.keep HK12.out (fun _ _ _ => id)) (by have := HN1.out; omega) HMA.out).mono ?_
      rintro e w13 ⟨rfl, hk⟩
      have HK13 := Lib.hid (HK12.out.trans hk)
      have HF13 := Lib.hid (HF12.out.keep hk id)
      clear hk
      have hc17 := (HK13.out.cell (p := ⟨qa, oa, none⟩) HLA.out id).trans HCA.out
      go_wp2_with fail
      clear hc17
      refine (rank_yes fb _ _ n1 c1 us a w13 HF13.out (H1.out.keep HK13.out (fun _ _ _ => id)) HMA.out).mono ?_
      rintro e w14 ⟨rfl, hq⟩
      have HK14 : Hid (Keep (fun _ => False) w w14) := HK13.out.trans' hq.keep (fun i hi e => by have := HS.out; omega)
      have HF14 := Lib.hid hq.at_
      clear hq
      go_wp2_with fail
      refine (refrank_any _ _ n1 c1 us a w14 (H1.out.keep HK14.out (fun _ _ _ => id)) HMA.out).mono ?_
      rintro e w15 ⟨rfl, hk⟩
      have HK15 := Lib.hid (HK14.out.trans hk)
      have HF15 := Lib.hid (HF14.out.keep hk id)
      clear hk
      go_wp2_with fail
      refine (refright_is _ _ n1 c1 us a w15 true (H1.out.keep HK15.out (fun _ _ _ => id)) (by have := HN1.out; omega) HMA.out).mono ?_
      rintro e w16 ⟨rfl, hk⟩
      have HK16 := Lib.hid (HK15.out.trans hk)
      have HF16 := Lib.hid (HF15.out.keep hk id)
      clear hk
      go_wp2_with fail
      refine (right_true _ _ n1 c1 us a w16 (H1.out.keep HK16.out (fun _ _ _ => id)) (by have := HN1.out; omega) HMA.out).mono ?_
      rintro e w17 ⟨rfl, hk⟩
      have HK17 := Lib.hid (HK16.out.trans hk)
      have HF17 := Lib.hid (HF16.out.keep hk id)
      clear hk
      go_wp2_with fail
      refine (refright_is _ _ n1 c1 us a w17 true (H1.out.keep HK17.out (fun _ _ _ => id)) (by have := HN1.out; omega) HMA.out).mono ?_
      rintro e w18 ⟨rfl, hk⟩
      have HK18 := Lib.hid (HK17.out.trans hk)
      have HF18 := Lib.hid (HF17.out.keep hk id)
      clear hk
      go_wp2_with fail
      refine (same_any _ _ _ _ n1 n2 c1 c2 us vs a b w18 (H1.out.keep HK18.out (fun _ _ _ => id)) (H2.out.keep HK18.out (fun _ _ _ => id)) (by have := HN1.out; omega) (by have := HN2.out; omega)).mono ?_
      rintro e w19 ⟨rfl, hk⟩
      have HK19 := Lib.hid (HK18.out.trans hk)
      have HF19 := Lib.hid (HF18.out.keep hk id)
      clear hk
      rw [show msame a b = (a == b) by rw [msame, HMA.out, HMB.out]; rfl]
      obtain ⟨x, hx⟩ : ∃ x, (a == b) = x := ⟨_, rfl⟩
      rw [hx]
      have HX := Lib.hid hx
      clear hx
      go_wp2_with fail
      refine (refright_is _ _ n1 c1 us a w19 true (H1.out.keep HK19.out (fun _ _ _ => id)) (by have := HN1.out; omega) HMA.out).mono ?_
      rintro e w20 ⟨rfl, hk⟩
      have HK20 := Lib.hid (HK19.out.trans hk)
      have HF20 := Lib.hid (HF19.out.keep hk id)
      clear hk
      go_wp2_with fail
      refine (refright_is _ _ n2 c2 vs b w20 true (H2.out.keep HK20.out (fun _ _ _ => id)) (by have := HN2.out; omega) HMB.out).mono ?_
      rintro e w21 ⟨rfl, hk⟩
      have HK21 := Lib.hid (HK20.out.trans hk)
      have HF21 := Lib.hid (HF20.out.keep hk id)
      clear hk
      go_wp2_with fail
      refine (refsame_is _ _ _ _ n1 n2 c1 c2 us vs a b w21 x (H1.out.keep HK21.out (fun _ _ _ => id)) (H2.out.keep HK21.out (fun _ _ _ => id)) (by have := HN1.out; omega) (by have := HN2.out; omega) HX.out).mono ?_
      rintro e w22 ⟨rfl, hk⟩
      have HK22 := Lib.hid (HK21.out.trans hk)
      have HF22 := Lib.hid (HF21.out.keep hk id)
      clear hk
      go_wp2_with fail
      refine (one5_any w22).mono ?_
      rintro e w23 ⟨rfl, hk⟩
      have HK23 := Lib.hid (HK22.out.trans hk)
      have HF23 := Lib.hid (HF22.out.keep hk id)
      clear hk
      go_wp2_with fail
      go_ret
      exact ⟨rfl, HK23.out⟩

set_option maxRecDepth 100000 in
set_option maxHeartbeats 8000000 in
theorem matMul_iv (a1 a2 : Option Addr) (n1 n2 c1 c2 : Nat) (us vs : List Value) (a b : List (List UInt8)) (w : World) (h1 : Mv (· < w.heap.size) w a1 n1 us a) (h2 : Mv (· < w.heap.size) w a2 n2 vs b) (hfa : few a 12 = true) (hfb : few b 12 = true) (hma : mright a = true) (hmb : mright b = true) (hne : n2 ≠ mcols a) :
    Calls Try.prog 12 #[.slice a1 n1 c1, .slice a2 n2 c2] w fun e w' => e = .returned (.bool true) ∧ Keep (fun _ => False) w w' := by
  have HN1 : Hid (n1 ≤ 12) := by
    have h3 := (few_spec hfa).1
    rw [h1.len] at h3
    exact h3
  have HN2 : Hid (n2 ≤ 12) := by
    have h3 := (few_spec hfb).1
    rw [h2.len] at h3
    exact h3
  have HRB : Hid (∀ r ∈ b, r.length ≤ 12) := (few_spec hfb).2
  have t1 : (n1 : Int) ≤ 12 := by have := HN1.out; omega
  have t2 : (n2 : Int) ≤ 12 := by have := HN2.out; omega
  have hnt := hnot
  have HA := Lib.hid hfa
  have HB := Lib.hid hfb
  have HMA := Lib.hid hma
  have HMB := Lib.hid hmb
  have HBA := Lib.hid (right_bounds h1.len hma)
  have HFIT : Hid (mfit a b = false) := by show mfit a b = false; rw [mfit, hma, hmb, h2.len]; simp; omega
  have HAPP : Hid (mapp a b = false) := by show mapp a b = false; rw [mapp, h2.len, decide_eq_false hne, Bool.false_and, Bool.and_false]
  obtain ⟨qa, oa, aa, ca, capa, ra, rfl, _, hu, hm0, hca, _, hmx, hrb⟩ := h1.at_ (k := 0) (by have := HBA.out; omega)
  rw [Nat.add_zero] at hca
  have hmc := mcols_at hm0
  rw [hrb.len] at hmc
  have HMC := Lib.hid hmc
  have HCA := Lib.hid hca
  have HLA := Lib.hid (World.block_lt_of_cell? _ _ hca)
  have HCB : Hid (1 ≤ ca ∧ ca ≤ 255) := by have h3 := HBA.out; rw [hmc] at h3; exact h3.2.2
  have pa : (0 : Int) < (n1 : Int) := by have := HBA.out; omega
  have pa' : 0 < n1 := by have := HBA.out; omega
  have e1 : ((ca : Int) == (n2 : Int)) = false := by rw [beq_eq_false_iff_ne]; omega
  have e2 : ((n2 : Int) == (ca : Int)) = false := by rw [beq_eq_false_iff_ne]; omega
  clear hne hu hm0 hca hmx hrb hmc
  have H1 := Lib.hid h1
  have H2 := Lib.hid h2
  clear h1 h2 hfa hfb hma hmb
  go_enter Try.func12, Try.ntmps12
  go_wp2_with fail
  refine (few_yes _ _ n1 c1 12 us a w H1.out (by omega) HA.out).mono ?_
  rintro e w1 ⟨rfl, hk⟩
  have HK := Lib.hid hk
  clear hk
  go_wp2_with fail
  refine (few_yes _ _ n2 c2 12 vs b w1 (H2.out.keep HK.out (fun _ _ _ => id)) (by omega) HB.out).mono ?_
  rintro e w2 ⟨rfl, hk⟩
  have HK2 := Lib.hid (HK.out.trans hk)
  clear hk
  go_wp2_with fail
  refine (new_any w2).mono ?_
  rintro e w3 ⟨rfl, rfl⟩
  have HK3 : Hid (Keep (fun _ => False) w (w2.alloc (.cells Try.zeroCells102 102))) := HK2.out.alloc _
  have HF3 : Hid (FieldAt (w2.alloc (.cells Try.zeroCells102 102)) w2.heap.size) := field_new w2
  have HS : Hid (w.heap.size ≤ w2.heap.size) := HK2.out.size
  generalize (w2.alloc (.cells Try.zeroCells102 102)) = w3 at *
  generalize w2.heap.size = fb at *
  have HFB := Lib.hid HF3.out.lt
  go_wp2_with fail
  refine (mul_no _ (· < w.heap.size) (· < w.heap.size) _ _ n1 n2 c1 c2 us vs a b w3 (H1.out.keep HK3.out (fun _ _ _ => id)) (H2.out.keep HK3.out (fun _ _ _ => id)) (by have := HN1.out; omega) (by have := HN2.out; omega) HFIT.out).mono ?_
  rintro e w4 ⟨rfl, hk⟩
  have HK4 := Lib.hid (HK3.out.trans hk)
  have HF4 := Lib.hid (HF3.out.keep hk id)
  clear hk
  go_wp2_with fail
  refine (refright_is _ _ n1 c1 us a w4 true (H1.out.keep HK4.out (fun _ _ _ => id)) (by have := HN1.out; omega) HMA.out).mono ?_
  rintro e w5 ⟨rfl, hk⟩
  have HK5 := Lib.hid (HK4.out.trans hk)
  have HF5 := Lib.hid (HF4.out.keep hk id)
  clear hk
  go_wp2_with fail
  refine (refright_is _ _ n2 c2 vs b w5 true (H2.out.keep HK5.out (fun _ _ _ => id)) (by have := HN2.out; omega) HMB.out).mono ?_
  rintro e w6 ⟨rfl, hk⟩
  have HK6 := Lib.hid (HK5.out.trans hk)
  have HF6 := Lib.hid (HF5.out.keep hk id)
  clear hk
  have hc5 := (HK6.out.cell (p := ⟨qa, oa, none⟩) HLA.out id).trans HCA.out
  go_wp2_with fail
  clear hc5
  refine (apply_no _ (· < w.heap.size) (· < w.heap.size) _ _ n1 n2 c1 c2 us vs a b w6 (H1.out.keep HK6.out (fun _ _ _ => id)) (H2.out.keep HK6.out (fun _ _ _ => id)) (by have := HN1.out; omega) HAPP.out).mono ?_
  rintro e w7 ⟨rfl, hk⟩
  have HK7 := Lib.hid (HK6.out.trans hk)
  have HF7 := Lib.hid (HF6.out.keep hk id)
  clear hk
  go_wp2_with fail
  refine (refright_is _ _ n1 c1 us a w7 true (H1.out.keep HK7.out (fun _ _ _ => id)) (by have := HN1.out; omega) HMA.out).mono ?_
  rintro e w8 ⟨rfl, hk⟩
  have HK8 := Lib.hid (HK7.out.trans hk)
  have HF8 := Lib.hid (HF7.out.keep hk id)
  clear hk
  have hc9 := (HK8.out.cell (p := ⟨qa, oa, none⟩) HLA.out id).trans HCA.out
  go_wp2_with fail
  clear hc9
  obtain ⟨wq, hwq⟩ : ∃ wq, wq = w8 := ⟨_, rfl⟩
  have HWQ := Lib.hid hwq
  clear hwq
  go_loopw [11, 12] (fun u i wr => ∃ (k d : Nat) (t : Bool), k ≤ n2 ∧ i = .int .i64 (k : Int) ∧ u = .bool t ∧ Hid (t = false ∧ wr = w8.drewN d)) (fun _ i _ => n2 - (intOf i).toNat)
  case atStart => exact ⟨0, 0, false, Nat.zero_le _, rfl, rfl, rfl, rfl⟩
  case round =>
    obtain ⟨k, d, t, hk, rfl, rfl, HI⟩ := hrel
    have hkw : Keep (fun _ => False) w wr := by
      rw [HI.out.2]
      exact HK8.out.drewN d
    have HKW := Lib.hid hkw
    clear hkw
    by_cases hlt : k < n2
    · have k0 : (0 : Int) ≤ (k : Int) := by omega
      have kn : (k : Int) < (n2 : Int) := by omega
      have HLT := Lib.hid hlt
      have ht := HI.out.1
      subst ht
      clear hlt
      go_wp2_with fail
      go_quiet (fail)
      go_wp2_with fail
      go_roundw
      case rel =>
        refine ⟨k + 1, d + nq, false, by have := HLT.out; omega, by go_num, rfl, rfl, ?_⟩
        rw [HI.out.2, World.drewN_drewN]
      case measure => have := HLT.out; simp [intOf]; omega
    · have hkn : (n2 : Int) ≤ (k : Int) := by omega
      have hke : k = n2 := by omega
      have ht := HI.out.1
      subst ht
      have HF9 : Hid (FieldAt wr fb) := by
        rw [HI.out.2]
        exact HF8.out.keep ((Keep.refl (fun _ => False) w8).drewN d) id
      clear hke hlt hk HI
      have HK9 := Lib.hid HKW.out
      go_wp2_with fail
      clear hkn
      refine (size_yes _ _ n1 c1 us a wr (H1.out.keep HK9.out (fun _ _ _ => id)) (by have := HN1.out; omega) HMA.out).mono ?_
      rintro e w10 ⟨rfl, hk⟩
      have HK10 := Lib.hid (HK9.out.trans hk)
      have HF10 := Lib.hid (HF9.out.keep hk id)
      clear hk
      rw [HMC.out]
      go_wp2_with fail
      refine (refright_is _ _ n1 c1 us a w10 true (H1.out.keep HK10.out (fun _ _ _ => id)) (by have := HN1.out; omega) HMA.out).mono ?_
      rintro e w11 ⟨rfl, hk⟩
      have HK11 := Lib.hid (HK10.out.trans hk)
      have HF11 := Lib.hid (HF10.out.keep hk id)
      clear hk
      have hc17 := (HK11.out.cell (p := ⟨qa, oa, none⟩) HLA.out id).trans HCA.out
      go_wp2_with fail
      clear hc17
      refine (rank_yes fb _ _ n1 c1 us a w11 HF11.out (H1.out.keep HK11.out (fun _ _ _ => id)) HMA.out).mono ?_
      rintro e w12 ⟨rfl, hq⟩
      have HK12 : Hid (Keep (fun _ => False) w w12) := HK11.out.trans' hq.keep (fun i hi e => by have := HS.out; omega)
      have HF12 := Lib.hid hq.at_
      clear hq
      go_wp2_with fail
      refine (refrank_any _ _ n1 c1 us a w12 (H1.out.keep HK12.out (fun _ _ _ => id)) HMA.out).mono ?_
      rintro e w13 ⟨rfl, hk⟩
      have HK13 := Lib.hid (HK12.out.trans hk)
      have HF13 := Lib.hid (HF12.out.keep hk id)
      clear hk
      go_wp2_with fail
      refine (refright_is _ _ n1 c1 us a w13 true (H1.out.keep HK13.out (fun _ _ _ => id)) (by have := HN1.out; omega) HMA.out).mono ?_
      rintro e w14 ⟨rfl, hk⟩
      have HK14 := Lib.hid (HK13.out.trans hk)
      have HF14 := Lib.hid (HF13.out.keep hk id)
      clear hk
      go_wp2_with fail
      refine (right_true _ _ n1 c1 us a w14 (H1.out.keep HK14.out (fun _ _ _ => id)) (by have := HN1.out; omega) HMA.out).mono ?_
      rintro e w15 ⟨rfl, hk⟩
      have HK15 := Lib.hid (HK14.out.trans hk)
      have HF15 := Lib.hid (HF14.out.keep hk id)
      clear hk
      go_wp2_with fail
      refine (refright_is _ _ n1 c1 us a w15 true (H1.out.keep HK15.out (fun _ _ _ => id)) (by have := HN1.out; omega) HMA.out).mono ?_
      rintro e w16 ⟨rfl, hk⟩
      have HK16 := Lib.hid (HK15.out.trans hk)
      have HF16 := Lib.hid (HF15.out.keep hk id)
      clear hk
      go_wp2_with fail
      refine (same_any _ _ _ _ n1 n2 c1 c2 us vs a b w16 (H1.out.keep HK16.out (fun _ _ _ => id)) (H2.out.keep HK16.out (fun _ _ _ => id)) (by have := HN1.out; omega) (by have := HN2.out; omega)).mono ?_
      rintro e w17 ⟨rfl, hk⟩
      have HK17 := Lib.hid (HK16.out.trans hk)
      have HF17 := Lib.hid (HF16.out.keep hk id)
      clear hk
      rw [show msame a b = (a == b) by rw [msame, HMA.out, HMB.out]; rfl]
      obtain ⟨x, hx⟩ : ∃ x, (a == b) = x := ⟨_, rfl⟩
      rw [hx]
      have HX := Lib.hid hx
      clear hx
      go_wp2_with fail
      refine (refright_is _ _ n1 c1 us a w17 true (H1.out.keep HK17.out (fun _ _ _ => id)) (by have := HN1.out; omega) HMA.out).mono ?_
      rintro e w18 ⟨rfl, hk⟩
      have HK18 := Lib.hid (HK17.out.trans hk)
      have HF18 := Lib.hid (HF17.out.keep hk id)
      clear hk
      go_wp2_with fail
      refine (refright_is _ _ n2 c2 vs b w18 true (H2.out.keep HK18.out (fun _ _ _ => id)) (by have := HN2.out; omega) HMB.out).mono ?_
      rintro e w19 ⟨rfl, hk⟩
      have HK19 := Lib.hid (HK18.out.trans hk)
      have HF19 := Lib.hid (HF18.out.keep hk id)
      clear hk
      go_wp2_with fail
      refine (refsame_is _ _ _ _ n1 n2 c1 c2 us vs a b w19 x (H1.out.keep HK19.out (fun _ _ _ => id)) (H2.out.keep HK19.out (fun _ _ _ => id)) (by have := HN1.out; omega) (by have := HN2.out; omega) HX.out).mono ?_
      rintro e w20 ⟨rfl, hk⟩
      have HK20 := Lib.hid (HK19.out.trans hk)
      have HF20 := Lib.hid (HF19.out.keep hk id)
      clear hk
      go_wp2_with fail
      refine (one5_any w20).mono ?_
      rintro e w21 ⟨rfl, hk⟩
      have HK21 := Lib.hid (HK20.out.trans hk)
      have HF21 := Lib.hid (HF20.out.keep hk id)
      clear hk
      go_wp2_with fail
      go_ret
      exact ⟨rfl, HK21.out⟩

theorem matMul_walk (W : World) (v0 : Value) (a : List (List UInt8)) (i0 : Ms (· < W.heap.size) W v0 a) (v1 : Value) (b : List (List UInt8)) (i1 : Ms (· < W.heap.size) W v1 b) :
    Calls Try.prog 12 #[v0, v1] W fun e w' => e = .returned (.bool true) ∧ Below W.heap.size W w' := by
  obtain ⟨a1, n1, c1, us, rfl, _, _, h1⟩ := i0
  obtain ⟨a2, n2, c2, vs, rfl, _, _, h2⟩ := i1
  have hx : Calls Try.prog 12 #[.slice a1 n1 c1, .slice a2 n2 c2] W fun e w' => e = .returned (.bool true) ∧ Keep (fun _ => False) W w' := by
    cases hf : (few a 12 && few b 12) with
    | false => exact matMul_few _ _ a1 a2 n1 n2 c1 c2 us vs a b W h1 h2 hf
    | true =>
      rw [Bool.and_eq_true] at hf
      cases hma : mright a with
      | false => exact matMul_i a1 a2 n1 n2 c1 c2 us vs a b W h1 h2 hf.1 hf.2 hma
      | true =>
        cases hmb : mright b with
        | true =>
          by_cases he : n2 = mcols a
          · exact matMul_iii a1 a2 n1 n2 c1 c2 us vs a b W h1 h2 hf.1 hf.2 hma hmb he
          · exact matMul_iv a1 a2 n1 n2 c1 c2 us vs a b W h1 h2 hf.1 hf.2 hma hmb he
        | false =>
          by_cases he : n2 = mcols a
          · cases hall : b.all (fun r => decide (r.length = mcols b)) with
            | true => exact matMul_ii0 a1 a2 n1 n2 c1 c2 us vs a b W h1 h2 hf.1 hf.2 hma hmb he hall
            | false => exact matMul_ii3 a1 a2 n1 n2 c1 c2 us vs a b W h1 h2 hf.1 hf.2 hma hmb he hall
          · exact matMul_ii2 a1 a2 n1 n2 c1 c2 us vs a b W h1 h2 hf.1 hf.2 hma hmb he
  exact hx.mono fun _ _ ⟨he, hk⟩ => ⟨he, hk.below (Nat.le_refl _) (fun _ _ => id)⟩
end Go.Proofs.Ytegecjilpmkamaa
