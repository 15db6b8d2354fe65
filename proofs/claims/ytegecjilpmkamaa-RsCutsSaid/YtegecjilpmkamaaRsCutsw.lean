/-
  The walk of the law RsCuts: for every input it answers true.
-/
import Derived.Test.YtegecjilpmkamaaCuts
import Derived.Test.YtegecjilpmkamaaRsa
namespace Go.Proofs.Ytegecjilpmkamaa
open Go.RowKit Sb

theorem bstr_append (xs ys : List UInt8) : bstr xs ++ bstr ys = bstr (xs ++ ys) := by
  apply ByteArray.ext
  rw [ByteArray.data_append]
  simp [bstr]

theorem bstr_take (xs : List UInt8) (T : Nat) : (bstr xs).extract 0 T = bstr (xs.take T) := by
  apply ByteArray.ext
  rw [ByteArray.data_extract]
  simp [bstr]

theorem bstr_size (xs : List UInt8) : (bstr xs).size = xs.length := by
  show xs.toArray.size = _
  simp

theorem take_flat_le (l : List (List UInt8)) (j : Nat) : (l.take j).flatten.length ≤ l.flatten.length := by
  have h3 := congrArg List.length (congrArg List.flatten (List.take_append_drop j l))
  rw [List.flatten_append, List.length_append] at h3
  omega

set_option maxRecDepth 100000 in
set_option maxHeartbeats 8000000 in
theorem rsCuts_long (ao : Option Addr) (n cap : Nat) (many nn : Int) (w : World) (h : 3000 < n) :
    Calls Try.prog 19 #[.slice ao n cap, .int .i64 many, .int .i64 nn] w fun e w' => e = .returned (.bool true) ∧ Keep (fun _ => False) w w' := by
  have h2 : (3000 : Int) < (n : Int) := by omega
  clear h
  go_enter Try.func19, Try.ntmps19
  go_wp2_with fail
  go_ret
  exact ⟨rfl, Keep.refl _ _⟩

set_option maxRecDepth 100000 in
set_option maxHeartbeats 8000000 in
theorem rsCuts_no (ao : Option Addr) (n cap : Nat) (many nn : Int) (w : World) (hn : n ≤ 3000) (h : ¬ (1 ≤ many ∧ many ≤ 255)) :
    Calls Try.prog 19 #[.slice ao n cap, .int .i64 many, .int .i64 nn] w fun e w' => e = .returned (.bool true) ∧ Keep (fun _ => False) w w' := by
  have h2 : (n : Int) ≤ 3000 := by omega
  have H := Lib.hid h
  have h3 : many < 1 ∨ (1 ≤ many ∧ 255 < many) := by omega
  clear h hn
  rcases h3 with h | ⟨h, h'⟩
  all_goals
    go_enter Try.func19, Try.ntmps19
    go_wp2_with fail
    refine (cut_no ao n cap many w H.out).mono ?_
    rintro e w1 ⟨rfl, rfl⟩
    go_wp2_with fail
    refine (one6_any w).mono ?_
    rintro e w9 ⟨rfl, hk9⟩
    have HK9 := Lib.hid hk9
    clear hk9
    go_wp2_with fail
    go_ret
    exact ⟨rfl, HK9.out⟩

set_option maxRecDepth 100000 in
set_option maxHeartbeats 8000000 in
theorem rsCuts_yes (ao : Option Addr) (n cap M : Nat) (xs : List UInt8) (nn : Int) (w : World) (hr : Rb (· < w.heap.size) w ao n xs) (hn : n ≤ 3000) (hc : n ≤ cap) (h1 : 1 ≤ M) (h2 : M ≤ 255) (hb : -9223372036854775808 ≤ nn ∧ nn ≤ 9223372036854775807) :
    Calls Try.prog 19 #[.slice ao n cap, .int .i64 (M : Int), .int .i64 nn] w fun e w' => e = .returned (.bool true) ∧ Keep (fun _ => False) w w' := by
  have HR := Lib.hid hr
  have hxl := hr.len
  have HCM : Hid ((List.range M).map (fun i => rowOf (cutN n M) (fun k => at0 xs (i * cutN n M + k))) = cutM xs M) := by
    show _ = cutM xs M
    unfold cutM
    rw [hxl]
  have HXL := Lib.hid hxl
  have HB : Hid (n ≤ 3000 ∧ n ≤ cap ∧ 1 ≤ M ∧ M ≤ 255) := ⟨hn, hc, h1, h2⟩
  have HNN := Lib.hid hb
  have p1 : (1 : Int) ≤ (M : Int) := by omega
  have p2 : (M : Int) ≤ 255 := by omega
  have p3 : (n : Int) ≤ 3000 := by omega
  have hnt := hnot
  clear hr hxl hn hc h1 h2 hb
  go_enter Try.func19, Try.ntmps19
  go_wp2_with fail
  refine (cut_yes (· < w.heap.size) ao n cap M xs w HR.out HB.out.1 HB.out.2.1 HB.out.2.2.1 HB.out.2.2.2).mono ?_
  rintro e w1 ⟨g, G, rfl, hfl, hk⟩
  have HK1 := Lib.hid hk
  have hgr := hfl.gr' HB.out.2.2.2 (by have := cutN_le n M; have := HB.out.1; unfold maxLen; omega)
  rw [HCM.out] at hgr
  obtain ⟨us1, hmv⟩ := hgr.mv
  have HM1 : Hid (Mv (fun b => w.heap.size ≤ b) w1 (some ⟨g, 0, none⟩) M us1 (cutM xs M)) := hmv.mono (fun b _ hb => hb.elim id id)
  clear hk hfl hgr hmv
  go_wp2_with fail
  refine (refcut_any (· < w.heap.size) ao n cap M xs w1 (HR.out.keep HK1.out (fun _ _ _ => id)) HB.out.1 HB.out.2.2.1 HB.out.2.2.2).mono ?_
  rintro e w2 ⟨v2, rfl, hgr, hk⟩
  have HK2 := Lib.hid (HK1.out.trans hk)
  have HM2 := Lib.hid (HM1.out.keep hk (fun _ _ _ => id))
  obtain ⟨a2, cap2, rfl, _, _⟩ := hgr.len
  rw [cut_len] at hgr ⊢
  obtain ⟨us2, hmv⟩ := hgr.mv
  have HW2 : Hid (Mv (fun _ => True) w2 a2 M us2 (cutM xs M)) := hmv.mono (fun b _ _ => trivial)
  clear hk hgr hmv
  go_wp2_with fail
  refine (refsame_is _ _ _ a2 M M M cap2 us1 us2 (cutM xs M) (cutM xs M) w2 true HM2.out HW2.out (by have := HB.out; omega) (by have := HB.out; omega) (by simp)).mono ?_
  rintro e w3 ⟨rfl, hk⟩
  have HK3 := Lib.hid (HK2.out.trans hk)
  have HM3 := Lib.hid (HM2.out.keep hk (fun _ _ _ => id))
  have HW3 := Lib.hid (HW2.out.keep hk (fun _ _ _ => id))
  clear hk
  go_wp2_with fail
  have HTL : Hid ((cutM xs M).flatten.length ≤ 1000000) := by
    show (cutM xs M).flatten.length ≤ 1000000
    rw [cut_flat, rowOf_len, HXL.out]
    have h1 := cutN_le n M
    have h2 := Nat.mul_le_mul HB.out.2.2.2 h1
    have := HB.out.1
    omega
  go_loop [10, 11] (fun s i => ∃ j : Nat, j ≤ M ∧ i = .int .i64 (j : Int) ∧ s = .string (bstr ((cutM xs M).take j).flatten)) (fun _ i => M - (intOf i).toNat)
  case atStart => exact ⟨0, Nat.zero_le _, rfl, rfl⟩
  case round =>
    obtain ⟨j, hj, rfl, rfl⟩ := hrel
    by_cases hlt : j < M
    · have j0 : (0 : Int) ≤ (j : Int) := by omega
      have jn : (j : Int) < (M : Int) := by omega
      have HLT := Lib.hid hlt
      obtain ⟨b, o, ao', n', cap', r, rfl, _, hu, hr, hcr, _, _, hrb⟩ := HW3.out.at_ hlt
      have hcv := conv_bytes (cap := cap') hrb
      have hap := bstr_append ((cutM xs M).take j).flatten r
      have HRR := Lib.hid hr
      have hsz : (bstr ((cutM xs M).take j).flatten).size + (bstr r).size ≤ 9223372036854775807 := by
        rw [bstr_size, bstr_size]
        have e1 : ((cutM xs M).take (j + 1)).flatten = ((cutM xs M).take j).flatten ++ r := by
          rw [List.take_add_one, hr, Option.toList_some, List.flatten_append, List.flatten_singleton]
        have e2 := congrArg List.length e1
        rw [List.length_append] at e2
        have e3 := take_flat_le (cutM xs M) (j + 1)
        have e4 := HTL.out
        omega
      have hadd := fun w => run_string_add_sum (P := Try.prog) (w := w) (bstr ((cutM xs M).take j).flatten) (bstr r) hsz
      rw [hap] at hadd
      clear hap hsz
      clear hu hr hrb hlt
      go_wp2_with fail
      go_round
      case rel =>
        refine ⟨j + 1, by have := HLT.out; omega, by go_num, ?_⟩
        rw [List.take_add_one, HRR.out, Option.toList_some, List.flatten_append, List.flatten_singleton]
      case measure => have := HLT.out; simp [intOf]; omega
    · have hjn : (M : Int) ≤ (j : Int) := by omega
      have hjm : j = M := by omega
      rw [hjm, show (cutM xs M).take M = cutM xs M from List.take_of_length_le (by rw [cut_len]; omega)]
      clear hjm hlt hj
      go_wp2_with fail
      rcases (show nn < 0 ∨ 0 ≤ nn by omega) with hneg | hpos
      · refine (cjoin_no _ M M nn w3 hneg).mono ?_
        rintro e w4 ⟨rfl, rfl⟩
        go_wp2_with fail
        refine (cjoin_any _ _ M M n us1 (cutM xs M) w3 HM3.out (by have := HB.out; omega) (by have := HB.out; omega) HTL.out).mono ?_
        rintro e w5 ⟨hje, hk⟩
        unfold JoinEnd at hje
        rw [if_neg (by have := cut_flat_len (b := xs) HB.out.2.2.1; have := HXL.out; omega)] at hje
        obtain ⟨v5, rfl, hgb⟩ := hje
        have e5 := cut_back (b := xs) HB.out.2.2.1
        rw [HXL.out] at e5
        rw [e5] at hgb
        obtain ⟨a5, c5, rfl⟩ := hgb.form
        rw [HXL.out]
        have HK5 := Lib.hid (HK3.out.trans hk)
        obtain ⟨a5', n5', c5', e5', _, _, hrb5⟩ := hgb.bs
        cases e5'
        have hcv5 := conv_bytes (cap := c5) hrb5
        have hcv6 := conv_bytes (cap := cap) (HR.out.keep HK5.out (fun _ _ _ => id))
        have hself : ((bstr xs).toList == (bstr xs).toList) = true := by simp
        rw [HXL.out] at hcv5
        clear hk hgb e5 hrb5
        go_wp2_with fail
        refine (one6_any w5).mono ?_
        rintro e w9 ⟨rfl, hk9⟩
        have HK9 := Lib.hid (HK5.out.trans hk9)
        clear hk9
        go_wp2_with fail
        go_ret
        exact ⟨rfl, HK9.out⟩
      · obtain ⟨T, rfl⟩ : ∃ T : Nat, nn = (T : Int) := ⟨nn.toNat, by omega⟩
        obtain ⟨tot, htot⟩ : ∃ tot, (cutM xs M).flatten.length = tot := ⟨_, rfl⟩
        have hbz : (bstr (cutM xs M).flatten).size = tot := by rw [bstr_size, htot]
        have HTOT := Lib.hid htot
        clear htot
        refine (cjoin_any _ _ M M T us1 (cutM xs M) w3 HM3.out (by have := HB.out; omega) (by have := HNN.out; omega) HTL.out).mono ?_
        rintro e w4 ⟨hje, hk⟩
        unfold JoinEnd at hje
        rw [HTOT.out] at hje
        have HK4 := Lib.hid (HK3.out.trans hk)
        have HM4 := Lib.hid (HM3.out.keep hk (fun _ _ _ => id))
        by_cases hT : tot < T
        · rw [if_pos hT] at hje
          subst hje
          have hT1 : (tot : Int) < (T : Int) := by omega
          clear hk hT
          go_wp2_with fail
          refine (cjoin_any _ _ M M n us1 (cutM xs M) w4 HM4.out (by have := HB.out; omega) (by have := HB.out; omega) HTL.out).mono ?_
          rintro e w5 ⟨hje, hk⟩
          unfold JoinEnd at hje
          rw [if_neg (by have := cut_flat_len (b := xs) HB.out.2.2.1; have := HXL.out; omega)] at hje
          obtain ⟨v5, rfl, hgb⟩ := hje
          have e5 := cut_back (b := xs) HB.out.2.2.1
          rw [HXL.out] at e5
          rw [e5] at hgb
          obtain ⟨a5, c5, rfl⟩ := hgb.form
          rw [HXL.out]
          have HK5 := Lib.hid (HK4.out.trans hk)
          obtain ⟨a5', n5', c5', e5', _, _, hrb5⟩ := hgb.bs
          cases e5'
          have hcv5 := conv_bytes (cap := c5) hrb5
          have hcv6 := conv_bytes (cap := cap) (HR.out.keep HK5.out (fun _ _ _ => id))
          have hself : ((bstr xs).toList == (bstr xs).toList) = true := by simp
          rw [HXL.out] at hcv5
          clear hk hgb e5 hrb5
          go_wp2_with fail
          refine (one6_any w5).mono ?_
          rintro e w9 ⟨rfl, hk9⟩
          have HK9 := Lib.hid (HK5.out.trans hk9)
          clear hk9
          go_wp2_with fail
          go_ret
          exact ⟨rfl, HK9.out⟩
        · rw [if_neg hT] at hje
          obtain ⟨v4, rfl, hgb4⟩ := hje
          have hT1 : (T : Int) ≤ (tot : Int) := by omega
          have hT2 : T ≤ tot := by omega
          have HGB4 := Lib.hid hgb4
          obtain ⟨a4, c4, rfl⟩ := hgb4.form
          have HTT : Hid (((cutM xs M).flatten.take T).length = T) := by
            show ((cutM xs M).flatten.take T).length = T
            rw [List.length_take, HTOT.out]
            omega
          rw [HTT.out] at HGB4 ⊢
          clear hk hT hgb4
          go_wp2_with fail
          refine (cjoin_any _ _ M M n us1 (cutM xs M) w4 HM4.out (by have := HB.out; omega) (by have := HB.out; omega) HTL.out).mono ?_
          rintro e w5 ⟨hje, hk⟩
          unfold JoinEnd at hje
          rw [if_neg (by have := cut_flat_len (b := xs) HB.out.2.2.1; have := HXL.out; omega)] at hje
          obtain ⟨v5, rfl, hgb⟩ := hje
          have e5 := cut_back (b := xs) HB.out.2.2.1
          rw [HXL.out] at e5
          rw [e5] at hgb
          obtain ⟨a5, c5, rfl⟩ := hgb.form
          rw [HXL.out]
          have HK5 := Lib.hid (HK4.out.trans hk)
          obtain ⟨a5', n5', c5', e5', _, _, hrb5⟩ := hgb.bs
          cases e5'
          have hcv5 := conv_bytes (cap := c5) hrb5
          have hcv6 := conv_bytes (cap := cap) (HR.out.keep HK5.out (fun _ _ _ => id))
          have hself : ((bstr xs).toList == (bstr xs).toList) = true := by simp
          rw [HXL.out] at hcv5
          have HG5 : Hid (Gb w3.heap.size w5 (.slice a4 T c4) ((cutM xs M).flatten.take T)) := HGB4.out.keep hk (fun _ _ => id)
          clear hk hgb e5 hrb5
          obtain ⟨a4', n4', c4', e4', _, _, hrb4⟩ := HG5.out.bs
          cases e4'
          have hcv4 : (convert 33 9 (.slice a4 T c4)).run Try.prog w5.drew = .ok (.string (bstr ((cutM xs M).flatten.take T))) w5.drew := conv_bytes (cap := c4) (hrb4.drewN 1)
          have hT0 : (0 : Int) ≤ (T : Int) := by omega
          have hex : (bstr (cutM xs M).flatten).extract 0 T = bstr ((cutM xs M).flatten.take T) := bstr_take _ _
          clear hrb4
          go_wp2_with fail
          go_still_tail 11, (by kernel_rfl)
          change wpList _ _ _ _ _ w5.drew
          have HK6 : Hid (Keep (fun _ => False) w w5.drew) := HK5.out.drew
          clear hcv4 hcv5 hcv6
          go_wp2_with fail
          refine (one6_any w5.drew).mono ?_
          rintro e w9 ⟨rfl, hk9⟩
          have HK9 := Lib.hid (HK6.out.trans hk9)
          clear hk9
          go_wp2_with fail
          go_ret
          exact ⟨rfl, HK9.out⟩

theorem rsCuts_walk (W : World) (v0 : Value) (xs : List UInt8) (i0 : Bs (· < W.heap.size) W v0 xs) (many nn : Int) (_ : -9223372036854775808 ≤ many ∧ many ≤ 9223372036854775807) (hb : -9223372036854775808 ≤ nn ∧ nn ≤ 9223372036854775807) :
    Calls Try.prog 19 #[v0, .int .i64 many, .int .i64 nn] W fun e w' => e = .returned (.bool true) ∧ Below W.heap.size W w' := by
  obtain ⟨ao, n, cap, rfl, hc, _, hr⟩ := i0
  have key : Calls Try.prog 19 #[.slice ao n cap, .int .i64 many, .int .i64 nn] W fun e w' => e = .returned (.bool true) ∧ Keep (fun _ => False) W w' := by
    by_cases hn : n ≤ 3000
    · by_cases hm : 1 ≤ many ∧ many ≤ 255
      · obtain ⟨M, rfl⟩ : ∃ M : Nat, many = (M : Int) := ⟨many.toNat, by omega⟩
        exact rsCuts_yes ao n cap M xs nn W hr hn hc (by omega) (by omega) hb
      · exact rsCuts_no ao n cap many nn W hn hm
    · exact rsCuts_long ao n cap many nn W (by omega)
  exact key.mono fun _ _ ⟨he, hk⟩ => ⟨he, hk.below (Nat.le_refl _) (fun _ _ => id)⟩
end Go.Proofs.Ytegecjilpmkamaa
