/-
  The walk of the law RsLimits.
-/
import Derived.Test.YtegecjilpmkamaaRsa
namespace Go.Proofs.Ytegecjilpmkamaa
open Go.RowKit Sb

/-- Are shards of one length? -/
def evB (T : List (List UInt8)) : Bool := T.all (fun r => decide (r.length = mcols T))
/-- The last one's length, or -1. -/
def lastL (T : List (List UInt8)) : Int := match T.getLast? with
  | none => -1
  | some r => (r.length : Int)

theorem lastL_snoc (T : List (List UInt8)) (r : List UInt8) : lastL (T ++ [r]) = (r.length : Int) := by
  rw [lastL, List.getLast?_append]
  rfl

theorem evB_snoc (T : List (List UInt8)) (r : List UInt8) : evB (T ++ [r]) = (evB T && (decide (lastL T < 0) || decide ((r.length : Int) = lastL T))) := by
  rcases List.eq_nil_or_concat T with rfl | ⟨S, x, rfl⟩
  · simp [evB, mcols, lastL]
  · rw [List.concat_eq_append, lastL_snoc]
    have hm : mcols (S ++ [x] ++ [r]) = mcols (S ++ [x]) := by
      cases S <;> simp [mcols]
    have h0 : decide ((x.length : Int) < 0) = false := decide_eq_false (by omega)
    rw [evB, hm, List.all_append, h0, Bool.false_or]
    show (evB (S ++ [x]) && _) = _
    cases he : evB (S ++ [x]) with
    | false => rw [Bool.false_and, Bool.false_and]
    | true =>
      rw [Bool.true_and, Bool.true_and, List.all_cons, List.all_nil, Bool.and_true]
      have hx : x.length = mcols (S ++ [x]) := by
        rw [evB, List.all_eq_true] at he
        exact of_decide_eq_true (he x (by simp))
      rw [Bool.eq_iff_iff, decide_eq_true_eq, decide_eq_true_eq]
      omega

theorem thereL_step {us : List Value} {l : List (List UInt8)} {j : Nat} {u : Value} {r : List UInt8} (hu : us[j]? = some u) (hr : l[j]? = some r) : thereL (us.take (j + 1)) (l.take (j + 1)) = thereL (us.take j) (l.take j) ++ (if isnil u then [] else [r]) := by
  rw [List.take_add_one, hu, List.take_add_one, hr, thereL, thereL]
  have h1 : j < us.length := (List.getElem?_eq_some_iff.1 hu).1
  have h2 : j < l.length := (List.getElem?_eq_some_iff.1 hr).1
  rw [List.zip_append (by rw [List.length_take, List.length_take]; omega), List.filter_append, List.map_append]
  congr 1
  cases hn : isnil u <;> simp [hn]

theorem even_there (us : List Value) (l : List (List UInt8)) : evenB (there_ us) (thereL us l) = evB (thereL us l) := by
  rw [evenB, evB]
  have h : (there_ us).all (fun u => !isnil u) = true := by
    rw [List.all_eq_true]
    intro u hu
    exact (List.mem_filter.1 hu).2
  rw [h, Bool.true_and]

theorem thereL_rows {us : List Value} {l : List (List UInt8)} : ∀ r ∈ thereL us l, r ∈ l := by
  intro r hr
  rw [thereL] at hr
  obtain ⟨p, hp, rfl⟩ := List.mem_map.1 hr
  exact (List.of_mem_zip (List.mem_filter.1 hp).1).2

theorem thereL_cols {us : List Value} {l : List (List UInt8)} {K : Nat} (h : ∀ r ∈ l, r.length ≤ K) : mcols (thereL us l) ≤ K := by
  cases ht : thereL us l with
  | nil => exact Nat.zero_le _
  | cons r T =>
    have : r ∈ l := thereL_rows r (by rw [ht]; exact List.mem_cons_self)
    exact h r this

set_option maxRecDepth 100000 in
set_option maxHeartbeats 8000000 in
theorem rsLimits_any (k m : Int) (hkk : -9223372036854775808 ≤ k ∧ k ≤ 9223372036854775807) (hmm : -9223372036854775808 ≤ m ∧ m ≤ 9223372036854775807) (a2 : Option Addr) (n c2 : Nat) (us : List Value) (l : List (List UInt8)) (w : World) (h2 : Mv (· < w.heap.size) w a2 n us l) :
    Calls Try.prog 16 #[.int .i64 k, .int .i64 m, .slice a2 n c2] w fun e w' => e = .returned (.bool true) ∧ Keep (fun _ => False) w w' := by
  have H2 := Lib.hid h2
  have HRL := Lib.hid h2.rows_le
  have HKK := Lib.hid hkk
  have HMM := Lib.hid hmm
  have hnt := hnot
  by_cases hn : n ≤ 300
  · have t1 : (n : Int) ≤ 300 := by omega
    have HN := Lib.hid hn
    clear h2 hn hkk hmm
    go_enter Try.func16, Try.ntmps16
    go_wp2_with fail
    go_loop [7] (fun i => ∃ j : Nat, j ≤ n ∧ i = .int .i64 (j : Int) ∧ Hid (∀ r ∈ l.take j, r.length ≤ 100)) (fun i => n - (intOf i).toNat)
    case atStart => exact ⟨0, Nat.zero_le _, rfl, fun r hr => by simp at hr⟩
    case round =>
      obtain ⟨j, hj, rfl, HI⟩ := hrel
      by_cases hlt : j < n
      · have j0 : (0 : Int) ≤ (j : Int) := by omega
        have jn : (j : Int) < (n : Int) := by omega
        have HLT := Lib.hid hlt
        obtain ⟨b, o, ao', n', cap', r, rfl, _, hu, hr, hcr, _, _, hrb⟩ := H2.out.at_ hlt
        have HR : Hid (l[j]? = some r ∧ r.length = n') := ⟨hr, hrb.len⟩
        have hn' : n' ≤ 9223372036854775807 := by
          have := HRL.out r (List.mem_of_getElem? hr)
          rw [hrb.len] at this
          exact this
        clear hu hr hrb
        by_cases hle : n' ≤ 100
        · have h3 : (n' : Int) ≤ 100 := by omega
          have HLE := Lib.hid hle
          clear hle
          go_wp2_with fail
          go_round
          case rel =>
            refine ⟨j + 1, by have := HLT.out; omega, by go_num, fun r' hr' => ?_⟩
            rw [List.take_add_one, HR.out.1, List.mem_append] at hr'
            rcases hr' with hr' | hr'
            · exact HI.out r' hr'
            · simp at hr'
              rw [hr', HR.out.2]
              exact HLE.out
          case measure => have := HLT.out; simp [intOf]; omega
        · have h3 : (100 : Int) < (n' : Int) := by omega
          clear hle
          go_wp2_with fail
          go_ret
          exact ⟨rfl, Keep.refl _ _⟩
      · have hkn : (n : Int) ≤ (j : Int) := by omega
        have HR100 : Hid (∀ r ∈ l, r.length ≤ 100) := by
          have h9 := HI.out
          rw [List.take_of_length_le (by rw [H2.out.len]; omega)] at h9
          exact h9
        clear hlt hj HI
        by_cases hmay : 1 ≤ k ∧ 0 ≤ m ∧ k ≤ 255 ∧ k + m ≤ 255
        · obtain ⟨K, rfl⟩ : ∃ K : Nat, k = (K : Int) := ⟨k.toNat, by omega⟩
          obtain ⟨M, rfl⟩ : ∃ M : Nat, m = (M : Int) := ⟨m.toNat, by omega⟩
          have p1 : (1 : Int) ≤ (K : Int) := by omega
          have p2 : (K : Int) ≤ 255 := by omega
          have p3 : (0 : Int) ≤ (M : Int) := by omega
          have p4 : (M : Int) ≤ 255 := by omega
          have p5 : (K : Int) + (M : Int) ≤ 255 := by omega
          have pw : IntKind.i64.wrap ((K : Int) + (M : Int)) = (K : Int) + (M : Int) := IntWalk.i64_in _ (by omega)
          have HKM : Hid (1 ≤ K ∧ K + M ≤ 255) := by show 1 ≤ K ∧ K + M ≤ 255; omega
          clear hmay
          go_wp2_with fail
          refine (rsnew_yes K M w HKM.out.1 HKM.out.2).mono ?_
          rintro e w1 ⟨cb, fb, ao, cap, us0, rfl, hcd, hk⟩
          have HC1 := Lib.hid hcd
          have HK1 := Lib.hid hk
          have H3 := Lib.hid (H2.out.keep hk (fun _ _ _ => id))
          clear hcd hk hkn
          go_wp2_with fail
          have hnl := fun w a n c => Lib.run_eql_slice_nil (P := Try.prog) w 33 5 a n c 0 0 Try.underlying33
          go_loop [11, 12, 13, 14] (fun h e g i => ∃ (j H : Nat) (E : Bool) (G : Int), j ≤ n ∧ i = .int .i64 (j : Int) ∧ h = .int .i64 (H : Int) ∧ e = .bool E ∧ g = .int .i64 G ∧ Hid (H = (there_ (us.take j)).length ∧ E = evB (thereL (us.take j) (l.take j)) ∧ G = lastL (thereL (us.take j) (l.take j)) ∧ H ≤ j)) (fun _ _ _ i => n - (intOf i).toNat)
          case atStart => exact ⟨0, 0, true, -1, Nat.zero_le _, rfl, rfl, rfl, rfl, rfl, rfl, rfl, Nat.le_refl _⟩
          case round =>
            obtain ⟨j, H, E, G, hj, rfl, rfl, rfl, rfl, HI⟩ := hrel
            by_cases hlt : j < n
            · have j0 : (0 : Int) ≤ (j : Int) := by omega
              have jn : (j : Int) < (n : Int) := by omega
              have hH : (H : Int) ≤ 300 := by have := HI.out.2.2.2; have := HN.out; omega
              have HLT := Lib.hid hlt
              obtain ⟨b, o, ao', n', cap', r, rfl, _, hu, hr, hcr, _, _, hrb⟩ := H3.out.at_ hlt
              have HS1 := Lib.hid (there_step hu)
              have HS2 := Lib.hid (thereL_step hu hr)
              have HRN : Hid (r.length = n') := hrb.len
              have hn' : n' ≤ 9223372036854775807 := by
                have := HRL.out r (List.mem_of_getElem? hr)
                rw [hrb.len] at this
                exact this
              clear hu hr hrb hlt
              cases ao' with
              | none =>
                go_wp2_with fail
                go_round
                case rel =>
                  have s1 := HS1.out
                  have s2 := HS2.out
                  rw [show isnil (.slice none n' cap') = true from rfl, if_pos rfl, List.append_nil] at s1 s2
                  exact ⟨j + 1, H, E, G, by have := HLT.out; omega, by go_num, rfl, rfl, rfl, by rw [s1]; exact HI.out.1, by rw [s2]; exact HI.out.2.1, by rw [s2]; exact HI.out.2.2.1, by have := HI.out.2.2.2; omega⟩
                case measure => have := HLT.out; simp [intOf]; omega
              | some a' =>
                have HS3 : Hid ((there_ (us.take (j + 1))).length = H + 1 ∧ evB (thereL (us.take (j + 1)) (l.take (j + 1))) = (E && (decide (G < 0) || decide ((n' : Int) = G))) ∧ lastL (thereL (us.take (j + 1)) (l.take (j + 1))) = (n' : Int)) := by
                  have s1 := HS1.out
                  have s2 := HS2.out
                  rw [show isnil (.slice (some a') n' cap') = false from rfl, if_neg (by decide)] at s1 s2
                  show _ ∧ _ ∧ _
                  rw [s1, s2, List.length_append, evB_snoc, lastL_snoc, ← HI.out.1, ← HI.out.2.1, ← HI.out.2.2.1, HRN.out]
                  exact ⟨rfl, rfl, rfl⟩
                have h4 : E = false ∨ (E = true ∧ G < 0) ∨ (E = true ∧ 0 ≤ G ∧ (n' : Int) = G) ∨ (E = true ∧ 0 ≤ G ∧ (n' : Int) ≠ G) := by
                  cases E
                  · exact .inl rfl
                  · by_cases hg : G < 0
                    · exact .inr (.inl ⟨rfl, hg⟩)
                    · by_cases hq : (n' : Int) = G
                      · exact .inr (.inr (.inl ⟨rfl, by omega, hq⟩))
                      · exact .inr (.inr (.inr ⟨rfl, by omega, hq⟩))
                rcases h4 with rfl | ⟨rfl, hg⟩ | ⟨rfl, hg, hq⟩ | ⟨rfl, hg, hq⟩
                · skip
                  go_wp2_with fail
                  go_round
                  case rel => exact ⟨j + 1, H + 1, false, (n' : Int), by have := HLT.out; omega, by go_num, by go_num, rfl, rfl, HS3.out.1.symm, by rw [HS3.out.2.1]; rfl, HS3.out.2.2.symm, by have := HI.out.2.2.2; omega⟩
                  case measure => have := HLT.out; simp [intOf]; omega
                · have HG := Lib.hid hg
                  go_wp2_with fail
                  go_round
                  case rel => exact ⟨j + 1, H + 1, true, (n' : Int), by have := HLT.out; omega, by go_num, by go_num, rfl, rfl, HS3.out.1.symm, by rw [HS3.out.2.1]; rw [decide_eq_true HG.out]; rfl, HS3.out.2.2.symm, by have := HI.out.2.2.2; omega⟩
                  case measure => have := HLT.out; simp [intOf]; omega
                · have HG := Lib.hid hg
                  have HQ := Lib.hid hq
                  have hq' : ((n' : Int) == G) = true := by rw [beq_iff_eq]; exact hq
                  clear hq
                  go_wp2_with fail
                  go_round
                  case rel => exact ⟨j + 1, H + 1, true, (n' : Int), by have := HLT.out; omega, by go_num, by go_num, rfl, rfl, HS3.out.1.symm, by rw [HS3.out.2.1]; rw [decide_eq_true HQ.out, Bool.or_true]; rfl, HS3.out.2.2.symm, by have := HI.out.2.2.2; omega⟩
                  case measure => have := HLT.out; simp [intOf]; omega
                · have HG := Lib.hid hg
                  have HQ := Lib.hid hq
                  have hq' : ((n' : Int) == G) = false := by rw [beq_eq_false_iff_ne]; exact hq
                  clear hq
                  go_wp2_with fail
                  go_round
                  case rel => exact ⟨j + 1, H + 1, false, (n' : Int), by have := HLT.out; omega, by go_num, by go_num, by rw [decide_eq_false (show ¬ G < 0 by have := HG.out; omega)], rfl, HS3.out.1.symm, by rw [HS3.out.2.1]; rw [decide_eq_false HQ.out, decide_eq_false (by have := HG.out; omega)]; rfl, HS3.out.2.2.symm, by have := HI.out.2.2.2; omega⟩
                  case measure => have := HLT.out; simp [intOf]; omega
            · have hkn : (n : Int) ≤ (j : Int) := by omega
              have HE : Hid (H = (there_ us).length ∧ E = evenB (there_ us) (thereL us l)) := by
                have h9 := HI.out
                rw [List.take_of_length_le (by rw [H2.out.lenu]; omega), List.take_of_length_le (by rw [H2.out.len]; omega), ← even_there] at h9
                exact ⟨h9.1, h9.2.1⟩
              have HFB : Hid (w.heap.size ≤ fb) := HC1.out.oldf
              clear hlt hj HI
              by_cases hnk : n = K + M
              · have hq1 : ((n : Int) != (K : Int) + (M : Int)) = false := by rw [bne_eq_false_iff_eq]; omega
                have HNK := Lib.hid hnk
                clear hnk
                cases E with
                | false =>
                  go_wp2_with fail
                  refine (decode_odd (· < w.heap.size) a2 n c2 us l w1 HC1.out H3.out (by have := HN.out; omega) HNK.out HE.out.2.symm).mono ?_
                  rintro e w2 ⟨rfl, hk⟩
                  have HK2 := Lib.hid (HK1.out.trans hk)
                  clear hk
                  go_wp2_with fail
                  refine (one6_any w2).mono ?_
                  rintro e w9 ⟨rfl, hk9⟩
                  have HK9 := Lib.hid (HK2.out.trans hk9)
                  clear hk9
                  go_wp2_with fail
                  go_ret
                  exact ⟨rfl, HK9.out⟩
                | true =>
                  by_cases hfew : H < K
                  · have hf1 : (H : Int) < (K : Int) := by omega
                    have HFEW := Lib.hid hfew
                    clear hfew
                    go_wp2_with fail
                    refine (decode_few (· < w.heap.size) a2 n c2 us l w1 HC1.out H3.out (by have := HN.out; omega) HNK.out HE.out.2.symm (by have := HFEW.out; have := HE.out.1; omega)).mono ?_
                    rintro e w2 ⟨rfl, hk⟩
                    have HK2 := Lib.hid (HK1.out.trans hk)
                    clear hk
                    go_wp2_with fail
                    refine (one6_any w2).mono ?_
                    rintro e w9 ⟨rfl, hk9⟩
                    have HK9 := Lib.hid (HK2.out.trans hk9)
                    clear hk9
                    go_wp2_with fail
                    go_ret
                    exact ⟨rfl, HK9.out⟩
                  · have hf1 : (K : Int) ≤ (H : Int) := by omega
                    have HFEW := Lib.hid hfew
                    clear hfew
                    go_wp2_with fail
                    refine (decode_yes (· < w.heap.size) a2 n c2 us l w1 HC1.out H3.out (by have := HN.out; omega) HNK.out HE.out.2.symm (by have := HFEW.out; have := HE.out.1; omega) (Nat.le_trans (thereL_cols HR100.out) (by omega)) (fun x hx e => by have := HFB.out; have hx' : x < w.heap.size := hx; omega)).mono ?_
                    rintro e w2 ⟨hq2, v2, D, rfl, hgr, hD⟩
                    have hDl : D.length = K := by
                      have hp : (pk us K n).length = K := by
                        rw [pk_len us K n (by rw [H2.out.lenu]; omega), List.take_of_length_le (by rw [H2.out.lenu]; omega)]
                        have := HFEW.out
                        have := HE.out.1
                        omega
                      rcases hD with ⟨_, rfl⟩ | ⟨X, _, rfl⟩
                      · rw [List.length_map, hp]
                      · simp [mulM, mk_len]
                    have HK2 : Hid (Keep (fun _ => False) w w2) := HK1.out.trans' hq2.keep (fun i hi e => by have := HFB.out; have e' : i = fb := e; omega)
                    obtain ⟨ao3, cap3, hv, _, _⟩ := hgr.len
                    rw [hDl] at hv
                    subst hv
                    clear hq2 hgr hD hDl
                    go_wp2_with fail
                    refine (one6_any w2).mono ?_
                    rintro e w9 ⟨rfl, hk9⟩
                    have HK9 := Lib.hid (HK2.out.trans hk9)
                    clear hk9
                    go_wp2_with fail
                    go_ret
                    exact ⟨rfl, HK9.out⟩
              · have hq1 : ((n : Int) != (K : Int) + (M : Int)) = true := by rw [bne_iff_ne]; omega
                have HNK := Lib.hid hnk
                clear hnk
                go_wp2_with fail
                refine (decode_len (· < w.heap.size) a2 n c2 us l w1 HC1.out H3.out (by have := HN.out; omega) HNK.out).mono ?_
                rintro e w2 ⟨rfl, hk⟩
                have HK2 := Lib.hid (HK1.out.trans hk)
                clear hk
                go_wp2_with fail
                refine (one6_any w2).mono ?_
                rintro e w9 ⟨rfl, hk9⟩
                have HK9 := Lib.hid (HK2.out.trans hk9)
                clear hk9
                go_wp2_with fail
                go_ret
                exact ⟨rfl, HK9.out⟩
        · have HNO := Lib.hid hmay
          have h5 : k < 1 ∨ (1 ≤ k ∧ 255 < k) ∨ (1 ≤ k ∧ k ≤ 255 ∧ m < 0) ∨ (1 ≤ k ∧ k ≤ 255 ∧ 0 ≤ m ∧ 255 < m) ∨ (1 ≤ k ∧ k ≤ 255 ∧ 0 ≤ m ∧ m ≤ 255 ∧ 255 < k + m) := by omega
          clear hmay
          rcases h5 with q1 | ⟨q1, q2⟩ | ⟨q1, q2, q3⟩ | ⟨q1, q2, q3, q4⟩ | ⟨q1, q2, q3, q4, q5⟩
          · skip
            go_wp2_with fail
            refine (rsnew_no k m HKK.out HMM.out w HNO.out).mono ?_
            rintro e w1 ⟨rfl, rfl⟩
            go_wp2_with fail
            refine (one6_any w).mono ?_
            rintro e w9 ⟨rfl, hk9⟩
            have HK9 := Lib.hid ((Keep.refl (fun _ => False) w).trans hk9)
            clear hk9
            go_wp2_with fail
            go_ret
            exact ⟨rfl, HK9.out⟩
          · skip
            go_wp2_with fail
            refine (rsnew_no k m HKK.out HMM.out w HNO.out).mono ?_
            rintro e w1 ⟨rfl, rfl⟩
            go_wp2_with fail
            refine (one6_any w).mono ?_
            rintro e w9 ⟨rfl, hk9⟩
            have HK9 := Lib.hid ((Keep.refl (fun _ => False) w).trans hk9)
            clear hk9
            go_wp2_with fail
            go_ret
            exact ⟨rfl, HK9.out⟩
          · skip
            go_wp2_with fail
            refine (rsnew_no k m HKK.out HMM.out w HNO.out).mono ?_
            rintro e w1 ⟨rfl, rfl⟩
            go_wp2_with fail
            refine (one6_any w).mono ?_
            rintro e w9 ⟨rfl, hk9⟩
            have HK9 := Lib.hid ((Keep.refl (fun _ => False) w).trans hk9)
            clear hk9
            go_wp2_with fail
            go_ret
            exact ⟨rfl, HK9.out⟩
          · skip
            go_wp2_with fail
            refine (rsnew_no k m HKK.out HMM.out w HNO.out).mono ?_
            rintro e w1 ⟨rfl, rfl⟩
            go_wp2_with fail
            refine (one6_any w).mono ?_
            rintro e w9 ⟨rfl, hk9⟩
            have HK9 := Lib.hid ((Keep.refl (fun _ => False) w).trans hk9)
            clear hk9
            go_wp2_with fail
            go_ret
            exact ⟨rfl, HK9.out⟩
          · skip
            have pw : IntKind.i64.wrap (k + m) = k + m := IntWalk.i64_in _ (by omega)
            have hd5 : decide (k + m ≤ 255) = false := decide_eq_false (by omega)
            go_wp2_with fail
            refine (rsnew_no k m HKK.out HMM.out w HNO.out).mono ?_
            rintro e w1 ⟨rfl, rfl⟩
            go_wp2_with fail
            refine (one6_any w).mono ?_
            rintro e w9 ⟨rfl, hk9⟩
            have HK9 := Lib.hid ((Keep.refl (fun _ => False) w).trans hk9)
            clear hk9
            go_wp2_with fail
            go_ret
            exact ⟨rfl, HK9.out⟩
  · have t1 : (300 : Int) < (n : Int) := by omega
    clear h2 hn hkk hmm
    go_enter Try.func16, Try.ntmps16
    go_wp2_with fail
    go_ret
    exact ⟨rfl, Keep.refl _ _⟩

theorem rsLimits_walk (W : World) (k m : Int) (v0 : Value) (a : List (List UInt8)) (i0 : Ms (· < W.heap.size) W v0 a) (hk : -9223372036854775808 ≤ k ∧ k ≤ 9223372036854775807) (hm : -9223372036854775808 ≤ m ∧ m ≤ 9223372036854775807) :
    Calls Try.prog 16 #[.int .i64 k, .int .i64 m, v0] W fun e w' => e = .returned (.bool true) ∧ Below W.heap.size W w' := by
  obtain ⟨a1, n1, c1, us, rfl, _, _, h1⟩ := i0
  exact (rsLimits_any k m hk hm a1 n1 c1 us a W h1).mono fun _ _ ⟨he, hk⟩ => ⟨he, hk.below (Nat.le_refl _) (fun _ _ => id)⟩
end Go.Proofs.Ytegecjilpmkamaa
