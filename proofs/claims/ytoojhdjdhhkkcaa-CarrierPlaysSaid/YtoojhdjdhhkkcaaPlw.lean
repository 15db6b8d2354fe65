/-
  The walk of the law CarrierPlays: for every input it answers true.
-/
import Derived.Test.YtoojhdjdhhkkcaaPlq
import Derived.Deep.CutBlock
import Derived.Deep.RegionHeld3
namespace Go.Proofs.Ytoojhdjdhhkkcaa
open Go.RowKit

set_option maxRecDepth 100000 in
set_option maxHeartbeats 80000000 in
theorem plays_yes (R0 : Nat) (ao : Option Addr) (n cap : Nat) (A : List Act_) (w : World) (hR : R0 ≤ 9223372036854775807) (hA : Acts (· < w.heap.size) w ao n A) (hn : n ≤ cap) (hc : cap ≤ maxLen) :
    Calls Try.prog 3 #[.int .i64 (R0 : Int), .slice ao n cap] w fun e w' => e = .returned (.bool true) ∧ Keep (fun _ => False) w w' := by
  have HA := Lib.hid hA
  have r0 : (0 : Int) ≤ (R0 : Int) := by omega
  have r1 : (R0 : Int) ≤ 9223372036854775807 := by omega
  have n1 : (n : Int) ≤ 9223372036854775807 := by unfold maxLen at hc; omega
  have HR := Lib.hid hR
  have hnt := hnot
  clear hA hn hc hR
  go_enter Try.func3, Try.ntmps3
  go_wp2_with fail
  refine (new_yes w.heap.size R0 w HR.out (Nat.le_refl _)).mono ?_
  rintro e w1 ⟨rfl, hbg, hk⟩
  have HB1 := Lib.hid hbg
  have HK1 := Lib.hid hk
  clear hbg hk
  go_wp2_with fail
  go_loopw [0, 7, 8] (fun r v i wr => ∃ (j R : Nat) (u : Value) (xs : List ByteArray), j ≤ n ∧ j ≤ 60 ∧ i = .int .i64 (j : Int) ∧ r = .int .i64 (R : Int) ∧ Hid (Pl w w.heap.size R0 j wr R u v xs)) (fun _ _ i _ => 60 - (intOf i).toNat)
  case atStart => exact ⟨0, R0, _, [], Nat.zero_le _, Nat.zero_le _, rfl, rfl, HB1.out, Os.nil _ _, (fun b h => by cases h), HK1.out, by simp, (fun s h => by cases h), by simp [tot], Nat.le_refl _⟩
  case round =>
    obtain ⟨j, R, u, xs, hj1, hj2, rfl, rfl, HI⟩ := hrel
    obtain ⟨wo, rfl⟩ : ∃ wo : World, wo = wr := ⟨_, rfl⟩
    obtain ⟨v, rfl⟩ : ∃ s : Value, s = u7 := ⟨_, rfl⟩
    by_cases hlt : j < n ∧ j < 60
    · have j0 : (0 : Int) ≤ (j : Int) := by omega
      have jn : (j : Int) < (n : Int) := by omega
      have j60 : (j : Int) < 60 := by omega
      have HLT := Lib.hid hlt
      have hjl : j < A.length := by have := HA.out.1; omega
      obtain ⟨b, o, rfl, hbl, h0, h1, h2, h3, h4, h5, h6, h7, h8, h9⟩ := (HA.out.keep HI.out.keep (fun _ _ _ => id)).2 j _ (List.getElem?_eq_getElem hjl)
      generalize A[j] = c at *
      obtain ⟨ck, ci, cat, cf, cbo, cbn, cbc, cby⟩ := c
      dsimp only at h0 h1 h2 h3 h4 h5 h6 h7 h8 h9
      have HN := Lib.hid h7
      clear h7 hjl hlt hj1 hj2
      by_cases hbig : 100 < cf.size ∨ 100 < cbn
      · have hb2 : (100 : Int) < (cf.size : Int) ∨ ((cf.size : Int) ≤ 100 ∧ (100 : Int) < (cbn : Int)) := by omega
        clear hbig
        rcases hb2 with hb2 | ⟨hb2, hb3⟩
        all_goals
          go_wp2_with fail
          go_ret
          exact ⟨rfl, HI.out.keep.alloc _⟩
      · have hb2 : (cf.size : Int) ≤ 100 := by omega
        have hb3 : (cbn : Int) ≤ 100 := by omega
        have HBIG : Hid (cf.size ≤ 100 ∧ cbn ≤ 100) := by show _ ∧ _; omega
        clear hbig
        obtain ⟨fa, fc, hfv, hfc, hfm, hfr⟩ := HI.out.own.form
        obtain ⟨m, hm⟩ : ∃ m, xs.length = m := ⟨_, rfl⟩
        have HM := Lib.hid hm
        have HFR := Lib.hid hfr
        rw [hm] at hfv
        subst hfv
        have hm120 : (m : Int) ≤ 120 := by have := HI.out.few; have := HLT.out; omega
        have HW1 : Hid (Keep (fun _ => False) wo (wo.alloc (.cells #[.int .i64 ck, .int .i64 ci, .int .i64 cat, .string cf, .slice cbo cbn cbc] 31))) := (Keep.refl _ _).alloc _
        have hab := Blk.new wo 31 #[.int .i64 ck, .int .i64 ci, .int .i64 cat, .string cf, .slice cbo cbn cbc]
        have HAB : Hid (Blk (wo.alloc (.cells #[.int .i64 ck, .int .i64 ci, .int .i64 cat, .string cf, .slice cbo cbn cbc] 31)) wo.heap.size 31 #[.int .i64 ck, .int .i64 ci, .int .i64 cat, .string cf, .slice cbo cbn cbc]) := hab
        clear hab hfc hfm hfr hm
        go_upto_region 11 with fail
        clear h0 h1 h2 h3 h4
        go_cut [10] (fun s10 wx => ∃ B : Bool, s10 = .bool B ∧ Hid (B = decide (0 ≤ ci ∧ ci < (m : Int))) ∧ wo.alloc (.cells #[.int .i64 ck, .int .i64 ci, .int .i64 cat, .string cf, .slice cbo cbn cbc] 31) = wx)
        case first =>
          as_aux_lemma =>
            by_cases hi0 : 0 ≤ ci
            · by_cases hi1 : ci < (m : Int)
              · go_wp2_with fail
                go_meet
                exact ⟨true, rfl, by show true = _; rw [decide_eq_true ⟨hi0, hi1⟩], rfl⟩
              · have hi2 : (m : Int) ≤ ci := by omega
                go_wp2_with fail
                go_meet
                exact ⟨false, rfl, by show false = _; rw [decide_eq_false (by omega)], rfl⟩
            · have hi2 : ci < 0 := by omega
              go_wp2_with fail
              go_meet
              exact ⟨false, rfl, by show false = _; rw [decide_eq_false (by omega)], rfl⟩
        case rest =>
          obtain ⟨B, rfl, HBB, hw⟩ := hcut
          have HPL : Hid (Pl w w.heap.size R0 j wc R u (.slice fa m fc) xs) := by
            rw [← hw]
            exact ⟨HI.out.bag.k HW1.out, HI.out.own.keep HW1.out (fun _ _ => id), HI.out.apart, HI.out.keep.trans HW1.out, HI.out.few, HI.out.small, HI.out.sum, HI.out.base⟩
          rw [hw] at HAB HW1
          have HN2 := Lib.hid (HN.out.keep HW1.out (fun _ _ _ => id))
          generalize hag : wo.heap.size = ag at *
          have HAG : Hid (w.heap.size ≤ ag ∧ ag < wc.heap.size) := ⟨by rw [← hag]; exact HI.out.keep.size, HAB.out.lt⟩
          clear hw hag HW1 HI HN
          have HLB : Hid (B = decide (0 ≤ ci ∧ ci < (m : Int))) := HBB.out
          have q0 := HAB.out.cell 0
          have q1 := HAB.out.cell 1
          have q2 := HAB.out.cell 2
          have q3 := HAB.out.cell 3
          have q4 := HAB.out.cell 4
          go_upto_block 2 with fail
          go_cut [0, 7] (fun r f wx => ∃ (R' : Nat) (u' : Value) (xs' : List ByteArray), r = .int .i64 (R' : Int) ∧ Hid (Pl w w.heap.size R0 (j + 1) wx R' u' f xs'))
          case first =>
            have hbn := HPL.out.bag.room
            have rr0 : (0 : Int) ≤ (R : Int) := by omega
            have rr1 : (R : Int) ≤ 9223372036854775807 := by omega
            clear hbn
            have hk : ck = 0 ∨ ck = 1 ∨ ck = 2 ∨ ck = 3 ∨ ck = 4 ∨ ((ck == 0) = false ∧ (ck == 1) = false ∧ (ck == 2) = false ∧ (ck == 3) = false ∧ (ck == 4) = false) := by
              simp only [beq_eq_false_iff_ne]
              omega
            rcases hk with rfl | rfl | rfl | rfl | rfl | ⟨e0, e1, e2, e3, e4⟩
            · as_aux_lemma =>
              have HR2 : Hid (Rs (fun b => b = wc.heap.size) (wc.alloc (.cells #[.string cf, .string cf] 9)) (some ⟨wc.heap.size, 0, none⟩) 2 [cf, cf]) := rs_blk [cf, cf]
              have HP2 := Lib.hid (HPL.out.k ((Keep.refl (fun _ => False) wc).alloc (.cells #[.string cf, .string cf] 9)))
              have HA2 := Lib.hid (HAB.out.alloc (.cells #[.string cf, .string cf] 9))
              have HLX : Hid (xs.length ≤ 120) := by have := HPL.out.few; have := HLT.out; show xs.length ≤ 120; omega
              have HBL : Hid (w.heap.size < wc.heap.size) := HPL.out.bag.blk.lt
              go_wp2_with fail
              refine (pack_yes (fun b => b = wc.heap.size) _ 2 2 [cf, cf] _ HP2.out.bag HR2.out (by omega) (by have := HLX.out; omega) HP2.out.keep.size (fun b _ hb hs => by
                rcases hs with hs | hs
                · have := HBL.out; omega
                · have := (HPL.out.bag.own.lt hs).2; omega)).mono ?_
              rintro e w3 ⟨u3, rfl, hbg, ht⟩
              obtain ⟨ho3, hk3, hap3, hbl3⟩ := HP2.out.tn ht
              have HFL : Hid (∀ q, q < (fitL R [cf, cf]).length → q < 2 ∧ (fitL R [cf, cf])[q]? = some cf ∧ cf.size ≤ R - tot ((fitL R [cf, cf]).take q)) := fun q hq => fit2_lt hq
              have HFE := Lib.hid (fit2_end R cf)
              have HFM : Hid (∀ s ∈ fitL R [cf, cf], s = cf) := fit2_mem
              have HFT := Lib.hid (fitL_tot [cf, cf] R)
              generalize fitL R [cf, cf] = L at *
              obtain ⟨ln, hln⟩ : ∃ ln, L.length = ln := ⟨_, rfl⟩
              have HLN := Lib.hid hln
              rw [hln] at HFL HFE ⊢
              have HB3 := Lib.hid hbg
              have HO3 := Lib.hid ho3
              have HK3 := Lib.hid hk3
              have HAP := Lib.hid hap3
              have HA3 := Lib.hid (hbl3 _ _ HA2.out)
              have ln2 : (ln : Int) ≤ 2 := by have := HFE.out; omega
              clear hbg ht ho3 hk3 hap3 hbl3 hln q0 q1 q2 q3 q4
              go_wp2_with fail
              go_loopw [0, 7, 12] (fun r f q wr => ∃ (k R1 : Nat), k ≤ ln ∧ q = .int .i64 (k : Int) ∧ r = .int .i64 (R1 : Int) ∧ R1 ≤ R ∧
                  Hid (R1 = R - tot (L.take k) ∧ Os w.heap.size wr f (xs ++ L.take k) ∧ Bg w.heap.size wr w.heap.size (R - tot L) u3 (xs ++ L) ∧ (∀ b, u3.ownBlock = some b → f.ownBlock ≠ some b) ∧ Keep (fun _ => False) w wr ∧ Blk wr ag 31 #[.int .i64 0, .int .i64 ci, .int .i64 cat, .string cf, .slice cbo cbn cbc])) (fun _ _ q _ => 2 - (intOf q).toNat)
              case atStart => exact ⟨0, R, Nat.zero_le _, rfl, rfl, Nat.le_refl _, rfl, by rw [List.take_zero, List.append_nil]; exact HO3.out, HB3.out, HAP.out, HK3.out, HA3.out⟩
              case round =>
                obtain ⟨k, R1, hk, rfl, rfl, hR1, HJ⟩ := hrel
                obtain ⟨wo2, rfl⟩ : ∃ wo2 : World, wo2 = wr := ⟨_, rfl⟩
                obtain ⟨f, rfl⟩ : ∃ f : Value, f = u7 := ⟨_, rfl⟩
                have hq3 := HJ.out.2.2.2.2.2.cell 3
                by_cases hkl : k < ln
                · obtain ⟨g1, g2, g3⟩ := HFL.out k hkl
                  have k2 : (k : Int) < 2 := by omega
                  have kk0 : (0 : Int) ≤ (k : Int) := by omega
                  have hfit : (cf.size : Int) ≤ (R1 : Int) := by have := HJ.out.1; omega
                  have hr1 : (R1 : Int) ≤ 9223372036854775807 := by omega
                  obtain ⟨R2, hR2⟩ : ∃ R2, R1 - cf.size = R2 := ⟨_, rfl⟩
                  have hsub : (R1 : Int) - (cf.size : Int) = (R2 : Int) := by omega
                  have HE : Hid (L.take (k + 1) = L.take k ++ [cf]) := by
                    show L.take (k + 1) = _
                    rw [List.take_add_one, g2, Option.toList_some]
                  have HR2' : Hid (R2 = R - tot (L.take (k + 1))) := by
                    show R2 = _
                    rw [HE.out, tot_append, tot_one]
                    have := HJ.out.1
                    omega
                  have HKL := Lib.hid hkl
                  have hR2R : R2 ≤ R := by omega
                  have HTK : Hid ((L.take k).length ≤ 2) := by show (L.take k).length ≤ 2; rw [List.length_take]; omega
                  clear g1 g2 g3 hR2 hkl hk
                  go_wp2_with (first
                    | (at_builtin; refine wpl_apps1 wo2 rfl (.tmp 110) (.tmp 113) rfl w.heap.size f (xs ++ L.take k) cf wo2.heap.size rfl rfl rfl HJ.out.2.1 (by have := HLX.out; have := HTK.out; rw [List.length_append]; omega) HJ.out.2.2.2.2.1.size ?_; intro f2 w5 hos hkp hown; have hb5 := HJ.out.2.2.2.2.2.keep hkp (HJ.out.2.1.ne_ HJ.out.2.2.2.2.2 (by decide)); have hq5 := hb5.cell 3; have HO5 := Lib.hid hos; have HK5 := Lib.hid hkp; have HW5 := Lib.hid hown; have HB5 := Lib.hid hb5; clear hos hkp hown hb5))
                  have HG5 : Hid (Bg w.heap.size w5 w.heap.size (R - tot L) u3 (xs ++ L)) := HJ.out.2.2.1.far HK5.out (HJ.out.2.1.ne_ HJ.out.2.2.1.blk (by decide)) HJ.out.2.2.2.1
                  clear hq3 hq5
                  go_roundw
                  case rel =>
                    refine ⟨k + 1, R2, by have := HKL.out; omega, by go_num, rfl, hR2R, HR2'.out, by rw [HE.out, ← List.append_assoc]; exact HO5.out, HG5.out, fun b hb e => ?_, HJ.out.2.2.2.2.1.trans' HK5.out (fun i hi e => by have := (HJ.out.2.1.lt e).1; omega), HB5.out⟩
                    rcases HW5.out b e with h1 | h1
                    · exact HJ.out.2.2.2.1 b hb h1
                    · have := (HJ.out.2.2.1.own.lt hb).2; omega
                  case measure => have := HKL.out; simp [intOf]; omega
                · have hkl2 : k = ln := by omega
                  subst hkl2
                  have HTA : Hid (L.take k = L) := List.take_of_length_le (by rw [HLN.out]; omega)
                  have HPE : Hid (Pl w w.heap.size R0 (j + 1) wo2 R1 u3 f (xs ++ L)) := by
                    have h := HJ.out
                    rw [HTA.out] at h
                    refine ⟨by rw [h.1]; exact h.2.2.1, h.2.1, h.2.2.2.1, h.2.2.2.2.1, ?_, fun s hs => ?_, ?_, Nat.le_refl _⟩
                    · have := HPL.out.few
                      have := HLN.out
                      rw [List.length_append]
                      omega
                    · rcases List.mem_append.1 hs with hs | hs
                      · exact HPL.out.small s hs
                      · rw [HFM.out s hs]; exact HBIG.out.1
                    · have := HPL.out.sum
                      have := HFT.out
                      rw [tot_append]
                      omega
                  have hend : k = 2 ∨ (k < 2 ∧ R1 < cf.size) := by
                    have h := HFE.out
                    have h2 := HJ.out.1
                    rw [HTA.out] at h2
                    omega
                  have hend2 : (k = 2) ∨ ((k : Int) < 2 ∧ (R1 : Int) < (cf.size : Int)) := by omega
                  clear hkl hk hend
                  rcases hend2 with rfl | ⟨hx1, hx2⟩
                  all_goals
                    go_wp2_with fail
                    go_meet
                    exact ⟨R1, u3, xs ++ L, rfl, HPE.out⟩
            · as_aux_lemma =>
              cases B with
              | false =>
                have HNO : Hid (¬ (0 ≤ ci ∧ ci < (xs.length : Int))) := by rw [HM.out]; exact of_decide_eq_false HLB.out.symm
                have HPE : Hid (Pl w w.heap.size R0 (j + 1) wc R u (.slice fa m fc) xs) := ⟨HPL.out.bag, HPL.out.own, HPL.out.apart, HPL.out.keep, by have := HPL.out.few; omega, HPL.out.small, HPL.out.sum, HPL.out.base⟩
                go_wp2_with fail
                refine (lose_no ci wc HPL.out.bag HNO.out).mono ?_
                rintro e w' ⟨rfl, rfl⟩
                go_wp2_with fail
                go_meet
                exact ⟨R, u, xs, rfl, HPE.out⟩
              | true =>
                have hyes : 0 ≤ ci ∧ ci < (m : Int) := of_decide_eq_true HLB.out.symm
                obtain ⟨k, rfl⟩ : ∃ k : Nat, ci = (k : Int) := ⟨ci.toNat, by omega⟩
                obtain ⟨s, hs⟩ : ∃ s, xs[k]? = some s := ⟨xs[k]'(by have := HM.out; omega), List.getElem?_eq_getElem _⟩
                have HS := Lib.hid hs
                have hts := tot_get hs
                have HSUM : Hid (R + s.size ≤ 9223372036854775807 ∧ tot xs = tot (xs.eraseIdx k) + s.size) := ⟨by have := HPL.out.sum; have := HR.out; omega, hts⟩
                have HKM : Hid (k < m) := by show k < m; omega
                have k0 : (0 : Int) ≤ (k : Int) := by omega
                have k1 : (k : Int) < (m : Int) := by omega
                clear hts hs q0 q2 q3 q4
                go_wp2_with fail
                refine (lose_yes k s wc HPL.out.bag HS.out HSUM.out.1 HPL.out.keep.size).mono ?_
                rintro e w3 ⟨u3, rfl, hbg, ht⟩
                obtain ⟨ho3, hk3, hap3, hbl3⟩ := HPL.out.tn ht
                have HB3 := Lib.hid hbg
                have HO3 := Lib.hid ho3
                have HK3 := Lib.hid hk3
                have HAP := Lib.hid hap3
                have HA3 := Lib.hid (hbl3 _ _ HAB.out)
                have hq1 := HA3.out.cell 1
                obtain ⟨gv, cv, hgv, hcs, _, hgl, hgN, hcap⟩ := ho3.text HS.out
                rw [HM.out] at hgv hcap
                cases hgv
                have HGL : Hid (gv < w3.heap.size ∧ m ≤ fc ∧ w.heap.size ≤ gv) := ⟨hgl, hcap, hgN⟩
                have HAL : Hid (ag < w3.heap.size) := HA3.out.lt
                have HNE : Hid (gv ≠ ag) := fun e => ho3.ne_ HA3.out (by decide) (by rw [← e]; rfl)
                obtain ⟨va, vc', hva, _, _, hvr⟩ := ho3.form
                rw [HM.out] at hva hvr
                cases hva
                have HVR : Hid (Rs (fun b => b = gv) w3 (some ⟨gv, 0, none⟩) m xs) := hvr.mono (fun b _ hb => (Option.some.inj hb.2).symm)
                have HVR2 : Hid (Rs (fun b => b = gv) (w3.alloc (.cells #[] 9)) (some ⟨gv, 0, none⟩) m xs) := HVR.out.keep ((Keep.refl (fun _ => False) w3).alloc _) (fun _ _ _ => id)
                have HTK : Hid (Rs (fun b => b = gv) (w3.alloc (.cells #[] 9)) (some ⟨gv, 0, none⟩) k (xs.take k)) := HVR2.out.take (by have := HKM.out; omega)
                have HEM : Hid (Os w.heap.size (w3.alloc (.cells #[] 9)) (.slice (some ⟨w3.heap.size, 0, none⟩) 0 0) []) := Os.empty _ w3 HK3.out.size
                have HSZ3 := Lib.hid HK3.out.size
                clear hbg ht ho3 hk3 hap3 hbl3 hgl hgN hcap hvr q1
                have r2 : (R : Int) + (s.size : Int) ≤ 9223372036854775807 := by have := HSUM.out; omega
                have r3 : (R : Int) + (s.size : Int) = ((R + s.size : Nat) : Int) := by omega
                obtain ⟨R', hR'⟩ : ∃ R', R + s.size = R' := ⟨_, rfl⟩
                rw [hR'] at r3
                have HR' := Lib.hid hR'
                clear hR'
                have i1 : (k : Int) + 1 ≤ (m : Int) := by omega
                have i2 : (0 : Int) ≤ (k : Int) + 1 := by omega
                have i3 : (k : Int) ≤ (fc : Int) := by have := HGL.out; have := HKM.out; omega
                have i4 : ((k : Int) + 1).toNat = k + 1 := by omega
                have i5 : IntKind.i64.wrap ((k : Int) + 1) = (k : Int) + 1 := IntWalk.i64_in _ (by omega)
                have i6 : ¬ fc = 0 := by have := HGL.out; have := HKM.out; omega
                have hqe : (w3.alloc (.cells #[] 9)).cell? ⟨ag, 1, none⟩ = some (.int .i64 (k : Int)) := (((Keep.refl (fun _ => False) w3).alloc (.cells #[] 9)).cell (p := ⟨ag, 1, none⟩) HAL.out id).trans hq1
                have HQE := Lib.hid hqe
                have HKX : Hid (k ≤ 120 ∧ m ≤ 120) := by show _ ∧ _; have := HKM.out; omega
                go_wp2_with fail
                clear hcs
                by_cases hcapk : fc = k + 1
                · have hmk : m = k + 1 := by have := HGL.out; have := HKM.out; omega
                  subst hmk
                  subst hcapk
                  have i9 : (k : Int) ≤ (k : Int) + 1 := by omega
                  go_region_held3 (fun w' => w'.cell? ⟨ag, 1, none⟩ = some (.int .i64 (k : Int))) (first | assumption | go_keep) (first
                    | (refine step_apps rfl (.tmp 152) (.tmp 156) rfl (fun b => b = gv) w.heap.size (.slice (some ⟨w3.heap.size, 0, none⟩) 0 0) [] (xs.take k) (some ⟨gv, 0, none⟩) k (k + 1) (by simp [Act.eval]) (by simp [Act.eval]) HEM.out HTK.out (by have := HKX.out; simp; omega) (by have := HSZ3.out; simp; omega) ?_; intro v3 w5 hos3 hkp3 hown3; have m1 : w5.cell? ⟨ag, 1, none⟩ = some (.int .i64 (k : Int)) := (hkp3.cell (p := ⟨ag, 1, none⟩) (by have := HAL.out; simp; omega) (fun e => by have e' : w3.heap.size = ag := Option.some.inj e; have := HAL.out; omega)).trans HQE.out)
                    | (refine step_apps rfl (.tmp 157) (.tmp 162) rfl (fun b => b = gv) w.heap.size v3 ([] ++ xs.take k) (xs.drop (k + 1)) (some ⟨gv, 0, none⟩) (0) (0) (by simp [Act.eval]) (by simp [Act.eval]) hos3 (by rw [List.drop_of_length_le (by rw [HM.out]; omega)]; exact Rv.nil _ _) (by have := HKX.out; simp; omega) (by have h := hkp3.size; have := HSZ3.out; simp at h; omega) ?_; intro v4 w4 hos4 hkp4 hown4; have m2 : w4.cell? ⟨ag, 1, none⟩ = some (.int .i64 (k : Int)) := (hkp4.cell (p := ⟨ag, 1, none⟩) (by have h := hkp3.size; have := HAL.out; simp at h; show ag < w5.heap.size; omega) (fun e => by have h9 := HAL.out; rcases hown3 with h1 | h1 <;> (rw [h1] at e; have e' := Option.some.inj e; try simp at e'; omega))).trans m1))
                  have HO4 : Hid (Os w.heap.size w4 v4 (xs.eraseIdx k)) := by
                    rw [List.eraseIdx_eq_take_drop_succ]
                    exact hos4
                  have hsz3 : w3.heap.size < w5.heap.size := by have h := hkp3.size; simp at h; omega
                  have HV3 : Hid (∀ b, v3.ownBlock = some b → w3.heap.size ≤ b) := fun b hb => by
                    rcases hown3 with h1 | h1
                    · rw [h1] at hb
                      cases hb
                      exact Nat.le_refl _
                    · rw [h1] at hb
                      have := Option.some.inj hb
                      simp at this
                      omega
                  have HV4 : Hid (∀ b, v4.ownBlock = some b → w3.heap.size ≤ b) := fun b hb => by
                    rcases hown4 with h1 | h1
                    · rw [h1] at hb
                      exact HV3.out b hb
                    · rw [h1] at hb
                      have := Option.some.inj hb
                      omega
                  have HK4 : Hid (Keep (fun b => w3.heap.size ≤ b) w3 w4) := (((((Keep.refl (fun _ => False) w3).alloc (.cells #[] 9)).drew).trans' hkp3 (fun i hi e => by have h9 : w3.heap.size = i := Option.some.inj e; omega)).mono (T := fun b => w3.heap.size ≤ b) (fun _ _ h => h.elim)).trans' hkp4 (fun i _ e => HV3.out i e)
                  have HPE : Hid (Pl w w.heap.size R0 (j + 1) w4 R' u3 v4 (xs.eraseIdx k)) := by
                    refine ⟨?_, HO4.out, fun b hb e => by have := HV4.out b e; have := (HB3.out.own.lt hb).2; omega, HK3.out.trans' HK4.out (fun i hi e => by have := HSZ3.out; have e' : w3.heap.size ≤ i := e; omega), ?_, fun t ht => HPL.out.small t (List.mem_of_mem_eraseIdx ht), ?_, Nat.le_refl _⟩
                    · rw [← HR'.out]
                      exact HB3.out.far HK4.out (by have := HB3.out.blk.lt; omega) (fun b hb e => by have := (HB3.out.own.lt hb).2; omega)
                    · have := HPL.out.few
                      rw [List.length_eraseIdx]
                      split <;> omega
                    · have := HPL.out.sum
                      have := HSUM.out.2
                      have := HR'.out
                      omega
                  clear hos3 hkp3 hown3 hos4 hkp4 hown4 hsz3
                  go_wp2_with fail
                  go_meet
                  exact ⟨R', u3, xs.eraseIdx k, rfl, HPE.out⟩
                · skip
                  go_region_held3 (fun w' => w'.cell? ⟨ag, 1, none⟩ = some (.int .i64 (k : Int))) (first | assumption | go_keep) (first
                    | (refine step_apps rfl (.tmp 152) (.tmp 156) rfl (fun b => b = gv) w.heap.size (.slice (some ⟨w3.heap.size, 0, none⟩) 0 0) [] (xs.take k) (some ⟨gv, 0, none⟩) k fc (by simp [Act.eval]) (by simp [Act.eval]) HEM.out HTK.out (by have := HKX.out; simp; omega) (by have := HSZ3.out; simp; omega) ?_; intro v3 w5 hos3 hkp3 hown3; have m1 : w5.cell? ⟨ag, 1, none⟩ = some (.int .i64 (k : Int)) := (hkp3.cell (p := ⟨ag, 1, none⟩) (by have := HAL.out; simp; omega) (fun e => by have e' : w3.heap.size = ag := Option.some.inj e; have := HAL.out; omega)).trans HQE.out)
                    | (refine step_apps rfl (.tmp 157) (.tmp 162) rfl (fun b => b = gv) w.heap.size v3 ([] ++ xs.take k) (xs.drop (k + 1)) (some ⟨gv, k + 1, none⟩) (m - (k + 1)) (fc - (k + 1)) (by simp [Act.eval]) (by simp [Act.eval]) hos3 (by have h9 := (Rs.keep (w := (w3.alloc (.cells #[] 9)).drew) HVR2.out hkp3 (fun b _ e hs => by have e' : w3.heap.size = b := Option.some.inj hs; have := HGL.out; omega)).drop (m := k + 1) (by have := HKM.out; omega); rw [Nat.zero_add] at h9; exact h9) (by have := HKX.out; simp; omega) (by have h := hkp3.size; have := HSZ3.out; simp at h; omega) ?_; intro v4 w4 hos4 hkp4 hown4; have m2 : w4.cell? ⟨ag, 1, none⟩ = some (.int .i64 (k : Int)) := (hkp4.cell (p := ⟨ag, 1, none⟩) (by have h := hkp3.size; have := HAL.out; simp at h; show ag < w5.heap.size; omega) (fun e => by have h9 := HAL.out; rcases hown3 with h1 | h1 <;> (rw [h1] at e; have e' := Option.some.inj e; try simp at e'; omega))).trans m1))
                  have HO4 : Hid (Os w.heap.size w4 v4 (xs.eraseIdx k)) := by
                    rw [List.eraseIdx_eq_take_drop_succ]
                    exact hos4
                  have hsz3 : w3.heap.size < w5.heap.size := by have h := hkp3.size; simp at h; omega
                  have HV3 : Hid (∀ b, v3.ownBlock = some b → w3.heap.size ≤ b) := fun b hb => by
                    rcases hown3 with h1 | h1
                    · rw [h1] at hb
                      cases hb
                      exact Nat.le_refl _
                    · rw [h1] at hb
                      have := Option.some.inj hb
                      simp at this
                      omega
                  have HV4 : Hid (∀ b, v4.ownBlock = some b → w3.heap.size ≤ b) := fun b hb => by
                    rcases hown4 with h1 | h1
                    · rw [h1] at hb
                      exact HV3.out b hb
                    · rw [h1] at hb
                      have := Option.some.inj hb
                      omega
                  have HK4 : Hid (Keep (fun b => w3.heap.size ≤ b) w3 w4) := (((((Keep.refl (fun _ => False) w3).alloc (.cells #[] 9)).drew).trans' hkp3 (fun i hi e => by have h9 : w3.heap.size = i := Option.some.inj e; omega)).mono (T := fun b => w3.heap.size ≤ b) (fun _ _ h => h.elim)).trans' hkp4 (fun i _ e => HV3.out i e)
                  have HPE : Hid (Pl w w.heap.size R0 (j + 1) w4 R' u3 v4 (xs.eraseIdx k)) := by
                    refine ⟨?_, HO4.out, fun b hb e => by have := HV4.out b e; have := (HB3.out.own.lt hb).2; omega, HK3.out.trans' HK4.out (fun i hi e => by have := HSZ3.out; have e' : w3.heap.size ≤ i := e; omega), ?_, fun t ht => HPL.out.small t (List.mem_of_mem_eraseIdx ht), ?_, Nat.le_refl _⟩
                    · rw [← HR'.out]
                      exact HB3.out.far HK4.out (by have := HB3.out.blk.lt; omega) (fun b hb e => by have := (HB3.out.own.lt hb).2; omega)
                    · have := HPL.out.few
                      rw [List.length_eraseIdx]
                      split <;> omega
                    · have := HPL.out.sum
                      have := HSUM.out.2
                      have := HR'.out
                      omega
                  clear hos3 hkp3 hown3 hos4 hkp4 hown4 hsz3
                  go_wp2_with fail
                  go_meet
                  exact ⟨R', u3, xs.eraseIdx k, rfl, HPE.out⟩
            · as_aux_lemma =>
              cases B with
              | false =>
                have HNO : Hid (¬ (0 ≤ ci ∧ ci < (xs.length : Int))) := by rw [HM.out]; exact of_decide_eq_false HLB.out.symm
                have HPE : Hid (Pl w w.heap.size R0 (j + 1) wc R u (.slice fa m fc) xs) := ⟨HPL.out.bag, HPL.out.own, HPL.out.apart, HPL.out.keep, by have := HPL.out.few; omega, HPL.out.small, HPL.out.sum, HPL.out.base⟩
                go_wp2_with fail
                refine (double_no ci wc HPL.out.bag HNO.out).mono ?_
                rintro e w' ⟨rfl, rfl⟩
                go_wp2_with fail
                go_meet
                exact ⟨R, u, xs, rfl, HPE.out⟩
              | true =>
                have hyes : 0 ≤ ci ∧ ci < (m : Int) := of_decide_eq_true HLB.out.symm
                obtain ⟨k, rfl⟩ : ∃ k : Nat, ci = (k : Int) := ⟨ci.toNat, by omega⟩
                obtain ⟨s, hs⟩ : ∃ s, xs[k]? = some s := ⟨xs[k]'(by have := HM.out; omega), List.getElem?_eq_getElem _⟩
                have HS := Lib.hid hs
                have k0 : (0 : Int) ≤ (k : Int) := by omega
                have k1 : (k : Int) < (m : Int) := by omega
                have HLX : Hid (xs.length ≤ 120) := by have := HPL.out.few; have := HLT.out; show xs.length ≤ 120; omega
                have hs100 : (s.size : Int) ≤ 100 := by have := HPL.out.small s (List.mem_of_getElem? hs); omega
                clear hs q0 q2 q3 q4
                by_cases hfit : s.size ≤ R
                · have HFIT := Lib.hid hfit
                  have hf1 : (s.size : Int) ≤ (R : Int) := by omega
                  clear hfit
                  go_wp2_with fail
                  refine (double_yes k s wc HPL.out.bag HS.out HFIT.out (by have := HLX.out; omega) HPL.out.keep.size).mono ?_
                  rintro e w3 ⟨u3, rfl, hbg, ht⟩
                  obtain ⟨ho3, hk3, hap3, hbl3⟩ := HPL.out.tn ht
                  have HB3 := Lib.hid hbg
                  have HO3 := Lib.hid ho3
                  have HK3 := Lib.hid hk3
                  have HAP := Lib.hid hap3
                  have HA3 := Lib.hid (hbl3 _ _ HAB.out)
                  have hq1 := HA3.out.cell 1
                  obtain ⟨gv, cv, hgv, hcs, _, hgl, hgN, hcap⟩ := ho3.text HS.out
                  rw [HM.out] at hgv hcap
                  cases hgv
                  clear hbg ht ho3 hk3 hap3 hbl3 hgl hgN hcap q1
                  obtain ⟨R', hR'⟩ : ∃ R', R - s.size = R' := ⟨_, rfl⟩
                  have r3 : (R : Int) - (s.size : Int) = (R' : Int) := by omega
                  have HR' := Lib.hid hR'
                  clear hR'
                  go_wp2_with (first
                    | (at_builtin; refine wpl_apps1 w3 rfl (.tmp 187) (.tmp 193) rfl w.heap.size (.slice (some ⟨gv, 0, none⟩) m fc) xs s w3.heap.size rfl rfl rfl HO3.out (by have := HLX.out; omega) HK3.out.size ?_; intro v4 w4 hos hkp hown))
                  have HPE : Hid (Pl w w.heap.size R0 (j + 1) w4 R' u3 v4 (xs ++ [s])) := by
                    refine ⟨?_, hos, fun b hb e => ?_, HK3.out.trans' hkp (fun i hi e => by have := (HO3.out.lt e).1; omega), ?_, fun t ht => ?_, ?_, Nat.le_refl _⟩
                    · rw [← HR'.out]
                      exact HB3.out.far hkp (HO3.out.ne_ HB3.out.blk (by decide)) (fun b hb e => HAP.out b hb e)
                    · rcases hown b e with h1 | h1
                      · exact HAP.out b hb h1
                      · have := (HB3.out.own.lt hb).2; omega
                    · have := HPL.out.few
                      rw [List.length_append, List.length_singleton]
                      omega
                    · rcases List.mem_append.1 ht with ht | ht
                      · exact HPL.out.small t ht
                      · rw [List.mem_singleton.1 ht]
                        exact HPL.out.small s (List.mem_of_getElem? HS.out)
                    · have := HPL.out.sum
                      have := HFIT.out
                      have := HR'.out
                      rw [tot_append, tot_one]
                      omega
                  clear hos hkp hown
                  go_wp2_with fail
                  go_meet
                  exact ⟨R', u3, xs ++ [s], rfl, HPE.out⟩
                · have HFIT : Hid (R < s.size) := by show R < s.size; omega
                  have hf1 : (R : Int) < (s.size : Int) := by omega
                  clear hfit
                  have HPE : Hid (Pl w w.heap.size R0 (j + 1) wc R u (.slice fa m fc) xs) := ⟨HPL.out.bag, HPL.out.own, HPL.out.apart, HPL.out.keep, by have := HPL.out.few; omega, HPL.out.small, HPL.out.sum, HPL.out.base⟩
                  obtain ⟨gv, cv, hgv, hcs, _, hgl, hgN, hcap⟩ := HPL.out.own.text HS.out
                  rw [HM.out] at hgv hcap
                  cases hgv
                  clear hgl hgN hcap
                  go_wp2_with fail
                  refine (double_full k s wc HPL.out.bag HS.out HFIT.out).mono ?_
                  rintro e w' ⟨rfl, rfl⟩
                  go_wp2_with fail
                  go_meet
                  exact ⟨R, u, xs, rfl, HPE.out⟩
            · as_aux_lemma =>
              have ha5 : cbn ≤ 100000 := by have := HBIG.out; omega
              go_wp2_with fail
              refine (turn_yes (· < w.heap.size) cbo cbn cbc cby wc HPL.out.bag HN2.out ha5 HPL.out.keep.size (by have := HPL.out.few; have := HLT.out; omega)).mono ?_
              rintro e w3 ⟨u3, rfl, hbg, ht⟩
              have HB3 := Lib.hid hbg
              have HT3 := Lib.hid ht
              have hvv : ∀ b, (Value.slice fa m fc).ownBlock = some b → ¬ bagS w.heap.size u b := fun b hb hs => by
                rcases hs with hs | hs
                · have := HPL.out.own.ne HPL.out.bag.blk
                  rw [hb, hs] at this
                  exact this rfl
                · exact HPL.out.apart b hs hb
              have HO3 := Lib.hid (HPL.out.own.keep ht.keep hvv)
              have HK3 : Hid (Keep (fun _ => False) w w3) := HPL.out.keep.trans' ht.keep (fun i hi hs => by
                rcases hs with hs | hs
                · omega
                · have := (HPL.out.bag.own.lt hs).1; omega)
              have HN3 := Lib.hid (HN2.out.keep ht.keep (fun b hb hp hs => by
                have hp' : b < w.heap.size := hp
                rcases hs with hs | hs
                · omega
                · have := (HPL.out.bag.own.lt hs).1; omega))
              have hq4 : w3.cell? ⟨ag, 4, none⟩ = some (.slice cbo cbn cbc) := (ht.keep.cell (p := ⟨ag, 4, none⟩) HAG.out.2 (fun hs => by
                rcases hs with hs | hs
                · exact Blk.ne_ HAB.out HPL.out.bag.blk (by decide) hs
                · rcases HPL.out.bag.own.2 with ⟨rfl, _⟩ | ⟨gx, _, _, rfl, _, h5x, _⟩
                  · cases hs
                  · have h6x : Blk wc gx 9 _ := h5x
                    exact Blk.ne_ h6x HAB.out (by decide) (Option.some.inj hs))).trans q4
              obtain ⟨va, vc', hva, _, _, hvr⟩ := HO3.out.form
              rw [HM.out] at hva hvr
              cases hva
              have HVR := Lib.hid hvr
              clear hbg ht hvv hvr q0 q1 q2 q3 q4
              go_wp2_with fail
              refine (refturn_any (· < w.heap.size) _ fa m fc xs cbo cbn cbc cby w3 HVR.out HN3.out ha5 (by have := HPL.out.few; have := HLT.out; have := HM.out; omega)).mono ?_
              rintro e w4 ⟨v4, rfl, hos, hk⟩
              have HPL4 : Hid (Pl w w.heap.size R0 (j + 1) w4 R u3 v4 (turnL cby xs)) := by
                refine ⟨HB3.out.k hk, hos.old HK3.out.size, fun b hb e => ?_, HK3.out.trans hk, ?_, fun s hs => HPL.out.small s (mem_turnL hs), by rw [tot_turnL]; exact HPL.out.sum, HPL.out.base⟩
                · have h1 := (hos.lt e).1
                  have h2 := (HB3.out.own.lt hb).2
                  omega
                · rw [turnL_len]
                  have := HPL.out.few
                  omega
              clear hos hk hq4
              go_wp2_with fail
              go_meet
              exact ⟨R, u3, turnL cby xs, rfl, HPL4.out⟩
            · as_aux_lemma =>
              obtain ⟨x, hxn, hcvx⟩ := byte_of cbn HBIG.out.2
              have HXN := Lib.hid hxn
              clear hxn
              cases B with
              | false =>
                have HNO : Hid (¬ (0 ≤ ci ∧ ci < (xs.length : Int))) := by rw [HM.out]; exact of_decide_eq_false HLB.out.symm
                have HPE : Hid (Pl w w.heap.size R0 (j + 1) wc R u (.slice fa m fc) xs) := ⟨HPL.out.bag, HPL.out.own, HPL.out.apart, HPL.out.keep, by have := HPL.out.few; omega, HPL.out.small, HPL.out.sum, HPL.out.base⟩
                go_wp2_with fail
                refine (spoil_no ci cat x wc HPL.out.bag HNO.out).mono ?_
                rintro e w' ⟨rfl, rfl⟩
                go_wp2_with fail
                go_quiet (fail)
                have HPE2 : Hid (Pl w w.heap.size R0 (j + 1) (wc.drewN nq) R u (.slice fa m fc) xs) := HPE.out.k ((Keep.refl _ _).drewN nq)
                go_wp2_with fail
                go_meet
                exact ⟨R, u, xs, rfl, HPE2.out⟩
              | true =>
                have hyes : 0 ≤ ci ∧ ci < (m : Int) := of_decide_eq_true HLB.out.symm
                obtain ⟨k, rfl⟩ : ∃ k : Nat, ci = (k : Int) := ⟨ci.toNat, by omega⟩
                obtain ⟨s, hs⟩ : ∃ s, xs[k]? = some s := ⟨xs[k]'(by have := HM.out; omega), List.getElem?_eq_getElem _⟩
                have HS := Lib.hid hs
                have HKM : Hid (k < m) := by show k < m; omega
                have k0 : (0 : Int) ≤ (k : Int) := by omega
                have k1 : (k : Int) < (m : Int) := by omega
                have k1n : k < m := HKM.out
                have HLX : Hid (xs.length ≤ 120) := by have := HPL.out.few; have := HLT.out; show xs.length ≤ 120; omega
                have hs100 : (s.size : Int) ≤ 100 := by have := HPL.out.small s (List.mem_of_getElem? hs); omega
                clear hs q0 q3
                by_cases hat : 0 ≤ cat ∧ cat < (s.size : Int)
                · obtain ⟨at_, rfl⟩ : ∃ a : Nat, cat = (a : Int) := ⟨cat.toNat, by omega⟩
                  have a0 : (0 : Int) ≤ (at_ : Int) := by omega
                  have a1 : (at_ : Int) < (s.size : Int) := hat.2
                  have HAT : Hid (at_ < s.size) := by show at_ < s.size; omega
                  clear hat
                  go_wp2_with fail
                  refine (spoil_yes k at_ s x wc HPL.out.bag HS.out HAT.out HPL.out.keep.size).mono ?_
                  rintro e w3 ⟨u3, rfl, hbg, ht⟩
                  obtain ⟨ho3, hk3, hap3, hbl3⟩ := HPL.out.tn ht
                  have HB3 := Lib.hid hbg
                  have HO3 := Lib.hid ho3
                  have HK3 := Lib.hid hk3
                  have HAP := Lib.hid hap3
                  have HA3 := Lib.hid (hbl3 _ _ HAB.out)
                  have hq1 := HA3.out.cell 1
                  have hq2 := HA3.out.cell 2
                  have hq4 := HA3.out.cell 4
                  obtain ⟨gv, cv, hgv, hcs, _, hgl, hgN, hcap⟩ := ho3.text HS.out
                  rw [HM.out] at hgv hcap
                  cases hgv
                  clear hbg ht ho3 hk3 hap3 hbl3 hgl hgN hcap q1 q2 q4
                  go_wp2_with fail
                  go_quiet (fail)
                  obtain ⟨w4, hw4⟩ : ∃ w4, w3.drewN nq = w4 := ⟨_, rfl⟩
                  have HK34 : Hid (Keep (fun _ => False) w3 w4) := by
                    show Keep _ _ _
                    rw [← hw4]
                    exact (Keep.refl _ _).drewN nq
                  rw [hw4]
                  have HB4 := Lib.hid (HB3.out.k HK34.out)
                  have HO4 := Lib.hid (HO3.out.keep HK34.out (fun _ _ => id))
                  have HA4 := Lib.hid (HA3.out.keep HK34.out id)
                  have HK4 := Lib.hid (HK3.out.trans HK34.out)
                  have hcs4 : w4.cell? ⟨gv, k, none⟩ = some (.string s) := by rw [← hw4]; exact hcs
                  have hq14 := HA4.out.cell 1
                  obtain ⟨va, vc', hva, _, _, hvr⟩ := HO4.out.form
                  rw [HM.out] at hva hvr
                  cases hva
                  have HVR : Hid (Rs (fun _ => True) (w4.alloc (.cells #[] 9)) (some ⟨gv, 0, none⟩) m xs) := (hvr.mono (fun _ _ _ => trivial)).keep ((Keep.refl (fun _ => False) w4).alloc _) (fun _ _ _ => id)
                  clear hcs hq1 hq2 hq4 hvr hw4
                  go_wp2_with (first
                    | (at_builtin; refine wpl_apps _ rfl (.tmp 255) (.tmp 256) rfl (fun _ => True) w.heap.size (.slice (some ⟨w4.heap.size, 0, none⟩) 0 0) [] xs (some ⟨gv, 0, none⟩) m fc rfl rfl (Os.empty _ w4 HK4.out.size) HVR.out (by have := HLX.out; have := HM.out; simp; omega) (by have := HK4.out.size; simp; omega) ?_; intro v5 w5 hos hkp hown))
                  have HO5 : Hid (Os w.heap.size w5 v5 xs) := hos
                  have HK45 : Hid (Keep (fun _ => False) w4 w5) := ((Keep.refl (fun _ => False) w4).alloc _).trans' hkp (fun i hi e => by have h9 : w4.heap.size = i := Option.some.inj e; omega)
                  have HV5 : Hid (∀ b, v5.ownBlock = some b → w4.heap.size ≤ b) := fun b hb => by
                    rcases hown with h1 | h1
                    · rw [h1] at hb
                      cases hb
                      exact Nat.le_refl _
                    · rw [h1] at hb
                      have := Option.some.inj hb
                      simp at this
                      omega
                  obtain ⟨g5, c5, hg5, hcs5, hfs5, hgl5, hgN5, hcap5⟩ := HO5.out.text HS.out
                  rw [HM.out] at hg5 hcap5
                  subst hg5
                  have ha5 := HA4.out.keep HK45.out id
                  have hr1 := ha5.cell 1
                  have hr2 := ha5.cell 2
                  have hr4 := ha5.cell 4
                  clear hos hkp hown hcs4 hq14
                  have a2 : (at_ : Int) ≤ (s.size : Int) := by omega
                  have a3 : IntKind.i64.wrap ((at_ : Int) + 1) = (at_ : Int) + 1 := IntWalk.i64_in _ (by omega)
                  have a4 : (0 : Int) ≤ (at_ : Int) + 1 := by omega
                  have a5 : (at_ : Int) + 1 ≤ (s.size : Int) := by omega
                  have a6 : ((at_ : Int) + 1).toNat = at_ + 1 := by omega
                  have a7 : at_ < s.size := HAT.out
                  obtain ⟨y, hy⟩ : ∃ y, (s[at_]'a7) ^^^ x = y := ⟨_, rfl⟩
                  have hxor : bits .xor .u8 (((s[at_]'a7).toNat : Nat) : Int) (x.toNat : Int) = (y.toNat : Int) := by rw [bits_xor_u8, hy]
                  have HY := Lib.hid hy
                  clear hy
                  have hcvb : (convert 37 9 (.slice (some ⟨w5.heap.size, 0, none⟩) 1 1)).run Try.prog (w5.alloc (.cells #[.int .u8 (y.toNat : Int)] 5)).drew = .ok (.string (bstr [y])) (w5.alloc (.cells #[.int .u8 (y.toNat : Int)] 5)).drew := by
                    have hbk := Blk.new w5 5 #[.int .u8 (y.toNat : Int)]
                    refine conv_bytes (P := fun _ => True) ⟨rfl, fun _ => ⟨w5.heap.size, 0, rfl, trivial, fun i u hu => ?_⟩⟩
                    rw [Nat.zero_add]
                    have h9 := hbk.drew.cell i
                    rw [h9, List.getElem?_toArray]
                    exact hu
                  have z1 : (s.extract 0 at_).size ≤ 100 := by rw [ByteArray.size_extract]; omega
                  have z2 : (bstr [y]).size = 1 := rfl
                  have z3 : (s.extract (at_ + 1) s.size).size ≤ 100 := by rw [ByteArray.size_extract]; omega
                  have hadd1 := fun w => run_string_add_sum (P := Try.prog) (w := w) (s.extract 0 at_) (bstr [y]) (by omega)
                  obtain ⟨S1, hS1⟩ : ∃ S1, s.extract 0 at_ ++ bstr [y] = S1 := ⟨_, rfl⟩
                  have z4 : S1.size ≤ 101 := by rw [← hS1, ByteArray.size_append]; omega
                  rw [hS1] at hadd1
                  have hadd2 := fun w => run_string_add_sum (P := Try.prog) (w := w) S1 (s.extract (at_ + 1) s.size) (by omega)
                  obtain ⟨S2, hS2⟩ : ∃ S2, S1 ++ s.extract (at_ + 1) s.size = S2 := ⟨_, rfl⟩
                  rw [hS2] at hadd2
                  have HS12 := Lib.hid (⟨hS1, hS2⟩ : _ ∧ _)
                  clear z1 z2 z3 z4 hS1 hS2
                  go_wp2_with fail
                  have hagl : ag < w5.heap.size := ha5.lt
                  have HNEW : Hid (Keep (· = g5) w5 ((w5.setCell ⟨g5, k, none⟩ (.string S2)).alloc (.cells #[.int .u8 (y.toNat : Int)] 5)).drew) := (((Keep.refl (· = g5) w5).setCell (p := ⟨g5, k, none⟩) (fun _ => rfl) _).alloc _).drew
                  have HGN : Hid (ag ≠ g5) := fun e => HO5.out.ne_ ha5 (by decide) (by rw [e]; rfl)
                  have f1 : ((w5.setCell ⟨g5, k, none⟩ (.string S2)).alloc (.cells #[.int .u8 (y.toNat : Int)] 5)).drew.cell? ⟨ag, 1, none⟩ = some (.int .i64 (k : Int)) := (HNEW.out.cell (p := ⟨ag, 1, none⟩) hagl HGN.out).trans hr1
                  have f2 : ((w5.setCell ⟨g5, k, none⟩ (.string S2)).alloc (.cells #[.int .u8 (y.toNat : Int)] 5)).drew.cell? ⟨ag, 2, none⟩ = some (.int .i64 (at_ : Int)) := (HNEW.out.cell (p := ⟨ag, 2, none⟩) hagl HGN.out).trans hr2
                  have f4 : ((w5.setCell ⟨g5, k, none⟩ (.string S2)).alloc (.cells #[.int .u8 (y.toNat : Int)] 5)).drew.cell? ⟨ag, 4, none⟩ = some (.slice cbo cbn cbc) := (HNEW.out.cell (p := ⟨ag, 4, none⟩) hagl HGN.out).trans hr4
                  have hagn : ¬ ag = w5.heap.size := by omega
                  have hSp := spoil_cut HAT.out HS12.out.1 HS12.out.2 HY.out
                  have HOS6 : Hid (Os w.heap.size ((w5.setCell ⟨g5, k, none⟩ (.string S2)).alloc (.cells #[.int .u8 (y.toNat : Int)] 5)).drew (.slice (some ⟨g5, 0, none⟩) m c5) (xs.set k (spoilB s at_ x))) := by
                    show Os _ _ _ _
                    rw [← hSp]
                    exact (HO5.out.set_ (List.getElem?_eq_some_iff.1 HS.out).1 S2).keep ((Keep.refl (fun _ => False) _).alloc _).drew (fun _ _ => id)
                  clear hSp
                  have HPE := Lib.hid (HPL.out.spoil HS.out HB4.out HK4.out HK45.out (HV5.out g5 rfl) HNEW.out HOS6.out)
                  refine wp_region_held_drew (S := (fun w' => w'.cell? ⟨ag, 1, none⟩ = some (.int .i64 (k : Int)) ∧ w'.cell? ⟨ag, 2, none⟩ = some (.int .i64 (at_ : Int)) ∧ w'.cell? ⟨ag, 4, none⟩ = some (.slice cbo cbn cbc))) (by kernel_rfl) ⟨hr1, hr2, hr4⟩ (fun hHeld => ?_)
                  refine wpAnyH_take (i := 0) (v := ?v0) (take_at rfl) (by kernel_rfl) (by kernel_rfl) (by kernel_rfl) (fun _ _ _ h => h) (Or.inl ⟨by rfl, ?hy0⟩) hHeld ?rest0
                  case hy0 =>
                    intro w' hSw
                    (try dsimp only at hSw)
                    go_simp
                    all_goals with_reducible rfl
                  try simp only [Act.put, List.setIfInBounds_toArray, List.set_cons_zero, List.set_cons_succ]
                  refine wpAnyH_take (i := 1) (v := ?v1) (take_at rfl) (by kernel_rfl) (by kernel_rfl) (by kernel_rfl) (fun _ _ _ h => h) (Or.inl ⟨by rfl, ?hy1⟩) hHeld ?rest1
                  case hy1 =>
                    intro w' hSw
                    (try dsimp only at hSw)
                    go_simp
                    all_goals with_reducible rfl
                  try simp only [Act.put, List.setIfInBounds_toArray, List.set_cons_zero, List.set_cons_succ]
                  refine wpAnyH_take (i := 2) (v := ?v2) (take_at rfl) (by kernel_rfl) (by kernel_rfl) (by kernel_rfl) (fun _ _ _ h => h) (Or.inl ⟨by rfl, ?hy2⟩) hHeld ?rest2
                  case hy2 =>
                    intro w' hSw
                    (try dsimp only at hSw)
                    go_simp
                    all_goals with_reducible rfl
                  try simp only [Act.put, List.setIfInBounds_toArray, List.set_cons_zero, List.set_cons_succ]
                  refine wpAnyH_take (i := 3) (v := ?v3) (take_at rfl) (by kernel_rfl) (by kernel_rfl) (by kernel_rfl) (fun _ _ _ h => h) (Or.inl ⟨by rfl, ?hy3⟩) hHeld ?rest3
                  case hy3 =>
                    intro w' hSw
                    (try dsimp only at hSw)
                    go_simp
                    all_goals with_reducible rfl
                  try simp only [Act.put, List.setIfInBounds_toArray, List.set_cons_zero, List.set_cons_succ]
                  refine wpAnyH_take (i := 4) (v := ?v4) (take_at rfl) (by kernel_rfl) (by kernel_rfl) (by kernel_rfl) (fun _ _ _ h => h) (Or.inl ⟨by rfl, ?hy4⟩) hHeld ?rest4
                  case hy4 =>
                    intro w' hSw
                    (try dsimp only at hSw)
                    go_simp
                    all_goals with_reducible rfl
                  try simp only [Act.put, List.setIfInBounds_toArray, List.set_cons_zero, List.set_cons_succ]
                  refine wpAnyH_take (i := 5) (v := ?v5) (take_at rfl) (by kernel_rfl) (by kernel_rfl) (by kernel_rfl) (fun _ _ _ h => h) (Or.inl ⟨by rfl, ?hy5⟩) hHeld ?rest5
                  case hy5 =>
                    intro w' hSw
                    (try dsimp only at hSw)
                    go_simp
                    all_goals with_reducible rfl
                  try simp only [Act.put, List.setIfInBounds_toArray, List.set_cons_zero, List.set_cons_succ]
                  refine wpAnyH_take (i := 6) (v := ?v6) (take_at rfl) (by kernel_rfl) (by kernel_rfl) (by kernel_rfl) (fun _ _ _ h => h) (Or.inl ⟨by rfl, ?hy6⟩) hHeld ?rest6
                  case hy6 =>
                    intro w' hSw
                    (try dsimp only at hSw)
                    go_simp
                    all_goals with_reducible rfl
                  try simp only [Act.put, List.setIfInBounds_toArray, List.set_cons_zero, List.set_cons_succ]
                  refine wpAnyH_take (i := 7) (v := ?v7) (take_at rfl) (by kernel_rfl) (by kernel_rfl) (by kernel_rfl) (fun _ _ _ h => h) (Or.inl ⟨by rfl, ?hy7⟩) hHeld ?rest7
                  case hy7 =>
                    intro w' hSw
                    (try dsimp only at hSw)
                    go_simp
                    all_goals with_reducible rfl
                  try simp only [Act.put, List.setIfInBounds_toArray, List.set_cons_zero, List.set_cons_succ]
                  refine wpAnyH_take (i := 8) (v := ?v8) (take_at rfl) (by kernel_rfl) (by kernel_rfl) (by kernel_rfl) (fun _ _ _ h => h) (Or.inl ⟨by rfl, ?hy8⟩) hHeld ?rest8
                  case hy8 =>
                    intro w' hSw
                    (try dsimp only at hSw)
                    go_simp
                    all_goals with_reducible rfl
                  try simp only [Act.put, List.setIfInBounds_toArray, List.set_cons_zero, List.set_cons_succ]
                  refine wpAnyH_take (i := 9) (v := ?v9) (take_at rfl) (by kernel_rfl) (by kernel_rfl) (by kernel_rfl) (fun _ _ _ h => h) (Or.inl ⟨by rfl, ?hy9⟩) hHeld ?rest9
                  case hy9 =>
                    intro w' hSw
                    (try dsimp only at hSw)
                    go_simp
                    all_goals with_reducible rfl
                  try simp only [Act.put, List.setIfInBounds_toArray, List.set_cons_zero, List.set_cons_succ]
                  refine wpAnyH_take (i := 10) (v := ?v10) (take_at rfl) (by kernel_rfl) (by kernel_rfl) (by kernel_rfl) (fun _ _ _ h => h) (Or.inl ⟨by rfl, ?hy10⟩) hHeld ?rest10
                  case hy10 =>
                    intro w' hSw
                    (try dsimp only at hSw)
                    go_simp
                    all_goals with_reducible rfl
                  try simp only [Act.put, List.setIfInBounds_toArray, List.set_cons_zero, List.set_cons_succ]
                  refine wpAnyH_take (i := 11) (v := ?v11) (take_at rfl) (by kernel_rfl) (by kernel_rfl) (by kernel_rfl) (fun _ _ _ h => h) (Or.inl ⟨by rfl, ?hy11⟩) hHeld ?rest11
                  case hy11 =>
                    intro w' hSw
                    (try dsimp only at hSw)
                    go_simp
                    all_goals with_reducible rfl
                  try simp only [Act.put, List.setIfInBounds_toArray, List.set_cons_zero, List.set_cons_succ]
                  refine wpAnyH_take (i := 12) (v := ?v12) (take_at rfl) (by kernel_rfl) (by kernel_rfl) (by kernel_rfl) (fun _ _ _ h => h) (Or.inl ⟨by rfl, ?hy12⟩) hHeld ?rest12
                  case hy12 =>
                    intro w' hSw
                    (try dsimp only at hSw)
                    go_simp
                    all_goals with_reducible rfl
                  try simp only [Act.put, List.setIfInBounds_toArray, List.set_cons_zero, List.set_cons_succ]
                  refine wpAnyH_take (i := 13) (v := ?v13) (take_at rfl) (by kernel_rfl) (by kernel_rfl) (by kernel_rfl) (fun _ _ _ h => h) (Or.inl ⟨by rfl, ?hy13⟩) hHeld ?rest13
                  case hy13 =>
                    intro w' hSw
                    (try dsimp only at hSw)
                    go_simp
                    all_goals with_reducible rfl
                  try simp only [Act.put, List.setIfInBounds_toArray, List.set_cons_zero, List.set_cons_succ]
                  refine wpAnyH_take (i := 14) (v := ?v14) (take_at rfl) (by kernel_rfl) (by kernel_rfl) (by kernel_rfl) (fun _ _ _ h => h) (Or.inl ⟨by rfl, ?hy14⟩) hHeld ?rest14
                  case hy14 =>
                    intro w' hSw
                    (try dsimp only at hSw)
                    go_simp
                    all_goals with_reducible rfl
                  try simp only [Act.put, List.setIfInBounds_toArray, List.set_cons_zero, List.set_cons_succ]
                  refine wpAnyH_take (i := 15) (v := ?v15) (take_at rfl) (by kernel_rfl) (by kernel_rfl) (by kernel_rfl) (fun _ _ _ h => h) (Or.inl ⟨by rfl, ?hy15⟩) hHeld ?rest15
                  case hy15 =>
                    intro w' hSw
                    (try dsimp only at hSw)
                    go_simp
                    all_goals with_reducible rfl
                  try simp only [Act.put, List.setIfInBounds_toArray, List.set_cons_zero, List.set_cons_succ]
                  refine wpAnyH_take (i := 19) (v := ?v19) (take_at rfl) (by kernel_rfl) (by kernel_rfl) (by kernel_rfl) (fun _ _ _ h => h) (Or.inl ⟨by rfl, ?hy19⟩) hHeld ?rest19
                  case hy19 =>
                    intro w' hSw
                    (try dsimp only at hSw)
                    go_simp
                    all_goals with_reducible rfl
                  try simp only [Act.put, List.setIfInBounds_toArray, List.set_cons_zero, List.set_cons_succ]
                  refine wpAnyH_take (i := 20) (v := ?v20) (take_at rfl) (by kernel_rfl) (by kernel_rfl) (by kernel_rfl) (fun _ _ _ h => h) (Or.inl ⟨by rfl, ?hy20⟩) hHeld ?rest20
                  case hy20 =>
                    intro w' hSw
                    (try dsimp only at hSw)
                    go_simp
                    all_goals with_reducible rfl
                  try simp only [Act.put, List.setIfInBounds_toArray, List.set_cons_zero, List.set_cons_succ]
                  refine wpAnyH_take (i := 21) (v := ?v21) (take_at rfl) (by kernel_rfl) (by kernel_rfl) (by kernel_rfl) (fun _ _ _ h => h) (Or.inl ⟨by rfl, ?hy21⟩) hHeld ?rest21
                  case hy21 =>
                    intro w' hSw
                    (try dsimp only at hSw)
                    go_simp
                    all_goals with_reducible rfl
                  try simp only [Act.put, List.setIfInBounds_toArray, List.set_cons_zero, List.set_cons_succ]
                  refine wpAnyH_take (i := 22) (v := ?v22) (take_at rfl) (by kernel_rfl) (by kernel_rfl) (by kernel_rfl) (fun _ _ _ h => h) (Or.inl ⟨by rfl, ?hy22⟩) hHeld ?rest22
                  case hy22 =>
                    intro w' hSw
                    (try dsimp only at hSw)
                    go_simp
                    all_goals with_reducible rfl
                  try simp only [Act.put, List.setIfInBounds_toArray, List.set_cons_zero, List.set_cons_succ]
                  refine wpAnyH_take (i := 23) (v := ?v23) (take_at rfl) (by kernel_rfl) (by kernel_rfl) (by kernel_rfl) (fun _ _ _ h => h) (Or.inl ⟨by rfl, ?hy23⟩) hHeld ?rest23
                  case hy23 =>
                    intro w' hSw
                    (try dsimp only at hSw)
                    go_simp
                    all_goals with_reducible rfl
                  try simp only [Act.put, List.setIfInBounds_toArray, List.set_cons_zero, List.set_cons_succ]
                  refine wpAnyH_ready (rs := [16]) (by kernel_rfl) (by simp) ?_
                  refine AllReadyH.cons (take_at rfl) (fun K hK => ?_) AllReadyH.nil
                  go_simp
                  refine hK.out _ _ (by go_keep) (fun hHeld => ?_)
                  clear hK K
                  try simp only [Act.put, List.setIfInBounds_toArray, List.set_cons_zero, List.set_cons_succ]
                  refine wpAnyH_ready (rs := [17]) (by kernel_rfl) (by simp) ?_
                  refine AllReadyH.cons (take_at rfl) (fun K hK => ?_) AllReadyH.nil
                  go_simp
                  refine hK.out _ _ (by assumption) (fun hHeld => ?_)
                  clear hK K
                  try simp only [Act.put, List.setIfInBounds_toArray, List.set_cons_zero, List.set_cons_succ]
                  refine wpAnyH_take (i := 18) (v := ?v18) (take_at rfl) (by kernel_rfl) (by kernel_rfl) (by kernel_rfl) (fun _ _ _ h => h) (Or.inl ⟨by rfl, ?hy18⟩) hHeld ?rest18
                  case hy18 =>
                    intro w' hSw
                    (try dsimp only at hSw)
                    go_simp
                    all_goals with_reducible rfl
                  try simp only [Act.put, List.setIfInBounds_toArray, List.set_cons_zero, List.set_cons_succ]
                  refine wpAnyH_take (i := 24) (v := ?v24) (take_at rfl) (by kernel_rfl) (by kernel_rfl) (by kernel_rfl) (fun _ _ _ h => h) (Or.inl ⟨by rfl, ?hy24⟩) hHeld ?rest24
                  case hy24 =>
                    intro w' hSw
                    (try dsimp only at hSw)
                    go_simp
                    all_goals with_reducible rfl
                  try simp only [Act.put, List.setIfInBounds_toArray, List.set_cons_zero, List.set_cons_succ]
                  refine wpAnyH_take (i := 25) (v := ?v25) (take_at rfl) (by kernel_rfl) (by kernel_rfl) (by kernel_rfl) (fun _ _ _ h => h) (Or.inl ⟨by rfl, ?hy25⟩) hHeld ?rest25
                  case hy25 =>
                    intro w' hSw
                    (try dsimp only at hSw)
                    go_simp
                    all_goals with_reducible rfl
                  try simp only [Act.put, List.setIfInBounds_toArray, List.set_cons_zero, List.set_cons_succ]
                  refine wpAnyH_ready (rs := [26]) (by kernel_rfl) (by simp) ?_
                  refine AllReadyH.cons (take_at rfl) (fun K hK => ?_) AllReadyH.nil
                  go_simp
                  refine hK.out _ _ ⟨f1, f2, f4⟩ (fun hHeld => ?_)
                  clear hK K
                  try simp only [Act.put, List.setIfInBounds_toArray, List.set_cons_zero, List.set_cons_succ]
                  refine wpAnyH_done (by kernel_rfl) ?_ _
                  go_wp2_with fail
                  go_meet
                  exact ⟨R, u3, xs.set k (spoilB s at_ x), rfl, HPE.out⟩
                · have h3 : cat < 0 ∨ (0 ≤ cat ∧ (s.size : Int) ≤ cat) := by omega
                  have HAT := Lib.hid hat
                  have HPE : Hid (Pl w w.heap.size R0 (j + 1) wc R u (.slice fa m fc) xs) := ⟨HPL.out.bag, HPL.out.own, HPL.out.apart, HPL.out.keep, by have := HPL.out.few; omega, HPL.out.small, HPL.out.sum, HPL.out.base⟩
                  obtain ⟨gv, cv, hgv, hcs, _, hgl, hgN, hcap⟩ := HPL.out.own.text HS.out
                  rw [HM.out] at hgv hcap
                  cases hgv
                  clear hat hgl hgN hcap
                  have h5 : (decide (0 ≤ cat) = false) ∨ (decide (0 ≤ cat) = true ∧ decide (cat < (s.size : Int)) = false) := by
                    rcases h3 with h3 | ⟨h3, h4⟩
                    · exact .inl (decide_eq_false (by omega))
                    · exact .inr ⟨decide_eq_true h3, decide_eq_false (by omega)⟩
                  clear h3
                  rcases h5 with h3 | ⟨h3, h4⟩
                  all_goals
                    go_wp2_with fail
                    refine (spoil_out k cat s x wc HPL.out.bag HS.out HAT.out).mono ?_
                    rintro e w' ⟨rfl, rfl⟩
                    go_wp2_with fail
                    go_quiet (fail)
                    have HPE2 : Hid (Pl w w.heap.size R0 (j + 1) (wc.drewN nq) R u (.slice (some ⟨gv, 0, none⟩) m fc) xs) := HPE.out.k ((Keep.refl _ _).drewN nq)
                    go_wp2_with fail
                    go_meet
                    exact ⟨R, u, xs, rfl, HPE2.out⟩
            · as_aux_lemma =>
              have hsum : R + tot xs ≤ 9223372036854775807 := by have := HPL.out.sum; have := HR.out; omega
              have HSUM := Lib.hid hsum
              clear hsum q0 q1 q2 q3 q4
              go_wp2_with fail
              refine (empty_yes wc HPL.out.bag HSUM.out HPL.out.keep.size).mono ?_
              rintro e w3 ⟨x3, u3, rfl, hos, hbg, ht, hap⟩
              have hvv : ∀ b, (Value.slice fa m fc).ownBlock = some b → ¬ bagS w.heap.size u b := fun b hb hs => by
                rcases hs with hs | hs
                · have := HPL.out.own.ne HPL.out.bag.blk
                  rw [hb, hs] at this
                  exact this rfl
                · exact HPL.out.apart b hs hb
              have HO3 := Lib.hid (HPL.out.own.keep ht.keep hvv)
              have HB3 := Lib.hid hbg
              have HK3 : Hid (Keep (fun _ => False) w w3) := HPL.out.keep.trans' ht.keep (fun i hi hs => by
                rcases hs with hs | hs
                · omega
                · have := (HPL.out.bag.own.lt hs).1; omega)
              obtain ⟨xa, xc, hxv, _, _, hxr⟩ := hos.form
              obtain ⟨va, vc', hva, _, _, hvr⟩ := HO3.out.form
              rw [HM.out] at hva hvr hxv hxr
              cases hva
              subst hxv
              have HXR := Lib.hid hxr
              have HVR := Lib.hid hvr
              clear hos hbg ht hap hvv hxr hvr
              go_wp2_with fail
              refine (same_yes _ _ xa fa m xc fc xs w3 HXR.out HVR.out (by have := HPL.out.few; have := HLT.out; have := HM.out; omega)).mono ?_
              rintro e w4 ⟨rfl, hk⟩
              have HO4 := Lib.hid (HO3.out.keep hk (fun _ _ => id))
              have HB4 := Lib.hid (HB3.out.k hk)
              have HK4 := Lib.hid (HK3.out.trans hk)
              have HVR4 := Lib.hid (HVR.out.keep hk (fun _ _ _ => id))
              clear hk
              go_wp2_with fail
              go_loop [0, 20] (fun r i => ∃ k : Nat, k ≤ m ∧ i = .int .i64 (k : Int) ∧ r = .int .i64 ((R + tot (xs.take k) : Nat) : Int)) (fun _ i => m - (intOf i).toNat)
              case atStart => exact ⟨0, Nat.zero_le _, rfl, by simp [tot]⟩
              case round =>
                obtain ⟨k, hk, rfl, rfl⟩ := hrel
                by_cases hkm : k < m
                · have k0 : (0 : Int) ≤ (k : Int) := by omega
                  have k1 : (k : Int) < (m : Int) := by omega
                  have HKM := Lib.hid hkm
                  obtain ⟨bs, os_, s, rfl, _, hs, hcs⟩ := HVR4.out.at_ hkm
                  have e1 : tot (xs.take (k + 1)) = tot (xs.take k) + s.size := by
                    rw [List.take_add_one, hs, Option.toList_some, tot_append, tot_one]
                  have e2 : R + tot (xs.take k) + s.size ≤ 9223372036854775807 := by
                    have h1 : tot xs = tot (xs.take (k + 1)) + tot (xs.drop (k + 1)) := by rw [← tot_append, List.take_append_drop]
                    have := HSUM.out
                    omega
                  have HE := Lib.hid e1
                  obtain ⟨R1, hR1⟩ : ∃ R1, R + tot (xs.take k) = R1 := ⟨_, rfl⟩
                  have HR1 := Lib.hid hR1
                  rw [hR1] at e2 ⊢
                  have r2 : (R1 : Int) + (s.size : Int) ≤ 9223372036854775807 := by omega
                  clear hs e1 hkm hR1 e2
                  go_wp2_with fail
                  go_round
                  case rel => exact ⟨k + 1, by have := HKM.out; omega, by go_num, by rw [HE.out, ← Nat.add_assoc, HR1.out]; go_num⟩
                  case measure => have := HKM.out; simp [intOf]; omega
                · have k1 : (m : Int) ≤ (k : Int) := by omega
                  have hkm2 : k = m := by omega
                  rw [hkm2, show xs.take m = xs from List.take_of_length_le (by have := HM.out; omega)]
                  have HPL5 : Hid (Pl w w.heap.size R0 (j + 1) w4 (R + tot xs) u3 (.slice none 0 0) []) :=
                    ⟨HB4.out, Os.nil _ _, (fun b _ e => by cases e), HK4.out, by simp, (fun s hs => by cases hs), (by have := HPL.out.sum; show R + tot xs + 0 = R0; omega), HPL.out.base⟩
                  clear hkm2 hkm hk
                  go_wp2_with fail
                  go_meet
                  exact ⟨R + tot xs, u3, [], rfl, HPL5.out⟩
          case rest =>
            as_aux_lemma =>
              obtain ⟨R', u', xs', rfl, HP⟩ := hcut
              obtain ⟨f7, rfl⟩ : ∃ s : Value, s = u7 := ⟨_, rfl⟩
              have HP' := HP
              obtain ⟨fa', fc', hfv, _, _, hfr'⟩ := HP.out.own.form
              obtain ⟨m', hm'⟩ : ∃ m', xs'.length = m' := ⟨_, rfl⟩
              have HM' := Lib.hid hm'
              rw [hm'] at hfv hfr'
              subst hfv
              have HFR' := Lib.hid hfr'
              have hmb : m' ≤ 1000000 := by have := HP.out.few; have := HLT.out; omega
              clear hm' hfr' q0 q1 q2 q3 q4
              go_wp2_with fail
              refine (files_yes _ HP.out.bag).mono ?_
              rintro e w3 ⟨u3, rfl, hos, hk⟩
              obtain ⟨ua, uc, rfl, _, _, hrs⟩ := hos.form
              rw [HM'.out] at hrs ⊢
              have HB3 := Lib.hid (HP.out.bag.k hk)
              have HF3 := Lib.hid (HFR'.out.keep hk (fun _ _ _ => id))
              have HRS := Lib.hid hrs
              have HPK : Hid (Pl w w.heap.size R0 (j + 1) w3 R' u' (.slice fa' m' fc') xs') := ⟨HP.out.bag.k hk, HP.out.own.keep hk (fun _ _ => id), HP.out.apart, HP.out.keep.trans hk, HP.out.few, HP.out.small, HP.out.sum, HP.out.base⟩
              clear hos hk hrs
              go_wp2_with fail
              refine (same_yes _ _ ua fa' m' uc fc' xs' w3 HRS.out HF3.out hmb).mono ?_
              rintro e w4 ⟨rfl, hk⟩
              have HPL4 : Hid (Pl w w.heap.size R0 (j + 1) w4 R' u' (.slice fa' m' fc') xs') := ⟨HPK.out.bag.k hk, HPK.out.own.keep hk (fun _ _ => id), HPK.out.apart, HPK.out.keep.trans hk, HPK.out.few, HPK.out.small, HPK.out.sum, HPK.out.base⟩
              clear hk
              go_wp2_with fail
              refine (room_yes w4 HPL4.out.bag).mono ?_
              rintro e w' ⟨rfl, rfl⟩
              have hself : ((R' : Int) != (R' : Int)) = false := by simp
              go_wp2_with fail
              go_roundw
              case rel => exact ⟨j + 1, R', u', xs', by have := HLT.out; omega, by have := HLT.out; omega, by go_num, rfl, HPL4.out⟩
              case measure => have := HLT.out; simp [intOf]; omega
    · have hx1 : (n : Int) ≤ (j : Int) ∨ ((j : Int) < (n : Int) ∧ (60 : Int) ≤ (j : Int)) := by omega
      have HK := Lib.hid HI.out.keep
      clear hlt hj1 hj2
      as_aux_lemma =>
        rcases hx1 with hx1 | ⟨hx1, hx2⟩
        all_goals
          go_wp2_with fail
          refine (one_any _).mono ?_
          rintro e w9 ⟨rfl, hk9⟩
          have HK9 := Lib.hid (HK.out.trans hk9)
          clear hk9
          go_wp2_with fail
          go_ret
          exact ⟨rfl, HK9.out⟩
end Go.Proofs.Ytoojhdjdhhkkcaa
