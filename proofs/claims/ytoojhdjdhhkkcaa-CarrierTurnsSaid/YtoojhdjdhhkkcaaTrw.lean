/-
  The walk of the law CarrierTurns: for every input it answers true.
-/
import Derived.Test.YtoojhdjdhhkkcaaTrp
namespace Go.Proofs.Ytoojhdjdhhkkcaa
open Go.RowKit

set_option maxRecDepth 100000 in
set_option maxHeartbeats 2000000 in
theorem turns_big (a1 : Option Addr) (n1 c1 : Nat) (a2 : Option Addr) (n2 c2 : Nat) (w : World) (h : 40 < n1 ∨ 100 < n2) :
    Calls Try.prog 4 #[.slice a1 n1 c1, .slice a2 n2 c2] w fun e w' => e = .returned (.bool true) ∧ Keep (fun _ => False) w w' := by
  have h2 : (40 : Int) < (n1 : Int) ∨ ((n1 : Int) ≤ 40 ∧ (100 : Int) < (n2 : Int)) := by omega
  clear h
  rcases h2 with h2 | ⟨h2, h3⟩
  all_goals
    go_enter Try.func4, Try.ntmps4
    go_wp2_with fail
    go_ret
    exact ⟨rfl, Keep.refl _ _⟩

set_option maxRecDepth 100000 in
set_option maxHeartbeats 40000000 in
theorem turns_yes (a1 : Option Addr) (n c1 : Nat) (fs : List ByteArray) (a2 : Option Addr) (n2 c2 : Nat) (l : List Int) (w : World) (h1 : Rs (· < w.heap.size) w a1 n fs) (hb1 : ∀ s ∈ fs, s.size ≤ maxLen) (h2 : Nn (· < w.heap.size) w a2 n2 l) (hn : n ≤ 40) (hn2 : n2 ≤ 100) :
    Calls Try.prog 4 #[.slice a1 n c1, .slice a2 n2 c2] w fun e w' => e = .returned (.bool true) ∧ Keep (fun _ => False) w w' := by
  have H1 := Lib.hid h1
  have H2 := Lib.hid h2
  have HSZ := Lib.hid hb1
  have HN : Hid (n ≤ 40 ∧ n2 ≤ 100 ∧ fs.length = n) := ⟨hn, hn2, h1.len⟩
  have n1 : (n : Int) ≤ 40 := by omega
  have n3 : (n2 : Int) ≤ 100 := by omega
  have hnt := hnot
  have hmk := fun w => run_makeMap (P := Try.prog) 42 w
  clear h1 h2 hb1 hn hn2
  go_enter Try.func4, Try.ntmps4
  go_wp2_with fail
  refine (new_yes w.heap.size 1048576 w (by omega) (Nat.le_refl _)).mono ?_
  rintro e w1 ⟨rfl, hbg, hk⟩
  have HB2 := Lib.hid (hbg.k ((Keep.refl (fun _ => False) w1).alloc (.map #[] 0)))
  have HC2 := Lib.hid (Cm.made w1)
  have HK2 := Lib.hid (hk.alloc (.map #[] 0))
  have HMB : Hid (w.heap.size ≤ w1.heap.size) := hk.size
  clear hbg hk
  go_wp2_with fail
  obtain ⟨mb, hmb⟩ : ∃ mb, w1.heap.size = mb := ⟨_, rfl⟩
  obtain ⟨w2, hw2⟩ : ∃ w2, w1.alloc (.map #[] 0) = w2 := ⟨_, rfl⟩
  rw [hw2] at HB2 HC2 HK2 ⊢
  rw [hmb] at HC2 HMB ⊢
  clear hmb hw2
  go_loopw [8] (fun i wr => ∃ j : Nat, j ≤ n ∧ i = .int .i64 (j : Int) ∧ Hid (Cm wr mb j (fun s => ((cnt (fs.take j) s : Nat) : Int)) ∧ Bg w.heap.size wr w.heap.size 1048576 (.slice none 0 0) [] ∧ Keep (fun _ => False) w wr ∧ ∀ s ∈ fs.take j, s.size ≤ 100)) (fun i _ => n - (intOf i).toNat)
  case atStart => exact ⟨0, Nat.zero_le _, rfl, HC2.out.congr (fun s => by simp [cnt]) rfl, HB2.out, HK2.out, fun s hs => by simp at hs⟩
  case round =>
    obtain ⟨j, hj, rfl, HI⟩ := hrel
    obtain ⟨wo, rfl⟩ : ∃ wo : World, wo = wr := ⟨_, rfl⟩
    by_cases hlt : j < n
    · have j0 : (0 : Int) ≤ (j : Int) := by omega
      have jn : (j : Int) < (n : Int) := by omega
      have HLT := Lib.hid hlt
      obtain ⟨b, o, s, rfl, _, hs, hcs⟩ := (H1.out.keep HI.out.2.2.1 (fun _ _ _ => id)).at_ hlt
      have HS := Lib.hid hs
      have HSM : Hid (s.size ≤ maxLen) := HSZ.out s (List.mem_of_getElem? hs)
      have hsz2 : (s.size : Int) ≤ 9223372036854775807 := by have := HSM.out; unfold maxLen at this; omega
      have HBL : Hid (b < wo.heap.size) := World.block_lt_of_cell? wo _ hcs
      clear hs hlt hj
      by_cases hbig : s.size ≤ 100
      · have hb : (s.size : Int) ≤ 100 := by omega
        have HBIG := Lib.hid hbig
        obtain ⟨c, hc⟩ : ∃ c, cnt (fs.take j) s = c := ⟨_, rfl⟩
        have hc40 : (c : Int) ≤ 40 := by
          have h1 := cnt_le (fs.take j) s
          have h2 := HN.out
          rw [List.length_take] at h1
          omega
        have HC := Lib.hid hc
        have HCM : Hid (Cm wo mb j (fun t => ((cnt (fs.take j) t : Nat) : Int))) := HI.out.1
        clear hbig hc
        go_wp2_with (first
          | (at_lookup; refine wpl_look _ rfl (.tmp 42) (.tmp 46) rfl mb j _ s rfl HCM.out rfl HSM.out ?_; simp only [HC.out])
          | (at_mapUpdate; refine wpl_upd _ rfl (.tmp 42) (.tmp 46) (.tmp 48) rfl mb j _ s ((c : Int) + 1) rfl HCM.out (by have := HN.out; have := HLT.out; omega) rfl HSM.out rfl (by omega) ?_; intro w3 hcm hkp))
        have HC3 : Hid (Cm w3 mb (j + 1) (fun t => ((cnt (fs.take (j + 1)) t : Nat) : Int))) := hcm.congr (fun t => by
          rw [cnt_step HS.out]
          by_cases ht : t = s
          · rw [if_pos ht, if_pos ht, ht, HC.out]
            omega
          · rw [if_neg ht, if_neg ht]
            omega) rfl
        have HB3 : Hid (Bg w.heap.size w3 w.heap.size 1048576 (.slice none 0 0) []) := HI.out.2.1.far_ hkp (HI.out.1.ne HI.out.2.1.blk) (fun b h => by cases h)
        have HK3 : Hid (Keep (fun _ => False) w w3) := HI.out.2.2.1.trans' hkp (fun i hi e => by have := HMB.out; have e' : i = mb := e; omega)
        clear hcm hkp hcs
        go_wp2_with fail
        go_roundw
        case rel =>
          refine ⟨j + 1, by have := HLT.out; omega, by go_num, HC3.out, HB3.out, HK3.out, fun t ht => ?_⟩
          rw [List.take_add_one, HS.out, Option.toList_some, List.mem_append] at ht
          rcases ht with ht | ht
          · exact HI.out.2.2.2 t ht
          · rw [List.mem_singleton.1 ht]
            exact HBIG.out
        case measure => have := HLT.out; simp [intOf]; omega
      · have hb : (100 : Int) < (s.size : Int) := by omega
        clear hbig
        go_wp2_with fail
        go_ret
        exact ⟨rfl, HI.out.2.2.1⟩
    · have hjn : (n : Int) ≤ (j : Int) := by omega
      have hje : j = n := by omega
      rw [hje, show fs.take n = fs from List.take_of_length_le (by have := HN.out; omega)] at HI
      have HSM : Hid (∀ s ∈ fs, s.size ≤ 100) := HI.out.2.2.2
      have HFA : Hid (fitL 1048576 fs = fs) := fitL_all fs _ (by have h := tot_le HSM.out; have := HN.out; omega)
      have HT : Hid (tot fs ≤ 4000) := by have h := tot_le HSM.out; have := HN.out; show tot fs ≤ 4000; omega
      have HCM : Hid (Cm wo mb n (fun s => ((cnt fs s : Nat) : Int))) := HI.out.1
      have HBG := Lib.hid HI.out.2.1
      have HKK := Lib.hid HI.out.2.2.1
      clear hje hlt hj
      go_wp2_with fail
      refine (pack_yes (· < w.heap.size) a1 n c1 fs wo HBG.out (H1.out.keep HKK.out (fun _ _ _ => id)) (by have := HN.out; omega) (by have := HN.out; simp; omega) HKK.out.size (fun b hb hp hs => by
        have hp' : b < w.heap.size := hp
        rcases hs with hs | hs
        · omega
        · cases hs)).mono ?_
      rintro e w3 ⟨v3, rfl, hbg, ht⟩
      rw [HFA.out] at hbg ⊢
      rw [HN.out.2.2] at ⊢
      have HB3 : Hid (Bg w.heap.size w3 w.heap.size (1048576 - tot fs) v3 fs) := hbg
      have HC3 : Hid (Cm w3 mb n (fun s => ((cnt fs s : Nat) : Int))) := HCM.out.keep ht.keep (fun hs => by
        rcases hs with hs | hs
        · exact HCM.out.ne HBG.out.blk hs.symm
        · cases hs)
      have HK3 : Hid (Keep (fun _ => False) w w3) := HKK.out.trans' ht.keep (fun i hi hs => by
        rcases hs with hs | hs
        · omega
        · cases hs)
      clear hbg ht
      go_wp2_with fail
      refine (turn_yes (· < w.heap.size) a2 n2 c2 l w3 HB3.out (H2.out.keep HK3.out (fun _ _ _ => id)) (by have := HN.out; omega) HK3.out.size (by have := HN.out; omega)).mono ?_
      rintro e w4 ⟨v4, rfl, hbg, ht⟩
      have HTL : Hid ((turnL l fs).length = n) := by show (turnL l fs).length = n; rw [turnL_len]; exact HN.out.2.2
      have HTC : Hid (∀ s, cnt (turnL l fs) s = cnt fs s) := cnt_turn l fs
      have HTM : Hid (∀ s, s ∈ turnL l fs → s ∈ fs) := mem_turn l fs
      generalize turnL l fs = T at *
      have HB4 := Lib.hid hbg
      have HC4 : Hid (Cm w4 mb n (fun s => ((cnt fs s : Nat) : Int))) := HC3.out.keep ht.keep (fun hs => by
        rcases hs with hs | hs
        · exact HC3.out.ne HB3.out.blk hs.symm
        · exact HC3.out.neo HB3.out.own hs)
      have HK4 : Hid (Keep (fun _ => False) w w4) := HK3.out.trans' ht.keep (fun i hi hs => by
        rcases hs with hs | hs
        · omega
        · have := (HB3.out.own.lt hs).1; omega)
      clear hbg ht
      go_wp2_with fail
      refine (files_yes w4 HB4.out).mono ?_
      rintro e w5 ⟨x5, rfl, hos, hk⟩
      obtain ⟨xa, xc, hxv, _, _, _⟩ := hos.form
      rw [HTL.out] at hxv
      subst hxv
      have HX5 : Hid (Os w.heap.size w5 (.slice xa n xc) T) := hos.old HK4.out.size
      have HXL : Hid (∀ b, (Value.slice xa n xc).ownBlock = some b → w4.heap.size ≤ b) := fun b hb => (hos.lt hb).1
      have HB5 := Lib.hid (HB4.out.k hk)
      have HC5 := Lib.hid (HC4.out.keep hk id)
      have HK5 := Lib.hid (HK4.out.trans hk)
      have HVL : Hid (∀ b, v4.ownBlock = some b → b < w4.heap.size) := fun b hb => (HB4.out.own.lt hb).2
      have HBB : Hid (w.heap.size < w4.heap.size) := HB4.out.blk.lt
      clear hos hk
      go_wp2_with fail
      go_loopw [10] (fun i wr => ∃ j : Nat, j ≤ n ∧ i = .int .i64 (j : Int) ∧ Hid (Cm wr mb (n + j) (fun s => ((cnt fs s : Nat) : Int) - ((cnt (T.take j) s : Nat) : Int)) ∧ Bg w.heap.size wr w.heap.size (1048576 - tot fs) v4 T ∧ Os w.heap.size wr (.slice xa n xc) (List.replicate j other ++ T.drop j) ∧ Keep (fun _ => False) w wr)) (fun i _ => n - (intOf i).toNat)
      case atStart => exact ⟨0, Nat.zero_le _, rfl, HC5.out.congr (fun s => by simp [cnt]) rfl, HB5.out, HX5.out, HK5.out⟩
      case round =>
        obtain ⟨j, hj, rfl, HJ⟩ := hrel
        obtain ⟨wo, rfl⟩ : ∃ wo : World, wo = wr := ⟨_, rfl⟩
        by_cases hlt : j < n
        · have j0 : (0 : Int) ≤ (j : Int) := by omega
          have jn : (j : Int) < (n : Int) := by omega
          have HLT := Lib.hid hlt
          obtain ⟨t, ht⟩ : ∃ t, T[j]? = some t := ⟨T[j]'(by have := HTL.out; omega), List.getElem?_eq_getElem _⟩
          have hxt : (List.replicate j other ++ T.drop j)[j]? = some t := by
            rw [List.getElem?_append_right (by simp), List.length_replicate, Nat.sub_self, List.getElem?_drop, Nat.add_zero]
            exact ht
          have hxl : (List.replicate j other ++ T.drop j).length = n := by
            rw [List.length_append, List.length_replicate, List.length_drop, HTL.out]
            omega
          obtain ⟨gx, cx, hgx, hcx, hfx, hgl, _, _⟩ := (show Os w.heap.size wo (.slice xa n xc) (List.replicate j other ++ T.drop j) from HJ.out.2.2.1).blk_text hxt
          rw [hxl] at hgx
          cases hgx
          have HT' := Lib.hid ht
          have hts := HSM.out t (HTM.out t (List.mem_of_getElem? ht))
          have HSMT : Hid (t.size ≤ maxLen) := by show t.size ≤ maxLen; unfold maxLen; omega
          have HCJ : Hid (Cm wo mb (n + j) (fun s => ((cnt fs s : Nat) : Int) - ((cnt (T.take j) s : Nat) : Int))) := HJ.out.1
          obtain ⟨c, hc⟩ : ∃ c : Nat, ((cnt fs t : Nat) : Int) - ((cnt (T.take j) t : Nat) : Int) = (c : Int) + 1 := by
            have h1 := cnt_split T j t
            rw [HTC.out] at h1
            have h2 : 1 ≤ cnt (T.drop j) t := cnt_mem (List.mem_of_getElem? (i := 0) (by rw [List.getElem?_drop, Nat.add_zero]; exact ht))
            exact ⟨cnt (T.drop j) t - 1, by omega⟩
          have hc40 : (c : Int) ≤ 40 := by
            have h1 := cnt_le fs t
            have := HN.out
            omega
          have hc0 : (0 : Int) ≤ (c : Int) := by omega
          have HC := Lib.hid hc
          have HGX : Hid (gx < wo.heap.size ∧ gx ≠ mb ∧ w4.heap.size ≤ gx) := ⟨hgl, fun e => HJ.out.1.neo HJ.out.2.2.1 (by rw [e]; rfl), HXL.out gx rfl⟩
          clear ht hxt hxl hts hc hlt hj hgl
          go_wp2_with (first
            | (at_lookup; refine wpl_look wo rfl (.tmp 70) (.tmp 74) rfl mb (n + j) _ t rfl HCJ.out rfl HSMT.out ?_; simp only [HC.out])
            | (at_mapUpdate; go_loud (refine wpl_upd wo rfl (.tmp 70) (.tmp 74) (.tmp 76) rfl mb (n + j) _ t (c : Int) rfl HCJ.out (by have := HN.out; have := HLT.out; omega) rfl HSMT.out (by simp [Act.eval]) (by omega) ?_; intro w6 hcm hkp; have hcx6 := (hkp.cell (p := ⟨gx, j, none⟩) HGX.out.1 HGX.out.2.1).trans hcx; have hfx6 := (hkp.frozen (p := ⟨gx, j, none⟩) HGX.out.1 HGX.out.2.1).trans hfx; have HC6 := Lib.hid hcm; have HK6 := Lib.hid hkp; clear hcm hkp))
            | (at_lookup; refine wpl_look _ rfl (.tmp 77) (.tmp 81) rfl mb (n + j + 1) _ t rfl HC6.out rfl HSMT.out ?_; simp only [if_true]))
          have HJ7 := Lib.hid (turns_step HTL.out HLT.out HT'.out HBB.out HVL.out HMB.out HGX.out HC.out HJ.out HC6.out HK6.out)
          clear hcx6 hfx6
          go_roundw
          case rel => exact ⟨j + 1, by have := HLT.out; omega, by go_num, HJ7.out⟩
          case measure => have := HLT.out; simp [intOf]; omega
        · have hjn2 : (n : Int) ≤ (j : Int) := by omega
          have hje : j = n := by omega
          have HC6 : Hid (Cm wo mb (n + n) (fun _ => 0)) := by
            have h1 := HJ.out.1
            rw [hje, show T.take n = T from List.take_of_length_le (by have := HTL.out; omega)] at h1
            exact h1.congr (fun s => by rw [HTC.out]; omega) rfl
          have HB6 := Lib.hid HJ.out.2.1
          have HK6 := Lib.hid HJ.out.2.2.2
          clear HJ hje hlt hj
          go_wp2_with fail
          refine (files_yes wo HB6.out).mono ?_
          rintro e w7 ⟨y7, rfl, hos, hk⟩
          obtain ⟨ya, yc, hyv, _, _, hrs⟩ := hos.form
          rw [HTL.out] at hyv hrs
          subst hyv
          have HY7 : Hid (Rs (fun _ => True) w7 ya n T) := hrs.mono (fun _ _ _ => trivial)
          have HC7 := Lib.hid (HC6.out.keep hk id)
          have HK7 := Lib.hid (HK6.out.trans hk)
          clear hos hk hrs HC6 HB6 HK6 HB5 HC5 HK5 HX5 HXL HB4 HC4 HK4 HB3 HC3 HK3 HBG HKK HCM HI
          go_wp2_with fail
          go_loopw [12, 13] (fun i _ wr => ∃ (j : Nat), j ≤ n ∧ i = .int .i64 (j : Int) ∧ Hid (Keep (fun _ => False) w7 wr)) (fun i _ _ => n - (intOf i).toNat)
          case atStart => exact ⟨0, Nat.zero_le _, rfl, Keep.refl _ _⟩
          case round =>
            obtain ⟨j, hj, rfl, HJ⟩ := hrel
            obtain ⟨wo, rfl⟩ : ∃ wo : World, wo = wr := ⟨_, rfl⟩
            by_cases hlt : j < n
            · have j0 : (0 : Int) ≤ (j : Int) := by omega
              have jn : (j : Int) < (n : Int) := by omega
              have n0 : (0 : Int) < (n : Int) := by omega
              have HLT := Lib.hid hlt
              obtain ⟨b, o, s, rfl, _, hs, hcs⟩ := (HY7.out.keep HJ.out (fun _ _ _ => id)).at_ hlt
              have HS := Lib.hid hs
              have HCJ := Lib.hid (HC7.out.keep HJ.out id)
              clear hs hlt hj
              by_cases ho : s = other
              · have hse := other_iff.1 ho
                have HTO : Hid (other ∈ fs) := HTM.out other (ho ▸ List.mem_of_getElem? HS.out)
                have hlk : (Instr.lookup 42 (.map (some mb)) (.string ⟨#[111, 116, 104, 101, 114]⟩) false).run Try.prog wo = .ok (.int .i64 0) wo := HCJ.out.look (s := other) (by unfold maxLen; decide)
                clear ho
                go_wp2_with fail
                go_loopw [13, 14] (fun was k wr => ∃ (q : Nat) (B : Bool), q ≤ n ∧ was = .bool B ∧ k = .int .i64 (q : Int) ∧ Hid (Keep (fun _ => False) w7 wr ∧ (B = true ↔ other ∈ fs.take q))) (fun _ k _ => n - (intOf k).toNat)
                case atStart => exact ⟨0, false, Nat.zero_le _, rfl, rfl, HJ.out, by simp⟩
                case round =>
                  obtain ⟨q, B, hq, rfl, rfl, HQ⟩ := hrel
                  obtain ⟨wi, rfl⟩ : ∃ wi : World, wi = wr := ⟨_, rfl⟩
                  by_cases hql : q < n
                  · have q0 : (0 : Int) ≤ (q : Int) := by omega
                    have qn : (q : Int) < (n : Int) := by omega
                    have HQL := Lib.hid hql
                    obtain ⟨bi, oi, f, rfl, _, hf, hcf⟩ := (H1.out.keep (HK7.out.trans HQ.out.1) (fun _ _ _ => id)).at_ hql
                    have HF := Lib.hid hf
                    have hst : fs.take (q + 1) = fs.take q ++ [f] := by rw [List.take_add_one, hf, Option.toList_some]
                    have HST := Lib.hid hst
                    clear hf hst hql hq
                    cases B with
                    | true =>
                      have HB1 : Hid (true = true ↔ other ∈ fs.take (q + 1)) := by
                        rw [HST.out]
                        exact ⟨fun h => List.mem_append_left _ (HQ.out.2.1 h), fun _ => rfl⟩
                      go_wp2_with fail
                      go_roundw
                      case rel => exact ⟨q + 1, true, by have := HQL.out; omega, rfl, by go_num, HQ.out.1, HB1.out⟩
                      case measure => have := HQL.out; simp [intOf]; omega
                    | false =>
                      by_cases hfo : f = other
                      · have hfe := other_iff.1 hfo
                        have HB1 : Hid (true = true ↔ other ∈ fs.take (q + 1)) := by
                          rw [HST.out, hfo]
                          exact ⟨fun _ => by simp, fun _ => rfl⟩
                        clear hfo
                        go_wp2_with fail
                        go_roundw
                        case rel => exact ⟨q + 1, true, by have := HQL.out; omega, rfl, by go_num, HQ.out.1, HB1.out⟩
                        case measure => have := HQL.out; simp [intOf]; omega
                      · have hfe : ¬ f.toList = [111, 116, 104, 101, 114] := fun h => hfo (other_iff.2 h)
                        have HB1 : Hid (false = true ↔ other ∈ fs.take (q + 1)) := by
                          rw [HST.out]
                          constructor
                          · intro h
                            cases h
                          · intro h
                            rcases List.mem_append.1 h with h | h
                            · exact HQ.out.2.2 h
                            · exact absurd (List.mem_singleton.1 h).symm hfo
                        clear hfo
                        go_wp2_with fail
                        go_roundw
                        case rel => exact ⟨q + 1, false, by have := HQL.out; omega, by rw [beq_eq_false_iff_ne.2 hfe], by go_num, HQ.out.1, HB1.out⟩
                        case measure => have := HQL.out; simp [intOf]; omega
                  · have hqn : (n : Int) ≤ (q : Int) := by omega
                    have hB : B = true := HQ.out.2.2 (by rw [List.take_of_length_le (by have := HN.out; omega)]; exact HTO.out)
                    subst hB
                    clear hql hq
                    go_wp2_with fail
                    go_roundw
                    case rel => exact ⟨j + 1, by have := HLT.out; omega, by go_num, HQ.out.1⟩
                    case measure => have := HLT.out; simp [intOf]; omega
              · have hne : ¬ s.toList = [111, 116, 104, 101, 114] := fun h => ho (other_iff.2 h)
                clear ho
                go_wp2_with fail
                go_roundw
                case rel => exact ⟨j + 1, by have := HLT.out; omega, by go_num, HJ.out⟩
                case measure => have := HLT.out; simp [intOf]; omega
            · have hjn3 : (n : Int) ≤ (j : Int) := by omega
              clear hlt hj
              go_wp2_with fail
              go_loopw [15, 16] (fun k _ wr => ∃ (q : Nat), q ≤ 2 ∧ k = .int .i64 (q : Int) ∧ Hid (Keep (fun _ => False) w7 wr)) (fun k _ _ => 2 - (intOf k).toNat)
              case atStart => exact ⟨0, by omega, rfl, HJ.out⟩
              case round =>
                obtain ⟨q, hq, rfl, HQ⟩ := hrel
                obtain ⟨wo, rfl⟩ : ∃ wo : World, wo = wr := ⟨_, rfl⟩
                rcases (show q = 0 ∨ q = 1 ∨ q = 2 by omega) with rfl | rfl | rfl
                · have hbz := Blk.new wo 44 #[.bool false, .int .i64 0, .slice none 0 0]
                  have HBZ := Lib.hid hbz
                  clear hbz
                  go_wp2_with fail
                  refine (turn_nil _ a2 n2 c2 _ (none_zero _ _ (HBZ.out.cell 0))).mono ?_
                  rintro e w' ⟨rfl, rfl⟩
                  go_wp2_with fail
                  refine (pack_nil _ a1 n c1 _ (none_zero _ _ (HBZ.out.cell 0))).mono ?_
                  rintro e w' ⟨rfl, rfl⟩
                  go_wp2_with fail
                  refine (files_nil _ _ (none_zero _ _ (HBZ.out.cell 0))).mono ?_
                  rintro e w' ⟨rfl, rfl⟩
                  go_wp2_with fail
                  refine (room_nil _ _ (none_zero _ _ (HBZ.out.cell 0))).mono ?_
                  rintro e w' ⟨rfl, rfl⟩
                  go_wp2_with fail
                  refine (empty_nil _ _ (none_zero _ _ (HBZ.out.cell 0))).mono ?_
                  rintro e w' ⟨rfl, rfl⟩
                  go_wp2_with fail
                  refine (lose_nil _ 0 _ (none_zero _ _ (HBZ.out.cell 0))).mono ?_
                  rintro e w' ⟨rfl, rfl⟩
                  go_wp2_with fail
                  refine (double_nil _ 0 _ (none_zero _ _ (HBZ.out.cell 0))).mono ?_
                  rintro e w' ⟨rfl, rfl⟩
                  go_wp2_with fail
                  refine (spoil_nil _ 0 0 1 _ (none_zero _ _ (HBZ.out.cell 0))).mono ?_
                  rintro e w' ⟨rfl, rfl⟩
                  go_wp2_with fail
                  go_roundw
                  case rel => exact ⟨1, by omega, by go_num, HQ.out.alloc _⟩
                  case measure => simp [intOf]
                · go_wp2_with fail
                  refine (turn_nil _ a2 n2 c2 _ (none_nil _)).mono ?_
                  rintro e w' ⟨rfl, rfl⟩
                  go_wp2_with fail
                  refine (pack_nil _ a1 n c1 _ (none_nil _)).mono ?_
                  rintro e w' ⟨rfl, rfl⟩
                  go_wp2_with fail
                  refine (files_nil _ _ (none_nil _)).mono ?_
                  rintro e w' ⟨rfl, rfl⟩
                  go_wp2_with fail
                  refine (room_nil _ _ (none_nil _)).mono ?_
                  rintro e w' ⟨rfl, rfl⟩
                  go_wp2_with fail
                  refine (empty_nil _ _ (none_nil _)).mono ?_
                  rintro e w' ⟨rfl, rfl⟩
                  go_wp2_with fail
                  refine (lose_nil _ 0 _ (none_nil _)).mono ?_
                  rintro e w' ⟨rfl, rfl⟩
                  go_wp2_with fail
                  refine (double_nil _ 0 _ (none_nil _)).mono ?_
                  rintro e w' ⟨rfl, rfl⟩
                  go_wp2_with fail
                  refine (spoil_nil _ 0 0 1 _ (none_nil _)).mono ?_
                  rintro e w' ⟨rfl, rfl⟩
                  go_wp2_with fail
                  go_roundw
                  case rel => exact ⟨2, by omega, by go_num, HQ.out.alloc _⟩
                  case measure => simp [intOf]
                · go_wp2_with fail
                  refine (one_any _).mono ?_
                  rintro e w8 ⟨rfl, hk8⟩
                  go_wp2_with fail
                  go_ret
                  exact ⟨rfl, (HK7.out.trans HQ.out).trans hk8⟩

theorem turns_walk (W : World) (a1 : Option Addr) (n1 c1 : Nat) (fs : List ByteArray) (a2 : Option Addr) (n2 c2 : Nat) (l : List Int) (h1 : Rs (· < W.heap.size) W a1 n1 fs) (hb1 : ∀ s ∈ fs, s.size ≤ maxLen) (h2 : Nn (· < W.heap.size) W a2 n2 l) :
    Calls Try.prog 4 #[.slice a1 n1 c1, .slice a2 n2 c2] W fun e w' => e = .returned (.bool true) ∧ Below W.heap.size W w' := by
  have key : Calls Try.prog 4 #[.slice a1 n1 c1, .slice a2 n2 c2] W fun e w' => e = .returned (.bool true) ∧ Keep (fun _ => False) W w' := by
    by_cases h : 40 < n1 ∨ 100 < n2
    · exact turns_big a1 n1 c1 a2 n2 c2 W h
    · exact turns_yes a1 n1 c1 fs a2 n2 c2 l W h1 hb1 h2 (by omega) (by omega)
  exact key.mono fun _ _ ⟨he, hk⟩ => ⟨he, hk.below (Nat.le_refl _) (fun _ _ => id)⟩
end Go.Proofs.Ytoojhdjdhhkkcaa
