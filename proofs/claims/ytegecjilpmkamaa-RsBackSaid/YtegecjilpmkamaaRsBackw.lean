/-
  The walk of the law RsBack: for every input it answers true.
-/
import Derived.Test.YtegecjilpmkamaaHole
import Derived.WideKeyPair
namespace Go.Proofs.Ytegecjilpmkamaa
open Go.RowKit Sb

theorem and_low (x : Int) (c : Nat) (hc : c ≤ 255) : ∃ m : Nat, m ≤ c ∧ bits .and .i64 x (c : Int) = (m : Int) := by
  have h2 : (BitVec.ofInt 64 (c : Int)).toNat = c := by
    rw [BitVec.ofInt_natCast, BitVec.toNat_ofNat]; exact Nat.mod_eq_of_lt (by omega)
  have h3 : (BitVec.ofInt 64 x &&& BitVec.ofInt 64 (c : Int)).toNat ≤ c := by
    rw [BitVec.toNat_and, h2]
    exact Nat.and_le_right
  refine ⟨(BitVec.ofInt 64 x &&& BitVec.ofInt 64 (c : Int)).toNat, h3, ?_⟩
  show IntKind.i64.wrap ((BitVec.ofInt 64 x &&& BitVec.ofInt 64 (c : Int)).toNat : Int) = _
  exact IntWalk.i64_in _ (by omega)

theorem enc_len {k m : Nat} {l : List (List UInt8)} (h : l.length = k) : (encM k m l).length = k + m := by
  rw [encM, List.length_append, h]
  simp [mulM, cauM]

theorem cut_cols {xs : List UInt8} {k n : Nat} (h : 1 ≤ k) (hn : xs.length = n) : mcols (cutM xs k) = cutN n k := by
  have hl : 0 < (cutM xs k).length := by rw [cut_len]; omega
  rw [mcols_at (List.getElem?_eq_getElem hl), cut_row _ (List.getElem_mem hl), hn]

set_option maxRecDepth 100000 in
set_option maxHeartbeats 16000000 in
theorem rsBack_any (ao : Option Addr) (n0 cap : Nat) (xs0 : List UInt8) (p q : Int) (an : Option Addr) (ng cg : Nat) (gs : List Int) (w : World) (hr : Rb (· < w.heap.size) w ao n0 xs0) (hc : n0 ≤ cap) (hx : cap ≤ maxLen) (hg : Nn (· < w.heap.size) w an ng gs) (hgn : ng ≤ cg) (hgx : cg ≤ maxLen) :
    Calls Try.prog 20 #[.slice ao n0 cap, .agg #[.int .i64 p, .int .i64 q], .slice an ng cg] w fun e w' => e = .returned (.bool true) ∧ Keep (fun _ => False) w w' := by
  have HR := Lib.hid hr
  have HG := Lib.hid hg
  have hlen : n0 ≤ 9223372036854775807 := by unfold maxLen at hx; omega
  have hlen' : (n0 : Int) ≤ 9223372036854775807 := by omega
  have hng : (ng : Int) ≤ 9223372036854775807 := by unfold maxLen at hgx; omega
  obtain ⟨km, hkm, hbk0⟩ := and_low p 7 (by omega)
  obtain ⟨m, hm, hbm0⟩ := and_low q 7 (by omega)
  have hbk : bits .and .i64 p 7 = (km : Int) := hbk0
  have hbm : bits .and .i64 q 7 = (m : Int) := hbm0
  obtain ⟨k, hk⟩ : ∃ k, 1 + km = k := ⟨_, rfl⟩
  obtain ⟨tt, htt⟩ : ∃ tt, k + m = tt := ⟨_, rfl⟩
  have hadd : IntKind.i64.wrap (1 + (km : Int)) = (k : Int) := by rw [← hk]; exact (IntWalk.i64_in _ (by omega)).trans (by omega)
  have hadd2 : IntKind.i64.wrap ((k : Int) + (m : Int)) = (tt : Int) := by rw [← htt]; exact (IntWalk.i64_in _ (by omega)).trans (by omega)
  have hadd3 : (k : Int) + (m : Int) = (tt : Int) := by omega
  have HKM : Hid (1 ≤ k ∧ k ≤ 8 ∧ m ≤ 7 ∧ k + m = tt ∧ tt ≤ 15 ∧ 1 ≤ tt) := by show _ ∧ _; omega
  have HCAP := Lib.hid hc
  have k1 : (1 : Int) ≤ (k : Int) := by omega
  have k8 : (k : Int) ≤ 8 := by omega
  have hnt := hnot
  have hnl := neq_nil
  clear hr hg hc hx hgn hgx hbk0 hbm0 hk htt hkm hm
  go_enter Try.func20, Try.ntmps20
  go_upto_if 24 with (fail)
  go_cut [0] (fun s wx => (∃ n, s = .slice ao n cap ∧ n ≤ 300 ∧ n ≤ n0) ∧ w.alloc (.cells #[.int .i64 p, .int .i64 q] 85) = wx)
  case first =>
    by_cases h3 : 300 < n0
    · have h3' : (300 : Int) < (n0 : Int) := by omega
      have h4 : (300 : Int) ≤ (cap : Int) := by have := HCAP.out; omega
      go_wp2_with fail
      go_meet
      exact ⟨⟨300, rfl, Nat.le_refl _, by omega⟩, rfl⟩
    · have h3' : (n0 : Int) ≤ 300 := by omega
      go_wp2_with fail
      go_meet
      exact ⟨⟨n0, rfl, by omega, Nat.le_refl _⟩, rfl⟩
  case rest =>
    obtain ⟨⟨n, rfl, hn300, hn0⟩, rfl⟩ := hcut
    have HN : Hid (n ≤ 300 ∧ n ≤ cap) := ⟨hn300, Nat.le_trans hn0 HCAP.out⟩
    have HXS := Lib.hid (HR.out.take hn0)
    have HK0 : Hid (Keep (fun _ => False) w (w.alloc (.cells #[.int .i64 p, .int .i64 q] 85))) := (Keep.refl _ w).alloc _
    generalize hxs : xs0.take n = xs at *
    clear hlen hlen' hxs hn300 hn0 HCAP HR
    go_wp2_with fail
    go_quiet (fail)
    have HK1 : Hid (Keep (fun _ => False) w ((w.alloc (.cells #[.int .i64 p, .int .i64 q] 85)).drewN nq)) := HK0.out.drewN nq
    generalize (w.alloc (.cells #[.int .i64 p, .int .i64 q] 85)).drewN nq = w1 at *
    clear HK0 hbk hbm hadd
    go_wp2_with fail
    refine (rsnew_yes k m w1 HKM.out.1 (by have := HKM.out; omega)).mono ?_
    rintro e w2 ⟨cb, fb, ao2, cap2, us0, rfl, hcd, hk⟩
    have HC2 := Lib.hid hcd
    have HK2 := Lib.hid (HK1.out.trans hk)
    have HFB : Hid (w.heap.size ≤ fb) := Nat.le_trans HK1.out.size HC2.out.oldf
    clear hcd hk
    go_wp2_with fail
    refine (cut_yes (· < w.heap.size) ao n cap k xs w2 (HXS.out.keep HK2.out (fun _ _ _ => id)) (by have := HN.out; omega) HN.out.2 HKM.out.1 (by have := HKM.out; omega)).mono ?_
    rintro e w3 ⟨g, G, rfl, hfl, hk⟩
    have HXL : Hid (xs.length = n) := HXS.out.len
    have HDL : Hid ((cutM xs k).length = k) := cut_len xs k
    have HDR : Hid (∀ r ∈ cutM xs k, r.length = cutN n k) := fun r hr => by rw [cut_row r hr, HXL.out]
    have HDC : Hid (mcols (cutM xs k) = cutN n k) := cut_cols HKM.out.1 HXL.out
    have HNB : Hid (1 ≤ cutN n k ∧ cutN n k ≤ 301) := ⟨cutN_pos n k, by have := cutN_le n k; have := HN.out; omega⟩
    have hgr := hfl.gr' (by have := HKM.out; omega) (by have := HNB.out; unfold maxLen; omega)
    rw [show (List.range k).map (fun i => rowOf (cutN n k) (fun q => at0 xs (i * cutN n k + q))) = cutM xs k by unfold cutM; rw [HXL.out]] at hgr
    obtain ⟨us1, hmv⟩ := hgr.mv
    have HM3 : Hid (Mv (fun b => w2.heap.size ≤ b ∧ b < w3.heap.size) w3 (some ⟨g, 0, none⟩) k us1 (cutM xs k)) := hmv.mono (fun b hl hb => ⟨hb.elim id id, hl⟩)
    have HC3 := Lib.hid (HC2.out.k hk)
    have HK3 := Lib.hid (HK2.out.trans hk)
    have HDE : Hid (evenB us1 (cutM xs k) = true) := by
      have h1 := mv_there hmv (fun r hr => by rw [HDR.out r hr]; exact HNB.out.1)
      rw [thereB] at h1
      show evenB us1 (cutM xs k) = true
      rw [evenB, h1, Bool.true_and, List.all_eq_true]
      exact fun r hr => decide_eq_true (by rw [HDR.out r hr, HDC.out])
    have HSZ : Hid (w.heap.size ≤ w2.heap.size ∧ w2.heap.size ≤ w3.heap.size ∧ fb < w2.heap.size ∧ cb < w2.heap.size) := ⟨HK2.out.size, hk.size, HC2.out.field.lt, HC2.out.blk.lt⟩
    have HALL3 : Hid (Mv (fun b => (b ≠ fb ∧ w1.heap.size ≤ b) ∧ b < w3.heap.size) w3 ao2 (k + m) us0 (oneM k ++ cauM m k)) := HC3.out.all.mono (fun b hl hb => ⟨hb, hl⟩)
    clear hfl hgr hmv hk
    generalize hdata : cutM xs k = data at *
    have HDATA := Lib.hid hdata
    clear hdata
    go_wp2_with fail
    refine (encode_yes (fun b => w2.heap.size ≤ b ∧ b < w3.heap.size) _ k us1 data w3 HC3.out HM3.out (fun x hx e => by have := HSZ.out; omega) HDE.out (by have := HNB.out; have := HDC.out; omega)).mono ?_
    rintro e w4 ⟨v4, rfl, hgr, hq⟩
    have HEL : Hid ((encM k m data).length = tt) := by
      show (encM k m data).length = tt
      rw [enc_len HDL.out]
      exact HKM.out.2.2.2.1
    obtain ⟨ga, capa, usa, rfl, hgu⟩ := GrU.of hgr (by rw [HEL.out]; exact HKM.out.2.2.2.2.2)
    rw [HEL.out] at hgu ⊢
    have HGU := Lib.hid hgu
    have HK4 : Hid (Keep (fun _ => False) w w4) := HK3.out.trans' hq.keep (fun i hi e => by have := HFB.out; have e' : i = fb := e; omega)
    have HQ4 : Hid (Keep (· = fb) w3 w4) := ⟨hq.keep.os, hq.keep.tape, hq.keep.output, hq.keep.size, hq.keep.block⟩
    have HF4 : Hid (FieldAt w4 fb) := hq.at_
    have HER : Hid (∀ r ∈ encM k m data, r.length = cutN n k) := enc_rows HDL.out HKM.out.1 HDR.out
    have HTA : Hid (thereB usa = true) := mv_there hgu.mv (fun r hr => by rw [HER.out r hr]; exact HNB.out.1)
    have HGA : Hid (w3.heap.size ≤ ga ∧ ga < w4.heap.size) := ⟨hgu.1, by obtain ⟨_, ⟨cur, h2, _⟩, _⟩ := hgu; exact h2.lt⟩
    clear hgr hq hgu
    have t15 : (tt : Int) ≤ 15 := by have := HKM.out; omega
    have t1 : (1 : Int) ≤ (tt : Int) := by have := HKM.out; omega
    go_wp2_with fail
    go_loopw [15, 16, 17] (fun lf i _ wr => ∃ (j lv : Nat) (us : List Value) (l : List (List UInt8)), j ≤ ng ∧ j ≤ 20 ∧ lf = .int .i64 (lv : Int) ∧ i = .int .i64 (j : Int) ∧ lv ≤ tt ∧
      Hid (GrU (fun b => w3.heap.size ≤ b) w3.heap.size wr ga capa tt us l ∧ Hol (encM k m data) us l ∧ (there_ us).length = lv ∧ Keep (fun b => b = ga) w4 wr)) (fun _ i _ _ => 20 - (intOf i).toNat)
    case atStart => exact ⟨0, tt, usa, encM k m data, Nat.zero_le _, Nat.zero_le _, rfl, rfl, Nat.le_refl _, HGU.out, Hol.start (by rw [HEL.out]; exact HGU.out.2.2.1) HTA.out, by rw [there_full HTA.out]; exact HGU.out.2.2.1, Keep.refl _ _⟩
    case round =>
      obtain ⟨j, lv, us, l, hj1, hj2, rfl, rfl, hlv, HI⟩ := hrel
      obtain ⟨wo, rfl⟩ : ∃ wo : World, wo = wr := ⟨_, rfl⟩
      have HKR : Hid (Keep (fun _ => False) w wo) := HK4.out.trans' HI.out.2.2.2 (fun i hi e => by have := HGA.out; have := HSZ.out; have e' : i = ga := e; omega)
      by_cases hlt : j < ng ∧ j < 20
      · have j0 : (0 : Int) ≤ (j : Int) := by omega
        have jn : (j : Int) < (ng : Int) := by omega
        have j20 : (j : Int) < 20 := by omega
        have HLT := Lib.hid hlt
        obtain ⟨bg, og, z, rfl, _, hz, hcz⟩ := (HG.out.keep HKR.out (fun _ _ _ => id)).at_ hlt.1
        obtain ⟨zz, hzz, hbz0⟩ := and_low z 63 (by omega)
        have hbz : bits .and .i64 z 63 = (zz : Int) := hbz0
        obtain ⟨pz, hpz⟩ : ∃ pz, zz % tt = pz := ⟨_, rfl⟩
        have hpt : pz < tt := by rw [← hpz]; exact Nat.mod_lt _ (by have := HKM.out; omega)
        have hrem : (zz : Int) % (tt : Int) = (pz : Int) := by rw [← hpz]; rfl
        have hrem2 : Int.tmod (zz : Int) (tt : Int) = (pz : Int) := by rw [← hpz]; rfl
        have zz0 : (0 : Int) ≤ (zz : Int) := by omega
        have zz1 : (zz : Int) ≤ 63 := by omega
        have p0 : (0 : Int) ≤ (pz : Int) := by omega
        have p1 : (pz : Int) < (tt : Int) := by omega
        have hul : pz < us.length := by have := HI.out.1.2.2.1; omega
        have hll : pz < l.length := by have := HI.out.1.2.2.2.1; omega
        have hu : us[pz]? = some us[pz] := List.getElem?_eq_getElem hul
        obtain ⟨ha, hf⟩ := HI.out.1.cell hu
        obtain ⟨ra, rn, rc, hue, hq1, hq2, hq3⟩ := HI.out.1.2.2.2.2.2.2 pz _ _ hu (List.getElem?_eq_getElem hll)
        rw [hue] at ha hu
        have hgl : ga < wo.heap.size := by have := HGA.out; have := HI.out.2.2.2.size; omega
        have HU := Lib.hid hu
        have HPT := Lib.hid hpt
        clear hz hbz0 hpz hzz hq1 hq2 hq3 hul hll hu hue hpt hlt hj1 hj2
        cases ra with
        | none =>
          go_wp2_with fail
          go_roundw
          case rel => exact ⟨j + 1, lv, us, l, by have := HLT.out; omega, by have := HLT.out; omega, rfl, by go_num, hlv, HI.out⟩
          case measure => have := HLT.out; simp [intOf]; omega
        | some a' =>
          have HNI : Hid (isnil (us.getD pz undef) = false) := by
            show isnil (us.getD pz undef) = false
            rw [List.getD_eq_getElem?_getD, HU.out]
            rfl
          have HTL : Hid ((there_ (us.set pz (.slice none 0 0))).length + 1 = lv) := by
            show (there_ (us.set pz (.slice none 0 0))).length + 1 = lv
            rw [there_less (by rw [HI.out.1.2.2.1]; exact HPT.out) HNI.out]
            exact HI.out.2.2.1
          obtain ⟨lv', hlv'⟩ : ∃ lv', (there_ (us.set pz (.slice none 0 0))).length = lv' := ⟨_, rfl⟩
          have HLV := Lib.hid hlv'
          have l1 : (1 : Int) ≤ (lv : Int) := by have := HTL.out; omega
          have l2 : (lv : Int) ≤ 15 := by omega
          have hsub : (lv : Int) - 1 = (lv' : Int) := by have h1 := HTL.out; rw [hlv'] at h1; omega
          have HLE : Hid (lv' ≤ tt) := by have h1 := HTL.out; rw [hlv'] at h1; show lv' ≤ tt; omega
          have HKS : Hid (Keep (fun b => b = ga) w4 (wo.setCell ⟨ga, pz, none⟩ (.slice none 0 0))) := HI.out.2.2.2.trans ((Keep.refl (fun b => b = ga) wo).setCell (p := ⟨ga, pz, none⟩) (fun _ => rfl) _)
          clear hlv' hlv
          go_wp2_with fail
          go_roundw
          case rel => exact ⟨j + 1, lv', us.set pz (.slice none 0 0), l.set pz [], by have := HLT.out; omega, by have := HLT.out; omega, rfl, by go_num, HLE.out, HI.out.1.set_ HPT.out, HI.out.2.1.set_ (by rw [HEL.out]; exact HPT.out), HLV.out, HKS.out⟩
          case measure => have := HLT.out; simp [intOf]; omega
      · have hx : (ng ≤ j) ∨ (j < ng ∧ 20 ≤ j) := by omega
        have HKA : Hid (Keep (fun b => b = ga) w4 wo) := HI.out.2.2.2
        have HC5 : Hid (Cd w1.heap.size wo cb fb k m ao2 cap2 us0) := by
          have h1 := HC3.out
          have hs := HSZ.out
          have hga := HGA.out
          have h4 := HQ4.out
          refine ⟨(h1.blk.keep h4 h1.ne).keep HKA.out (by omega), HF4.out.keep HKA.out (by omega), ((HALL3.out.keep h4 (fun b _ hb => hb.1.1)).keep HKA.out (fun b _ hb e => by have e' : b = ga := e; omega)).mono (fun b _ hb => hb.1), h1.le, h1.ne, h1.oldf, h1.oldc, h1.k1, h1.km⟩
        have HM5 : Hid (Mv (fun b => w2.heap.size ≤ b ∧ b < w3.heap.size) wo (some ⟨g, 0, none⟩) k us1 data) := by
          have hs := HSZ.out
          have hga := HGA.out
          exact (HM3.out.keep HQ4.out (fun b _ hb e => by have e' : b = fb := e; omega)).keep HKA.out (fun b _ hb e => by have e' : b = ga := e; omega)
        have HMV : Hid (Mv (fun b => b ≠ fb) wo (some ⟨ga, 0, none⟩) tt us l) := by
          have hs := HSZ.out
          have hga := HGA.out
          exact HI.out.1.mv.mono (fun b _ hb e => by rcases hb with hb | hb <;> omega)
        have HEV := Lib.hid (HI.out.2.1.even HER.out)
        have HTT : Hid (tt ≤ 1000 ∧ tt = k + m) := by show _ ∧ _; have := HKM.out; omega
        have HLV : Hid ((there_ us).length = lv) := HI.out.2.2.1
        have hx1 : (ng ≤ j ∧ (ng : Int) ≤ (j : Int)) ∨ ((j : Int) < (ng : Int) ∧ (20 : Int) ≤ (j : Int)) := by omega
        clear hx hlt hj1 hj2
        by_cases hfew : lv < k
        · have hfew' : (lv : Int) < (k : Int) := by omega
          have HFEW := Lib.hid hfew
          clear hfew
          rcases hx1 with ⟨_, hx2⟩ | ⟨hx3, hx2⟩
          all_goals
            go_wp2_with fail
            refine (decode_few (fun b => b ≠ fb) _ tt capa us l wo HC5.out HMV.out HTT.out.1 HTT.out.2 HEV.out.1 (by rw [HLV.out]; exact HFEW.out)).mono ?_
            rintro e w6 ⟨rfl, hk⟩
            have HK6 := Lib.hid (HKR.out.trans hk)
            clear hk
            go_wp2_with fail
            refine (one6_any w6).mono ?_
            rintro e w9 ⟨rfl, hk9⟩
            have HK9 := Lib.hid (HK6.out.trans hk9)
            clear hk9
            go_wp2_with fail
            go_ret
            exact ⟨rfl, HK9.out⟩
        · have hfew' : (k : Int) ≤ (lv : Int) := by omega
          have HFEW : Hid (k ≤ lv) := by show k ≤ lv; omega
          clear hfew
          rcases hx1 with ⟨_, hx2⟩ | ⟨hx3, hx2⟩
          all_goals
            go_wp2_with fail
            refine (decode_yes (fun b => b ≠ fb) _ tt capa us l wo HC5.out HMV.out HTT.out.1 HTT.out.2 HEV.out.1 (by rw [HLV.out]; exact HFEW.out) (by have := HEV.out.2; have := HNB.out; omega) (fun _ h => h)).mono ?_
            rintro e w6 ⟨hq, v6, D, rfl, hgr, hD⟩
            have hul : us.length = tt := HI.out.1.2.2.1
            have hpl : (pk us k tt).length = k := by
              rw [pk_len us k tt (by omega), List.take_of_length_le (by omega), HLV.out]
              have := HFEW.out
              omega
            have hDD : D = data := dec_data (k := k) (m := m) (n := tt) (L := cutN n k) HTT.out.2 HKM.out.1 hpl HDL.out HDR.out (fun i hi => by
              obtain ⟨h1, h2⟩ := pk_lt us k tt i hi
              exact HI.out.2.1.rows (by rw [HEL.out]; exact h1) h2) hD
            rw [hDD] at hgr
            have HK6 : Hid (Keep (fun _ => False) w w6) := HKR.out.trans' hq.keep (fun i hi e => by have := HFB.out; have e' : i = fb := e; omega)
            have HM6 : Hid (Mv (fun b => w2.heap.size ≤ b ∧ b < w3.heap.size) w6 (some ⟨g, 0, none⟩) k us1 data) := by
              have hs := HSZ.out
              exact HM5.out.keep hq.keep (fun b _ hb e => by have e' : b = fb := e; omega)
            obtain ⟨a6, cap6, rfl, _, _⟩ := hgr.len
            rw [HDL.out] at hgr ⊢
            obtain ⟨us6, hmv⟩ := hgr.mv
            have HV6 : Hid (Mv (fun _ => True) w6 a6 k us6 data) := hmv.mono (fun b _ _ => trivial)
            clear hq hgr hD hul hpl hDD hmv
            go_wp2_with fail
            have HFL : Hid (n ≤ data.flatten.length ∧ data.flatten.length ≤ 1000000) := by
              rw [← HDATA.out]
              refine ⟨by have h1 := cut_flat_len (b := xs) HKM.out.1; rw [HXL.out] at h1; exact h1, ?_⟩
              rw [cut_flat, rowOf_len, HXL.out]
              have h1 := Nat.mul_le_mul HKM.out.2.1 HNB.out.2
              omega
            refine (cjoin_any _ a6 k cap6 n us6 data w6 HV6.out (by have := HKM.out; omega) (by have := HN.out; omega) HFL.out.2).mono ?_
            rintro e w7 ⟨hje, hk⟩
            unfold JoinEnd at hje
            rw [if_neg (by have := HFL.out.1; omega)] at hje
            obtain ⟨v7, rfl, hgb⟩ := hje
            have e7 : data.flatten.take n = xs := by
              have h1 := cut_back (b := xs) HKM.out.1
              rw [HXL.out, HDATA.out] at h1
              exact h1
            rw [e7] at hgb
            obtain ⟨a7, c7, rfl⟩ := hgb.form
            rw [HXL.out]
            have HK7 := Lib.hid (HK6.out.trans hk)
            have HM7 := Lib.hid (HM6.out.keep hk (fun _ _ _ => id))
            have HV7 := Lib.hid (HV6.out.keep hk (fun _ _ _ => id))
            have HGB7 := Lib.hid hgb
            clear hk hgb e7
            go_wp2_with fail
            refine (refsame_is _ _ a6 _ k k cap6 k us6 us1 data data w7 true HV7.out HM7.out (by have := HKM.out; omega) (by have := HKM.out; omega) (by simp)).mono ?_
            rintro e w8 ⟨rfl, hk⟩
            have HK8 := Lib.hid (HK7.out.trans hk)
            have hgb8 := HGB7.out.keep hk (fun _ _ => id)
            obtain ⟨a8, n8, c8, e8, _, _, hrb8⟩ := hgb8.bs
            rw [HXL.out] at e8
            cases e8
            have hcv1 := conv_bytes (cap := c7) hrb8
            have hcv2 := conv_bytes (cap := cap) (HXS.out.keep HK8.out (fun _ _ _ => id))
            have hself : ((bstr xs).toList == (bstr xs).toList) = true := by simp
            clear hk hgb8 hrb8
            go_wp2_with fail
            refine (one6_any w8).mono ?_
            rintro e w10 ⟨rfl, hk10⟩
            have HK10 := Lib.hid (HK8.out.trans hk10)
            clear hk10
            go_wp2_with fail
            go_ret
            exact ⟨rfl, HK10.out⟩

theorem rsBack_walk (W : World) (v0 : Value) (xs : List UInt8) (i0 : Bs (· < W.heap.size) W v0 xs) (p q : Int) (v2 : Value) (gs : List Int) (i2 : Ns (· < W.heap.size) W v2 gs) :
    Calls Try.prog 20 #[v0, .agg #[.int .i64 p, .int .i64 q], v2] W fun e w' => e = .returned (.bool true) ∧ Below W.heap.size W w' := by
  obtain ⟨ao, n, cap, rfl, hc, hx, hr⟩ := i0
  obtain ⟨an, ng, cg, rfl, hgn, hgx, hg, _⟩ := i2
  exact (rsBack_any ao n cap xs p q an ng cg gs W hr hc hx hg hgn hgx).mono fun _ _ ⟨he, hk⟩ => ⟨he, hk.below (Nat.le_refl _) (fun _ _ => id)⟩
end Go.Proofs.Ytegecjilpmkamaa
