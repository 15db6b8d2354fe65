/-
  The walk of the law 'MatBack'.
-/
import Derived.Test.YtegecjilpmkamaaBack
namespace Go.Proofs.Ytegecjilpmkamaa
open Go.RowKit Sb

theorem oneM_mk (n : Nat) : oneM n = mk n n idE := rfl

theorem mk_mul {n : Nat} {A B X Y : Nat → Nat → UInt8} (hA : Eqm n n A X) (hB : Eqm n n B Y) (h : Eqm n n (mulE n X Y) idE) : mk n n (mulE n A B) = oneM n := by
  rw [oneM_mk]
  exact mk_congr (fun i j hi hj => ((hA.mul hB).trans h) i j hi hj)

theorem inv_unique {n : Nat} {A X Y : Nat → Nat → UInt8} (h1 : Eqm n n (mulE n A X) idE) (h2 : Eqm n n (mulE n X Y) idE) : Eqm n n Y A :=
  ((Eqm.id_ n n Y).symm.trans (h1.symm.mul (Eqm.refl n n Y))).trans ((Eqm.assoc n n n n A X Y).trans (((Eqm.refl n n A).mul h2).trans (Eqm.id_' n n A)))

theorem take_succ_get {m : List (List UInt8)} {k : Nat} {r : List UInt8} (h : m[k]? = some r) : m.take k ++ [r] = m.take (k + 1) := by
  rw [List.take_add_one, h]
  rfl

set_option maxRecDepth 100000 in
set_option maxHeartbeats 8000000 in
theorem matBack_few (P : Nat → Prop) (a1 : Option Addr) (n1 c1 : Nat) (us : List Value) (a : List (List UInt8)) (w : World) (h1 : Mv P w a1 n1 us a) (hf : few a 10 = false) :
    Calls Try.prog 14 #[.slice a1 n1 c1] w fun e w' => e = .returned (.bool true) ∧ Keep (fun _ => False) w w' := by
  have H1 := Lib.hid h1
  have HA := Lib.hid hf
  clear h1 hf
  go_enter Try.func14, Try.ntmps14
  go_wp2_with fail
  refine (few_no P a1 n1 c1 10 us a w H1.out (by omega) HA.out).mono ?_
  rintro e w1 ⟨rfl, hk⟩
  have HK := Lib.hid hk
  clear hk
  go_wp2_with fail
  go_ret
  exact ⟨rfl, HK.out⟩

set_option maxRecDepth 100000 in
set_option maxHeartbeats 8000000 in
theorem matBack_r (a1 : Option Addr) (n1 c1 : Nat) (us : List Value) (a : List (List UInt8)) (w : World) (h1 : Mv (· < w.heap.size) w a1 n1 us a) (hfa : few a 10 = true) :
    Calls Try.prog 14 #[.slice a1 n1 c1] w fun e w' => e = .returned (.bool true) ∧ Keep (fun _ => False) w w' := by
  have hsp := few_spec hfa
  have HN : Hid (n1 ≤ 10) := by
    have h3 := hsp.1
    rw [h1.len] at h3
    exact h3
  have HROW : Hid (∀ r ∈ a, r.length ≤ 10) := hsp.2
  have H1 := Lib.hid h1
  have HA := Lib.hid hfa
  have hnt := hnot
  have p3 : (n1 : Int) ≤ 10 := by have := HN.out; omega
  clear h1 hfa hsp
  obtain ⟨i0, hi0, hz0, hz1, hz2⟩ := info_parts info5
  go_enter Try.func14, Try.ntmps14
  go_wp2_with fail
  refine (few_yes _ _ n1 c1 10 us a w H1.out (by omega) HA.out).mono ?_
  rintro e w1 ⟨rfl, hk⟩
  have HK := Lib.hid hk
  clear hk
  go_wp2_with fail
  refine (new_any w1).mono ?_
  rintro e w3 ⟨rfl, rfl⟩
  have HK3 : Hid (Keep (fun _ => False) w (w1.alloc (.cells Try.zeroCells102 102))) := HK.out.alloc _
  have HF3 : Hid (FieldAt (w1.alloc (.cells Try.zeroCells102 102)) w1.heap.size) := field_new w1
  have HS : Hid (w.heap.size ≤ w1.heap.size) := HK.out.size
  generalize (w1.alloc (.cells Try.zeroCells102 102)) = w3 at *
  generalize w1.heap.size = fb at *
  have HFB := Lib.hid HF3.out.lt
  go_wp2_with fail
  go_loopw [4, 5] (fun s i wr => ∃ k : Nat, k ≤ n1 ∧ i = .int .i64 (k : Int) ∧
      Hid (Gr (fun x => w3.heap.size ≤ x) w3.heap.size wr s (a.take k) ∧ Keep (fun _ => False) w3 wr)) (fun _ i _ => n1 - (intOf i).toNat)
  case atStart => exact ⟨0, Nat.zero_le _, rfl, Gr.nil _ _ _, Keep.refl _ _⟩
  case round =>
    obtain ⟨k, hk, rfl, HI⟩ := hrel
    obtain ⟨wo, rfl⟩ : ∃ wo : World, wo = wr := ⟨_, rfl⟩
    obtain ⟨s, rfl⟩ : ∃ s : Value, s = u4 := ⟨_, rfl⟩
    by_cases hltk : k < n1
    · have k0 : (0 : Int) ≤ (k : Int) := by omega
      have kn : (k : Int) < (n1 : Int) := by omega
      have HLTK := Lib.hid hltk
      have HMW := Lib.hid (H1.out.keep (HK3.out.trans HI.out.2) (fun _ _ _ => id))
      obtain ⟨qa, oa, ra, na, ca, rr, rfl, _, hua, hra, hcra, _, _, hrba⟩ := HMW.out.at_ hltk
      have HRA := Lib.hid hra
      have HRB := Lib.hid hrba
      have HNA : Hid (na ≤ 10 ∧ rr.length = na) := ⟨by have := HROW.out rr (List.mem_of_getElem? hra); rw [hrba.len] at this; exact this, hrba.len⟩
      have hcra2 : (wo.alloc (.cells #[] 5)).cell? ⟨qa, oa + k, none⟩ = some (.slice ra na ca) := ((Keep.refl (fun _ => False) wo).alloc (.cells #[] 5) |>.cell (p := ⟨qa, oa + k, none⟩) (World.block_lt_of_cell? _ _ hcra) id).trans hcra
      have HLEN : Hid ((a.take k).length = k) := by
        show (a.take k).length = k
        rw [List.length_take, H1.out.len]
        omega
      clear hltk hua hra hrba
      go_wp2_with (first
        | (at_builtin; refine wpl_append _ rfl (.tmp 25) (.tmp 29) 33 rfl wo.heap.size 5 i0 (.int .u8 0) 1 Try.underlying33 hi0 hz0 hz1 hz2 rfl (.slice (some ⟨wo.heap.size, 0, none⟩) 0 0) 0 [] rfl (World.ownsRow_made wo #[] 0 (Nat.le_refl _) (Nat.zero_le _) rfl) (· < w.heap.size) ra na ca (rr.map bv) rfl (HRB.out.keep ((Keep.refl (fun _ => False) wo).alloc _) (fun _ _ _ => id)) bytes_one (by have := HNA.out; unfold maxLen; omega) (by have := HNA.out; omega) (by simp) ?_; intro v1 wa hown1 hg1 hnil1 hat1; have hka : Keep (fun _ => False) wo wa := ((Keep.refl _ wo).alloc _).grown hg1 (fun k hk h => by simp [Value.ownBlock] at hk; omega); have hgb : Gb wo.heap.size wa v1 rr := (by unfold Gb; rw [HNA.out.2]; simpa using hown1); have hgb2 := Lib.hid hgb; obtain ⟨au, nu, cu, rfl, hb1, hb2, hb3⟩ := hgb.bs; clear hb1 hb2 hb3 hown1 hg1 hnil1 hat1 hgb)
        | (at_builtin; refine wpl_grow1 wa rfl (.tmp 24) (.tmp 31) 40 Try.underlying40 rfl (fun x => w3.heap.size ≤ x) w3.heap.size s (.slice au nu cu) (a.take k) rr wa.heap.size rfl rfl rfl (HI.out.1.keep hka (fun _ _ => id) (fun _ _ _ _ => id)) (hgb2.out.bs.mono (fun b _ (hb : wo.heap.size ≤ b) => ⟨Nat.le_trans HI.out.2.size hb, fun e => by obtain ⟨us, h1, _⟩ := HI.out.1; have := (h1.lt _ e).2; omega⟩)) (by rw [HLEN.out]; omega) (Nat.le_trans HI.out.2.size hka.size) ?_; intro v2 wb hgr hkp))
      have HG : Hid (Gr (fun x => w3.heap.size ≤ x) w3.heap.size wb v2 (a.take (k + 1))) := by
        rw [← take_succ_get HRA.out]
        exact hgr
      have HKP : Hid (Keep (fun _ => False) w3 wb) := by
        obtain ⟨us, h1, _⟩ := HI.out.1
        exact (HI.out.2.trans hka).trans' hkp (fun i hi e => by have := (h1.lt _ e).1; omega)
      clear hgr hkp hka hgb2 hcra hcra2
      go_wp2_with fail
      go_roundw
      case rel => exact ⟨k + 1, by have := HLTK.out; omega, by go_num, HG.out, HKP.out⟩
      case measure => have := HLTK.out; simp [intOf]; omega
    · have hkn : (n1 : Int) ≤ (k : Int) := by omega
      have hke : k = n1 := by omega
      rw [hke] at HI
      have HLA : Hid (a.length = n1) := H1.out.len
      have HGA : Hid (Gr (fun x => w3.heap.size ≤ x) w3.heap.size wo s a) := by
        have h9 := HI.out.1
        rw [List.take_of_length_le (by rw [HLA.out]; omega)] at h9
        exact h9
      have HKO := Lib.hid HI.out.2
      obtain ⟨as_, caps, hs1, _, _⟩ := HGA.out.len
      rw [HLA.out] at hs1
      subst hs1
      obtain ⟨ws, hws⟩ := HGA.out.mv
      have HWAS := Lib.hid hws
      have HKW := Lib.hid (HK3.out.trans HI.out.2)
      have HFO := Lib.hid (HF3.out.keep HI.out.2 id)
      have HFBO : Hid (fb < wo.heap.size) := HFO.out.lt
      clear hke HI hltk hk hws
      go_wp2_with fail
      by_cases hsq : mright a = true ∧ mcols a = n1
      · have HSQ := Lib.hid hsq
        have HB := Lib.hid (right_bounds H1.out.len hsq.1)
        clear hsq
        refine (back_yes fb (· < w.heap.size) a1 n1 c1 us a wo HFO.out (H1.out.keep HKW.out (fun _ _ _ => id)) HSQ.out.1 HSQ.out.2).mono ?_
        rintro e w4 ⟨hq, hcase⟩
        have HK4 : Hid (Keep (fun _ => False) w w4) := HKW.out.trans' hq.keep (fun i hi e => by have := HS.out; omega)
        have HF4 := Lib.hid hq.at_
        have HW4 := Lib.hid (HWAS.out.keep hq.keep (fun x _ (hx : w3.heap.size ≤ x ∨ w3.heap.size ≤ x) (e : x = fb) => by have := HFB.out; omega))
        clear hq
        obtain ⟨q, o, ao', n', cap', r, rfl, _, hu, hm0, hc, _, hmx, hrb⟩ := H1.out.at_ (k := 0) (by have := HB.out; omega)
        rw [Nat.add_zero] at hc
        have hmc := mcols_at hm0
        rw [hrb.len, HSQ.out.2] at hmc
        subst hmc
        have HC := Lib.hid hc
        have HLT := Lib.hid (World.block_lt_of_cell? _ _ hc)
        have p1 : (0 : Int) < (n1 : Int) := by have := HB.out; omega
        clear hu hm0 hc hmx hrb
        rcases hcase with ⟨rfl, hrk⟩ | ⟨g, X, rfl, hg, hom, hx1, hx2⟩
        · have HRK := Lib.hid hrk
          clear hrk
          go_wp2_with fail
          refine (refsame_is _ _ _ _ n1 n1 caps c1 ws us a a w4 true HW4.out (H1.out.keep HK4.out (fun _ _ _ => id)) (by have := HB.out; omega) (by have := HB.out; omega) (same_yes rfl)).mono ?_
          rintro e w5 ⟨rfl, hk⟩
          have HK5 := Lib.hid (HK4.out.trans hk)
          have HF5 := Lib.hid (HF4.out.keep hk id)
          clear hk
          go_wp2_with fail
          refine (refright_is _ _ n1 c1 us a w5 true (H1.out.keep HK5.out (fun _ _ _ => id)) (by have := HB.out; omega) HSQ.out.1).mono ?_
          rintro e w6 ⟨rfl, hk⟩
          have HK6 := Lib.hid (HK5.out.trans hk)
          have HF6 := Lib.hid (HF5.out.keep hk id)
          have hc6 := (HK6.out.cell (p := ⟨q, o, none⟩) HLT.out id).trans HC.out
          clear hk
          go_wp2_with fail
          clear hc6
          refine (rank_yes fb _ _ n1 c1 us a w6 HF6.out (H1.out.keep HK6.out (fun _ _ _ => id)) HSQ.out.1).mono ?_
          rintro e w7 ⟨rfl, hq⟩
          rw [HSQ.out.2]
          have HK7 : Hid (Keep (fun _ => False) w w7) := HK6.out.trans' hq.keep (fun i hi e => by have := HS.out; omega)
          obtain ⟨rk, hrk⟩ : ∃ rk, rk = mrank n1 n1 (ent a) := ⟨_, rfl⟩
          rw [← hrk]
          have r0 : (rk : Int) < (n1 : Int) := by have := HRK.out; omega
          clear hq hrk
          go_wp2_with fail
          refine (one5_any w7).mono ?_
          rintro e w8 ⟨rfl, hk⟩
          have HK8 := Lib.hid (HK7.out.trans hk)
          clear hk
          go_wp2_with fail
          go_ret
          exact ⟨rfl, HK8.out⟩
        · obtain ⟨xs, hxm⟩ := hom.ms hg
          have HX : Hid (Mv (fun b => wo.heap.size ≤ b) w4 (some ⟨g, 0, none⟩) n1 xs (mk n1 n1 X)) := hxm
          have HX1 := Lib.hid hx1
          have HX2 := Lib.hid hx2
          have HXR : Hid (mright (mk n1 n1 X) = true) := mk_right _ HB.out.1 HB.out.2.1 HB.out.1 HB.out.2.1
          have HXC : Hid (mcols (mk n1 n1 X) = n1) := mk_cols _ _ HB.out.1
          have HXE : Hid (Eqm n1 n1 (ent (mk n1 n1 X)) X) := mk_ent n1 n1 X
          clear hxm hom hg hx1 hx2
          go_wp2_with fail
          refine (refsame_is _ _ _ _ n1 n1 caps c1 ws us a a w4 true HW4.out (H1.out.keep HK4.out (fun _ _ _ => id)) (by have := HB.out; omega) (by have := HB.out; omega) (same_yes rfl)).mono ?_
          rintro e w5 ⟨rfl, hk⟩
          have HK5 := Lib.hid (HK4.out.trans hk)
          have HF5 := Lib.hid (HF4.out.keep hk id)
          have HX5 := Lib.hid (HX.out.keep hk (fun _ _ _ => id))
          clear hk
          go_wp2_with fail
          refine (refright_is _ _ n1 c1 us a w5 true (H1.out.keep HK5.out (fun _ _ _ => id)) (by have := HB.out; omega) HSQ.out.1).mono ?_
          rintro e w6 ⟨rfl, hk⟩
          have HK6 := Lib.hid (HK5.out.trans hk)
          have HF6 := Lib.hid (HF5.out.keep hk id)
          have HX6 := Lib.hid (HX5.out.keep hk (fun _ _ _ => id))
          have hc6 := (HK6.out.cell (p := ⟨q, o, none⟩) HLT.out id).trans HC.out
          clear hk
          go_wp2_with fail
          clear hc6
          refine (rank_yes fb _ _ n1 c1 us a w6 HF6.out (H1.out.keep HK6.out (fun _ _ _ => id)) HSQ.out.1).mono ?_
          rintro e w7 ⟨rfl, hq⟩
          rw [HSQ.out.2, rank_of_right HX1.out]
          have HK7 : Hid (Keep (fun _ => False) w w7) := HK6.out.trans' hq.keep (fun i hi e => by have := HS.out; omega)
          have HF7 := Lib.hid hq.at_
          have HX7 := Lib.hid (HX6.out.keep hq.keep (fun x _ (hx : wo.heap.size ≤ x) (e : x = fb) => by have := HFBO.out; omega))
          clear hq
          go_wp2_with fail
          have HFIT1 : Hid (mfit a (mk n1 n1 X) = true) := by
            show mfit _ _ = true
            rw [mfit, HXR.out, HSQ.out.1, HSQ.out.2, mk_len]
            simp
          refine (mul_yes fb (· < w.heap.size) (fun b => wo.heap.size ≤ b) _ _ n1 n1 c1 n1 us xs a _ w7 HF7.out (fun x (hx : x < w.heap.size) e => by have := HS.out; omega) (fun x (hx : wo.heap.size ≤ x) e => by have := HFBO.out; omega) (H1.out.keep HK7.out (fun _ _ _ => id)) HX7.out HFIT1.out).mono ?_
          rintro e w8 ⟨g8, G8, rfl, hfl, hq⟩
          rw [HXC.out] at hfl
          obtain ⟨as8, ha8⟩ := hfl.mv HB.out.2.1 HB.out.2.1
          have HA8 : Hid (Mv (fun b => w7.heap.size ≤ b) w8 (some ⟨g8, 0, none⟩) n1 as8 (oneM n1)) := by
            rw [← mk_mul (Eqm.refl n1 n1 (ent a)) HXE.out HX1.out]
            exact ha8
          have HK8 : Hid (Keep (fun _ => False) w w8) := HK7.out.trans' hq.keep (fun i hi e => by have := HS.out; omega)
          have HF8 := Lib.hid hq.at_
          have HX8 := Lib.hid (HX7.out.keep hq.keep (fun x _ (hx : wo.heap.size ≤ x) (e : x = fb) => by have := HFBO.out; omega))
          have HFB7 : Hid (fb < w7.heap.size) := HF7.out.lt
          clear hq hfl ha8
          go_wp2_with fail
          have HFIT2 : Hid (mfit (mk n1 n1 X) a = true) := by
            show mfit _ _ = true
            rw [mfit, HXR.out, HSQ.out.1, HXC.out, H1.out.len]
            simp
          refine (mul_yes fb (fun b => wo.heap.size ≤ b) (· < w.heap.size) _ _ n1 n1 n1 c1 xs us _ a w8 HF8.out (fun x (hx : wo.heap.size ≤ x) e => by have := HFBO.out; omega) (fun x (hx : x < w.heap.size) e => by have := HS.out; omega) HX8.out (H1.out.keep HK8.out (fun _ _ _ => id)) HFIT2.out).mono ?_
          rintro e w9 ⟨g9, G9, rfl, hfl, hq⟩
          rw [HSQ.out.2] at hfl
          obtain ⟨as9, ha9⟩ := hfl.mv HB.out.2.1 HB.out.2.1
          have HA9 : Hid (Mv (fun b => w8.heap.size ≤ b) w9 (some ⟨g9, 0, none⟩) n1 as9 (oneM n1)) := by
            rw [← mk_mul HXE.out (Eqm.refl n1 n1 (ent a)) HX2.out]
            exact ha9
          have HK9 : Hid (Keep (fun _ => False) w w9) := HK8.out.trans' hq.keep (fun i hi e => by have := HS.out; omega)
          have HF9 := Lib.hid hq.at_
          have HX9 := Lib.hid (HX8.out.keep hq.keep (fun x _ (hx : wo.heap.size ≤ x) (e : x = fb) => by have := HFBO.out; omega))
          have HA89 := Lib.hid (HA8.out.keep hq.keep (fun x _ (hx : w7.heap.size ≤ x) (e : x = fb) => by have := HFB7.out; omega))
          have HFB8 : Hid (fb < w8.heap.size) := HF8.out.lt
          clear hq hfl ha9
          go_wp2_with fail
          refine (back_yes fb (fun b => wo.heap.size ≤ b) _ n1 n1 xs (mk n1 n1 X) w9 HF9.out HX9.out HXR.out HXC.out).mono ?_
          rintro e w10 ⟨hq, hcase⟩
          have HK10 : Hid (Keep (fun _ => False) w w10) := HK9.out.trans' hq.keep (fun i hi e => by have := HS.out; omega)
          have HA810 := Lib.hid (HA89.out.keep hq.keep (fun x _ (hx : w7.heap.size ≤ x) (e : x = fb) => by have := HFB7.out; omega))
          have HA910 := Lib.hid (HA9.out.keep hq.keep (fun x _ (hx : w8.heap.size ≤ x) (e : x = fb) => by have := HFB8.out; omega))
          clear hq
          rcases hcase with ⟨_, hrk⟩ | ⟨g2, Y, rfl, hg2, hom, hy1, hy2⟩
          · have h9 := rank_of_right (n := n1) (F := ent (mk n1 n1 X)) (X := ent a) ((HXE.out.mul (Eqm.refl n1 n1 (ent a))).trans HX2.out)
            exact absurd hrk (by omega)
          obtain ⟨ys, hym⟩ := hom.ms hg2
          have hY : (List.range n1).map (fun i => rowOf n1 (Y i)) = a := by
            have e1 : Eqm n1 n1 Y (ent a) := inv_unique HX1.out (((HXE.out.symm).mul (Eqm.refl n1 n1 Y)).trans hy1)
            have e2 : mk n1 n1 Y = mk n1 n1 (ent a) := mk_congr e1
            have e3 := mk_right_of H1.out.len HSQ.out.1
            rw [HSQ.out.2] at e3
            rw [e3]
            exact e2
          rw [hY] at hym
          have HY := Lib.hid hym
          clear hym hom hg2 hy1 hy2 hY
          go_wp2_with fail
          refine (refone_any n1 w10 (by have := HB.out; omega)).mono ?_
          rintro e w11 ⟨v11, rfl, hgr, hk⟩
          obtain ⟨ao11, cap11, rfl, _, _⟩ := hgr.len
          obtain ⟨us11, hmv11⟩ := hgr.mv
          have HLO : Hid ((oneM n1).length = n1) := by show (oneM n1).length = n1; simp [oneM]
          rw [HLO.out] at hmv11 ⊢
          have HM11 := Lib.hid hmv11
          have HK11 := Lib.hid (HK10.out.trans hk)
          have HA811 := Lib.hid (HA810.out.keep hk (fun _ _ _ => id))
          have HA911 := Lib.hid (HA910.out.keep hk (fun _ _ _ => id))
          have HY11 := Lib.hid (HY.out.keep hk (fun _ _ _ => id))
          clear hk hgr hmv11
          go_wp2_with fail
          refine (refsame_is _ _ _ _ n1 n1 n1 cap11 as8 us11 _ _ w11 true HA811.out HM11.out (by have := HB.out; omega) (by have := HB.out; omega) (same_yes rfl)).mono ?_
          rintro e w12 ⟨rfl, hk⟩
          have HK12 := Lib.hid (HK11.out.trans hk)
          have HA912 := Lib.hid (HA911.out.keep hk (fun _ _ _ => id))
          have HY12 := Lib.hid (HY11.out.keep hk (fun _ _ _ => id))
          clear hk
          go_wp2_with fail
          refine (refone_any n1 w12 (by have := HB.out; omega)).mono ?_
          rintro e w13 ⟨v13, rfl, hgr, hk⟩
          obtain ⟨ao13, cap13, rfl, _, _⟩ := hgr.len
          obtain ⟨us13, hmv13⟩ := hgr.mv
          rw [HLO.out] at hmv13 ⊢
          have HM13 := Lib.hid hmv13
          have HK13 := Lib.hid (HK12.out.trans hk)
          have HA913 := Lib.hid (HA912.out.keep hk (fun _ _ _ => id))
          have HY13 := Lib.hid (HY12.out.keep hk (fun _ _ _ => id))
          clear hk hgr hmv13
          go_wp2_with fail
          refine (refsame_is _ _ _ _ n1 n1 n1 cap13 as9 us13 _ _ w13 true HA913.out HM13.out (by have := HB.out; omega) (by have := HB.out; omega) (same_yes rfl)).mono ?_
          rintro e w14 ⟨rfl, hk⟩
          have HK14 := Lib.hid (HK13.out.trans hk)
          have HY14 := Lib.hid (HY13.out.keep hk (fun _ _ _ => id))
          clear hk
          go_wp2_with fail
          refine (refsame_is _ _ _ _ n1 n1 n1 c1 ys us _ a w14 true HY14.out (H1.out.keep HK14.out (fun _ _ _ => id)) (by have := HB.out; omega) (by have := HB.out; omega) (same_yes rfl)).mono ?_
          rintro e w15 ⟨rfl, hk⟩
          have HK15 := Lib.hid (HK14.out.trans hk)
          clear hk
          go_wp2_with fail
          refine (one5_any w15).mono ?_
          rintro e w16 ⟨rfl, hk⟩
          have HK16 := Lib.hid (HK15.out.trans hk)
          clear hk
          go_wp2_with fail
          go_ret
          exact ⟨rfl, HK16.out⟩
      · have HNO : Hid (mright a = false ∨ n1 ≠ mcols a) := by
          cases hm : mright a with
          | false => exact .inl rfl
          | true => exact .inr (fun e => hsq ⟨hm, e.symm⟩)
        clear hsq
        refine (back_no _ (· < w.heap.size) a1 n1 c1 us a wo (H1.out.keep HKW.out (fun _ _ _ => id)) (by have := HN.out; omega) HNO.out).mono ?_
        rintro e w4 ⟨rfl, hk⟩
        have HK4 := Lib.hid (HKW.out.trans hk)
        have HW4 := Lib.hid (HWAS.out.keep hk (fun _ _ _ => id))
        clear hk
        go_wp2_with fail
        refine (refsame_is _ _ _ _ n1 n1 caps c1 ws us a a w4 true HW4.out (H1.out.keep HK4.out (fun _ _ _ => id)) (by have := HN.out; omega) (by have := HN.out; omega) (same_yes rfl)).mono ?_
        rintro e w5 ⟨rfl, hk⟩
        have HK5 := Lib.hid (HK4.out.trans hk)
        clear hk
        go_wp2_with fail
        cases hm : mright a with
        | false =>
          have HM := Lib.hid hm
          clear hm
          refine (refright_is _ _ n1 c1 us a w5 false (H1.out.keep HK5.out (fun _ _ _ => id)) (by have := HN.out; omega) HM.out).mono ?_
          rintro e w6 ⟨rfl, hk⟩
          have HK6 := Lib.hid (HK5.out.trans hk)
          clear hk
          go_wp2_with fail
          refine (one5_any w6).mono ?_
          rintro e w8 ⟨rfl, hk⟩
          have HK8 := Lib.hid (HK6.out.trans hk)
          clear hk
          go_wp2_with fail
          go_ret
          exact ⟨rfl, HK8.out⟩
        | true =>
          have HM := Lib.hid hm
          have HB := Lib.hid (right_bounds H1.out.len hm)
          obtain ⟨q, o, ao', n', cap', r, rfl, _, hu, hm0, hc, _, hmx, hrb⟩ := H1.out.at_ (k := 0) (by have := HB.out; omega)
          rw [Nat.add_zero] at hc
          have hmc := mcols_at hm0
          rw [hrb.len] at hmc
          have hne : ((n1 : Int) != (n' : Int)) = true := by
            rw [bne_iff_ne]
            rcases HNO.out with h | h
            · rw [h] at hm; cases hm
            · omega
          have HC := Lib.hid hc
          have HLT := Lib.hid (World.block_lt_of_cell? _ _ hc)
          have p1 : (0 : Int) < (n1 : Int) := by have := HB.out; omega
          clear hu hm0 hc hmx hrb hmc hm
          refine (refright_is _ _ n1 c1 us a w5 true (H1.out.keep HK5.out (fun _ _ _ => id)) (by have := HN.out; omega) HM.out).mono ?_
          rintro e w6 ⟨rfl, hk⟩
          have HK6 := Lib.hid (HK5.out.trans hk)
          have hc6 := (HK6.out.cell (p := ⟨q, o, none⟩) HLT.out id).trans HC.out
          clear hk
          go_wp2_with fail
          refine (one5_any w6).mono ?_
          rintro e w8 ⟨rfl, hk⟩
          have HK8 := Lib.hid (HK6.out.trans hk)
          clear hk
          go_wp2_with fail
          go_ret
          exact ⟨rfl, HK8.out⟩

theorem matBack_walk (W : World) (v0 : Value) (a : List (List UInt8)) (i0 : Ms (· < W.heap.size) W v0 a) :
    Calls Try.prog 14 #[v0] W fun e w' => e = .returned (.bool true) ∧ Below W.heap.size W w' := by
  obtain ⟨a1, n1, c1, us, rfl, _, _, h1⟩ := i0
  have hx : Calls Try.prog 14 #[.slice a1 n1 c1] W fun e w' => e = .returned (.bool true) ∧ Keep (fun _ => False) W w' := by
    cases hf : few a 10 with
    | false => exact matBack_few _ a1 n1 c1 us a W h1 hf
    | true => exact matBack_r a1 n1 c1 us a W h1 hf
  exact hx.mono fun _ _ ⟨he, hk⟩ => ⟨he, hk.below (Nat.le_refl _) (fun _ _ => id)⟩
end Go.Proofs.Ytegecjilpmkamaa
