/-
  The walk of the law 'MatTurns'.
-/
import Derived.Test.YtegecjilpmkamaaMk
import Derived.Test.YtegecjilpmkamaaGauss
namespace Go.Proofs.Ytegecjilpmkamaa
open Go.RowKit Sb

/-- The matrix whose rows are the columns, of n rows and c columns. -/
theorem turn_turnM {a : List (List UInt8)} {n c : Nat} (hn : a.length = n) (hc : ∀ r ∈ a, r.length = c) : mk n c (fun i j => ent (mk c n (fun i j => ent a j i)) j i) = a := by
  conv => rhs; rw [mk_of hn hc]
  exact mk_congr (fun i j hi hj => mk_ent c n _ j i hj hi)

theorem rank_turnM (a : List (List UInt8)) (n c : Nat) : mrank c n (ent (mk c n (fun i j => ent a j i))) = mrank n c (ent a) := by
  rw [← mrank_tr n c (ent a)]
  exact mrank_congr (fun i j hi hj => mk_ent c n _ i j hi hj)

theorem turn_mulM (a b : List (List UInt8)) (n c k : Nat) : mk c n (fun i j => ent (mk n c (mulE k (ent a) (ent b))) j i) = mk c n (mulE k (ent (mk c k (fun i j => ent b j i))) (ent (mk k n (fun i j => ent a j i)))) := by
  refine mk_congr (fun i j hi hj => ?_)
  rw [mk_ent n c _ j i hj hi]
  have h1 := mulE_tr k (ent a) (ent b) i j
  rw [← h1]
  exact xsum_congr (fun l hl => by rw [mk_ent c k _ i l hi hl, mk_ent k n _ l j hl hj]; rfl)

set_option maxRecDepth 100000 in
set_option maxHeartbeats 4000000 in
theorem matTurns_few1 (P Q : Nat → Prop) (a1 a2 : Option Addr) (n1 n2 c1 c2 : Nat) (us vs : List Value) (a b : List (List UInt8)) (w : World) (h1 : Mv P w a1 n1 us a) (h2 : Mv Q w a2 n2 vs b) (hf : (few a 10 && few b 10) = false) :
    Calls Try.prog 11 #[.slice a1 n1 c1, .slice a2 n2 c2] w fun e w' => e = .returned (.bool true) ∧ Keep (fun _ => False) w w' := by
  have H1 := Lib.hid h1
  have H2 := Lib.hid h2
  have hnt := hnot
  cases ha : few a 10 with
  | false =>
    have HA := Lib.hid ha
    clear h1 h2 hf ha
    go_enter Try.func11, Try.ntmps11
    go_wp2_with fail
    refine (few_no P a1 n1 c1 10 us a w H1.out (by omega) HA.out).mono ?_
    rintro e w1 ⟨rfl, hk⟩
    have HK := Lib.hid hk
    clear hk
    go_wp2_with fail
    go_ret
    exact ⟨rfl, HK.out⟩
  | true =>
    have HA := Lib.hid ha
    rw [ha, Bool.true_and] at hf
    have HB := Lib.hid hf
    clear h1 h2 hf ha
    go_enter Try.func11, Try.ntmps11
    go_wp2_with fail
    refine (few_yes P a1 n1 c1 10 us a w H1.out (by omega) HA.out).mono ?_
    rintro e w1 ⟨rfl, hk⟩
    have HK := Lib.hid hk
    clear hk
    go_wp2_with fail
    refine (few_no Q a2 n2 c2 10 vs b w1 (H2.out.keep HK.out (fun _ _ _ => id)) (by omega) HB.out).mono ?_
    rintro e w2 ⟨rfl, hk⟩
    have HK2 := Lib.hid (HK.out.trans hk)
    clear hk
    go_wp2_with fail
    go_ret
    exact ⟨rfl, HK2.out⟩

set_option maxRecDepth 100000 in
set_option maxHeartbeats 4000000 in
theorem matTurns_nr (P Q : Nat → Prop) (a1 a2 : Option Addr) (n1 n2 c1 c2 : Nat) (us vs : List Value) (a b : List (List UInt8)) (w : World) (h1 : Mv P w a1 n1 us a) (h2 : Mv Q w a2 n2 vs b) (hfa : few a 10 = true) (hfb : few b 10 = true) (hm : mright a = false) :
    Calls Try.prog 11 #[.slice a1 n1 c1, .slice a2 n2 c2] w fun e w' => e = .returned (.bool true) ∧ Keep (fun _ => False) w w' := by
  have H1 := Lib.hid h1
  have H2 := Lib.hid h2
  have HA := Lib.hid hfa
  have HB := Lib.hid hfb
  have HM := Lib.hid hm
  have HN : Hid (n1 ≤ 9223372036854775807) := by
    have h3 := (few_spec hfa).1
    rw [h1.len] at h3
    show n1 ≤ 9223372036854775807
    omega
  have hnt := hnot
  clear h1 h2 hfa hfb hm
  go_enter Try.func11, Try.ntmps11
  go_wp2_with fail
  refine (few_yes P a1 n1 c1 10 us a w H1.out (by omega) HA.out).mono ?_
  rintro e w1 ⟨rfl, hk⟩
  have HK := Lib.hid hk
  clear hk
  go_wp2_with fail
  refine (few_yes Q a2 n2 c2 10 vs b w1 (H2.out.keep HK.out (fun _ _ _ => id)) (by omega) HB.out).mono ?_
  rintro e w2 ⟨rfl, hk⟩
  have HK2 := Lib.hid (HK.out.trans hk)
  clear hk
  go_wp2_with fail
  refine (new_any w2).mono ?_
  rintro e w3 ⟨rfl, rfl⟩
  have HK3 : Hid (Keep (fun _ => False) w (w2.alloc (.cells Try.zeroCells102 102))) := HK2.out.alloc _
  generalize (w2.alloc (.cells Try.zeroCells102 102)) = w3 at *
  go_wp2_with fail
  refine (turn_no P a1 n1 c1 us a w3 (H1.out.keep HK3.out (fun _ _ _ => id)) HN.out HM.out).mono ?_
  rintro e w4 ⟨rfl, hk⟩
  have HK4 := Lib.hid (HK3.out.trans hk)
  clear hk
  go_wp2_with fail
  refine (refright_is P a1 n1 c1 us a w4 false (H1.out.keep HK4.out (fun _ _ _ => id)) HN.out HM.out).mono ?_
  rintro e w5 ⟨rfl, hk⟩
  have HK5 := Lib.hid (HK4.out.trans hk)
  clear hk
  go_wp2_with fail
  refine (one5_any w5).mono ?_
  rintro e w6 ⟨rfl, hk⟩
  have HK6 := Lib.hid (HK5.out.trans hk)
  clear hk
  go_wp2_with fail
  go_ret
  exact ⟨rfl, HK6.out⟩

set_option maxRecDepth 100000 in
set_option maxHeartbeats 8000000 in
theorem matTurns_r (a1 a2 : Option Addr) (n1 n2 c1 c2 : Nat) (us vs : List Value) (a b : List (List UInt8)) (w : World) (h1 : Mv (· < w.heap.size) w a1 n1 us a) (h2 : Mv (· < w.heap.size) w a2 n2 vs b) (hfa : few a 10 = true) (hfb : few b 10 = true) (hm : mright a = true) :
    Calls Try.prog 11 #[.slice a1 n1 c1, .slice a2 n2 c2] w fun e w' => e = .returned (.bool true) ∧ Keep (fun _ => False) w w' := by
  obtain ⟨b1, b2, b3, b4⟩ := right_bounds h1.len hm
  have hmk := mk_right_of h1.len hm
  obtain ⟨q, o, ao', n', cap', r, rfl, _, hu, hm0, hc, _, hmx, hrb⟩ := h1.at_ (k := 0) (by omega)
  rw [Nat.add_zero] at hc
  have hmc := mcols_at hm0
  rw [hrb.len] at hmc
  rw [hmc] at b3 b4 hmk
  have hlt := World.block_lt_of_cell? w _ hc
  have HN2 : Hid (n2 ≤ 10) := by
    have h3 := (few_spec hfb).1
    rw [h2.len] at h3
    exact h3
  have HROWS : Hid (∀ r ∈ a, r.length = n') := fun r hr => ((of_mright hm).2.2 r hr).trans hmc
  have HC := Lib.hid hc
  have HLT := Lib.hid hlt
  have HMC := Lib.hid hmc
  have H1 := Lib.hid h1
  have H2 := Lib.hid h2
  have HA := Lib.hid hfa
  have HB := Lib.hid hfb
  have HM := Lib.hid hm
  have hnt := hnot
  have p1 : (0 : Int) < (n1 : Int) := by omega
  have p2 : (0 : Int) < (n' : Int) := by omega
  have B := Lib.hid (And.intro b1 (And.intro b2 (And.intro b3 b4)))
  clear h1 h2 hfa hfb hm hmk hc hlt hmc hu hm0 hrb hmx b1 b2 b3 b4
  go_enter Try.func11, Try.ntmps11
  go_wp2_with fail
  refine (few_yes _ _ n1 c1 10 us a w H1.out (by omega) HA.out).mono ?_
  rintro e w1 ⟨rfl, hk⟩
  have HK := Lib.hid hk
  clear hk
  go_wp2_with fail
  refine (few_yes _ a2 n2 c2 10 vs b w1 (H2.out.keep HK.out (fun _ _ _ => id)) (by omega) HB.out).mono ?_
  rintro e w2 ⟨rfl, hk⟩
  have HK2 := Lib.hid (HK.out.trans hk)
  clear hk
  go_wp2_with fail
  refine (new_any w2).mono ?_
  rintro e w3 ⟨rfl, rfl⟩
  have HK3 : Hid (Keep (fun _ => False) w (w2.alloc (.cells Try.zeroCells102 102))) := HK2.out.alloc _
  have HF3 : Hid (FieldAt (w2.alloc (.cells Try.zeroCells102 102)) w2.heap.size) := field_new w2
  have HS : Hid (w.heap.size ≤ w2.heap.size) := HK2.out.size
  generalize (w2.alloc (.cells Try.zeroCells102 102)) = w3 at *
  generalize w2.heap.size = fb at *
  go_wp2_with fail
  refine (turn_yes _ _ n1 c1 us a w3 (H1.out.keep HK3.out (fun _ _ _ => id)) HM.out).mono ?_
  rintro e w4 ⟨g, G, rfl, hfl, hk⟩
  rw [HMC.out] at hfl ⊢
  obtain ⟨ts, ht⟩ := hfl.mv B.out.2.2.2 B.out.2.1
  have HT : Hid (Mv (fun b => w3.heap.size ≤ b) w4 (some ⟨g, 0, none⟩) n' ts (mk n' n1 (fun i j => ent a j i))) := ht
  have HK4 := Lib.hid (HK3.out.trans hk)
  have HF4 := Lib.hid (HF3.out.keep hk id)
  have HFB := Lib.hid (HF3.out.lt)
  clear hk hfl ht
  go_wp2_with fail
  refine (refright_is _ _ n1 c1 us a w4 true (H1.out.keep HK4.out (fun _ _ _ => id)) (by have := B.out; omega) HM.out).mono ?_
  rintro e w5 ⟨rfl, hk⟩
  have HK5 := Lib.hid (HK4.out.trans hk)
  have HF5 := Lib.hid (HF4.out.keep hk id)
  have HT5 := Lib.hid (HT.out.keep hk (fun _ _ _ => id))
  clear hk
  go_wp2_with fail
  have HTR : Hid (mright (mk n' n1 (fun i j => ent a j i)) = true) := mk_right _ B.out.2.2.1 B.out.2.2.2 B.out.1 B.out.2.1
  have HTC : Hid (mcols (mk n' n1 (fun i j => ent a j i)) = n1) := mk_cols _ _ B.out.2.2.1
  refine (turn_yes _ _ n' n' ts _ w5 HT5.out HTR.out).mono ?_
  rintro e w6 ⟨g2, G2, rfl, hfl, hk⟩
  rw [HTC.out] at hfl ⊢
  obtain ⟨ts2, ht⟩ := hfl.mv B.out.2.1 B.out.2.2.2
  have HT2 : Hid (Mv (fun b => w5.heap.size ≤ b) w6 (some ⟨g2, 0, none⟩) n1 ts2 (mk n1 n' (fun i j => ent (mk n' n1 (fun i j => ent a j i)) j i))) := ht
  have HK6 := Lib.hid (HK5.out.trans hk)
  have HF6 := Lib.hid (HF5.out.keep hk id)
  have HT6 := Lib.hid (HT5.out.keep hk (fun _ _ _ => id))
  clear hk hfl ht
  go_wp2_with fail
  refine (refsame_is _ _ _ _ n1 n1 n1 c1 ts2 us _ a w6 true HT2.out (H1.out.keep HK6.out (fun _ _ _ => id)) (by have := B.out; omega) (by have := B.out; omega) (same_yes (turn_turnM H1.out.len HROWS.out))).mono ?_
  rintro e w7 ⟨rfl, hk⟩
  have HK7 := Lib.hid (HK6.out.trans hk)
  have HF7 := Lib.hid (HF6.out.keep hk id)
  have HT7 := Lib.hid (HT6.out.keep hk (fun _ _ _ => id))
  clear hk
  go_wp2_with fail
  refine (rank_yes fb _ _ n' n' ts _ w7 HF7.out HT7.out HTR.out).mono ?_
  rintro e w8 ⟨rfl, hq⟩
  rw [HTC.out, rank_turnM]
  have HK8 : Hid (Keep (fun _ => False) w w8) := HK7.out.trans' hq.keep (fun i hi e => by have := HS.out; omega)
  have HF8 := Lib.hid hq.at_
  have HT8 := Lib.hid (HT7.out.keep hq.keep (fun x _ (hx : w3.heap.size ≤ x) (e : x = fb) => by have := HFB.out; omega))
  clear hq
  go_wp2_with fail
  refine (rank_yes fb _ _ n1 c1 us a w8 HF8.out (H1.out.keep HK8.out (fun _ _ _ => id)) HM.out).mono ?_
  rintro e w9 ⟨rfl, hq⟩
  rw [HMC.out]
  have HK9 : Hid (Keep (fun _ => False) w w9) := HK8.out.trans' hq.keep (fun i hi e => by have := HS.out; omega)
  have HF9 := Lib.hid hq.at_
  have ht9 := HT8.out.keep hq.keep (fun x _ (hx : w3.heap.size ≤ x) (e : x = fb) => by have := HFB.out; omega)
  have HT9 := Lib.hid ht9
  have hca : w9.cell? ⟨q, o, none⟩ = some (.slice ao' n' cap') := (HK9.out.cell HLT.out id).trans HC.out
  obtain ⟨q3, o3, ao3, n3, cap3, r3, e3, _, _, hm3, hc3, _, _, hrb3⟩ := ht9.at_ (k := 0) B.out.2.2.1
  cases e3
  rw [mk_get _ _ B.out.2.2.1] at hm3
  cases hm3
  have hn3 : n1 = n3 := by rw [← hrb3.len, rowOf_len]
  subst hn3
  rw [Nat.add_zero] at hc3
  clear hq ht9 hrb3
  go_wp2_with fail
  have HMUL : Hid (mfit a b = true ∨ mfit a b = false) := by cases mfit a b <;> simp [Hid]
  clear hca hc3
  rcases HMUL.out with hfit | hfit
  · have HFIT := Lib.hid hfit
    clear hfit
    refine (mul_yes fb (· < w.heap.size) (· < w.heap.size) _ a2 n1 n2 c1 c2 us vs a b w9 HF9.out (fun x (hx : x < w.heap.size) e => by have := HS.out; omega) (fun x (hx : x < w.heap.size) e => by have := HS.out; omega) (H1.out.keep HK9.out (fun _ _ _ => id)) (H2.out.keep HK9.out (fun _ _ _ => id)) HFIT.out).mono ?_
    rintro e w10 ⟨g4, G4, rfl, hfl, hq⟩
    have HBR : Hid (mright b = true ∧ n' = n2) := by
      have h5 := HFIT.out
      rw [mfit, Bool.and_eq_true, Bool.and_eq_true, decide_eq_true_eq, H2.out.len, HMC.out] at h5
      exact h5.2
    have HBB := Lib.hid (right_bounds H2.out.len HBR.out.1)
    obtain ⟨c, hcb⟩ : ∃ c, c = mcols b := ⟨_, rfl⟩
    rw [← hcb] at hfl HBB
    have HCB := Lib.hid hcb
    obtain ⟨ps, hp⟩ := hfl.mv B.out.2.1 HBB.out.2.2.2
    have HP : Hid (Mv (fun b => w9.heap.size ≤ b) w10 (some ⟨g4, 0, none⟩) n1 ps (mk n1 c (mulE n2 (ent a) (ent b)))) := hp
    have HK10 : Hid (Keep (fun _ => False) w w10) := HK9.out.trans' hq.keep (fun i hi e => by have := HS.out; omega)
    have HF10 := Lib.hid hq.at_
    have HT10 := Lib.hid (HT9.out.keep hq.keep (fun x _ (hx : w3.heap.size ≤ x) (e : x = fb) => by have := HFB.out; omega))
    clear hq hp hfl hcb
    go_wp2_with fail
    refine (turn_yes _ _ n2 c2 vs b w10 (H2.out.keep HK10.out (fun _ _ _ => id)) HBR.out.1).mono ?_
    rintro e w11 ⟨g5, G5, rfl, hfl, hk⟩
    rw [← HCB.out] at hfl ⊢
    obtain ⟨bs, hb⟩ := hfl.mv HBB.out.2.2.2 HBB.out.2.1
    have HBT : Hid (Mv (fun b => w10.heap.size ≤ b) w11 (some ⟨g5, 0, none⟩) c bs (mk c n2 (fun i j => ent b j i))) := hb
    have HK11 := Lib.hid (HK10.out.trans hk)
    have HF11 := Lib.hid (HF10.out.keep hk id)
    have HT11 := Lib.hid (HT10.out.keep hk (fun _ _ _ => id))
    have HP11 := Lib.hid (HP.out.keep hk (fun _ _ _ => id))
    have HF10L := Lib.hid HF10.out.lt
    clear hk hfl hb
    go_wp2_with fail
    have HFIT2 : Hid (mfit (mk c n2 (fun i j => ent b j i)) (mk n' n1 (fun i j => ent a j i)) = true) := by
      show mfit _ _ = true
      rw [mfit, HTR.out, mk_right _ HBB.out.2.2.1 HBB.out.2.2.2 HBB.out.1 HBB.out.2.1, mk_cols _ _ HBB.out.2.2.1, mk_len, HBR.out.2]
      simp
    refine (mul_yes fb (fun b => w10.heap.size ≤ b) (fun b => w3.heap.size ≤ b) _ _ c n' c n' bs ts _ _ w11 HF11.out (fun x (hx : w10.heap.size ≤ x) e => by have := HF10L.out; omega) (fun x (hx : w3.heap.size ≤ x) e => by have := HFB.out; omega) HBT.out HT11.out HFIT2.out).mono ?_
    rintro e w12 ⟨g6, G6, rfl, hfl, hq⟩
    rw [HTC.out] at hfl
    obtain ⟨qs, hqm⟩ := hfl.mv HBB.out.2.2.2 B.out.2.1
    have HQ : Hid (Mv (fun b => w11.heap.size ≤ b) w12 (some ⟨g6, 0, none⟩) c qs (mk c n1 (mulE n' (ent (mk c n2 (fun i j => ent b j i))) (ent (mk n' n1 (fun i j => ent a j i)))))) := hqm
    have HK12 : Hid (Keep (fun _ => False) w w12) := HK11.out.trans' hq.keep (fun i hi e => by have := HS.out; omega)
    have HP12 := Lib.hid (HP11.out.keep hq.keep (fun x _ (hx : w9.heap.size ≤ x) (e : x = fb) => by have := HF9.out.lt; omega))
    clear hq hqm hfl
    go_wp2_with fail
    have HPR : Hid (mright (mk n1 c (mulE n2 (ent a) (ent b))) = true) := mk_right _ B.out.1 B.out.2.1 HBB.out.2.2.1 HBB.out.2.2.2
    have HPC : Hid (mcols (mk n1 c (mulE n2 (ent a) (ent b))) = c) := mk_cols _ _ B.out.1
    refine (turn_yes _ _ n1 n1 ps _ w12 HP12.out HPR.out).mono ?_
    rintro e w13 ⟨g7, G7, rfl, hfl, hk⟩
    rw [HPC.out] at hfl ⊢
    obtain ⟨pts, hpt⟩ := hfl.mv HBB.out.2.2.2 B.out.2.1
    have HPT : Hid (Mv (fun b => w12.heap.size ≤ b) w13 (some ⟨g7, 0, none⟩) c pts (mk c n1 (fun i j => ent (mk n1 c (mulE n2 (ent a) (ent b))) j i))) := hpt
    have HK13 := Lib.hid (HK12.out.trans hk)
    have HQ13 := Lib.hid (HQ.out.keep hk (fun _ _ _ => id))
    clear hk hfl hpt
    go_wp2_with fail
    refine (refsame_is _ _ _ _ c c c c pts qs _ _ w13 true HPT.out HQ13.out (by have := HBB.out; omega) (by have := HBB.out; omega) (same_yes (by rw [HBR.out.2]; exact turn_mulM a b n1 c n2))).mono ?_
    rintro e w14 ⟨rfl, hk⟩
    have HK14 := Lib.hid (HK13.out.trans hk)
    clear hk
    go_wp2_with fail
    refine (one5_any w14).mono ?_
    rintro e w15 ⟨rfl, hk⟩
    have HK15 := Lib.hid (HK14.out.trans hk)
    clear hk
    go_wp2_with fail
    go_ret
    exact ⟨rfl, HK15.out⟩
  · have HFIT := Lib.hid hfit
    clear hfit
    refine (mul_no _ (· < w.heap.size) (· < w.heap.size) _ a2 n1 n2 c1 c2 us vs a b w9 (H1.out.keep HK9.out (fun _ _ _ => id)) (H2.out.keep HK9.out (fun _ _ _ => id)) (by have := B.out; omega) (by have := HN2.out; omega) HFIT.out).mono ?_
    rintro e w10 ⟨rfl, hk⟩
    have HK10 := Lib.hid (HK9.out.trans hk)
    clear hk
    go_wp2_with fail
    refine (one5_any w10).mono ?_
    rintro e w11 ⟨rfl, hk⟩
    have HK11 := Lib.hid (HK10.out.trans hk)
    clear hk
    go_wp2_with fail
    go_ret
    exact ⟨rfl, HK11.out⟩

theorem matTurns_walk (W : World) (v0 : Value) (a : List (List UInt8)) (i0 : Ms (· < W.heap.size) W v0 a) (v1 : Value) (b : List (List UInt8)) (i1 : Ms (· < W.heap.size) W v1 b) :
    Calls Try.prog 11 #[v0, v1] W fun e w' => e = .returned (.bool true) ∧ Below W.heap.size W w' := by
  obtain ⟨a1, n1, c1, us, rfl, _, _, h1⟩ := i0
  obtain ⟨a2, n2, c2, vs, rfl, _, _, h2⟩ := i1
  have hx : Calls Try.prog 11 #[.slice a1 n1 c1, .slice a2 n2 c2] W fun e w' => e = .returned (.bool true) ∧ Keep (fun _ => False) W w' := by
    cases hf : (few a 10 && few b 10) with
    | false => exact matTurns_few1 _ _ a1 a2 n1 n2 c1 c2 us vs a b W h1 h2 hf
    | true =>
      rw [Bool.and_eq_true] at hf
      cases hm : mright a with
      | false => exact matTurns_nr _ _ a1 a2 n1 n2 c1 c2 us vs a b W h1 h2 hf.1 hf.2 hm
      | true => exact matTurns_r a1 a2 n1 n2 c1 c2 us vs a b W h1 h2 hf.1 hf.2 hm
  exact hx.mono fun _ _ ⟨he, hk⟩ => ⟨he, hk.below (Nat.le_refl _) (fun _ _ => id)⟩
end Go.Proofs.Ytegecjilpmkamaa
