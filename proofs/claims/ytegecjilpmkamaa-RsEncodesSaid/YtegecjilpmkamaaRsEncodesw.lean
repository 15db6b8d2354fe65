/-
  The walk of the law RsEncodes: for every input it answers true.
-/
import Derived.Test.YtegecjilpmkamaaRefe
namespace Go.Proofs.Ytegecjilpmkamaa
open Go.RowKit Sb

theorem and_small (x : Int) (c : Nat) (hc : c ≤ 255) : ∃ m : Nat, m ≤ c ∧ bits .and .i64 x (c : Int) = (m : Int) := by
  refine ⟨(BitVec.ofInt 64 x &&& BitVec.ofInt 64 (c : Int)).toNat, ?_, ?_⟩
  · rw [BitVec.toNat_and]
    have h2 : (BitVec.ofInt 64 (c : Int)).toNat = c := by
      rw [BitVec.ofInt_natCast, BitVec.toNat_ofNat]; exact Nat.mod_eq_of_lt (by omega)
    rw [h2]
    exact Nat.and_le_right
  · have h3 : (BitVec.ofInt 64 x &&& BitVec.ofInt 64 (c : Int)).toNat ≤ 255 := by
      rw [BitVec.toNat_and]
      have h2 : (BitVec.ofInt 64 (c : Int)).toNat = c := by
        rw [BitVec.ofInt_natCast, BitVec.toNat_ofNat]; exact Nat.mod_eq_of_lt (by omega)
      rw [h2]
      exact Nat.le_trans Nat.and_le_right hc
    show IntKind.i64.wrap ((BitVec.ofInt 64 x &&& BitVec.ofInt 64 (c : Int)).toNat : Int) = _
    exact IntWalk.i64_in _ (by omega)

/-- Of the first rows: are all there, and of the length of the first? -/
def fitP (us : List Value) (l : List (List UInt8)) (j : Nat) : Bool := (us.take j).all (fun u => !isnil u) && (l.take j).all (fun r => decide (r.length = mcols l))

theorem fitP_step {us : List Value} {l : List (List UInt8)} {j : Nat} {u : Value} {r : List UInt8} (hu : us[j]? = some u) (hr : l[j]? = some r) : fitP us l (j + 1) = (fitP us l j && (!isnil u && decide (r.length = mcols l))) := by
  unfold fitP
  rw [List.take_add_one, List.take_add_one, hu, hr]
  simp only [Option.toList_some, List.all_append, List.all_cons, List.all_nil, Bool.and_true]
  cases (us.take j).all (fun u => !isnil u) <;> cases isnil u <;> simp

theorem fitP_end {us : List Value} {l : List (List UInt8)} {k : Nat} (hu : us.length = k) (hl : l.length = k) : fitP us l k = evenB us l := by
  unfold fitP evenB
  rw [List.take_of_length_le (by omega), List.take_of_length_le (by omega)]

/-- Of a list that does not meet p everywhere, the first that does not. -/
theorem first_not (p : Nat → Prop) [DecidablePred p] : ∀ n, (∃ i, i < n ∧ ¬ p i) → ∃ q, q < n ∧ ¬ p q ∧ ∀ i, i < q → p i := by
  intro n
  induction n with
  | zero => rintro ⟨i, hi, _⟩; omega
  | succ n ih =>
    rintro ⟨i, hi, hp⟩
    by_cases h : ∃ i, i < n ∧ ¬ p i
    · obtain ⟨q, h1, h2, h3⟩ := ih h
      exact ⟨q, by omega, h2, h3⟩
    · refine ⟨n, by omega, ?_, fun j hj => ?_⟩
      · have : i = n := by
          by_cases hin : i < n
          · exact absurd ⟨i, hin, hp⟩ h
          · omega
        rw [← this]
        exact hp
      · by_cases hpj : p j
        · exact hpj
        · exact absurd ⟨j, hj, hpj⟩ h

theorem rsright_is {N cb fb k m cap : Nat} {ao : Option Addr} {us0 : List Value} (P : Nat → Prop) (a2 : Option Addr) (n c2 : Nat) (us : List Value) (l : List (List UInt8)) (w : World) (b : Bool) (h : Cd N w cb fb k m ao cap us0) (h2 : Mv P w a2 n us l) (hP : ∀ x, P x → x ≠ fb) (hn : n ≤ 1000) (hnk : n = k + m) (ht : thereB us = true) (hc2' : n ≤ c2) (hL : mcols (l.take k) ≤ 140737488355328) (hb : (evenB (us.take k) (l.take k) && (encM k m (l.take k) == l)) = b) :
    Calls Try.prog 68 #[.pointer (some ⟨cb, 0, none⟩), .slice a2 n c2] w fun e w' => e = .returned (.bool b) ∧ Fq fb w w' :=
  (rsright_full P a2 n c2 us l w h h2 hP hn hnk ht hc2' hL).mono fun _ _ ⟨he, hk⟩ => ⟨by rw [he, hb], hk⟩

theorem take_cols {l : List (List UInt8)} {k : Nat} (h : 1 ≤ k) : mcols (l.take k) = mcols l := by
  cases l with
  | nil => simp [mcols]
  | cons r l =>
    obtain ⟨q, rfl⟩ : ∃ q, k = q + 1 := ⟨k - 1, by omega⟩
    rw [List.take_succ_cons, mcols_at (r := r) rfl, mcols_at (r := r) rfl]

theorem few_cols {l : List (List UInt8)} {K : Nat} (h : few l K = true) : mcols l ≤ K := by
  cases l with
  | nil => simp [mcols]
  | cons r l => rw [mcols_at (r := r) rfl]; exact (few_spec h).2 r (List.mem_cons_self ..)

theorem encM_len {k m : Nat} {l : List (List UInt8)} (h : l.length = k) : (encM k m l).length = k + m := by
  rw [encM, List.length_append, h]
  simp [mulM, cauM]

set_option maxRecDepth 100000 in
set_option maxHeartbeats 8000000 in
theorem rsEncodes_few (a1 : Option Addr) (n1 c1 : Nat) (us : List Value) (d : List (List UInt8)) (more : Int) (a2 : Option Addr) (n2 c2 : Nat) (vs : List Value) (l : List (List UInt8)) (w : World) (h1 : Mv (· < w.heap.size) w a1 n1 us d) (h2 : Mv (· < w.heap.size) w a2 n2 vs l) (hno : few d 14 = false ∨ few l 14 = false ∨ 12 < n1) :
    Calls Try.prog 17 #[.slice a1 n1 c1, .int .i64 more, .slice a2 n2 c2] w fun e w' => e = .returned (.bool true) ∧ Keep (fun _ => False) w w' := by
  have H1 := Lib.hid h1
  have H2 := Lib.hid h2
  cases hd : few d 14 with
  | false =>
    have HD := Lib.hid hd
    clear h1 h2 hno hd
    go_enter Try.func17, Try.ntmps17
    go_wp2_with fail
    refine (few_no (· < w.heap.size) a1 n1 c1 14 us d w H1.out (by omega) HD.out).mono ?_
    rintro e w1 ⟨rfl, hk⟩
    have HK1 := Lib.hid hk
    clear hk
    go_wp2_with fail
    go_ret
    exact ⟨rfl, HK1.out⟩
  | true =>
    have HD := Lib.hid hd
    cases hl : few l 14 with
    | false =>
      have HL := Lib.hid hl
      clear h1 h2 hno hd hl
      go_enter Try.func17, Try.ntmps17
      go_wp2_with fail
      refine (few_yes (· < w.heap.size) a1 n1 c1 14 us d w H1.out (by omega) HD.out).mono ?_
      rintro e w1 ⟨rfl, hk⟩
      have HK1 := Lib.hid hk
      clear hk
      go_wp2_with fail
      refine (few_no (· < w.heap.size) a2 n2 c2 14 vs l w1 (H2.out.keep HK1.out (fun _ _ _ => id)) (by omega) HL.out).mono ?_
      rintro e w2 ⟨rfl, hk⟩
      have HK2 := Lib.hid (HK1.out.trans hk)
      clear hk
      go_wp2_with fail
      go_ret
      exact ⟨rfl, HK2.out⟩
    | true =>
      have HL := Lib.hid hl
      have hbig : (12 : Int) < (n1 : Int) := by
        rcases hno with h | h | h
        · rw [hd] at h; cases h
        · rw [hl] at h; cases h
        · omega
      clear h1 h2 hno hd hl
      go_enter Try.func17, Try.ntmps17
      go_wp2_with fail
      refine (few_yes (· < w.heap.size) a1 n1 c1 14 us d w H1.out (by omega) HD.out).mono ?_
      rintro e w1 ⟨rfl, hk⟩
      have HK1 := Lib.hid hk
      clear hk
      go_wp2_with fail
      refine (few_yes (· < w.heap.size) a2 n2 c2 14 vs l w1 (H2.out.keep HK1.out (fun _ _ _ => id)) (by omega) HL.out).mono ?_
      rintro e w2 ⟨rfl, hk⟩
      have HK2 := Lib.hid (HK1.out.trans hk)
      clear hk
      go_wp2_with fail
      go_ret
      exact ⟨rfl, HK2.out⟩

set_option maxRecDepth 100000 in
set_option maxHeartbeats 8000000 in
theorem rsEncodes_none (a1 : Option Addr) (c1 : Nat) (us : List Value) (d : List (List UInt8)) (more : Int) (a2 : Option Addr) (n2 c2 : Nat) (vs : List Value) (l : List (List UInt8)) (w : World) (h1 : Mv (· < w.heap.size) w a1 0 us d) (h2 : Mv (· < w.heap.size) w a2 n2 vs l) (hd : few d 14 = true) (hl : few l 14 = true) :
    Calls Try.prog 17 #[.slice a1 0 c1, .int .i64 more, .slice a2 n2 c2] w fun e w' => e = .returned (.bool true) ∧ Keep (fun _ => False) w w' := by
  have H1 := Lib.hid h1
  have H2 := Lib.hid h2
  have HD := Lib.hid hd
  have HL := Lib.hid hl
  obtain ⟨m, hm, hmm0⟩ := and_small more 7 (by omega)
  have hmm : bits .and .i64 more 7 = (m : Int) := hmm0
  clear hmm0
  clear h1 h2 hd hl
  go_enter Try.func17, Try.ntmps17
  go_wp2_with fail
  refine (few_yes (· < w.heap.size) a1 0 c1 14 us d w H1.out (by omega) HD.out).mono ?_
  rintro e w1 ⟨rfl, hk⟩
  have HK1 := Lib.hid hk
  clear hk
  go_wp2_with fail
  refine (few_yes (· < w.heap.size) a2 n2 c2 14 vs l w1 (H2.out.keep HK1.out (fun _ _ _ => id)) (by omega) HL.out).mono ?_
  rintro e w2 ⟨rfl, hk⟩
  have HK2 := Lib.hid (HK1.out.trans hk)
  clear hk
  go_wp2_with fail
  refine (rsnew_no 0 m (by omega) (by omega) w2 (by omega)).mono ?_
  rintro e w3 ⟨rfl, rfl⟩
  go_wp2_with fail
  refine (one6_any w2).mono ?_
  rintro e w9 ⟨rfl, hk9⟩
  have HK9 := Lib.hid (HK2.out.trans hk9)
  clear hk9
  go_wp2_with fail
  go_ret
  exact ⟨rfl, HK9.out⟩

set_option maxRecDepth 100000 in
set_option maxHeartbeats 16000000 in
theorem rsEncodes_some (a1 : Option Addr) (k c1 : Nat) (us : List Value) (d : List (List UInt8)) (more : Int) (a2 : Option Addr) (n2 c2 : Nat) (vs : List Value) (l : List (List UInt8)) (w : World) (h1 : Mv (· < w.heap.size) w a1 k us d) (h2 : Mv (· < w.heap.size) w a2 n2 vs l) (hd : few d 14 = true) (hl : few l 14 = true) (hk1 : 1 ≤ k) (hk2 : k ≤ 12) (hc2 : n2 ≤ c2) :
    Calls Try.prog 17 #[.slice a1 k c1, .int .i64 more, .slice a2 n2 c2] w fun e w' => e = .returned (.bool true) ∧ Keep (fun _ => False) w w' := by
  have H1 := Lib.hid h1
  have H2 := Lib.hid h2
  have HD := Lib.hid hd
  have HL := Lib.hid hl
  obtain ⟨m, hm, hmm0⟩ := and_small more 7 (by omega)
  have hmm : bits .and .i64 more 7 = (m : Int) := hmm0
  clear hmm0
  have HKM : Hid (1 ≤ k ∧ k ≤ 12 ∧ m ≤ 7 ∧ n2 ≤ c2) := ⟨hk1, hk2, hm, hc2⟩
  have p1 : (1 : Int) ≤ (k : Int) := by omega
  have p2 : (k : Int) ≤ 12 := by omega
  have p3 : ((k : Int) == 0) = false := by rw [beq_eq_false_iff_ne]; omega
  have k0 : 0 < k := hk1
  have k0' : (0 : Int) < (k : Int) := by omega
  have HDC : Hid (mcols d ≤ 14) := few_cols hd
  have HLC : Hid (mcols l ≤ 14) := few_cols hl
  have HN2 : Hid (n2 ≤ 14) := by
    have h3 := (few_spec hl).1
    rw [h2.len] at h3
    exact h3
  have hnl := fun w a n c => Lib.run_eql_slice_nil (P := Try.prog) w 33 5 a n c 0 0 Try.underlying33
  clear h1 h2 hd hl hc2
  go_enter Try.func17, Try.ntmps17
  go_wp2_with fail
  refine (few_yes (· < w.heap.size) a1 k c1 14 us d w H1.out (by omega) HD.out).mono ?_
  rintro e w1 ⟨rfl, hk⟩
  have HK1 := Lib.hid hk
  clear hk
  go_wp2_with fail
  refine (few_yes (· < w.heap.size) a2 n2 c2 14 vs l w1 (H2.out.keep HK1.out (fun _ _ _ => id)) (by omega) HL.out).mono ?_
  rintro e w2 ⟨rfl, hk⟩
  have HK2 := Lib.hid (HK1.out.trans hk)
  clear hk
  go_wp2_with fail
  clear hmm
  refine (rsnew_yes k m w2 (by omega) (by omega)).mono ?_
  rintro e w3 ⟨cb, fb, ao, cap, us0, rfl, hcd, hk⟩
  have HC3 := Lib.hid hcd
  have HK3 := Lib.hid (HK2.out.trans hk)
  clear hcd hk
  go_wp2_with fail
  refine (counts_yes w3 HC3.out).mono ?_
  rintro e w4 ⟨rfl, hk⟩
  have HC4 := Lib.hid (HC3.out.k hk)
  have HK4 := Lib.hid (HK3.out.trans hk)
  have HFB : Hid (w.heap.size ≤ fb) := Nat.le_trans HK2.out.size HC3.out.oldf
  have H14 := Lib.hid (H1.out.keep HK4.out (fun _ _ _ => id))
  have H24 := Lib.hid (H2.out.keep HK4.out (fun _ _ _ => id))
  clear hk
  obtain ⟨b0, o0, ra, rn, rc, r0, rfl, _, hu0, hr0, hc0, hn0, hx0, hb0⟩ := H14.out.at_ (k := 0) (by omega)
  have HMC : Hid (mcols d = rn) := by
    show mcols d = rn
    rw [mcols_at hr0]
    exact hb0.len
  have HRN : Hid (rn ≤ 14) := by
    show rn ≤ 14
    have := HDC.out
    have := HMC.out
    omega
  rw [Nat.add_zero] at hc0
  clear hu0 hr0 hn0 hx0 hb0
  go_wp2_with fail
  go_loopw [11, 12] (fun e i wr => ∃ (j q : Nat) (E : Bool), j ≤ k ∧ i = .int .i64 (j : Int) ∧ e = .bool E ∧ wr = w4.drewN q ∧ Hid (E = fitP us d j)) (fun _ i _ => k - (intOf i).toNat)
  case atStart => exact ⟨0, 0, true, Nat.zero_le _, rfl, rfl, rfl, rfl⟩
  case round =>
    obtain ⟨j, q, E, hj, rfl, rfl, rfl, HI⟩ := hrel
    by_cases hlt : j < k
    · have j0 : (0 : Int) ≤ (j : Int) := by omega
      have jn : (j : Int) < (k : Int) := by omega
      have HLT := Lib.hid hlt
      obtain ⟨b1, o1, ao', n', cap', r, hab, _, hu, hr, hcr, _, _, hrb⟩ := H14.out.at_ hlt
      cases hab
      have HS := Lib.hid (fitP_step hu hr)
      have HRL : Hid (r.length = n') := hrb.len
      have hn' : (n' : Int) ≤ 14 := by
        have h9 := (few_spec HD.out).2 r (List.mem_of_getElem? hr)
        rw [hrb.len] at h9
        omega
      have hrn : (rn : Int) ≤ 14 := by have := HRN.out; omega
      clear hu hr hrb hlt
      cases E with
      | false =>
        go_wp2_with fail
        go_quiet (fail)
        go_wp2_with fail
        go_roundw
        case rel => exact ⟨j + 1, q + nq, false, by have := HLT.out; omega, by go_num, rfl, rfl, by rw [HS.out, ← HI.out]; rfl⟩
        case measure => have := HLT.out; simp [intOf]; omega
      | true =>
        cases ao' with
        | none =>
          go_wp2_with fail
          go_quiet (fail)
          go_wp2_with fail
          go_roundw
          case rel => exact ⟨j + 1, q + nq, false, by have := HLT.out; omega, by go_num, rfl, rfl, by rw [HS.out, show isnil (.slice none n' cap') = true from rfl]; show _ = _; simp⟩
          case measure => have := HLT.out; simp [intOf]; omega
        | some a' =>
          by_cases hq : n' = rn
          · have hq' : ((n' : Int) == (rn : Int)) = true := by rw [beq_iff_eq]; omega
            have HQ := Lib.hid hq
            clear hq
            go_wp2_with fail
            go_quiet (fail)
            go_wp2_with fail
            go_roundw
            case rel => exact ⟨j + 1, q + nq, true, by have := HLT.out; omega, by go_num, rfl, rfl, by rw [HS.out, ← HI.out, show isnil (.slice (some a') n' cap') = false from rfl, HRL.out, HMC.out, HQ.out]; show _ = _; simp⟩
            case measure => have := HLT.out; simp [intOf]; omega
          · have hq' : ((n' : Int) == (rn : Int)) = false := by rw [beq_eq_false_iff_ne]; omega
            have HQ := Lib.hid hq
            clear hq
            go_wp2_with fail
            go_quiet (fail)
            go_wp2_with fail
            go_roundw
            case rel => exact ⟨j + 1, q + nq, false, by have := HLT.out; omega, by go_num, rfl, rfl, by rw [HS.out, HRL.out, HMC.out, decide_eq_false HQ.out]; show _ = _; simp⟩
            case measure => have := HLT.out; simp [intOf]; omega
    · have hkn : (k : Int) ≤ (j : Int) := by omega
      have hjk : j = k := by omega
      rw [hjk] at HI
      have HE : Hid (E = evenB us d) := by
        have h9 := HI.out
        rw [fitP_end H1.out.lenu H1.out.len] at h9
        exact h9
      have HC5 : Hid (Cd w2.heap.size (w4.drewN q) cb fb k m ao cap us0) := HC4.out.k ((Keep.refl (fun _ => False) w4).drewN q)
      have HK5 : Hid (Keep (fun _ => False) w (w4.drewN q)) := HK4.out.drewN q
      have H15 := Lib.hid (H14.out.drewN q)
      generalize w4.drewN q = w5 at *
      clear hjk hlt hj HI hc0
      cases E with
      | false =>
        go_wp2_with fail
        refine (encode_no (· < w.heap.size) _ k c1 us d w5 HC5.out H15.out (by omega) (.inr HE.out.symm)).mono ?_
        rintro e w6 ⟨rfl, hk⟩
        have HK6 := Lib.hid (HK5.out.trans hk)
        clear hk
        go_wp2_with fail
        refine (one6_any w6).mono ?_
        rintro e w9 ⟨rfl, hk9⟩
        have HK9 := Lib.hid (HK6.out.trans hk9)
        clear hk9
        go_wp2_with fail
        go_ret
        exact ⟨rfl, HK9.out⟩
      | true =>
        have HEV : Hid (evenB us d = true) := HE.out.symm
        go_wp2_with fail
        refine (encode_yes (· < w.heap.size) _ c1 us d w5 HC5.out H15.out (fun x hx e => by have := HFB.out; have hx' : x < w.heap.size := hx; omega) HEV.out (by have := HDC.out; omega)).mono ?_
        rintro e w6 ⟨v6, rfl, hgr, hq⟩
        obtain ⟨t, ht⟩ : ∃ t : Nat, t = k + m := ⟨_, rfl⟩
        have HT := Lib.hid ht
        have HEL : Hid ((encM k m d).length = t) := by rw [HT.out]; exact encM_len H1.out.len
        have HC6 := Lib.hid (HC5.out.q hq)
        have HK6 : Hid (Keep (fun _ => False) w w6) := HK5.out.trans' hq.keep (fun i hi e => by have := HFB.out; have e' : i = fb := e; omega)
        obtain ⟨a6, cap6, rfl, _, _⟩ := hgr.len
        rw [HEL.out] at hgr ⊢
        obtain ⟨us6, hmv⟩ := hgr.mv
        have HM6 := Lib.hid hmv
        clear hgr hq hmv ht
        go_wp2_with fail
        refine (refenc_any (· < w.heap.size) _ k m c1 us d w6 (H1.out.keep HK6.out (fun _ _ _ => id)) HKM.out.1 (by have := HKM.out; omega) HEV.out (by have := HDC.out; omega)).mono ?_
        rintro e w7 ⟨v7, rfl, hgr, hk⟩
        have HC7 := Lib.hid (HC6.out.k hk)
        have HK7 := Lib.hid (HK6.out.trans hk)
        have HM67 := Lib.hid (HM6.out.keep hk (fun _ _ _ => id))
        obtain ⟨a7, cap7, rfl, hcap7, _⟩ := hgr.gr.len
        rw [HEL.out] at hgr hcap7 ⊢
        have HCAP := Lib.hid hcap7
        obtain ⟨us7, hmv, hth⟩ := hgr.mv
        have HT7 := Lib.hid hth
        have HM7 : Hid (Mv (fun b => b ≠ fb) w7 a7 t us7 (encM k m d)) := hmv.mono (fun b _ hb e => by
          have h1 := HFB.out
          have h2 := HC6.out.field.lt
          rcases hb with (hb | hb) | hb
          · have hb' : b < w.heap.size := hb
            omega
          · omega
          · omega)
        clear hgr hk hmv hth hcap7
        go_wp2_with fail
        refine (refsame_is _ _ a6 a7 t t cap6 cap7 us6 us7 (encM k m d) (encM k m d) w7 true HM67.out HM7.out (by have := HT.out; have := HKM.out; omega) (by have := HT.out; have := HKM.out; omega) (by simp)).mono ?_
        rintro e w8 ⟨rfl, hk⟩
        have HC8 := Lib.hid (HC7.out.k hk)
        have HK8 := Lib.hid (HK7.out.trans hk)
        have HM8 := Lib.hid (HM7.out.keep hk (fun _ _ _ => id))
        clear hk
        go_wp2_with fail
        refine (rsright_is (fun b => b ≠ fb) a7 t cap7 us7 (encM k m d) w8 true HC8.out HM8.out (fun _ h => h) (by have := HT.out; have := HKM.out; omega) HT.out HT7.out HCAP.out (by rw [enc_take H1.out.len]; have := HDC.out; omega) (by
          rw [enc_take H1.out.len, beq_self_eq_true, Bool.and_true, evenB, there_take HT7.out, Bool.true_and, List.all_eq_true]
          exact fun r hr => decide_eq_true ((even_there HEV.out).2 r hr))).mono ?_
        rintro e w9 ⟨rfl, hq⟩
        have HC9 := Lib.hid (HC8.out.q hq)
        have HK9 : Hid (Keep (fun _ => False) w w9) := HK8.out.trans' hq.keep (fun i hi e => by have := HFB.out; have e' : i = fb := e; omega)
        have H29 := Lib.hid (H2.out.keep HK9.out (fun _ _ _ => id))
        have HPF : Hid (∀ x, x < w.heap.size → x ≠ fb) := fun x hx e => by have := HFB.out; omega
        clear hq
        clear HC3 HC4 HC5 HC6 HC7 HC8 HM6 HM67 HM7 HM8 HK3 HK4 HK5 HK6 HK7 HK8 H14 H24 H15
        by_cases hnt : n2 = t
        · have hnt' : ((n2 : Int) == (t : Int)) = true := by rw [beq_iff_eq]; omega
          have HNT := Lib.hid hnt
          clear hnt
          cases hth : thereB vs with
          | false =>
            have HTH := Lib.hid hth
            obtain ⟨p, hp, hpn, hpl⟩ := first_not (fun i => isnil (vs.getD i undef) = false) n2 (by
              rw [thereB, List.all_eq_false] at hth
              obtain ⟨u, hu, hn⟩ := hth
              obtain ⟨i, hi, rfl⟩ := List.getElem_of_mem hu
              refine ⟨i, by rw [← H2.out.lenu]; exact hi, fun h => hn ?_⟩
              rw [List.getD_eq_getElem?_getD, List.getElem?_eq_getElem hi, Option.getD_some] at h
              rw [h]
              rfl)
            have HP := Lib.hid hp
            have HPN := Lib.hid hpn
            have HPL := Lib.hid hpl
            have d1 : decide (p + 1 < n2) = decide (p + 1 < n2) := rfl
            clear hth hp hpn hpl d1
            go_wp2_with fail
            clear hnt'
            go_loop [16, 17] (fun b i => ∃ (j : Nat) (B : Bool), i = .int .i64 (j : Int) ∧ b = .bool B ∧ Hid ((B = true ∧ j ≤ p) ∨ (B = false ∧ j = p + 1))) (fun _ i => p + 1 - (intOf i).toNat)
            case atStart => exact ⟨0, true, rfl, rfl, .inl ⟨rfl, Nat.zero_le _⟩⟩
            case round =>
              obtain ⟨j, B, rfl, rfl, HI⟩ := hrel
              cases B with
              | true =>
                have hjp : j ≤ p := by
                  rcases HI.out with ⟨_, h⟩ | ⟨h, _⟩
                  · exact h
                  · cases h
                have hlt : j < n2 := by have := HP.out; omega
                have j0 : (0 : Int) ≤ (j : Int) := by omega
                have jn : (j : Int) < (n2 : Int) := by omega
                have hd1 : decide (j < n2) = true := decide_eq_true hlt
                have jb : (j : Int) ≤ 14 := by have := HN2.out; omega
                obtain ⟨b1, o1, ao', n', cap', r, rfl, _, hu, hr, hcr, _, _, hrb⟩ := H29.out.at_ hlt
                have HU := Lib.hid hu
                have HJP := Lib.hid hjp
                clear hu hr hrb hjp hlt
                cases ao' with
                | none =>
                  have HJ : Hid (j = p) := by
                    show j = p
                    by_cases h : j < p
                    · have h3 := HPL.out j h
                      rw [List.getD_eq_getElem?_getD, HU.out, Option.getD_some] at h3
                      cases h3
                    · have := HJP.out; omega
                  go_wp2_with fail
                  go_round
                  case rel => exact ⟨j + 1, false, by go_num, rfl, .inr ⟨rfl, by rw [HJ.out]⟩⟩
                  case measure => have := HJP.out; simp [intOf]; omega
                | some a' =>
                  have HJ : Hid (j + 1 ≤ p) := by
                    show j + 1 ≤ p
                    by_cases h : j = p
                    · exfalso
                      apply HPN.out
                      rw [← h, List.getD_eq_getElem?_getD, HU.out]
                      rfl
                    · have := HJP.out; omega
                  go_wp2_with fail
                  go_round
                  case rel => exact ⟨j + 1, true, by go_num, rfl, .inl ⟨rfl, HJ.out⟩⟩
                  case measure => have := HJP.out; simp [intOf]; omega
              | false =>
                clear HI
                go_wp2_with fail
                go_loop [16, 18] (fun b i => b = .bool false ∧ ∃ j : Nat, i = .int .i64 (j : Int)) (fun _ _ => 0)
                case atStart => exact ⟨rfl, 0, rfl⟩
                case round =>
                  obtain ⟨rfl, j2, rfl⟩ := hrel
                  go_wp2_with fail
                  refine (rsright_hole (· < w.heap.size) a2 n2 c2 vs l w9 HC9.out H29.out (by have := HN2.out; omega) (by rw [HNT.out]; exact HT.out) HTH.out).mono ?_
                  rintro e w10 ⟨rfl, hk⟩
                  have HK10 := Lib.hid (HK9.out.trans hk)
                  clear hk
                  go_wp2_with fail
                  refine (one6_any w10).mono ?_
                  rintro e w11 ⟨rfl, hk11⟩
                  have HK11 := Lib.hid (HK10.out.trans hk11)
                  clear hk11
                  go_wp2_with fail
                  go_ret
                  exact ⟨rfl, HK11.out⟩
          | true =>
            have HTH := Lib.hid hth
            have hkn2 : (k : Int) ≤ (n2 : Int) := by have := HNT.out; have := HT.out; omega
            have hkn2' : k ≤ n2 := by omega
            have hkc : k ≤ c2 := by have := HKM.out; omega
            have hkc' : (k : Int) ≤ (c2 : Int) := by omega
            obtain ⟨bl, ol, la, ln, lc, lr, rfl, _, hul, hrl, hcl, _, _, hbl⟩ := H29.out.at_ (k := 0) (by omega)
            have HLN : Hid (mcols l = ln) := by
              show mcols l = ln
              rw [mcols_at hrl]
              exact hbl.len
            have HCL := Lib.hid hcl
            clear hul hrl hbl hth hcl
            go_wp2_with fail
            clear hnt'
            go_loop [16, 17] (fun b i => ∃ (j : Nat), i = .int .i64 (j : Int) ∧ b = .bool true ∧ j ≤ n2) (fun _ i => n2 - (intOf i).toNat)
            case atStart => exact ⟨0, rfl, rfl, Nat.zero_le _⟩
            case round =>
              obtain ⟨j, rfl, rfl, hj⟩ := hrel
              by_cases hlt : j < n2
              · have j0 : (0 : Int) ≤ (j : Int) := by omega
                have jn : (j : Int) < (n2 : Int) := by omega
                have hd1 : decide (j < n2) = true := decide_eq_true hlt
                have jb : (j : Int) ≤ 14 := by have := HN2.out; omega
                have HLT := Lib.hid hlt
                obtain ⟨b1, o1, ao', n', cap', r, hab, _, hu, hr, hcr, _, _, hrb⟩ := H29.out.at_ hlt
                cases hab
                have hni : ao' ≠ none := by
                  rintro rfl
                  have h9 := HTH.out
                  rw [thereB, List.all_eq_true] at h9
                  have h8 := h9 _ (List.mem_of_getElem? hu)
                  cases h8
                clear hu hr hrb hlt
                cases ao' with
                | none => exact absurd rfl hni
                | some a' =>
                  clear hni
                  go_wp2_with fail
                  go_round
                  case rel => exact ⟨j + 1, by go_num, rfl, by have := HLT.out; omega⟩
                  case measure => have := HLT.out; simp [intOf]; omega
              · have hjn : (n2 : Int) ≤ (j : Int) := by omega
                have hd1 : decide (j < n2) = false := decide_eq_false hlt
                clear hlt hj
                go_wp2_with fail
                clear hd1 hjn
                have hcl0 := HCL.out
                rw [Nat.add_zero] at hcl0
                by_cases hev : ∀ i, i < k → (l.getD i []).length = mcols l
                · have HEVL := Lib.hid hev
                  clear hev
                  go_loopw [16, 18] (fun b i wr => ∃ (j q : Nat), i = .int .i64 (j : Int) ∧ b = .bool true ∧ j ≤ k ∧ wr = w9.drewN q) (fun _ i _ => k - (intOf i).toNat)
                  case atStart => exact ⟨0, 0, rfl, rfl, Nat.zero_le _, rfl⟩
                  case round =>
                    obtain ⟨j, q, rfl, rfl, hj, rfl⟩ := hrel
                    by_cases hlt : j < k
                    · have j0 : (0 : Int) ≤ (j : Int) := by omega
                      have jn : (j : Int) < (n2 : Int) := by omega
                      have jn' : (j : Int) < (k : Int) := by omega
                      have hd1 : decide (j < k) = true := decide_eq_true hlt
                      have HLT := Lib.hid hlt
                      obtain ⟨b1, o1, ao', n', cap', r, hab, _, hu, hr, hcr, _, _, hrb⟩ := H29.out.at_ (show j < n2 by omega)
                      cases hab
                      have hq' : ((n' : Int) == (ln : Int)) = true := by
                        have h9 := HEVL.out j hlt
                        rw [List.getD_eq_getElem?_getD, hr, Option.getD_some, hrb.len, HLN.out] at h9
                        rw [beq_iff_eq]
                        omega
                      have n20 : (0 : Int) < (n2 : Int) := by omega
                      have n20' : 0 < n2 := by omega
                      clear hu hr hrb hlt
                      go_wp2_with fail
                      go_quiet (fail)
                      go_wp2_with fail
                      go_roundw
                      case rel => exact ⟨j + 1, q + nq, by go_num, rfl, by have := HLT.out; omega, rfl⟩
                      case measure => have := HLT.out; simp [intOf]; omega
                    · have hjn : (k : Int) ≤ (j : Int) := by omega
                      have hd1 : decide (j < k) = false := decide_eq_false hlt
                      have HC10 : Hid (Cd w2.heap.size (w9.drewN q) cb fb k m ao cap us0) := HC9.out.k ((Keep.refl (fun _ => False) w9).drewN q)
                      have HK10 : Hid (Keep (fun _ => False) w (w9.drewN q)) := HK9.out.drewN q
                      have H210 := Lib.hid (H29.out.drewN q)
                      have HT10 : Hid (Mv (· < w.heap.size) (w9.drewN q) (some ⟨bl, ol, none⟩) k (vs.take k) (l.take k)) := H210.out.take hkn2'
                      generalize w9.drewN q = w10 at *
                      have HLK : Hid ((l.take k).length = k) := HT10.out.len
                      have HEK : Hid (evenB (vs.take k) (l.take k) = true) := by
                        show evenB (vs.take k) (l.take k) = true
                        rw [evenB, there_take HTH.out, Bool.true_and, List.all_eq_true]
                        intro r hr
                        apply decide_eq_true
                        obtain ⟨i, hi, rfl⟩ := List.getElem_of_mem hr
                        rw [HLK.out] at hi
                        have h9 := HEVL.out i hi
                        rw [take_cols HKM.out.1, List.getElem_take]
                        rw [List.getD_eq_getElem?_getD, List.getElem?_eq_getElem (by rw [H2.out.len]; omega), Option.getD_some] at h9
                        exact h9
                      clear hlt hj hcl0
                      obtain ⟨bb, hbb⟩ : ∃ bb, (l == encM k m (l.take k)) = bb := ⟨_, rfl⟩
                      have HBB := Lib.hid hbb
                      have HBB2 : Hid ((evenB (vs.take k) (l.take k) && (encM k m (l.take k) == l)) = bb) := by
                        show (evenB (vs.take k) (l.take k) && (encM k m (l.take k) == l)) = bb
                        rw [HEK.out, Bool.true_and, ← HBB.out, Bool.eq_iff_iff, beq_iff_eq, beq_iff_eq]
                        exact ⟨Eq.symm, Eq.symm⟩
                      clear hbb
                      have HEL2 : Hid ((encM k m (l.take k)).length = t) := by rw [HT.out]; exact encM_len HLK.out
                      go_wp2_with fail
                      refine (refenc_any (· < w.heap.size) _ k m c2 (vs.take k) (l.take k) w10 HT10.out HKM.out.1 (by have := HKM.out; omega) HEK.out (by rw [take_cols HKM.out.1]; have := HLC.out; omega)).mono ?_
                      rintro e w11 ⟨v11, rfl, hgr, hk⟩
                      have HC11 := Lib.hid (HC10.out.k hk)
                      have HK11 := Lib.hid (HK10.out.trans hk)
                      have H211 := Lib.hid (H210.out.keep hk (fun _ _ _ => id))
                      obtain ⟨a11, cap11, rfl, _, _⟩ := hgr.gr.len
                      rw [HEL2.out] at hgr ⊢
                      obtain ⟨us11, hmv, _⟩ := hgr.mv
                      have HM11 := Lib.hid hmv
                      clear hgr hk hmv
                      go_wp2_with fail
                      refine (refsame_is _ _ _ a11 n2 t c2 cap11 vs us11 l (encM k m (l.take k)) w11 bb H211.out HM11.out (by have := HN2.out; omega) (by have := HT.out; have := HKM.out; omega) HBB.out).mono ?_
                      rintro e w12 ⟨rfl, hk⟩
                      have HC12 := Lib.hid (HC11.out.k hk)
                      have HK12 := Lib.hid (HK11.out.trans hk)
                      have H212 := Lib.hid (H211.out.keep hk (fun _ _ _ => id))
                      clear hk
                      go_wp2_with fail
                      refine (rsright_is (· < w.heap.size) _ n2 c2 vs l w12 bb HC12.out H212.out HPF.out (by have := HN2.out; omega) (by rw [HNT.out]; exact HT.out) HTH.out HKM.out.2.2.2 (by rw [take_cols HKM.out.1]; have := HLC.out; omega) HBB2.out).mono ?_
                      rintro e w13 ⟨rfl, hq⟩
                      have HK13 : Hid (Keep (fun _ => False) w w13) := HK12.out.trans' hq.keep (fun i hi e => by have := HFB.out; have e' : i = fb := e; omega)
                      clear hq HBB HBB2
                      cases bb
                      all_goals
                        go_wp2_with fail
                        refine (one6_any w13).mono ?_
                        rintro e w14 ⟨rfl, hk14⟩
                        have HK14 := Lib.hid (HK13.out.trans hk14)
                        clear hk14
                        go_wp2_with fail
                        go_ret
                        exact ⟨rfl, HK14.out⟩
                · obtain ⟨p, hp, hpn, hpl⟩ := first_not (fun i => (l.getD i []).length = mcols l) k (by
                    by_cases h : ∃ i, i < k ∧ ¬ (l.getD i []).length = mcols l
                    · exact h
                    · exact absurd (fun i hi => by
                        by_cases h2 : (l.getD i []).length = mcols l
                        · exact h2
                        · exact absurd ⟨i, hi, h2⟩ h) hev)
                  have HP := Lib.hid hp
                  have HPN := Lib.hid hpn
                  have HPL := Lib.hid hpl
                  clear hev hp hpn hpl
                  go_loopw [16, 18] (fun b i wr => ∃ (j q : Nat) (B : Bool), i = .int .i64 (j : Int) ∧ b = .bool B ∧ wr = w9.drewN q ∧ Hid ((B = true ∧ j ≤ p) ∨ (B = false ∧ j = p + 1))) (fun _ i _ => p + 1 - (intOf i).toNat)
                  case atStart => exact ⟨0, 0, true, rfl, rfl, rfl, .inl ⟨rfl, Nat.zero_le _⟩⟩
                  case round =>
                    obtain ⟨j, q, B, rfl, rfl, rfl, HI⟩ := hrel
                    cases B with
                    | true =>
                      have hjp : j ≤ p := by
                        rcases HI.out with ⟨_, h⟩ | ⟨h, _⟩
                        · exact h
                        · cases h
                      have hlt : j < k := by have := HP.out; omega
                      have j0 : (0 : Int) ≤ (j : Int) := by omega
                      have jn : (j : Int) < (n2 : Int) := by omega
                      have jn' : (j : Int) < (k : Int) := by omega
                      have hd1 : decide (j < k) = true := decide_eq_true hlt
                      obtain ⟨b1, o1, ao', n', cap', r, hab, _, hu, hr, hcr, _, _, hrb⟩ := H29.out.at_ (show j < n2 by omega)
                      cases hab
                      have HU : Hid ((l.getD j []).length = n') := by
                        show (l.getD j []).length = n'
                        rw [List.getD_eq_getElem?_getD, hr, Option.getD_some, hrb.len]
                      have HJP := Lib.hid hjp
                      have n20 : (0 : Int) < (n2 : Int) := by omega
                      have n20' : 0 < n2 := by omega
                      clear hu hr hrb hjp hlt
                      by_cases hq : n' = ln
                      · have hq' : ((n' : Int) == (ln : Int)) = true := by rw [beq_iff_eq]; omega
                        have HJ : Hid (j + 1 ≤ p) := by
                          show j + 1 ≤ p
                          by_cases h : j = p
                          · exfalso
                            apply HPN.out
                            rw [← h, HU.out, HLN.out]
                            exact hq
                          · have := HJP.out; omega
                        clear hq
                        go_wp2_with fail
                        go_quiet (fail)
                        go_wp2_with fail
                        go_roundw
                        case rel => exact ⟨j + 1, q + nq, true, by go_num, rfl, rfl, .inl ⟨rfl, HJ.out⟩⟩
                        case measure => have := HJP.out; simp [intOf]; omega
                      · have hq' : ((n' : Int) == (ln : Int)) = false := by rw [beq_eq_false_iff_ne]; omega
                        have HJ : Hid (j = p) := by
                          show j = p
                          by_cases h : j < p
                          · have h3 := HPL.out j h
                            rw [HU.out, HLN.out] at h3
                            exact absurd h3 hq
                          · have := HJP.out; omega
                        clear hq
                        go_wp2_with fail
                        go_quiet (fail)
                        go_wp2_with fail
                        go_roundw
                        case rel => exact ⟨j + 1, q + nq, false, by go_num, rfl, rfl, .inr ⟨rfl, by rw [HJ.out]⟩⟩
                        case measure => have := HJP.out; simp [intOf]; omega
                    | false =>
                      have HC10 : Hid (Cd w2.heap.size (w9.drewN q) cb fb k m ao cap us0) := HC9.out.k ((Keep.refl (fun _ => False) w9).drewN q)
                      have HK10 : Hid (Keep (fun _ => False) w (w9.drewN q)) := HK9.out.drewN q
                      have H210 := Lib.hid (H29.out.drewN q)
                      have HBB2 : Hid ((evenB (vs.take k) (l.take k) && (encM k m (l.take k) == l)) = false) := by
                        show (evenB (vs.take k) (l.take k) && (encM k m (l.take k) == l)) = false
                        have h9 : evenB (vs.take k) (l.take k) = false := by
                          cases h : evenB (vs.take k) (l.take k) with
                          | false => rfl
                          | true =>
                            exfalso
                            apply HPN.out
                            have h8 := (even_there h).2 (l.getD p []) (by
                              rw [List.getD_eq_getElem?_getD, List.getElem?_eq_getElem (by rw [H2.out.len]; have := HP.out; omega), Option.getD_some]
                              exact List.mem_take_iff_getElem.2 ⟨p, by rw [H2.out.len]; have := HP.out; omega, rfl⟩)
                            rw [h8, take_cols HKM.out.1]
                        rw [h9]
                        rfl
                      generalize w9.drewN q = w10 at *
                      clear HI hcl0
                      go_wp2_with fail
                      refine (rsright_is (· < w.heap.size) _ n2 c2 vs l w10 false HC10.out H210.out HPF.out (by have := HN2.out; omega) (by rw [HNT.out]; exact HT.out) HTH.out HKM.out.2.2.2 (by rw [take_cols HKM.out.1]; have := HLC.out; omega) HBB2.out).mono ?_
                      rintro e w13 ⟨rfl, hq⟩
                      have HK13 : Hid (Keep (fun _ => False) w w13) := HK10.out.trans' hq.keep (fun i hi e => by have := HFB.out; have e' : i = fb := e; omega)
                      clear hq HBB2
                      go_wp2_with fail
                      refine (one6_any w13).mono ?_
                      rintro e w14 ⟨rfl, hk14⟩
                      have HK14 := Lib.hid (HK13.out.trans hk14)
                      clear hk14
                      go_wp2_with fail
                      go_ret
                      exact ⟨rfl, HK14.out⟩
        · have hnt' : ((n2 : Int) == (t : Int)) = false := by rw [beq_eq_false_iff_ne]; omega
          have HNT := Lib.hid hnt
          clear hnt
          go_wp2_with fail
          clear hnt'
          go_loop [16, 17] (fun b i => b = .bool false ∧ ∃ j : Nat, i = .int .i64 (j : Int)) (fun _ _ => 0)
          case atStart => exact ⟨rfl, 0, rfl⟩
          case round =>
            obtain ⟨rfl, j1, rfl⟩ := hrel
            go_wp2_with fail
            go_loop [16, 18] (fun b i => b = .bool false ∧ ∃ j : Nat, i = .int .i64 (j : Int)) (fun _ _ => 0)
            case atStart => exact ⟨rfl, 0, rfl⟩
            case round =>
              obtain ⟨rfl, j2, rfl⟩ := hrel
              go_wp2_with fail
              refine (rsright_len a2 n2 c2 w9 HC9.out (by rw [← HT.out]; exact HNT.out)).mono ?_
              rintro e w10 ⟨rfl, hk⟩
              have HK10 := Lib.hid (HK9.out.trans hk)
              clear hk
              go_wp2_with fail
              refine (one6_any w10).mono ?_
              rintro e w11 ⟨rfl, hk11⟩
              have HK11 := Lib.hid (HK10.out.trans hk11)
              clear hk11
              go_wp2_with fail
              go_ret
              exact ⟨rfl, HK11.out⟩

theorem rsEncodes_walk (W : World) (v0 : Value) (d : List (List UInt8)) (i0 : Ms (· < W.heap.size) W v0 d) (more : Int) (v2 : Value) (l : List (List UInt8)) (i2 : Ms (· < W.heap.size) W v2 l) (_ : -9223372036854775808 ≤ more ∧ more ≤ 9223372036854775807) :
    Calls Try.prog 17 #[v0, .int .i64 more, v2] W fun e w' => e = .returned (.bool true) ∧ Below W.heap.size W w' := by
  obtain ⟨a1, n1, c1, us, rfl, _, _, h1⟩ := i0
  obtain ⟨a2, n2, c2, vs, rfl, hc2, _, h2⟩ := i2
  have key : Calls Try.prog 17 #[.slice a1 n1 c1, .int .i64 more, .slice a2 n2 c2] W fun e w' => e = .returned (.bool true) ∧ Keep (fun _ => False) W w' := by
    cases hd : few d 14 with
    | false => exact rsEncodes_few a1 n1 c1 us d more a2 n2 c2 vs l W h1 h2 (.inl hd)
    | true =>
      cases hl : few l 14 with
      | false => exact rsEncodes_few a1 n1 c1 us d more a2 n2 c2 vs l W h1 h2 (.inr (.inl hl))
      | true =>
        by_cases h12 : 12 < n1
        · exact rsEncodes_few a1 n1 c1 us d more a2 n2 c2 vs l W h1 h2 (.inr (.inr h12))
        · rcases Nat.eq_zero_or_pos n1 with h0 | h0
          · subst h0
            exact rsEncodes_none a1 c1 us d more a2 n2 c2 vs l W h1 h2 hd hl
          · exact rsEncodes_some a1 n1 c1 us d more a2 n2 c2 vs l W h1 h2 hd hl h0 (by omega) hc2
  exact key.mono fun _ _ ⟨he, hk⟩ => ⟨he, hk.below (Nat.le_refl _) (fun _ _ => id)⟩
end Go.Proofs.Ytegecjilpmkamaa
