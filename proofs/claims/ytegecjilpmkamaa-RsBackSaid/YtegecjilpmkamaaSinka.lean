/-
  The walk of mat's sink.
-/
import Derived.Test.YtegecjilpmkamaaOm
import Derived.Deep.DeepCutAuto
namespace Go.Proofs.Ytegecjilpmkamaa
open Go.RowKit Sb

/-- Where sink finds its row. -/
def sinkAt (F : Nat → Nat → UInt8) (n a col : Nat) : Int := fidx (fun i => F (a + i) col != 0) (n - a) 0
/-- Rows a and p change places. -/
def swapE (F : Nat → Nat → UInt8) (a p : Nat) : Nat → Nat → UInt8 := fun i => if i = p then F a else if i = a then F p else F i
/-- Row a is divided by its number in the column. -/
def unitE (F : Nat → Nat → UInt8) (a col : Nat) : Nat → Nat → UInt8 := fun i => if i = a then (fun j => gmul (F a j) (ginv (F a col))) else F i
/-- A multiple of row a is put to row i. -/
def clearE (F : Nat → Nat → UInt8) (a col i : Nat) : Nat → UInt8 := fun j => F i j ^^^ gmul (F a j) (F i col)
/-- All rows behind row a, or all but row a, are cleared in the column. -/
def clearAll (F : Nat → Nat → UInt8) (a col : Nat) (all : Bool) : Nat → Nat → UInt8 := fun i => if a < i ∨ (all = true ∧ i ≠ a) then clearE F a col i else F i
/-- What sink leaves. -/
def sinkE (F : Nat → Nat → UInt8) (a p col : Nat) (all : Bool) : Nat → Nat → UInt8 := clearAll (unitE (swapE F a p) a col) a col all


set_option maxRecDepth 100000 in
set_option maxHeartbeats 4000000 in
theorem sink_none_false (fb N g n cap c a col : Nat) (F : Nat → Nat → UInt8) (w : World) (hO : Om N w g n c F) (hN : N ≤ g) (ha : a < n) (hcol : col < c) (hn : n ≤ 255) (hc : c ≤ 510) (hcap : n ≤ cap) (hp : sinkAt F n a col < 0) :
    Calls Try.prog 81 #[.slice (some ⟨g, 0, none⟩) n cap, .pointer (some ⟨fb, 0, none⟩), .int .i64 a, .int .i64 col, .bool false] w fun e w' => e = .returned (.bool false) ∧ Keep (fun _ => False) w w' := by
  obtain ⟨us, hmv⟩ := (hO.keep ((Keep.refl (fun _ => False) w).alloc (.cells #[.int .i64 col] 3)) id (fun _ _ _ _ => id)).mv hN a
  have HMV := Lib.hid hmv
  have HP := Lib.hid hp
  have HCOL := Lib.hid hcol
  have a0 : (0 : Int) ≤ (a : Int) := by omega
  have a1 : (a : Int) ≤ (n : Int) := by omega
  have a2 : (n : Int) ≤ (cap : Int) := by omega
  clear hO hmv hp hcol
  have hmf := hmf
  go_enter Try.func81, Try.ntmps81
  go_wp2_with fail
  refine (idx_103 (fun b => N ≤ b) _ _ _ us _ _ (fun i => F (a + i) col != 0) _ HMV.out (by omega) (fun i u hu => ?_)).mono ?_
  · have hi : i < n - a := by
      have := (List.getElem?_eq_some_iff.1 hu).1
      have := HMV.out.lenu
      omega
    obtain ⟨a2, n2, c2, rfl, h1, h2, h3⟩ := HMV.out.row hu (by rw [List.getElem?_map, List.getElem?_range hi]; rfl)
    have hl : n2 = c := by
      have h4 := h3.len
      rw [rowOf_len] at h4
      omega
    subst hl
    exact closure103 _ a2 n2 c2 w.heap.size col _ _ _ h3 (rowOf_get _ HCOL.out) (by simp)
  rintro e w' ⟨rfl, rfl⟩
  have hlt : fidx (fun i => F (a + i) col != 0) (n - a) 0 < 0 := HP.out
  go_wp2_with fail
  go_ret
  exact ⟨rfl, (Keep.refl _ _).alloc _⟩


set_option maxRecDepth 100000 in
set_option maxHeartbeats 4000000 in
theorem sink_none_true (fb N g n cap c a col : Nat) (F : Nat → Nat → UInt8) (w : World) (hO : Om N w g n c F) (hN : N ≤ g) (ha : a < n) (hcol : col < c) (hn : n ≤ 255) (hc : c ≤ 510) (hcap : n ≤ cap) (hp : sinkAt F n a col < 0) :
    Calls Try.prog 81 #[.slice (some ⟨g, 0, none⟩) n cap, .pointer (some ⟨fb, 0, none⟩), .int .i64 a, .int .i64 col, .bool true] w fun e w' => e = .returned (.bool false) ∧ Keep (fun _ => False) w w' := by
  obtain ⟨us, hmv⟩ := (hO.keep ((Keep.refl (fun _ => False) w).alloc (.cells #[.int .i64 col] 3)) id (fun _ _ _ _ => id)).mv hN a
  have HMV := Lib.hid hmv
  have HP := Lib.hid hp
  have HCOL := Lib.hid hcol
  have a0 : (0 : Int) ≤ (a : Int) := by omega
  have a1 : (a : Int) ≤ (n : Int) := by omega
  have a2 : (n : Int) ≤ (cap : Int) := by omega
  clear hO hmv hp hcol
  have hmf := hmf
  go_enter Try.func81, Try.ntmps81
  go_wp2_with fail
  refine (idx_103 (fun b => N ≤ b) _ _ _ us _ _ (fun i => F (a + i) col != 0) _ HMV.out (by omega) (fun i u hu => ?_)).mono ?_
  · have hi : i < n - a := by
      have := (List.getElem?_eq_some_iff.1 hu).1
      have := HMV.out.lenu
      omega
    obtain ⟨a2, n2, c2, rfl, h1, h2, h3⟩ := HMV.out.row hu (by rw [List.getElem?_map, List.getElem?_range hi]; rfl)
    have hl : n2 = c := by
      have h4 := h3.len
      rw [rowOf_len] at h4
      omega
    subst hl
    exact closure103 _ a2 n2 c2 w.heap.size col _ _ _ h3 (rowOf_get _ HCOL.out) (by simp)
  rintro e w' ⟨rfl, rfl⟩
  have hlt : fidx (fun i => F (a + i) col != 0) (n - a) 0 < 0 := HP.out
  go_wp2_with fail
  go_ret
  exact ⟨rfl, (Keep.refl _ _).alloc _⟩


set_option maxRecDepth 100000 in
set_option maxHeartbeats 4000000 in
theorem sink_some_false (fb N g n cap c a col j : Nat) (F : Nat → Nat → UInt8) (w : World) (hf : FieldAt w fb) (hfb : fb < N) (hO : Om N w g n c F) (hN : N ≤ g) (ha : a < n) (hcol : col < c) (hn : n ≤ 255) (hc : c ≤ 510) (hcap : n ≤ cap) (hp : sinkAt F n a col = (j : Int)) (hj : a + j < n) :
    Calls Try.prog 81 #[.slice (some ⟨g, 0, none⟩) n cap, .pointer (some ⟨fb, 0, none⟩), .int .i64 a, .int .i64 col, .bool false] w fun e w' => e = .returned (.bool true) ∧ FieldAt w' fb ∧ (Blk w fb 102 full → Blk w' fb 102 full) ∧ Keep (fun b => b = fb ∨ b = g) w w' ∧ Om N w' g n c (sinkE F a (a + j) col false) := by
  have hO1 := hO.keep ((Keep.refl (fun _ => False) w).alloc (.cells #[.int .i64 col] 3)) id (fun _ _ _ _ => id)
  obtain ⟨us, hmv⟩ := hO1.mv hN a
  have HMV := Lib.hid hmv
  have HP := Lib.hid hp
  have HCOL := Lib.hid hcol
  have HF := Lib.hid hf
  have HFB := Lib.hid hfb
  obtain ⟨q, hq⟩ : ∃ q, q = a + j := ⟨_, rfl⟩
  have HQ := Lib.hid hq
  rw [← hq] at hj
  have a0 : (0 : Int) ≤ (a : Int) := by omega
  have a1 : (a : Int) ≤ (n : Int) := by omega
  have a2 : (n : Int) ≤ (cap : Int) := by omega
  have a3 : (a : Int) < (n : Int) := by omega
  have a4 : (q : Int) < (n : Int) := by omega
  have a5 : (0 : Int) ≤ (q : Int) := by omega
  have a6 : IntKind.i64.wrap ((a : Int) + (j : Int)) = (q : Int) := by rw [IntWalk.i64_in _ (by omega)]; omega
  have HO1 := Lib.hid hO1
  have HGW := Lib.hid hO.lt
  have HA := Lib.hid ha
  have HJ := Lib.hid hj
  clear hO hO1 hmv hp hcol hf hfb hq
  have hmf := hmf
  go_enter Try.func81, Try.ntmps81
  go_wp2_with fail
  refine (idx_103 (fun b => N ≤ b) _ _ _ us _ _ (fun i => F (a + i) col != 0) _ HMV.out (by omega) (fun i u hu => ?_)).mono ?_
  · have hi : i < n - a := by
      have := (List.getElem?_eq_some_iff.1 hu).1
      have := HMV.out.lenu
      omega
    obtain ⟨a2, n2, c2, rfl, h1, h2, h3⟩ := HMV.out.row hu (by rw [List.getElem?_map, List.getElem?_range hi]; rfl)
    have hl : n2 = c := by
      have h4 := h3.len
      rw [rowOf_len] at h4
      omega
    subst hl
    exact closure103 _ a2 n2 c2 w.heap.size col _ _ _ h3 (rowOf_get _ HCOL.out) (by simp)
  rintro e w' ⟨rfl, rfl⟩
  rw [show fidx (fun i => F (a + i) col != 0) (n - a) 0 = (j : Int) from HP.out]
  go_upto_region 4 with fail
  go_cut [21] (fun _ wx => Hid (Om N wx g n c (swapE F a q) ∧ Keep (fun b => b = g) w wx ∧ wx.cell? ⟨w.heap.size, 0, none⟩ = some (.int .i64 (col : Int))))
  case first =>
    obtain ⟨aa, ca, hca, hfa, ka1, ka2, hra⟩ := HO1.out.at_ HA.out
    obtain ⟨ap, cp, hcp, hfp, kp1, kp2, hrp⟩ := HO1.out.at_ HJ.out
    have hfin : Hid (Om N (((w.alloc (.cells #[.int .i64 col] 3)).setCell ⟨g, a, none⟩ (.slice ap c cp)).setCell ⟨g, q, none⟩ (.slice aa c ca)) g n c (swapE F a q) ∧ Keep (fun b => b = g) w (((w.alloc (.cells #[.int .i64 col] 3)).setCell ⟨g, a, none⟩ (.slice ap c cp)).setCell ⟨g, q, none⟩ (.slice aa c ca)) ∧ (((w.alloc (.cells #[.int .i64 col] 3)).setCell ⟨g, a, none⟩ (.slice ap c cp)).setCell ⟨g, q, none⟩ (.slice aa c ca)).cell? ⟨w.heap.size, 0, none⟩ = some (.int .i64 (col : Int))) := by
      have hgw : g < w.heap.size := HGW.out
      have k1 : Keep (fun b => b = g) (w.alloc (.cells #[.int .i64 col] 3)) (((w.alloc (.cells #[.int .i64 col] 3)).setCell ⟨g, a, none⟩ (.slice ap c cp)).setCell ⟨g, q, none⟩ (.slice aa c ca)) :=
        ((Keep.refl (fun b => b = g) _).setCell (p := ⟨g, a, none⟩) (fun _ => rfl) _).setCell (p := ⟨g, q, none⟩) (fun _ => rfl) _
      have k2 : Keep (fun b => b = g) (w.alloc (.cells #[.int .i64 col] 3)) ((w.alloc (.cells #[.int .i64 col] 3)).setCell ⟨g, a, none⟩ (.slice ap c cp)) := (Keep.refl (fun b => b = g) _).setCell (p := ⟨g, a, none⟩) (fun _ => rfl) _
      refine ⟨?_, ((Keep.refl (fun b => b = g) w).alloc _).trans k1, ?_⟩
      · have h1 := (HO1.out.set_ (i := a) (u := .slice ap c cp) ⟨ap, c, cp, rfl, kp1, kp2, hrp⟩).set_ (i := q) (u := .slice aa c ca) (f := F a) ⟨aa, c, ca, rfl, ka1, ka2, hra.keep k2 (fun b _ hb e => hb.2 e)⟩
        refine h1.congr (fun i j _ _ => ?_)
        unfold swapE
        by_cases e1 : i = q
        · simp only [if_pos e1]
        · simp only [if_neg e1]
      · rw [k1.cell (by simp) (by show ¬ w.heap.size = g; omega)]
        simp
    have HRA := Lib.hid hra
    have HRP := Lib.hid hrp
    clear hra hrp ka1 ka2 kp1 kp2
    by_cases hne : q = a
    · subst hne
      have e : (Value.slice aa c ca) = .slice ap c cp := by rw [hca] at hcp; exact Option.some.inj hcp
      rw [e] at hfin
      clear e
      go_region_with (fail)
      all_goals
        go_wp2_with fail
        go_meet
        exact ⟨hfin.1, hfin.2.1.drew, hfin.2.2⟩
    · have hne2 : ¬ a = q := fun e => hne e.symm
      go_region_with (fail)
      all_goals
        go_wp2_with fail
        go_meet
        exact ⟨hfin.1, hfin.2.1.drew, hfin.2.2⟩
  case rest =>
    obtain ⟨F1, hF1⟩ : ∃ F1, F1 = swapE F a q := ⟨_, rfl⟩
    rw [← hF1] at hcut
    have HF1 := Lib.hid hF1
    have HX := Lib.hid hcut.out
    clear hcut hF1
    obtain ⟨aa, ca, hca, hfa, ka1, ka2, hra⟩ := HX.out.1.at_ HA.out
    have hbox := HX.out.2.2
    obtain ⟨b, o, x, rfl, hPb, hx, hcb⟩ := hra.at_ HCOL.out
    have hxe : x = F1 a col := by
      rw [rowOf_get _ HCOL.out] at hx
      exact (Option.some.inj hx).symm
    subst hxe
    have c0 : (0 : Int) ≤ (col : Int) := by omega
    have c1 : (col : Int) < (c : Int) := by have := HCOL.out; omega
    have HRA := Lib.hid hra
    have HPB := Lib.hid hPb
    have L1 := Lib.hid (World.block_lt_of_cell? _ _ hca)
    have L2 := Lib.hid (World.block_lt_of_cell? _ _ hbox)
    have L3 := Lib.hid (World.block_lt_of_cell? _ _ hcb)
    have hf1 : Hid (FieldAt wc fb) := HF.out.keep HX.out.2.1 (by have := HFB.out; omega)
    have n1 : Hid (¬ g = fb) := by have := HFB.out; show ¬ g = fb; omega
    have n2 : Hid (¬ w.heap.size = fb) := by have := HF.out.lt; show ¬ w.heap.size = fb; omega
    have n3 : Hid (¬ b = fb) := by have := HFB.out; have := HPB.out.1; show ¬ b = fb; omega
    clear hra hPb hx ka1 ka2
    go_upto_region 5 with fail
    go_cut [39] (fun _ wx => Hid (Om N wx g n c (unitE F1 a col) ∧ Blk wx fb 102 full ∧ Keep (fun b => b = fb ∨ b = g) w wx ∧ wx.cell? ⟨w.heap.size, 0, none⟩ = some (.int .i64 (col : Int))))
    case first =>
      go_region_with (first | (go_at_call 27; refine (inv_any fb _ _ ?_).mono ?_; (exact hf1.out); rintro e w2 ⟨rfl, hq⟩; have hq1 : Keep (· = fb) wc w2 := ⟨hq.keep.os, hq.keep.tape, hq.keep.output, hq.keep.size, hq.keep.block⟩; have k1 := (hq.keep.cell (p := ⟨g, a, none⟩) L1.out n1.out).trans hca; have k2 := (hq.keep.frozen (p := ⟨g, a, none⟩) L1.out n1.out).trans hfa; have k3 := (hq.keep.cell (p := ⟨w.heap.size, 0, none⟩) L2.out n2.out).trans hbox; have k4 := (hq.keep.cell (p := ⟨b, o + col, none⟩) L3.out n3.out).trans hcb) | (go_at_call 37; have hB := HRA.out.keep hq1 (fun b _ hb (e : b = fb) => absurd (show N ≤ b from hb.1) (by have := HFB.out; omega)); have hC : ¬ (N ≤ fb ∧ fb ≠ g) := (fun h => absurd h.1 (by have := HFB.out; omega)); have hS := scale_any fb (fun b => N ≤ b ∧ b ≠ g) (some ⟨b, o, none⟩) c ca (rowOf c (F1 a)) (ginv (F1 a col)) w2 hq.at_ hB hC (by omega); refine hS.mono ?_; clear hB hC hS; rintro e w3 ⟨_, rfl, ⟨g3, cap3, cs3, rfl, e1, e2, e3, e4, e5, e6⟩, hp3⟩; have j1 := (hp3.keep.cell (p := ⟨g, a, none⟩) (Nat.lt_of_lt_of_le L1.out hq1.size) n1.out).trans k1; have j2 := (hp3.keep.frozen (p := ⟨g, a, none⟩) (Nat.lt_of_lt_of_le L1.out hq1.size) n1.out).trans k2; have j3 := (hp3.keep.cell (p := ⟨w.heap.size, 0, none⟩) (Nat.lt_of_lt_of_le L2.out hq1.size) n2.out).trans k3; have j4 := (hp3.keep.cell (p := ⟨b, o + col, none⟩) (Nat.lt_of_lt_of_le L3.out hq1.size) n3.out).trans k4))
      all_goals
        go_wp2_with fail
        go_meet
        have hp' : Keep (· = fb) w2 w3 := ⟨hp3.keep.os, hp3.keep.tape, hp3.keep.output, hp3.keep.size, hp3.keep.block⟩
        have hk := hq1.trans hp'
        have hgl := Nat.lt_of_lt_of_le L1.out hq1.size
        have hbs : Bs (fun b => N ≤ b ∧ b ≠ g) w3 (.slice (some ⟨g3, 0, none⟩) (gscale (rowOf c (F1 a)) (ginv (F1 a col))).length cap3) (rowOf c (fun j => gmul (F1 a j) (ginv (F1 a col)))) := by
          rw [← rowOf_scale]
          exact (Nb.bs ⟨g3, cap3, cs3, rfl, e1, e2, e3, e4, e5, e6⟩).mono (fun b _ (hb : w2.heap.size ≤ b) => ⟨by omega, by omega⟩)
        have hst : Keep (fun b => b = g) w3 (w3.setCell ⟨g, a, none⟩ (.slice (some ⟨g3, 0, none⟩) (gscale (rowOf c (F1 a)) (ginv (F1 a col))).length cap3)) := (Keep.refl (fun b => b = g) _).setCell (p := ⟨g, a, none⟩) (fun _ => rfl) _
        refine ⟨?_, hp3.at_.keep hst (fun e => n1.out e.symm), ?_, ?_⟩
        · refine ((HX.out.1.keep hk n1.out (fun b _ hb _ (e : b = fb) => absurd hb (by have := HFB.out; omega))).set_ (i := a) hbs).congr (fun i j _ _ => ?_)
          unfold unitE
          by_cases e1 : i = a
          · simp only [if_pos e1]
          · simp only [if_neg e1]
        · have k0 : Keep (fun b => b = fb ∨ b = g) w wc := HX.out.2.1.mono (fun _ _ h => .inr h)
          exact (k0.trans' hk (fun _ _ h => .inl h)).trans' hst (fun _ _ h => .inr h)
        · rw [hst.cell (by have := L2.out; have := hk.size; show w.heap.size < w3.heap.size; omega) (by have := HGW.out; show ¬ w.heap.size = g; omega)]
          exact (hk.cell L2.out n2.out).trans hbox
    case rest =>
      obtain ⟨F2, hF2⟩ : ∃ F2, F2 = unitE F1 a col := ⟨_, rfl⟩
      rw [← hF2] at hcut
      have HF2 := Lib.hid hF2
      have HY := Lib.hid hcut.out
      have HB0 := Lib.hid HX.out.1.lt
      clear hcut hF2 hca hfa hcb hbox
      go_wp2_with fail
      go_loopw [12, 13, 59] (fun _ _ i wr => ∃ k : Nat, k ≤ n ∧ i = .int .i64 (k : Int) ∧
          Hid (Om N wr g n c (fun i => if i < k then clearAll F2 a col false i else F2 i) ∧ Blk wr fb 102 full ∧ Keep (fun b => b = fb ∨ b = g) w wr ∧ wr.cell? ⟨w.heap.size, 0, none⟩ = some (.int .i64 (col : Int)))) (fun _ _ i _ => n - (intOf i).toNat)
      case atStart =>
        exact ⟨0, Nat.zero_le _, rfl, HY.out.1.congr (fun i j _ _ => by rw [if_neg (Nat.not_lt_zero i)]), HY.out.2⟩
      case round =>
        obtain ⟨k, hk, rfl, HI⟩ := hrel
        obtain ⟨wo, rfl⟩ : ∃ wo : World, wo = wr := ⟨_, rfl⟩
        by_cases hlt : k < n
        · have hF2a : Hid ((if a < k then clearAll F2 a col false a else F2 a) = F2 a) := by
            show (if a < k then clearAll F2 a col false a else F2 a) = F2 a
            split <;> simp [clearAll]
          have HI1 : Hid (Om N wo g n c (fun i => if i < k then clearAll F2 a col false i else F2 i)) := HI.out.1
          obtain ⟨aa, ca, hca, hfa, ka1, ka2, hra⟩ := HI1.out.at_ HA.out
          obtain ⟨ak, ck, hck, hfk, kk1, kk2, hrk⟩ := HI1.out.at_ hlt
          have hbox := HI.out.2.2.2
          have HBX := Lib.hid hbox
          have HBR := Lib.hid HI.out.2.1
          have HKK := Lib.hid HI.out.2.2.1
          have hra' : Hid (Rb (fun b => N ≤ b ∧ b ≠ g) wo aa c (rowOf c (F2 a))) := by
            have := hra
            rw [hF2a.out] at this
            exact this
          have hrk' : Hid (Rb (fun b => N ≤ b ∧ b ≠ g) wo ak c (rowOf c (F2 k))) := by
            have := hrk
            rw [if_neg (Nat.lt_irrefl k)] at this
            exact this
          have k0 : (0 : Int) ≤ (k : Int) := by omega
          have kn : (k : Int) < (n : Int) := by omega
          have c0 : (0 : Int) ≤ (col : Int) := by omega
          have c1 : (col : Int) < (c : Int) := by have := HCOL.out; omega
          have HLT := Lib.hid hlt
          clear hra hrk ka1 ka2 kk1 kk2 HI hlt
          rcases Nat.lt_trichotomy a k with hak | hak | hak
          · have t1 : (a : Int) < (k : Int) := by omega
            have hyes : Hid (clearAll F2 a col false k = clearE F2 a col k) := by
              show clearAll F2 a col false k = clearE F2 a col k
              unfold clearAll
              rw [if_pos (by simp; omega)]
            obtain ⟨b2, o2, x2, rfl, hP2, hx2, hcb2⟩ := hrk'.out.at_ HCOL.out
            obtain rfl : F2 k col = x2 := by
              rw [rowOf_get _ HCOL.out] at hx2
              exact Option.some.inj hx2
            have L1 := Lib.hid (World.block_lt_of_cell? _ _ hck)
            clear hak hP2 hx2
            go_wp2_with fail
            go_region_with (first | (go_at_call 37; have hC : ¬ (N ≤ fb ∧ fb ≠ g) := (fun h => absurd h.1 (by have := HFB.out; omega)); have hS := fun (d : Nat) => scale_any fb (fun b => N ≤ b ∧ b ≠ g) aa c ca (rowOf c (F2 a)) (F2 k col) (wo.drewN d) (.inr (HBR.out.drewN d)) (hra'.out.drewN d) hC (by omega); refine (hS _).mono ?_; clear hC hS; rintro e w3 ⟨_, rfl, ⟨g3, cap3, cs3, rfl, e1, e2, e3, e4, e5, e6⟩, hp3⟩; have hk3 : Keep (· = fb) wo w3 := ⟨hp3.keep.os, hp3.keep.tape, hp3.keep.output, hp3.keep.size, hp3.keep.block⟩) | (go_at_call 36; have hb3 : Bs (fun b => wo.heap.size ≤ b) w3 (.slice (some ⟨g3, 0, none⟩) (gscale (rowOf c (F2 a)) (F2 k col)).length cap3) (gscale (rowOf c (F2 a)) (F2 k col)) := Nb.bs ⟨g3, cap3, cs3, rfl, e1, e2, e3, e4, e5, e6⟩; have hT := sum_any (.pointer (some ⟨fb, 0, none⟩)) (fun b => N ≤ b) (some ⟨b2, o2, none⟩) (some ⟨g3, 0, none⟩) c (gscale (rowOf c (F2 a)) (F2 k col)).length ck cap3 (rowOf c (F2 k)) (gscale (rowOf c (F2 a)) (F2 k col)) w3 ((hrk'.out.mono (fun b _ h => h.1)).keep hk3 (fun b _ (h : N ≤ b) (e : b = fb) => absurd h (by have := HFB.out; omega))) (bs_rb hb3 (fun b (h : wo.heap.size ≤ b) => by have := HI1.out.lt; show N ≤ b; omega)) (by omega) (by rw [rowOf_scale, rowOf_len]; omega); refine hT.mono ?_; clear hT hb3; rintro e w4 ⟨_, rfl, ⟨g4, cap4, cs4, rfl, i1, i2, i3, i4, i5, i6⟩, hk4⟩; have m1 := (hk4.cell (p := ⟨g, k, none⟩) (Nat.lt_of_lt_of_le L1.out hk3.size) id).trans ((hk3.cell (p := ⟨g, k, none⟩) L1.out n1.out).trans hck); have m2 := (hk4.frozen (p := ⟨g, k, none⟩) (Nat.lt_of_lt_of_le L1.out hk3.size) id).trans ((hk3.frozen (p := ⟨g, k, none⟩) L1.out n1.out).trans hfk)))
            all_goals
              have hk5 : Keep (· = fb) wo w4 := hk3.trans (hk4.mono (fun _ _ h => h.elim))
              have hbs : Bs (fun b => N ≤ b ∧ b ≠ g) w4 (.slice (some ⟨g4, 0, none⟩) (gsum (rowOf c (F2 k)) (gscale (rowOf c (F2 a)) (F2 k col))).length cap4) (rowOf c (clearE F2 a col k)) := by
                have h := (Nb.bs (w := w3) (w' := w4) ⟨g4, cap4, cs4, rfl, i1, i2, i3, i4, i5, i6⟩).mono (Q := fun b => N ≤ b ∧ b ≠ g) (fun b _ (hb : w3.heap.size ≤ b) => by have h1 := HI1.out.lt; have h2 := hk3.size; exact ⟨by omega, by omega⟩)
                have e : gsum (rowOf c (F2 k)) (gscale (rowOf c (F2 a)) (F2 k col)) = rowOf c (clearE F2 a col k) := by
                  rw [rowOf_scale, rowOf_sum]
                  rfl
                rw [e] at h ⊢
                exact h
              have HBS := Lib.hid hbs
              have HK5 := Lib.hid hk5
              have HB4 : Hid (Blk w4 fb 102 full) := hp3.at_.keep hk4 id
              have HLB := Lib.hid (World.block_lt_of_cell? _ _ HBX.out)
              have hst : Hid (Keep (fun b => b = g) w4 (w4.setCell ⟨g, k, none⟩ (.slice (some ⟨g4, 0, none⟩) (gsum (rowOf c (F2 k)) (gscale (rowOf c (F2 a)) (F2 k col))).length cap4))) := (Keep.refl (fun b => b = g) _).setCell (p := ⟨g, k, none⟩) (fun _ => rfl) _
              clear hbs hk5 hp3 hk3 hk4 m1 m2 hck hfk hca hfa hbox hcb2 e1 e2 e3 e4 e5 e6 i1 i2 i3 i4 i5 i6
              go_wp2_with fail
              go_roundw
              case rel =>
                refine ⟨k + 1, by have := HLT.out; omega, by go_num, ?_, HB4.out.keep hst.out (fun e => n1.out e.symm), (HKK.out.trans' HK5.out (fun _ _ h => .inl h)).trans' hst.out (fun _ _ h => .inr h), ?_⟩
                · have hN' := HFB.out
                  refine ((HI1.out.keep HK5.out n1.out (fun b _ hb _ (e : b = fb) => absurd hb (by omega))).set_ (i := k) HBS.out).congr (fun i j _ _ => ?_)
                  by_cases h2 : i = k
                  · rw [if_pos h2, if_pos (by omega), h2, hyes.out]
                  · rw [if_neg h2]
                    by_cases h1 : i < k
                    · rw [if_pos h1, if_pos (by omega)]
                    · rw [if_neg h1, if_neg (by omega)]
                · rw [hst.out.cell (Nat.lt_of_lt_of_le HLB.out HK5.out.size) (fun (e : w.heap.size = g) => by have := HGW.out; omega)]
                  exact (HK5.out.cell HLB.out n2.out).trans HBX.out
              case measure => simp [intOf]; omega
          · have t1 : (k : Int) ≤ (a : Int) := by omega
            have hno : Hid (clearAll F2 a col false k = F2 k) := by
              show clearAll F2 a col false k = F2 k
              unfold clearAll
              rw [if_neg (by simp; omega)]
            clear hak hfk hca hfa hbox
            go_wp2_with fail
            go_roundw
            case rel =>
              refine ⟨k + 1, by have := HLT.out; omega, by go_num, HI1.out.congr (fun i j _ _ => ?_), HBR.out, HKK.out, HBX.out⟩
              by_cases h1 : i < k
              · rw [if_pos h1, if_pos (by omega)]
              · rw [if_neg h1]
                by_cases h2 : i = k
                · rw [h2, if_pos (by omega), hno.out]
                · rw [if_neg (by omega)]
            case measure => simp [intOf]; omega
          · have t1 : (k : Int) ≤ (a : Int) := by omega
            have hno : Hid (clearAll F2 a col false k = F2 k) := by
              show clearAll F2 a col false k = F2 k
              unfold clearAll
              rw [if_neg (by simp; omega)]
            clear hak hfk hca hfa hbox
            go_wp2_with fail
            go_roundw
            case rel =>
              refine ⟨k + 1, by have := HLT.out; omega, by go_num, HI1.out.congr (fun i j _ _ => ?_), HBR.out, HKK.out, HBX.out⟩
              by_cases h1 : i < k
              · rw [if_pos h1, if_pos (by omega)]
              · rw [if_neg h1]
                by_cases h2 : i = k
                · rw [h2, if_pos (by omega), hno.out]
                · rw [if_neg (by omega)]
            case measure => simp [intOf]; omega
        · have hkn : (n : Int) ≤ (k : Int) := by omega
          go_wp2_with fail
          go_ret
          refine ⟨rfl, .inr HI.out.2.1, fun _ => HI.out.2.1, HI.out.2.2.1, HI.out.1.congr (fun i j hi _ => ?_)⟩
          rw [if_pos (by omega)]
          rw [HF2.out, HF1.out, HQ.out]
          rfl

end Go.Proofs.Ytegecjilpmkamaa
