/-
  The walks of carrier's Lose, Double, Empty.
-/
import Derived.Test.YtoojhdjdhhkkcaaBg
namespace Go.Proofs.Ytoojhdjdhhkkcaa
open Go.RowKit

theorem tot_get {xs : List ByteArray} {i : Nat} {s : ByteArray} (h : xs[i]? = some s) : tot xs = tot (xs.eraseIdx i) + s.size := by
  obtain ⟨hl, e⟩ := List.getElem?_eq_some_iff.1 h
  rw [List.eraseIdx_eq_take_drop_succ, tot_append]
  have h1 := List.take_append_drop i xs
  have h2 : xs.drop i = s :: xs.drop (i + 1) := by rw [List.drop_eq_getElem_cons hl, e]
  have h3 : tot xs = tot (xs.take i) + tot (xs.drop i) := by rw [← tot_append, h1]
  rw [h3, h2]
  simp [tot]
  omega

set_option maxRecDepth 100000 in
set_option maxHeartbeats 4000000 in
theorem lose_no {N : Nat} {bb R : Nat} {v : Value} {xs : List ByteArray} (i : Int) (w : World) (h : Bg N w bb R v xs) (hi : ¬ (0 ≤ i ∧ i < xs.length)) :
    Calls Try.prog 8 #[.pointer (some ⟨bb, 0, none⟩), .int .i64 i] w fun e w' => e = .returned (.int .i64 2) ∧ w = w' := by
  have H := Lib.hid h
  have HI := Lib.hid hi
  clear h hi
  go_enter Try.func8, Try.ntmps8
  go_wp2_with fail
  refine (check_no i w H.out HI.out).mono ?_
  rintro e w' ⟨rfl, rfl⟩
  go_wp2_with fail
  go_ret
  exact ⟨rfl, rfl⟩

set_option maxRecDepth 100000 in
set_option maxHeartbeats 8000000 in
theorem lose_yes {N : Nat} {bb R : Nat} {v : Value} {xs : List ByteArray} (i : Nat) (s : ByteArray) (w : World) (h : Bg N w bb R v xs) (hs : xs[i]? = some s) (hR : R + s.size ≤ 9223372036854775807) (hN : N ≤ w.heap.size) :
    Calls Try.prog 8 #[.pointer (some ⟨bb, 0, none⟩), .int .i64 (i : Int)] w fun e w' => ∃ v', e = .returned (.int .i64 0) ∧ Bg N w' bb (R + s.size) v' (xs.eraseIdx i) ∧ Tn bb w v w' v' := by
  have hi : i < xs.length := (List.getElem?_eq_some_iff.1 hs).1
  have hc1 := h.blk.cell 1
  have hc2 := h.blk.cell 2
  have hf1 := h.blk.frozen 1
  obtain ⟨g, cap, cur, hv, hg, hb, hcap, hmx, hsz, htk⟩ := h.own.blk (by omega)
  obtain ⟨n, hn⟩ : ∃ n, xs.length = n := ⟨_, rfl⟩
  have hnb : n ≤ 900000 := by have := h.few; omega
  rw [hn] at hv hcap htk hi
  subst hv
  have hci : w.cell? ⟨g, i, none⟩ = some (.string s) := by
    rw [hb.cell, ← Array.getElem?_toList]
    have h1 : (cur.toList.take n)[i]? = some (.string s) := by rw [htk, List.getElem?_map, hs]; rfl
    rw [List.getElem?_take, if_pos hi] at h1
    exact h1
  have H := Lib.hid h
  have HN := Lib.hid hn
  have HI := Lib.hid hi
  have HS := Lib.hid hs
  have i0 : (0 : Int) ≤ (i : Int) := by omega
  have i1 : (i : Int) < (n : Int) := by omega
  have i2 : (n : Int) ≤ 900000 := by omega
  obtain ⟨R', hR'⟩ : ∃ R', R + s.size = R' := ⟨_, rfl⟩
  have hadd : IntKind.i64.wrap ((R : Int) + (s.size : Int)) = (R' : Int) := by rw [← hR', Int.natCast_add]; exact IntWalk.i64_in _ (by omega)
  have HR' : Hid (R + s.size = R' ∧ R' ≤ 9223372036854775807) := ⟨hR', by omega⟩
  have HNN := Lib.hid hN
  have hgn : g ≠ bb := fun e => h.own.ne h.blk (by rw [e]; rfl)
  have hB1 : Blk ((w.setCell ⟨bb, 1, none⟩ (.int .i64 (R' : Int))).drew) bb 44 #[.bool true, .int .i64 (R' : Int), .slice (some ⟨g, 0, none⟩) n cap] := (h.blk.set_ 1 _).drew
  have hm2 := hB1.cell 2
  have HB1 := Lib.hid hB1
  have hK1 : Keep (· = bb) w ((w.setCell ⟨bb, 1, none⟩ (.int .i64 (R' : Int))).drew) := ((Keep.refl (· = bb) w).setCell (p := ⟨bb, 1, none⟩) (fun _ => rfl) _).drew
  have HK1 := Lib.hid hK1
  have HO1 : Hid (Os N ((w.setCell ⟨bb, 1, none⟩ (.int .i64 (R' : Int))).drew) (.slice (some ⟨g, 0, none⟩) n cap) xs) := h.own.keep hK1 (fun b hb e => h.own.ne h.blk (by rw [hb, e]))
  have HGN : Hid (g ≠ bb) := hgn
  clear h hn hs hR hN hb hg hcap hmx hsz htk hi hR' hB1 hK1 hgn
  go_enter Try.func8, Try.ntmps8
  go_wp2_with fail
  refine (check_ok i w H.out (by rw [HN.out]; exact HI.out)).mono ?_
  rintro e w' ⟨rfl, rfl⟩
  go_wp2_with fail
  go_still_tail 15, (by kernel_rfl)
  change wpList _ _ _ _ _ w.drew
  go_wp2_with fail
  generalize hw1 : (w.setCell ⟨bb, 1, none⟩ (.int .i64 (R' : Int))).drew = w1 at *
  have HSZ : Hid (w.heap.size ≤ w1.heap.size) := HK1.out.size
  obtain ⟨ac, cc, hac, _, _, hrs⟩ := HO1.out.form
  rw [HN.out] at hac hrs
  cases hac
  refine (clone_any _ _ n cap xs w1 hrs (by omega)).mono ?_
  rintro e w2 ⟨u, rfl, hos, hk⟩
  obtain ⟨gu, cu, cur2, rfl, hgu, _, _, _, _, _⟩ := hos.blk (by rw [HN.out]; have := HI.out; omega)
  rw [HN.out] at hos ⊢
  have HOS := Lib.hid hos
  have HK2 := Lib.hid hk
  have HGU : Hid (w1.heap.size ≤ gu) := hgu
  have HGL : Hid (gu < w2.heap.size) := (hos.lt rfl).2
  clear hos hk hgu hrs hw1 hm2 hc1 hc2 hf1 hci
  go_wp2_with fail
  refine (delete_any w1.heap.size gu n cu i xs w2 HOS.out HN.out HI.out (by omega)).mono ?_
  rintro e w3 ⟨v3, rfl, hos, hk, _⟩
  obtain ⟨a3, n3, c3, hv3⟩ := hos.form0
  subst hv3
  have hb3 : Blk w3 bb 44 #[.bool true, .int .i64 (R' : Int), .slice (some ⟨g, 0, none⟩) n cap] := (HB1.out.keep HK2.out id).keep hk (by have := HB1.out.lt; have := HGU.out; omega)
  have hm3 := hb3.cell 2
  have hf3 := hb3.frozen 2
  have HB3 := Lib.hid hb3
  have HO3 := Lib.hid hos
  have HK3 : Hid (Keep (· = bb) w w3) := (HK1.out.trans' HK2.out (fun _ _ h => h.elim)).trans' hk (fun q hq e => by have := HGU.out; have := HSZ.out; have e' : q = gu := e; omega)
  clear hos hk hb3
  go_wp2_with fail
  go_ret
  rw [HR'.out.1]
  refine ⟨.slice a3 n3 c3, rfl, ⟨H.out.ge, HB3.out.set_ 2 _, (HO3.out.old (Nat.le_trans HNN.out HSZ.out)).keep ((Keep.refl (· = bb) w3).setCell (p := ⟨bb, 2, none⟩) (fun _ => rfl) _) (fun b hb e => HO3.out.ne HB3.out (by rw [hb, e])), ?_, HR'.out.2⟩, ⟨(HK3.out.setCell (p := ⟨bb, 2, none⟩) (fun _ => rfl) _).mono (fun b _ hb => .inl hb), fun b hb => .inr (Nat.le_trans HSZ.out (HO3.out.lt hb).1)⟩⟩
  have := H.out.few
  rw [List.length_eraseIdx]
  split <;> omega

set_option maxRecDepth 100000 in
set_option maxHeartbeats 4000000 in
theorem double_no {N : Nat} {bb R : Nat} {v : Value} {xs : List ByteArray} (i : Int) (w : World) (h : Bg N w bb R v xs) (hi : ¬ (0 ≤ i ∧ i < xs.length)) :
    Calls Try.prog 9 #[.pointer (some ⟨bb, 0, none⟩), .int .i64 i] w fun e w' => e = .returned (.int .i64 2) ∧ w = w' := by
  have H := Lib.hid h
  have HI := Lib.hid hi
  clear h hi
  go_enter Try.func9, Try.ntmps9
  go_wp2_with fail
  refine (check_no i w H.out HI.out).mono ?_
  rintro e w' ⟨rfl, rfl⟩
  go_wp2_with fail
  go_ret
  exact ⟨rfl, rfl⟩

theorem Bg.text {N : Nat} {bb R : Nat} {v : Value} {xs : List ByteArray} {w : World} (h : Bg N w bb R v xs) {i : Nat} {s : ByteArray} (hs : xs[i]? = some s) : ∃ g cap, v = .slice (some ⟨g, 0, none⟩) xs.length cap ∧ w.cell? ⟨g, i, none⟩ = some (.string s) ∧ g ≠ bb := by
  have hi : i < xs.length := (List.getElem?_eq_some_iff.1 hs).1
  obtain ⟨g, cap, cur, hv, hg, hb, hcap, hmx, hsz, htk⟩ := h.own.blk (by omega)
  refine ⟨g, cap, hv, ?_, fun e => h.own.ne h.blk (by rw [hv, e]; rfl)⟩
  rw [hb.cell, ← Array.getElem?_toList]
  have h1 : (cur.toList.take xs.length)[i]? = some (.string s) := by rw [htk, List.getElem?_map, hs]; rfl
  rw [List.getElem?_take, if_pos hi] at h1
  exact h1

set_option maxRecDepth 100000 in
set_option maxHeartbeats 4000000 in
theorem double_full {N : Nat} {bb R : Nat} {v : Value} {xs : List ByteArray} (i : Nat) (s : ByteArray) (w : World) (h : Bg N w bb R v xs) (hs : xs[i]? = some s) (hR : R < s.size) :
    Calls Try.prog 9 #[.pointer (some ⟨bb, 0, none⟩), .int .i64 (i : Int)] w fun e w' => e = .returned (.int .i64 15) ∧ w = w' := by
  have hi : i < xs.length := (List.getElem?_eq_some_iff.1 hs).1
  have hc2 := h.blk.cell 2
  obtain ⟨g, cap, rfl, hci, _⟩ := h.text hs
  obtain ⟨n, hn⟩ : ∃ n, xs.length = n := ⟨_, rfl⟩
  rw [hn] at h hc2
  have i0 : (0 : Int) ≤ (i : Int) := by omega
  have i1 : (i : Int) < (n : Int) := by omega
  have H := Lib.hid h
  have HI := Lib.hid hi
  have HRR := Lib.hid hR
  have hnt := hnot
  clear h hi hn hR hs
  go_enter Try.func9, Try.ntmps9
  go_wp2_with fail
  refine (check_ok i w H.out HI.out).mono ?_
  rintro e w' ⟨rfl, rfl⟩
  go_wp2_with fail
  refine (put_no s w H.out HRR.out).mono ?_
  rintro e w' ⟨rfl, rfl⟩
  go_wp2_with fail
  go_ret
  exact ⟨rfl, rfl⟩

set_option maxRecDepth 100000 in
set_option maxHeartbeats 4000000 in
theorem double_yes {N : Nat} {bb R : Nat} {v : Value} {xs : List ByteArray} (i : Nat) (s : ByteArray) (w : World) (h : Bg N w bb R v xs) (hs : xs[i]? = some s) (hR : s.size ≤ R) (hl : xs.length < 900000) (hN : N ≤ w.heap.size) :
    Calls Try.prog 9 #[.pointer (some ⟨bb, 0, none⟩), .int .i64 (i : Int)] w fun e w' => ∃ v', e = .returned (.int .i64 0) ∧ Bg N w' bb (R - s.size) v' (xs ++ [s]) ∧ Tn bb w v w' v' := by
  have hi : i < xs.length := (List.getElem?_eq_some_iff.1 hs).1
  have hc2 := h.blk.cell 2
  obtain ⟨g, cap, rfl, hci, _⟩ := h.text hs
  obtain ⟨n, hn⟩ : ∃ n, xs.length = n := ⟨_, rfl⟩
  rw [hn] at h hc2 ⊢
  have i0 : (0 : Int) ≤ (i : Int) := by omega
  have i1 : (i : Int) < (n : Int) := by omega
  have H := Lib.hid h
  have HI := Lib.hid hi
  have HRR := Lib.hid hR
  have HL := Lib.hid hl
  have HNN := Lib.hid hN
  have hnt := hnot
  clear h hi hn hR hs hl hN
  go_enter Try.func9, Try.ntmps9
  go_wp2_with fail
  refine (check_ok i w H.out HI.out).mono ?_
  rintro e w' ⟨rfl, rfl⟩
  go_wp2_with fail
  refine (put_yes s w H.out HRR.out HL.out HNN.out).mono ?_
  rintro e w1 ⟨v1, rfl, hbg, htn⟩
  have HB := Lib.hid hbg
  have HT := Lib.hid htn
  clear hbg htn
  go_wp2_with fail
  go_ret
  exact ⟨v1, rfl, HB.out, HT.out⟩

set_option maxRecDepth 100000 in
set_option maxHeartbeats 4000000 in
theorem empty_yes {N : Nat} {bb R : Nat} {v : Value} {xs : List ByteArray} (w : World) (h : Bg N w bb R v xs) (hR : R + tot xs ≤ 9223372036854775807) (hN : N ≤ w.heap.size) :
    Calls Try.prog 13 #[.pointer (some ⟨bb, 0, none⟩)] w fun e w' => ∃ u v', e = .returned u ∧ Os w.heap.size w' u xs ∧ Bg N w' bb (R + tot xs) v' [] ∧ Tn bb w v w' v' ∧ (∀ b, u.ownBlock = some b → v'.ownBlock ≠ some b) := by
  have H := Lib.hid h
  have HRR := Lib.hid hR
  have HNN := Lib.hid hN
  have HF := Lib.hid h.few
  clear h hR hN
  go_enter Try.func13, Try.ntmps13
  go_wp2_with fail
  refine (files_yes w H.out).mono ?_
  rintro e w1 ⟨u, rfl, hos, hk⟩
  obtain ⟨ua, uc, rfl, _, _, _⟩ := hos.form
  obtain ⟨n, hn⟩ : ∃ n, xs.length = n := ⟨_, rfl⟩
  have HN := Lib.hid hn
  rw [hn] at hos ⊢
  have HOS := Lib.hid hos
  have HB1 := Lib.hid (H.out.k hk)
  have HT1 : Hid (Tn bb w v w1 v) := (Tn.refl bb w v).k hk
  have n1 : (n : Int) ≤ 900000 := by have := HF.out; omega
  have HVU : Hid (∀ b, v.ownBlock = some b → b < w.heap.size) := fun b hb => (H.out.own.lt hb).2
  have HBB : Hid (bb < w.heap.size) := H.out.blk.lt
  clear hos hk hn
  go_wp2_with fail
  go_loopw [4] (fun i wr => ∃ (j : Nat) (v1 : Value), j ≤ n ∧ i = .int .i64 ((j : Int) - 1) ∧
      Hid (Bg N wr bb (R + tot (xs.drop j)) v1 (xs.take j) ∧ Tn bb w v wr v1 ∧ Os w.heap.size wr (.slice ua n uc) xs ∧ (∀ b, (Value.slice ua n uc).ownBlock = some b → v1.ownBlock ≠ some b))) (fun i _ => (intOf i + 1).toNat)
  case atStart =>
    refine ⟨n, v, Nat.le_refl _, rfl, ?_, HT1.out, HOS.out, fun b hb e => by have := (HOS.out.lt hb).1; have := HVU.out b e; omega⟩
    rw [List.take_of_length_le (by rw [HN.out]; omega), List.drop_of_length_le (by rw [HN.out]; omega)]
    exact HB1.out
  case round =>
    obtain ⟨j, v1, hj, rfl, HI⟩ := hrel
    obtain ⟨wo, rfl⟩ : ∃ wo : World, wo = wr := ⟨_, rfl⟩
    by_cases hj0 : j = 0
    · subst hj0
      clear hj
      go_wp2_with fail
      go_ret
      refine ⟨_, v1, rfl, HI.out.2.2.1, ?_, HI.out.2.1, HI.out.2.2.2⟩
      exact HI.out.1
    · obtain ⟨k, rfl⟩ : ∃ k, j = k + 1 := ⟨j - 1, by omega⟩
      have hk0 : (0 : Int) ≤ (k : Int) := by omega
      have hk1 : (k : Int) ≤ 900000 := by omega
      obtain ⟨s, hs⟩ : ∃ s, xs[k]? = some s := ⟨xs[k]'(by have := HN.out; omega), List.getElem?_eq_getElem _⟩
      have e1 : (xs.take (k + 1))[k]? = some s := by rw [List.getElem?_take, if_pos (by omega)]; exact hs
      have e2 : (xs.take (k + 1)).eraseIdx k = xs.take k := by
        rw [List.take_add_one, hs, Option.toList_some]
        have hl : (xs.take k).length = k := by rw [List.length_take]; have := HN.out; omega
        rw [List.eraseIdx_append_of_length_le (by omega), hl, Nat.sub_self]
        simp
      have e3 : tot (xs.drop k) = tot (xs.drop (k + 1)) + s.size := by
        obtain ⟨hl, e⟩ := List.getElem?_eq_some_iff.1 hs
        rw [List.drop_eq_getElem_cons hl, e]
        simp [tot]
        omega
      have e4 : R + tot (xs.drop (k + 1)) + s.size ≤ 9223372036854775807 := by
        have h1 : tot xs = tot (xs.take k) + tot (xs.drop k) := by rw [← tot_append, List.take_append_drop]
        have := HRR.out
        omega
      have HE := Lib.hid (⟨e1, e2, e3, e4⟩ : _ ∧ _ ∧ _ ∧ _)
      have HJ := Lib.hid hj
      clear hs e1 e2 e3 e4 hj hj0
      go_wp2_with fail
      refine (lose_yes k s wo HI.out.1 HE.out.1 HE.out.2.2.2 (Nat.le_trans HNN.out HI.out.2.1.keep.size)).mono ?_
      rintro e w2 ⟨v2, rfl, hbg, htn⟩
      rw [HE.out.2.1, Nat.add_assoc, ← HE.out.2.2.1] at hbg
      have HBG := Lib.hid hbg
      have HTN := Lib.hid htn
      have HSU : Hid (∀ b, (Value.slice ua n uc).ownBlock = some b → ¬ bagS bb v1 b) := fun b hb hs => by
        rcases hs with hs | hs
        · have h1 := (HI.out.2.2.1.lt hb).1
          have h2 := HBB.out
          omega
        · exact HI.out.2.2.2 b hb hs
      clear hbg htn
      go_wp2_with fail
      go_roundw
      case rel =>
        refine ⟨k, v2, by have := HJ.out; omega, by go_num, HBG.out, HI.out.2.1.trans HTN.out, HI.out.2.2.1.keep HTN.out.keep HSU.out, fun b hb e => ?_⟩
        rcases HTN.out.own b e with h1 | h1
        · exact HI.out.2.2.2 b hb h1
        · have := (HI.out.2.2.1.lt hb).2
          omega
      case measure => simp [intOf]
end Go.Proofs.Ytoojhdjdhhkkcaa
