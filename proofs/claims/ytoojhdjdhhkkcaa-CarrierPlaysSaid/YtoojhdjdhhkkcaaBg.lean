/-
  A bag in memory; the walks of carrier's New, none, Room, put, Pack, Files, check.
-/
import Derived.Test.YtoojhdjdhhkkcaaSr
namespace Go.Proofs.Ytoojhdjdhhkkcaa
open Go.RowKit

/-- A made bag: its block, its room, its files. -/
structure Bg (N : Nat) (w : World) (bb : Nat) (R : Nat) (v : Value) (xs : List ByteArray) : Prop where
  ge : N ≤ bb
  blk : Blk w bb 44 #[.bool true, .int .i64 (R : Int), v]
  own : Os N w v xs
  few : xs.length ≤ 900000
  room : R ≤ 9223372036854775807

theorem Os.form0 {N : Nat} {w : World} {v : Value} {xs : List ByteArray} (h : Os N w v xs) : ∃ ao n cap, v = .slice ao n cap := by
  obtain ⟨ao, cap, h, _⟩ := h.form
  exact ⟨ao, _, cap, h⟩

theorem Blk.ne_ {w : World} {g g' : Nat} {t t' : TypeId} {cs cs' : Array Value} (h : Blk w g t cs) (h' : Blk w g' t' cs') (hne : t ≠ t') : g ≠ g' := by
  rintro rfl
  unfold Blk at h h'
  rw [h] at h'
  injection h' with h'
  injection h' with _ ht
  exact hne ht

theorem Os.ne {N : Nat} {w : World} {v : Value} {xs : List ByteArray} (h : Os N w v xs) {bb : Nat} {cs : Array Value} (hb : Blk w bb 44 cs) : v.ownBlock ≠ some bb := by
  intro e
  rcases h.2 with ⟨rfl, _⟩ | ⟨g, cap, cur, rfl, _, h5, _⟩
  · cases e
  · have h6 : Blk w g 9 cur := h5
    exact Blk.ne_ h6 hb (by decide) (Option.some.inj e)

/-- What a bag's act turns: the bag's block, and that of its files. -/
def bagS (bb : Nat) (v : Value) : Nat → Prop := fun b => b = bb ∨ v.ownBlock = some b

/-- A bag's act: what it turns, and where its files lie behind it. -/
structure Tn (bb : Nat) (w : World) (v : Value) (w' : World) (v' : Value) : Prop where
  keep : Keep (bagS bb v) w w'
  own : ∀ b, v'.ownBlock = some b → v.ownBlock = some b ∨ w.heap.size ≤ b

theorem Tn.refl (bb : Nat) (w : World) (v : Value) : Tn bb w v w v := ⟨Keep.refl _ _, fun _ h => .inl h⟩
theorem Tn.trans {bb : Nat} {w w1 w2 : World} {v v1 v2 : Value} (h : Tn bb w v w1 v1) (k : Tn bb w1 v1 w2 v2) : Tn bb w v w2 v2 :=
  ⟨h.keep.trans' k.keep (fun i hi hs => by
    rcases hs with hs | hs
    · exact .inl hs
    · rcases h.own i hs with h1 | h1
      · exact .inr h1
      · omega), fun b hb => by
    rcases k.own b hb with h1 | h1
    · exact h.own b h1
    · exact .inr (Nat.le_trans h.keep.size h1)⟩
theorem Tn.k {bb : Nat} {w w1 w2 : World} {v v1 : Value} (h : Tn bb w v w1 v1) (k : Keep (fun _ => False) w1 w2) : Tn bb w v w2 v1 :=
  ⟨h.keep.trans' k (fun _ _ h => h.elim), h.own⟩

theorem Bg.keep {S : Nat → Prop} {N : Nat} {w w' : World} {bb R : Nat} {v : Value} {xs : List ByteArray} (h : Bg N w bb R v xs) (hk : Keep S w w') (hs : ∀ b, N ≤ b → b < w.heap.size → ¬ S b) : Bg N w' bb R v xs :=
  ⟨h.ge, h.blk.keep hk (hs bb h.ge h.blk.lt), h.own.keep hk (fun b hb => hs b (h.own.lt hb).1 (h.own.lt hb).2), h.few, h.room⟩
theorem Bg.k {N : Nat} {w w' : World} {bb R : Nat} {v : Value} {xs : List ByteArray} (h : Bg N w bb R v xs) (hk : Keep (fun _ => False) w w') : Bg N w' bb R v xs := h.keep hk (fun _ _ _ => id)

set_option maxRecDepth 100000 in
theorem new_no (R : Int) (w : World) (h : R < 0) : Calls Try.prog 5 #[.int .i64 R] w fun e w' => e = .returned (.tuple #[.pointer none, .int .i64 2]) ∧ w = w' := by
  go_enter Try.func5, Try.ntmps5
  go_wp2_with fail
  go_ret2
  exact ⟨rfl, rfl⟩

set_option maxRecDepth 100000 in
theorem new_yes (N R : Nat) (w : World) (hR : R ≤ 9223372036854775807) (hN : N ≤ w.heap.size) : Calls Try.prog 5 #[.int .i64 (R : Int)] w fun e w' => e = .returned (.tuple #[.pointer (some ⟨w.heap.size, 0, none⟩), .int .i64 0]) ∧ Bg N w' w.heap.size R (.slice none 0 0) [] ∧ Keep (fun _ => False) w w' := by
  have h0 : (0 : Int) ≤ (R : Int) := by omega
  go_enter Try.func5, Try.ntmps5
  go_wp2_with fail
  go_ret2
  exact ⟨rfl, ⟨hN, Blk.new _ _ _, Os.nil _ _, by simp, hR⟩, (Keep.refl _ _).alloc _⟩

theorem hnot : ∀ (x : Bool) (w : World), (Op.unary .not (.bool x)).run Try.prog w = .ok (.bool (!x)) w := fun _ _ => rfl

set_option maxRecDepth 100000 in
theorem none_no {N : Nat} {bb R : Nat} {v : Value} {xs : List ByteArray} (w : World) (h : Bg N w bb R v xs) :
    Calls Try.prog 17 #[.pointer (some ⟨bb, 0, none⟩)] w fun e w' => e = .returned (.bool false) ∧ w = w' := by
  have hc := h.blk.cell 0
  have hnt := hnot
  clear h
  go_enter Try.func17, Try.ntmps17
  go_wp2_with fail
  go_ret
  exact ⟨rfl, rfl⟩

set_option maxRecDepth 100000 in
theorem none_nil (w : World) : Calls Try.prog 17 #[.pointer none] w fun e w' => e = .returned (.bool true) ∧ w = w' := by
  have hnt := hnot
  go_enter Try.func17, Try.ntmps17
  go_wp2_with fail
  go_ret
  exact ⟨rfl, rfl⟩

set_option maxRecDepth 100000 in
theorem none_zero (bb : Nat) (w : World) (hc : w.cell? ⟨bb, 0, none⟩ = some (.bool false)) : Calls Try.prog 17 #[.pointer (some ⟨bb, 0, none⟩)] w fun e w' => e = .returned (.bool true) ∧ w = w' := by
  have hnt := hnot
  go_enter Try.func17, Try.ntmps17
  go_wp2_with fail
  go_ret
  exact ⟨rfl, rfl⟩

set_option maxRecDepth 100000 in
theorem room_yes {N : Nat} {bb R : Nat} {v : Value} {xs : List ByteArray} (w : World) (h : Bg N w bb R v xs) :
    Calls Try.prog 16 #[.pointer (some ⟨bb, 0, none⟩)] w fun e w' => e = .returned (.int .i64 (R : Int)) ∧ w = w' := by
  have hc := h.blk.cell 1
  have H := Lib.hid h
  clear h
  go_enter Try.func16, Try.ntmps16
  go_wp2_with fail
  refine (none_no w H.out).mono ?_
  rintro e w' ⟨rfl, rfl⟩
  go_wp2_with fail
  go_ret
  exact ⟨rfl, rfl⟩

set_option maxRecDepth 100000 in
set_option maxHeartbeats 4000000 in
theorem put_no {N : Nat} {bb R : Nat} {v : Value} {xs : List ByteArray} (s : ByteArray) (w : World) (h : Bg N w bb R v xs) (hs : R < s.size) :
    Calls Try.prog 18 #[.pointer (some ⟨bb, 0, none⟩), .string s] w fun e w' => e = .returned (.bool false) ∧ w = w' := by
  have hc := h.blk.cell 1
  have h1 : (R : Int) < (s.size : Int) := by omega
  clear h hs
  go_enter Try.func18, Try.ntmps18
  go_wp2_with fail
  go_ret
  exact ⟨rfl, rfl⟩

set_option maxRecDepth 100000 in
set_option maxHeartbeats 4000000 in
theorem put_yes {N : Nat} {bb R : Nat} {v : Value} {xs : List ByteArray} (s : ByteArray) (w : World) (h : Bg N w bb R v xs) (hs : s.size ≤ R) (hl : xs.length < 900000) (hN : N ≤ w.heap.size) :
    Calls Try.prog 18 #[.pointer (some ⟨bb, 0, none⟩), .string s] w fun e w' => ∃ v', e = .returned (.bool true) ∧ Bg N w' bb (R - s.size) v' (xs ++ [s]) ∧ Tn bb w v w' v' := by
  have hc1 := h.blk.cell 1
  have hc2 := h.blk.cell 2
  have h1 : (s.size : Int) ≤ (R : Int) := by omega
  have h2 : (R : Int) ≤ 9223372036854775807 := by have := h.room; omega
  have H := Lib.hid h
  have HL : Hid (s.size ≤ R ∧ xs.length < 900000 ∧ N ≤ w.heap.size) := ⟨hs, hl, hN⟩
  obtain ⟨R', hR'⟩ : ∃ R', R - s.size = R' := ⟨_, rfl⟩
  have hsub : (R : Int) - (s.size : Int) = (R' : Int) := by omega
  have HR' := Lib.hid hR'
  clear h hs hl hN hR'
  go_enter Try.func18, Try.ntmps18
  go_wp2_with (first
    | (at_builtin; refine wpl_apps1 w rfl (.tmp 16) (.tmp 18) rfl N v xs s w.heap.size rfl rfl rfl H.out.own (by have := HL.out; omega) HL.out.2.2 ?_; intro v' w1 hos hkp hown; obtain ⟨va, vn, vc, hve⟩ := hos.form0; subst hve; have hb1 := H.out.blk.keep hkp (H.out.own.ne H.out.blk); have hm1 := hb1.cell 1; have hm2 := hb1.cell 2; have hf1 := hb1.frozen 1; have hf2 := hb1.frozen 2; have HO := Lib.hid hos; have HK := Lib.hid hkp; have HB1 := Lib.hid hb1; have HOW := Lib.hid hown; clear hos hkp hb1 hown))
  go_ret
  rw [HR'.out]
  have hb2 := (HB1.out.set_ 2 (.slice va vn vc)).set_ 1 (.int .i64 (R' : Int))
  refine ⟨_, rfl, ⟨H.out.ge, hb2, (HO.out.keep (((Keep.refl (· = bb) w1).setCell (p := ⟨bb, 2, none⟩) (fun _ => rfl) _).setCell (p := ⟨bb, 1, none⟩) (fun _ => rfl) (.int .i64 (R' : Int))) (fun b hb e => HO.out.ne HB1.out (by rw [hb, e]))), by rw [List.length_append, List.length_singleton]; have := HL.out; omega, by have := H.out.room; have := HR'.out; omega⟩, ?_⟩
  exact ⟨((HK.out.mono (fun b _ hb => .inr hb)).setCell (p := ⟨bb, 2, none⟩) (fun _ => .inl rfl) _).setCell (p := ⟨bb, 1, none⟩) (fun _ => .inl rfl) _, HOW.out⟩

/-- How many bytes texts have together. -/
def tot (xs : List ByteArray) : Nat := (xs.map ByteArray.size).sum
theorem tot_append (xs ys : List ByteArray) : tot (xs ++ ys) = tot xs + tot ys := by simp [tot, List.sum_append]
theorem tot_one (s : ByteArray) : tot [s] = s.size := by simp [tot]

/-- Of files those that fit, as far as they do. -/
def fitL : Nat → List ByteArray → List ByteArray
  | _, [] => []
  | R, f :: fs => if f.size ≤ R then f :: fitL (R - f.size) fs else []

theorem fitL_all : ∀ (fs : List ByteArray) (R : Nat), tot fs ≤ R → fitL R fs = fs := by
  intro fs
  induction fs with
  | nil => intro R _; rfl
  | cons f fs ih =>
    intro R h
    have h1 : f.size + tot fs ≤ R := by simpa [tot] using h
    rw [fitL, if_pos (by omega), ih _ (by omega)]

theorem fitL_tot : ∀ (fs : List ByteArray) (R : Nat), tot (fitL R fs) ≤ R := by
  intro fs
  induction fs with
  | nil => intro R; simp [fitL, tot]
  | cons f fs ih =>
    intro R
    rw [fitL]
    split
    · have := ih (R - f.size)
      show tot (f :: _) ≤ R
      have e : tot (f :: fitL (R - f.size) fs) = f.size + tot (fitL (R - f.size) fs) := by simp [tot]
      omega
    · simp [tot]

theorem fitL_step {fs : List ByteArray} {R j : Nat} {f : ByteArray} (hf : fs[j]? = some f) (h : fitL R fs = fs.take j ++ fitL (R - tot (fs.take j)) (fs.drop j)) (hfit : f.size ≤ R - tot (fs.take j)) :
    fitL R fs = fs.take (j + 1) ++ fitL (R - tot (fs.take (j + 1))) (fs.drop (j + 1)) := by
  obtain ⟨hl, e⟩ := List.getElem?_eq_some_iff.1 hf
  rw [h, List.drop_eq_getElem_cons hl, e, fitL, if_pos hfit, List.take_add_one, hf, Option.toList_some, tot_append, tot_one, List.append_assoc, Nat.sub_sub]
  rfl

theorem fitL_stop {fs : List ByteArray} {R j : Nat} {f : ByteArray} (hf : fs[j]? = some f) (h : fitL R fs = fs.take j ++ fitL (R - tot (fs.take j)) (fs.drop j)) (hfit : ¬ f.size ≤ R - tot (fs.take j)) :
    fitL R fs = fs.take j := by
  obtain ⟨hl, e⟩ := List.getElem?_eq_some_iff.1 hf
  rw [h, List.drop_eq_getElem_cons hl, e, fitL, if_neg hfit, List.append_nil]

set_option maxRecDepth 100000 in
set_option maxHeartbeats 8000000 in
theorem pack_yes {N : Nat} {bb R : Nat} {v : Value} {xs : List ByteArray} (P : Nat → Prop) (ao : Option Addr) (n cap : Nat) (fs : List ByteArray) (w : World) (h : Bg N w bb R v xs) (hr : Rs P w ao n fs) (hn : n ≤ 100000) (hl : xs.length + n ≤ 900000) (hN : N ≤ w.heap.size) (hP : ∀ b, b < w.heap.size → P b → ¬ bagS bb v b) :
    Calls Try.prog 7 #[.pointer (some ⟨bb, 0, none⟩), .slice ao n cap] w fun e w' => ∃ v', e = .returned (.int .i64 ((fitL R fs).length : Int)) ∧ Bg N w' bb (R - tot (fitL R fs)) v' (xs ++ fitL R fs) ∧ Tn bb w v w' v' := by
  have H := Lib.hid h
  have HR := Lib.hid hr
  have HB : Hid (n ≤ 100000 ∧ xs.length + n ≤ 900000 ∧ N ≤ w.heap.size) := ⟨hn, hl, hN⟩
  have HP := Lib.hid hP
  have n1 : (n : Int) ≤ 100000 := by omega
  have hnt := hnot
  clear h hr hn hl hN hP
  go_enter Try.func7, Try.ntmps7
  go_wp2_with fail
  refine (none_no w H.out).mono ?_
  rintro e w' ⟨rfl, rfl⟩
  go_wp2_with fail
  go_loopw [5, 6, 11] (fun _ _ i wr => ∃ (j : Nat) (v1 : Value), j ≤ n ∧ i = .int .i64 (j : Int) ∧
      Hid (Bg N wr bb (R - tot (fs.take j)) v1 (xs ++ fs.take j) ∧ Tn bb w v wr v1 ∧ fitL R fs = fs.take j ++ fitL (R - tot (fs.take j)) (fs.drop j) ∧ tot (fs.take j) ≤ R)) (fun _ _ i _ => n - (intOf i).toNat)
  case atStart => exact ⟨0, v, Nat.zero_le _, rfl, by rw [List.take_zero, List.append_nil]; exact H.out, Tn.refl _ _ _, rfl, by simp [tot]⟩
  case round =>
    obtain ⟨j, v1, hj, rfl, HI⟩ := hrel
    obtain ⟨wo, rfl⟩ : ∃ wo : World, wo = wr := ⟨_, rfl⟩
    by_cases hlt : j < n
    · have j0 : (0 : Int) ≤ (j : Int) := by omega
      have jn : (j : Int) < (n : Int) := by omega
      have HLT := Lib.hid hlt
      obtain ⟨b, o, s, rfl, _, hs, hcs⟩ := (HR.out.keep HI.out.2.1.keep HP.out).at_ hlt
      have HS := Lib.hid hs
      clear hs hlt
      by_cases hfit : s.size ≤ R - tot (fs.take j)
      · have HF := Lib.hid hfit
        clear hfit
        go_wp2_with fail
        refine (put_yes s wo HI.out.1 HF.out (by have := HB.out; have := HLT.out; rw [List.length_append, List.length_take]; omega) (Nat.le_trans HB.out.2.2 HI.out.2.1.keep.size)).mono ?_
        rintro e w2 ⟨v2, rfl, hbg, htn⟩
        have HBG := Lib.hid hbg
        have HTN := Lib.hid (HI.out.2.1.trans htn)
        have e1 : fs.take (j + 1) = fs.take j ++ [s] := by rw [List.take_add_one, HS.out, Option.toList_some]
        have HE := Lib.hid e1
        clear hbg htn e1
        go_wp2_with fail
        go_roundw
        case rel =>
          refine ⟨j + 1, v2, by have := HLT.out; omega, by go_num, ?_, HTN.out, fitL_step HS.out HI.out.2.2.1 HF.out, ?_⟩
          · rw [HE.out, tot_append, tot_one, ← List.append_assoc, ← Nat.sub_sub]
            exact HBG.out
          · rw [HE.out, tot_append, tot_one]
            have := HI.out.2.2.2
            have := HF.out
            omega
        case measure => have := HLT.out; simp [intOf]; omega
      · have HF := Lib.hid hfit
        clear hfit
        go_wp2_with fail
        refine (put_no s wo HI.out.1 (by have := HF.out; omega)).mono ?_
        rintro e w2 ⟨rfl, rfl⟩
        have HE := Lib.hid (fitL_stop HS.out HI.out.2.2.1 HF.out)
        have HJ : Hid ((fs.take j).length = j) := by
          show (fs.take j).length = j
          rw [List.length_take, HR.out.len]
          have := HLT.out
          omega
        go_wp2_with fail
        go_ret
        rw [HE.out, HJ.out]
        exact ⟨v1, rfl, HI.out.1, HI.out.2.1⟩
    · have hjn : (n : Int) ≤ (j : Int) := by omega
      have hje : j = n := by omega
      rw [hje, show fs.take n = fs from List.take_of_length_le (by rw [HR.out.len]; omega), List.drop_of_length_le (by rw [HR.out.len]; omega)] at HI
      have HE : Hid (fitL R fs = fs) := by
        have h9 := HI.out.2.2.1
        rw [show fitL (R - tot fs) [] = [] from rfl, List.append_nil] at h9
        exact h9
      clear hje hlt hj
      go_wp2_with fail
      go_ret
      rw [HE.out, HR.out.len]
      exact ⟨v1, rfl, HI.out.1, HI.out.2.1⟩

set_option maxRecDepth 100000 in
set_option maxHeartbeats 8000000 in
theorem files_yes {N : Nat} {bb R : Nat} {v : Value} {xs : List ByteArray} (w : World) (h : Bg N w bb R v xs) :
    Calls Try.prog 15 #[.pointer (some ⟨bb, 0, none⟩)] w fun e w' => ∃ u, e = .returned u ∧ Os w.heap.size w' u xs ∧ Keep (fun _ => False) w w' := by
  have hc2 := h.blk.cell 2
  obtain ⟨ao, cap, rfl, hcap, hmx, hrs⟩ := h.own.form
  have H := Lib.hid h
  have HRS := Lib.hid hrs
  have HC : Hid (xs.length ≤ cap ∧ xs.length ≤ 900000) := ⟨hcap, h.few⟩
  obtain ⟨n, hn⟩ : ∃ n, xs.length = n := ⟨_, rfl⟩
  rw [hn] at H HRS HC hc2 hcap
  have h3 : n ≤ 900000 := HC.out.2
  have h1 : (n : Int) ≤ (cap : Int) := by omega
  clear h hrs hn hmx
  go_enter Try.func15, Try.ntmps15
  go_wp2_with fail
  refine (none_no w H.out).mono ?_
  rintro e w' ⟨rfl, rfl⟩
  go_wp2_with fail
  go_still_tail 15, (by kernel_rfl)
  change wpList _ _ _ _ _ w.drew
  go_wp2_with fail
  refine (clone_any _ ao n _ xs w.drew (HRS.out.drewN 1) (by omega)).mono ?_
  rintro e w1 ⟨u, rfl, hos, hk⟩
  have HO := Lib.hid hos
  have HK := Lib.hid ((Keep.refl (fun _ => False) w).drew.trans hk)
  clear hos hk
  go_wp2_with fail
  go_ret
  exact ⟨_, rfl, HO.out, HK.out⟩

set_option maxRecDepth 100000 in
set_option maxHeartbeats 4000000 in
theorem check_ok {N : Nat} {bb R : Nat} {v : Value} {xs : List ByteArray} (i : Nat) (w : World) (h : Bg N w bb R v xs) (hi : i < xs.length) :
    Calls Try.prog 19 #[.pointer (some ⟨bb, 0, none⟩), .int .i64 (i : Int)] w fun e w' => e = .returned (.int .i64 0) ∧ w = w' := by
  have hc2 := h.blk.cell 2
  obtain ⟨ao, cap, rfl, hcap, hmx, hrs⟩ := h.own.form
  have H := Lib.hid h
  obtain ⟨n, hn⟩ : ∃ n, xs.length = n := ⟨_, rfl⟩
  rw [hn] at H hc2 hi
  have h1 : (i : Int) < (n : Int) := by omega
  have h0 : (0 : Int) ≤ (i : Int) := by omega
  clear h hrs hn hmx hcap hi
  go_enter Try.func19, Try.ntmps19
  go_wp2_with fail
  refine (none_no w H.out).mono ?_
  rintro e w' ⟨rfl, rfl⟩
  go_wp2_with fail
  go_ret
  exact ⟨rfl, rfl⟩

set_option maxRecDepth 100000 in
set_option maxHeartbeats 4000000 in
theorem check_no {N : Nat} {bb R : Nat} {v : Value} {xs : List ByteArray} (i : Int) (w : World) (h : Bg N w bb R v xs) (hi : ¬ (0 ≤ i ∧ i < xs.length)) :
    Calls Try.prog 19 #[.pointer (some ⟨bb, 0, none⟩), .int .i64 i] w fun e w' => e = .returned (.int .i64 2) ∧ w = w' := by
  have hc2 := h.blk.cell 2
  obtain ⟨ao, cap, rfl, hcap, hmx, hrs⟩ := h.own.form
  have H := Lib.hid h
  obtain ⟨n, hn⟩ : ∃ n, xs.length = n := ⟨_, rfl⟩
  rw [hn] at H hc2 hi
  have h1 : i < 0 ∨ (0 ≤ i ∧ (n : Int) ≤ i) := by omega
  clear h hrs hn hmx hcap hi
  rcases h1 with h1 | ⟨h1, h2⟩
  all_goals
    go_enter Try.func19, Try.ntmps19
    go_wp2_with fail
    refine (none_no w H.out).mono ?_
    rintro e w' ⟨rfl, rfl⟩
    go_wp2_with fail
    go_ret
    exact ⟨rfl, rfl⟩

set_option maxRecDepth 100000 in
set_option maxHeartbeats 4000000 in
theorem check_nil (i : Int) (a : Option Addr) (w : World) (h : Calls Try.prog 17 #[.pointer a] w fun e w' => e = .returned (.bool true) ∧ w = w') :
    Calls Try.prog 19 #[.pointer a, .int .i64 i] w fun e w' => e = .returned (.int .i64 1) ∧ w = w' := by
  have H := Lib.hid h
  clear h
  go_enter Try.func19, Try.ntmps19
  go_wp2_with fail
  refine H.out.mono ?_
  rintro e w' ⟨rfl, rfl⟩
  go_wp2_with fail
  go_ret
  exact ⟨rfl, rfl⟩
end Go.Proofs.Ytoojhdjdhhkkcaa
