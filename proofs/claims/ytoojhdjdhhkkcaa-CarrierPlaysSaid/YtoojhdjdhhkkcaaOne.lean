/-
  The walks of the law's own comparison and of one().
-/
import Derived.Test.YtoojhdjdhhkkcaaTrn
namespace Go.Proofs.Ytoojhdjdhhkkcaa
open Go.RowKit

set_option maxRecDepth 100000 in
set_option maxHeartbeats 2000000 in
theorem same_yes (P Q : Nat → Prop) (a1 a2 : Option Addr) (n c1 c2 : Nat) (xs : List ByteArray) (w : World) (h1 : Rs P w a1 n xs) (h2 : Rs Q w a2 n xs) (hn : n ≤ 1000000) :
    Calls Try.prog 14 #[.slice a1 n c1, .slice a2 n c2] w fun e w' => e = .returned (.bool true) ∧ Keep (fun _ => False) w w' := by
  have H1 := Lib.hid h1
  have H2 := Lib.hid h2
  have n1 : (n : Int) ≤ 1000000 := by omega
  clear h1 h2 hn
  go_enter Try.func14, Try.ntmps14
  go_wp2_with fail
  go_loopw [5] (fun i wr => ∃ (j q : Nat), j ≤ n ∧ i = .int .i64 (j : Int) ∧ wr = w.drewN q) (fun i _ => n - (intOf i).toNat)
  case atStart => exact ⟨0, 0, Nat.zero_le _, rfl, rfl⟩
  case round =>
    obtain ⟨j, q, hj, rfl, rfl⟩ := hrel
    by_cases hlt : j < n
    · have j0 : (0 : Int) ≤ (j : Int) := by omega
      have jn : (j : Int) < (n : Int) := by omega
      have HLT := Lib.hid hlt
      obtain ⟨b1, o1, s, rfl, _, hs1, hc1⟩ := H1.out.at_ hlt
      obtain ⟨b2, o2, t, rfl, _, hs2, hc2⟩ := H2.out.at_ hlt
      rw [hs1] at hs2
      cases hs2
      have hself : (s.toList == s.toList) = true := by simp
      clear hs1 hlt
      go_wp2_with fail
      go_quiet (fail)
      go_wp2_with fail
      go_roundw
      case rel => exact ⟨j + 1, q + nq, by have := HLT.out; omega, by go_num, rfl⟩
      case measure => have := HLT.out; simp [intOf]; omega
    · have hjn : (n : Int) ≤ (j : Int) := by omega
      go_wp2_with fail
      go_ret
      exact ⟨rfl, (Keep.refl _ _).drewN q⟩

/-- The files of one(). -/
def oneF : List ByteArray := [⟨#[97]⟩, ⟨#[98]⟩, ⟨#[99]⟩, ⟨#[100, 100]⟩, ⟨#[101]⟩]
def oneG : List ByteArray := [⟨#[97]⟩, ⟨#[98]⟩, ⟨#[99]⟩]
def oneT : List ByteArray := [⟨#[99]⟩, ⟨#[97]⟩, ⟨#[98]⟩]
theorem oneF_fit : fitL 4 oneF = oneG := by decide
theorem oneG_turn : turnL [2, 0] oneG = oneT := by decide
theorem oneG_tot : tot oneG = 3 := by decide

theorem rs_blk {w : World} (xs : List ByteArray) : Rs (fun b => b = w.heap.size) (w.alloc (.cells (tv xs).toArray 9)) (some ⟨w.heap.size, 0, none⟩) xs.length xs := by
  have hb := Blk.new w 9 (tv xs).toArray
  refine ⟨by simp, fun _ => ⟨w.heap.size, 0, rfl, rfl, fun i u hu => ?_⟩⟩
  rw [Nat.zero_add, hb.cell, List.getElem?_toArray]
  exact hu

theorem nn_blk {w : World} (l : List Int) (h : ∀ z ∈ l, -9223372036854775808 ≤ z ∧ z ≤ 9223372036854775807) : Nn (fun b => b = w.heap.size) (w.alloc (.cells (l.map (Value.int .i64)).toArray 3)) (some ⟨w.heap.size, 0, none⟩) l.length l := by
  have hb := Blk.new w 3 (l.map (Value.int .i64)).toArray
  refine ⟨⟨by simp, fun _ => ⟨w.heap.size, 0, rfl, rfl, fun i u hu => ?_⟩⟩, h⟩
  rw [Nat.zero_add, hb.cell, List.getElem?_toArray]
  exact hu

theorem pack_one {N bb : Nat} {v : Value} (P : Nat → Prop) (ao : Option Addr) (w : World) (h : Bg N w bb 4 v []) (hr : Rs P w ao 5 oneF) (hN : N ≤ w.heap.size) (hP : ∀ b, b < w.heap.size → P b → ¬ bagS bb v b) :
    Calls Try.prog 7 #[.pointer (some ⟨bb, 0, none⟩), .slice ao 5 5] w fun e w' => ∃ v', e = .returned (.int .i64 3) ∧ Bg N w' bb 1 v' oneG ∧ Tn bb w v w' v' :=
  (pack_yes P ao 5 5 oneF w h hr (by omega) (by simp) hN hP).mono fun e w' ⟨v', he, hb, ht⟩ => by
    rw [oneF_fit, oneG_tot] at hb
    rw [oneF_fit] at he
    exact ⟨v', he, hb, ht⟩

theorem turn_one {N bb : Nat} {v : Value} (P : Nat → Prop) (ao : Option Addr) (w : World) (h : Bg N w bb 1 v oneG) (hr : Nn P w ao 2 [2, 0]) (hN : N ≤ w.heap.size) :
    Calls Try.prog 10 #[.pointer (some ⟨bb, 0, none⟩), .slice ao 2 2] w fun e w' => ∃ v', e = .returned (.tuple #[]) ∧ Bg N w' bb 1 v' oneT ∧ Tn bb w v w' v' :=
  (turn_yes P ao 2 2 [2, 0] w h hr (by omega) hN (by decide)).mono fun e w' ⟨v', he, hb, ht⟩ => by
    rw [oneG_turn] at hb
    exact ⟨v', he, hb, ht⟩

set_option maxRecDepth 100000 in
set_option maxHeartbeats 2000000 in
theorem one_any (w : World) : Calls Try.prog 6 #[] w fun e w' => e = .returned (.bool true) ∧ Keep (fun _ => False) w w' := by
  go_enter Try.func6, Try.ntmps6
  go_wp2_with fail
  refine (new_yes w.heap.size 4 w (by omega) (Nat.le_refl _)).mono ?_
  rintro e w1 ⟨rfl, hbg, hk⟩
  have HB1 := Lib.hid hbg
  have HK1 := Lib.hid hk
  clear hbg hk
  go_wp2_with fail
  have HR2 : Hid (Rs (fun b => b = w1.heap.size) (w1.alloc (.cells #[.string ⟨#[97]⟩, .string ⟨#[98]⟩, .string ⟨#[99]⟩, .string ⟨#[100, 100]⟩, .string ⟨#[101]⟩] 9)) (some ⟨w1.heap.size, 0, none⟩) 5 oneF) := rs_blk oneF
  have HB2 := Lib.hid (HB1.out.k ((Keep.refl (fun _ => False) w1).alloc (.cells #[.string ⟨#[97]⟩, .string ⟨#[98]⟩, .string ⟨#[99]⟩, .string ⟨#[100, 100]⟩, .string ⟨#[101]⟩] 9)))
  have HK2 := Lib.hid (HK1.out.alloc (.cells #[.string ⟨#[97]⟩, .string ⟨#[98]⟩, .string ⟨#[99]⟩, .string ⟨#[100, 100]⟩, .string ⟨#[101]⟩] 9))
  have HLT : Hid (w.heap.size < w1.heap.size) := HB1.out.blk.lt
  refine (pack_one _ _ _ HB2.out HR2.out HK2.out.size (fun b _ hb hs => by
    rcases hs with hs | hs
    · have := HLT.out; omega
    · cases hs)).mono ?_
  rintro e w3 ⟨v3, rfl, hbg, ht⟩
  have HB3 := Lib.hid hbg
  have HK3 : Hid (Keep (fun _ => False) w w3) := HK2.out.trans' ht.keep (fun i hi hs => by
    rcases hs with hs | hs
    · omega
    · cases hs)
  clear hbg ht
  go_wp2_with fail
  have HN4 : Hid (Nn (fun b => b = w3.heap.size) (w3.alloc (.cells #[.int .i64 2, .int .i64 0] 3)) (some ⟨w3.heap.size, 0, none⟩) 2 [2, 0]) := nn_blk [2, 0] (by intro z hz; simp at hz; omega)
  have HB4 := Lib.hid (HB3.out.k ((Keep.refl (fun _ => False) w3).alloc (.cells #[.int .i64 2, .int .i64 0] 3)))
  have HK4 := Lib.hid (HK3.out.alloc (.cells #[.int .i64 2, .int .i64 0] 3))
  refine (turn_one _ _ _ HB4.out HN4.out HK4.out.size).mono ?_
  rintro e w5 ⟨v5, rfl, hbg, ht⟩
  have HB5 := Lib.hid hbg
  have HK5 : Hid (Keep (fun _ => False) w w5) := HK4.out.trans' ht.keep (fun i hi hs => by
    rcases hs with hs | hs
    · omega
    · have := (HB4.out.own.lt hs).1; omega)
  clear hbg ht
  go_wp2_with fail
  refine (files_yes w5 HB5.out).mono ?_
  rintro e w6 ⟨u, rfl, hos, hk⟩
  have HK6 := Lib.hid (HK5.out.trans hk)
  have HB6 := Lib.hid (HB5.out.k hk)
  obtain ⟨ua, uc, rfl, _, _, hrs⟩ := hos.form
  have HRS := Lib.hid hrs
  clear hos hk hrs
  go_wp2_with fail
  have HR7 : Hid (Rs (fun b => b = w6.heap.size) (w6.alloc (.cells #[.string ⟨#[99]⟩, .string ⟨#[97]⟩, .string ⟨#[98]⟩] 9)) (some ⟨w6.heap.size, 0, none⟩) 3 oneT) := rs_blk oneT
  have HK7 := Lib.hid (HK6.out.alloc (.cells #[.string ⟨#[99]⟩, .string ⟨#[97]⟩, .string ⟨#[98]⟩] 9))
  have HB7 := Lib.hid (HB6.out.k ((Keep.refl (fun _ => False) w6).alloc (.cells #[.string ⟨#[99]⟩, .string ⟨#[97]⟩, .string ⟨#[98]⟩] 9)))
  have HS7 := Lib.hid (HRS.out.keep ((Keep.refl (fun _ => False) w6).alloc (.cells #[.string ⟨#[99]⟩, .string ⟨#[97]⟩, .string ⟨#[98]⟩] 9)) (fun _ _ _ => id))
  refine (same_yes _ _ _ _ _ _ _ oneT _ HS7.out HR7.out (by decide)).mono ?_
  rintro e w8 ⟨rfl, hk⟩
  have HK8 := Lib.hid (HK7.out.trans hk)
  have HB8 := Lib.hid (HB7.out.k hk)
  clear hk
  go_wp2_with fail
  refine (room_yes w8 HB8.out).mono ?_
  rintro e w' ⟨rfl, rfl⟩
  go_wp2_with fail
  go_ret
  exact ⟨rfl, HK8.out⟩
end Go.Proofs.Ytoojhdjdhhkkcaa
