/-
  The walk of one() of law 05.
-/
import Derived.Test.YtegecjilpmkamaaRank
namespace Go.Proofs.Ytegecjilpmkamaa
open Go.RowKit Sb

theorem mv_lit1 (w : World) : ∃ us, Mv (fun _ => True) ((w.alloc (.cells #[.int .u8 1] 5)).alloc (.cells #[.slice (some ⟨w.heap.size, 0, none⟩) 1 1] 33)) (some ⟨w.heap.size + 1, 0, none⟩) 1 us [[1]] := by
  have h1 := (Blk.new w 5 #[.int .u8 1]).alloc (.cells #[.slice (some ⟨w.heap.size, 0, none⟩) 1 1] 33)
  have h2 := Blk.new (w.alloc (.cells #[.int .u8 1] 5)) 33 #[.slice (some ⟨w.heap.size, 0, none⟩) 1 1]
  rw [show (w.alloc (.cells #[.int .u8 1] 5)).heap.size = w.heap.size + 1 by simp] at h2
  refine ⟨[.slice (some ⟨w.heap.size, 0, none⟩) 1 1], ⟨rfl, fun _ => ⟨_, 0, rfl, trivial, fun i u hu => ?_⟩⟩, rfl, fun i u r hu hr => ?_⟩
  · rw [Nat.zero_add, h2.cell, List.getElem?_toArray]
    exact hu
  · cases i with
    | zero =>
      cases hu
      cases hr
      refine ⟨_, 1, 1, rfl, Nat.le_refl _, by unfold maxLen; omega, rfl, fun _ => ⟨_, 0, rfl, trivial, fun j v hv => ?_⟩⟩
      rw [Nat.zero_add, h1.cell, List.getElem?_toArray]
      exact hv
    | succ i => simp at hu

theorem mv_lit2 (w : World) (a b c d : Int) (xs ys : List UInt8) (hx : xs.map bv = [.int .u8 a, .int .u8 b]) (hy : ys.map bv = [.int .u8 c, .int .u8 d]) :
    ∃ us, Mv (fun _ => True) (((w.alloc (.cells #[.int .u8 a, .int .u8 b] 5)).alloc (.cells #[.int .u8 c, .int .u8 d] 5)).alloc (.cells #[.slice (some ⟨w.heap.size, 0, none⟩) 2 2, .slice (some ⟨w.heap.size + 1, 0, none⟩) 2 2] 33)) (some ⟨w.heap.size + 2, 0, none⟩) 2 us [xs, ys] := by
  have h1 := ((Blk.new w 5 #[.int .u8 a, .int .u8 b]).alloc (.cells #[.int .u8 c, .int .u8 d] 5)).alloc (.cells #[.slice (some ⟨w.heap.size, 0, none⟩) 2 2, .slice (some ⟨w.heap.size + 1, 0, none⟩) 2 2] 33)
  have h2 := (Blk.new (w.alloc (.cells #[.int .u8 a, .int .u8 b] 5)) 5 #[.int .u8 c, .int .u8 d]).alloc (.cells #[.slice (some ⟨w.heap.size, 0, none⟩) 2 2, .slice (some ⟨w.heap.size + 1, 0, none⟩) 2 2] 33)
  have h3 := Blk.new ((w.alloc (.cells #[.int .u8 a, .int .u8 b] 5)).alloc (.cells #[.int .u8 c, .int .u8 d] 5)) 33 #[.slice (some ⟨w.heap.size, 0, none⟩) 2 2, .slice (some ⟨w.heap.size + 1, 0, none⟩) 2 2]
  rw [show (w.alloc (.cells #[.int .u8 a, .int .u8 b] 5)).heap.size = w.heap.size + 1 by simp] at h2
  rw [show ((w.alloc (.cells #[.int .u8 a, .int .u8 b] 5)).alloc (.cells #[.int .u8 c, .int .u8 d] 5)).heap.size = w.heap.size + 2 by simp] at h3
  have hxl : xs.length = 2 := by have := congrArg List.length hx; simpa using this
  have hyl : ys.length = 2 := by have := congrArg List.length hy; simpa using this
  refine ⟨[.slice (some ⟨w.heap.size, 0, none⟩) 2 2, .slice (some ⟨w.heap.size + 1, 0, none⟩) 2 2], ⟨rfl, fun _ => ⟨_, 0, rfl, trivial, fun i u hu => ?_⟩⟩, rfl, fun i u r hu hr => ?_⟩
  · rw [Nat.zero_add, h3.cell, List.getElem?_toArray]
    exact hu
  · rcases i with _ | _ | i
    · cases hu
      cases hr
      refine ⟨_, 2, 2, rfl, Nat.le_refl _, by unfold maxLen; omega, by simp [hxl], fun _ => ⟨_, 0, rfl, trivial, fun j v hv => ?_⟩⟩
      rw [Nat.zero_add, h1.cell, List.getElem?_toArray]
      rw [hx] at hv
      exact hv
    · cases hu
      cases hr
      refine ⟨_, 2, 2, rfl, Nat.le_refl _, by unfold maxLen; omega, by simp [hyl], fun _ => ⟨_, 0, rfl, trivial, fun j v hv => ?_⟩⟩
      rw [Nat.zero_add, h2.cell, List.getElem?_toArray]
      rw [hy] at hv
      exact hv
    · simp at hu

theorem one5_rank : mrank 2 2 (ent [[1, 2], [1, 2]]) = 1 := by kernel_rfl
theorem one5_same1 : msame ((List.range 1).map (cauRow 1)) [[1]] = true := by kernel_rfl
theorem one5_same2 : msame ((List.range 2).map (oneRow 2)) [[1, 0], [0, 1]] = true := by kernel_rfl
theorem one5_right : mright [[1, 2], [1, 2]] = true := by kernel_rfl

set_option maxRecDepth 100000 in
set_option maxHeartbeats 4000000 in
theorem one5_any (w : World) : Calls Try.prog 46 #[] w fun e w' => e = .returned (.bool true) ∧ Keep (fun _ => False) w w' := by
  go_enter Try.func46, Try.ntmps46
  go_wp2_with fail
  refine (new_any w).mono ?_
  rintro e w1 ⟨rfl, hw1⟩
  have HL : Hid (Lw w w.heap.size w1) := hw1 ▸ Lw.start w
  clear hw1
  go_wp2_with fail
  refine (show Calls Try.prog 42 #[.pointer (some ⟨w.heap.size, 0, none⟩), .int .i64 1, .int .i64 1] w1 _ from cauchy_yes w.heap.size 1 1 w1 HL.out.at_ (by omega) (by omega) (by omega)).mono ?_
  rintro e w2 ⟨g, G, rfl, hfl, hq⟩
  have HL2 := Lib.hid (HL.out.q hq)
  obtain ⟨ao1, n1, cap1, us1, e1, hcap1, hmx1, hmv1⟩ := hfl.ms (by omega) (by omega)
  cases e1
  have HM1 := Lib.hid hmv1
  have HG1 : Hid (w.heap.size < w1.heap.size) := HL.out.at_.lt
  clear hfl hq hmv1 hcap1 hmx1
  go_wp2_with fail
  refine (show Calls Try.prog 41 #[.int .i64 2] w2 _ from one_yes 2 w2 (by omega) (by omega)).mono ?_
  rintro e w3 ⟨g2, G2, rfl, hfl2, hk3⟩
  have HL3 := Lib.hid (HL2.out.k hk3)
  have HM1' := Lib.hid (HM1.out.keep hk3 (fun _ _ _ => id))
  obtain ⟨ao2, n2, cap2, us2, e2, hcap2, hmx2, hmv2⟩ := hfl2.ms (by omega) (by omega)
  cases e2
  have HM2 := Lib.hid hmv2
  clear hfl2 hk3 hmv2 hcap2 hmx2
  go_wp2_with fail
  obtain ⟨us3, hmv3⟩ := mv_lit1 w3
  have K1 : Keep (fun _ => False) w3 ((w3.alloc (.cells #[.int .u8 1] 5)).alloc (.cells #[.slice (some ⟨w3.heap.size, 0, none⟩) 1 1] 33)) := ((Keep.refl _ w3).alloc _).alloc _
  have HK1 := Lib.hid K1
  have HM3 := Lib.hid hmv3
  clear K1 hmv3
  refine (same_any _ _ _ _ 1 1 1 1 us1 us3 _ _ _ (HM1'.out.keep HK1.out (fun _ _ _ => id)) HM3.out (by omega) (by omega)).mono ?_
  rintro e w4 ⟨rfl, hk4⟩
  rw [one5_same1]
  have HK4 := Lib.hid (HK1.out.trans hk4)
  clear hk4
  go_wp2_with fail
  obtain ⟨us4, hmv4⟩ := mv_lit2 w4 1 0 0 1 [1, 0] [0, 1] rfl rfl
  have K2 : Keep (fun _ => False) w4 (((w4.alloc (.cells #[.int .u8 1, .int .u8 0] 5)).alloc (.cells #[.int .u8 0, .int .u8 1] 5)).alloc (.cells #[.slice (some ⟨w4.heap.size, 0, none⟩) 2 2, .slice (some ⟨w4.heap.size + 1, 0, none⟩) 2 2] 33)) := (((Keep.refl _ w4).alloc _).alloc _).alloc _
  have HK2 := Lib.hid K2
  have HM4 := Lib.hid hmv4
  clear K2 hmv4
  refine (same_any _ _ _ _ 2 2 2 2 us2 us4 _ _ _ ((HM2.out.keep HK4.out (fun _ _ _ => id)).keep HK2.out (fun _ _ _ => id)) HM4.out (by omega) (by omega)).mono ?_
  rintro e w5 ⟨rfl, hk5⟩
  rw [one5_same2]
  have HK5 := Lib.hid ((HK4.out.trans HK2.out).trans hk5)
  clear hk5
  go_wp2_with fail
  obtain ⟨us5, hmv5⟩ := mv_lit2 w5 1 2 1 2 [1, 2] [1, 2] rfl rfl
  have K3 : Keep (fun _ => False) w5 (((w5.alloc (.cells #[.int .u8 1, .int .u8 2] 5)).alloc (.cells #[.int .u8 1, .int .u8 2] 5)).alloc (.cells #[.slice (some ⟨w5.heap.size, 0, none⟩) 2 2, .slice (some ⟨w5.heap.size + 1, 0, none⟩) 2 2] 33)) := (((Keep.refl _ w5).alloc _).alloc _).alloc _
  have HK3 := Lib.hid K3
  have HM5 := Lib.hid hmv5
  clear K3 hmv5
  have HL5 := Lib.hid ((HL3.out.k HK5.out).k HK3.out)
  refine (rank_yes w.heap.size (fun _ => True) _ 2 2 us5 [[1, 2], [1, 2]] _ HL5.out.at_ HM5.out one5_right).mono ?_
  rintro e w6 ⟨rfl, hq6⟩
  have HL6 := Lib.hid (HL5.out.q hq6)
  clear hq6
  have hrk : (mrank 2 (mcols [[1, 2], [1, 2]]) (ent [[1, 2], [1, 2]]) : Nat) = 1 := one5_rank
  rw [hrk]
  go_wp2_with fail
  go_ret
  exact ⟨rfl, HL6.out.keep⟩
end Go.Proofs.Ytegecjilpmkamaa
