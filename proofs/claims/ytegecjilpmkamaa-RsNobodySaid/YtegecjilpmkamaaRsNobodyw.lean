/-
  The walk of the law RsNobody.
-/
import Derived.Test.YtegecjilpmkamaaRsa
import Derived.Test.YtegecjilpmkamaaRows
namespace Go.Proofs.Ytegecjilpmkamaa
open Go.RowKit Sb

set_option maxRecDepth 100000 in
set_option maxHeartbeats 4000000 in
theorem counts_nil (a : Option Addr) (w : World) (h : Calls Try.prog 91 #[.pointer a] w fun e w' => e = .returned (.bool true) ∧ w = w') :
    Calls Try.prog 65 #[.pointer a] w fun e w' => e = .returned (.tuple #[.int .i64 0, .int .i64 0]) ∧ w = w' := by
  have H := Lib.hid h
  clear h
  go_enter Try.func65, Try.ntmps65
  go_wp2_with fail
  refine H.out.mono ?_
  rintro e w' ⟨rfl, rfl⟩
  go_wp2_with fail
  go_ret2
  exact ⟨rfl, rfl⟩

/-- A zero coder. -/
def zc : Array Value := #[.pointer none, .int .i64 0, .int .i64 0, .slice none 0 0]

theorem zero_none (w w' : World) (h : w'.heap = (w.alloc (.cells zc 79)).heap) : Calls Try.prog 91 #[.pointer (some ⟨w.heap.size, 0, none⟩)] w' fun e w2 => e = .returned (.bool true) ∧ w' = w2 := by
  refine none_zero w.heap.size w' ?_
  have hb : Blk w' w.heap.size 79 zc := by
    unfold Blk
    rw [h]
    exact Blk.new w 79 zc
  rw [hb.cell]
  rfl

set_option maxRecDepth 100000 in
set_option maxHeartbeats 4000000 in
theorem rsNobody_any (ao : Option Addr) (n cap : Nat) (W : World) :
    Calls Try.prog 18 #[.slice ao n cap] W fun e w' => e = .returned (.bool true) ∧ Keep (fun _ => False) W w' := by
  go_enter Try.func18, Try.ntmps18
  go_wp2_with fail
  go_loopw [3] (fun i wr => ∃ j : Nat, j ≤ 2 ∧ i = .int .i64 (j : Int) ∧ Hid (Keep (fun _ => False) W wr)) (fun i _ => 2 - (intOf i).toNat)
  case atStart => exact ⟨0, Nat.zero_le _, rfl, Keep.refl _ _⟩
  case round =>
    obtain ⟨j, hj, rfl, HK⟩ := hrel
    have h3 : j = 0 ∨ j = 1 ∨ j = 2 := by omega
    clear hj
    rcases h3 with rfl | rfl | rfl
    · go_wp2_with fail
      have HK1 : Hid (Keep (fun _ => False) W (wr.alloc (.cells #[.pointer none, .int .i64 0, .int .i64 0, .slice none 0 0] 79))) := HK.out.alloc _
      have HN1 : Hid (∀ w' : World, w'.heap = (wr.alloc (.cells #[.pointer none, .int .i64 0, .int .i64 0, .slice none 0 0] 79)).heap → Calls Try.prog 91 #[.pointer (some ⟨wr.heap.size, 0, none⟩)] w' fun e w2 => e = .returned (.bool true) ∧ w' = w2) := fun w' h => zero_none wr w' h
      refine (encode_nil (some ⟨wr.heap.size, 0, none⟩) ao n cap _ (HN1.out _ rfl)).mono ?_
      rintro e w1 ⟨rfl, hw1⟩
      rw [hw1] at HK1 HN1
      clear hw1
      go_wp2_with fail
      refine (decode_nil (some ⟨wr.heap.size, 0, none⟩) ao n cap w1 (HN1.out _ rfl)).mono ?_
      rintro e w2 ⟨rfl, rfl⟩
      go_wp2_with fail
      refine (counts_nil (some ⟨wr.heap.size, 0, none⟩) w1 (HN1.out _ rfl)).mono ?_
      rintro e w3 ⟨rfl, rfl⟩
      go_wp2_with fail
      refine (rsright_nil (some ⟨wr.heap.size, 0, none⟩) ao n cap w1 (fun w' h => (HN1.out w' h).mono fun _ _ ⟨h1, h2⟩ => ⟨h1, h2.symm⟩)).mono ?_
      rintro e w4 ⟨rfl, hk⟩
      have HK4 := Lib.hid (HK1.out.trans hk)
      clear hk
      go_wp2_with fail
      go_roundw
      case rel => exact ⟨1, by omega, by first | rfl | go_num, HK4.out⟩
      case measure => simp [intOf]
    · go_wp2_with fail
      have HK1 : Hid (Keep (fun _ => False) W (wr.alloc (.cells #[.pointer none, .int .i64 0, .int .i64 0, .slice none 0 0] 79))) := HK.out.alloc _
      have HN1 : Hid (∀ w' : World, w'.heap = (wr.alloc (.cells #[.pointer none, .int .i64 0, .int .i64 0, .slice none 0 0] 79)).heap → Calls Try.prog 91 #[.pointer none] w' fun e w2 => e = .returned (.bool true) ∧ w' = w2) := fun w' _ => none_nil w'
      refine (encode_nil none ao n cap _ (HN1.out _ rfl)).mono ?_
      rintro e w1 ⟨rfl, hw1⟩
      rw [hw1] at HK1 HN1
      clear hw1
      go_wp2_with fail
      refine (decode_nil none ao n cap w1 (HN1.out _ rfl)).mono ?_
      rintro e w2 ⟨rfl, rfl⟩
      go_wp2_with fail
      refine (counts_nil none w1 (HN1.out _ rfl)).mono ?_
      rintro e w3 ⟨rfl, rfl⟩
      go_wp2_with fail
      refine (rsright_nil none ao n cap w1 (fun w' h => (HN1.out w' h).mono fun _ _ ⟨h1, h2⟩ => ⟨h1, h2.symm⟩)).mono ?_
      rintro e w4 ⟨rfl, hk⟩
      have HK4 := Lib.hid (HK1.out.trans hk)
      clear hk
      go_wp2_with fail
      go_roundw
      case rel => exact ⟨2, by omega, by first | rfl | go_num, HK4.out⟩
      case measure => simp [intOf]
    · go_wp2_with fail
      refine (one6_any wr).mono ?_
      rintro e w1 ⟨rfl, hk⟩
      have HK1 := Lib.hid (HK.out.trans hk)
      clear hk
      go_wp2_with fail
      go_ret
      exact ⟨rfl, HK1.out⟩

theorem rsNobody_walk (W : World) (v0 : Value) (a : List (List UInt8)) (i0 : Ms (· < W.heap.size) W v0 a) :
    Calls Try.prog 18 #[v0] W fun e w' => e = .returned (.bool true) ∧ Below W.heap.size W w' := by
  obtain ⟨a1, n1, c1, us, rfl, _, _, _⟩ := i0
  exact (rsNobody_any a1 n1 c1 W).mono fun _ _ ⟨he, hk⟩ => ⟨he, hk.below (Nat.le_refl _) (fun _ _ => id)⟩
end Go.Proofs.Ytegecjilpmkamaa
