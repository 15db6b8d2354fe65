/-
  The walk of mat's Join, where it makes none.
-/
import Derived.Test.YtegecjilpmkamaaJoin50
namespace Go.Proofs.Ytegecjilpmkamaa
open Go.RowKit Sb

set_option maxRecDepth 100000 in
set_option maxHeartbeats 8000000 in
theorem join_no1 (P : Nat → Prop) (a1 a2 : Option Addr) (n1 n2 c1 c2 : Nat) (us : List Value) (m : List (List UInt8)) (w : World) (h1 : Mv P w a1 n1 us m) (hn1 : n1 ≤ 9223372036854775807) (hm : mright m = false) :
    Calls Try.prog 50 #[.slice a1 n1 c1, .slice a2 n2 c2] w fun e w' => e = .returned (.tuple #[.slice none 0 0, .int .i64 2]) ∧ Keep (fun _ => False) w w' := by
  have H1 := Lib.hid h1
  have HM := Lib.hid hm
  have hnt := hnot
  clear h1 hm
  go_enter Try.func50, Try.ntmps50
  go_wp2_with fail
  refine wp_region_held_drew (S := fun _ => True) (by kernel_rfl) trivial (fun _ => ?_)
  refine wpAnyH_take (i := 0) (v := .slice a1 n1 c1) rfl (by kernel_rfl) (by kernel_rfl) (by kernel_rfl) (fun _ _ _ h => h) (Or.inl ⟨by rfl, ?_⟩) trivial ?_
  · intro w' hSw
    (try dsimp only at hSw)
    go_simp
  change wpAnyH _ _ _ _ _ _ _ { tmps := #[.slice a1 n1 c1, .slice a2 n2 c2, undef, undef, .slice none 0 0, .int .i64 0, .slice a1 n1 c1, undef, undef, undef, undef, undef, undef, undef, undef, undef, undef, undef, undef, undef, undef, undef, undef, undef, undef, undef, undef, undef, undef, undef, undef, undef, undef, undef, undef, undef, undef, undef], defers := [] } _
  refine wpAnyH_ready (rs := [1]) (by kernel_rfl) (by simp) ?_
  refine AllReadyH.cons rfl (fun K hK => ?_) AllReadyH.nil
  go_simp
  (go_at_call 58; refine (right_false P _ n1 c1 us m _ ?_ hn1 HM.out).mono ?_; (exact H1.out); rintro e w1 ⟨rfl, hk⟩)
  refine hK.out _ _ trivial (fun hHeld1 => ?_)
  clear hK K
  change wpAnyH _ _ _ _ _ _ _ { tmps := #[.slice a1 n1 c1, .slice a2 n2 c2, undef, undef, .slice none 0 0, .int .i64 0, .slice a1 n1 c1, .bool false, undef, undef, undef, undef, undef, undef, undef, undef, undef, undef, undef, undef, undef, undef, undef, undef, undef, undef, undef, undef, undef, undef, undef, undef, undef, undef, undef, undef, undef, undef], defers := [] } _
  refine wpAnyH_take (i := 2) (v := .bool true) rfl (by kernel_rfl) (by kernel_rfl) (by kernel_rfl) (fun _ _ _ h => h) (Or.inl ⟨by rfl, ?_⟩) hHeld1 ?_
  · intro w' hSw
    (try dsimp only at hSw)
    go_simp
  change wpAnyH _ _ _ _ _ _ _ { tmps := #[.slice a1 n1 c1, .slice a2 n2 c2, undef, undef, .slice none 0 0, .int .i64 0, .slice a1 n1 c1, .bool false, .bool true, undef, undef, undef, undef, undef, undef, undef, undef, undef, undef, undef, undef, undef, undef, undef, undef, undef, undef, undef, undef, undef, undef, undef, undef, undef, undef, undef, undef, undef], defers := [] } _
  refine wpAnyH_take (i := 3) (v := .bool true) rfl (by kernel_rfl) (by kernel_rfl) (by kernel_rfl) (fun _ _ _ h => h) (Or.inl ⟨by rfl, ?_⟩) hHeld1 ?_
  · intro w' hSw
    (try dsimp only at hSw)
    go_simp
  change wpAnyH _ _ _ _ _ _ _ { tmps := #[.slice a1 n1 c1, .slice a2 n2 c2, undef, undef, .slice none 0 0, .int .i64 0, .slice a1 n1 c1, .bool false, .bool true, .bool true, undef, undef, undef, undef, undef, undef, undef, undef, undef, undef, undef, undef, undef, undef, undef, undef, undef, undef, undef, undef, undef, undef, undef, undef, undef, undef, undef, undef], defers := [] } _
  refine wpAnyH_take (i := 4) (v := undef) rfl (by kernel_rfl) (by kernel_rfl) (by kernel_rfl) (fun _ _ _ h => h) (Or.inr ⟨by rfl, rfl⟩) hHeld1 ?_
  change wpAnyH _ _ _ _ _ _ _ { tmps := #[.slice a1 n1 c1, .slice a2 n2 c2, undef, undef, .slice none 0 0, .int .i64 0, .slice a1 n1 c1, .bool false, .bool true, .bool true, undef, undef, undef, undef, undef, undef, undef, undef, undef, undef, undef, undef, undef, undef, undef, undef, undef, undef, undef, undef, undef, undef, undef, undef, undef, undef, undef, undef], defers := [] } _
  refine wpAnyH_take (i := 5) (v := undef) rfl (by kernel_rfl) (by kernel_rfl) (by kernel_rfl) (fun _ _ _ h => h) (Or.inr ⟨by rfl, rfl⟩) hHeld1 ?_
  change wpAnyH _ _ _ _ _ _ _ { tmps := #[.slice a1 n1 c1, .slice a2 n2 c2, undef, undef, .slice none 0 0, .int .i64 0, .slice a1 n1 c1, .bool false, .bool true, .bool true, undef, undef, undef, undef, undef, undef, undef, undef, undef, undef, undef, undef, undef, undef, undef, undef, undef, undef, undef, undef, undef, undef, undef, undef, undef, undef, undef, undef], defers := [] } _
  refine wpAnyH_take (i := 6) (v := undef) rfl (by kernel_rfl) (by kernel_rfl) (by kernel_rfl) (fun _ _ _ h => h) (Or.inr ⟨by rfl, rfl⟩) hHeld1 ?_
  change wpAnyH _ _ _ _ _ _ _ { tmps := #[.slice a1 n1 c1, .slice a2 n2 c2, undef, undef, .slice none 0 0, .int .i64 0, .slice a1 n1 c1, .bool false, .bool true, .bool true, undef, undef, undef, undef, undef, undef, undef, undef, undef, undef, undef, undef, undef, undef, undef, undef, undef, undef, undef, undef, undef, undef, undef, undef, undef, undef, undef, undef], defers := [] } _
  refine wpAnyH_take (i := 7) (v := .bool true) rfl (by kernel_rfl) (by kernel_rfl) (by kernel_rfl) (fun _ _ _ h => h) (Or.inl ⟨by rfl, ?_⟩) hHeld1 ?_
  · intro w' hSw
    (try dsimp only at hSw)
    go_simp
  change wpAnyH _ _ _ _ _ _ _ { tmps := #[.slice a1 n1 c1, .slice a2 n2 c2, undef, undef, .slice none 0 0, .int .i64 0, .slice a1 n1 c1, .bool false, .bool true, .bool true, undef, undef, undef, .bool true, undef, undef, undef, undef, undef, undef, undef, undef, undef, undef, undef, undef, undef, undef, undef, undef, undef, undef, undef, undef, undef, undef, undef, undef], defers := [] } _
  refine wpAnyH_take (i := 8) (v := .bool true) rfl (by kernel_rfl) (by kernel_rfl) (by kernel_rfl) (fun _ _ _ h => h) (Or.inl ⟨by rfl, ?_⟩) hHeld1 ?_
  · intro w' hSw
    (try dsimp only at hSw)
    go_simp
  change wpAnyH _ _ _ _ _ _ _ { tmps := #[.slice a1 n1 c1, .slice a2 n2 c2, undef, undef, .slice none 0 0, .int .i64 0, .slice a1 n1 c1, .bool false, .bool true, .bool true, undef, undef, undef, .bool true, .bool true, undef, undef, undef, undef, undef, undef, undef, undef, undef, undef, undef, undef, undef, undef, undef, undef, undef, undef, undef, undef, undef, undef, undef], defers := [] } _
  refine wpAnyH_take (i := 9) (v := undef) rfl (by kernel_rfl) (by kernel_rfl) (by kernel_rfl) (fun _ _ _ h => h) (Or.inr ⟨by rfl, rfl⟩) hHeld1 ?_
  change wpAnyH _ _ _ _ _ _ _ { tmps := #[.slice a1 n1 c1, .slice a2 n2 c2, undef, undef, .slice none 0 0, .int .i64 0, .slice a1 n1 c1, .bool false, .bool true, .bool true, undef, undef, undef, .bool true, .bool true, undef, undef, undef, undef, undef, undef, undef, undef, undef, undef, undef, undef, undef, undef, undef, undef, undef, undef, undef, undef, undef, undef, undef], defers := [] } _
  refine wpAnyH_take (i := 10) (v := undef) rfl (by kernel_rfl) (by kernel_rfl) (by kernel_rfl) (fun _ _ _ h => h) (Or.inr ⟨by rfl, rfl⟩) hHeld1 ?_
  change wpAnyH _ _ _ _ _ _ _ { tmps := #[.slice a1 n1 c1, .slice a2 n2 c2, undef, undef, .slice none 0 0, .int .i64 0, .slice a1 n1 c1, .bool false, .bool true, .bool true, undef, undef, undef, .bool true, .bool true, undef, undef, undef, undef, undef, undef, undef, undef, undef, undef, undef, undef, undef, undef, undef, undef, undef, undef, undef, undef, undef, undef, undef], defers := [] } _
  refine wpAnyH_take (i := 11) (v := undef) rfl (by kernel_rfl) (by kernel_rfl) (by kernel_rfl) (fun _ _ _ h => h) (Or.inr ⟨by rfl, rfl⟩) hHeld1 ?_
  change wpAnyH _ _ _ _ _ _ _ { tmps := #[.slice a1 n1 c1, .slice a2 n2 c2, undef, undef, .slice none 0 0, .int .i64 0, .slice a1 n1 c1, .bool false, .bool true, .bool true, undef, undef, undef, .bool true, .bool true, undef, undef, undef, undef, undef, undef, undef, undef, undef, undef, undef, undef, undef, undef, undef, undef, undef, undef, undef, undef, undef, undef, undef], defers := [] } _
  refine wpAnyH_take (i := 12) (v := undef) rfl (by kernel_rfl) (by kernel_rfl) (by kernel_rfl) (fun _ _ _ h => h) (Or.inr ⟨by rfl, rfl⟩) hHeld1 ?_
  change wpAnyH _ _ _ _ _ _ _ { tmps := #[.slice a1 n1 c1, .slice a2 n2 c2, undef, undef, .slice none 0 0, .int .i64 0, .slice a1 n1 c1, .bool false, .bool true, .bool true, undef, undef, undef, .bool true, .bool true, undef, undef, undef, undef, undef, undef, undef, undef, undef, undef, undef, undef, undef, undef, undef, undef, undef, undef, undef, undef, undef, undef, undef], defers := [] } _
  refine wpAnyH_take (i := 13) (v := undef) rfl (by kernel_rfl) (by kernel_rfl) (by kernel_rfl) (fun _ _ _ h => h) (Or.inr ⟨by rfl, rfl⟩) hHeld1 ?_
  change wpAnyH _ _ _ _ _ _ _ { tmps := #[.slice a1 n1 c1, .slice a2 n2 c2, undef, undef, .slice none 0 0, .int .i64 0, .slice a1 n1 c1, .bool false, .bool true, .bool true, undef, undef, undef, .bool true, .bool true, undef, undef, undef, undef, undef, undef, undef, undef, undef, undef, undef, undef, undef, undef, undef, undef, undef, undef, undef, undef, undef, undef, undef], defers := [] } _
  refine wpAnyH_take (i := 14) (v := undef) rfl (by kernel_rfl) (by kernel_rfl) (by kernel_rfl) (fun _ _ _ h => h) (Or.inr ⟨by rfl, rfl⟩) hHeld1 ?_
  change wpAnyH _ _ _ _ _ _ _ { tmps := #[.slice a1 n1 c1, .slice a2 n2 c2, undef, undef, .slice none 0 0, .int .i64 0, .slice a1 n1 c1, .bool false, .bool true, .bool true, undef, undef, undef, .bool true, .bool true, undef, undef, undef, undef, undef, undef, undef, undef, undef, undef, undef, undef, undef, undef, undef, undef, undef, undef, undef, undef, undef, undef, undef], defers := [] } _
  refine wpAnyH_take (i := 15) (v := undef) rfl (by kernel_rfl) (by kernel_rfl) (by kernel_rfl) (fun _ _ _ h => h) (Or.inr ⟨by rfl, rfl⟩) hHeld1 ?_
  change wpAnyH _ _ _ _ _ _ _ { tmps := #[.slice a1 n1 c1, .slice a2 n2 c2, undef, undef, .slice none 0 0, .int .i64 0, .slice a1 n1 c1, .bool false, .bool true, .bool true, undef, undef, undef, .bool true, .bool true, undef, undef, undef, undef, undef, undef, undef, undef, undef, undef, undef, undef, undef, undef, undef, undef, undef, undef, undef, undef, undef, undef, undef], defers := [] } _
  refine wpAnyH_take (i := 16) (v := undef) rfl (by kernel_rfl) (by kernel_rfl) (by kernel_rfl) (fun _ _ _ h => h) (Or.inr ⟨by rfl, rfl⟩) hHeld1 ?_
  change wpAnyH _ _ _ _ _ _ _ { tmps := #[.slice a1 n1 c1, .slice a2 n2 c2, undef, undef, .slice none 0 0, .int .i64 0, .slice a1 n1 c1, .bool false, .bool true, .bool true, undef, undef, undef, .bool true, .bool true, undef, undef, undef, undef, undef, undef, undef, undef, undef, undef, undef, undef, undef, undef, undef, undef, undef, undef, undef, undef, undef, undef, undef], defers := [] } _
  refine wpAnyH_take (i := 17) (v := undef) rfl (by kernel_rfl) (by kernel_rfl) (by kernel_rfl) (fun _ _ _ h => h) (Or.inr ⟨by rfl, rfl⟩) hHeld1 ?_
  change wpAnyH _ _ _ _ _ _ _ { tmps := #[.slice a1 n1 c1, .slice a2 n2 c2, undef, undef, .slice none 0 0, .int .i64 0, .slice a1 n1 c1, .bool false, .bool true, .bool true, undef, undef, undef, .bool true, .bool true, undef, undef, undef, undef, undef, undef, undef, undef, undef, undef, undef, undef, undef, undef, undef, undef, undef, undef, undef, undef, undef, undef, undef], defers := [] } _
  refine wpAnyH_take (i := 18) (v := .bool true) rfl (by kernel_rfl) (by kernel_rfl) (by kernel_rfl) (fun _ _ _ h => h) (Or.inl ⟨by rfl, ?_⟩) hHeld1 ?_
  · intro w' hSw
    (try dsimp only at hSw)
    go_simp
  change wpAnyH _ _ _ _ _ _ _ { tmps := #[.slice a1 n1 c1, .slice a2 n2 c2, undef, undef, .slice none 0 0, .int .i64 0, .slice a1 n1 c1, .bool false, .bool true, .bool true, undef, undef, undef, .bool true, .bool true, undef, undef, undef, undef, undef, undef, undef, undef, undef, .bool true, undef, undef, undef, undef, undef, undef, undef, undef, undef, undef, undef, undef, undef], defers := [] } _
  refine wpAnyH_take (i := 19) (v := .bool true) rfl (by kernel_rfl) (by kernel_rfl) (by kernel_rfl) (fun _ _ _ h => h) (Or.inl ⟨by rfl, ?_⟩) hHeld1 ?_
  · intro w' hSw
    (try dsimp only at hSw)
    go_simp
  change wpAnyH _ _ _ _ _ _ _ { tmps := #[.slice a1 n1 c1, .slice a2 n2 c2, undef, undef, .slice none 0 0, .int .i64 0, .slice a1 n1 c1, .bool false, .bool true, .bool true, undef, undef, undef, .bool true, .bool true, undef, undef, undef, undef, undef, undef, undef, undef, undef, .bool true, .bool true, undef, undef, undef, undef, undef, undef, undef, undef, undef, undef, undef, undef], defers := [] } _
  refine wpAnyH_take (i := 20) (v := undef) rfl (by kernel_rfl) (by kernel_rfl) (by kernel_rfl) (fun _ _ _ h => h) (Or.inr ⟨by rfl, rfl⟩) hHeld1 ?_
  change wpAnyH _ _ _ _ _ _ _ { tmps := #[.slice a1 n1 c1, .slice a2 n2 c2, undef, undef, .slice none 0 0, .int .i64 0, .slice a1 n1 c1, .bool false, .bool true, .bool true, undef, undef, undef, .bool true, .bool true, undef, undef, undef, undef, undef, undef, undef, undef, undef, .bool true, .bool true, undef, undef, undef, undef, undef, undef, undef, undef, undef, undef, undef, undef], defers := [] } _
  refine wpAnyH_take (i := 21) (v := undef) rfl (by kernel_rfl) (by kernel_rfl) (by kernel_rfl) (fun _ _ _ h => h) (Or.inr ⟨by rfl, rfl⟩) hHeld1 ?_
  change wpAnyH _ _ _ _ _ _ _ { tmps := #[.slice a1 n1 c1, .slice a2 n2 c2, undef, undef, .slice none 0 0, .int .i64 0, .slice a1 n1 c1, .bool false, .bool true, .bool true, undef, undef, undef, .bool true, .bool true, undef, undef, undef, undef, undef, undef, undef, undef, undef, .bool true, .bool true, undef, undef, undef, undef, undef, undef, undef, undef, undef, undef, undef, undef], defers := [] } _
  refine wpAnyH_take (i := 22) (v := undef) rfl (by kernel_rfl) (by kernel_rfl) (by kernel_rfl) (fun _ _ _ h => h) (Or.inr ⟨by rfl, rfl⟩) hHeld1 ?_
  change wpAnyH _ _ _ _ _ _ _ { tmps := #[.slice a1 n1 c1, .slice a2 n2 c2, undef, undef, .slice none 0 0, .int .i64 0, .slice a1 n1 c1, .bool false, .bool true, .bool true, undef, undef, undef, .bool true, .bool true, undef, undef, undef, undef, undef, undef, undef, undef, undef, .bool true, .bool true, undef, undef, undef, undef, undef, undef, undef, undef, undef, undef, undef, undef], defers := [] } _
  refine wpAnyH_take (i := 23) (v := undef) rfl (by kernel_rfl) (by kernel_rfl) (by kernel_rfl) (fun _ _ _ h => h) (Or.inr ⟨by rfl, rfl⟩) hHeld1 ?_
  change wpAnyH _ _ _ _ _ _ _ { tmps := #[.slice a1 n1 c1, .slice a2 n2 c2, undef, undef, .slice none 0 0, .int .i64 0, .slice a1 n1 c1, .bool false, .bool true, .bool true, undef, undef, undef, .bool true, .bool true, undef, undef, undef, undef, undef, undef, undef, undef, undef, .bool true, .bool true, undef, undef, undef, undef, undef, undef, undef, undef, undef, undef, undef, undef], defers := [] } _
  refine wpAnyH_take (i := 24) (v := undef) rfl (by kernel_rfl) (by kernel_rfl) (by kernel_rfl) (fun _ _ _ h => h) (Or.inr ⟨by rfl, rfl⟩) hHeld1 ?_
  change wpAnyH _ _ _ _ _ _ _ { tmps := #[.slice a1 n1 c1, .slice a2 n2 c2, undef, undef, .slice none 0 0, .int .i64 0, .slice a1 n1 c1, .bool false, .bool true, .bool true, undef, undef, undef, .bool true, .bool true, undef, undef, undef, undef, undef, undef, undef, undef, undef, .bool true, .bool true, undef, undef, undef, undef, undef, undef, undef, undef, undef, undef, undef, undef], defers := [] } _
  refine wpAnyH_take (i := 25) (v := undef) rfl (by kernel_rfl) (by kernel_rfl) (by kernel_rfl) (fun _ _ _ h => h) (Or.inr ⟨by rfl, rfl⟩) hHeld1 ?_
  change wpAnyH _ _ _ _ _ _ _ { tmps := #[.slice a1 n1 c1, .slice a2 n2 c2, undef, undef, .slice none 0 0, .int .i64 0, .slice a1 n1 c1, .bool false, .bool true, .bool true, undef, undef, undef, .bool true, .bool true, undef, undef, undef, undef, undef, undef, undef, undef, undef, .bool true, .bool true, undef, undef, undef, undef, undef, undef, undef, undef, undef, undef, undef, undef], defers := [] } _
  refine wpAnyH_take (i := 26) (v := .bool true) rfl (by kernel_rfl) (by kernel_rfl) (by kernel_rfl) (fun _ _ _ h => h) (Or.inl ⟨by rfl, ?_⟩) hHeld1 ?_
  · intro w' hSw
    (try dsimp only at hSw)
    go_simp
  change wpAnyH _ _ _ _ _ _ _ { tmps := #[.slice a1 n1 c1, .slice a2 n2 c2, undef, undef, .slice none 0 0, .int .i64 0, .slice a1 n1 c1, .bool false, .bool true, .bool true, undef, undef, undef, .bool true, .bool true, undef, undef, undef, undef, undef, undef, undef, undef, undef, .bool true, .bool true, undef, undef, undef, undef, undef, undef, .bool true, undef, undef, undef, undef, undef], defers := [] } _
  refine wpAnyH_done (by kernel_rfl) ?_ _
  have HK : Hid (Keep (fun _ => False) w w1) := ⟨hk.os, hk.tape, hk.output, hk.size, hk.block⟩
  clear hk
  go_wp2_with fail
  go_ret2
  exact ⟨rfl, HK.out⟩


set_option maxRecDepth 100000 in
set_option maxHeartbeats 8000000 in
theorem join_no2 (P Q : Nat → Prop) (a1 a2 : Option Addr) (n1 n2 c1 c2 : Nat) (us vs : List Value) (m l : List (List UInt8)) (w : World) (h1 : Mv P w a1 n1 us m) (h2 : Mv Q w a2 n2 vs l) (hn1 : n1 ≤ 9223372036854775807) (hn2 : n2 ≤ 9223372036854775807) (hm : mright m = true) (hl : mright l = false) :
    Calls Try.prog 50 #[.slice a1 n1 c1, .slice a2 n2 c2] w fun e w' => e = .returned (.tuple #[.slice none 0 0, .int .i64 2]) ∧ Keep (fun _ => False) w w' := by
  have H1 := Lib.hid h1
  have H2 := Lib.hid h2
  have HM := Lib.hid hm
  have HL := Lib.hid hl
  have hnt := hnot
  clear h1 h2 hm hl
  go_enter Try.func50, Try.ntmps50
  go_wp2_with fail
  refine wp_region_held_drew (S := fun _ => True) (by kernel_rfl) trivial (fun _ => ?_)
  refine wpAnyH_take (i := 0) (v := .slice a1 n1 c1) rfl (by kernel_rfl) (by kernel_rfl) (by kernel_rfl) (fun _ _ _ h => h) (Or.inl ⟨by rfl, ?_⟩) trivial ?_
  · intro w' hSw
    (try dsimp only at hSw)
    go_simp
  change wpAnyH _ _ _ _ _ _ _ { tmps := #[.slice a1 n1 c1, .slice a2 n2 c2, undef, undef, .slice none 0 0, .int .i64 0, .slice a1 n1 c1, undef, undef, undef, undef, undef, undef, undef, undef, undef, undef, undef, undef, undef, undef, undef, undef, undef, undef, undef, undef, undef, undef, undef, undef, undef, undef, undef, undef, undef, undef, undef], defers := [] } _
  refine wpAnyH_ready (rs := [1]) (by kernel_rfl) (by simp) ?_
  refine AllReadyH.cons rfl (fun K hK => ?_) AllReadyH.nil
  go_simp
  (go_at_call 58; refine (right_true P _ n1 c1 us m _ ?_ hn1 HM.out).mono ?_; (exact H1.out); rintro e w1 ⟨rfl, hk⟩)
  refine hK.out _ _ trivial (fun hHeld1 => ?_)
  clear hK K
  change wpAnyH _ _ _ _ _ _ _ { tmps := #[.slice a1 n1 c1, .slice a2 n2 c2, undef, undef, .slice none 0 0, .int .i64 0, .slice a1 n1 c1, .bool true, undef, undef, undef, undef, undef, undef, undef, undef, undef, undef, undef, undef, undef, undef, undef, undef, undef, undef, undef, undef, undef, undef, undef, undef, undef, undef, undef, undef, undef, undef], defers := [] } _
  refine wpAnyH_take (i := 2) (v := .bool false) rfl (by kernel_rfl) (by kernel_rfl) (by kernel_rfl) (fun _ _ _ h => h) (Or.inl ⟨by rfl, ?_⟩) hHeld1 ?_
  · intro w' hSw
    (try dsimp only at hSw)
    go_simp
  change wpAnyH _ _ _ _ _ _ _ { tmps := #[.slice a1 n1 c1, .slice a2 n2 c2, undef, undef, .slice none 0 0, .int .i64 0, .slice a1 n1 c1, .bool true, .bool false, undef, undef, undef, undef, undef, undef, undef, undef, undef, undef, undef, undef, undef, undef, undef, undef, undef, undef, undef, undef, undef, undef, undef, undef, undef, undef, undef, undef, undef], defers := [] } _
  refine wpAnyH_take (i := 3) (v := .bool false) rfl (by kernel_rfl) (by kernel_rfl) (by kernel_rfl) (fun _ _ _ h => h) (Or.inl ⟨by rfl, ?_⟩) hHeld1 ?_
  · intro w' hSw
    (try dsimp only at hSw)
    go_simp
  change wpAnyH _ _ _ _ _ _ _ { tmps := #[.slice a1 n1 c1, .slice a2 n2 c2, undef, undef, .slice none 0 0, .int .i64 0, .slice a1 n1 c1, .bool true, .bool false, .bool false, undef, undef, undef, undef, undef, undef, undef, undef, undef, undef, undef, undef, undef, undef, undef, undef, undef, undef, undef, undef, undef, undef, undef, undef, undef, undef, undef, undef], defers := [] } _
  refine wpAnyH_take (i := 4) (v := .slice a2 n2 c2) rfl (by kernel_rfl) (by kernel_rfl) (by kernel_rfl) (fun _ _ _ h => h) (Or.inl ⟨by rfl, ?_⟩) hHeld1 ?_
  · intro w' hSw
    (try dsimp only at hSw)
    go_simp
  change wpAnyH _ _ _ _ _ _ _ { tmps := #[.slice a1 n1 c1, .slice a2 n2 c2, undef, undef, .slice none 0 0, .int .i64 0, .slice a1 n1 c1, .bool true, .bool false, .bool false, .slice a2 n2 c2, undef, undef, undef, undef, undef, undef, undef, undef, undef, undef, undef, undef, undef, undef, undef, undef, undef, undef, undef, undef, undef, undef, undef, undef, undef, undef, undef], defers := [] } _
  refine wpAnyH_ready (rs := [5]) (by kernel_rfl) (by simp) ?_
  refine AllReadyH.cons rfl (fun K hK => ?_) AllReadyH.nil
  go_simp
  (go_at_call 58; refine (right_false Q _ n2 c2 vs l _ ?_ hn2 HL.out).mono ?_; (exact H2.out.keep (S := fun _ => False) ⟨hk.os, hk.tape, hk.output, hk.size, hk.block⟩ (fun _ _ _ => id)); rintro e w2 ⟨rfl, hk2⟩)
  refine hK.out _ _ trivial (fun hHeld5 => ?_)
  clear hK K
  change wpAnyH _ _ _ _ _ _ _ { tmps := #[.slice a1 n1 c1, .slice a2 n2 c2, undef, undef, .slice none 0 0, .int .i64 0, .slice a1 n1 c1, .bool true, .bool false, .bool false, .slice a2 n2 c2, .bool false, undef, undef, undef, undef, undef, undef, undef, undef, undef, undef, undef, undef, undef, undef, undef, undef, undef, undef, undef, undef, undef, undef, undef, undef, undef, undef], defers := [] } _
  refine wpAnyH_take (i := 6) (v := .bool true) rfl (by kernel_rfl) (by kernel_rfl) (by kernel_rfl) (fun _ _ _ h => h) (Or.inl ⟨by rfl, ?_⟩) hHeld5 ?_
  · intro w' hSw
    (try dsimp only at hSw)
    go_simp
  change wpAnyH _ _ _ _ _ _ _ { tmps := #[.slice a1 n1 c1, .slice a2 n2 c2, undef, undef, .slice none 0 0, .int .i64 0, .slice a1 n1 c1, .bool true, .bool false, .bool false, .slice a2 n2 c2, .bool false, .bool true, undef, undef, undef, undef, undef, undef, undef, undef, undef, undef, undef, undef, undef, undef, undef, undef, undef, undef, undef, undef, undef, undef, undef, undef, undef], defers := [] } _
  refine wpAnyH_take (i := 7) (v := .bool true) rfl (by kernel_rfl) (by kernel_rfl) (by kernel_rfl) (fun _ _ _ h => h) (Or.inl ⟨by rfl, ?_⟩) hHeld5 ?_
  · intro w' hSw
    (try dsimp only at hSw)
    go_simp
  change wpAnyH _ _ _ _ _ _ _ { tmps := #[.slice a1 n1 c1, .slice a2 n2 c2, undef, undef, .slice none 0 0, .int .i64 0, .slice a1 n1 c1, .bool true, .bool false, .bool false, .slice a2 n2 c2, .bool false, .bool true, .bool true, undef, undef, undef, undef, undef, undef, undef, undef, undef, undef, undef, undef, undef, undef, undef, undef, undef, undef, undef, undef, undef, undef, undef, undef], defers := [] } _
  refine wpAnyH_take (i := 8) (v := .bool true) rfl (by kernel_rfl) (by kernel_rfl) (by kernel_rfl) (fun _ _ _ h => h) (Or.inl ⟨by rfl, ?_⟩) hHeld5 ?_
  · intro w' hSw
    (try dsimp only at hSw)
    go_simp
  change wpAnyH _ _ _ _ _ _ _ { tmps := #[.slice a1 n1 c1, .slice a2 n2 c2, undef, undef, .slice none 0 0, .int .i64 0, .slice a1 n1 c1, .bool true, .bool false, .bool false, .slice a2 n2 c2, .bool false, .bool true, .bool true, .bool true, undef, undef, undef, undef, undef, undef, undef, undef, undef, undef, undef, undef, undef, undef, undef, undef, undef, undef, undef, undef, undef, undef, undef], defers := [] } _
  refine wpAnyH_take (i := 9) (v := undef) rfl (by kernel_rfl) (by kernel_rfl) (by kernel_rfl) (fun _ _ _ h => h) (Or.inr ⟨by rfl, rfl⟩) hHeld5 ?_
  change wpAnyH _ _ _ _ _ _ _ { tmps := #[.slice a1 n1 c1, .slice a2 n2 c2, undef, undef, .slice none 0 0, .int .i64 0, .slice a1 n1 c1, .bool true, .bool false, .bool false, .slice a2 n2 c2, .bool false, .bool true, .bool true, .bool true, undef, undef, undef, undef, undef, undef, undef, undef, undef, undef, undef, undef, undef, undef, undef, undef, undef, undef, undef, undef, undef, undef, undef], defers := [] } _
  refine wpAnyH_take (i := 10) (v := undef) rfl (by kernel_rfl) (by kernel_rfl) (by kernel_rfl) (fun _ _ _ h => h) (Or.inr ⟨by rfl, rfl⟩) hHeld5 ?_
  change wpAnyH _ _ _ _ _ _ _ { tmps := #[.slice a1 n1 c1, .slice a2 n2 c2, undef, undef, .slice none 0 0, .int .i64 0, .slice a1 n1 c1, .bool true, .bool false, .bool false, .slice a2 n2 c2, .bool false, .bool true, .bool true, .bool true, undef, undef, undef, undef, undef, undef, undef, undef, undef, undef, undef, undef, undef, undef, undef, undef, undef, undef, undef, undef, undef, undef, undef], defers := [] } _
  refine wpAnyH_take (i := 11) (v := undef) rfl (by kernel_rfl) (by kernel_rfl) (by kernel_rfl) (fun _ _ _ h => h) (Or.inr ⟨by rfl, rfl⟩) hHeld5 ?_
  change wpAnyH _ _ _ _ _ _ _ { tmps := #[.slice a1 n1 c1, .slice a2 n2 c2, undef, undef, .slice none 0 0, .int .i64 0, .slice a1 n1 c1, .bool true, .bool false, .bool false, .slice a2 n2 c2, .bool false, .bool true, .bool true, .bool true, undef, undef, undef, undef, undef, undef, undef, undef, undef, undef, undef, undef, undef, undef, undef, undef, undef, undef, undef, undef, undef, undef, undef], defers := [] } _
  refine wpAnyH_take (i := 12) (v := undef) rfl (by kernel_rfl) (by kernel_rfl) (by kernel_rfl) (fun _ _ _ h => h) (Or.inr ⟨by rfl, rfl⟩) hHeld5 ?_
  change wpAnyH _ _ _ _ _ _ _ { tmps := #[.slice a1 n1 c1, .slice a2 n2 c2, undef, undef, .slice none 0 0, .int .i64 0, .slice a1 n1 c1, .bool true, .bool false, .bool false, .slice a2 n2 c2, .bool false, .bool true, .bool true, .bool true, undef, undef, undef, undef, undef, undef, undef, undef, undef, undef, undef, undef, undef, undef, undef, undef, undef, undef, undef, undef, undef, undef, undef], defers := [] } _
  refine wpAnyH_take (i := 13) (v := undef) rfl (by kernel_rfl) (by kernel_rfl) (by kernel_rfl) (fun _ _ _ h => h) (Or.inr ⟨by rfl, rfl⟩) hHeld5 ?_
  change wpAnyH _ _ _ _ _ _ _ { tmps := #[.slice a1 n1 c1, .slice a2 n2 c2, undef, undef, .slice none 0 0, .int .i64 0, .slice a1 n1 c1, .bool true, .bool false, .bool false, .slice a2 n2 c2, .bool false, .bool true, .bool true, .bool true, undef, undef, undef, undef, undef, undef, undef, undef, undef, undef, undef, undef, undef, undef, undef, undef, undef, undef, undef, undef, undef, undef, undef], defers := [] } _
  refine wpAnyH_take (i := 14) (v := undef) rfl (by kernel_rfl) (by kernel_rfl) (by kernel_rfl) (fun _ _ _ h => h) (Or.inr ⟨by rfl, rfl⟩) hHeld5 ?_
  change wpAnyH _ _ _ _ _ _ _ { tmps := #[.slice a1 n1 c1, .slice a2 n2 c2, undef, undef, .slice none 0 0, .int .i64 0, .slice a1 n1 c1, .bool true, .bool false, .bool false, .slice a2 n2 c2, .bool false, .bool true, .bool true, .bool true, undef, undef, undef, undef, undef, undef, undef, undef, undef, undef, undef, undef, undef, undef, undef, undef, undef, undef, undef, undef, undef, undef, undef], defers := [] } _
  refine wpAnyH_take (i := 15) (v := undef) rfl (by kernel_rfl) (by kernel_rfl) (by kernel_rfl) (fun _ _ _ h => h) (Or.inr ⟨by rfl, rfl⟩) hHeld5 ?_
  change wpAnyH _ _ _ _ _ _ _ { tmps := #[.slice a1 n1 c1, .slice a2 n2 c2, undef, undef, .slice none 0 0, .int .i64 0, .slice a1 n1 c1, .bool true, .bool false, .bool false, .slice a2 n2 c2, .bool false, .bool true, .bool true, .bool true, undef, undef, undef, undef, undef, undef, undef, undef, undef, undef, undef, undef, undef, undef, undef, undef, undef, undef, undef, undef, undef, undef, undef], defers := [] } _
  refine wpAnyH_take (i := 16) (v := undef) rfl (by kernel_rfl) (by kernel_rfl) (by kernel_rfl) (fun _ _ _ h => h) (Or.inr ⟨by rfl, rfl⟩) hHeld5 ?_
  change wpAnyH _ _ _ _ _ _ _ { tmps := #[.slice a1 n1 c1, .slice a2 n2 c2, undef, undef, .slice none 0 0, .int .i64 0, .slice a1 n1 c1, .bool true, .bool false, .bool false, .slice a2 n2 c2, .bool false, .bool true, .bool true, .bool true, undef, undef, undef, undef, undef, undef, undef, undef, undef, undef, undef, undef, undef, undef, undef, undef, undef, undef, undef, undef, undef, undef, undef], defers := [] } _
  refine wpAnyH_take (i := 17) (v := undef) rfl (by kernel_rfl) (by kernel_rfl) (by kernel_rfl) (fun _ _ _ h => h) (Or.inr ⟨by rfl, rfl⟩) hHeld5 ?_
  change wpAnyH _ _ _ _ _ _ _ { tmps := #[.slice a1 n1 c1, .slice a2 n2 c2, undef, undef, .slice none 0 0, .int .i64 0, .slice a1 n1 c1, .bool true, .bool false, .bool false, .slice a2 n2 c2, .bool false, .bool true, .bool true, .bool true, undef, undef, undef, undef, undef, undef, undef, undef, undef, undef, undef, undef, undef, undef, undef, undef, undef, undef, undef, undef, undef, undef, undef], defers := [] } _
  refine wpAnyH_take (i := 18) (v := .bool true) rfl (by kernel_rfl) (by kernel_rfl) (by kernel_rfl) (fun _ _ _ h => h) (Or.inl ⟨by rfl, ?_⟩) hHeld5 ?_
  · intro w' hSw
    (try dsimp only at hSw)
    go_simp
  change wpAnyH _ _ _ _ _ _ _ { tmps := #[.slice a1 n1 c1, .slice a2 n2 c2, undef, undef, .slice none 0 0, .int .i64 0, .slice a1 n1 c1, .bool true, .bool false, .bool false, .slice a2 n2 c2, .bool false, .bool true, .bool true, .bool true, undef, undef, undef, undef, undef, undef, undef, undef, undef, .bool true, undef, undef, undef, undef, undef, undef, undef, undef, undef, undef, undef, undef, undef], defers := [] } _
  refine wpAnyH_take (i := 19) (v := .bool true) rfl (by kernel_rfl) (by kernel_rfl) (by kernel_rfl) (fun _ _ _ h => h) (Or.inl ⟨by rfl, ?_⟩) hHeld5 ?_
  · intro w' hSw
    (try dsimp only at hSw)
    go_simp
  change wpAnyH _ _ _ _ _ _ _ { tmps := #[.slice a1 n1 c1, .slice a2 n2 c2, undef, undef, .slice none 0 0, .int .i64 0, .slice a1 n1 c1, .bool true, .bool false, .bool false, .slice a2 n2 c2, .bool false, .bool true, .bool true, .bool true, undef, undef, undef, undef, undef, undef, undef, undef, undef, .bool true, .bool true, undef, undef, undef, undef, undef, undef, undef, undef, undef, undef, undef, undef], defers := [] } _
  refine wpAnyH_take (i := 20) (v := undef) rfl (by kernel_rfl) (by kernel_rfl) (by kernel_rfl) (fun _ _ _ h => h) (Or.inr ⟨by rfl, rfl⟩) hHeld5 ?_
  change wpAnyH _ _ _ _ _ _ _ { tmps := #[.slice a1 n1 c1, .slice a2 n2 c2, undef, undef, .slice none 0 0, .int .i64 0, .slice a1 n1 c1, .bool true, .bool false, .bool false, .slice a2 n2 c2, .bool false, .bool true, .bool true, .bool true, undef, undef, undef, undef, undef, undef, undef, undef, undef, .bool true, .bool true, undef, undef, undef, undef, undef, undef, undef, undef, undef, undef, undef, undef], defers := [] } _
  refine wpAnyH_take (i := 21) (v := undef) rfl (by kernel_rfl) (by kernel_rfl) (by kernel_rfl) (fun _ _ _ h => h) (Or.inr ⟨by rfl, rfl⟩) hHeld5 ?_
  change wpAnyH _ _ _ _ _ _ _ { tmps := #[.slice a1 n1 c1, .slice a2 n2 c2, undef, undef, .slice none 0 0, .int .i64 0, .slice a1 n1 c1, .bool true, .bool false, .bool false, .slice a2 n2 c2, .bool false, .bool true, .bool true, .bool true, undef, undef, undef, undef, undef, undef, undef, undef, undef, .bool true, .bool true, undef, undef, undef, undef, undef, undef, undef, undef, undef, undef, undef, undef], defers := [] } _
  refine wpAnyH_take (i := 22) (v := undef) rfl (by kernel_rfl) (by kernel_rfl) (by kernel_rfl) (fun _ _ _ h => h) (Or.inr ⟨by rfl, rfl⟩) hHeld5 ?_
  change wpAnyH _ _ _ _ _ _ _ { tmps := #[.slice a1 n1 c1, .slice a2 n2 c2, undef, undef, .slice none 0 0, .int .i64 0, .slice a1 n1 c1, .bool true, .bool false, .bool false, .slice a2 n2 c2, .bool false, .bool true, .bool true, .bool true, undef, undef, undef, undef, undef, undef, undef, undef, undef, .bool true, .bool true, undef, undef, undef, undef, undef, undef, undef, undef, undef, undef, undef, undef], defers := [] } _
  refine wpAnyH_take (i := 23) (v := undef) rfl (by kernel_rfl) (by kernel_rfl) (by kernel_rfl) (fun _ _ _ h => h) (Or.inr ⟨by rfl, rfl⟩) hHeld5 ?_
  change wpAnyH _ _ _ _ _ _ _ { tmps := #[.slice a1 n1 c1, .slice a2 n2 c2, undef, undef, .slice none 0 0, .int .i64 0, .slice a1 n1 c1, .bool true, .bool false, .bool false, .slice a2 n2 c2, .bool false, .bool true, .bool true, .bool true, undef, undef, undef, undef, undef, undef, undef, undef, undef, .bool true, .bool true, undef, undef, undef, undef, undef, undef, undef, undef, undef, undef, undef, undef], defers := [] } _
  refine wpAnyH_take (i := 24) (v := undef) rfl (by kernel_rfl) (by kernel_rfl) (by kernel_rfl) (fun _ _ _ h => h) (Or.inr ⟨by rfl, rfl⟩) hHeld5 ?_
  change wpAnyH _ _ _ _ _ _ _ { tmps := #[.slice a1 n1 c1, .slice a2 n2 c2, undef, undef, .slice none 0 0, .int .i64 0, .slice a1 n1 c1, .bool true, .bool false, .bool false, .slice a2 n2 c2, .bool false, .bool true, .bool true, .bool true, undef, undef, undef, undef, undef, undef, undef, undef, undef, .bool true, .bool true, undef, undef, undef, undef, undef, undef, undef, undef, undef, undef, undef, undef], defers := [] } _
  refine wpAnyH_take (i := 25) (v := undef) rfl (by kernel_rfl) (by kernel_rfl) (by kernel_rfl) (fun _ _ _ h => h) (Or.inr ⟨by rfl, rfl⟩) hHeld5 ?_
  change wpAnyH _ _ _ _ _ _ _ { tmps := #[.slice a1 n1 c1, .slice a2 n2 c2, undef, undef, .slice none 0 0, .int .i64 0, .slice a1 n1 c1, .bool true, .bool false, .bool false, .slice a2 n2 c2, .bool false, .bool true, .bool true, .bool true, undef, undef, undef, undef, undef, undef, undef, undef, undef, .bool true, .bool true, undef, undef, undef, undef, undef, undef, undef, undef, undef, undef, undef, undef], defers := [] } _
  refine wpAnyH_take (i := 26) (v := .bool true) rfl (by kernel_rfl) (by kernel_rfl) (by kernel_rfl) (fun _ _ _ h => h) (Or.inl ⟨by rfl, ?_⟩) hHeld5 ?_
  · intro w' hSw
    (try dsimp only at hSw)
    go_simp
  change wpAnyH _ _ _ _ _ _ _ { tmps := #[.slice a1 n1 c1, .slice a2 n2 c2, undef, undef, .slice none 0 0, .int .i64 0, .slice a1 n1 c1, .bool true, .bool false, .bool false, .slice a2 n2 c2, .bool false, .bool true, .bool true, .bool true, undef, undef, undef, undef, undef, undef, undef, undef, undef, .bool true, .bool true, undef, undef, undef, undef, undef, undef, .bool true, undef, undef, undef, undef, undef], defers := [] } _
  refine wpAnyH_done (by kernel_rfl) ?_ _
  have HK : Hid (Keep (fun _ => False) w w2) := Keep.trans (S := fun _ => False) (w' := w1) ⟨hk.os, hk.tape, hk.output, hk.size, hk.block⟩ ⟨hk2.os, hk2.tape, hk2.output, hk2.size, hk2.block⟩
  clear hk hk2
  go_wp2_with fail
  go_ret2
  exact ⟨rfl, HK.out⟩


set_option maxRecDepth 100000 in
set_option maxHeartbeats 8000000 in
theorem join_no3 (P Q : Nat → Prop) (a1 a2 : Option Addr) (n1 n2 c1 c2 : Nat) (us vs : List Value) (m l : List (List UInt8)) (w : World) (h1 : Mv P w a1 n1 us m) (h2 : Mv Q w a2 n2 vs l) (hn1 : n1 ≤ 9223372036854775807) (hn2 : n2 ≤ 9223372036854775807) (hm : mright m = true) (hl : mright l = true) (hc : mcols m ≠ mcols l) :
    Calls Try.prog 50 #[.slice a1 n1 c1, .slice a2 n2 c2] w fun e w' => e = .returned (.tuple #[.slice none 0 0, .int .i64 2]) ∧ Keep (fun _ => False) w w' := by
  have hb1 := right_bounds h1.len hm
  have hb2 := right_bounds h2.len hl
  obtain ⟨b, o, ao', K', cap', r, rfl, _, hu, hm0, hcc, _, hmx, hrb⟩ := h1.at_ (k := 0) (by omega)
  rw [Nat.add_zero] at hcc
  have hmc := mcols_at hm0
  rw [hrb.len] at hmc
  obtain ⟨q2, o2, bo', L', cap2, r2, rfl, _, hu2, hm2, hcb, _, _, hrb2⟩ := h2.at_ (k := 0) (by omega)
  rw [Nat.add_zero] at hcb
  have hlc := mcols_at hm2
  rw [hrb2.len] at hlc
  have hne : ((K' : Int) != (L' : Int)) = true := by
    rw [bne_iff_ne]
    omega
  have H1 := Lib.hid h1
  have H2 := Lib.hid h2
  have HM := Lib.hid hm
  have HL := Lib.hid hl
  have HL1 := Lib.hid (World.block_lt_of_cell? _ _ hcc)
  have HL2 := Lib.hid (World.block_lt_of_cell? _ _ hcb)
  have p1 : (0 : Int) < (n1 : Int) := by omega
  have p2 : (0 : Int) < (n2 : Int) := by omega
  have q1 : 0 < n1 := by omega
  have q2' : 0 < n2 := by omega
  have hnt := hnot
  clear h1 h2 hm hl hu hm0 hmx hrb hu2 hm2 hrb2 hb1 hb2 hmc hlc hc
  go_enter Try.func50, Try.ntmps50
  go_wp2_with fail
  refine wp_region_held_drew (S := fun w' => w'.cell? ⟨b, o, none⟩ = some (.slice ao' K' cap') ∧ w'.cell? ⟨q2, o2, none⟩ = some (.slice bo' L' cap2)) (by kernel_rfl) ⟨hcc, hcb⟩ (fun hHeld0 => ?_)
  refine wpAnyH_take (i := 0) (v := .slice (some ⟨b, o, none⟩) n1 c1) rfl (by kernel_rfl) (by kernel_rfl) (by kernel_rfl) (fun _ _ _ h => h) (Or.inl ⟨by rfl, ?_⟩) hHeld0 ?_
  · intro w' hSw
    (try dsimp only at hSw)
    go_simp
  change wpAnyH _ _ _ _ _ _ _ { tmps := #[.slice (some ⟨b, o, none⟩) n1 c1, .slice (some ⟨q2, o2, none⟩) n2 c2, undef, undef, .slice none 0 0, .int .i64 0, .slice (some ⟨b, o, none⟩) n1 c1, undef, undef, undef, undef, undef, undef, undef, undef, undef, undef, undef, undef, undef, undef, undef, undef, undef, undef, undef, undef, undef, undef, undef, undef, undef, undef, undef, undef, undef, undef, undef], defers := [] } _
  refine wpAnyH_ready (rs := [1]) (by kernel_rfl) (by simp) ?_
  refine AllReadyH.cons rfl (fun K hK => ?_) AllReadyH.nil
  go_simp
  (go_at_call 58; refine (right_true P _ n1 c1 us m _ ?_ hn1 HM.out).mono ?_; (exact H1.out); rintro e w1 ⟨rfl, hk⟩)
  have m1 := (hk.cell (p := ⟨b, o, none⟩) HL1.out id).trans hcc
  have m2 := (hk.cell (p := ⟨q2, o2, none⟩) HL2.out id).trans hcb
  refine hK.out _ _ ⟨m1, m2⟩ (fun hHeld1 => ?_)
  clear hK K
  change wpAnyH _ _ _ _ _ _ _ { tmps := #[.slice (some ⟨b, o, none⟩) n1 c1, .slice (some ⟨q2, o2, none⟩) n2 c2, undef, undef, .slice none 0 0, .int .i64 0, .slice (some ⟨b, o, none⟩) n1 c1, .bool true, undef, undef, undef, undef, undef, undef, undef, undef, undef, undef, undef, undef, undef, undef, undef, undef, undef, undef, undef, undef, undef, undef, undef, undef, undef, undef, undef, undef, undef, undef], defers := [] } _
  refine wpAnyH_take (i := 2) (v := .bool false) rfl (by kernel_rfl) (by kernel_rfl) (by kernel_rfl) (fun _ _ _ h => h) (Or.inl ⟨by rfl, ?_⟩) hHeld1 ?_
  · intro w' hSw
    (try dsimp only at hSw)
    go_simp
  change wpAnyH _ _ _ _ _ _ _ { tmps := #[.slice (some ⟨b, o, none⟩) n1 c1, .slice (some ⟨q2, o2, none⟩) n2 c2, undef, undef, .slice none 0 0, .int .i64 0, .slice (some ⟨b, o, none⟩) n1 c1, .bool true, .bool false, undef, undef, undef, undef, undef, undef, undef, undef, undef, undef, undef, undef, undef, undef, undef, undef, undef, undef, undef, undef, undef, undef, undef, undef, undef, undef, undef, undef, undef], defers := [] } _
  refine wpAnyH_take (i := 3) (v := .bool false) rfl (by kernel_rfl) (by kernel_rfl) (by kernel_rfl) (fun _ _ _ h => h) (Or.inl ⟨by rfl, ?_⟩) hHeld1 ?_
  · intro w' hSw
    (try dsimp only at hSw)
    go_simp
  change wpAnyH _ _ _ _ _ _ _ { tmps := #[.slice (some ⟨b, o, none⟩) n1 c1, .slice (some ⟨q2, o2, none⟩) n2 c2, undef, undef, .slice none 0 0, .int .i64 0, .slice (some ⟨b, o, none⟩) n1 c1, .bool true, .bool false, .bool false, undef, undef, undef, undef, undef, undef, undef, undef, undef, undef, undef, undef, undef, undef, undef, undef, undef, undef, undef, undef, undef, undef, undef, undef, undef, undef, undef, undef], defers := [] } _
  refine wpAnyH_take (i := 4) (v := .slice (some ⟨q2, o2, none⟩) n2 c2) rfl (by kernel_rfl) (by kernel_rfl) (by kernel_rfl) (fun _ _ _ h => h) (Or.inl ⟨by rfl, ?_⟩) hHeld1 ?_
  · intro w' hSw
    (try dsimp only at hSw)
    go_simp
  change wpAnyH _ _ _ _ _ _ _ { tmps := #[.slice (some ⟨b, o, none⟩) n1 c1, .slice (some ⟨q2, o2, none⟩) n2 c2, undef, undef, .slice none 0 0, .int .i64 0, .slice (some ⟨b, o, none⟩) n1 c1, .bool true, .bool false, .bool false, .slice (some ⟨q2, o2, none⟩) n2 c2, undef, undef, undef, undef, undef, undef, undef, undef, undef, undef, undef, undef, undef, undef, undef, undef, undef, undef, undef, undef, undef, undef, undef, undef, undef, undef, undef], defers := [] } _
  refine wpAnyH_ready (rs := [5]) (by kernel_rfl) (by simp) ?_
  refine AllReadyH.cons rfl (fun K hK => ?_) AllReadyH.nil
  go_simp
  (go_at_call 58; refine (right_true Q _ n2 c2 vs l _ ?_ hn2 HL.out).mono ?_; (exact H2.out.keep (S := fun _ => False) ⟨hk.os, hk.tape, hk.output, hk.size, hk.block⟩ (fun _ _ _ => id)); rintro e w2 ⟨rfl, hk2⟩)
  have m3 := (hk2.cell (p := ⟨b, o, none⟩) (Nat.lt_of_lt_of_le HL1.out hk.size) id).trans m1
  have m4 := (hk2.cell (p := ⟨q2, o2, none⟩) (Nat.lt_of_lt_of_le HL2.out hk.size) id).trans m2
  refine hK.out _ _ ⟨m3, m4⟩ (fun hHeld5 => ?_)
  clear hK K
  change wpAnyH _ _ _ _ _ _ _ { tmps := #[.slice (some ⟨b, o, none⟩) n1 c1, .slice (some ⟨q2, o2, none⟩) n2 c2, undef, undef, .slice none 0 0, .int .i64 0, .slice (some ⟨b, o, none⟩) n1 c1, .bool true, .bool false, .bool false, .slice (some ⟨q2, o2, none⟩) n2 c2, .bool true, undef, undef, undef, undef, undef, undef, undef, undef, undef, undef, undef, undef, undef, undef, undef, undef, undef, undef, undef, undef, undef, undef, undef, undef, undef, undef], defers := [] } _
  refine wpAnyH_take (i := 6) (v := .bool false) rfl (by kernel_rfl) (by kernel_rfl) (by kernel_rfl) (fun _ _ _ h => h) (Or.inl ⟨by rfl, ?_⟩) hHeld5 ?_
  · intro w' hSw
    (try dsimp only at hSw)
    go_simp
  change wpAnyH _ _ _ _ _ _ _ { tmps := #[.slice (some ⟨b, o, none⟩) n1 c1, .slice (some ⟨q2, o2, none⟩) n2 c2, undef, undef, .slice none 0 0, .int .i64 0, .slice (some ⟨b, o, none⟩) n1 c1, .bool true, .bool false, .bool false, .slice (some ⟨q2, o2, none⟩) n2 c2, .bool true, .bool false, undef, undef, undef, undef, undef, undef, undef, undef, undef, undef, undef, undef, undef, undef, undef, undef, undef, undef, undef, undef, undef, undef, undef, undef, undef], defers := [] } _
  refine wpAnyH_take (i := 7) (v := .bool false) rfl (by kernel_rfl) (by kernel_rfl) (by kernel_rfl) (fun _ _ _ h => h) (Or.inl ⟨by rfl, ?_⟩) hHeld5 ?_
  · intro w' hSw
    (try dsimp only at hSw)
    go_simp
  change wpAnyH _ _ _ _ _ _ _ { tmps := #[.slice (some ⟨b, o, none⟩) n1 c1, .slice (some ⟨q2, o2, none⟩) n2 c2, undef, undef, .slice none 0 0, .int .i64 0, .slice (some ⟨b, o, none⟩) n1 c1, .bool true, .bool false, .bool false, .slice (some ⟨q2, o2, none⟩) n2 c2, .bool true, .bool false, .bool false, undef, undef, undef, undef, undef, undef, undef, undef, undef, undef, undef, undef, undef, undef, undef, undef, undef, undef, undef, undef, undef, undef, undef, undef], defers := [] } _
  refine wpAnyH_take (i := 8) (v := .bool false) rfl (by kernel_rfl) (by kernel_rfl) (by kernel_rfl) (fun _ _ _ h => h) (Or.inl ⟨by rfl, ?_⟩) hHeld5 ?_
  · intro w' hSw
    (try dsimp only at hSw)
    go_simp
  change wpAnyH _ _ _ _ _ _ _ { tmps := #[.slice (some ⟨b, o, none⟩) n1 c1, .slice (some ⟨q2, o2, none⟩) n2 c2, undef, undef, .slice none 0 0, .int .i64 0, .slice (some ⟨b, o, none⟩) n1 c1, .bool true, .bool false, .bool false, .slice (some ⟨q2, o2, none⟩) n2 c2, .bool true, .bool false, .bool false, .bool false, undef, undef, undef, undef, undef, undef, undef, undef, undef, undef, undef, undef, undef, undef, undef, undef, undef, undef, undef, undef, undef, undef, undef], defers := [] } _
  refine wpAnyH_take (i := 9) (v := .slice (some ⟨b, o, none⟩) n1 c1) rfl (by kernel_rfl) (by kernel_rfl) (by kernel_rfl) (fun _ _ _ h => h) (Or.inl ⟨by rfl, ?_⟩) hHeld5 ?_
  · intro w' hSw
    (try dsimp only at hSw)
    go_simp
  change wpAnyH _ _ _ _ _ _ _ { tmps := #[.slice (some ⟨b, o, none⟩) n1 c1, .slice (some ⟨q2, o2, none⟩) n2 c2, undef, undef, .slice none 0 0, .int .i64 0, .slice (some ⟨b, o, none⟩) n1 c1, .bool true, .bool false, .bool false, .slice (some ⟨q2, o2, none⟩) n2 c2, .bool true, .bool false, .bool false, .bool false, .slice (some ⟨b, o, none⟩) n1 c1, undef, undef, undef, undef, undef, undef, undef, undef, undef, undef, undef, undef, undef, undef, undef, undef, undef, undef, undef, undef, undef, undef], defers := [] } _
  refine wpAnyH_take (i := 10) (v := .pointer (some ⟨b, o, none⟩)) rfl (by kernel_rfl) (by kernel_rfl) (by kernel_rfl) (fun _ _ _ h => h) (Or.inl ⟨by rfl, ?_⟩) hHeld5 ?_
  · intro w' hSw
    (try dsimp only at hSw)
    go_simp
  change wpAnyH _ _ _ _ _ _ _ { tmps := #[.slice (some ⟨b, o, none⟩) n1 c1, .slice (some ⟨q2, o2, none⟩) n2 c2, undef, undef, .slice none 0 0, .int .i64 0, .slice (some ⟨b, o, none⟩) n1 c1, .bool true, .bool false, .bool false, .slice (some ⟨q2, o2, none⟩) n2 c2, .bool true, .bool false, .bool false, .bool false, .slice (some ⟨b, o, none⟩) n1 c1, .pointer (some ⟨b, o, none⟩), undef, undef, undef, undef, undef, undef, undef, undef, undef, undef, undef, undef, undef, undef, undef, undef, undef, undef, undef, undef, undef], defers := [] } _
  refine wpAnyH_take (i := 11) (v := .slice ao' K' cap') rfl (by kernel_rfl) (by kernel_rfl) (by kernel_rfl) (fun _ _ _ h => h) (Or.inl ⟨by rfl, ?_⟩) hHeld5 ?_
  · intro w' hSw
    (try dsimp only at hSw)
    go_simp
  change wpAnyH _ _ _ _ _ _ _ { tmps := #[.slice (some ⟨b, o, none⟩) n1 c1, .slice (some ⟨q2, o2, none⟩) n2 c2, undef, undef, .slice none 0 0, .int .i64 0, .slice (some ⟨b, o, none⟩) n1 c1, .bool true, .bool false, .bool false, .slice (some ⟨q2, o2, none⟩) n2 c2, .bool true, .bool false, .bool false, .bool false, .slice (some ⟨b, o, none⟩) n1 c1, .pointer (some ⟨b, o, none⟩), .slice ao' K' cap', undef, undef, undef, undef, undef, undef, undef, undef, undef, undef, undef, undef, undef, undef, undef, undef, undef, undef, undef, undef], defers := [] } _
  refine wpAnyH_take (i := 12) (v := .int .i64 (K' : Int)) rfl (by kernel_rfl) (by kernel_rfl) (by kernel_rfl) (fun _ _ _ h => h) (Or.inl ⟨by rfl, ?_⟩) hHeld5 ?_
  · intro w' hSw
    (try dsimp only at hSw)
    go_simp
  change wpAnyH _ _ _ _ _ _ _ { tmps := #[.slice (some ⟨b, o, none⟩) n1 c1, .slice (some ⟨q2, o2, none⟩) n2 c2, undef, undef, .slice none 0 0, .int .i64 0, .slice (some ⟨b, o, none⟩) n1 c1, .bool true, .bool false, .bool false, .slice (some ⟨q2, o2, none⟩) n2 c2, .bool true, .bool false, .bool false, .bool false, .slice (some ⟨b, o, none⟩) n1 c1, .pointer (some ⟨b, o, none⟩), .slice ao' K' cap', .int .i64 (K' : Int), undef, undef, undef, undef, undef, undef, undef, undef, undef, undef, undef, undef, undef, undef, undef, undef, undef, undef, undef], defers := [] } _
  refine wpAnyH_take (i := 13) (v := .slice (some ⟨q2, o2, none⟩) n2 c2) rfl (by kernel_rfl) (by kernel_rfl) (by kernel_rfl) (fun _ _ _ h => h) (Or.inl ⟨by rfl, ?_⟩) hHeld5 ?_
  · intro w' hSw
    (try dsimp only at hSw)
    go_simp
  change wpAnyH _ _ _ _ _ _ _ { tmps := #[.slice (some ⟨b, o, none⟩) n1 c1, .slice (some ⟨q2, o2, none⟩) n2 c2, undef, undef, .slice none 0 0, .int .i64 0, .slice (some ⟨b, o, none⟩) n1 c1, .bool true, .bool false, .bool false, .slice (some ⟨q2, o2, none⟩) n2 c2, .bool true, .bool false, .bool false, .bool false, .slice (some ⟨b, o, none⟩) n1 c1, .pointer (some ⟨b, o, none⟩), .slice ao' K' cap', .int .i64 (K' : Int), .slice (some ⟨q2, o2, none⟩) n2 c2, undef, undef, undef, undef, undef, undef, undef, undef, undef, undef, undef, undef, undef, undef, undef, undef, undef, undef], defers := [] } _
  refine wpAnyH_take (i := 14) (v := .pointer (some ⟨q2, o2, none⟩)) rfl (by kernel_rfl) (by kernel_rfl) (by kernel_rfl) (fun _ _ _ h => h) (Or.inl ⟨by rfl, ?_⟩) hHeld5 ?_
  · intro w' hSw
    (try dsimp only at hSw)
    go_simp
  change wpAnyH _ _ _ _ _ _ _ { tmps := #[.slice (some ⟨b, o, none⟩) n1 c1, .slice (some ⟨q2, o2, none⟩) n2 c2, undef, undef, .slice none 0 0, .int .i64 0, .slice (some ⟨b, o, none⟩) n1 c1, .bool true, .bool false, .bool false, .slice (some ⟨q2, o2, none⟩) n2 c2, .bool true, .bool false, .bool false, .bool false, .slice (some ⟨b, o, none⟩) n1 c1, .pointer (some ⟨b, o, none⟩), .slice ao' K' cap', .int .i64 (K' : Int), .slice (some ⟨q2, o2, none⟩) n2 c2, .pointer (some ⟨q2, o2, none⟩), undef, undef, undef, undef, undef, undef, undef, undef, undef, undef, undef, undef, undef, undef, undef, undef, undef], defers := [] } _
  refine wpAnyH_take (i := 15) (v := .slice bo' L' cap2) rfl (by kernel_rfl) (by kernel_rfl) (by kernel_rfl) (fun _ _ _ h => h) (Or.inl ⟨by rfl, ?_⟩) hHeld5 ?_
  · intro w' hSw
    (try dsimp only at hSw)
    go_simp
  change wpAnyH _ _ _ _ _ _ _ { tmps := #[.slice (some ⟨b, o, none⟩) n1 c1, .slice (some ⟨q2, o2, none⟩) n2 c2, undef, undef, .slice none 0 0, .int .i64 0, .slice (some ⟨b, o, none⟩) n1 c1, .bool true, .bool false, .bool false, .slice (some ⟨q2, o2, none⟩) n2 c2, .bool true, .bool false, .bool false, .bool false, .slice (some ⟨b, o, none⟩) n1 c1, .pointer (some ⟨b, o, none⟩), .slice ao' K' cap', .int .i64 (K' : Int), .slice (some ⟨q2, o2, none⟩) n2 c2, .pointer (some ⟨q2, o2, none⟩), .slice bo' L' cap2, undef, undef, undef, undef, undef, undef, undef, undef, undef, undef, undef, undef, undef, undef, undef, undef], defers := [] } _
  refine wpAnyH_take (i := 16) (v := .int .i64 (L' : Int)) rfl (by kernel_rfl) (by kernel_rfl) (by kernel_rfl) (fun _ _ _ h => h) (Or.inl ⟨by rfl, ?_⟩) hHeld5 ?_
  · intro w' hSw
    (try dsimp only at hSw)
    go_simp
  change wpAnyH _ _ _ _ _ _ _ { tmps := #[.slice (some ⟨b, o, none⟩) n1 c1, .slice (some ⟨q2, o2, none⟩) n2 c2, undef, undef, .slice none 0 0, .int .i64 0, .slice (some ⟨b, o, none⟩) n1 c1, .bool true, .bool false, .bool false, .slice (some ⟨q2, o2, none⟩) n2 c2, .bool true, .bool false, .bool false, .bool false, .slice (some ⟨b, o, none⟩) n1 c1, .pointer (some ⟨b, o, none⟩), .slice ao' K' cap', .int .i64 (K' : Int), .slice (some ⟨q2, o2, none⟩) n2 c2, .pointer (some ⟨q2, o2, none⟩), .slice bo' L' cap2, .int .i64 (L' : Int), undef, undef, undef, undef, undef, undef, undef, undef, undef, undef, undef, undef, undef, undef, undef], defers := [] } _
  refine wpAnyH_take (i := 17) (v := .bool true) rfl (by kernel_rfl) (by kernel_rfl) (by kernel_rfl) (fun _ _ _ h => h) (Or.inl ⟨by rfl, ?_⟩) hHeld5 ?_
  · intro w' hSw
    (try dsimp only at hSw)
    go_simp
  change wpAnyH _ _ _ _ _ _ _ { tmps := #[.slice (some ⟨b, o, none⟩) n1 c1, .slice (some ⟨q2, o2, none⟩) n2 c2, undef, undef, .slice none 0 0, .int .i64 0, .slice (some ⟨b, o, none⟩) n1 c1, .bool true, .bool false, .bool false, .slice (some ⟨q2, o2, none⟩) n2 c2, .bool true, .bool false, .bool false, .bool false, .slice (some ⟨b, o, none⟩) n1 c1, .pointer (some ⟨b, o, none⟩), .slice ao' K' cap', .int .i64 (K' : Int), .slice (some ⟨q2, o2, none⟩) n2 c2, .pointer (some ⟨q2, o2, none⟩), .slice bo' L' cap2, .int .i64 (L' : Int), .bool true, undef, undef, undef, undef, undef, undef, undef, undef, undef, undef, undef, undef, undef, undef], defers := [] } _
  refine wpAnyH_take (i := 18) (v := .bool true) rfl (by kernel_rfl) (by kernel_rfl) (by kernel_rfl) (fun _ _ _ h => h) (Or.inl ⟨by rfl, ?_⟩) hHeld5 ?_
  · intro w' hSw
    (try dsimp only at hSw)
    go_simp
  change wpAnyH _ _ _ _ _ _ _ { tmps := #[.slice (some ⟨b, o, none⟩) n1 c1, .slice (some ⟨q2, o2, none⟩) n2 c2, undef, undef, .slice none 0 0, .int .i64 0, .slice (some ⟨b, o, none⟩) n1 c1, .bool true, .bool false, .bool false, .slice (some ⟨q2, o2, none⟩) n2 c2, .bool true, .bool false, .bool false, .bool false, .slice (some ⟨b, o, none⟩) n1 c1, .pointer (some ⟨b, o, none⟩), .slice ao' K' cap', .int .i64 (K' : Int), .slice (some ⟨q2, o2, none⟩) n2 c2, .pointer (some ⟨q2, o2, none⟩), .slice bo' L' cap2, .int .i64 (L' : Int), .bool true, .bool true, undef, undef, undef, undef, undef, undef, undef, undef, undef, undef, undef, undef, undef], defers := [] } _
  refine wpAnyH_take (i := 19) (v := .bool true) rfl (by kernel_rfl) (by kernel_rfl) (by kernel_rfl) (fun _ _ _ h => h) (Or.inl ⟨by rfl, ?_⟩) hHeld5 ?_
  · intro w' hSw
    (try dsimp only at hSw)
    go_simp
  change wpAnyH _ _ _ _ _ _ _ { tmps := #[.slice (some ⟨b, o, none⟩) n1 c1, .slice (some ⟨q2, o2, none⟩) n2 c2, undef, undef, .slice none 0 0, .int .i64 0, .slice (some ⟨b, o, none⟩) n1 c1, .bool true, .bool false, .bool false, .slice (some ⟨q2, o2, none⟩) n2 c2, .bool true, .bool false, .bool false, .bool false, .slice (some ⟨b, o, none⟩) n1 c1, .pointer (some ⟨b, o, none⟩), .slice ao' K' cap', .int .i64 (K' : Int), .slice (some ⟨q2, o2, none⟩) n2 c2, .pointer (some ⟨q2, o2, none⟩), .slice bo' L' cap2, .int .i64 (L' : Int), .bool true, .bool true, .bool true, undef, undef, undef, undef, undef, undef, undef, undef, undef, undef, undef, undef], defers := [] } _
  refine wpAnyH_take (i := 20) (v := undef) rfl (by kernel_rfl) (by kernel_rfl) (by kernel_rfl) (fun _ _ _ h => h) (Or.inr ⟨by rfl, rfl⟩) hHeld5 ?_
  change wpAnyH _ _ _ _ _ _ _ { tmps := #[.slice (some ⟨b, o, none⟩) n1 c1, .slice (some ⟨q2, o2, none⟩) n2 c2, undef, undef, .slice none 0 0, .int .i64 0, .slice (some ⟨b, o, none⟩) n1 c1, .bool true, .bool false, .bool false, .slice (some ⟨q2, o2, none⟩) n2 c2, .bool true, .bool false, .bool false, .bool false, .slice (some ⟨b, o, none⟩) n1 c1, .pointer (some ⟨b, o, none⟩), .slice ao' K' cap', .int .i64 (K' : Int), .slice (some ⟨q2, o2, none⟩) n2 c2, .pointer (some ⟨q2, o2, none⟩), .slice bo' L' cap2, .int .i64 (L' : Int), .bool true, .bool true, .bool true, undef, undef, undef, undef, undef, undef, undef, undef, undef, undef, undef, undef], defers := [] } _
  refine wpAnyH_take (i := 21) (v := undef) rfl (by kernel_rfl) (by kernel_rfl) (by kernel_rfl) (fun _ _ _ h => h) (Or.inr ⟨by rfl, rfl⟩) hHeld5 ?_
  change wpAnyH _ _ _ _ _ _ _ { tmps := #[.slice (some ⟨b, o, none⟩) n1 c1, .slice (some ⟨q2, o2, none⟩) n2 c2, undef, undef, .slice none 0 0, .int .i64 0, .slice (some ⟨b, o, none⟩) n1 c1, .bool true, .bool false, .bool false, .slice (some ⟨q2, o2, none⟩) n2 c2, .bool true, .bool false, .bool false, .bool false, .slice (some ⟨b, o, none⟩) n1 c1, .pointer (some ⟨b, o, none⟩), .slice ao' K' cap', .int .i64 (K' : Int), .slice (some ⟨q2, o2, none⟩) n2 c2, .pointer (some ⟨q2, o2, none⟩), .slice bo' L' cap2, .int .i64 (L' : Int), .bool true, .bool true, .bool true, undef, undef, undef, undef, undef, undef, undef, undef, undef, undef, undef, undef], defers := [] } _
  refine wpAnyH_take (i := 22) (v := undef) rfl (by kernel_rfl) (by kernel_rfl) (by kernel_rfl) (fun _ _ _ h => h) (Or.inr ⟨by rfl, rfl⟩) hHeld5 ?_
  change wpAnyH _ _ _ _ _ _ _ { tmps := #[.slice (some ⟨b, o, none⟩) n1 c1, .slice (some ⟨q2, o2, none⟩) n2 c2, undef, undef, .slice none 0 0, .int .i64 0, .slice (some ⟨b, o, none⟩) n1 c1, .bool true, .bool false, .bool false, .slice (some ⟨q2, o2, none⟩) n2 c2, .bool true, .bool false, .bool false, .bool false, .slice (some ⟨b, o, none⟩) n1 c1, .pointer (some ⟨b, o, none⟩), .slice ao' K' cap', .int .i64 (K' : Int), .slice (some ⟨q2, o2, none⟩) n2 c2, .pointer (some ⟨q2, o2, none⟩), .slice bo' L' cap2, .int .i64 (L' : Int), .bool true, .bool true, .bool true, undef, undef, undef, undef, undef, undef, undef, undef, undef, undef, undef, undef], defers := [] } _
  refine wpAnyH_take (i := 23) (v := undef) rfl (by kernel_rfl) (by kernel_rfl) (by kernel_rfl) (fun _ _ _ h => h) (Or.inr ⟨by rfl, rfl⟩) hHeld5 ?_
  change wpAnyH _ _ _ _ _ _ _ { tmps := #[.slice (some ⟨b, o, none⟩) n1 c1, .slice (some ⟨q2, o2, none⟩) n2 c2, undef, undef, .slice none 0 0, .int .i64 0, .slice (some ⟨b, o, none⟩) n1 c1, .bool true, .bool false, .bool false, .slice (some ⟨q2, o2, none⟩) n2 c2, .bool true, .bool false, .bool false, .bool false, .slice (some ⟨b, o, none⟩) n1 c1, .pointer (some ⟨b, o, none⟩), .slice ao' K' cap', .int .i64 (K' : Int), .slice (some ⟨q2, o2, none⟩) n2 c2, .pointer (some ⟨q2, o2, none⟩), .slice bo' L' cap2, .int .i64 (L' : Int), .bool true, .bool true, .bool true, undef, undef, undef, undef, undef, undef, undef, undef, undef, undef, undef, undef], defers := [] } _
  refine wpAnyH_take (i := 24) (v := undef) rfl (by kernel_rfl) (by kernel_rfl) (by kernel_rfl) (fun _ _ _ h => h) (Or.inr ⟨by rfl, rfl⟩) hHeld5 ?_
  change wpAnyH _ _ _ _ _ _ _ { tmps := #[.slice (some ⟨b, o, none⟩) n1 c1, .slice (some ⟨q2, o2, none⟩) n2 c2, undef, undef, .slice none 0 0, .int .i64 0, .slice (some ⟨b, o, none⟩) n1 c1, .bool true, .bool false, .bool false, .slice (some ⟨q2, o2, none⟩) n2 c2, .bool true, .bool false, .bool false, .bool false, .slice (some ⟨b, o, none⟩) n1 c1, .pointer (some ⟨b, o, none⟩), .slice ao' K' cap', .int .i64 (K' : Int), .slice (some ⟨q2, o2, none⟩) n2 c2, .pointer (some ⟨q2, o2, none⟩), .slice bo' L' cap2, .int .i64 (L' : Int), .bool true, .bool true, .bool true, undef, undef, undef, undef, undef, undef, undef, undef, undef, undef, undef, undef], defers := [] } _
  refine wpAnyH_take (i := 25) (v := undef) rfl (by kernel_rfl) (by kernel_rfl) (by kernel_rfl) (fun _ _ _ h => h) (Or.inr ⟨by rfl, rfl⟩) hHeld5 ?_
  change wpAnyH _ _ _ _ _ _ _ { tmps := #[.slice (some ⟨b, o, none⟩) n1 c1, .slice (some ⟨q2, o2, none⟩) n2 c2, undef, undef, .slice none 0 0, .int .i64 0, .slice (some ⟨b, o, none⟩) n1 c1, .bool true, .bool false, .bool false, .slice (some ⟨q2, o2, none⟩) n2 c2, .bool true, .bool false, .bool false, .bool false, .slice (some ⟨b, o, none⟩) n1 c1, .pointer (some ⟨b, o, none⟩), .slice ao' K' cap', .int .i64 (K' : Int), .slice (some ⟨q2, o2, none⟩) n2 c2, .pointer (some ⟨q2, o2, none⟩), .slice bo' L' cap2, .int .i64 (L' : Int), .bool true, .bool true, .bool true, undef, undef, undef, undef, undef, undef, undef, undef, undef, undef, undef, undef], defers := [] } _
  refine wpAnyH_take (i := 26) (v := .bool true) rfl (by kernel_rfl) (by kernel_rfl) (by kernel_rfl) (fun _ _ _ h => h) (Or.inl ⟨by rfl, ?_⟩) hHeld5 ?_
  · intro w' hSw
    (try dsimp only at hSw)
    go_simp
  change wpAnyH _ _ _ _ _ _ _ { tmps := #[.slice (some ⟨b, o, none⟩) n1 c1, .slice (some ⟨q2, o2, none⟩) n2 c2, undef, undef, .slice none 0 0, .int .i64 0, .slice (some ⟨b, o, none⟩) n1 c1, .bool true, .bool false, .bool false, .slice (some ⟨q2, o2, none⟩) n2 c2, .bool true, .bool false, .bool false, .bool false, .slice (some ⟨b, o, none⟩) n1 c1, .pointer (some ⟨b, o, none⟩), .slice ao' K' cap', .int .i64 (K' : Int), .slice (some ⟨q2, o2, none⟩) n2 c2, .pointer (some ⟨q2, o2, none⟩), .slice bo' L' cap2, .int .i64 (L' : Int), .bool true, .bool true, .bool true, undef, undef, undef, undef, undef, undef, .bool true, undef, undef, undef, undef, undef], defers := [] } _
  refine wpAnyH_done (by kernel_rfl) ?_ _
  have HK : Hid (Keep (fun _ => False) w w2) := Keep.trans (S := fun _ => False) (w' := w1) ⟨hk.os, hk.tape, hk.output, hk.size, hk.block⟩ ⟨hk2.os, hk2.tape, hk2.output, hk2.size, hk2.block⟩
  clear hk hk2
  go_wp2_with fail
  go_ret2
  exact ⟨rfl, HK.out⟩


/-- May two be joined? -/
def jfit (m l : List (List UInt8)) : Bool := mright m && (mright l && decide (mcols m = mcols l))

theorem join_no (P Q : Nat → Prop) (a1 a2 : Option Addr) (n1 n2 c1 c2 : Nat) (us vs : List Value) (m l : List (List UInt8)) (w : World) (h1 : Mv P w a1 n1 us m) (h2 : Mv Q w a2 n2 vs l) (hn1 : n1 ≤ 9223372036854775807) (hn2 : n2 ≤ 9223372036854775807) (hno : jfit m l = false) :
    Calls Try.prog 50 #[.slice a1 n1 c1, .slice a2 n2 c2] w fun e w' => e = .returned (.tuple #[.slice none 0 0, .int .i64 2]) ∧ Keep (fun _ => False) w w' := by
  cases hm : mright m with
  | false => exact join_no1 P a1 a2 n1 n2 c1 c2 us m w h1 hn1 hm
  | true =>
    cases hl : mright l with
    | false => exact join_no2 P Q a1 a2 n1 n2 c1 c2 us vs m l w h1 h2 hn1 hn2 hm hl
    | true =>
      rw [jfit, hm, hl, Bool.true_and, Bool.true_and, decide_eq_false_iff_not] at hno
      exact join_no3 P Q a1 a2 n1 n2 c1 c2 us vs m l w h1 h2 hn1 hn2 hm hl hno
end Go.Proofs.Ytegecjilpmkamaa
