/-
  The walks of carrier's functions at a bag that nobody made.
-/
import Derived.Test.YtoojhdjdhhkkcaaTrn
namespace Go.Proofs.Ytoojhdjdhhkkcaa
open Go.RowKit

set_option maxRecDepth 100000 in
set_option maxHeartbeats 1000000 in
theorem turn_nil (a : Option Addr) (ao : Option Addr) (n cap : Nat) (w : World) (h : Calls Try.prog 17 #[.pointer a] w fun e w' => e = .returned (.bool true) ∧ w = w') :
    Calls Try.prog 10 #[.pointer a, .slice ao n cap] w fun e w' => e = .returned (.tuple #[]) ∧ w = w' := by
  have H := Lib.hid h
  clear h
  go_enter Try.func10, Try.ntmps10
  go_wp2_with fail
  refine H.out.mono ?_
  rintro e w' ⟨rfl, rfl⟩
  go_wp2_with fail
  refine bodyPost_ret (v := .tuple #[]) (results_none rfl _ _ _) rfl ?_
  exact ⟨rfl, rfl⟩

set_option maxRecDepth 100000 in
set_option maxHeartbeats 1000000 in
theorem pack_nil (a : Option Addr) (ao : Option Addr) (n cap : Nat) (w : World) (h : Calls Try.prog 17 #[.pointer a] w fun e w' => e = .returned (.bool true) ∧ w = w') :
    Calls Try.prog 7 #[.pointer a, .slice ao n cap] w fun e w' => e = .returned (.int .i64 0) ∧ w = w' := by
  have H := Lib.hid h
  clear h
  go_enter Try.func7, Try.ntmps7
  go_wp2_with fail
  refine H.out.mono ?_
  rintro e w' ⟨rfl, rfl⟩
  go_wp2_with fail
  go_ret
  exact ⟨rfl, rfl⟩

set_option maxRecDepth 100000 in
set_option maxHeartbeats 1000000 in
theorem files_nil (a : Option Addr) (w : World) (h : Calls Try.prog 17 #[.pointer a] w fun e w' => e = .returned (.bool true) ∧ w = w') :
    Calls Try.prog 15 #[.pointer a] w fun e w' => e = .returned (.slice none 0 0) ∧ w = w' := by
  have H := Lib.hid h
  clear h
  go_enter Try.func15, Try.ntmps15
  go_wp2_with fail
  refine H.out.mono ?_
  rintro e w' ⟨rfl, rfl⟩
  go_wp2_with fail
  go_ret
  exact ⟨rfl, rfl⟩

set_option maxRecDepth 100000 in
set_option maxHeartbeats 1000000 in
theorem room_nil (a : Option Addr) (w : World) (h : Calls Try.prog 17 #[.pointer a] w fun e w' => e = .returned (.bool true) ∧ w = w') :
    Calls Try.prog 16 #[.pointer a] w fun e w' => e = .returned (.int .i64 0) ∧ w = w' := by
  have H := Lib.hid h
  clear h
  go_enter Try.func16, Try.ntmps16
  go_wp2_with fail
  refine H.out.mono ?_
  rintro e w' ⟨rfl, rfl⟩
  go_wp2_with fail
  go_ret
  exact ⟨rfl, rfl⟩

set_option maxRecDepth 100000 in
set_option maxHeartbeats 1000000 in
theorem lose_nil (a : Option Addr) (i : Int) (w : World) (h : Calls Try.prog 17 #[.pointer a] w fun e w' => e = .returned (.bool true) ∧ w = w') :
    Calls Try.prog 8 #[.pointer a, .int .i64 i] w fun e w' => e = .returned (.int .i64 1) ∧ w = w' := by
  have H := Lib.hid h
  clear h
  go_enter Try.func8, Try.ntmps8
  go_wp2_with fail
  refine (check_nil i a w H.out).mono ?_
  rintro e w' ⟨rfl, rfl⟩
  go_wp2_with fail
  go_ret
  exact ⟨rfl, rfl⟩

set_option maxRecDepth 100000 in
set_option maxHeartbeats 1000000 in
theorem double_nil (a : Option Addr) (i : Int) (w : World) (h : Calls Try.prog 17 #[.pointer a] w fun e w' => e = .returned (.bool true) ∧ w = w') :
    Calls Try.prog 9 #[.pointer a, .int .i64 i] w fun e w' => e = .returned (.int .i64 1) ∧ w = w' := by
  have H := Lib.hid h
  clear h
  go_enter Try.func9, Try.ntmps9
  go_wp2_with fail
  refine (check_nil i a w H.out).mono ?_
  rintro e w' ⟨rfl, rfl⟩
  go_wp2_with fail
  go_ret
  exact ⟨rfl, rfl⟩

set_option maxRecDepth 100000 in
set_option maxHeartbeats 1000000 in
theorem spoil_nil (a : Option Addr) (i at_ x : Int) (w : World) (h : Calls Try.prog 17 #[.pointer a] w fun e w' => e = .returned (.bool true) ∧ w = w') :
    Calls Try.prog 12 #[.pointer a, .int .i64 i, .int .i64 at_, .int .u8 x] w fun e w' => e = .returned (.int .i64 1) ∧ w = w' := by
  have H := Lib.hid h
  clear h
  go_enter Try.func12, Try.ntmps12
  go_wp2_with fail
  refine (check_nil i a w H.out).mono ?_
  rintro e w' ⟨rfl, rfl⟩
  go_wp2_with fail
  go_ret
  exact ⟨rfl, rfl⟩

set_option maxRecDepth 100000 in
set_option maxHeartbeats 1000000 in
theorem empty_nil (a : Option Addr) (w : World) (h : Calls Try.prog 17 #[.pointer a] w fun e w' => e = .returned (.bool true) ∧ w = w') :
    Calls Try.prog 13 #[.pointer a] w fun e w' => e = .returned (.slice none 0 0) ∧ w = w' := by
  have H := Lib.hid h
  clear h
  go_enter Try.func13, Try.ntmps13
  go_wp2_with fail
  refine (files_nil a w H.out).mono ?_
  rintro e w' ⟨rfl, rfl⟩
  go_wp2_with fail
  go_loop [4] (fun i => i = .int .i64 (-1)) (fun _ => 0)
  case atStart => rfl
  case round =>
    subst hrel
    go_wp2_with fail
    go_ret
    exact ⟨rfl, rfl⟩
end Go.Proofs.Ytoojhdjdhhkkcaa
