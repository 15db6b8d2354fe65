/-
  The walk of the law GfMul: it answers true, at every input.
-/
import Derived.Test.YtegecjilpmkamaaFrame
namespace Go.Proofs.Ytegecjilpmkamaa
open Go.RowKit Sb

set_option maxRecDepth 100000 in
set_option maxHeartbeats 1000000 in
theorem gfMul_walk (a b : UInt8) (w : World) : Calls Try.prog 3 #[bv a, bv b] w fun e w' => e = .returned (.bool true) ∧ Below w.heap.size w w' := by
  go_enter Try.func3, Try.ntmps3
  go_wp2_with fail
  refine (new_any w).mono ?_
  rintro e w1 ⟨rfl, rfl⟩
  have l1 := Lw.start w
  generalize w.alloc (.cells Try.zeroCells102 102) = w1 at *
  go_wp2_with fail
  refine (mul_any _ a b _ l1.at_).mono ?_
  rintro e w2 ⟨rfl, hp⟩
  have l2 := l1.p hp
  clear l1 hp
  go_wp2_with fail
  refine (refmul_any a b _).mono ?_
  rintro e w' ⟨rfl, rfl⟩
  go_wp2_with fail
  refine (add_any _ a b _).mono ?_
  rintro e w' ⟨rfl, rfl⟩
  have hx := bits_xor_u8 a b
  go_wp2_with fail
  clear hx
  refine (div_any _ a b _ l2.at_).mono ?_
  rintro e w3 ⟨rfl, hp⟩
  have l3 := l2.p hp
  clear l2 hp
  go_wp2_with fail
  refine (refinv_any b _).mono ?_
  rintro e w' ⟨rfl, rfl⟩
  go_wp2_with fail
  refine (refmul_any a (ginv b) _).mono ?_
  rintro e w' ⟨rfl, rfl⟩
  go_wp2_with fail
  refine (inv_any _ a _ l3.at_).mono ?_
  rintro e w4 ⟨rfl, hp⟩
  have l4 := l3.q hp
  clear l3 hp
  go_wp2_with fail
  refine (refinv_any a _).mono ?_
  rintro e w' ⟨rfl, rfl⟩
  go_wp2_with fail
  refine (log_any _ a _ l4.at_).mono ?_
  rintro e w5 ⟨rfl, hp⟩
  have l5 := l4.p hp
  clear l4 hp
  go_wp2_with fail
  refine (reflog_any a _).mono ?_
  rintro e w' ⟨rfl, rfl⟩
  go_wp2_with fail
  refine (one4_any _).mono ?_
  rintro e w6 ⟨rfl, hk⟩
  have l6 := l5.k hk
  clear l5 hk
  go_wp2_with fail
  go_ret
  exact ⟨rfl, l6.below⟩
end Go.Proofs.Ytegecjilpmkamaa
