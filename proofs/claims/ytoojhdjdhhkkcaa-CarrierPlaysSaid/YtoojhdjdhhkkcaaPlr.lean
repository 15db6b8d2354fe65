/-
  The walk of the law CarrierPlays, as its row wants it.
-/
import Derived.Test.YtoojhdjdhhkkcaaPlw
namespace Go.Proofs.Ytoojhdjdhhkkcaa
open Go.RowKit

theorem carrierPlays_walk (W : World) (R : Int) (ao : Option Addr) (n cap : Nat) (A : List Act_) (hR : R ≤ 9223372036854775807) (hA : Acts (· < W.heap.size) W ao n A) (hn : n ≤ cap) (hc : cap ≤ maxLen) :
    Calls Try.prog 3 #[.int .i64 R, .slice ao n cap] W fun e w' => e = .returned (.bool true) ∧ Below W.heap.size W w' := by
  have key : Calls Try.prog 3 #[.int .i64 R, .slice ao n cap] W fun e w' => e = .returned (.bool true) ∧ Keep (fun _ => False) W w' := by
    by_cases h : R < 0
    · exact plays_no R _ W h
    · obtain ⟨r, rfl⟩ : ∃ r : Nat, R = (r : Int) := ⟨R.toNat, by omega⟩
      exact plays_yes r ao n cap A W (by omega) hA hn hc
  exact key.mono fun _ _ ⟨he, hk⟩ => ⟨he, hk.below (Nat.le_refl _) (fun _ _ => id)⟩
end Go.Proofs.Ytoojhdjdhhkkcaa
