/-
  The walk of Few of law 05.
-/
import Derived.Test.YtegecjilpmkamaaOne5
namespace Go.Proofs.Ytegecjilpmkamaa
open Go.RowKit Sb

/-- Few: no more rows and no longer rows than so many. -/
def few (m : List (List UInt8)) (K : Nat) : Bool := decide (m.length ≤ K) && m.all (fun r => decide (r.length ≤ K))

/-- A Bool as Few tells it. -/
def fewI (b : Bool) : Int := if b then 1 else 0

theorem few_spec {m : List (List UInt8)} {K : Nat} (h : few m K = true) : m.length ≤ K ∧ ∀ r ∈ m, r.length ≤ K := by
  unfold few at h
  rw [Bool.and_eq_true, decide_eq_true_eq, List.all_eq_true] at h
  exact ⟨h.1, fun r hr => of_decide_eq_true (h.2 r hr)⟩

set_option maxRecDepth 100000 in
set_option maxHeartbeats 1000000 in
theorem few_any (P : Nat → Prop) (ao : Option Addr) (n cap K : Nat) (us : List Value) (m : List (List UInt8)) (w : World) (hr : Mv P w ao n us m) (hrl : ∀ r ∈ m, r.length ≤ 9223372036854775807) (hK : K ≤ 1000) :
    Calls Try.prog 47 #[.slice ao n cap, .int .i64 (K : Int)] w fun e w' => e = .returned (.int .i64 (fewI (few m K))) ∧ Keep (fun _ => False) w w' := by
  have HR := Lib.hid hr
  have HL := Lib.hid hr.len
  have HRL := Lib.hid hrl
  by_cases h1 : n ≤ K
  · have h2 : (n : Int) ≤ (K : Int) := by omega
    clear hr hrl
    go_enter Try.func47, Try.ntmps47
    go_wp2_with fail
    go_loopw [5] (fun i wr => ∃ k : Nat, k ≤ n ∧ i = .int .i64 (k : Int) ∧ Hid (few m K = (m.drop k).all (fun r => decide (r.length ≤ K)) ∧ Keep (fun _ => False) w wr)) (fun i _ => n - (intOf i).toNat)
    case atStart =>
      refine ⟨0, Nat.zero_le _, rfl, ?_, Keep.refl _ _⟩
      rw [few, decide_eq_true (by have := HL.out; omega), Bool.true_and, List.drop_zero]
    case round =>
      obtain ⟨k, hk, rfl, HI⟩ := hrel
      by_cases hlt : k < n
      · obtain ⟨b, o, ao', n', cap', r, rfl, _, hu, hr, hc, _, _, hrb⟩ := (HR.out.keep HI.out.2 (fun _ _ _ => id)).at_ hlt
        have hj0 : (0 : Int) ≤ (k : Int) := by omega
        have hjn : (k : Int) < (n : Int) := by omega
        have hd : Hid ((m.drop k).all (fun r => decide (r.length ≤ K)) = (decide (n' ≤ K) && (m.drop (k + 1)).all (fun r => decide (r.length ≤ K)))) := by
          obtain ⟨l1, e1⟩ := List.getElem?_eq_some_iff.1 hr
          show (m.drop k).all (fun r => decide (r.length ≤ K)) = _
          rw [List.drop_eq_getElem_cons l1, List.all_cons, e1, hrb.len]
        have hn' : n' ≤ 9223372036854775807 := by
          have := HRL.out r (List.mem_of_getElem? hr)
          rw [hrb.len] at this
          exact this
        clear hu hr hrb
        by_cases hle : n' ≤ K
        · have h3 : (n' : Int) ≤ (K : Int) := by omega
          have HLE := Lib.hid hle
          clear hle
          go_wp2_with fail
          go_roundw
          case rel =>
            refine ⟨k + 1, by omega, by go_num, ?_, HI.out.2⟩
            rw [HI.out.1, hd.out, decide_eq_true HLE.out, Bool.true_and]
          case measure => simp [intOf]; omega
        · have h3 : (K : Int) < (n' : Int) := by omega
          have HLE := Lib.hid hle
          clear hle
          go_wp2_with fail
          go_ret
          refine ⟨?_, HI.out.2⟩
          rw [HI.out.1, hd.out, decide_eq_false HLE.out, Bool.false_and]
          rfl
      · have hkn : (n : Int) ≤ (k : Int) := by omega
        go_wp2_with fail
        go_ret
        refine ⟨?_, HI.out.2⟩
        rw [HI.out.1, List.drop_eq_nil_of_le (by rw [HL.out]; omega)]
        rfl
  · have h2 : (K : Int) < (n : Int) := by omega
    have hf : Hid (few m K = false) := by
      show few m K = false
      rw [few, decide_eq_false (by have := HL.out; omega), Bool.false_and]
    clear hr hrl h1
    go_enter Try.func47, Try.ntmps47
    go_wp2_with fail
    go_ret
    refine ⟨?_, Keep.refl _ _⟩
    rw [hf.out]
    rfl
end Go.Proofs.Ytegecjilpmkamaa
