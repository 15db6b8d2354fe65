/-
  The walks of gf's Eval and of the reference's.
-/
import Derived.Test.YtegecjilpmkamaaSl
namespace Go.Proofs.Ytegecjilpmkamaa
open Go.RowKit Sb

/-- A polynomial's value: its numbers, each times x to the power of its place. -/
def peval (x : UInt8) : List UInt8 → UInt8
  | [] => 0
  | c :: cs => gmul (peval x cs) x ^^^ c

/-- The same from place i on. -/
def psum (x : UInt8) : Nat → List UInt8 → UInt8
  | _, [] => 0
  | i, c :: cs => gmul c (gpow x i) ^^^ psum x (i + 1) cs

theorem psum_eq (x : UInt8) (cs : List UInt8) : ∀ i, psum x i cs = gmul (peval x cs) (gpow x i) := by
  induction cs with
  | nil => intro i; rw [psum, peval, zero_gmul]
  | cons c cs ih =>
    intro i
    rw [psum, peval, ih, gpow, xor_gmul, UInt8.xor_comm, gmul_comm (gpow x i) x, ← gmul_assoc]

theorem psum_zero (x : UInt8) (cs : List UInt8) : psum x 0 cs = peval x cs := by rw [psum_eq, gpow, gmul_one]

theorem drop_eq {xs : List UInt8} {k : Nat} {c : UInt8} (h : xs[k]? = some c) : xs.drop k = c :: xs.drop (k + 1) := by
  obtain ⟨hk, he⟩ := List.getElem?_eq_some_iff.1 h
  rw [List.drop_eq_getElem_cons hk, he]

theorem gpowI_natCast (a : UInt8) (k : Nat) : gpowI a (k : Int) = gpow a k := by
  by_cases h : k = 0
  · subst h; rfl
  · unfold gpowI
    rw [if_neg (by omega)]
    by_cases ha : a = 0
    · rw [if_pos ha, ha, gpow_zero_pos (by omega)]
    · rw [if_neg ha, gpow_eq ha, ← gexpI_nat, Int.natCast_mul]

set_option maxRecDepth 100000 in
set_option maxHeartbeats 1000000 in
theorem eval_any (fb : Nat) (P : Nat → Prop) (ao : Option Addr) (n cap : Nat) (xs : List UInt8) (x : UInt8) (w : World) (hf : FieldAt w fb) (hr : Rb P w ao n xs) (hP : ¬ P fb) (hn : n ≤ 9223372036854775807) :
    Calls Try.prog 34 #[.pointer (some ⟨fb, 0, none⟩), .slice ao n cap, bv x] w fun e w' => e = .returned (bv (peval x xs)) ∧ Fp fb w w' := by
  go_enter Try.func34, Try.ntmps34
  go_wp2_with fail
  refine (made_fp fb w hf).mono ?_
  rintro e w1 ⟨rfl, hp⟩
  have hr1 := Lib.hid (hr.keep hp.keep (fun b _ hb e => hP (e ▸ hb)))
  have hlen := Lib.hid hr.len
  have HP := Lib.hid hp
  clear hr hp
  go_wp2_with fail
  go_loopw [8, 9] (fun s i wr => ∃ (k m : Nat) (y : UInt8), k ≤ n ∧ i = .int .i64 ((k : Int) - 1) ∧ s = bv y ∧ Hid (y = peval x (xs.drop k) ∧ wr = w1.drewN m)) (fun _ i _ => (intOf i + 1).toNat)
  case atStart =>
    refine ⟨n, 0, 0, Nat.le_refl _, rfl, rfl, ?_, rfl⟩
    rw [List.drop_of_length_le (by have := hlen.out; omega)]
    rfl
  case round =>
    obtain ⟨k, m, y, hk, rfl, rfl, HI⟩ := hrel
    by_cases hlt : 0 < k
    · obtain ⟨j, rfl⟩ : ∃ j, k = j + 1 := ⟨k - 1, by omega⟩
      obtain ⟨b, o, c, rfl, _, hx, hc⟩ := hr1.out.at_ (k := j) (by omega)
      have hcr : wr.cell? ⟨b, o + j, none⟩ = some (bv c) := by rw [HI.out.2]; exact hc
      have hbr : Hid (Blk wr fb 102 full) := by rw [HI.out.2]; exact HP.out.at_.drewN m
      have HX := Lib.hid hx
      have e1 : ((j + 1 : Nat) : Int) - 1 = (j : Int) := by omega
      rw [e1]
      have hj0 : (0 : Int) ≤ (j : Int) := by omega
      have hjn : (j : Int) < (n : Int) := by omega
      clear hx hc e1
      go_wp2_with fail
      go_quiet ((go_at_call 73; exact Calls.quiet_of (times_any fb y x _ (hbr.out.drewN _))))
      go_wp2_with fail
      rw [bits_xor_u8]
      go_roundw
      case rel =>
        refine ⟨j, m + nq, gmul y x ^^^ c, by omega, rfl, rfl, ?_, ?_⟩
        · rw [drop_eq HX.out, peval, ← HI.out.1]
        · rw [HI.out.2, World.drewN_drewN]
      case measure => simp [intOf]
    · obtain rfl : k = 0 := by omega
      go_wp2_with fail
      go_ret
      refine ⟨?_, ?_⟩
      · rw [HI.out.1]; rfl
      · rw [HI.out.2]; exact HP.out.drewN m

set_option maxRecDepth 100000 in
set_option maxHeartbeats 1000000 in
theorem refeval_any (P : Nat → Prop) (ao : Option Addr) (n cap : Nat) (xs : List UInt8) (x : UInt8) (w : World) (hr : Rb P w ao n xs) (hn : n ≤ 9223372036854775807) :
    Calls Try.prog 35 #[.slice ao n cap, bv x] w fun e w' => e = .returned (bv (peval x xs)) ∧ ∃ m, w' = w.drewN m := by
  have hr1 := Lib.hid hr
  have hlen := Lib.hid hr.len
  clear hr
  go_enter Try.func35, Try.ntmps35
  go_wp2_with fail
  go_loopw [5, 6] (fun s i wr => ∃ (k m : Nat) (y : UInt8), k ≤ n ∧ i = .int .i64 (k : Int) ∧ s = bv y ∧ Hid (y ^^^ psum x k (xs.drop k) = peval x xs ∧ wr = w.drewN m)) (fun _ i _ => n - (intOf i).toNat)
  case atStart =>
    refine ⟨0, 0, 0, Nat.zero_le _, rfl, rfl, ?_, rfl⟩
    rw [List.drop_zero, psum_zero, UInt8.zero_xor]
  case round =>
    obtain ⟨k, m, y, hk, rfl, rfl, HI⟩ := hrel
    by_cases hlt : k < n
    · obtain ⟨b, o, c, rfl, _, hx, hc⟩ := hr1.out.at_ hlt
      have hcr : wr.cell? ⟨b, o + k, none⟩ = some (bv c) := by rw [HI.out.2]; exact hc
      have HX := Lib.hid hx
      have hj0 : (0 : Int) ≤ (k : Int) := by omega
      have hjn : (k : Int) < (n : Int) := by omega
      clear hx hc
      go_wp2_with fail
      go_quiet ((first | (go_at_call 33; exact Calls.quiet_of_same ((refpow_any x k _).mono fun _ _ ⟨h1, h2⟩ => ⟨h1, h2.symm⟩)) | (go_at_call 23; exact Calls.quiet_of_same ((refmul_any c (gpowI x k) _).mono fun _ _ ⟨h1, h2⟩ => ⟨h1, h2.symm⟩))))
      go_wp2_with fail
      rw [bits_xor_u8]
      go_roundw
      case rel =>
        refine ⟨k + 1, m + nq, y ^^^ gmul c (gpowI x k), by omega, by go_num, rfl, ?_, ?_⟩
        · have h := HI.out.1
          rw [drop_eq HX.out, psum] at h
          rw [gpowI_natCast, UInt8.xor_assoc]
          exact h
        · rw [HI.out.2, World.drewN_drewN]
      case measure => simp [intOf]; omega
    · obtain rfl : k = n := by omega
      go_wp2_with fail
      go_ret
      refine ⟨?_, m, HI.out.2⟩
      have h := HI.out.1
      rw [List.drop_of_length_le (by have := hlen.out; omega), psum, UInt8.xor_zero] at h
      rw [← h]; rfl
end Go.Proofs.Ytegecjilpmkamaa
