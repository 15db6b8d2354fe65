/-
  The walks of slices.IndexFunc and slices.ContainsFunc, at the functions that the program hands to them.
-/
import Derived.Test.YtegecjilpmkamaaMx
namespace Go.Proofs.Ytegecjilpmkamaa
open Go.RowKit Sb

set_option maxRecDepth 100000 in
set_option maxHeartbeats 1000000 in
theorem idx_86 (P : Nat → Prop) (ao : Option Addr) (n cap : Nat) (us : List Value) (m : List (List UInt8)) (c0 : Value) (q : Nat → Bool) (w : World) (hr : Mv P w ao n us m) (hn : n ≤ 9223372036854775807)
    (hcl : ∀ (i : Nat) (u : Value), us[i]? = some u → Calls Try.prog 86 #[u, c0] w fun e w' => e = .returned (.bool (q i)) ∧ w = w') :
    Calls Try.prog 102 #[.slice ao n cap, .func (.func 86) #[] #[c0]] w fun e w' => e = .returned (.int .i64 (fidx q n 0)) ∧ w = w' := by
  have HR := Lib.hid hr
  have HC := Lib.hid hcl
  clear hr hcl
  go_enter Try.func102, Try.ntmps102
  go_wp2_with fail
  go_loop [5, 8] (fun _ i => ∃ k : Nat, k ≤ n ∧ i = .int .i64 (k : Int) ∧ Hid (fidx q (n - k) k = fidx q n 0)) (fun _ i => n - (intOf i).toNat)
  case atStart => exact ⟨0, Nat.zero_le _, rfl, rfl⟩
  case round =>
    obtain ⟨k, hk, rfl, HI⟩ := hrel
    by_cases hlt : k < n
    · obtain ⟨b, o, ao', n', cap', r, rfl, _, hu, _, hc, _⟩ := HR.out.at_ hlt
      have hcl := Lib.hid (HC.out k _ hu)
      have hj0 : (0 : Int) ≤ (k : Int) := by omega
      have hjn : (k : Int) < (n : Int) := by omega
      clear hu
      cases hq : q k with
      | true =>
        have HQ := Lib.hid hq
        clear hq
        go_wp2_with fail
        refine hcl.out.mono ?_
        rintro e w' ⟨rfl, rfl⟩
        rw [HQ.out]
        go_wp2_with fail
        go_ret
        refine ⟨?_, rfl⟩
        rw [← HI.out, fidx_step hlt, if_pos HQ.out]
        rfl
      | false =>
        have HQ := Lib.hid hq
        clear hq
        go_wp2_with fail
        refine hcl.out.mono ?_
        rintro e w' ⟨rfl, rfl⟩
        rw [HQ.out]
        go_wp2_with fail
        go_round
        case rel =>
          refine ⟨k + 1, by omega, by go_num, ?_⟩
          have h := HI.out
          rw [fidx_step hlt, if_neg (by rw [HQ.out]; simp)] at h
          exact h
        case measure => simp [intOf]; omega
    · have hkn : (n : Int) ≤ (k : Int) := by omega
      go_wp2_with fail
      go_ret
      refine ⟨?_, rfl⟩
      rw [← HI.out, show n - k = 0 by omega, fidx]
      rfl

set_option maxRecDepth 100000 in
set_option maxHeartbeats 1000000 in
theorem idx_103 (P : Nat → Prop) (ao : Option Addr) (n cap : Nat) (us : List Value) (m : List (List UInt8)) (c0 : Value) (q : Nat → Bool) (w : World) (hr : Mv P w ao n us m) (hn : n ≤ 9223372036854775807)
    (hcl : ∀ (i : Nat) (u : Value), us[i]? = some u → Calls Try.prog 103 #[u, c0] w fun e w' => e = .returned (.bool (q i)) ∧ w = w') :
    Calls Try.prog 102 #[.slice ao n cap, .func (.func 103) #[] #[c0]] w fun e w' => e = .returned (.int .i64 (fidx q n 0)) ∧ w = w' := by
  have HR := Lib.hid hr
  have HC := Lib.hid hcl
  clear hr hcl
  go_enter Try.func102, Try.ntmps102
  go_wp2_with fail
  go_loop [5, 8] (fun _ i => ∃ k : Nat, k ≤ n ∧ i = .int .i64 (k : Int) ∧ Hid (fidx q (n - k) k = fidx q n 0)) (fun _ i => n - (intOf i).toNat)
  case atStart => exact ⟨0, Nat.zero_le _, rfl, rfl⟩
  case round =>
    obtain ⟨k, hk, rfl, HI⟩ := hrel
    by_cases hlt : k < n
    · obtain ⟨b, o, ao', n', cap', r, rfl, _, hu, _, hc, _⟩ := HR.out.at_ hlt
      have hcl := Lib.hid (HC.out k _ hu)
      have hj0 : (0 : Int) ≤ (k : Int) := by omega
      have hjn : (k : Int) < (n : Int) := by omega
      clear hu
      cases hq : q k with
      | true =>
        have HQ := Lib.hid hq
        clear hq
        go_wp2_with fail
        refine hcl.out.mono ?_
        rintro e w' ⟨rfl, rfl⟩
        rw [HQ.out]
        go_wp2_with fail
        go_ret
        refine ⟨?_, rfl⟩
        rw [← HI.out, fidx_step hlt, if_pos HQ.out]
        rfl
      | false =>
        have HQ := Lib.hid hq
        clear hq
        go_wp2_with fail
        refine hcl.out.mono ?_
        rintro e w' ⟨rfl, rfl⟩
        rw [HQ.out]
        go_wp2_with fail
        go_round
        case rel =>
          refine ⟨k + 1, by omega, by go_num, ?_⟩
          have h := HI.out
          rw [fidx_step hlt, if_neg (by rw [HQ.out]; simp)] at h
          exact h
        case measure => simp [intOf]; omega
    · have hkn : (n : Int) ≤ (k : Int) := by omega
      go_wp2_with fail
      go_ret
      refine ⟨?_, rfl⟩
      rw [← HI.out, show n - k = 0 by omega, fidx]
      rfl

set_option maxRecDepth 100000 in
set_option maxHeartbeats 1000000 in
theorem idx_84 (P : Nat → Prop) (ao : Option Addr) (n cap : Nat) (us : List Value) (m : List (List UInt8)) (c0 : Value) (q : Nat → Bool) (w : World) (hr : Mv P w ao n us m) (hn : n ≤ 9223372036854775807)
    (hcl : ∀ (i : Nat) (u : Value), us[i]? = some u → Calls Try.prog 84 #[u, c0] w fun e w' => e = .returned (.bool (q i)) ∧ w = w') :
    Calls Try.prog 104 #[.slice ao n cap, .func (.func 84) #[] #[c0]] w fun e w' => e = .returned (.int .i64 (fidx q n 0)) ∧ w = w' := by
  have HR := Lib.hid hr
  have HC := Lib.hid hcl
  clear hr hcl
  go_enter Try.func104, Try.ntmps104
  go_wp2_with fail
  go_loop [5, 8] (fun _ i => ∃ k : Nat, k ≤ n ∧ i = .int .i64 (k : Int) ∧ Hid (fidx q (n - k) k = fidx q n 0)) (fun _ i => n - (intOf i).toNat)
  case atStart => exact ⟨0, Nat.zero_le _, rfl, rfl⟩
  case round =>
    obtain ⟨k, hk, rfl, HI⟩ := hrel
    by_cases hlt : k < n
    · obtain ⟨b, o, ao', n', cap', r, rfl, _, hu, _, hc, _⟩ := HR.out.at_ hlt
      have hcl := Lib.hid (HC.out k _ hu)
      have hj0 : (0 : Int) ≤ (k : Int) := by omega
      have hjn : (k : Int) < (n : Int) := by omega
      clear hu
      cases hq : q k with
      | true =>
        have HQ := Lib.hid hq
        clear hq
        go_wp2_with fail
        refine hcl.out.mono ?_
        rintro e w' ⟨rfl, rfl⟩
        rw [HQ.out]
        go_wp2_with fail
        go_ret
        refine ⟨?_, rfl⟩
        rw [← HI.out, fidx_step hlt, if_pos HQ.out]
        rfl
      | false =>
        have HQ := Lib.hid hq
        clear hq
        go_wp2_with fail
        refine hcl.out.mono ?_
        rintro e w' ⟨rfl, rfl⟩
        rw [HQ.out]
        go_wp2_with fail
        go_round
        case rel =>
          refine ⟨k + 1, by omega, by go_num, ?_⟩
          have h := HI.out
          rw [fidx_step hlt, if_neg (by rw [HQ.out]; simp)] at h
          exact h
        case measure => simp [intOf]; omega
    · have hkn : (n : Int) ≤ (k : Int) := by omega
      go_wp2_with fail
      go_ret
      refine ⟨?_, rfl⟩
      rw [← HI.out, show n - k = 0 by omega, fidx]
      rfl

set_option maxRecDepth 100000 in
set_option maxHeartbeats 1000000 in
theorem idx_98 (P : Nat → Prop) (ao : Option Addr) (n cap : Nat) (us : List Value) (m : List (List UInt8)) (q : Nat → Bool) (w : World) (hr : Mv P w ao n us m) (hn : n ≤ 9223372036854775807)
    (hcl : ∀ (i : Nat) (u : Value), us[i]? = some u → Calls Try.prog 98 #[u] w fun e w' => e = .returned (.bool (q i)) ∧ w = w') :
    Calls Try.prog 104 #[.slice ao n cap, .func (.func 98) #[] #[]] w fun e w' => e = .returned (.int .i64 (fidx q n 0)) ∧ w = w' := by
  have HR := Lib.hid hr
  have HC := Lib.hid hcl
  clear hr hcl
  go_enter Try.func104, Try.ntmps104
  go_wp2_with fail
  go_loop [5, 8] (fun _ i => ∃ k : Nat, k ≤ n ∧ i = .int .i64 (k : Int) ∧ Hid (fidx q (n - k) k = fidx q n 0)) (fun _ i => n - (intOf i).toNat)
  case atStart => exact ⟨0, Nat.zero_le _, rfl, rfl⟩
  case round =>
    obtain ⟨k, hk, rfl, HI⟩ := hrel
    by_cases hlt : k < n
    · obtain ⟨b, o, ao', n', cap', r, rfl, _, hu, _, hc, _⟩ := HR.out.at_ hlt
      have hcl := Lib.hid (HC.out k _ hu)
      have hj0 : (0 : Int) ≤ (k : Int) := by omega
      have hjn : (k : Int) < (n : Int) := by omega
      clear hu
      cases hq : q k with
      | true =>
        have HQ := Lib.hid hq
        clear hq
        go_wp2_with fail
        refine hcl.out.mono ?_
        rintro e w' ⟨rfl, rfl⟩
        rw [HQ.out]
        go_wp2_with fail
        go_ret
        refine ⟨?_, rfl⟩
        rw [← HI.out, fidx_step hlt, if_pos HQ.out]
        rfl
      | false =>
        have HQ := Lib.hid hq
        clear hq
        go_wp2_with fail
        refine hcl.out.mono ?_
        rintro e w' ⟨rfl, rfl⟩
        rw [HQ.out]
        go_wp2_with fail
        go_round
        case rel =>
          refine ⟨k + 1, by omega, by go_num, ?_⟩
          have h := HI.out
          rw [fidx_step hlt, if_neg (by rw [HQ.out]; simp)] at h
          exact h
        case measure => simp [intOf]; omega
    · have hkn : (n : Int) ≤ (k : Int) := by omega
      go_wp2_with fail
      go_ret
      refine ⟨?_, rfl⟩
      rw [← HI.out, show n - k = 0 by omega, fidx]
      rfl

set_option maxRecDepth 100000 in
set_option maxHeartbeats 1000000 in
theorem idx_105 (P : Nat → Prop) (ao : Option Addr) (n cap : Nat) (us : List Value) (m : List (List UInt8)) (c0 : Value) (q : Nat → Bool) (w : World) (hr : Mv P w ao n us m) (hn : n ≤ 9223372036854775807)
    (hcl : ∀ (i : Nat) (u : Value), us[i]? = some u → Calls Try.prog 105 #[u, c0] w fun e w' => e = .returned (.bool (q i)) ∧ w = w') :
    Calls Try.prog 104 #[.slice ao n cap, .func (.func 105) #[] #[c0]] w fun e w' => e = .returned (.int .i64 (fidx q n 0)) ∧ w = w' := by
  have HR := Lib.hid hr
  have HC := Lib.hid hcl
  clear hr hcl
  go_enter Try.func104, Try.ntmps104
  go_wp2_with fail
  go_loop [5, 8] (fun _ i => ∃ k : Nat, k ≤ n ∧ i = .int .i64 (k : Int) ∧ Hid (fidx q (n - k) k = fidx q n 0)) (fun _ i => n - (intOf i).toNat)
  case atStart => exact ⟨0, Nat.zero_le _, rfl, rfl⟩
  case round =>
    obtain ⟨k, hk, rfl, HI⟩ := hrel
    by_cases hlt : k < n
    · obtain ⟨b, o, ao', n', cap', r, rfl, _, hu, _, hc, _⟩ := HR.out.at_ hlt
      have hcl := Lib.hid (HC.out k _ hu)
      have hj0 : (0 : Int) ≤ (k : Int) := by omega
      have hjn : (k : Int) < (n : Int) := by omega
      clear hu
      cases hq : q k with
      | true =>
        have HQ := Lib.hid hq
        clear hq
        go_wp2_with fail
        refine hcl.out.mono ?_
        rintro e w' ⟨rfl, rfl⟩
        rw [HQ.out]
        go_wp2_with fail
        go_ret
        refine ⟨?_, rfl⟩
        rw [← HI.out, fidx_step hlt, if_pos HQ.out]
        rfl
      | false =>
        have HQ := Lib.hid hq
        clear hq
        go_wp2_with fail
        refine hcl.out.mono ?_
        rintro e w' ⟨rfl, rfl⟩
        rw [HQ.out]
        go_wp2_with fail
        go_round
        case rel =>
          refine ⟨k + 1, by omega, by go_num, ?_⟩
          have h := HI.out
          rw [fidx_step hlt, if_neg (by rw [HQ.out]; simp)] at h
          exact h
        case measure => simp [intOf]; omega
    · have hkn : (n : Int) ≤ (k : Int) := by omega
      go_wp2_with fail
      go_ret
      refine ⟨?_, rfl⟩
      rw [← HI.out, show n - k = 0 by omega, fidx]
      rfl

set_option maxHeartbeats 1000000 in
theorem any_86 (P : Nat → Prop) (ao : Option Addr) (n cap : Nat) (us : List Value) (m : List (List UInt8)) (c0 : Value) (q : Nat → Bool) (w : World) (hr : Mv P w ao n us m) (hn : n ≤ 9223372036854775807)
    (hcl : ∀ (i : Nat) (u : Value), us[i]? = some u → Calls Try.prog 86 #[u, c0] w fun e w' => e = .returned (.bool (q i)) ∧ w = w') :
    Calls Try.prog 85 #[.slice ao n cap, .func (.func 86) #[] #[c0]] w fun e w' => e = .returned (.bool ((List.range n).any q)) ∧ w = w' := by
  have H := Lib.hid (idx_86 P ao n cap us m c0 q w hr hn hcl)
  clear hr hcl
  go_enter Try.func85, Try.ntmps85
  go_wp2_with fail
  refine H.out.mono ?_
  rintro e w' ⟨rfl, rfl⟩
  go_wp2_with fail
  go_ret
  refine ⟨?_, rfl⟩
  rw [← fidx_any]
  rfl

set_option maxHeartbeats 1000000 in
theorem any_84 (P : Nat → Prop) (ao : Option Addr) (n cap : Nat) (us : List Value) (m : List (List UInt8)) (c0 : Value) (q : Nat → Bool) (w : World) (hr : Mv P w ao n us m) (hn : n ≤ 9223372036854775807)
    (hcl : ∀ (i : Nat) (u : Value), us[i]? = some u → Calls Try.prog 84 #[u, c0] w fun e w' => e = .returned (.bool (q i)) ∧ w = w') :
    Calls Try.prog 83 #[.slice ao n cap, .func (.func 84) #[] #[c0]] w fun e w' => e = .returned (.bool ((List.range n).any q)) ∧ w = w' := by
  have H := Lib.hid (idx_84 P ao n cap us m c0 q w hr hn hcl)
  clear hr hcl
  go_enter Try.func83, Try.ntmps83
  go_wp2_with fail
  refine H.out.mono ?_
  rintro e w' ⟨rfl, rfl⟩
  go_wp2_with fail
  go_ret
  refine ⟨?_, rfl⟩
  rw [← fidx_any]
  rfl

set_option maxHeartbeats 1000000 in
theorem any_98 (P : Nat → Prop) (ao : Option Addr) (n cap : Nat) (us : List Value) (m : List (List UInt8)) (q : Nat → Bool) (w : World) (hr : Mv P w ao n us m) (hn : n ≤ 9223372036854775807)
    (hcl : ∀ (i : Nat) (u : Value), us[i]? = some u → Calls Try.prog 98 #[u] w fun e w' => e = .returned (.bool (q i)) ∧ w = w') :
    Calls Try.prog 83 #[.slice ao n cap, .func (.func 98) #[] #[]] w fun e w' => e = .returned (.bool ((List.range n).any q)) ∧ w = w' := by
  have H := Lib.hid (idx_98 P ao n cap us m q w hr hn hcl)
  clear hr hcl
  go_enter Try.func83, Try.ntmps83
  go_wp2_with fail
  refine H.out.mono ?_
  rintro e w' ⟨rfl, rfl⟩
  go_wp2_with fail
  go_ret
  refine ⟨?_, rfl⟩
  rw [← fidx_any]
  rfl

set_option maxHeartbeats 1000000 in
theorem any_105 (P : Nat → Prop) (ao : Option Addr) (n cap : Nat) (us : List Value) (m : List (List UInt8)) (c0 : Value) (q : Nat → Bool) (w : World) (hr : Mv P w ao n us m) (hn : n ≤ 9223372036854775807)
    (hcl : ∀ (i : Nat) (u : Value), us[i]? = some u → Calls Try.prog 105 #[u, c0] w fun e w' => e = .returned (.bool (q i)) ∧ w = w') :
    Calls Try.prog 83 #[.slice ao n cap, .func (.func 105) #[] #[c0]] w fun e w' => e = .returned (.bool ((List.range n).any q)) ∧ w = w' := by
  have H := Lib.hid (idx_105 P ao n cap us m c0 q w hr hn hcl)
  clear hr hcl
  go_enter Try.func83, Try.ntmps83
  go_wp2_with fail
  refine H.out.mono ?_
  rintro e w' ⟨rfl, rfl⟩
  go_wp2_with fail
  go_ret
  refine ⟨?_, rfl⟩
  rw [← fidx_any]
  rfl

end Go.Proofs.Ytegecjilpmkamaa
