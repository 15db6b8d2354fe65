/-
  The walk of the law's own play 'one' of layer 4: it answers true.
-/
import Derived.Test.YtegecjilpmkamaaRefp
namespace Go.Proofs.Ytegecjilpmkamaa
open Go.RowKit Sb

set_option maxHeartbeats 400000 in
theorem mul_nil (a b : UInt8) (w : World) :
    Calls Try.prog 22 #[.pointer none, bv a, bv b] w fun e w' => e = .returned (bv (gmul a b)) ∧ Keep (fun _ => False) w w' := by
  go_enter Try.func22, Try.ntmps22
  go_wp2_with fail
  refine (made_nil w).mono ?_
  rintro e w1 ⟨g, rfl, hb, hg, hk⟩
  go_wp2_with fail
  refine (times_any g a b w1 hb).mono ?_
  rintro e w2 ⟨rfl, n, rfl⟩
  go_wp2_with fail
  go_ret
  exact ⟨rfl, hk.drewN n⟩

theorem field_new (w : World) : FieldAt (w.alloc (.cells Try.zeroCells102 102)) w.heap.size := by
  rw [fresh_eq]
  exact .inl (Blk.new w 102 fresh)

theorem one_mul (fb : Nat) (w : World) (hf : FieldAt w fb) : Calls Try.prog 22 #[.pointer (some ⟨fb, 0, none⟩), .int .u8 128, .int .u8 2] w fun e w' => e = .returned (.int .u8 29) ∧ Fp fb w w' := by
  have h := mul_any fb 128 2 w hf
  have e : gmul 128 2 = 29 := by decide +kernel
  rw [e] at h
  exact h

theorem one_inv (fb : Nat) (w : World) (hf : FieldAt w fb) : Calls Try.prog 27 #[.pointer (some ⟨fb, 0, none⟩), .int .u8 2] w fun e w' => e = .returned (.int .u8 142) ∧ Fq fb w w' := by
  have h := inv_any fb 2 w hf
  have e : ginv 2 = 142 := by decide +kernel
  rw [e] at h
  exact h

theorem one_nil (w : World) : Calls Try.prog 22 #[.pointer none, .int .u8 3, .int .u8 7] w fun e w' => e = .returned (.int .u8 9) ∧ Keep (fun _ => False) w w' := by
  have h := mul_nil 3 7 w
  have e : gmul 3 7 = 9 := by decide +kernel
  rw [e] at h
  exact h

theorem one_log (fb : Nat) (w : World) (hf : FieldAt w fb) : Calls Try.prog 28 #[.pointer (some ⟨fb, 0, none⟩), .int .u8 1] w fun e w' => e = .returned (.int .i64 0) ∧ Fp fb w w' := by
  have h := log_any fb 1 w hf
  have e : logV (1 : UInt8).toNat = 0 := by decide +kernel
  rw [e] at h
  exact h

theorem one_exp (fb : Nat) (w : World) (hf : FieldAt w fb) : Calls Try.prog 31 #[.pointer (some ⟨fb, 0, none⟩), .int .i64 8] w fun e w' => e = .returned (.int .u8 29) ∧ Fp fb w w' := by
  have h := exp_any fb 8 w hf
  have e : gexpI 8 = 29 := by decide +kernel
  rw [e] at h
  exact h

set_option maxRecDepth 100000 in
set_option maxHeartbeats 1000000 in
theorem one4_any (w : World) : Calls Try.prog 30 #[] w fun e w' => e = .returned (.bool true) ∧ Keep (fun _ => False) w w' := by
  go_enter Try.func30, Try.ntmps30
  go_wp2_with fail
  refine (new_any w).mono ?_
  rintro e w1 ⟨rfl, rfl⟩
  have hf := field_new w
  have hk0 : Keep (fun _ => False) w (w.alloc (.cells Try.zeroCells102 102)) := (Keep.refl _ _).alloc _
  generalize w.alloc (.cells Try.zeroCells102 102) = w1 at *
  go_wp2_with fail
  refine (one_mul w.heap.size _ hf).mono ?_
  rintro e w2 ⟨rfl, hp⟩
  have hk1 := hk0.trans' hp.keep (fun i hi h => by omega)
  clear hk0 hf
  go_wp2_with fail
  refine (one_inv w.heap.size _ hp.field).mono ?_
  rintro e w3 ⟨rfl, hq⟩
  have hk2 := hk1.trans' hq.keep (fun i hi h => by omega)
  clear hk1 hp
  go_wp2_with fail
  refine (one_nil _).mono ?_
  rintro e w4 ⟨rfl, hq4⟩
  have hk3 := hk2.trans' hq4 (fun i hi h => h)
  have hf4 : FieldAt w4 w.heap.size := hq.at_.elim (fun h => .inl (h.keep hq4 id)) (fun h => .inr (h.keep hq4 id))
  clear hk2 hq hq4
  go_wp2_with fail
  have hf5 := field_new w4
  have hk4 : Keep (fun _ => False) w (w4.alloc (.cells Try.zeroCells102 102)) := hk3.alloc _
  have hf6 : FieldAt (w4.alloc (.cells Try.zeroCells102 102)) w.heap.size := hf4.elim (fun h => .inl (h.alloc _)) (fun h => .inr (h.alloc _))
  have hne : w.heap.size ≠ w4.heap.size := by have := hf4.lt; omega
  have hs4 : w.heap.size ≤ w4.heap.size := hk3.size
  clear hk3 hf4
  generalize w4.alloc (.cells Try.zeroCells102 102) = w5 at *
  refine (one_log w4.heap.size _ hf5).mono ?_
  rintro e w6 ⟨rfl, hp6⟩
  have hk5 := hk4.trans' hp6.keep (fun i hi h => by omega)
  have hf7 : FieldAt w6 w.heap.size := hf6.elim (fun h => .inl (h.keep hp6.keep hne)) (fun h => .inr (h.keep hp6.keep hne))
  clear hk4 hf6
  go_wp2_with fail
  refine (one_exp w.heap.size _ hf7).mono ?_
  rintro e w7 ⟨rfl, hp7⟩
  have hk6 := hk5.trans' hp7.keep (fun i hi h => by omega)
  go_wp2_with fail
  go_ret
  exact ⟨rfl, hk6⟩
end Go.Proofs.Ytegecjilpmkamaa
