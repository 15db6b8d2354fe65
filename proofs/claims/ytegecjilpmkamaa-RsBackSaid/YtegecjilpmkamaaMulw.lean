/-
  The walks of gf's operations on single numbers.
-/
import Derived.Test.YtegecjilpmkamaaMade
import Derived.Deep.QuietTactic
import Derived.BigQuiet
namespace Go.Proofs.Ytegecjilpmkamaa
open Go.RowKit Sb

theorem beq0 {a : UInt8} (h : a = 0) : ((a.toNat : Int) == 0) = true := by rw [h]; rfl
theorem bne0 {a : UInt8} (h : a ≠ 0) : ((a.toNat : Int) == 0) = false := by
  have := ne_zero h
  rw [beq_eq_false_iff_ne]
  omega

theorem full_logne {w : World} {fb : Nat} (hf : Blk w fb 102 full) {a : UInt8} (h : a ≠ 0) : w.cell? ⟨fb, 513 + a.toNat, none⟩ = some (.int .i64 (glog a : Nat)) := by
  rw [hf.cell, full_log a.toNat_lt, logV, if_neg (ne_zero h)]
  rfl

theorem full_expc {w : World} {fb : Nat} (hf : Blk w fb 102 full) {n : Nat} (h : n < 510) : w.cell? ⟨fb, 3 + n, none⟩ = some (bv (gexp n)) := by
  rw [hf.cell, full_exp h]
  show _ = some (Value.int .u8 ((gexp n).toNat : Int))
  rw [toNat_gexp]

set_option maxRecDepth 100000 in
set_option maxHeartbeats 400000 in
theorem times_zero (p : Value) (a b : UInt8) (w : World) (h : a = 0 ∨ b = 0) :
    Calls Try.prog 73 #[p, bv a, bv b] w fun e w' => e = .returned (bv 0) ∧ w = w' := by
  by_cases ha : a = 0
  · have h1 := beq0 ha
    clear h ha
    go_enter Try.func73, Try.ntmps73
    go_wp2
    go_ret
    exact ⟨rfl, rfl⟩
  · have hb := h.resolve_left ha
    have h1 := bne0 ha
    have h2 := beq0 hb
    clear h ha hb
    go_enter Try.func73, Try.ntmps73
    go_wp2
    go_ret
    exact ⟨rfl, rfl⟩

set_option maxRecDepth 100000 in
set_option maxHeartbeats 400000 in
theorem times_ne (fb : Nat) (a b : UInt8) (w : World) (hf : Blk w fb 102 full) (ha : a ≠ 0) (hb : b ≠ 0) :
    Calls Try.prog 73 #[.pointer (some ⟨fb, 0, none⟩), bv a, bv b] w fun e w' => e = .returned (bv (gmul a b)) ∧ ∃ n, w' = w.drewN n := by
  have h1 := bne0 ha
  have h2 := bne0 hb
  have h3 := glog_le ha
  have h4 := glog_le hb
  have c1 := full_logne hf ha
  have c2 := full_logne hf hb
  have c3 := full_expc hf (n := glog a + glog b) (by omega)
  have H := Lib.hid (gmul_eq ha hb)
  have l1 := a.toNat_lt
  have l2 := b.toNat_lt
  have i1 : (a.toNat : Int) < 256 := by omega
  have i2 : (b.toNat : Int) < 256 := by omega
  have i3 : 0 ≤ (glog a : Int) + (glog b : Int) := by omega
  have i4 : (glog a : Int) + (glog b : Int) < 510 := by omega
  have i5 : IntKind.i64.wrap ((glog a : Int) + (glog b : Int)) = (glog a : Int) + (glog b : Int) := IntWalk.i64_in _ (by omega)
  have i6 : ((glog a : Int) + (glog b : Int)).toNat = glog a + glog b := by omega
  clear ha hb hf
  go_enter Try.func73, Try.ntmps73
  go_wp2_with fail
  go_quiet (fail)
  go_wp2
  go_ret
  exact ⟨by rw [H.out]; rfl, _, rfl⟩

theorem times_any (fb : Nat) (a b : UInt8) (w : World) (hf : Blk w fb 102 full) :
    Calls Try.prog 73 #[.pointer (some ⟨fb, 0, none⟩), bv a, bv b] w fun e w' => e = .returned (bv (gmul a b)) ∧ ∃ n, w' = w.drewN n := by
  by_cases ha : a = 0
  · refine (times_zero _ a b w (.inl ha)).mono ?_
    rintro e w' ⟨rfl, rfl⟩
    exact ⟨by rw [ha, zero_gmul], 0, rfl⟩
  · by_cases hb : b = 0
    · refine (times_zero _ a b w (.inr hb)).mono ?_
      rintro e w' ⟨rfl, rfl⟩
      exact ⟨by rw [hb, gmul_zero], 0, rfl⟩
    · exact times_ne fb a b w hf ha hb

/-- What a method of a Field does to memory: the Field has its tables, and nothing else that was there has turned. -/
structure Fp (fb : Nat) (w w' : World) : Prop where
  at_ : Blk w' fb 102 full
  keep : Keep (· = fb) w w'

theorem Fp.drewN {fb : Nat} {w w' : World} (h : Fp fb w w') (n : Nat) : Fp fb w (w'.drewN n) := ⟨h.at_.drewN n, h.keep.drewN n⟩
theorem Fp.trans {fb : Nat} {w w' w2 : World} (h : Fp fb w w') (k : Fp fb w' w2) : Fp fb w w2 := ⟨k.at_, h.keep.trans k.keep⟩
theorem Fp.field {fb : Nat} {w w' : World} (h : Fp fb w w') : FieldAt w' fb := .inr h.at_

theorem made_fp (fb : Nat) (w : World) (hf : FieldAt w fb) :
    Calls Try.prog 72 #[.pointer (some ⟨fb, 0, none⟩)] w fun e w' => e = .returned (.pointer (some ⟨fb, 0, none⟩)) ∧ Fp fb w w' :=
  (made_any fb w hf).mono fun _ _ ⟨h1, h2, h3⟩ => ⟨h1, h2, h3⟩

set_option maxHeartbeats 400000 in
theorem mul_any (fb : Nat) (a b : UInt8) (w : World) (hf : FieldAt w fb) :
    Calls Try.prog 22 #[.pointer (some ⟨fb, 0, none⟩), bv a, bv b] w fun e w' => e = .returned (bv (gmul a b)) ∧ Fp fb w w' := by
  go_enter Try.func22, Try.ntmps22
  go_wp2_with fail
  refine (made_fp fb w hf).mono ?_
  rintro e w1 ⟨rfl, hp⟩
  go_wp2_with fail
  refine (times_any fb a b w1 hp.at_).mono ?_
  rintro e w2 ⟨rfl, n, rfl⟩
  go_wp2_with fail
  go_ret
  exact ⟨rfl, hp.drewN n⟩

theorem bits_xor_u8 (a b : UInt8) : bits .xor .u8 (a.toNat : Int) (b.toNat : Int) = ((a ^^^ b).toNat : Int) := by
  have h1 : (BitVec.ofInt 8 (a.toNat : Int)).toNat = a.toNat := by
    rw [BitVec.ofInt_natCast, BitVec.toNat_ofNat]; exact Nat.mod_eq_of_lt a.toNat_lt
  have h2 : (BitVec.ofInt 8 (b.toNat : Int)).toNat = b.toNat := by
    rw [BitVec.ofInt_natCast, BitVec.toNat_ofNat]; exact Nat.mod_eq_of_lt b.toNat_lt
  show IntKind.u8.wrap ((BitVec.ofInt 8 (a.toNat : Int) ^^^ BitVec.ofInt 8 (b.toNat : Int)).toNat : Int) = _
  rw [BitVec.toNat_xor, h1, h2, ← UInt8.toNat_xor]
  have := (a ^^^ b).toNat_lt
  simp only [IntKind.wrap, IntKind.bits, IntKind.signed, Bool.false_and, Bool.false_eq_true, if_false]
  omega

theorem add_any (p : Value) (a b : UInt8) (w : World) :
    Calls Try.prog 24 #[p, bv a, bv b] w fun e w' => e = .returned (bv (a ^^^ b)) ∧ w = w' := by
  go_enter Try.func24, Try.ntmps24
  go_wp2
  go_ret
  exact ⟨congrArg (fun x => Ending.returned (Value.int .u8 x)) (bits_xor_u8 a b), rfl⟩

set_option maxRecDepth 100000 in
set_option maxHeartbeats 400000 in
theorem inv_zero (p : Value) (w : World) :
    Calls Try.prog 27 #[p, bv 0] w fun e w' => e = .returned (bv 0) ∧ w = w' := by
  have h1 := beq0 (a := 0) rfl
  go_enter Try.func27, Try.ntmps27
  go_wp2
  go_ret
  exact ⟨rfl, rfl⟩

set_option maxRecDepth 100000 in
set_option maxHeartbeats 400000 in
theorem inv_ne (fb : Nat) (a : UInt8) (w : World) (hf : FieldAt w fb) (ha : a ≠ 0) :
    Calls Try.prog 27 #[.pointer (some ⟨fb, 0, none⟩), bv a] w fun e w' => e = .returned (bv (ginv a)) ∧ Fp fb w w' := by
  have h1 := bne0 ha
  have h3 := glog_le ha
  have hi : ginv a = gexp (255 - glog a) := by unfold ginv; rw [if_neg ha]
  have H := Lib.hid hi
  clear hi
  go_enter Try.func27, Try.ntmps27
  go_wp2_with fail
  refine (made_fp fb w hf).mono ?_
  rintro e w1 ⟨rfl, hp⟩
  have c1 := full_logne hp.at_ ha
  have c3 := full_expc hp.at_ (n := 255 - glog a) (by omega)
  have l1 := a.toNat_lt
  have i1 : (a.toNat : Int) < 256 := by omega
  have i3 : 0 ≤ (255 : Int) - (glog a : Int) := by omega
  have i4 : (255 : Int) - (glog a : Int) < 510 := by omega
  have i5 : IntKind.i64.wrap ((255 : Int) - (glog a : Int)) = (255 : Int) - (glog a : Int) := IntWalk.i64_in _ (by omega)
  have i6 : ((255 : Int) - (glog a : Int)).toNat = 255 - glog a := by omega
  clear ha
  go_wp2_with fail
  go_quiet (fail)
  go_wp2
  go_ret
  exact ⟨by rw [H.out]; rfl, hp.drewN _⟩

/-- What a method of a Field may do to memory: the Field is right, with its tables if it had them; nothing else that was there has turned. -/
structure Fq (fb : Nat) (w w' : World) : Prop where
  at_ : FieldAt w' fb
  up : Blk w fb 102 full → Blk w' fb 102 full
  keep : Keep (· = fb) w w'

theorem Fp.q {fb : Nat} {w w' : World} (h : Fp fb w w') : Fq fb w w' := ⟨h.field, fun _ => h.at_, h.keep⟩
theorem Fq.refl {fb : Nat} {w : World} (h : FieldAt w fb) : Fq fb w w := ⟨h, id, Keep.refl _ _⟩
theorem Fq.trans {fb : Nat} {w w' w2 : World} (h : Fq fb w w') (k : Fq fb w' w2) : Fq fb w w2 := ⟨k.at_, fun x => k.up (h.up x), h.keep.trans k.keep⟩
theorem Fq.drewN {fb : Nat} {w w' : World} (h : Fq fb w w') (n : Nat) : Fq fb w (w'.drewN n) := ⟨h.at_, h.up, h.keep.drewN n⟩
theorem Fq.p {fb : Nat} {w w' : World} (h : Fq fb w w') (hf : Blk w fb 102 full) : Fp fb w w' := ⟨h.up hf, h.keep⟩

theorem inv_any (fb : Nat) (a : UInt8) (w : World) (hf : FieldAt w fb) :
    Calls Try.prog 27 #[.pointer (some ⟨fb, 0, none⟩), bv a] w fun e w' => e = .returned (bv (ginv a)) ∧ Fq fb w w' := by
  by_cases ha : a = 0
  · subst ha
    refine (inv_zero _ w).mono ?_
    rintro e w' ⟨rfl, rfl⟩
    exact ⟨by rw [ginv_zero], Fq.refl hf⟩
  · refine (inv_ne fb a w hf ha).mono ?_
    rintro e w' ⟨rfl, hp⟩
    exact ⟨rfl, hp.q⟩

set_option maxHeartbeats 400000 in
theorem div_any (fb : Nat) (a b : UInt8) (w : World) (hf : FieldAt w fb) :
    Calls Try.prog 25 #[.pointer (some ⟨fb, 0, none⟩), bv a, bv b] w fun e w' => e = .returned (bv (gmul a (ginv b))) ∧ Fp fb w w' := by
  go_enter Try.func25, Try.ntmps25
  go_wp2_with fail
  refine (made_fp fb w hf).mono ?_
  rintro e w1 ⟨rfl, hp⟩
  go_wp2_with fail
  refine (inv_any fb b w1 hp.field).mono ?_
  rintro e w2 ⟨rfl, hq⟩
  have hb2 := (hq.p hp.at_)
  go_wp2_with fail
  refine (times_any fb a (ginv b) w2 hb2.at_).mono ?_
  rintro e w3 ⟨rfl, n, rfl⟩
  go_wp2_with fail
  go_ret
  exact ⟨rfl, (hp.trans hb2).drewN n⟩

set_option maxRecDepth 100000 in
set_option maxHeartbeats 400000 in
theorem log_any (fb : Nat) (a : UInt8) (w : World) (hf : FieldAt w fb) :
    Calls Try.prog 28 #[.pointer (some ⟨fb, 0, none⟩), bv a] w fun e w' => e = .returned (.int .i64 (logV a.toNat)) ∧ Fp fb w w' := by
  have l1 := a.toNat_lt
  have i1 : (a.toNat : Int) < 256 := by omega
  go_enter Try.func28, Try.ntmps28
  go_wp2_with fail
  refine (made_fp fb w hf).mono ?_
  rintro e w1 ⟨rfl, hp⟩
  have c1 : w1.cell? ⟨fb, 513 + a.toNat, none⟩ = some (.int .i64 (logV a.toNat)) := (hp.at_.cell _).trans (full_log a.toNat_lt)
  go_wp2_with fail
  go_ret
  exact ⟨rfl, hp⟩

/-- A power of 2 whose exponent may be any number. -/
def gexpI (n : Int) : UInt8 := gexp (n % 255).toNat

theorem tmod255 (n : Int) : n.tmod 255 % 255 = n % 255 ∧ -254 ≤ n.tmod 255 ∧ n.tmod 255 ≤ 254 := by
  rcases Int.le_total 0 n with h | h
  · rw [Int.tmod_eq_emod_of_nonneg h]
    omega
  · have e : n.tmod 255 = -((-n) % 255) := by
      rw [← Int.tmod_eq_emod_of_nonneg (by omega), Int.neg_tmod]
      omega
    rw [e]
    omega

set_option maxRecDepth 100000 in
set_option maxHeartbeats 400000 in
theorem exp_any (fb : Nat) (n : Int) (w : World) (hf : FieldAt w fb) :
    Calls Try.prog 31 #[.pointer (some ⟨fb, 0, none⟩), .int .i64 n] w fun e w' => e = .returned (bv (gexpI n)) ∧ Fp fb w w' := by
  go_enter Try.func31, Try.ntmps31
  go_wp2_with fail
  refine (made_fp fb w hf).mono ?_
  rintro e w1 ⟨rfl, hp⟩
  obtain ⟨e1, e2, e3⟩ := tmod255 n
  have c1 := full_expc hp.at_ (n := (n.tmod 255 % 255).toNat) (by omega)
  have HE := Lib.hid e1
  clear e1
  go_wp2_with fail
  go_ret
  exact ⟨by unfold gexpI; rw [← HE.out]; rfl, hp⟩

theorem mul_bd (g : Nat) (t : Int) (hg : g ≤ 254) (h1 : -254 ≤ t) (h2 : t ≤ 254) : -64516 ≤ (g : Int) * t ∧ (g : Int) * t ≤ 64516 := by
  have g0 : (0 : Int) ≤ (g : Int) := by omega
  have a := Int.mul_le_mul_of_nonneg_left h2 g0
  have b := Int.mul_le_mul_of_nonneg_left h1 g0
  omega

theorem gexpI_congr {m n : Int} (h : m % 255 = n % 255) : gexpI m = gexpI n := by unfold gexpI; rw [h]
theorem gexpI_nat (n : Nat) : gexpI n = gexp n := by
  unfold gexpI
  exact gexp_congr (by omega)

/-- A power whose exponent may be any number. -/
def gpowI (a : UInt8) (n : Int) : UInt8 := if n = 0 then 1 else if a = 0 then 0 else gexpI (glog a * n)

set_option maxRecDepth 100000 in
set_option maxHeartbeats 400000 in
theorem power_any (fb : Nat) (a : UInt8) (n : Int) (w : World) (hf : FieldAt w fb) :
    Calls Try.prog 32 #[.pointer (some ⟨fb, 0, none⟩), bv a, .int .i64 n] w fun e w' => e = .returned (bv (gpowI a n)) ∧ Fp fb w w' := by
  by_cases hn : n = 0
  · subst hn
    go_enter Try.func32, Try.ntmps32
    go_wp2_with fail
    refine (made_fp fb w hf).mono ?_
    rintro e w1 ⟨rfl, hp⟩
    go_wp2_with fail
    go_ret
    exact ⟨by simp [gpowI], hp⟩
  · have h0 : (n == 0) = false := by rw [beq_eq_false_iff_ne]; exact hn
    by_cases ha : a = 0
    · have h1 := beq0 ha
      have HN := Lib.hid hn
      clear hn
      go_enter Try.func32, Try.ntmps32
      go_wp2_with fail
      refine (made_fp fb w hf).mono ?_
      rintro e w1 ⟨rfl, hp⟩
      go_wp2_with fail
      go_ret
      exact ⟨by unfold gpowI; rw [if_neg HN.out, if_pos ha]; rfl, hp⟩
    · have h1 := bne0 ha
      have h3 := glog_le ha
      obtain ⟨_, e2, e3⟩ := tmod255 n
      obtain ⟨b1, b2⟩ := mul_bd (glog a) (n.tmod 255) h3 e2 e3
      have l1 := a.toNat_lt
      have i1 : (a.toNat : Int) < 256 := by omega
      have HN := Lib.hid hn
      have HA := Lib.hid ha
      clear hn ha
      go_enter Try.func32, Try.ntmps32
      go_wp2_with fail
      refine (made_fp fb w hf).mono ?_
      rintro e w1 ⟨rfl, hp⟩
      have c1 := full_logne hp.at_ HA.out
      go_wp2_with fail
      refine (exp_any fb _ w1 hp.field).mono ?_
      rintro e w2 ⟨rfl, hp2⟩
      go_wp2_with fail
      go_ret
      refine ⟨?_, hp.trans hp2⟩
      unfold gpowI
      rw [if_neg HN.out, if_neg HA.out]
      have e0 : n.tmod 255 % 255 = n % 255 := (tmod255 n).1
      have e1 : (glog a * n.tmod 255 : Int) % 255 = (glog a * n) % 255 := by rw [Int.mul_emod, e0, ← Int.mul_emod]
      show Ending.returned (bv (gexpI (glog a * n.tmod 255))) = _
      rw [gexpI_congr e1]
end Go.Proofs.Ytegecjilpmkamaa
