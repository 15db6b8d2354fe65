/-
  The walk of the function that gf's Once is handed: the tables are laid.
-/
import Derived.Test.YtegecjilpmkamaaNew
import Derived.BigRegion
namespace Go.Proofs.Ytegecjilpmkamaa
open Go.RowKit Sb

/-- The Field's cells behind n rounds. -/
def rounds (cs : Array Value) : Nat → Array Value
  | 0 => cs
  | n + 1 => (((rounds cs n).setIfInBounds (3 + n) (.int .u8 (powN n))).setIfInBounds (3 + (n + 255)) (.int .u8 (powN n))).setIfInBounds (513 + powN n) (.int .i64 n)

theorem rounds_size (cs : Array Value) (n : Nat) : (rounds cs n).size = cs.size := by
  induction n with
  | zero => rfl
  | succ n ih => simp [rounds, ih]

/-- All rounds, and the logarithm of 0. -/
def tabled (cs : Array Value) : Array Value := (rounds cs 255).setIfInBounds 513 (.int .i64 (-1))

theorem some_of_lt {cs : Array Value} {i : Nat} (h : i < cs.size) : ∃ v, cs[i]? = some v := ⟨cs[i], by simp [h]⟩

theorem xor_i64 (a b : Nat) (ha : a < 9223372036854775808) (hb : b < 9223372036854775808) : bits .xor .i64 (a : Int) (b : Int) = ((a ^^^ b : Nat) : Int) := by
  have hx : a ^^^ b < 2 ^ 63 := Nat.xor_lt_two_pow (by omega) (by omega)
  have h1 : (BitVec.ofInt 64 (a : Int)).toNat = a := by
    rw [BitVec.ofInt_natCast, BitVec.toNat_ofNat]; exact Nat.mod_eq_of_lt (by omega)
  have h2 : (BitVec.ofInt 64 (b : Int)).toNat = b := by
    rw [BitVec.ofInt_natCast, BitVec.toNat_ofNat]; exact Nat.mod_eq_of_lt (by omega)
  show IntKind.i64.wrap ((BitVec.ofInt 64 (a : Int) ^^^ BitVec.ofInt 64 (b : Int)).toNat : Int) = _
  rw [BitVec.toNat_xor, h1, h2, IntKind.wrap_i64]
  omega

theorem pow_small {k : Nat} (h : (powN k : Int) * 2 < 256) : (powN k : Int) * 2 = (powN (k + 1) : Nat) := by
  show _ = ((stepN (powN k) : Nat) : Int)
  unfold stepN
  rw [if_pos (by omega)]
  omega

theorem pow_large {k : Nat} (h : 256 ≤ (powN k : Int) * 2) : bits BinOp.xor IntKind.i64 ((powN k : Int) * 2) 285 = (powN (k + 1) : Nat) := by
  show _ = ((stepN (powN k) : Nat) : Int)
  have := powN_lt k
  rw [show (powN k : Int) * 2 = ((2 * powN k : Nat) : Int) by omega, show (285 : Int) = ((285 : Nat) : Int) from rfl, xor_i64 _ _ (by omega) (by omega)]
  unfold stepN
  rw [if_neg (by omega)]

set_option maxRecDepth 100000 in
set_option maxHeartbeats 1000000 in
theorem tab_any (fb vb : Nat) (cs : Array Value) (w : World) (hb : Blk w fb 102 cs) (hs : cs.size = 769) (hv : w.cell? ⟨vb, 0, none⟩ = some (.pointer (some ⟨fb, 0, none⟩))) (hne : vb ≠ fb) :
    Calls Try.prog 101 #[.pointer (some ⟨vb, 0, none⟩)] w fun e w' => e = .returned (.tuple #[]) ∧ Blk w' fb 102 (tabled cs) ∧ Keep (· = fb) w w' := by
  go_enter Try.func101, Try.ntmps101
  go_wp2
  go_loopw [1, 3] (fun x i wr => ∃ k : Nat, k ≤ 255 ∧ i = .int .i64 k ∧ x = .int .i64 (powN k) ∧ Blk wr fb 102 (rounds cs k) ∧ Keep (· = fb) w wr) (fun _ i _ => 255 - (intOf i).toNat)
  case atStart => exact ⟨0, by omega, rfl, rfl, hb, Keep.refl _ _⟩
  case round =>
    obtain ⟨k, hk, rfl, rfl, hbr, hkr⟩ := hrel
    have hx := powN_lt k
    have hvr : wr.cell? ⟨vb, 0, none⟩ = some (.pointer (some ⟨fb, 0, none⟩)) := (hkr.cell (World.block_lt_of_cell? w _ hv) hne).trans hv
    by_cases hlt : k < 255
    · have h1 : 0 ≤ (k : Int) := by omega
      have h2 : 0 ≤ (powN k : Int) := by omega
      have h3 : (powN k : Int) < 256 := by omega
      obtain ⟨u1, hu1⟩ := some_of_lt (cs := rounds cs k) (i := 3 + k) (by rw [rounds_size, hs]; omega)
      obtain ⟨u2, hu2⟩ := some_of_lt (cs := rounds cs k) (i := 3 + (k + 255)) (by rw [rounds_size, hs]; omega)
      obtain ⟨u3, hu3⟩ := some_of_lt (cs := rounds cs k) (i := 513 + powN k) (by rw [rounds_size, hs]; omega)
      have c1 : wr.cell? ⟨fb, 3 + k, none⟩ = some u1 := (hbr.cell _).trans hu1
      have c2 : wr.cell? ⟨fb, 3 + (k + 255), none⟩ = some u2 := (hbr.cell _).trans hu2
      have c3 : wr.cell? ⟨fb, 513 + powN k, none⟩ = some u3 := (hbr.cell _).trans hu3
      have f1 : wr.frozen? ⟨fb, 3 + k, none⟩ = false := hbr.frozen _
      have f2 : wr.frozen? ⟨fb, 3 + (k + 255), none⟩ = false := hbr.frozen _
      have f3 : wr.frozen? ⟨fb, 513 + powN k, none⟩ = false := hbr.frozen _
      have H1 := Lib.hid hbr
      have H2 := Lib.hid hkr
      have H3 := Lib.hid hs
      clear hbr hkr hb hs hu1 hu2 hu3
      go_wp2_with fail
      go_region
      go_wp2_with fail
      all_goals
        go_roundw
        case rel =>
          refine ⟨k + 1, by omega, by go_num, ?_, ?_, ?_⟩
          · first | rw [pow_small (by assumption)] | rw [pow_large (by assumption)]
          · exact ((((H1.out.set_ _ _).set_ _ _).drew).set_ _ _)
          · exact (((H2.out.setCell (fun _ => rfl) _).setCell (fun _ => rfl) _).drew).setCell (fun _ => rfl) _
        case measure => simp [intOf]; omega
    · obtain rfl : k = 255 := by omega
      obtain ⟨u3, hu3⟩ := some_of_lt (cs := rounds cs 255) (i := 513) (by rw [rounds_size, hs]; omega)
      have c3 : wr.cell? ⟨fb, 513, none⟩ = some u3 := (hbr.cell _).trans hu3
      have f3 : wr.frozen? ⟨fb, 513, none⟩ = false := hbr.frozen _
      have H1 := Lib.hid hbr
      have H2 := Lib.hid hkr
      clear hbr hkr hb hs hu3
      go_wp2_with fail
      go_end0
      exact ⟨rfl, H1.out.set_ _ _, H2.out.setCell (fun _ => rfl) _⟩
end Go.Proofs.Ytegecjilpmkamaa
