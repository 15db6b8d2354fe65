/-
  The walks of mat's One and Cauchy.
-/
import Derived.Test.YtegecjilpmkamaaFilled
import Derived.Deep.RegionHeld3
namespace Go.Proofs.Ytegecjilpmkamaa
open Go.RowKit Sb

theorem closure77 (i j : Nat) (w : World) : Calls Try.prog 77 #[.int .i64 i, .int .i64 j] w fun e w' => e = .returned (bv (if i = j then 1 else 0)) ∧ w = w' := by
  by_cases h : i = j
  · have hb : ((i : Int) == (j : Int)) = true := by rw [beq_iff_eq]; omega
    go_enter Try.func77, Try.ntmps77
    go_wp2
    go_ret
    exact ⟨rfl, rfl⟩
  · have hb : ((i : Int) == (j : Int)) = false := by rw [beq_eq_false_iff_ne]; omega
    go_enter Try.func77, Try.ntmps77
    go_wp2
    go_ret
    exact ⟨rfl, rfl⟩

/-- The rows of the matrix that changes nothing. -/
def oneRow (n i : Nat) : List UInt8 := (List.range n).map (fun j => if i = j then 1 else 0)
def oneM (n : Nat) : List (List UInt8) := (List.range n).map (oneRow n)

set_option maxHeartbeats 400000 in
theorem one_yes (n : Nat) (w : World) (h1 : 1 ≤ n) (h2 : n ≤ 255) :
    Calls Try.prog 41 #[.int .i64 n] w fun e w' => ∃ g G, e = .returned (.tuple #[.slice (some ⟨g, 0, none⟩) n n, .int .i64 0]) ∧ Fl w.heap.size w' g G n n (oneRow n) ∧ Keep (fun _ => False) w w' := by
  have hn := hnot
  have a1 : (1 : Int) ≤ (n : Int) := by omega
  have a2 : (n : Int) ≤ 255 := by omega
  go_enter Try.func41, Try.ntmps41
  go_wp2_with fail
  refine (within_yes n 255 _ a1 a2).mono ?_
  rintro e w' ⟨rfl, rfl⟩
  go_wp2_with fail
  refine (filled_77 (fun _ => False) (fun _ => True) (fun i j => if i = j then 1 else 0) n n w h2 h2 trivial (fun b h => h.elim) (fun _ _ _ _ _ => trivial) (fun i j w1 _ _ _ _ => (closure77 i j w1).mono fun e w2 ⟨h1, h2⟩ => ⟨h1, trivial, h2 ▸ Keep.refl _ _⟩)).mono ?_
  rintro e w1 ⟨g, G, rfl, hf, _, hk⟩
  go_wp2_with fail
  go_ret2
  exact ⟨g, G, rfl, hf, hk⟩

set_option maxHeartbeats 400000 in
theorem one_no (n : Int) (w : World) (h : ¬ (1 ≤ n ∧ n ≤ 255)) :
    Calls Try.prog 41 #[.int .i64 n] w fun e w' => e = .returned (.tuple #[.slice none 0 0, .int .i64 2]) ∧ w = w' := by
  have hn := hnot
  have H := Lib.hid h
  clear h
  go_enter Try.func41, Try.ntmps41
  go_wp2_with fail
  refine (within_no n 255 _ H.out).mono ?_
  rintro e w' ⟨rfl, rfl⟩
  go_wp2_with fail
  go_ret2
  exact ⟨rfl, rfl⟩

theorem add_nums (p : Value) (a b : Nat) (x y : Int) (w : World) (hx : x = a) (hy : y = b) (ha : a < 256) (hb : b < 256) :
    Calls Try.prog 24 #[p, .int .u8 x, .int .u8 y] w fun e w' => e = .returned (bv (UInt8.ofNat a ^^^ UInt8.ofNat b)) ∧ w = w' := by
  have h := add_any p (UInt8.ofNat a) (UInt8.ofNat b) w
  rw [bv_u8 ha, bv_u8 hb] at h
  rw [hx, hy]
  exact h

theorem wrap_u8 {x : Int} (h0 : 0 ≤ x) (h1 : x < 256) : IntKind.u8.wrap x = x := by
  simp only [IntKind.wrap, IntKind.bits, IntKind.signed, Bool.false_and, Bool.false_eq_true, if_false]
  omega

set_option maxRecDepth 100000 in
set_option maxHeartbeats 1000000 in
theorem closure78 (fb b3 b5 c i j : Nat) (w : World) (hf : FieldAt w fb) (h3 : w.cell? ⟨b3, 0, none⟩ = some (.pointer (some ⟨fb, 0, none⟩))) (h5 : w.cell? ⟨b5, 0, none⟩ = some (.int .i64 c)) (n3 : b3 ≠ fb) (n5 : b5 ≠ fb) (hic : i + c < 256) (hj : j < 256) :
    Calls Try.prog 78 #[.int .i64 i, .int .i64 j, .pointer (some ⟨b3, 0, none⟩), .pointer (some ⟨b5, 0, none⟩)] w fun e w' => e = .returned (bv (ginv (UInt8.ofNat (i + c) ^^^ UInt8.ofNat j))) ∧ Fq fb w w' := by
  have a1 : (0 : Int) ≤ (i : Int) + (c : Int) := by omega
  have a2 : (i : Int) + (c : Int) < 256 := by omega
  have a3 : (j : Int) < 256 := by omega
  have a4 : IntKind.i64.wrap ((i : Int) + (c : Int)) = (i : Int) + (c : Int) := IntWalk.i64_in _ (by omega)
  have a5 : IntKind.u8.wrap ((i : Int) + (c : Int)) = (i : Int) + (c : Int) := wrap_u8 a1 a2
  have a6 : IntKind.u8.wrap (j : Int) = (j : Int) := wrap_u8 (by omega) a3
  have HF := Lib.hid hf
  have N3 := Lib.hid n3
  have N5 := Lib.hid n5
  have HI := Lib.hid hic
  have HJ := Lib.hid hj
  have L3 := Lib.hid (World.block_lt_of_cell? w _ h3)
  have L5 := Lib.hid (World.block_lt_of_cell? w _ h5)
  clear hf n3 n5 hic hj
  go_enter Try.func78, Try.ntmps78
  go_wp2_with fail
  go_region_held3 (fun w' => w'.cell? ⟨b3, 0, none⟩ = some (.pointer (some ⟨fb, 0, none⟩)) ∧ w'.cell? ⟨b5, 0, none⟩ = some (.int .i64 c)) (first | exact ⟨by assumption, by assumption⟩ | go_keep)
    (first | (go_at_call 24; refine (add_nums _ (i + c) j _ _ _ ?_ ?_ HI.out HJ.out).mono ?_; (omega); (rfl); rintro e w' ⟨rfl, rfl⟩) | (go_at_call 27; refine (inv_any fb _ _ ?_).mono ?_; (exact HF.out); rintro e w2 ⟨rfl, hq⟩; have k3 := (hq.keep.cell (p := ⟨b3, 0, none⟩) L3.out N3.out).trans h3; have k5 := (hq.keep.cell (p := ⟨b5, 0, none⟩) L5.out N5.out).trans h5))
  all_goals
    have hq' : Fq fb w w2 := ⟨hq.at_, hq.up, hq.keep.os, hq.keep.tape, hq.keep.output, hq.keep.size, hq.keep.block⟩
    clear hq
    go_wp2_with fail
    go_ret
    exact ⟨by rw [UInt8.ofNat_add]; rfl, hq'⟩

/-- The rows of a Cauchy matrix. -/
def cauRow (c i : Nat) : List UInt8 := (List.range c).map (fun j => ginv (UInt8.ofNat (i + c) ^^^ UInt8.ofNat j))
def cauM (n c : Nat) : List (List UInt8) := (List.range n).map (cauRow c)

set_option maxRecDepth 100000 in
set_option maxHeartbeats 1000000 in
theorem cauchy_yes (fb n c : Nat) (w : World) (hf : FieldAt w fb) (h1 : 1 ≤ n) (h2 : 1 ≤ c) (h3 : n + c ≤ 256) :
    Calls Try.prog 42 #[.pointer (some ⟨fb, 0, none⟩), .int .i64 n, .int .i64 c] w fun e w' => ∃ g G, e = .returned (.tuple #[.slice (some ⟨g, 0, none⟩) n n, .int .i64 0]) ∧ Fl w.heap.size w' g G n c (cauRow c) ∧ Fq fb w w' := by
  have hn := hnot
  have hmf := hmf
  have a1 : (1 : Int) ≤ (n : Int) := by omega
  have a2 : (n : Int) ≤ 255 := by omega
  have a3 : (1 : Int) ≤ (c : Int) := by omega
  have a4 : (c : Int) ≤ 255 := by omega
  have a5 : (n : Int) ≤ 256 - (c : Int) := by omega
  have hlt := hf.lt
  have HF := Lib.hid hf
  clear hf
  go_enter Try.func42, Try.ntmps42
  go_wp2_with fail
  refine (within_yes n 255 _ a1 a2).mono ?_
  rintro e w' ⟨rfl, rfl⟩
  go_wp2_with fail
  refine (within_yes c 255 _ a3 a4).mono ?_
  rintro e w' ⟨rfl, rfl⟩
  go_wp2_with fail
  have hw1 : Keep (fun _ => False) w ((w.alloc (.cells #[.pointer (some ⟨fb, 0, none⟩)] 22)).alloc (.cells #[.int .i64 c] 3)) := ((Keep.refl _ w).alloc _).alloc _
  have hc3 : ((w.alloc (.cells #[.pointer (some ⟨fb, 0, none⟩)] 22)).alloc (.cells #[.int .i64 c] 3)).cell? ⟨w.heap.size, 0, none⟩ = some (.pointer (some ⟨fb, 0, none⟩)) :=
    ((Blk.new w 22 #[.pointer (some ⟨fb, 0, none⟩)]).alloc _).cell 0
  have hc5 : ((w.alloc (.cells #[.pointer (some ⟨fb, 0, none⟩)] 22)).alloc (.cells #[.int .i64 c] 3)).cell? ⟨w.heap.size + 1, 0, none⟩ = some (.int .i64 c) := by
    simp
  have hsz : ((w.alloc (.cells #[.pointer (some ⟨fb, 0, none⟩)] 22)).alloc (.cells #[.int .i64 c] 3)).heap.size = w.heap.size + 2 := by simp
  generalize (w.alloc (.cells #[.pointer (some ⟨fb, 0, none⟩)] 22)).alloc (.cells #[.int .i64 c] 3) = w1 at *
  refine (filled_78 (· = fb) (fun w' => FieldAt w' fb ∧ (Blk w fb 102 full → Blk w' fb 102 full) ∧ w'.cell? ⟨w.heap.size, 0, none⟩ = some (.pointer (some ⟨fb, 0, none⟩)) ∧ w'.cell? ⟨w.heap.size + 1, 0, none⟩ = some (.int .i64 c)) (fun i j => ginv (UInt8.ofNat (i + c) ^^^ UInt8.ofNat j)) _ _ n c w1 (by omega) (by omega)
    ⟨HF.out.keep hw1 id, fun h => h.keep hw1 id, hc3, hc5⟩ (fun b h => by omega) (fun wa wb h hk hs => ?_) (fun i j wa hi hj h hs => ?_)).mono ?_
  · obtain ⟨j1, j2, j3, j4⟩ := h
    refine ⟨j1.keep hk (by omega), fun h => (j2 h).keep hk (by omega), (hk.cell (World.block_lt_of_cell? _ _ j3) (by show ¬ w1.heap.size ≤ w.heap.size; omega)).trans j3, (hk.cell (World.block_lt_of_cell? _ _ j4) (by show ¬ w1.heap.size ≤ w.heap.size + 1; omega)).trans j4⟩
  · obtain ⟨j1, j2, j3, j4⟩ := h
    refine (closure78 fb w.heap.size (w.heap.size + 1) c i j wa j1 j3 j4 (by omega) (by omega) (by omega) (by omega)).mono ?_
    rintro e wb ⟨rfl, hq⟩
    exact ⟨rfl, ⟨hq.at_, fun h => hq.up (j2 h), (hq.keep.cell (World.block_lt_of_cell? _ _ j3) (by show ¬ w.heap.size = fb; omega)).trans j3, (hq.keep.cell (World.block_lt_of_cell? _ _ j4) (by show ¬ w.heap.size + 1 = fb; omega)).trans j4⟩, hq.keep⟩
  rintro e w2 ⟨g, G, rfl, hfl, ⟨j1, j2, _, _⟩, hk⟩
  have HFL := Lib.hid hfl
  clear hfl hc3 hc5
  go_wp2_with fail
  go_ret2
  refine ⟨g, G, rfl, ⟨by have := HFL.out.1; omega, ?_⟩, ⟨j1, j2, (hw1.mono (fun _ _ h => h.elim)).trans hk⟩⟩
  obtain ⟨cs, k1, k2, k3, k4⟩ := HFL.out.2
  exact ⟨cs, k1, k2, ⟨fun j hj => by obtain ⟨q1, q2, q3⟩ := k3 j hj; exact ⟨q1, by omega, q3⟩, k4⟩⟩

set_option maxRecDepth 100000 in
set_option maxHeartbeats 1000000 in
theorem cauchy_no (p : Option Addr) (n c : Int) (w : World) (h : ¬ (1 ≤ n ∧ 1 ≤ c ∧ n ≤ 255 ∧ c ≤ 255 ∧ n + c ≤ 256)) :
    Calls Try.prog 42 #[.pointer p, .int .i64 n, .int .i64 c] w fun e w' => e = .returned (.tuple #[.slice none 0 0, .int .i64 2]) ∧ Keep (fun _ => False) w w' := by
  have hn := hnot
  by_cases h1 : 1 ≤ n ∧ n ≤ 255
  · obtain ⟨a1, a2⟩ := h1
    by_cases h2 : 1 ≤ c ∧ c ≤ 255
    · obtain ⟨a3, a4⟩ := h2
      have a5 : 256 - c < n := by omega
      clear h
      go_enter Try.func42, Try.ntmps42
      go_wp2_with fail
      refine (within_yes n 255 _ a1 a2).mono ?_
      rintro e w' ⟨rfl, rfl⟩
      go_wp2_with fail
      refine (within_yes c 255 _ a3 a4).mono ?_
      rintro e w' ⟨rfl, rfl⟩
      go_wp2_with fail
      go_ret2
      exact ⟨rfl, ((Keep.refl _ w).alloc _).alloc _⟩
    · have H := Lib.hid h2
      clear h h2
      go_enter Try.func42, Try.ntmps42
      go_wp2_with fail
      refine (within_yes n 255 _ a1 a2).mono ?_
      rintro e w' ⟨rfl, rfl⟩
      go_wp2_with fail
      refine (within_no c 255 _ H.out).mono ?_
      rintro e w' ⟨rfl, rfl⟩
      go_wp2_with fail
      go_ret2
      exact ⟨rfl, ((Keep.refl _ w).alloc _).alloc _⟩
  · have H := Lib.hid h1
    clear h h1
    go_enter Try.func42, Try.ntmps42
    go_wp2_with fail
    refine (within_no n 255 _ H.out).mono ?_
    rintro e w' ⟨rfl, rfl⟩
    go_wp2_with fail
    go_ret2
    exact ⟨rfl, ((Keep.refl _ w).alloc _).alloc _⟩
end Go.Proofs.Ytegecjilpmkamaa
