/-
  The walk of mat's Powers.
-/
import Derived.Test.YtegecjilpmkamaaMk
import Derived.Test.YtegecjilpmkamaaApply
namespace Go.Proofs.Ytegecjilpmkamaa
open Go.RowKit Sb

set_option maxRecDepth 100000 in
set_option maxHeartbeats 1000000 in
theorem closure90 (fb b3 b4 n cap i j : Nat) (P : Nat → Prop) (ao : Option Addr) (xs : List UInt8) (x : UInt8) (w : World) (hf : FieldAt w fb) (hr : Rb P w ao n xs) (hx : xs[i]? = some x)
    (h3 : w.cell? ⟨b3, 0, none⟩ = some (.pointer (some ⟨fb, 0, none⟩))) (h4 : w.cell? ⟨b4, 0, none⟩ = some (.slice ao n cap)) :
    Calls Try.prog 90 #[.int .i64 i, .int .i64 j, .pointer (some ⟨b3, 0, none⟩), .pointer (some ⟨b4, 0, none⟩)] w fun e w' => e = .returned (bv (gpowI x j)) ∧ Fp fb w w' := by
  have hi : i < n := by
    have := (List.getElem?_eq_some_iff.1 hx).1
    rw [hr.len] at this
    exact this
  obtain ⟨q, o, y, rfl, _, hy, hc⟩ := hr.at_ hi
  rw [hx] at hy
  cases hy
  have i0 : (0 : Int) ≤ (i : Int) := by omega
  have in_ : (i : Int) < (n : Int) := by omega
  have HF := Lib.hid hf
  clear hr hx hi hf
  go_enter Try.func90, Try.ntmps90
  go_wp2_with fail
  go_region_with (first | (go_at_call 32; refine (power_any fb _ _ _ ?_).mono ?_; (exact HF.out); rintro e w2 ⟨rfl, hq⟩))
  all_goals
    have hq' : Fp fb w w2 := ⟨hq.at_, hq.keep.os, hq.keep.tape, hq.keep.output, hq.keep.size, hq.keep.block⟩
    clear hq
    go_wp2_with fail
    go_ret
    exact ⟨rfl, hq'⟩

set_option maxRecDepth 100000 in
set_option maxHeartbeats 2000000 in
theorem powers_no (p : Option Addr) (ao : Option Addr) (n cap c : Nat) (w : World) (h : ¬ (1 ≤ n ∧ n ≤ 255 ∧ 1 ≤ c ∧ c ≤ 255)) :
    Calls Try.prog 61 #[.pointer p, .slice ao n cap, .int .i64 c] w fun e w' => e = .returned (.tuple #[.slice none 0 0, .int .i64 2]) ∧ Keep (fun _ => False) w w' := by
  have hn := hnot
  by_cases h1 : 1 ≤ n ∧ n ≤ 255
  · have H1 := Lib.hid h1
    have H2 : Hid (¬ (1 ≤ (c : Int) ∧ (c : Int) ≤ 255)) := by
      show ¬ (1 ≤ (c : Int) ∧ (c : Int) ≤ 255)
      omega
    clear h h1
    go_enter Try.func61, Try.ntmps61
    go_wp2_with fail
    refine (within_yes n 255 _ (by have := H1.out; omega) (by have := H1.out; omega)).mono ?_
    rintro e w' ⟨rfl, rfl⟩
    go_wp2_with fail
    refine (within_no c 255 _ H2.out).mono ?_
    rintro e w' ⟨rfl, rfl⟩
    go_wp2_with fail
    go_ret2
    exact ⟨rfl, ((Keep.refl _ w).alloc _).alloc _⟩
  · have H1 : Hid (¬ (1 ≤ (n : Int) ∧ (n : Int) ≤ 255)) := by
      show ¬ (1 ≤ (n : Int) ∧ (n : Int) ≤ 255)
      omega
    clear h h1
    go_enter Try.func61, Try.ntmps61
    go_wp2_with fail
    refine (within_no n 255 _ H1.out).mono ?_
    rintro e w' ⟨rfl, rfl⟩
    go_wp2_with fail
    go_ret2
    exact ⟨rfl, ((Keep.refl _ w).alloc _).alloc _⟩

set_option maxRecDepth 100000 in
set_option maxHeartbeats 4000000 in
theorem powers_yes (fb : Nat) (P : Nat → Prop) (ao : Option Addr) (n cap c : Nat) (xs : List UInt8) (w : World) (hf : FieldAt w fb) (hr : Rb P w ao n xs) (hP : ∀ x, P x → x ≠ fb) (h1 : 1 ≤ n) (h2 : n ≤ 255) (h3 : 1 ≤ c) (h4 : c ≤ 255) :
    Calls Try.prog 61 #[.pointer (some ⟨fb, 0, none⟩), .slice ao n cap, .int .i64 c] w fun e w' => ∃ g G, e = .returned (.tuple #[.slice (some ⟨g, 0, none⟩) n n, .int .i64 0]) ∧ Fl w.heap.size w' g G n c (fun i => rowOf c (fun j => gpowI (xs.getD i 0) (j : Nat))) ∧ Fq fb w w' := by
  have hn := hnot
  have hmf := hmf
  have a1 : (1 : Int) ≤ (n : Int) := by omega
  have a2 : (n : Int) ≤ 255 := by omega
  have a3 : (1 : Int) ≤ (c : Int) := by omega
  have a4 : (c : Int) ≤ 255 := by omega
  have hlt := hf.lt
  have HF := Lib.hid hf
  have HR : Hid (Rb (fun x => P x ∧ x < w.heap.size) w ao n xs) := hr.mono (fun b hb hp => ⟨hp, hb⟩)
  have HP := Lib.hid hP
  clear hf hr hP
  go_enter Try.func61, Try.ntmps61
  go_wp2_with fail
  refine (within_yes n 255 _ a1 a2).mono ?_
  rintro e w' ⟨rfl, rfl⟩
  go_wp2_with fail
  refine (within_yes c 255 _ a3 a4).mono ?_
  rintro e w' ⟨rfl, rfl⟩
  go_wp2_with fail
  have hw1 : Keep (fun _ => False) w ((w.alloc (.cells #[.pointer (some ⟨fb, 0, none⟩)] 22)).alloc (.cells #[.slice ao n cap] 33)) := ((Keep.refl _ w).alloc _).alloc _
  have hc3 : ((w.alloc (.cells #[.pointer (some ⟨fb, 0, none⟩)] 22)).alloc (.cells #[.slice ao n cap] 33)).cell? ⟨w.heap.size, 0, none⟩ = some (.pointer (some ⟨fb, 0, none⟩)) :=
    ((Blk.new w 22 #[.pointer (some ⟨fb, 0, none⟩)]).alloc _).cell 0
  have hc5 : ((w.alloc (.cells #[.pointer (some ⟨fb, 0, none⟩)] 22)).alloc (.cells #[.slice ao n cap] 33)).cell? ⟨w.heap.size + 1, 0, none⟩ = some (.slice ao n cap) := by
    simp
  have hsz : ((w.alloc (.cells #[.pointer (some ⟨fb, 0, none⟩)] 22)).alloc (.cells #[.slice ao n cap] 33)).heap.size = w.heap.size + 2 := by simp
  generalize (w.alloc (.cells #[.pointer (some ⟨fb, 0, none⟩)] 22)).alloc (.cells #[.slice ao n cap] 33) = w1 at *
  refine (filled_90 (· = fb) (fun w' => FieldAt w' fb ∧ (Blk w fb 102 full → Blk w' fb 102 full) ∧ w'.cell? ⟨w.heap.size, 0, none⟩ = some (.pointer (some ⟨fb, 0, none⟩)) ∧ w'.cell? ⟨w.heap.size + 1, 0, none⟩ = some (.slice ao n cap) ∧ Rb (fun x => P x ∧ x < w.heap.size) w' ao n xs) (fun i j => gpowI (xs.getD i 0) (j : Nat)) _ _ n c w1 (by omega) (by omega)
    ⟨HF.out.keep hw1 id, fun h => h.keep hw1 id, hc3, hc5, HR.out.keep hw1 (fun _ _ _ => id)⟩ (fun b h => by omega) (fun wa wb h hk hs => ?_) (fun i j wa hi hj h hs => ?_)).mono ?_
  · obtain ⟨j1, j2, j3, j4, j5⟩ := h
    refine ⟨j1.keep hk (by omega), fun h => (j2 h).keep hk (by omega), (hk.cell (World.block_lt_of_cell? _ _ j3) (by show ¬ w1.heap.size ≤ w.heap.size; omega)).trans j3, (hk.cell (World.block_lt_of_cell? _ _ j4) (by show ¬ w1.heap.size ≤ w.heap.size + 1; omega)).trans j4, j5.keep hk (fun b _ hb (h : w1.heap.size ≤ b) => by have := hb.2; omega)⟩
  · obtain ⟨j1, j2, j3, j4, j5⟩ := h
    have hx : xs[i]? = some (xs.getD i 0) := by
      have : i < xs.length := by rw [j5.len]; exact hi
      simp [this]
    refine (closure90 fb w.heap.size (w.heap.size + 1) n cap i j _ ao xs _ wa j1 j5 hx j3 j4).mono ?_
    rintro e wb ⟨rfl, hp⟩
    exact ⟨rfl, ⟨hp.field, fun _ => hp.at_, (hp.keep.cell (World.block_lt_of_cell? _ _ j3) (by show ¬ w.heap.size = fb; omega)).trans j3, (hp.keep.cell (World.block_lt_of_cell? _ _ j4) (by show ¬ w.heap.size + 1 = fb; omega)).trans j4, j5.keep hp.keep (fun b _ hb e => HP.out b hb.1 e)⟩, hp.keep⟩
  rintro e w2 ⟨g, G, rfl, hfl, ⟨j1, j2, _, _⟩, hk⟩
  have HFL : Hid (Fl w.heap.size w2 g G n c (fun i => rowOf c (fun j => gpowI (xs.getD i 0) (j : Nat)))) := Fl.old hfl (by omega)
  clear hfl hc3 hc5
  go_wp2_with fail
  go_ret2
  exact ⟨g, G, rfl, HFL.out, ⟨j1, j2, (hw1.mono (fun _ _ h => h.elim)).trans hk⟩⟩
end Go.Proofs.Ytegecjilpmkamaa
