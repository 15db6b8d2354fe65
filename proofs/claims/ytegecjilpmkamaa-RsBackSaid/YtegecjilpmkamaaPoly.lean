/-
  Plain laws on polynomials over the field: values of sums, of products, of one number changed; and the walk of gf's Times.
-/
import Derived.Test.YtegecjilpmkamaaSum
import Derived.Deep.RegionWith
import Derived.BigRegion
namespace Go.Proofs.Ytegecjilpmkamaa
open Go.RowKit Sb

theorem peval_replicate (x : UInt8) (n : Nat) : peval x (List.replicate n 0) = 0 := by
  induction n with
  | zero => rfl
  | succ n ih => rw [List.replicate_succ, peval, ih, zero_gmul, UInt8.xor_zero]

theorem xor_swap (a b c : UInt8) : (a ^^^ b) ^^^ c = (a ^^^ c) ^^^ b := by rw [UInt8.xor_assoc, UInt8.xor_comm b c, ← UInt8.xor_assoc]

theorem peval_set (x c : UInt8) (ys : List UInt8) : ∀ (j : Nat) (d : UInt8), ys[j]? = some d → peval x (ys.set j (d ^^^ c)) = peval x ys ^^^ gmul c (gpow x j) := by
  induction ys with
  | nil => intro j d h; simp at h
  | cons y ys ih =>
    intro j d h
    cases j with
    | zero =>
      have : y = d := by simpa using h
      subst this
      rw [List.set_cons_zero, peval, peval, gpow, gmul_one, UInt8.xor_assoc]
    | succ j =>
      rw [List.set_cons_succ, peval, peval, ih j d (by simpa using h), xor_gmul, gpow, gmul_assoc, xor_swap]

theorem peval_scale (x y : UInt8) (ys : List UInt8) : peval x (gscale ys y) = gmul (peval x ys) y := by
  induction ys with
  | nil => show (0 : UInt8) = gmul 0 y; rw [zero_gmul]
  | cons c ys ih =>
    show gmul (peval x (gscale ys y)) x ^^^ gmul c y = gmul (gmul (peval x ys) x ^^^ c) y
    rw [ih, xor_gmul, gmul_assoc, gmul_comm y x, ← gmul_assoc]

theorem gsum_cons (a b : UInt8) (xs ys : List UInt8) : gsum (a :: xs) (b :: ys) = (a ^^^ b) :: gsum xs ys := by
  unfold gsum
  rw [List.length_cons, List.length_cons, show max (xs.length + 1) (ys.length + 1) = max xs.length ys.length + 1 by omega, List.range_succ_eq_map, List.map_cons, List.map_map]
  congr 1

theorem gsum_nil_right (xs : List UInt8) : gsum xs [] = xs := by
  apply List.ext_getElem?
  intro i
  unfold gsum
  by_cases h : i < xs.length
  · rw [List.getElem?_map, List.getElem?_range (by simp; omega), List.getElem?_eq_getElem h]
    simp [h]
  · rw [List.getElem?_eq_none (by simp; omega), List.getElem?_eq_none (by omega)]

theorem gsum_comm (xs ys : List UInt8) : gsum xs ys = gsum ys xs := by
  unfold gsum
  rw [Nat.max_comm]
  congr 1
  funext i
  exact UInt8.xor_comm _ _

theorem gsum_nil_left (xs : List UInt8) : gsum [] xs = xs := by rw [gsum_comm, gsum_nil_right]

theorem xor4u (a b c d : UInt8) : (a ^^^ b) ^^^ (c ^^^ d) = (a ^^^ c) ^^^ (b ^^^ d) := by
  rw [UInt8.xor_assoc, UInt8.xor_assoc, ← UInt8.xor_assoc b c d, ← UInt8.xor_assoc c b d, UInt8.xor_comm b c]

theorem peval_sum (x : UInt8) (xs : List UInt8) : ∀ ys, peval x (gsum xs ys) = peval x xs ^^^ peval x ys := by
  induction xs with
  | nil => intro ys; rw [gsum_nil_left, peval, UInt8.zero_xor]
  | cons a xs ih =>
    intro ys
    cases ys with
    | nil => rw [gsum_nil_right, peval.eq_1, UInt8.xor_zero]
    | cons b ys => rw [gsum_cons, peval, peval, peval, ih, xor_gmul, xor4u]

theorem gsum_length (xs ys : List UInt8) : (gsum xs ys).length = max xs.length ys.length := by
  unfold gsum
  rw [List.length_map, List.length_range]

theorem gscale_length (xs : List UInt8) (y : UInt8) : (gscale xs y).length = xs.length := by
  unfold gscale
  rw [List.length_map]

/-- A row of bytes as a block's cells. -/
def bcells (ys : List UInt8) : Array Value := (ys.map bv).toArray

theorem bcells_size (ys : List UInt8) : (bcells ys).size = ys.length := by simp [bcells]
theorem bcells_get {ys : List UInt8} {i : Nat} {x : UInt8} (h : ys[i]? = some x) : (bcells ys)[i]? = some (bv x) := by simp [bcells, h]
theorem bcells_set (ys : List UInt8) (i : Nat) (x : UInt8) : (bcells ys).setIfInBounds i (bv x) = bcells (ys.set i x) := by
  simp [bcells, List.map_set]
theorem made_bcells (n : Nat) : madeCells #[.int .u8 0] n = bcells (List.replicate n 0) := by
  apply Array.ext_getElem?
  intro i
  by_cases h : i < n
  · rw [made_at h, bcells_get (x := 0)]
    simp [h]
  · rw [Array.getElem?_eq_none (by rw [made_size]; omega), Array.getElem?_eq_none (by rw [bcells_size, List.length_replicate]; omega)]

/-- What a product of two polynomials is: at each point the product of the values; as many numbers as both have, less 1. -/
def Tms (p q ys : List UInt8) : Prop := (∀ x, peval x ys = gmul (peval x p) (peval x q)) ∧ (p ≠ [] → q ≠ [] → ys.length = p.length + q.length - 1)

set_option maxRecDepth 100000 in
set_option maxHeartbeats 400000 in
theorem times_nil (p : Value) (ao bo : Option Addr) (n m cap cap' : Nat) (w : World) (h : n = 0 ∨ m = 0) :
    Calls Try.prog 40 #[p, .slice ao n cap, .slice bo m cap'] w fun e w' => e = .returned (.slice none 0 0) ∧ w = w' := by
  by_cases hn : n = 0
  · subst hn
    clear h
    go_enter Try.func40, Try.ntmps40
    go_wp2_with fail
    go_ret
    exact ⟨rfl, rfl⟩
  · have hm : m = 0 := h.resolve_left hn
    subst hm
    have hn1 : ((n : Int) == 0) = false := by rw [beq_eq_false_iff_ne]; omega
    clear h hn
    go_enter Try.func40, Try.ntmps40
    go_wp2_with fail
    go_ret
    exact ⟨rfl, rfl⟩

set_option maxRecDepth 100000 in
set_option maxHeartbeats 2000000 in
theorem times_ne_any (fb : Nat) (P : Nat → Prop) (ao bo : Option Addr) (n m cap cap' : Nat) (ps qs : List UInt8) (w : World) (hf : FieldAt w fb) (hr : Rb P w ao n ps) (hs : Rb P w bo m qs) (hP : ¬ P fb) (hn : 0 < n) (hm : 0 < m) (hn2 : n ≤ 140737488355328) (hm2 : m ≤ 140737488355328) :
    Calls Try.prog 40 #[.pointer (some ⟨fb, 0, none⟩), .slice ao n cap, .slice bo m cap'] w fun e w' => ∃ v ys, e = .returned v ∧ Nb w w' v ys ∧ Tms ps qs ys ∧ ys.length = n + m - 1 ∧ Fp fb w w' := by
  obtain ⟨N, hN⟩ : ∃ N, n + m - 1 = N := ⟨_, rfl⟩
  have hNi : (n : Int) + (m : Int) - 1 = (N : Int) := by omega
  have hmk : ∀ w : World, (Instr.makeSlice 33 (.int .i64 ((n : Int) + (m : Int) - 1)) (.int .i64 ((n : Int) + (m : Int) - 1))).run Try.prog w = .ok (.slice (some ⟨w.heap.size, 0, none⟩) N N) (w.alloc (.cells (bcells (List.replicate N 0)) 5)) := by
    intro w
    rw [hNi, ← made_bcells]
    exact run_make_row' (P := Try.prog) 33 5 (.int .u8 0) 1 Try.underlying33 info5 rfl .i64 .i64 N (by omega) (by omega) w
  have h1 : ((n : Int) == 0) = false := by rw [beq_eq_false_iff_ne]; omega
  have h2 : ((m : Int) == 0) = false := by rw [beq_eq_false_iff_ne]; omega
  have HN := Lib.hid hN
  clear hNi hN
  go_enter Try.func40, Try.ntmps40
  go_wp2_with fail
  refine (made_fp fb w hf).mono ?_
  rintro e w1 ⟨rfl, hp⟩
  have hr1 := Lib.hid (hr.keep hp.keep (fun b _ hb e => hP (e ▸ hb)))
  have hs1 := Lib.hid (hs.keep hp.keep (fun b _ hb e => hP (e ▸ hb)))
  have hlen := Lib.hid hr.len
  have hlen' := Lib.hid hs.len
  have HP := Lib.hid hp
  have hz1 := hp.keep.size
  clear hr hp hs
  go_wp2_with fail
  clear hmk
  go_loopw [9, 10, 11, 12, 32, 39] (fun _ _ _ _ i _ wr => ∃ (k : Nat) (ys : List UInt8), k ≤ n ∧ i = .int .i64 (k : Int) ∧
      Hid (Blk wr w1.heap.size 5 (bcells ys) ∧ ys.length = N ∧ (∀ x, peval x ys ^^^ gmul (psum x k (ps.drop k)) (peval x qs) = gmul (peval x ps) (peval x qs)) ∧ Keep (fun _ => False) w1 wr)) (fun _ _ _ _ i _ _ => n - (intOf i).toNat)
  case atStart =>
    refine ⟨0, List.replicate N 0, Nat.zero_le _, rfl, Blk.new _ _ _, List.length_replicate, fun x => ?_, (Keep.refl _ _).alloc _⟩
    rw [peval_replicate, UInt8.zero_xor, List.drop_zero, psum_zero]
  case round =>
    obtain ⟨k, ys, hk, rfl, HI⟩ := hrel
    obtain ⟨wo, rfl⟩ : ∃ wo : World, wo = wr := ⟨_, rfl⟩
    by_cases hlt : k < n
    · obtain ⟨b, o, c, rfl, _, hx, hc⟩ := hr1.out.at_ hlt
      have hcr : wo.cell? ⟨b, o + k, none⟩ = some (bv c) := (HI.out.2.2.2.cell (World.block_lt_of_cell? w1 _ hc) id).trans hc
      have HX := Lib.hid hx
      have hj0 : (0 : Int) ≤ (k : Int) := by omega
      have hjn : (k : Int) < (n : Int) := by omega
      clear hx hc
      go_wp2_with fail
      go_loopw [11, 12, 39] (fun _ _ j wr => ∃ (l : Nat) (zs : List UInt8), l ≤ m ∧ j = .int .i64 (l : Int) ∧
          Hid (Blk wr w1.heap.size 5 (bcells zs) ∧ zs.length = N ∧ (∀ x, peval x zs ^^^ (gmul c (psum x (k + l) (qs.drop l)) ^^^ gmul (psum x (k + 1) (ps.drop (k + 1))) (peval x qs)) = gmul (peval x ps) (peval x qs)) ∧ Keep (fun _ => False) w1 wr)) (fun _ _ j _ => m - (intOf j).toNat)
      case atStart =>
        obtain ⟨i1, i2, i3, i4⟩ := HI.out
        refine ⟨0, ys, Nat.zero_le _, rfl, i1, i2, fun x => ?_, i4⟩
        have h := i3 x
        rw [drop_eq HX.out, psum, xor_gmul] at h
        rw [List.drop_zero, Nat.add_zero, psum_eq x qs, ← gmul_assoc, gmul_comm c (peval x qs), gmul_assoc, gmul_comm (peval x qs)]
        exact h
      case round =>
        clear HI hcr
        obtain ⟨l, zs, hl, rfl, HI⟩ := hrel
        by_cases hlt2 : l < m
        · obtain ⟨b', o', d, rfl, _, hx, hc⟩ := hs1.out.at_ hlt2
          have hcr : wr.cell? ⟨b', o' + l, none⟩ = some (bv d) := (HI.out.2.2.2.cell (World.block_lt_of_cell? w1 _ hc) id).trans hc
          have HX' := Lib.hid hx
          have hbr : Hid (Blk wr fb 102 full) := HP.out.at_.keep HI.out.2.2.2 id
          obtain ⟨z, hz⟩ : ∃ z, zs[k + l]? = some z := ⟨zs[k + l]'(by have := HI.out.2.1; have := HN.out; omega), List.getElem?_eq_getElem _⟩
          have hcz : wr.cell? ⟨w1.heap.size, k + l, none⟩ = some (bv z) := (HI.out.1.cell _).trans (bcells_get hz)
          have hfz : wr.frozen? ⟨w1.heap.size, k + l, none⟩ = false := HI.out.1.frozen _
          have HZ := Lib.hid hz
          have hl0 : (0 : Int) ≤ (l : Int) := by omega
          have hlm : (l : Int) < (m : Int) := by omega
          have hkl0 : (0 : Int) ≤ (k : Int) + (l : Int) := by omega
          have hkl : (k : Int) + (l : Int) < (N : Int) := by have := HN.out; omega
          have hw : IntKind.i64.wrap ((k : Int) + (l : Int)) = (k : Int) + (l : Int) := IntWalk.i64_in _ (by have := HN.out; omega)
          have ht : ((k : Int) + (l : Int)).toNat = k + l := by omega
          clear hx hc hz
          go_wp2_with fail
          go_region_with (first | (go_at_call 73; refine (times_any fb c d _ ?_).mono ?_; (exact hbr.out); rintro e w' ⟨rfl, q, rfl⟩))
          all_goals
            clear hbr hcr hcz hfz hw ht hkl hkl0
            go_wp2_with fail
            rw [bits_xor_u8]
            go_roundw
            case rel =>
              obtain ⟨i1, i2, i3, i4⟩ := HI.out
              refine ⟨l + 1, zs.set (k + l) (z ^^^ gmul c d), by omega, by go_num, ?_, by simpa using i2, fun x => ?_, (i4.drewN (1 + q)).setCell (p := ⟨w1.heap.size, k + l, none⟩) (fun h => absurd h (Nat.lt_irrefl _)) _⟩
              · rw [← bcells_set]
                exact (i1.drewN (1 + q)).set_ _ _
              · have h := i3 x
                rw [drop_eq HX'.out, psum] at h
                rw [peval_set x _ _ _ _ HZ.out, ← h, gmul_xor, ← gmul_assoc, ← Nat.add_assoc]
                simp only [UInt8.xor_assoc]
            case measure => simp [intOf]; omega
        · have hkn : (m : Int) ≤ (l : Int) := by omega
          go_wp2_with fail
          go_roundw
          case rel =>
            obtain ⟨i1, i2, i3, i4⟩ := HI.out
            refine ⟨k + 1, zs, by omega, by go_num, i1, i2, fun x => ?_, i4⟩
            have h := i3 x
            rw [List.drop_of_length_le (by have := hlen'.out; omega), psum, gmul_zero, UInt8.zero_xor] at h
            exact h
          case measure => simp [intOf]; omega
    · have hkn : (n : Int) ≤ (k : Int) := by omega
      go_wp2_with fail
      go_ret
      obtain ⟨i1, i2, i3, i4⟩ := HI.out
      have hps : ps ≠ [] := fun e => by have := hlen.out; rw [e] at this; simp at this; omega
      refine ⟨_, ys, rfl, ⟨w1.heap.size, N, bcells ys, by rw [i2]; rfl, hz1, by omega, by have := HN.out; unfold maxLen; omega, by rw [bcells_size, i2], i1, fun i x hx => bcells_get hx⟩, ⟨fun x => ?_, fun _ _ => by rw [i2, hlen.out, hlen'.out]; exact HN.out.symm⟩, by rw [i2]; exact HN.out.symm, HP.out.trans ⟨HP.out.at_.keep i4 id, i4.mono (fun _ _ h => absurd h id)⟩⟩
      have h := i3 x
      rw [List.drop_of_length_le (by have := hlen.out; omega), psum, zero_gmul, UInt8.xor_zero] at h
      exact h
end Go.Proofs.Ytegecjilpmkamaa
