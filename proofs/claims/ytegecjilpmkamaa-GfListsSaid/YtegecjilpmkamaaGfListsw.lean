/-
  The walk of the law GfLists: it answers true, at every input.
-/
import Derived.Test.YtegecjilpmkamaaSum
namespace Go.Proofs.Ytegecjilpmkamaa
open Go.RowKit Sb

theorem Rb.keepf {N fb : Nat} {w w' : World} {ao : Option Addr} {n : Nat} {xs : List UInt8} (h : Rb (· < N) w ao n xs) (hk : Keep (· = fb) w w') (hN : N ≤ fb) : Rb (· < N) w' ao n xs :=
  h.keep hk (fun b _ (hb : b < N) (e : b = fb) => by omega)

theorem Lw.drewN {w w1 : World} {fb : Nat} (h : Lw w fb w1) (m : Nat) : Lw w fb (w1.drewN m) := ⟨h.ge, h.at_, h.keep.drewN m⟩

theorem refmul_r0 (a : UInt8) (w : World) : Calls Try.prog 23 #[bv a, .int .u8 0] w fun e w' => e = .returned (.int .u8 0) ∧ w = w' := by
  have h := refmul_any a 0 w
  rw [gmul_zero] at h
  exact h
theorem refmul_l0 (a : UInt8) (w : World) : Calls Try.prog 23 #[.int .u8 0, bv a] w fun e w' => e = .returned (.int .u8 0) ∧ w = w' := by
  have h := refmul_any 0 a w
  rw [zero_gmul] at h
  exact h
theorem bits_xor_r0 (a : UInt8) : bits .xor .u8 (a.toNat : Int) 0 = (a.toNat : Int) := by
  have h := bits_xor_u8 a 0
  rw [UInt8.xor_zero] at h
  exact h
theorem bits_xor_l0 (a : UInt8) : bits .xor .u8 0 (a.toNat : Int) = (a.toNat : Int) := by
  have h := bits_xor_u8 0 a
  rw [UInt8.zero_xor] at h
  exact h

set_option maxRecDepth 100000 in
set_option maxHeartbeats 4000000 in
theorem gfLists_ge (w : World) (ao bo : Option Addr) (n m cap cap' : Nat) (xs ys : List UInt8) (y : UInt8) (hr : Rb (· < w.heap.size) w ao n xs) (hs : Rb (· < w.heap.size) w bo m ys) (hn : n ≤ 300) (hm : m ≤ 300) (hmn : m ≤ n) (L : Nat) (hL1 : L ≤ n) (hL2 : n ≤ L) :
    Calls Try.prog 7 #[.slice ao n cap, .slice bo m cap', bv y] w fun e w' => e = .returned (.bool true) ∧ Below w.heap.size w w' := by
  go_enter Try.func7, Try.ntmps7
  go_wp2_with fail
  refine (new_any _).mono ?_
  rintro e w1 ⟨rfl, rfl⟩
  have l1 := Lw.start w
  generalize w.alloc (.cells Try.zeroCells102 102) = w1 at *
  have hr1 := hr.keep l1.keep (fun _ _ _ => id)
  have hs1 := hs.keep l1.keep (fun _ _ _ => id)
  clear hr hs
  go_wp2_with fail
  refine (sum_any _ (· < w.heap.size) ao bo n m cap cap' xs ys _ hr1 hs1 (by omega) (by omega)).mono ?_
  rintro e w2 ⟨v2, rfl, hb2, hk2⟩
  have l2 := l1.k hk2
  have hr2 := hr1.keep hk2 (fun _ _ _ => id)
  have hs2 := hs1.keep hk2 (fun _ _ _ => id)
  have hge := l1.keep.size
  have hfl := l1.at_.lt
  clear hr1 hs1 l1 hk2
  go_wp2_with fail
  refine (scale_any _ (· < w.heap.size) ao n cap xs y _ l2.at_ hr2 (by simp) (by omega)).mono ?_
  rintro e w3 ⟨v3, rfl, hb3, hp3⟩
  have l3 := l2.p hp3
  have HA := Lib.hid (hr2.keepf hp3.keep (Nat.le_refl _))
  have HB := Lib.hid (hs2.keepf hp3.keep (Nat.le_refl _))
  have hb2' := hb2.keep hp3.keep (fun b h1 _ e => by omega)
  clear hr2 hs2 l2 hp3 hb2
  obtain ⟨gs, cap2, cs, rfl, hgs, h21, h22, h23, hB2, hC2⟩ := hb2'
  obtain ⟨gt, cap3, ct, rfl, hgt, h31, h32, h33, hB3, hC3⟩ := hb3
  have e2 : (gsum xs ys).length = L := by unfold gsum; rw [List.length_map, List.length_range, HA.out.len, HB.out.len]; omega
  have e3 : (gscale xs y).length = n := by unfold gscale; rw [List.length_map]; exact HA.out.len
  rw [e2, e3]
  rw [e2] at h21
  rw [e3] at h31
  have HS : Hid (Blk w3 gs 5 cs ∧ L ≤ cs.size ∧ ∀ (i : Nat) (x : UInt8), (gsum xs ys)[i]? = some x → cs[i]? = some (bv x)) := ⟨hB2, by omega, hC2⟩
  have HT : Hid (Blk w3 gt 5 ct ∧ n ≤ ct.size ∧ ∀ (i : Nat) (x : UInt8), (gscale xs y)[i]? = some x → ct[i]? = some (bv x)) := ⟨hB3, by omega, hC3⟩
  have hnb : (((L : Nat) : Int) != (n : Int)) = false := by rw [bne_eq_false_iff_eq]; omega
  clear hB2 hB3 hC2 hC3 e2 e3 h23 h33 h22 h32
  go_wp2_with fail
  go_loopw [10, 11, 12, 13] (fun s i _ _ wr => ∃ (k d : Nat) (z : UInt8), k ≤ L ∧ i = .int .i64 (k : Int) ∧ s = bv z ∧ Hid (z ^^^ gdot (xs.drop k) (ys.drop k) = gdot xs ys ∧ wr = w3.drewN d)) (fun _ i _ _ _ => L - (intOf i).toNat)
  case atStart => exact ⟨0, 0, 0, Nat.zero_le _, rfl, rfl, by rw [List.drop_zero, List.drop_zero, UInt8.zero_xor], rfl⟩
  case round =>
    obtain ⟨k, d, z, hk, rfl, rfl, HI⟩ := hrel
    by_cases hlt : k < L
    · by_cases hkm : k < m
      · have hk1 : (k : Int) < (n : Int) := by omega
        have hk2 : (k : Int) < (m : Int) := by omega
        obtain ⟨b, o, c, rfl, _, hx, hc⟩ := HA.out.at_ (k := k) (by omega)
        have hcr : wr.cell? ⟨b, o + k, none⟩ = some (bv c) := by rw [HI.out.2]; exact hc
        have HX := Lib.hid hx
        clear hx hc
        obtain ⟨t, ht⟩ := some_of_lt (cs := ct) (i := k) (by have := HT.out.2.1; omega)
        have htr : wr.cell? ⟨gt, k, none⟩ = some (bv (gmul c y)) := by
          rw [HI.out.2]
          refine (HT.out.1.cell k).trans (HT.out.2.2 k _ ?_)
          unfold gscale
          rw [List.getElem?_map, HX.out]
          rfl
        clear ht t
        obtain ⟨b', o', c', rfl, _, hx', hc'⟩ := HB.out.at_ (k := k) (by omega)
        have hcr' : wr.cell? ⟨b', o' + k, none⟩ = some (bv c') := by rw [HI.out.2]; exact hc'
        have HX' := Lib.hid hx'
        clear hx' hc'
        have hsr : wr.cell? ⟨gs, k, none⟩ = some (bv (c ^^^ c')) := by
          rw [HI.out.2]
          refine (HS.out.1.cell k).trans (HS.out.2.2 k _ ?_)
          unfold gsum
          rw [List.getElem?_map, List.getElem?_range (by have := HA.out.len; have := HB.out.len; omega)]
          show some (xs.getD k 0 ^^^ ys.getD k 0) = some (c ^^^ c')
          congr 1
          rw [List.getD_eq_getElem?_getD, List.getD_eq_getElem?_getD, HX.out, HX'.out]; rfl
        have hj0 : (0 : Int) ≤ (k : Int) := by omega
        have hjs : (k : Int) < (L : Int) := by omega
        have hxx := bits_xor_u8 c c'
        have hxz := bits_xor_u8 z (gmul c c')
        go_wp2_with fail
        go_quiet ((go_at_call 23; exact Calls.quiet_of_same ((refmul_any c y _).mono fun _ _ ⟨h1, h2⟩ => ⟨h1, h2.symm⟩)))
        go_wp2_with fail
        refine (refmul_any c c' _).mono ?_
        rintro e w' ⟨rfl, rfl⟩
        go_wp2_with fail
        go_roundw
        case rel =>
          refine ⟨k + 1, d + nq, z ^^^ gmul c c', by omega, by go_num, rfl, ?_, ?_⟩
          · have h := HI.out.1
            rw [drop_eq HX.out, drop_eq HX'.out, gdot] at h
            rw [UInt8.xor_assoc]
            exact h
          · rw [HI.out.2, World.drewN_drewN]
        case measure => simp [intOf]; omega
      · have hk1 : (k : Int) < (n : Int) := by omega
        have hk2 : (m : Int) ≤ (k : Int) := by omega
        obtain ⟨b, o, c, rfl, _, hx, hc⟩ := HA.out.at_ (k := k) (by omega)
        have hcr : wr.cell? ⟨b, o + k, none⟩ = some (bv c) := by rw [HI.out.2]; exact hc
        have HX := Lib.hid hx
        clear hx hc
        obtain ⟨t, ht⟩ := some_of_lt (cs := ct) (i := k) (by have := HT.out.2.1; omega)
        have htr : wr.cell? ⟨gt, k, none⟩ = some (bv (gmul c y)) := by
          rw [HI.out.2]
          refine (HT.out.1.cell k).trans (HT.out.2.2 k _ ?_)
          unfold gscale
          rw [List.getElem?_map, HX.out]
          rfl
        clear ht t
        have HX' : Hid (ys.drop k = []) := List.drop_of_length_le (by have := HB.out.len; omega)
        have HX2' : Hid (ys.getD k 0 = 0) := by
          show ys.getD k 0 = 0
          rw [List.getD_eq_getElem?_getD, List.getElem?_eq_none (by have := HB.out.len; omega)]
          rfl
        have hsr : wr.cell? ⟨gs, k, none⟩ = some (bv c) := by
          rw [HI.out.2]
          refine (HS.out.1.cell k).trans (HS.out.2.2 k _ ?_)
          unfold gsum
          rw [List.getElem?_map, List.getElem?_range (by have := HA.out.len; have := HB.out.len; omega)]
          show some (xs.getD k 0 ^^^ ys.getD k 0) = some c
          congr 1
          rw [HX2'.out, List.getD_eq_getElem?_getD, HX.out]; simp
        have hj0 : (0 : Int) ≤ (k : Int) := by omega
        have hjs : (k : Int) < (L : Int) := by omega
        have hxx := bits_xor_r0 c
        have hxz := bits_xor_r0 z
        go_wp2_with fail
        go_quiet ((go_at_call 23; exact Calls.quiet_of_same ((refmul_any c y _).mono fun _ _ ⟨h1, h2⟩ => ⟨h1, h2.symm⟩)))
        go_wp2_with fail
        refine (refmul_r0 c _).mono ?_
        rintro e w' ⟨rfl, rfl⟩
        go_wp2_with fail
        go_roundw
        case rel =>
          refine ⟨k + 1, d + nq, z, by omega, by go_num, rfl, ?_, ?_⟩
          · have h := HI.out.1
            rw [HX'.out, gdot_nil_right] at h
            rw [List.drop_of_length_le (l := ys) (by have := HB.out.len; omega), gdot_nil_right]
            exact h
          · rw [HI.out.2, World.drewN_drewN]
        case measure => simp [intOf]; omega
    · have hkn : (L : Int) ≤ (k : Int) := by omega
      have l4 : Lw w w.heap.size wr := by rw [HI.out.2]; exact l3.drewN d
      have hA4 : Rb (· < w.heap.size) wr ao n xs := by rw [HI.out.2]; exact HA.out.drewN d
      have hB4 : Rb (· < w.heap.size) wr bo m ys := by rw [HI.out.2]; exact HB.out.drewN d
      have hz : z = gdot xs ys := by
        have h := HI.out.1
        first
          | rw [List.drop_of_length_le (l := xs) (by have := HA.out.len; omega), gdot_nil_left, UInt8.xor_zero] at h; exact h
          | rw [List.drop_of_length_le (l := ys) (by have := HB.out.len; omega), gdot_nil_right, UInt8.xor_zero] at h; exact h
      subst hz
      clear HI
      go_wp2_with fail
      refine (dot_any _ (· < w.heap.size) ao bo n m cap cap' xs ys _ l4.at_ hA4 hB4 (by simp) (by omega) (by omega)).mono ?_
      rintro e w5 ⟨rfl, hp⟩
      have l5 := l4.p hp
      clear l4 hp hA4 hB4
      go_wp2_with fail
      refine (one4_any _).mono ?_
      rintro e w6 ⟨rfl, hp⟩
      have l6 := l5.k hp
      clear l5 hp
      go_wp2_with fail
      go_ret
      exact ⟨rfl, l6.below⟩


set_option maxRecDepth 100000 in
set_option maxHeartbeats 4000000 in
theorem gfLists_lt (w : World) (ao bo : Option Addr) (n m cap cap' : Nat) (xs ys : List UInt8) (y : UInt8) (hr : Rb (· < w.heap.size) w ao n xs) (hs : Rb (· < w.heap.size) w bo m ys) (hn : n ≤ 300) (hm : m ≤ 300) (hmn : n < m) (L : Nat) (hL1 : L ≤ m) (hL2 : m ≤ L) :
    Calls Try.prog 7 #[.slice ao n cap, .slice bo m cap', bv y] w fun e w' => e = .returned (.bool true) ∧ Below w.heap.size w w' := by
  go_enter Try.func7, Try.ntmps7
  go_wp2_with fail
  refine (new_any _).mono ?_
  rintro e w1 ⟨rfl, rfl⟩
  have l1 := Lw.start w
  generalize w.alloc (.cells Try.zeroCells102 102) = w1 at *
  have hr1 := hr.keep l1.keep (fun _ _ _ => id)
  have hs1 := hs.keep l1.keep (fun _ _ _ => id)
  clear hr hs
  go_wp2_with fail
  refine (sum_any _ (· < w.heap.size) ao bo n m cap cap' xs ys _ hr1 hs1 (by omega) (by omega)).mono ?_
  rintro e w2 ⟨v2, rfl, hb2, hk2⟩
  have l2 := l1.k hk2
  have hr2 := hr1.keep hk2 (fun _ _ _ => id)
  have hs2 := hs1.keep hk2 (fun _ _ _ => id)
  have hge := l1.keep.size
  have hfl := l1.at_.lt
  clear hr1 hs1 l1 hk2
  go_wp2_with fail
  refine (scale_any _ (· < w.heap.size) ao n cap xs y _ l2.at_ hr2 (by simp) (by omega)).mono ?_
  rintro e w3 ⟨v3, rfl, hb3, hp3⟩
  have l3 := l2.p hp3
  have HA := Lib.hid (hr2.keepf hp3.keep (Nat.le_refl _))
  have HB := Lib.hid (hs2.keepf hp3.keep (Nat.le_refl _))
  have hb2' := hb2.keep hp3.keep (fun b h1 _ e => by omega)
  clear hr2 hs2 l2 hp3 hb2
  obtain ⟨gs, cap2, cs, rfl, hgs, h21, h22, h23, hB2, hC2⟩ := hb2'
  obtain ⟨gt, cap3, ct, rfl, hgt, h31, h32, h33, hB3, hC3⟩ := hb3
  have e2 : (gsum xs ys).length = L := by unfold gsum; rw [List.length_map, List.length_range, HA.out.len, HB.out.len]; omega
  have e3 : (gscale xs y).length = n := by unfold gscale; rw [List.length_map]; exact HA.out.len
  rw [e2, e3]
  rw [e2] at h21
  rw [e3] at h31
  have HS : Hid (Blk w3 gs 5 cs ∧ L ≤ cs.size ∧ ∀ (i : Nat) (x : UInt8), (gsum xs ys)[i]? = some x → cs[i]? = some (bv x)) := ⟨hB2, by omega, hC2⟩
  have HT : Hid (Blk w3 gt 5 ct ∧ n ≤ ct.size ∧ ∀ (i : Nat) (x : UInt8), (gscale xs y)[i]? = some x → ct[i]? = some (bv x)) := ⟨hB3, by omega, hC3⟩
  have hnb : (((L : Nat) : Int) != (m : Int)) = false := by rw [bne_eq_false_iff_eq]; omega
  clear hB2 hB3 hC2 hC3 e2 e3 h23 h33 h22 h32
  go_wp2_with fail
  go_loopw [10, 11, 12, 13] (fun s i _ _ wr => ∃ (k d : Nat) (z : UInt8), k ≤ L ∧ i = .int .i64 (k : Int) ∧ s = bv z ∧ Hid (z ^^^ gdot (xs.drop k) (ys.drop k) = gdot xs ys ∧ wr = w3.drewN d)) (fun _ i _ _ _ => L - (intOf i).toNat)
  case atStart => exact ⟨0, 0, 0, Nat.zero_le _, rfl, rfl, by rw [List.drop_zero, List.drop_zero, UInt8.zero_xor], rfl⟩
  case round =>
    obtain ⟨k, d, z, hk, rfl, rfl, HI⟩ := hrel
    by_cases hlt : k < L
    · by_cases hkm : k < n
      · have hk1 : (k : Int) < (n : Int) := by omega
        have hk2 : (k : Int) < (m : Int) := by omega
        obtain ⟨b, o, c, rfl, _, hx, hc⟩ := HA.out.at_ (k := k) (by omega)
        have hcr : wr.cell? ⟨b, o + k, none⟩ = some (bv c) := by rw [HI.out.2]; exact hc
        have HX := Lib.hid hx
        clear hx hc
        obtain ⟨t, ht⟩ := some_of_lt (cs := ct) (i := k) (by have := HT.out.2.1; omega)
        have htr : wr.cell? ⟨gt, k, none⟩ = some (bv (gmul c y)) := by
          rw [HI.out.2]
          refine (HT.out.1.cell k).trans (HT.out.2.2 k _ ?_)
          unfold gscale
          rw [List.getElem?_map, HX.out]
          rfl
        clear ht t
        obtain ⟨b', o', c', rfl, _, hx', hc'⟩ := HB.out.at_ (k := k) (by omega)
        have hcr' : wr.cell? ⟨b', o' + k, none⟩ = some (bv c') := by rw [HI.out.2]; exact hc'
        have HX' := Lib.hid hx'
        clear hx' hc'
        have hsr : wr.cell? ⟨gs, k, none⟩ = some (bv (c ^^^ c')) := by
          rw [HI.out.2]
          refine (HS.out.1.cell k).trans (HS.out.2.2 k _ ?_)
          unfold gsum
          rw [List.getElem?_map, List.getElem?_range (by have := HA.out.len; have := HB.out.len; omega)]
          show some (xs.getD k 0 ^^^ ys.getD k 0) = some (c ^^^ c')
          congr 1
          rw [List.getD_eq_getElem?_getD, List.getD_eq_getElem?_getD, HX.out, HX'.out]; rfl
        have hj0 : (0 : Int) ≤ (k : Int) := by omega
        have hjs : (k : Int) < (L : Int) := by omega
        have hxx := bits_xor_u8 c c'
        have hxz := bits_xor_u8 z (gmul c c')
        go_wp2_with fail
        go_quiet ((go_at_call 23; exact Calls.quiet_of_same ((refmul_any c y _).mono fun _ _ ⟨h1, h2⟩ => ⟨h1, h2.symm⟩)))
        go_wp2_with fail
        refine (refmul_any c c' _).mono ?_
        rintro e w' ⟨rfl, rfl⟩
        go_wp2_with fail
        go_roundw
        case rel =>
          refine ⟨k + 1, d + nq, z ^^^ gmul c c', by omega, by go_num, rfl, ?_, ?_⟩
          · have h := HI.out.1
            rw [drop_eq HX.out, drop_eq HX'.out, gdot] at h
            rw [UInt8.xor_assoc]
            exact h
          · rw [HI.out.2, World.drewN_drewN]
        case measure => simp [intOf]; omega
      · have hk1 : (n : Int) ≤ (k : Int) := by omega
        have hk2 : (k : Int) < (m : Int) := by omega
        have HX : Hid (xs.drop k = []) := List.drop_of_length_le (by have := HA.out.len; omega)
        have HX2 : Hid (xs.getD k 0 = 0) := by
          show xs.getD k 0 = 0
          rw [List.getD_eq_getElem?_getD, List.getElem?_eq_none (by have := HA.out.len; omega)]
          rfl
        obtain ⟨b', o', c', rfl, _, hx', hc'⟩ := HB.out.at_ (k := k) (by omega)
        have hcr' : wr.cell? ⟨b', o' + k, none⟩ = some (bv c') := by rw [HI.out.2]; exact hc'
        have HX' := Lib.hid hx'
        clear hx' hc'
        have hsr : wr.cell? ⟨gs, k, none⟩ = some (bv c') := by
          rw [HI.out.2]
          refine (HS.out.1.cell k).trans (HS.out.2.2 k _ ?_)
          unfold gsum
          rw [List.getElem?_map, List.getElem?_range (by have := HA.out.len; have := HB.out.len; omega)]
          show some (xs.getD k 0 ^^^ ys.getD k 0) = some c'
          congr 1
          rw [HX2.out, List.getD_eq_getElem?_getD, HX'.out]; simp
        have hj0 : (0 : Int) ≤ (k : Int) := by omega
        have hjs : (k : Int) < (L : Int) := by omega
        have hxx := bits_xor_l0 c'
        have hxz := bits_xor_r0 z
        go_wp2_with fail
        refine (refmul_l0 c' _).mono ?_
        rintro e w' ⟨rfl, rfl⟩
        go_wp2_with fail
        go_roundw
        case rel =>
          refine ⟨k + 1, d, z, by omega, by go_num, rfl, ?_, ?_⟩
          · have h := HI.out.1
            rw [HX.out, gdot_nil_left] at h
            rw [List.drop_of_length_le (l := xs) (by have := HA.out.len; omega), gdot_nil_left]
            exact h
          · exact HI.out.2
        case measure => simp [intOf]; omega
    · have hkn : (L : Int) ≤ (k : Int) := by omega
      have l4 : Lw w w.heap.size wr := by rw [HI.out.2]; exact l3.drewN d
      have hA4 : Rb (· < w.heap.size) wr ao n xs := by rw [HI.out.2]; exact HA.out.drewN d
      have hB4 : Rb (· < w.heap.size) wr bo m ys := by rw [HI.out.2]; exact HB.out.drewN d
      have hz : z = gdot xs ys := by
        have h := HI.out.1
        first
          | rw [List.drop_of_length_le (l := xs) (by have := HA.out.len; omega), gdot_nil_left, UInt8.xor_zero] at h; exact h
          | rw [List.drop_of_length_le (l := ys) (by have := HB.out.len; omega), gdot_nil_right, UInt8.xor_zero] at h; exact h
      subst hz
      clear HI
      go_wp2_with fail
      refine (dot_any _ (· < w.heap.size) ao bo n m cap cap' xs ys _ l4.at_ hA4 hB4 (by simp) (by omega) (by omega)).mono ?_
      rintro e w5 ⟨rfl, hp⟩
      have l5 := l4.p hp
      clear l4 hp hA4 hB4
      go_wp2_with fail
      refine (one4_any _).mono ?_
      rintro e w6 ⟨rfl, hp⟩
      have l6 := l5.k hp
      clear l5 hp
      go_wp2_with fail
      go_ret
      exact ⟨rfl, l6.below⟩


theorem gfLists_walk (w : World) (v : Value) (xs : List UInt8) (h : Bs (· < w.heap.size) w v xs) (v' : Value) (ys : List UInt8) (h' : Bs (· < w.heap.size) w v' ys) (y : UInt8) :
    Calls Try.prog 7 #[v, v', bv y] w fun e w' => e = .returned (.bool true) ∧ Below w.heap.size w w' := by
  obtain ⟨ao, n, cap, rfl, hc, hm, hr⟩ := h
  obtain ⟨bo, m, cap', rfl, hc', hm', hr'⟩ := h'
  unfold maxLen at hm hm'
  by_cases h1 : n ≤ 300
  · by_cases h2 : m ≤ 300
    · rcases Nat.lt_or_ge n m with h | h
      · exact gfLists_lt w ao bo n m cap cap' xs ys y hr hr' h1 h2 h m (Nat.le_refl _) (Nat.le_refl _)
      · exact gfLists_ge w ao bo n m cap cap' xs ys y hr hr' h1 h2 h n (Nat.le_refl _) (Nat.le_refl _)
    · have h2' : (300 : Int) < (m : Int) := by omega
      have h1' : (n : Int) ≤ 300 := by omega
      clear hr hr'
      go_enter Try.func7, Try.ntmps7
      go_wp2_with fail
      go_ret
      exact ⟨rfl, Below.refl _ _⟩
  · have h1' : (300 : Int) < (n : Int) := by omega
    clear hr hr'
    go_enter Try.func7, Try.ntmps7
    go_wp2_with fail
    go_ret
    exact ⟨rfl, Below.refl _ _⟩
end Go.Proofs.Ytegecjilpmkamaa
