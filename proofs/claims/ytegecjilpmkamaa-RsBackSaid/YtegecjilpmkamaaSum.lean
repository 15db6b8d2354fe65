/-
  The walk of gf's Sum.
-/
import Derived.Test.YtegecjilpmkamaaApp
namespace Go.Proofs.Ytegecjilpmkamaa
open Go.RowKit Sb

/-- The sums, place by place, as far as the longer one goes. -/
def gsum (xs ys : List UInt8) : List UInt8 := (List.range (max xs.length ys.length)).map (fun i => xs.getD i 0 ^^^ ys.getD i 0)

set_option maxRecDepth 100000 in
set_option maxHeartbeats 1000000 in
theorem sum_ge (p : Value) (P : Nat → Prop) (ao bo : Option Addr) (n m cap cap' : Nat) (xs ys : List UInt8) (w : World) (hr : Rb P w ao n xs) (hs : Rb P w bo m ys) (hq : n ≤ 140737488355328) (hmn : m ≤ n) :
    Calls Try.prog 36 #[p, .slice ao n cap, .slice bo m cap'] w fun e w' => ∃ v, e = .returned v ∧ Nb w w' v (gsum xs ys) ∧ Keep (fun _ => False) w w' := by
  obtain ⟨i0, hi0, hz0, hz1, hz2⟩ := info_parts info5
  have hlen := Lib.hid hr.len
  have hlen' := Lib.hid hs.len
  have HR := Lib.hid hr
  have HS := Lib.hid hs
  clear hr hs
  go_enter Try.func36, Try.ntmps36
  go_wp2_with (first
    | (at_builtin; refine wpl_append _ rfl (.tmp 17) (.tmp 18) 33 rfl w.heap.size 5 i0 (.int .u8 0) 1 Try.underlying33 hi0 hz0 hz1 hz2 rfl (.slice (some ⟨w.heap.size, 0, none⟩) 0 0) 0 [] rfl (World.ownsRow_made w #[] 0 (Nat.le_refl _) (Nat.zero_le _) rfl) P ao n cap (xs.map bv) rfl ((HR).out.keep ((Keep.refl (fun _ => False) w).alloc _) (fun _ _ _ => id)) bytes_one (by unfold maxLen; omega) (by omega) (by simp) ?_; intro v1 w1 hown1 hg1 hnil1 hat1))
  obtain ⟨g, cap1, cur, hv1, hg, hb1, hc1, hm1, hz, ht⟩ : ∃ g cap1 cur, v1 = .slice (some ⟨g, 0, none⟩) n cap1 ∧ w.heap.size ≤ g ∧ w1.heap[g]? = some (.cells cur 5 (0, 0)) ∧ n ≤ cap1 ∧ cap1 ≤ maxLen ∧ cur.size = cap1 ∧ cur.toList.take n = xs.map bv := by
    rcases hown1.2 with ⟨h1, h2⟩ | ⟨g, cap1, cur, h1, h2, h3, h4, h5, h6, h7⟩
    · exact absurd (hnil1.1 h1).1 (by simp)
    · exact ⟨g, cap1, cur, by simpa using h1, h2, h3, by omega, h5, by omega, by simpa using h7⟩
  have hk1 : Hid (Keep (fun _ => False) w w1) := ((Keep.refl _ w).alloc _).grown hg1 (fun k hk h => by simp [Value.ownBlock] at hk; omega)
  have HB1 : Hid (Blk w1 g 5 cur) := hb1
  have HT := Lib.hid ht
  have HZ := Lib.hid hz
  have hs1 : w.heap.size < w1.heap.size := by have := hg1.size; simp at this; omega
  rw [hv1]
  clear hv1 hown1 hg1 hnil1 hat1 hb1 ht hz
  go_wp2_with fail
  go_loopw [8, 9, 22] (fun _ _ i wr => ∃ (k : Nat) (cs : Array Value), k ≤ m ∧ i = .int .i64 (k : Int) ∧
      Hid (Blk wr g 5 cs ∧ cs.size = cap1 ∧ (∀ j x, j < n → xs[j]? = some x → cs[j]? = some (bv (if j < k then x ^^^ ys.getD j 0 else x))) ∧ Keep (fun _ => False) w wr)) (fun _ _ i _ => m - (intOf i).toNat)
  case atStart =>
    refine ⟨0, cur, Nat.zero_le _, rfl, HB1.out, HZ.out, fun j x hj hx => ?_, hk1.out⟩
    have h1 : (cur.toList.take n)[j]? = some (bv x) := by rw [HT.out, List.getElem?_map, hx]; rfl
    rw [List.getElem?_take, if_pos hj, Array.getElem?_toList] at h1
    simpa using h1
  case round =>
    obtain ⟨k, cs, hk, rfl, HI⟩ := hrel
    by_cases hlt : k < m
    · obtain ⟨b, o, c, rfl, _, hx, hc⟩ := (HS).out.at_ hlt
      have hcr : wr.cell? ⟨b, o + k, none⟩ = some (bv c) := (HI.out.2.2.2.cell (World.block_lt_of_cell? w _ hc) id).trans hc
      obtain ⟨d, hd⟩ : ∃ d, xs[k]? = some d := ⟨xs[k]'(by have := hlen.out; omega), List.getElem?_eq_getElem _⟩
      have HU : wr.cell? ⟨g, k, none⟩ = some (bv d) := by
        have h1 := HI.out.2.2.1 k d (by omega) hd
        rw [if_neg (Nat.lt_irrefl k)] at h1
        exact (HI.out.1.cell k).trans h1
      have HF : wr.frozen? ⟨g, k, none⟩ = false := HI.out.1.frozen k
      have HX := Lib.hid hx
      have HD := Lib.hid hd
      have hj0 : (0 : Int) ≤ (k : Int) := by omega
      have hjn : (k : Int) < (n : Int) := by omega
      have hjm : (k : Int) < (m : Int) := by omega
      clear hx hc hd
      go_wp2_with fail
      rw [bits_xor_u8]
      go_roundw
      case rel =>
        obtain ⟨i1, i2, i3, i4⟩ := HI.out
        refine ⟨k + 1, cs.setIfInBounds k (bv (d ^^^ c)), by omega, by go_num, i1.set_ k _, by simpa using i2, fun j x hj hxj => ?_, i4.setCell (p := ⟨g, k, none⟩) (fun h => absurd (show g < w.heap.size from h) (by omega)) _⟩
        by_cases hjk : j = k
        · subst hjk
          rw [HD.out] at hxj
          cases hxj
          rw [Array.getElem?_setIfInBounds_self_of_lt (by omega), if_pos (by omega)]
          have : ys.getD j 0 = c := by rw [List.getD_eq_getElem?_getD, HX.out]; rfl
          rw [this]
        · rw [Array.getElem?_setIfInBounds_ne (by omega), i3 j x hj hxj]
          by_cases h1 : j < k
          · rw [if_pos h1, if_pos (by omega)]
          · rw [if_neg h1, if_neg (by omega)]
      case measure => simp [intOf]; omega
    · have hkn : (m : Int) ≤ (k : Int) := by omega
      go_wp2_with fail
      go_ret
      obtain ⟨i1, i2, i3, i4⟩ := HI.out
      have hl : (gsum xs ys).length = n := by unfold gsum; rw [List.length_map, List.length_range, hlen.out, hlen'.out]; omega
      refine ⟨_, rfl, ⟨g, cap1, cs, by rw [hl]; rfl, hg, by omega, hm1, i2, i1, fun i x hx => ?_⟩, i4⟩
      have hi : i < n := by
        have := (List.getElem?_eq_some_iff.1 hx).1
        omega
      have hxs : xs[i]? = some (xs[i]'(by have := hlen.out; omega)) := List.getElem?_eq_getElem _
      rw [i3 i _ hi hxs]
      unfold gsum at hx
      rw [List.getElem?_map, List.getElem?_range (by have := hlen.out; have := hlen'.out; omega)] at hx
      have hx2 : xs.getD i 0 ^^^ ys.getD i 0 = x := by simpa using hx
      rw [← hx2]
      have hg1 : xs.getD i 0 = xs[i]'(by have := hlen.out; omega) := by rw [List.getD_eq_getElem?_getD, hxs]; rfl
      by_cases hik : i < k
      · rw [if_pos hik, ← hg1]
      · have hg2 : ys.getD i 0 = 0 := by rw [List.getD_eq_getElem?_getD, List.getElem?_eq_none (by have := hlen'.out; omega)]; rfl
        rw [if_neg hik, hg1, hg2]
        congr 2
        simp


set_option maxRecDepth 100000 in
set_option maxHeartbeats 1000000 in
theorem sum_lt (p : Value) (P : Nat → Prop) (ao bo : Option Addr) (n m cap cap' : Nat) (xs ys : List UInt8) (w : World) (hr : Rb P w ao n xs) (hs : Rb P w bo m ys) (hq : m ≤ 140737488355328) (hmn : n < m) :
    Calls Try.prog 36 #[p, .slice ao n cap, .slice bo m cap'] w fun e w' => ∃ v, e = .returned v ∧ Nb w w' v (gsum xs ys) ∧ Keep (fun _ => False) w w' := by
  obtain ⟨i0, hi0, hz0, hz1, hz2⟩ := info_parts info5
  have hlen := Lib.hid hr.len
  have hlen' := Lib.hid hs.len
  have HR := Lib.hid hr
  have HS := Lib.hid hs
  clear hr hs
  go_enter Try.func36, Try.ntmps36
  go_wp2_with (first
    | (at_builtin; refine wpl_append _ rfl (.tmp 17) (.tmp 18) 33 rfl w.heap.size 5 i0 (.int .u8 0) 1 Try.underlying33 hi0 hz0 hz1 hz2 rfl (.slice (some ⟨w.heap.size, 0, none⟩) 0 0) 0 [] rfl (World.ownsRow_made w #[] 0 (Nat.le_refl _) (Nat.zero_le _) rfl) P bo m cap' (ys.map bv) rfl ((HS).out.keep ((Keep.refl (fun _ => False) w).alloc _) (fun _ _ _ => id)) bytes_one (by unfold maxLen; omega) (by omega) (by simp) ?_; intro v1 w1 hown1 hg1 hnil1 hat1))
  obtain ⟨g, cap1, cur, hv1, hg, hb1, hc1, hm1, hz, ht⟩ : ∃ g cap1 cur, v1 = .slice (some ⟨g, 0, none⟩) m cap1 ∧ w.heap.size ≤ g ∧ w1.heap[g]? = some (.cells cur 5 (0, 0)) ∧ m ≤ cap1 ∧ cap1 ≤ maxLen ∧ cur.size = cap1 ∧ cur.toList.take m = ys.map bv := by
    rcases hown1.2 with ⟨h1, h2⟩ | ⟨g, cap1, cur, h1, h2, h3, h4, h5, h6, h7⟩
    · exact absurd (hnil1.1 h1).1 (by simp)
    · exact ⟨g, cap1, cur, by simpa using h1, h2, h3, by omega, h5, by omega, by simpa using h7⟩
  have hk1 : Hid (Keep (fun _ => False) w w1) := ((Keep.refl _ w).alloc _).grown hg1 (fun k hk h => by simp [Value.ownBlock] at hk; omega)
  have HB1 : Hid (Blk w1 g 5 cur) := hb1
  have HT := Lib.hid ht
  have HZ := Lib.hid hz
  have hs1 : w.heap.size < w1.heap.size := by have := hg1.size; simp at this; omega
  rw [hv1]
  clear hv1 hown1 hg1 hnil1 hat1 hb1 ht hz
  go_wp2_with fail
  go_loopw [8, 9, 22] (fun _ _ i wr => ∃ (k : Nat) (cs : Array Value), k ≤ n ∧ i = .int .i64 (k : Int) ∧
      Hid (Blk wr g 5 cs ∧ cs.size = cap1 ∧ (∀ j x, j < m → ys[j]? = some x → cs[j]? = some (bv (if j < k then x ^^^ xs.getD j 0 else x))) ∧ Keep (fun _ => False) w wr)) (fun _ _ i _ => n - (intOf i).toNat)
  case atStart =>
    refine ⟨0, cur, Nat.zero_le _, rfl, HB1.out, HZ.out, fun j x hj hx => ?_, hk1.out⟩
    have h1 : (cur.toList.take m)[j]? = some (bv x) := by rw [HT.out, List.getElem?_map, hx]; rfl
    rw [List.getElem?_take, if_pos hj, Array.getElem?_toList] at h1
    simpa using h1
  case round =>
    obtain ⟨k, cs, hk, rfl, HI⟩ := hrel
    by_cases hlt : k < n
    · obtain ⟨b, o, c, rfl, _, hx, hc⟩ := (HR).out.at_ hlt
      have hcr : wr.cell? ⟨b, o + k, none⟩ = some (bv c) := (HI.out.2.2.2.cell (World.block_lt_of_cell? w _ hc) id).trans hc
      obtain ⟨d, hd⟩ : ∃ d, ys[k]? = some d := ⟨ys[k]'(by have := hlen'.out; omega), List.getElem?_eq_getElem _⟩
      have HU : wr.cell? ⟨g, k, none⟩ = some (bv d) := by
        have h1 := HI.out.2.2.1 k d (by omega) hd
        rw [if_neg (Nat.lt_irrefl k)] at h1
        exact (HI.out.1.cell k).trans h1
      have HF : wr.frozen? ⟨g, k, none⟩ = false := HI.out.1.frozen k
      have HX := Lib.hid hx
      have HD := Lib.hid hd
      have hj0 : (0 : Int) ≤ (k : Int) := by omega
      have hjn : (k : Int) < (n : Int) := by omega
      have hjm : (k : Int) < (m : Int) := by omega
      clear hx hc hd
      go_wp2_with fail
      rw [bits_xor_u8]
      go_roundw
      case rel =>
        obtain ⟨i1, i2, i3, i4⟩ := HI.out
        refine ⟨k + 1, cs.setIfInBounds k (bv (d ^^^ c)), by omega, by go_num, i1.set_ k _, by simpa using i2, fun j x hj hxj => ?_, i4.setCell (p := ⟨g, k, none⟩) (fun h => absurd (show g < w.heap.size from h) (by omega)) _⟩
        by_cases hjk : j = k
        · subst hjk
          rw [HD.out] at hxj
          cases hxj
          rw [Array.getElem?_setIfInBounds_self_of_lt (by omega), if_pos (by omega)]
          have : xs.getD j 0 = c := by rw [List.getD_eq_getElem?_getD, HX.out]; rfl
          rw [this]
        · rw [Array.getElem?_setIfInBounds_ne (by omega), i3 j x hj hxj]
          by_cases h1 : j < k
          · rw [if_pos h1, if_pos (by omega)]
          · rw [if_neg h1, if_neg (by omega)]
      case measure => simp [intOf]; omega
    · have hkn : (n : Int) ≤ (k : Int) := by omega
      go_wp2_with fail
      go_ret
      obtain ⟨i1, i2, i3, i4⟩ := HI.out
      have hl : (gsum xs ys).length = m := by unfold gsum; rw [List.length_map, List.length_range, hlen.out, hlen'.out]; omega
      refine ⟨_, rfl, ⟨g, cap1, cs, by rw [hl]; rfl, hg, by omega, hm1, i2, i1, fun i x hx => ?_⟩, i4⟩
      have hi : i < m := by
        have := (List.getElem?_eq_some_iff.1 hx).1
        omega
      have hxs : ys[i]? = some (ys[i]'(by have := hlen'.out; omega)) := List.getElem?_eq_getElem _
      rw [i3 i _ hi hxs]
      unfold gsum at hx
      rw [List.getElem?_map, List.getElem?_range (by have := hlen.out; have := hlen'.out; omega)] at hx
      have hx2 : xs.getD i 0 ^^^ ys.getD i 0 = x := by simpa using hx
      rw [← hx2]
      have hg1 : ys.getD i 0 = ys[i]'(by have := hlen'.out; omega) := by rw [List.getD_eq_getElem?_getD, hxs]; rfl
      by_cases hik : i < k
      · rw [if_pos hik, ← hg1, UInt8.xor_comm]
      · have hg2 : xs.getD i 0 = 0 := by rw [List.getD_eq_getElem?_getD, List.getElem?_eq_none (by have := hlen.out; omega)]; rfl
        rw [if_neg hik, hg1, hg2]
        congr 2
        simp


theorem sum_any (p : Value) (P : Nat → Prop) (ao bo : Option Addr) (n m cap cap' : Nat) (xs ys : List UInt8) (w : World) (hr : Rb P w ao n xs) (hs : Rb P w bo m ys) (hn : n ≤ 140737488355328) (hm : m ≤ 140737488355328) :
    Calls Try.prog 36 #[p, .slice ao n cap, .slice bo m cap'] w fun e w' => ∃ v, e = .returned v ∧ Nb w w' v (gsum xs ys) ∧ Keep (fun _ => False) w w' := by
  rcases Nat.lt_or_ge n m with h | h
  · exact sum_lt p P ao bo n m cap cap' xs ys w hr hs hm h
  · exact sum_ge p P ao bo n m cap cap' xs ys w hr hs hn h
end Go.Proofs.Ytegecjilpmkamaa
