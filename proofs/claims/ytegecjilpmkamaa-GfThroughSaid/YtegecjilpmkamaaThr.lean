/-
  The walk of gf's Through.
-/
import Derived.Test.YtegecjilpmkamaaBase
namespace Go.Proofs.Ytegecjilpmkamaa
open Go.RowKit Sb

/-- Points, as many as values, at least one, and unlike. -/
def Dst (pts vals : List UInt8) : Prop := pts.length = vals.length ∧ 0 < pts.length ∧ ∀ (i j : Nat) (x : UInt8), i ≠ j → pts[i]? = some x → pts[j]? ≠ some x

/-- What Through answers. -/
def ThOut (w w' : World) (pts vals : List UInt8) (v : Value) : Prop :=
  (¬ Dst pts vals ∧ v = .slice none 0 0) ∨
  (Dst pts vals ∧ ∃ ys g cap, v = .slice (some ⟨g, 0, none⟩) ys.length cap ∧ Nb w w' v ys ∧ ys.length = pts.length ∧ ∀ (i : Nat) (x y : UInt8), pts[i]? = some x → vals[i]? = some y → peval x ys = y)

set_option maxRecDepth 100000 in
set_option maxHeartbeats 2000000 in
theorem through_no (p : Value) (ao bo : Option Addr) (n m cap cap' : Nat) (w : World) (h : n ≠ m ∨ n = 0) :
    Calls Try.prog 39 #[p, .slice ao n cap, .slice bo m cap'] w fun e w' => e = .returned (.slice none 0 0) ∧ w = w' := by
  by_cases hnm : n = m
  · subst hnm
    have h0 : n = 0 := h.resolve_left (fun h => h rfl)
    subst h0
    clear h
    go_enter Try.func39, Try.ntmps39
    go_wp2_with fail
    go_ret
    exact ⟨rfl, rfl⟩
  · have h1 : ((n : Int) != (m : Int)) = true := by rw [bne_iff_ne]; omega
    clear h hnm
    go_enter Try.func39, Try.ntmps39
    go_wp2_with fail
    go_ret
    exact ⟨rfl, rfl⟩

set_option maxRecDepth 100000 in
set_option maxHeartbeats 2000000 in
theorem through_yes (fb : Nat) (P : Nat → Prop) (ao bo : Option Addr) (n cap cap' : Nat) (pts vals : List UInt8) (w : World) (hf : FieldAt w fb) (hr : Rb P w ao n pts) (hs : Rb P w bo n vals) (hP : ¬ P fb) (hn2 : n ≤ 140737488355327) (hn0 : 0 < n) :
    Calls Try.prog 39 #[.pointer (some ⟨fb, 0, none⟩), .slice ao n cap, .slice bo n cap'] w fun e w' => ∃ v, e = .returned v ∧ ThOut w w' pts vals v ∧ Fq fb w w' := by
  have hlen := Lib.hid hr.len
  have hlen' := Lib.hid hs.len
  have HR := Lib.hid hr
  have HS := Lib.hid hs
  have HF := Lib.hid hf
  have hfl := hf.lt
  have hmk : ∀ w : World, (Instr.makeSlice 33 (.int .i64 (n : Int)) (.int .i64 (n : Int))).run Try.prog w = .ok (.slice (some ⟨w.heap.size, 0, none⟩) n n) (w.alloc (.cells (bcells (List.replicate n 0)) 5)) := by
    intro w
    rw [← made_bcells]
    exact run_make_row' (P := Try.prog) 33 5 (.int .u8 0) 1 Try.underlying33 info5 rfl .i64 .i64 n (by omega) (by omega) w
  have h1 : ((n : Int) == 0) = false := by rw [beq_eq_false_iff_ne]; omega
  have hnl := fun w a n c => Lib.run_eql_slice_nil (P := Try.prog) w 33 5 a n c 0 0 Try.underlying33
  clear hr hs hf
  go_enter Try.func39, Try.ntmps39
  go_wp2_with fail
  clear hmk
  go_loopw [7, 8, 9, 10, 26] (fun v _ _ _ i wr => ∃ (k g cap2 : Nat) (ys : List UInt8), k ≤ n ∧ i = .int .i64 (k : Int) ∧ v = .slice (some ⟨g, 0, none⟩) n cap2 ∧
      Hid (Nb w wr (.slice (some ⟨g, 0, none⟩) n cap2) ys ∧ ys.length = n ∧ (∀ i x y, pts[i]? = some x → vals[i]? = some y → peval x ys = if i < k then y else 0) ∧ (∀ i j x, i < k → i ≠ j → pts[i]? = some x → pts[j]? ≠ some x) ∧ Fq fb w wr)) (fun _ _ _ _ i _ => n - (intOf i).toNat)
  case atStart =>
    refine ⟨0, w.heap.size, n, List.replicate n 0, Nat.zero_le _, rfl, rfl, ⟨w.heap.size, n, bcells (List.replicate n 0), by rw [List.length_replicate], Nat.le_refl _, by rw [List.length_replicate]; exact Nat.le_refl _, by unfold maxLen; omega, by rw [bcells_size, List.length_replicate], Blk.new _ _ _, fun i x hx => bcells_get hx⟩, List.length_replicate, fun i x y _ _ => ?_, fun i j x h => by omega, ?_⟩
    · rw [peval_replicate, if_neg (by omega)]
    · exact ⟨HF.out.keep ((Keep.refl (fun _ => False) w).alloc _) id, fun h => h.alloc _, (Keep.refl _ _).alloc _⟩
  case round =>
    obtain ⟨k, g, cap2, ys, hk, rfl, rfl, HI⟩ := hrel
    by_cases hlt : k < n
    · obtain ⟨b, o, c, rfl, hPb, hx, hc⟩ := HS.out.at_ hlt
      obtain ⟨i1, i2, i3, i4, hq⟩ := HI.out
      have hcr : wr.cell? ⟨b, o + k, none⟩ = some (bv c) := (hq.keep.cell (World.block_lt_of_cell? w _ hc) (fun e => hP (by subst e; exact hPb))).trans hc
      obtain ⟨pt, hpt⟩ : ∃ pt, pts[k]? = some pt := ⟨pts[k]'(by have := hlen.out; omega), List.getElem?_eq_getElem _⟩
      have hrr : Rb P wr ao n pts := HR.out.keep hq.keep (fun b _ hb e => hP (e ▸ hb))
      have hb := Lib.hid (base_any fb P ao n cap k pts pt wr hq.at_ hrr hP hn2 hlt hpt)
      have HX := Lib.hid hx
      have HPT := Lib.hid hpt
      have HQ := Lib.hid hq
      have HNB := Lib.hid i1
      have hs1 := hq.keep.size
      have hj0 : (0 : Int) ≤ (k : Int) := by omega
      have hjn : (k : Int) < (n : Int) := by omega
      clear hx hc hq hrr hpt i1 i2 i3 i4
      go_wp2_with fail
      refine hb.out.mono ?_
      rintro e w2 ⟨v2, rfl, hbo, hq2⟩
      rcases hbo with ⟨⟨i, hi1, hi2⟩, rfl⟩ | ⟨hu, zs, g2, cap3, rfl, hnb2, hzl, hz1, hz2⟩
      · go_wp2_with fail
        go_ret
        refine ⟨_, rfl, .inl ⟨fun hd => ?_, rfl⟩, HQ.out.trans hq2⟩
        exact hd.2.2 k i pt (fun e => hi1 e.symm) HPT.out hi2
      · have HQ2 := Lib.hid hq2
        have hs2 := hq2.keep.size
        have HU := Lib.hid hu
        have HZ1 := Lib.hid hz1
        have HZ2 := Lib.hid hz2
        have HZL := Lib.hid hzl
        have hnb3 := hnb2.older (w0 := w) hs1
        obtain ⟨ao4, n4, cp4, hv4, _, _, hrb4⟩ := hnb3.bs
        cases hv4
        have hnb4 := HNB.out.keep hq2.keep (fun b h1 _ e => by omega)
        obtain ⟨ao5, n5, cp5, hv5, _, _, hrb5⟩ := hnb4.bs
        cases hv5
        have HRB5 := Lib.hid hrb5
        have HRB4 := Lib.hid hrb4
        have HNB4 := Lib.hid hnb4
        clear hq2 hu hz1 hz2 hnb2 hnb3 hrb4 hrb5 hnb4 hzl
        go_wp2_with fail
        refine (scale_any fb (fun b => w.heap.size ≤ b) _ _ _ zs c _ HQ2.out.at_ HRB4.out (by omega) (by rw [HZL.out, hlen.out]; omega)).mono ?_
        rintro e w3 ⟨v3, rfl, hb3, hp3⟩
        have hs3 := hp3.keep.size
        obtain ⟨g3, cap3', cs3, rfl, hg3, h31, h32, h33, hB3, hC3⟩ := hb3.older (w0 := w) (by omega)
        have hb3' : Nb w w3 (.slice (some ⟨g3, 0, none⟩) (gscale zs c).length cap3') (gscale zs c) := ⟨g3, cap3', cs3, rfl, hg3, h31, h32, h33, hB3, hC3⟩
        obtain ⟨ao6, n6, cp6, hv6, _, _, hrb6⟩ := hb3'.bs
        cases hv6
        have HRB7 := Lib.hid (HRB5.out.keep hp3.keep (fun b h1 h2 e => by omega))
        have HRB6 := Lib.hid hrb6
        have HP3 := Lib.hid hp3
        clear hb3 hg3 h31 h32 h33 hB3 hC3 hb3' hrb6 hp3
        go_wp2_with fail
        refine (sum_any _ (fun b => w.heap.size ≤ b) _ _ n _ _ _ ys (gscale zs c) _ HRB7.out HRB6.out (by omega) (by rw [gscale_length, HZL.out, hlen.out]; omega)).mono ?_
        rintro e w4 ⟨v4, rfl, hb4, hk4⟩
        obtain ⟨i1, i2, i3, i4, hq⟩ := HI.out
        have hln : (gsum ys (gscale zs c)).length = n := by rw [gsum_length, gscale_length, HZL.out, hlen.out, i2]; omega
        obtain ⟨g4, cap4, cs4, rfl, hg4, h41, h42, h43, hB4, hC4⟩ := hb4.older (w0 := w) (by omega)
        have hb5 : Nb w w4 (.slice (some ⟨g4, 0, none⟩) (gsum ys (gscale zs c)).length cap4) (gsum ys (gscale zs c)) := ⟨g4, cap4, cs4, rfl, hg4, h41, h42, h43, hB4, hC4⟩
        rw [hln] at hb5 ⊢
        have HB5 := Lib.hid hb5
        have HLN := Lib.hid hln
        have HK4 := Lib.hid hk4
        clear hb4 hg4 h41 h42 h43 hB4 hC4 hb5 hk4 hln i1 i2 i3 i4 hq
        go_wp2_with fail
        go_roundw
        case rel =>
          obtain ⟨i1, i2, i3, i4, hq⟩ := HI.out
          have hq4 : Fq fb w w4 := by
            have h5 := (hq.trans HQ2.out).trans HP3.out.q
            exact ⟨h5.at_.keep HK4.out id, fun h => (h5.up h).keep HK4.out id, h5.keep.trans (HK4.out.mono (fun _ _ h => absurd h id))⟩
          refine ⟨k + 1, g4, cap4, _, by omega, by go_num, rfl, HB5.out, HLN.out, fun i x y hx hy => ?_, fun i j x h1 h2 h3 => ?_, hq4⟩
          · rw [peval_sum, peval_scale, i3 i x y hx hy]
            by_cases hik : i = k
            · subst hik
              rw [HPT.out] at hx
              cases hx
              rw [HX.out] at hy
              cases hy
              rw [HZ1.out, one_gmul, if_neg (Nat.lt_irrefl _), if_pos (by omega), UInt8.zero_xor]
            · rw [HZ2.out i x hik hx, zero_gmul, UInt8.xor_zero]
              by_cases h : i < k
              · rw [if_pos h, if_pos (by omega)]
              · rw [if_neg h, if_neg (by omega)]
          · by_cases hik : i = k
            · subst hik
              rw [HPT.out] at h3
              cases h3
              exact HU.out j (fun e => h2 e.symm)
            · exact i4 i j x (by omega) h2 h3
        case measure => simp [intOf]; omega
    · have hkn : (n : Int) ≤ (k : Int) := by omega
      go_wp2_with fail
      go_ret
      obtain ⟨i1, i2, i3, i4, hq⟩ := HI.out
      have hke : k = n := by omega
      have hi : ∀ {i : Nat} {x : UInt8}, pts[i]? = some x → i < k := fun h => by have := (List.getElem?_eq_some_iff.1 h).1; have := hlen.out; omega
      refine ⟨_, rfl, .inr ⟨⟨by rw [hlen.out, hlen'.out], by rw [hlen.out]; exact hn0, fun i j x h1 h2 => i4 i j x (hi h2) h1 h2⟩, ys, g, cap2, by rw [i2]; rfl, i1, by rw [i2, hlen.out], fun i x y hx hy => ?_⟩, hq⟩
      rw [i3 i x y hx hy, if_pos (hi hx)]

theorem through_any (fb : Nat) (P : Nat → Prop) (ao bo : Option Addr) (n m cap cap' : Nat) (pts vals : List UInt8) (w : World) (hf : FieldAt w fb) (hr : Rb P w ao n pts) (hs : Rb P w bo m vals) (hP : ¬ P fb) (hn2 : n ≤ 140737488355327) :
    Calls Try.prog 39 #[.pointer (some ⟨fb, 0, none⟩), .slice ao n cap, .slice bo m cap'] w fun e w' => ∃ v, e = .returned v ∧ ThOut w w' pts vals v ∧ Fq fb w w' := by
  by_cases h : n ≠ m ∨ n = 0
  · refine (through_no _ ao bo n m cap cap' w h).mono ?_
    rintro e w' ⟨rfl, rfl⟩
    refine ⟨_, rfl, .inl ⟨fun hd => ?_, rfl⟩, Fq.refl hf⟩
    have h1 := hr.len
    have h2 := hs.len
    have h3 := hd.1
    have h4 := hd.2.1
    omega
  · obtain rfl : n = m := by omega
    exact through_yes fb P ao bo n cap cap' pts vals w hf hr hs hP hn2 (by omega)
end Go.Proofs.Ytegecjilpmkamaa
