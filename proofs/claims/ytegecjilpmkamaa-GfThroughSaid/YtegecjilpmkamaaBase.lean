/-
  The walks of gf's base and Through.
-/
import Derived.Test.YtegecjilpmkamaaPoly
namespace Go.Proofs.Ytegecjilpmkamaa
open Go.RowKit Sb

/-- What base answers for the point at place a: nothing, if it is there twice; else the polynomial that is 1 there, and 0 at the others. -/
def BaseOut (w w' : World) (pts : List UInt8) (a : Nat) (p : UInt8) (v : Value) : Prop :=
  ((∃ i, i ≠ a ∧ pts[i]? = some p) ∧ v = .slice none 0 0) ∨
  ((∀ i, i ≠ a → pts[i]? ≠ some p) ∧ ∃ ys g cap, v = .slice (some ⟨g, 0, none⟩) ys.length cap ∧ Nb w w' v ys ∧ ys.length = pts.length ∧ peval p ys = 1 ∧ ∀ i x, i ≠ a → pts[i]? = some x → peval x ys = 0)

theorem xor_ne {a b : UInt8} (h : a ≠ b) : a ^^^ b ≠ 0 := fun e => h (xor_eq_zero e)

theorem peval_two (x c : UInt8) : peval x [c, 1] = x ^^^ c := by
  show gmul (gmul 0 x ^^^ 1) x ^^^ c = x ^^^ c
  rw [zero_gmul, UInt8.zero_xor, one_gmul]

set_option maxRecDepth 100000 in
set_option maxHeartbeats 2000000 in
theorem base_any (fb : Nat) (P : Nat → Prop) (ao : Option Addr) (n cap a : Nat) (pts : List UInt8) (p : UInt8) (w : World) (hf : FieldAt w fb) (hr : Rb P w ao n pts) (hP : ¬ P fb) (hn2 : n ≤ 140737488355327) (ha : a < n) (hp : pts[a]? = some p) :
    Calls Try.prog 74 #[.pointer (some ⟨fb, 0, none⟩), .slice ao n cap, .int .i64 a] w fun e w' => ∃ v, e = .returned v ∧ BaseOut w w' pts a p v ∧ Fq fb w w' := by
  have hlen := Lib.hid hr.len
  have HR := Lib.hid hr
  have HP' := Lib.hid hp
  have HF := Lib.hid hf
  have hfl := hf.lt
  obtain ⟨b, o, p', hao, _, hx, hc⟩ := hr.at_ ha
  have hpp : p' = p := by rw [hx] at hp; cases hp; rfl
  subst hpp
  subst hao
  have ha0 : (0 : Int) ≤ (a : Int) := by omega
  have han : (a : Int) < (n : Int) := by omega
  have HC := Lib.hid hc
  clear hp hr hc hx hf
  go_enter Try.func74, Try.ntmps74
  go_wp2_with fail
  go_loopw [7, 8, 9, 10, 14] (fun v _ _ _ i wr => ∃ (k g L cap2 : Nat) (ys : List UInt8), k ≤ n ∧ i = .int .i64 (k : Int) ∧ v = .slice (some ⟨g, 0, none⟩) L cap2 ∧
      Hid (Nb w wr (.slice (some ⟨g, 0, none⟩) L cap2) ys ∧ L = ys.length ∧ L = (if k ≤ a then k + 1 else k) ∧ peval p' ys = 1 ∧ (∀ i x, i < k → i ≠ a → pts[i]? = some x → x ≠ p' ∧ peval x ys = 0) ∧ Fq fb w wr)) (fun _ _ _ _ i _ => n - (intOf i).toNat)
  case atStart =>
    refine ⟨0, w.heap.size, 1, 1, [1], Nat.zero_le _, rfl, rfl, ⟨w.heap.size, 1, bcells [1], rfl, Nat.le_refl _, Nat.le_refl _, by unfold maxLen; omega, rfl, Blk.new _ _ _, fun i x hx => bcells_get hx⟩, rfl, by simp, ?_, fun i x h => by omega, ?_⟩
    · show gmul 0 p' ^^^ 1 = 1
      rw [zero_gmul, UInt8.zero_xor]
    · exact ⟨HF.out.keep ((Keep.refl (fun _ => False) w).alloc _) id, fun h => h.alloc _, (Keep.refl _ _).alloc _⟩
  case round =>
    obtain ⟨k, g, L, cap2, ys, hk, rfl, rfl, HI⟩ := hrel
    by_cases hlt : k < n
    · obtain ⟨b2, o2, c, he, hPb, hx, hc⟩ := HR.out.at_ hlt
      cases he
      have hq := HI.out.2.2.2.2.2
      have hcr : wr.cell? ⟨b, o + k, none⟩ = some (bv c) := (hq.keep.cell (World.block_lt_of_cell? w _ hc) (fun e => hP (by subst e; exact hPb))).trans hc
      have hca : wr.cell? ⟨b, o + a, none⟩ = some (bv p') := (hq.keep.cell (World.block_lt_of_cell? w _ HC.out) (fun e => hP (by subst e; exact hPb))).trans HC.out
      have HX := Lib.hid hx
      have hj0 : (0 : Int) ≤ (k : Int) := by omega
      have hjn : (k : Int) < (n : Int) := by omega
      clear hx hc hq
      by_cases hka : k = a
      · have hke : ((k : Int) == (a : Int)) = true := by rw [beq_iff_eq]; omega
        have HK := Lib.hid hka
        clear hka
        go_wp2_with fail
        go_roundw
        case rel =>
          obtain ⟨i1, i2, i3, i4, i5, i6⟩ := HI.out
          have hka := HK.out
          refine ⟨k + 1, g, L, cap2, ys, by omega, by go_num, rfl, i1, i2, ?_, i4, fun i x h1 h2 h3 => i5 i x (by omega) h2 h3, i6⟩
          rw [i3, if_pos (by omega), if_neg (by omega)]
        case measure => simp [intOf]; omega
      · have hke : ((k : Int) == (a : Int)) = false := by rw [beq_eq_false_iff_ne]; omega
        have HK := Lib.hid hka
        have hxx := bits_xor_u8 c p'
        clear hka
        by_cases hcp : c = p'
        · have hz : ((((ginv (c ^^^ p')).toNat : Nat) : Int) == 0) = true := by rw [hcp, xor_self']; rfl
          have HCP := Lib.hid hcp
          clear hcp
          go_wp2_with fail
          refine (inv_any fb (c ^^^ p') _ HI.out.2.2.2.2.2.at_).mono ?_
          rintro e w2 ⟨rfl, hq2⟩
          go_wp2_with fail
          go_ret
          refine ⟨_, rfl, .inl ⟨⟨k, HK.out, ?_⟩, rfl⟩, HI.out.2.2.2.2.2.trans hq2⟩
          rw [HX.out, HCP.out]
        · have hne := ginv_ne (xor_ne hcp)
          have hz := bne0 hne
          have HCP := Lib.hid hcp
          clear hcp hne
          go_wp2_with fail
          refine (inv_any fb (c ^^^ p') _ HI.out.2.2.2.2.2.at_).mono ?_
          rintro e w2 ⟨rfl, hq2⟩
          obtain ⟨i1, i2, i3, i4, i5, i6⟩ := HI.out
          have hnb := i1.keep hq2.keep (fun b h1 _ e => by omega)
          have hq3 := i6.trans hq2
          have HQ := Lib.hid hq3
          have HNB := Lib.hid hnb
          have HLN := Lib.hid i2
          have HLK := Lib.hid i3
          have hL1 : 0 < L := by rw [i3]; split <;> omega
          have hL2 : L ≤ 140737488355328 := by rw [i3]; split <;> omega
          have hs2 := hq3.keep.size
          clear i1 i2 i3 i4 i5 i6 hq2 hnb hq3
          go_wp2_with fail
          have hnb2 := HNB.out.keep ((Keep.refl (fun _ => False) w2).alloc (.cells #[bv c, .int .u8 1] 5)) (fun _ _ _ => id)
          obtain ⟨ao2, n2, cp2, hv2, _, _, hrb⟩ := hnb2.bs
          cases hv2
          have hfa : FieldAt (w2.alloc (.cells #[bv c, .int .u8 1] 5)) fb := HQ.out.at_.keep ((Keep.refl (fun _ => False) w2).alloc _) id
          have hrc : Rb (fun b => w.heap.size ≤ b) (w2.alloc (.cells #[bv c, .int .u8 1] 5)) (some ⟨w2.heap.size, 0, none⟩) 2 [c, 1] := by
            have := Rv.blk (P := fun b => w.heap.size ≤ b) (Blk.new w2 5 #[bv c, .int .u8 1]) hs2 (n := 2) (Nat.le_refl _)
            exact this
          refine (times_ne_any fb (fun b => w.heap.size ≤ b) _ _ L 2 _ _ ys [c, 1] _ hfa hrb hrc (by omega) hL1 (by omega) hL2 (by omega)).mono ?_
          rintro e w3 ⟨v3, ys3, rfl, hb3, ht3, hl3, hp3⟩
          obtain ⟨g3, cap3, cs3, rfl, hg3, h31, h32, h33, hB3, hC3⟩ := hb3
          have hb3' : Nb (w2.alloc (.cells #[bv c, .int .u8 1] 5)) w3 (.slice (some ⟨g3, 0, none⟩) ys3.length cap3) ys3 := ⟨g3, cap3, cs3, rfl, hg3, h31, h32, h33, hB3, hC3⟩
          obtain ⟨ao4, n4, cp4, hv4, _, _, hrb4⟩ := (hb3'.older (w0 := w) (by simp; omega)).bs
          cases hv4
          have HT3 := Lib.hid ht3
          have HL3 := Lib.hid hl3
          have hl3b : ys3.length ≤ 140737488355328 := by rw [hl3]; have := HLK.out; split at this <;> omega
          have HP3 := Lib.hid hp3
          clear ht3 hl3 hg3 h31 h32 h33 hB3 hC3 hb3' hrc hfa hrb hnb2 hp3
          go_wp2_with fail
          refine (scale_any fb (fun b => w.heap.size ≤ b) _ _ _ ys3 (ginv (c ^^^ p')) _ HP3.out.field hrb4 (by omega) hl3b).mono ?_
          rintro e w4 ⟨v4, rfl, hb4, hp4⟩
          have hs3 : w.heap.size ≤ w3.heap.size := by have := HP3.out.keep.size; simp at this; omega
          have hb5 := hb4.older (w0 := w) hs3
          obtain ⟨g4, cap4, cs4, rfl, hg4, h41, h42, h43, hB4, hC4⟩ := hb5
          have hb6 : Nb w w4 (.slice (some ⟨g4, 0, none⟩) (gscale ys3 (ginv (c ^^^ p'))).length cap4) (gscale ys3 (ginv (c ^^^ p'))) := ⟨g4, cap4, cs4, rfl, hg4, h41, h42, h43, hB4, hC4⟩
          have HB6 := Lib.hid hb6
          have HP4 := Lib.hid hp4
          clear hb4 hg4 h41 h42 h43 hB4 hC4 hb6 hp4
          go_wp2_with fail
          go_roundw
          case rel =>
            obtain ⟨i1, i2, i3, i4, i5, i6⟩ := HI.out
            have hka := HK.out
            have hne0 : gmul (p' ^^^ c) (ginv (c ^^^ p')) = 1 := by rw [UInt8.xor_comm, gmul_inv (xor_ne HCP.out)]
            refine ⟨k + 1, g4, _, cap4, _, by omega, by go_num, rfl, HB6.out, rfl, ?_, ?_, fun i x h1 h2 h3 => ?_, HQ.out.trans ?_⟩
            · rw [gscale_length, HL3.out, i3]
              by_cases hk2 : k ≤ a
              · rw [if_pos hk2, if_pos (by omega)]
                omega
              · rw [if_neg hk2, if_neg (by omega)]
                omega
            · rw [peval_scale, HT3.out.1, i4, peval_two, one_gmul, hne0]
            · by_cases hik : i = k
              · subst hik
                rw [HX.out] at h3
                cases h3
                refine ⟨HCP.out, ?_⟩
                rw [peval_scale, HT3.out.1, peval_two, xor_self', gmul_zero, zero_gmul]
              · obtain ⟨j1, j2⟩ := i5 i x (by omega) h2 h3
                refine ⟨j1, ?_⟩
                rw [peval_scale, HT3.out.1, j2, zero_gmul, zero_gmul]
            · have hk5 : Keep (· = fb) w2 w4 := ((Keep.refl _ w2).alloc _).trans (HP3.out.trans HP4.out).keep
              exact ⟨HP4.out.field, fun _ => HP4.out.at_, hk5⟩
          case measure => simp [intOf]; omega
    · have hkn : (n : Int) ≤ (k : Int) := by omega
      go_wp2_with fail
      go_ret
      obtain ⟨i1, i2, i3, i4, i5, i6⟩ := HI.out
      have hke : k = n := by omega
      refine ⟨_, rfl, .inr ⟨fun i h1 h2 => ?_, ys, g, cap2, by rw [← i2]; rfl, i1, ?_, i4, fun i x h1 h2 => ?_⟩, i6⟩
      · have hi : i < n := by have := (List.getElem?_eq_some_iff.1 h2).1; have := hlen.out; omega
        exact (i5 i p' (by omega) h1 h2).1 rfl
      · rw [← i2, i3, if_neg (by omega), hlen.out, hke]
      · have hi : i < n := by have := (List.getElem?_eq_some_iff.1 h2).1; have := hlen.out; omega
        exact (i5 i x (by omega) h1 h2).2
end Go.Proofs.Ytegecjilpmkamaa
