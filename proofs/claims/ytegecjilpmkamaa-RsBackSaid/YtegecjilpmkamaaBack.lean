/-
  The walk of mat's Back.
-/
import Derived.Test.YtegecjilpmkamaaBackp
import Derived.Test.YtegecjilpmkamaaApply
import Derived.Test.YtegecjilpmkamaaSinkb
namespace Go.Proofs.Ytegecjilpmkamaa
open Go.RowKit Sb

theorem Rb.drop {P : Nat → Prop} {w : World} {b o n k : Nat} {xs : List UInt8} (h : Rb P w (some ⟨b, o, none⟩) (n + k) xs) : Rb P w (some ⟨b, o + n, none⟩) k (xs.drop n) := by
  have hl := h.len
  refine ⟨by simp; omega, fun hk => ?_⟩
  obtain ⟨b', o', e, hp, hc⟩ := h.2 (by omega)
  cases e
  refine ⟨b, o + n, rfl, hp, fun i u hu => ?_⟩
  rw [Nat.add_assoc]
  apply hc
  rw [List.map_drop, List.getElem?_drop] at hu
  exact hu

theorem rowOf_drop (n k : Nat) (f : Nat → UInt8) : (rowOf (n + k) f).drop n = rowOf k (fun j => f (n + j)) := by
  apply List.ext_getElem?
  intro i
  rw [List.getElem?_drop]
  by_cases h : i < k
  · rw [rowOf_get _ (by omega), rowOf_get _ h]
  · rw [List.getElem?_eq_none (by rw [rowOf_len]; omega), List.getElem?_eq_none (by rw [rowOf_len]; omega)]

theorem gb_app {N : Nat} {w : World} {v : Value} {n : Nat} {xs ys zs : List UInt8} (h : w.ownsRow N 5 1 v (n + n) (xs.map bv ++ ys.map bv)) (hz : xs ++ ys = zs) (hl : zs.length = n + n) : Gb N w v zs := by
  subst hz
  unfold Gb
  rw [hl, List.map_append]
  exact h

theorem Gb.slice {N : Nat} {w : World} {v : Value} {xs : List UInt8} {n : Nat} (h : Gb N w v xs) (hl : xs.length = n) (h0 : 0 < n) : ∃ q cq, v = .slice (some ⟨q, 0, none⟩) n cq := by
  subst hl
  rcases h.2 with ⟨_, h4⟩ | ⟨q, cap, cur, rfl, _⟩
  · omega
  · exact ⟨q, cap, rfl⟩

set_option maxRecDepth 100000 in
set_option maxHeartbeats 4000000 in
/-- A matrix that is none, or not square. -/
theorem back_no (p : Value) (P : Nat → Prop) (ao : Option Addr) (n cap : Nat) (us : List Value) (m : List (List UInt8)) (w : World) (hr : Mv P w ao n us m) (hn : n ≤ 9223372036854775807) (hm : mright m = false ∨ n ≠ mcols m) :
    Calls Try.prog 60 #[p, .slice ao n cap] w fun e w' => e = .returned (.tuple #[.slice none 0 0, .int .i64 2]) ∧ Keep (fun _ => False) w w' := by
  have HR := Lib.hid hr
  have hnt := hnot
  cases hmm : mright m with
  | false =>
    have HM := Lib.hid hmm
    clear hr hm hmm
    go_enter Try.func60, Try.ntmps60
    go_wp2_with fail
    refine (right_false P ao n cap us m w HR.out hn HM.out).mono ?_
    rintro e w1 ⟨rfl, hk⟩
    have HK := Lib.hid hk
    clear hk
    go_wp2_with fail
    go_ret2
    exact ⟨rfl, HK.out⟩
  | true =>
    have HM := Lib.hid hmm
    have hb := right_bounds hr.len hmm
    obtain ⟨b, o, ao', n', cap', r, rfl, _, hu, hm0, hc, _, hmx, hrb⟩ := hr.at_ (k := 0) (by omega)
    rw [Nat.add_zero] at hc
    have hmc := mcols_at hm0
    rw [hrb.len] at hmc
    have hne : ((n : Int) != (n' : Int)) = true := by
      rw [bne_iff_ne]
      rcases hm with h | h
      · rw [h] at hmm; cases hmm
      · omega
    have p1 : (0 : Int) < (n : Int) := by omega
    have HLT := Lib.hid (World.block_lt_of_cell? _ _ hc)
    have HC := Lib.hid hc
    clear hr hm hmm hu hm0 hrb hmc hmx hb hc
    go_enter Try.func60, Try.ntmps60
    go_wp2_with fail
    refine (right_true P _ n cap us m w HR.out hn HM.out).mono ?_
    rintro e w1 ⟨rfl, hk⟩
    have HK := Lib.hid hk
    have hc1 := (hk.cell (p := ⟨b, o, none⟩) HLT.out id).trans HC.out
    clear hk
    go_wp2_with fail
    go_ret2
    exact ⟨rfl, HK.out⟩

set_option maxRecDepth 100000 in
set_option maxHeartbeats 8000000 in
/-- A square matrix: it is turned back, or its rank is less. -/
theorem back_yes (fb : Nat) (P : Nat → Prop) (ao : Option Addr) (n cap : Nat) (us : List Value) (m : List (List UInt8)) (w : World) (hf : FieldAt w fb) (hr : Mv P w ao n us m) (hm : mright m = true) (hsq : mcols m = n) :
    Calls Try.prog 60 #[.pointer (some ⟨fb, 0, none⟩), .slice ao n cap] w fun e w' => Fq fb w w' ∧
      ((e = .returned (.tuple #[.slice none 0 0, .int .i64 18]) ∧ mrank n n (ent m) < n) ∨
       ∃ g X, e = .returned (.tuple #[.slice (some ⟨g, 0, none⟩) n n, .int .i64 0]) ∧ w.heap.size ≤ g ∧ Om w.heap.size w' g n n X ∧ Eqm n n (mulE n (ent m) X) idE ∧ Eqm n n (mulE n X (ent m)) idE) := by
  have hb := right_bounds hr.len hm
  have hM := of_mright hm
  have hrows := hM.2.2
  rw [hsq] at hrows
  obtain ⟨b, o, ao', n', cap', r, rfl, hPb, hu, hm0, hcc, hcap, hmx, hrb⟩ := hr.at_ (k := 0) (by omega)
  have hn' : n' = n := by
    have h1 := mcols_at hm0
    rw [hrb.len] at h1
    omega
  subst hn'
  rw [Nat.add_zero] at hcc
  have hblt := World.block_lt_of_cell? w _ hcc
  have HF := Lib.hid hf
  have HR := Lib.hid hr
  have HM := Lib.hid hm
  have HROWS := Lib.hid hrows
  have HN : Hid (1 ≤ n' ∧ n' ≤ 255) := ⟨hb.1, hb.2.1⟩
  have HCC := Lib.hid hcc
  have HLT := Lib.hid hblt
  have p0 : (0 : Int) < (n' : Int) := by omega
  have p1 : (n' : Int) ≤ 255 := by omega
  have hnt := hnot
  clear hf hr hm hM hrows hu hm0 hrb hPb hcap hmx hb hcc hblt hsq
  go_enter Try.func60, Try.ntmps60
  go_wp2_with fail
  refine (right_true P _ n' cap us m w HR.out (by have := HN.out; omega) HM.out).mono ?_
  rintro e w1 ⟨rfl, hk⟩
  have HK := Lib.hid hk
  have hc1 := (hk.cell (p := ⟨b, o, none⟩) HLT.out id).trans HCC.out
  clear hk
  go_wp2_with fail
  clear hc1
  refine (clone_79 P _ n' cap n' us m w1 (HR.out.keep HK.out (fun _ _ _ => id)) (by have := HN.out; omega) (by have := HN.out; omega) HROWS.out).mono ?_
  rintro e w2 ⟨g, G, rfl, hfl, hk2⟩
  have HW : Hid (Wid w1.heap.size w2 g G n' (ent m) 0) := Wid.start hfl
  have HG : Hid (w1.heap.size ≤ g) := hfl.1
  have HK2 := Lib.hid (HK.out.trans hk2)
  have HF2 : Hid (FieldAt w2 fb) := HF.out.keep HK2.out id
  have HUP : Hid (Blk w fb 102 full → Blk w2 fb 102 full) := fun h => h.keep HK2.out id
  have HFB : Hid (fb < w1.heap.size) := by
    have h1 := HF.out.lt
    have h2 := HK.out.size
    show fb < w1.heap.size
    omega
  have HS1 : Hid (w.heap.size ≤ w1.heap.size) := HK.out.size
  clear hfl hk2
  have hmk := make_bytes n' (by have := HN.out; omega)
  go_wp2_with fail
  go_loopw [8, 9, 31] (fun _ _ i wr => ∃ k : Nat, k ≤ n' ∧ i = .int .i64 (k : Int) ∧
      Hid (Wid w1.heap.size wr g G n' (ent m) k ∧ FieldAt wr fb ∧ (Blk w fb 102 full → Blk wr fb 102 full) ∧ Keep (fun _ => False) w wr)) (fun _ _ i _ => n' - (intOf i).toNat)
  case atStart => exact ⟨0, Nat.zero_le _, rfl, HW.out, HF2.out, HUP.out, HK2.out⟩
  case round =>
    obtain ⟨k, hk, rfl, HI⟩ := hrel
    by_cases hlt : k < n'
    · have k0 : (0 : Int) ≤ (k : Int) := by omega
      have kn : (k : Int) < (n' : Int) := by omega
      have HLT2 := Lib.hid hlt
      have hnw := Blk.new wr 5 (madeCells #[.int .u8 0] n')
      have hcm : (wr.alloc (.cells (madeCells #[.int .u8 0] n') 5)).cell? ⟨wr.heap.size, k, none⟩ = some (bv 0) := (hnw.cell k).trans (made_at hlt)
      have hfm : (wr.alloc (.cells (madeCells #[.int .u8 0] n') 5)).frozen? ⟨wr.heap.size, k, none⟩ = false := hnw.frozen k
      have HK1 : Hid (Keep (fun _ => False) wr (wr.alloc (.cells ((madeCells #[.int .u8 0] n').setIfInBounds k (.int .u8 1)) 5))) := (Keep.refl _ wr).alloc _
      have hws := HI.out.1.keep HK1.out
      have hcg := (hws.at_ hlt).1
      have HONE : Hid (Blk (wr.alloc (.cells ((madeCells #[.int .u8 0] n').setIfInBounds k (.int .u8 1)) 5)) wr.heap.size 5 (bcells (oneRow n' k))) := by
        rw [one_cells hlt]
        exact Blk.new _ _ _
      have HWS := Lib.hid hws
      clear hnw hlt hws
      obtain ⟨i0, hi0, hz0, hz1, hz2⟩ := info_parts info5
      go_wp2_with (first
        | (at_builtin; refine wpl_append _ rfl (.tmp 44) (.tmp 45) 33 rfl w1.heap.size 5 i0 (.int .u8 0) 1 Try.underlying33 hi0 hz0 hz1 hz2 rfl (.slice (some ⟨G k, 0, none⟩) n' n') n' ((rowOf n' (ent m k)).map bv) rfl (by have h9 := Gb.of_blk (HWS.out.at_ HLT2.out).2.2.2.1 (HWS.out.at_ HLT2.out).2.2.1 (by rw [rowOf_len]; unfold maxLen; omega); rw [rowOf_len] at h9; unfold Gb at h9; rw [rowOf_len] at h9; exact h9) (fun _ => True) (some ⟨wr.heap.size, 0, none⟩) n' n' ((oneRow n' k).map bv) rfl (HONE.out.rb (by simp [oneRow]) trivial) bytes_one (by unfold maxLen; omega) (by omega) (by have := HI.out.2.2.2.size; have := HS1.out; simp; have := HWS.out.1; have := (HI.out.1.at_ HLT2.out).2.2.2.2.1; omega) ?_; intro v' w' hown hgr hnil hat; have hgb : Gb w1.heap.size w' v' (rowOf (n' + n') (wideE n' (ent m) k)) := gb_app hown (wide_row n' (ent m) k) (rowOf_len _ _); have hkp : Keep (fun b => b = G k) _ w' := (Keep.refl _ _).grown hgr (fun b hb _ => (Option.some.inj hb).symm); obtain ⟨q, cq, rfl⟩ := hgb.slice (rowOf_len _ _) (by omega); have hcw := (hkp.cell (p := ⟨g, k, none⟩) (HWS.out.at_ HLT2.out).2.2.2.2.1 (HWS.out.at_ HLT2.out).2.2.2.2.2).trans hcg; have hfw := (hkp.frozen (p := ⟨g, k, none⟩) (HWS.out.at_ HLT2.out).2.2.2.2.1 (HWS.out.at_ HLT2.out).2.2.2.2.2).trans (HWS.out.at_ HLT2.out).2.1))
      have HST := Lib.hid (HWS.out.step HLT2.out hkp hgb (fun b hb => by rcases hat with e | e; exact .inl (Option.some.inj (hb.symm.trans e)); exact .inr (Nat.le_of_eq (Option.some.inj (hb.symm.trans e)).symm)))
      have HKP := Lib.hid hkp
      have HGK : Hid (w1.heap.size ≤ G k) := (HWS.out.at_ HLT2.out).2.2.1
      clear hgb hkp hown hgr hnil hat hcw hfw hcm hfm hcg hmk
      have hmk := make_bytes n' (by have := HN.out; omega)
      go_roundw
      case rel =>
        have hset : Keep (· = g) w' (w'.setCell ⟨g, k, none⟩ (.slice (some ⟨q, 0, none⟩) (n' + n') cq)) := (Keep.refl (· = g) w').setCell (p := ⟨g, k, none⟩) (fun _ => rfl) _
        refine ⟨k + 1, by have := HLT2.out; omega, by go_num, HST.out, ?_, ?_, ?_⟩
        · exact ((HI.out.2.1.keep HK1.out id).keep HKP.out (fun e => by have := HGK.out; have := HFB.out; omega)).keep hset (fun e => by have := HG.out; have := HFB.out; omega)
        · intro h
          exact (((HI.out.2.2.1 h).keep HK1.out id).keep HKP.out (fun e => by have := HGK.out; have := HFB.out; omega)).keep hset (fun e => by have := HG.out; have := HFB.out; omega)
        · refine ((HI.out.2.2.2.trans HK1.out).trans' HKP.out (fun i hi e => by have := HGK.out; have := HS1.out; omega)).trans' hset (fun i hi e => by have := HG.out; have := HS1.out; omega)
      case measure => have := HLT2.out; simp [intOf]; omega
    · have hkn : (n' : Int) ≤ (k : Int) := by omega
      have hke : k = n' := by omega
      rw [hke] at HI
      have HO : Hid (Om w1.heap.size wr g n' (n' + n') (wideE n' (ent m))) := HI.out.1.done
      have HFR := Lib.hid HI.out.2.1
      have HUR := Lib.hid HI.out.2.2.1
      have HKR := Lib.hid HI.out.2.2.2
      clear hke HI HW hmk
      go_wp2_with fail
      clear hkn hlt hk
      go_loopw [10, 50] (fun _ i wx => ∃ (k : Nat) (E : Nat → Nat → UInt8), k ≤ n' ∧ i = .int .i64 (k : Int) ∧
          Hid (Bst n' (ent m) k E ∧ Om w1.heap.size wx g n' (n' + n') E ∧ FieldAt wx fb ∧ (Blk w fb 102 full → Blk wx fb 102 full) ∧ Keep (· = fb) w wx)) (fun _ i _ => n' - (intOf i).toNat)
      case atStart => exact ⟨0, _, Nat.zero_le _, rfl, Bst.start _ _, HO.out, HFR.out, HUR.out, HKR.out.mono (fun _ _ h => h.elim)⟩
      case round =>
        obtain ⟨k, E, hk, rfl, HI⟩ := hrel
        by_cases hlt : k < n'
        · have k0 : (0 : Int) ≤ (k : Int) := by omega
          have kn : (k : Int) < (n' : Int) := by omega
          have HLT2 := Lib.hid hlt
          rcases sinkAt_cases E n' k k with hs | ⟨j, hs, hj⟩
          · have HS := Lib.hid hs
            clear hs hlt
            go_wp2_with fail
            refine (sink_none_true fb w1.heap.size g n' n' (n' + n') k k _ wr HI.out.2.1 HG.out HLT2.out (by omega) (by omega) (by omega) (Nat.le_refl _) HS.out).mono ?_
            rintro e w3 ⟨rfl, hk3⟩
            have HQ : Hid (Fq fb w w3) := ⟨HI.out.2.2.1.keep hk3 id, fun h => (HI.out.2.2.2.1 h).keep hk3 id, HI.out.2.2.2.2.trans (hk3.mono (fun _ _ h => h.elim))⟩
            clear hk3
            go_wp2_with fail
            go_ret2
            exact ⟨HQ.out, .inl ⟨rfl, HI.out.1.fail HLT2.out HS.out⟩⟩
          · have HS := Lib.hid hs
            have HJ := Lib.hid hj
            clear hs hj hlt
            go_wp2_with fail
            refine (sink_some_true fb w1.heap.size g n' n' (n' + n') k k j E wr HI.out.2.2.1 HFB.out HI.out.2.1 HG.out HLT2.out (by omega) (by omega) (by omega) (Nat.le_refl _) HS.out HJ.out).mono ?_
            rintro e w3 ⟨rfl, hf3, hu3, hk3, ho3⟩
            have HF3 := Lib.hid hf3
            have HU3 := Lib.hid hu3
            have HK3 := Lib.hid hk3
            have HO3 := Lib.hid ho3
            clear hf3 hu3 hk3 ho3
            go_wp2_with fail
            go_roundw
            case rel =>
              refine ⟨k + 1, _, by have := HLT2.out; omega, by go_num, HI.out.1.step HLT2.out HS.out, HO3.out, HF3.out, fun h => HU3.out (HI.out.2.2.2.1 h), HI.out.2.2.2.2.trans' HK3.out (fun i hi e => ?_)⟩
              rcases e with e | e
              · exact e
              · have := HG.out
                have := HS1.out
                omega
            case measure => have := HLT2.out; simp [intOf]; omega
        · have hkn : (n' : Int) ≤ (k : Int) := by omega
          have hke : k = n' := by omega
          rw [hke] at HI
          have HB := Lib.hid HI.out.1
          have HO2 := Lib.hid HI.out.2.1
          have HF3 := Lib.hid HI.out.2.2.1
          have HU3 := Lib.hid HI.out.2.2.2.1
          have HK3 := Lib.hid HI.out.2.2.2.2
          clear hke HI hk
          go_wp2_with fail
          clear hkn hlt
          go_loopw [11, 12, 62] (fun _ _ i wx => ∃ k : Nat, k ≤ n' ∧ i = .int .i64 (k : Int) ∧
              Hid (Ow (fun b => w1.heap.size ≤ b) wx g n' (fun i => if i < k then rowOf n' (fun j => E i (n' + j)) else rowOf (n' + n') (E i)) ∧ FieldAt wx fb ∧ (Blk w fb 102 full → Blk wx fb 102 full) ∧ Keep (· = fb) w wx)) (fun _ _ i _ => n' - (intOf i).toNat)
          case atStart => exact ⟨0, Nat.zero_le _, rfl, HO2.out.ow.congr (fun i _ => by rw [if_neg (Nat.not_lt_zero _)]), HF3.out, HU3.out, HK3.out⟩
          case round =>
            obtain ⟨k, hk, rfl, HI⟩ := hrel
            by_cases hlt : k < n'
            · have k0 : (0 : Int) ≤ (k : Int) := by omega
              have kn : (k : Int) < (n' : Int) := by omega
              have HLT2 := Lib.hid hlt
              obtain ⟨ao, l, cap3, hcg, hfg, hlc, hcm, hrb⟩ := HI.out.1.at_ hlt
              rw [if_neg (Nat.lt_irrefl k)] at hrb
              have hl : l = n' + n' := by rw [← hrb.len, rowOf_len]
              subst hl
              obtain ⟨qa, oa, x, rfl, hpa, _⟩ := hrb.at_ (k := 0) (by omega)
              have hrd := hrb.drop
              rw [rowOf_drop] at hrd
              have HRD := Lib.hid hrd
              have c1 : ((n' : Int) + n' : Int) ≤ (cap3 : Int) := by omega
              have c2 : (n' : Int) ≤ (cap3 : Int) := by omega
              have HGL := Lib.hid (World.block_lt_of_cell? _ _ hcg)
              have HCG := Lib.hid hcg
              have HFG := Lib.hid hfg
              clear hlt hrb hrd hpa
              go_wp2_with fail
              refine (clone_89 (fun b => w1.heap.size ≤ b ∧ b ≠ g) _ n' _ (rowOf n' (fun j => E k (n' + j))) wr HRD.out (by omega) (by omega)).mono ?_
              rintro e w4 ⟨v4, rfl, hgb, hk4⟩
              obtain ⟨q4, cq4, rfl⟩ := hgb.slice (rowOf_len _ _) (by omega)
              have hcg4 := (hk4.cell (p := ⟨g, k, none⟩) HGL.out id).trans HCG.out
              have hfg4 := (hk4.frozen (p := ⟨g, k, none⟩) HGL.out id).trans HFG.out
              have HW4 := Lib.hid (HI.out.1.keep hk4 id (fun _ _ _ _ => id))
              have HB4 : Hid (Bs (fun b => w1.heap.size ≤ b ∧ b ≠ g) w4 (.slice (some ⟨q4, 0, none⟩) n' cq4) (rowOf n' (fun j => E k (n' + j)))) := hgb.bs.mono (fun b _ (hb : wr.heap.size ≤ b) => ⟨Nat.le_trans (Nat.le_trans HG.out (Nat.le_of_lt HGL.out)) hb, fun e => by have : g < wr.heap.size := HGL.out; omega⟩)
              have HK4 := Lib.hid hk4
              clear hgb hk4 hcg hfg
              go_wp2_with fail
              go_roundw
              case rel =>
                have hset : Keep (· = g) w4 (w4.setCell ⟨g, k, none⟩ (.slice (some ⟨q4, 0, none⟩) n' cq4)) := (Keep.refl (· = g) w4).setCell (p := ⟨g, k, none⟩) (fun _ => rfl) _
                refine ⟨k + 1, by have := HLT2.out; omega, by go_num, (HW4.out.set_ HB4.out).congr (fun i _ => ?_), (HI.out.2.1.keep HK4.out id).keep hset (fun e => by have := HG.out; have := HFB.out; omega), fun h => ((HI.out.2.2.1 h).keep HK4.out id).keep hset (fun e => by have := HG.out; have := HFB.out; omega), (HI.out.2.2.2.trans (HK4.out.mono (fun _ _ h => h.elim))).trans' hset (fun i hi e => by have := HG.out; have := HS1.out; omega)⟩
                by_cases h1 : i = k
                · rw [if_pos h1, if_pos (by omega), h1]
                · rw [if_neg h1]
                  by_cases h2 : i < k
                  · rw [if_pos h2, if_pos (by omega)]
                  · rw [if_neg h2, if_neg (by omega)]
              case measure => have := HLT2.out; simp [intOf]; omega
            · have hkn : (n' : Int) ≤ (k : Int) := by omega
              have hke : k = n' := by omega
              rw [hke] at HI
              have HO3 := Lib.hid HI.out.1
              have HQ : Hid (Fq fb w wr) := ⟨HI.out.2.1, HI.out.2.2.1, HI.out.2.2.2⟩
              clear hke HI
              go_wp2_with fail
              go_ret2
              refine ⟨HQ.out, .inr ⟨g, fun i j => E i (n' + j), rfl, Nat.le_trans HS1.out HG.out, ?_, HB.out.done.1, HB.out.done.2⟩⟩
              have h9 : Ow (fun b => w1.heap.size ≤ b) wr g n' (fun i => rowOf n' (fun j => E i (n' + j))) := HO3.out.congr (fun i hi => if_pos hi)
              obtain ⟨us9, q1, q2, q3⟩ := h9
              exact ⟨us9, q1, q2, fun i u hu => (q3 i u hu).mono (fun b _ hb => ⟨Nat.le_trans HS1.out hb.1, hb.2⟩)⟩
end Go.Proofs.Ytegecjilpmkamaa
