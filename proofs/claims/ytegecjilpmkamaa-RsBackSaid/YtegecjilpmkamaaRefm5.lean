/-
  The walks of the reference's One and Cauchy (saddlebagref05).
-/
import Derived.Test.YtegecjilpmkamaaGrow
namespace Go.Proofs.Ytegecjilpmkamaa
open Go.RowKit Sb

theorem one_cells {n k : Nat} (hk : k < n) : (madeCells #[.int .u8 0] n).setIfInBounds k (.int .u8 1) = bcells (oneRow n k) := by
  show _ = bcells (rowOf n (fun j => if k = j then 1 else 0))
  apply Array.ext_getElem?
  intro i
  by_cases hi : i < n
  · rw [bcells_get (rowOf_get _ hi)]
    by_cases h : k = i
    · subst h
      rw [Array.getElem?_setIfInBounds_self_of_lt (by rw [size_madeCells]; simpa using hk), if_pos rfl]
      rfl
    · rw [Array.getElem?_setIfInBounds_ne h, made_at hi, if_neg h]
  · rw [Array.getElem?_eq_none (by simp [size_madeCells]; omega), Array.getElem?_eq_none (by simp [bcells]; omega)]

set_option maxRecDepth 100000 in
set_option maxHeartbeats 2000000 in
theorem refone_any (n : Nat) (w : World) (hn : n ≤ 255) :
    Calls Try.prog 44 #[.int .i64 n] w fun e w' => ∃ v, e = .returned v ∧ Gr (fun b => w.heap.size ≤ b) w.heap.size w' v (oneM n) ∧ Keep (fun _ => False) w w' := by
  have hmk := make_bytes n (by omega)
  go_enter Try.func44, Try.ntmps44
  go_wp2_with fail
  go_loopw [3, 4, 5] (fun s i _ wr => ∃ k : Nat, k ≤ n ∧ i = .int .i64 (k : Int) ∧
      Hid (Gr (fun b => w.heap.size ≤ b) w.heap.size wr s ((List.range k).map (oneRow n)) ∧ Keep (fun _ => False) w wr)) (fun _ i _ _ => n - (intOf i).toNat)
  case atStart => exact ⟨0, Nat.zero_le _, rfl, Gr.nil _ _ _, Keep.refl _ _⟩
  case round =>
    obtain ⟨k, hk, rfl, HI⟩ := hrel
    by_cases hlt : k < n
    · have k0 : (0 : Int) ≤ (k : Int) := by omega
      have kn : (k : Int) < (n : Int) := by omega
      have hnw := Blk.new wr 5 (madeCells #[.int .u8 0] n)
      have hcm : (wr.alloc (.cells (madeCells #[.int .u8 0] n) 5)).cell? ⟨wr.heap.size, k, none⟩ = some (bv 0) := (hnw.cell k).trans (made_at hlt)
      have hfm : (wr.alloc (.cells (madeCells #[.int .u8 0] n) 5)).frozen? ⟨wr.heap.size, k, none⟩ = false := hnw.frozen k
      clear hnw
      have HK1 : Hid (Keep (fun _ => False) wr (wr.alloc (.cells ((madeCells #[.int .u8 0] n).setIfInBounds k (.int .u8 1)) 5))) := (Keep.refl _ wr).alloc _
      have HR1 : Hid (Bs (fun b => w.heap.size ≤ b ∧ u3.ownBlock ≠ some b) (wr.alloc (.cells ((madeCells #[.int .u8 0] n).setIfInBounds k (.int .u8 1)) 5)) (.slice (some ⟨wr.heap.size, 0, none⟩) n n) (oneRow n k)) := by
        obtain ⟨us, h1, _⟩ := HI.out.1
        rw [one_cells hlt]
        have hb := Blk.new wr 5 (bcells (oneRow n k))
        refine ⟨_, n, n, rfl, Nat.le_refl _, by unfold maxLen; omega, ⟨by simp [oneRow], fun _ => ⟨wr.heap.size, 0, rfl, ⟨HI.out.2.size, fun e => ?_⟩, fun i u hu => ?_⟩⟩⟩
        · have := (h1.lt _ e).2
          omega
        · rw [Nat.zero_add, hb.cell]
          simpa [bcells] using hu
      go_wp2_with (first
        | (at_builtin; refine wpl_grow1 _ rfl (.tmp 16) (.tmp 18) 40 Try.underlying40 rfl (fun b => w.heap.size ≤ b) w.heap.size u3 _ ((List.range k).map (oneRow n)) (oneRow n k) (wr.heap.size + 1) rfl rfl (by simp) (HI.out.1.keep HK1.out (fun _ _ => id) (fun _ _ _ _ => id)) HR1.out (by simp; omega) (Nat.le_trans HI.out.2.size HK1.out.size) ?_; intro v' w' hgr hkp))
      have HG := Lib.hid hgr
      have HKP := Lib.hid hkp
      clear hgr hkp hcm hfm
      go_wp2_with fail
      go_roundw
      case rel =>
        refine ⟨k + 1, by omega, by go_num, ?_, ?_⟩
        · rw [List.range_succ, List.map_append]
          exact HG.out
        · obtain ⟨us, h1, _⟩ := HI.out.1
          exact ((HI.out.2.trans HK1.out).trans' HKP.out (fun i hi e => by have := (h1.lt _ e).1; omega))
      case measure => simp [intOf]; omega
    · have hkn : (n : Int) ≤ (k : Int) := by omega
      have hke : k = n := by omega
      go_wp2_with fail
      go_ret
      rw [hke] at HI
      exact ⟨_, rfl, HI.out.1, HI.out.2⟩

set_option maxRecDepth 100000 in
set_option maxHeartbeats 4000000 in
theorem refcauchy_any (n c : Nat) (w : World) (hnc : n + c ≤ 256) :
    Calls Try.prog 45 #[.int .i64 n, .int .i64 c] w fun e w' => ∃ v, e = .returned v ∧ Gr (fun b => w.heap.size ≤ b) w.heap.size w' v (cauM n c) ∧ Keep (fun _ => False) w w' := by
  have HNC := Lib.hid hnc
  clear hnc
  go_enter Try.func45, Try.ntmps45
  go_wp2_with fail
  go_loopw [5, 6, 7, 8] (fun s i _ _ wr => ∃ k : Nat, k ≤ n ∧ i = .int .i64 (k : Int) ∧
      Hid (Gr (fun b => w.heap.size ≤ b) w.heap.size wr s ((List.range k).map (cauRow c)) ∧ Keep (fun _ => False) w wr)) (fun _ i _ _ _ => n - (intOf i).toNat)
  case atStart => exact ⟨0, Nat.zero_le _, rfl, Gr.nil _ _ _, Keep.refl _ _⟩
  case round =>
    obtain ⟨k, hk, rfl, HI⟩ := hrel
    obtain ⟨wo, rfl⟩ : ∃ wo : World, wo = wr := ⟨_, rfl⟩
    obtain ⟨s, rfl⟩ : ∃ s : Value, s = u5 := ⟨_, rfl⟩
    have hn256 := HNC.out
    by_cases hlt : k < n
    · have kn : (k : Int) < (n : Int) := by omega
      have HLT := Lib.hid hlt
      clear hlt
      go_wp2_with fail
      go_loopw [7, 8] (fun t j wr => ∃ (l : Nat), l ≤ c ∧ j = .int .i64 (l : Int) ∧
          Hid (Gb wo.heap.size wr t (rowOf l (fun j => ginv (UInt8.ofNat (k + c) ^^^ UInt8.ofNat j))) ∧ Keep (fun _ => False) wo wr)) (fun _ j _ => c - (intOf j).toNat)
      case atStart => exact ⟨0, Nat.zero_le _, rfl, Gb.nil _ _, Keep.refl _ _⟩
      case round =>
        obtain ⟨l, hl, rfl, HL⟩ := hrel
        by_cases hlt2 : l < c
        · have ln : (l : Int) < (c : Int) := by omega
          have a2 : (k : Int) + (c : Int) < 256 := by have := HLT.out; omega
          have a3 : IntKind.u8.wrap ((k : Int) + (c : Int)) = ((UInt8.ofNat (k + c)).toNat : Int) := by
            rw [wrap_u8 (by omega) a2, UInt8.toNat_ofNat']
            omega
          have a4 : IntKind.u8.wrap (l : Int) = ((UInt8.ofNat l).toNat : Int) := by
            rw [wrap_u8 (by omega) (by omega), UInt8.toNat_ofNat']
            omega
          obtain ⟨X, hX⟩ : ∃ X, X = UInt8.ofNat (k + c) := ⟨_, rfl⟩
          obtain ⟨Y, hY⟩ : ∃ Y, Y = UInt8.ofNat l := ⟨_, rfl⟩
          rw [← hX] at a3
          rw [← hY] at a4
          have HX := Lib.hid hX
          have HY := Lib.hid hY
          clear hX hY
          go_wp2_with fail
          rw [bits_xor_u8]
          refine (refinv_any (X ^^^ Y) _).mono ?_
          rintro e w' ⟨rfl, rfl⟩
          clear a3 a4
          go_wp2_with (first
            | (at_builtin; refine wpl_appb1 _ rfl (.tmp 19) (.tmp 28) rfl wo.heap.size u7 (rowOf l (fun j => ginv (UInt8.ofNat (k + c) ^^^ UInt8.ofNat j))) (ginv (X ^^^ Y)) _ rfl rfl rfl HL.out.1 (by rw [rowOf_len]; omega) HL.out.2.size ?_; intro v' w' hgb hkp))
          have HGB := Lib.hid hgb
          have HKP := Lib.hid hkp
          clear hgb hkp
          go_wp2_with fail
          go_roundw
          case rel =>
            refine ⟨l + 1, by omega, by go_num, ?_, HL.out.2.trans' HKP.out (fun i hi e => by have := (HL.out.1.lt e).1; omega)⟩
            rw [HX.out, HY.out] at HGB
            unfold rowOf
            rw [List.range_succ, List.map_append]
            exact HGB.out
          case measure => simp [intOf]; omega
        · have hln : (c : Int) ≤ (l : Int) := by omega
          have hlc : l = c := by omega
          rw [hlc] at HL
          have HBS : Hid (Bs (fun b => w.heap.size ≤ b ∧ s.ownBlock ≠ some b) wr u7 (cauRow c k)) := by
            obtain ⟨us, h1, _⟩ := HI.out.1
            refine HL.out.1.bs.mono (fun b _ (hb : wo.heap.size ≤ b) => ⟨Nat.le_trans HI.out.2.size hb, fun e => ?_⟩)
            have := (h1.lt _ e).2
            omega
          obtain ⟨au, nu, cu, hu7, _⟩ := HBS.out
          subst hu7
          go_wp2_with (first
            | (at_builtin; refine wpl_grow1 wr rfl (.tmp 30) (.tmp 32) 40 Try.underlying40 rfl (fun b => w.heap.size ≤ b) w.heap.size s (.slice au nu cu) ((List.range k).map (cauRow c)) (cauRow c k) wr.heap.size rfl rfl rfl (HI.out.1.keep HL.out.2 (fun _ _ => id) (fun _ _ _ _ => id)) HBS.out (by simp; omega) (Nat.le_trans HI.out.2.size HL.out.2.size) ?_; intro v' w' hgr hkp))
          have HG := Lib.hid hgr
          have HKP := Lib.hid hkp
          clear hgr hkp
          go_wp2_with fail
          go_roundw
          case rel =>
            refine ⟨k + 1, by have := HLT.out; omega, by go_num, ?_, ?_⟩
            · rw [List.range_succ, List.map_append]
              exact HG.out
            · obtain ⟨us, h1, _⟩ := HI.out.1
              exact (HI.out.2.trans HL.out.2).trans' HKP.out (fun i hi e => by have := (h1.lt _ e).1; omega)
          case measure => have := HLT.out; simp [intOf]; omega
    · have hkn : (n : Int) ≤ (k : Int) := by omega
      have hke : k = n := by omega
      go_wp2_with fail
      go_ret
      rw [hke] at HI
      exact ⟨_, rfl, HI.out.1, HI.out.2⟩
end Go.Proofs.Ytegecjilpmkamaa
