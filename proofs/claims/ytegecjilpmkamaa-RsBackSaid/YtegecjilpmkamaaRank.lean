/-
  The walk of mat's Rank.
-/
import Derived.Test.YtegecjilpmkamaaSinka
namespace Go.Proofs.Ytegecjilpmkamaa
open Go.RowKit Sb

/-- One column of Rank: how many rows are told so far, and the matrix. -/
def rstep (n : Nat) (st : Nat × (Nat → Nat → UInt8)) (col : Nat) : Nat × (Nat → Nat → UInt8) :=
  if st.1 < n ∧ 0 ≤ sinkAt st.2 n st.1 col then (st.1 + 1, sinkE st.2 st.1 (st.1 + (sinkAt st.2 n st.1 col).toNat) col false) else st
def rsteps (n : Nat) (F : Nat → Nat → UInt8) : Nat → Nat × (Nat → Nat → UInt8)
  | 0 => (0, F)
  | k + 1 => rstep n (rsteps n F k) k
/-- What Rank tells. -/
def mrank (n c : Nat) (F : Nat → Nat → UInt8) : Nat := (rsteps n F c).1

theorem rsteps_le (n : Nat) (F : Nat → Nat → UInt8) (k : Nat) : (rsteps n F k).1 ≤ n := by
  induction k with
  | zero => exact Nat.zero_le _
  | succ k ih =>
    rw [rsteps, rstep]
    split
    · rename_i h
      exact h.1
    · exact ih

theorem sinkAt_cases (F : Nat → Nat → UInt8) (n a col : Nat) : sinkAt F n a col < 0 ∨ ∃ j : Nat, sinkAt F n a col = (j : Int) ∧ a + j < n := by
  unfold sinkAt
  rcases fidx_spec (fun i => F (a + i) col != 0) (n - a) 0 with ⟨h, _⟩ | ⟨j, _, h1, h2, _⟩
  · exact .inl (by omega)
  · exact .inr ⟨j, h2, by omega⟩

theorem rstep_full {n : Nat} {st : Nat × (Nat → Nat → UInt8)} {col : Nat} (h : ¬ st.1 < n) : rstep n st col = st := by
  rw [rstep, if_neg (fun h' => h h'.1)]
theorem rstep_none {n : Nat} {st : Nat × (Nat → Nat → UInt8)} {col : Nat} (h : sinkAt st.2 n st.1 col < 0) : rstep n st col = st := by
  rw [rstep, if_neg (fun h' => by omega)]
theorem rstep_some {n : Nat} {st : Nat × (Nat → Nat → UInt8)} {col j : Nat} (h1 : st.1 < n) (h : sinkAt st.2 n st.1 col = (j : Int)) : rstep n st col = (st.1 + 1, sinkE st.2 st.1 (st.1 + j) col false) := by
  rw [rstep, if_pos ⟨h1, by omega⟩, h]
  rfl

set_option maxRecDepth 100000 in
set_option maxHeartbeats 2000000 in
theorem rank_no (p : Value) (P : Nat → Prop) (ao : Option Addr) (n cap : Nat) (us : List Value) (m : List (List UInt8)) (w : World) (hr : Mv P w ao n us m) (hn : n ≤ 9223372036854775807) (hm : mright m = false) :
    Calls Try.prog 52 #[p, .slice ao n cap] w fun e w' => e = .returned (.int .i64 0) ∧ Keep (fun _ => False) w w' := by
  have HR := Lib.hid hr
  have HM := Lib.hid hm
  have hnt := hnot
  clear hr hm
  go_enter Try.func52, Try.ntmps52
  go_wp2_with fail
  refine (right_any P ao n cap us m w HR.out hn).mono ?_
  rintro e w1 ⟨rfl, hk⟩
  have HK := Lib.hid hk
  clear hk
  rw [HM.out]
  go_wp2_with fail
  go_ret
  exact ⟨rfl, HK.out⟩

set_option maxRecDepth 100000 in
set_option maxHeartbeats 4000000 in
theorem rank_yes (fb : Nat) (P : Nat → Prop) (ao : Option Addr) (n cap : Nat) (us : List Value) (m : List (List UInt8)) (w : World) (hf : FieldAt w fb) (hr : Mv P w ao n us m) (hm : mright m = true) :
    Calls Try.prog 52 #[.pointer (some ⟨fb, 0, none⟩), .slice ao n cap] w fun e w' => e = .returned (.int .i64 (mrank n (mcols m) (ent m) : Nat)) ∧ Fq fb w w' := by
  have hM := of_mright hm
  have hn1 := hM.1
  rw [hr.len] at hn1
  obtain ⟨c, hc⟩ : ∃ c, c = mcols m := ⟨_, rfl⟩
  have hc1 := hM.2.1
  have hrows := hM.2.2
  rw [← hc] at hc1 hrows ⊢
  obtain ⟨b, o, ao', n', cap', r, rfl, hPb, hu, hm0, hcc, hcap, hmx, hrb⟩ := hr.at_ (k := 0) (by omega)
  have hn' : n' = c := by
    have h1 := mcols_at hm0
    rw [hrb.len] at h1
    omega
  subst hn'
  rw [Nat.add_zero] at hcc
  have hblt := World.block_lt_of_cell? w _ hcc
  have HF := Lib.hid hf
  have HR := Lib.hid hr
  have HM := Lib.hid hm
  have HROWS := Lib.hid hrows
  have HN := Lib.hid hn1
  have HC := Lib.hid hc1
  have p0 : (0 : Int) < (n : Int) := by omega
  have hnt := hnot
  clear hf hr hm hM hrows hu hm0 hrb hPb hc hcap hmx
  go_enter Try.func52, Try.ntmps52
  go_wp2_with fail
  refine (right_any P _ n cap us m w HR.out (by have := HN.out; omega)).mono ?_
  rintro e w1 ⟨rfl, hk⟩
  have HK := Lib.hid hk
  clear hk
  rw [HM.out]
  go_wp2_with fail
  refine (clone_79 P _ n cap n' us m w1 (HR.out.keep HK.out (fun _ _ _ => id)) (by have := HN.out; omega) (by have := HC.out; omega) HROWS.out).mono ?_
  rintro e w2 ⟨g, G, rfl, hfl, hk2⟩
  have HO : Hid (Om w1.heap.size w2 g n n' (ent m)) := Fl.om hfl (by have := HC.out; unfold maxLen; omega)
  have HG : Hid (w1.heap.size ≤ g) := hfl.1
  have HK2 := Lib.hid (HK.out.trans hk2)
  have hc2 : w2.cell? ⟨b, o, none⟩ = some (.slice ao' n' cap') := (HK2.out.cell hblt id).trans hcc
  have HF2 : Hid (FieldAt w2 fb) := HF.out.keep HK2.out id
  have HUP : Hid (Blk w fb 102 full → Blk w2 fb 102 full) := fun h => h.keep HK2.out id
  have HKW : Hid (Keep (· = fb) w w2) := HK2.out.mono (fun _ _ h => h.elim)
  have HLT : Hid (fb < w1.heap.size) := by
    have h1 := HF.out.lt
    have h2 := HK.out.size
    show fb < w1.heap.size
    omega
  have HS1 : Hid (w.heap.size ≤ w1.heap.size) := HK.out.size
  clear hfl hk2 hcc hblt
  go_wp2_with fail
  go_loopw [6, 7, 17] (fun s _ i wr => ∃ k r : Nat, k ≤ n' ∧ i = .int .i64 (k : Int) ∧ s = .int .i64 (r : Int) ∧
      Hid (r = (rsteps n (ent m) k).1 ∧ Om w1.heap.size wr g n n' (rsteps n (ent m) k).2 ∧ FieldAt wr fb ∧ (Blk w fb 102 full → Blk wr fb 102 full) ∧ Keep (· = fb) w wr)) (fun _ _ i _ => n' - (intOf i).toNat)
  case atStart => exact ⟨0, 0, Nat.zero_le _, rfl, rfl, rfl, HO.out, HF2.out, HUP.out, HKW.out⟩
  case round =>
    obtain ⟨k, r, hk, rfl, rfl, HI⟩ := hrel
    by_cases hlt : k < n'
    · have k0 : (0 : Int) ≤ (k : Int) := by omega
      have kn : (k : Int) < (n' : Int) := by omega
      have HLTK := Lib.hid hlt
      have hrn : r ≤ n := by rw [HI.out.1]; exact rsteps_le _ _ _
      have hn255 := HN.out.2
      have hc255 := HC.out.2
      have HE := Lib.hid HI.out.1
      have hIO : Hid (Om w1.heap.size wr g n n' (rsteps n (ent m) k).2) := HI.out.2.1
      by_cases hrl : r < n
      · have r0 : (r : Int) < (n : Int) := by omega
        rcases sinkAt_cases (rsteps n (ent m) k).2 n r k with hs | ⟨j, hs, hj⟩
        · have HS := Lib.hid hs
          have HRL := Lib.hid hrl
          clear hs hrl hlt
          go_wp2_with fail
          refine (sink_none_false fb w1.heap.size g n n n' r k _ wr hIO.out HG.out HRL.out HLTK.out (by omega) (by omega) (Nat.le_refl _) HS.out).mono ?_
          rintro e w3 ⟨rfl, hk3⟩
          have HK3 := Lib.hid hk3
          clear hk3
          go_wp2_with fail
          go_roundw
          case rel =>
            have hst : rsteps n (ent m) (k + 1) = rsteps n (ent m) k := rstep_none (by rw [← HE.out]; exact HS.out)
            refine ⟨k + 1, r, by have := HLTK.out; omega, by go_num, rfl, ?_⟩
            rw [hst]
            exact ⟨HE.out, hIO.out.keep HK3.out id (fun _ _ _ _ => id), HI.out.2.2.1.keep HK3.out id, fun h => (HI.out.2.2.2.1 h).keep HK3.out id, HI.out.2.2.2.2.trans (HK3.out.mono (fun _ _ h => h.elim))⟩
          case measure => simp [intOf]; omega
        · have HS := Lib.hid hs
          have HRL := Lib.hid hrl
          have HJ := Lib.hid hj
          have hIF : Hid (FieldAt wr fb) := HI.out.2.2.1
          clear hs hrl hlt hj
          go_wp2_with fail
          refine (sink_some_false fb w1.heap.size g n n n' r k j _ wr hIF.out HLT.out hIO.out HG.out HRL.out HLTK.out (by omega) (by omega) (Nat.le_refl _) HS.out HJ.out).mono ?_
          rintro e w3 ⟨rfl, hf3, hu3, hk3, ho3⟩
          have HF3 := Lib.hid hf3
          have HU3 := Lib.hid hu3
          have HK3 := Lib.hid hk3
          have HO3 := Lib.hid ho3
          clear hf3 hu3 hk3 ho3
          go_wp2_with fail
          go_roundw
          case rel =>
            have hst : rsteps n (ent m) (k + 1) = (r + 1, sinkE (rsteps n (ent m) k).2 r (r + j) k false) := by
              rw [HE.out]
              exact rstep_some (by rw [← HE.out]; exact HRL.out) (by rw [← HE.out]; exact HS.out)
            refine ⟨k + 1, r + 1, by have := HLTK.out; omega, by go_num, by go_num, ?_⟩
            rw [hst]
            refine ⟨rfl, HO3.out, HF3.out, fun h => HU3.out (HI.out.2.2.2.1 h), HI.out.2.2.2.2.trans' HK3.out (fun i hi h => ?_)⟩
            rcases h with h | h
            · exact h
            · have h1 := HS1.out
              have h2 := HG.out
              omega
          case measure => simp [intOf]; omega
      · have r0 : (n : Int) ≤ (r : Int) := by omega
        have HRL := Lib.hid hrl
        clear hrl hlt
        go_wp2_with fail
        go_roundw
        case rel =>
          have hst : rsteps n (ent m) (k + 1) = rsteps n (ent m) k := rstep_full (by rw [← HE.out]; exact HRL.out)
          refine ⟨k + 1, r, by have := HLTK.out; omega, by go_num, rfl, ?_⟩
          rw [hst]
          exact HI.out
        case measure => simp [intOf]; omega
    · have hkn : (n' : Int) ≤ (k : Int) := by omega
      have hke : k = n' := by omega
      go_wp2_with fail
      go_ret
      obtain ⟨i1, i2, i3, i4, i5⟩ := HI.out
      refine ⟨?_, i3, i4, i5⟩
      rw [i1, hke]
      rfl
end Go.Proofs.Ytegecjilpmkamaa
