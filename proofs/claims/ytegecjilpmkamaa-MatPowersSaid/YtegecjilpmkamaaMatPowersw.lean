/-
  The walk of the law 'MatPowers'.
-/
import Derived.Test.YtegecjilpmkamaaVan
import Derived.Test.YtegecjilpmkamaaPowers
import Derived.Test.YtegecjilpmkamaaBack
import Derived.Deep.RegionHeld3
namespace Go.Proofs.Ytegecjilpmkamaa
open Go.RowKit Sb

/-- A polynomial's numbers as a matrix of one column. -/
def colM (p : List UInt8) : List (List UInt8) := p.map (fun x => [x])

theorem colM_mk (p : List UInt8) : colM p = mk p.length 1 (fun k _ => p.getD k 0) := by
  apply List.ext_getElem?
  intro i
  by_cases h : i < p.length
  · rw [mk_get _ _ h]
    unfold colM
    rw [List.getElem?_map, List.getElem?_eq_getElem h]
    simp [rowOf, h]
  · rw [List.getElem?_eq_none (by rw [colM, List.length_map]; omega), List.getElem?_eq_none (by rw [mk_len]; omega)]

theorem colM_take {p : List UInt8} {k : Nat} {x : UInt8} (h : p[k]? = some x) : colM (p.take (k + 1)) = colM (p.take k) ++ [[x]] := by
  rw [List.take_add_one, h]
  simp [colM]

/-- The matrix of powers, as the walk has it. -/
theorem pow_mk (xs : List UInt8) (n c : Nat) : (List.range n).map (fun i => rowOf c (fun j => gpowI (xs.getD i 0) (j : Nat))) = mk n c (powE xs) :=
  mk_congr (fun _ _ _ _ => gpowI_natCast _ _)

theorem pow_col (xs p : List UInt8) {n i : Nat} (hi : i < n) : mulE p.length (ent (mk n p.length (powE xs))) (ent (colM p)) i 0 = peval (xs.getD i 0) p := by
  rw [← van_eval, mulE]
  refine xsum_congr (fun k hk => ?_)
  rw [mk_ent n p.length (powE xs) i k hi hk, colM_mk, mk_ent p.length 1 _ k 0 hk (by omega)]

theorem nodup_take {xs : List UInt8} {i : Nat} {x : UInt8} (h : xs[i]? = some x) : (xs.take (i + 1)).Nodup ↔ (xs.take i).Nodup ∧ ∀ k, k < i → xs.getD k 0 ≠ x := by
  rw [List.take_add_one, h, Option.toList_some, List.nodup_append]
  have hi : i < xs.length := (List.getElem?_eq_some_iff.1 h).1
  constructor
  · rintro ⟨h1, _, h3⟩
    refine ⟨h1, fun k hk e => h3 (xs.getD k 0) ?_ x (by simp) e⟩
    have : k < xs.length := by omega
    refine List.mem_of_getElem? (i := k) ?_
    rw [List.getElem?_take, if_pos hk]
    simp [this]
  · rintro ⟨h1, h2⟩
    refine ⟨h1, by simp, fun a ha b hb e => ?_⟩
    rw [List.mem_singleton] at hb
    subst hb
    obtain ⟨k, hk, rfl⟩ := List.getElem_of_mem ha
    rw [List.length_take] at hk
    have hk2 : k < xs.length := by omega
    refine h2 k (by omega) ?_
    rw [← e]
    simp [hk2]

theorem nodup_of {xs : List UInt8} (h : ∀ i k, i < k → k < xs.length → xs.getD i 0 ≠ xs.getD k 0) : xs.Nodup := by
  have h1 : ∀ k, k ≤ xs.length → (xs.take k).Nodup := by
    intro k
    induction k with
    | zero => intro _; simp
    | succ k ih =>
      intro hk
      have hl : k < xs.length := by omega
      refine (nodup_take (List.getElem?_eq_getElem hl)).2 ⟨ih (by omega), fun q hq => ?_⟩
      have h2 := h q k hq hl
      simpa [hl] using h2
  have h2 := h1 xs.length (Nat.le_refl _)
  rwa [List.take_length] at h2

theorem bne_bytes {x y : UInt8} (h : x ≠ y) : ((x.toNat : Int) != (y.toNat : Int)) = true := by
  rw [bne_iff_ne]
  intro e
  exact h (UInt8.toNat_inj.1 (by omega))

set_option maxRecDepth 100000 in
set_option maxHeartbeats 4000000 in
theorem matPowers_big (ao bo : Option Addr) (n c ca cb : Nat) (w : World) (hn : ¬ (n ≤ 12 ∧ c ≤ 12)) :
    Calls Try.prog 15 #[.slice ao n ca, .slice bo c cb] w fun e w' => e = .returned (.bool true) ∧ Keep (fun _ => False) w w' := by
  by_cases h : (12 : Int) < (n : Int)
  · clear hn
    go_enter Try.func15, Try.ntmps15
    go_wp2_with fail
    go_ret
    exact ⟨rfl, Keep.refl _ _⟩
  · have h2 : (12 : Int) < (c : Int) := by omega
    have h3 : (n : Int) ≤ 12 := by omega
    clear hn h
    go_enter Try.func15, Try.ntmps15
    go_wp2_with fail
    go_ret
    exact ⟨rfl, Keep.refl _ _⟩

set_option maxRecDepth 100000 in
set_option maxHeartbeats 4000000 in
theorem matPowers_none (ao bo : Option Addr) (n c ca cb : Nat) (w : World) (hn : n ≤ 12) (hc : c ≤ 12) (h0 : n = 0 ∨ c = 0) :
    Calls Try.prog 15 #[.slice ao n ca, .slice bo c cb] w fun e w' => e = .returned (.bool true) ∧ Keep (fun _ => False) w w' := by
  have p1 : (n : Int) ≤ 12 := by omega
  have p2 : (c : Int) ≤ 12 := by omega
  have HNO : Hid (¬ (1 ≤ n ∧ n ≤ 255 ∧ 1 ≤ c ∧ c ≤ 255)) := by
    show ¬ (1 ≤ n ∧ n ≤ 255 ∧ 1 ≤ c ∧ c ≤ 255)
    omega
  have two : (((n : Int) == 0) = true) ∨ ((((n : Int) == 0) = false) ∧ (((c : Int) == 0) = true)) := by
    simp only [beq_iff_eq, beq_eq_false_iff_ne]
    omega
  clear hn hc h0
  rcases two with h1 | ⟨h1, h2⟩
  all_goals
    go_enter Try.func15, Try.ntmps15
    go_wp2_with fail
    refine (new_any w).mono ?_
    rintro e w3 ⟨rfl, rfl⟩
    have HK3 : Hid (Keep (fun _ => False) w (w.alloc (.cells Try.zeroCells102 102))) := (Keep.refl _ w).alloc _
    generalize (w.alloc (.cells Try.zeroCells102 102)) = w3 at *
    go_wp2_with fail
    refine (powers_no _ ao n ca c w3 HNO.out).mono ?_
    rintro e w4 ⟨rfl, hk⟩
    have HK4 := Lib.hid (HK3.out.trans hk)
    clear hk
    go_wp2_with fail
    refine (one5_any w4).mono ?_
    rintro e w5 ⟨rfl, hk⟩
    have HK5 := Lib.hid (HK4.out.trans hk)
    clear hk
    go_wp2_with fail
    go_ret
    exact ⟨rfl, HK5.out⟩

set_option maxRecDepth 100000 in
set_option maxHeartbeats 8000000 in
theorem matPowers_in (ao bo : Option Addr) (n c ca cb : Nat) (xs p : List UInt8) (w : World) (h1 : Rb (· < w.heap.size) w ao n xs) (h2 : Rb (· < w.heap.size) w bo c p) (hn1 : 1 ≤ n) (hn : n ≤ 12) (hc1 : 1 ≤ c) (hc : c ≤ 12) :
    Calls Try.prog 15 #[.slice ao n ca, .slice bo c cb] w fun e w' => e = .returned (.bool true) ∧ Keep (fun _ => False) w w' := by
  have p1 : (n : Int) ≤ 12 := by omega
  have p2 : (c : Int) ≤ 12 := by omega
  have p3 : (1 : Int) ≤ (n : Int) := by omega
  have p4 : (1 : Int) ≤ (c : Int) := by omega
  have z1 : ((n : Int) == 0) = false := by rw [beq_eq_false_iff_ne]; omega
  have z2 : ((c : Int) == 0) = false := by rw [beq_eq_false_iff_ne]; omega
  have H1 := Lib.hid h1
  have H2 := Lib.hid h2
  have HN : Hid (1 ≤ n ∧ n ≤ 12 ∧ 1 ≤ c ∧ c ≤ 12) := ⟨hn1, hn, hc1, hc⟩
  have HX : Hid (xs.length = n) := h1.len
  have HPL : Hid (p.length = c) := h2.len
  clear h1 h2 hn1 hn hc1 hc
  go_enter Try.func15, Try.ntmps15
  go_wp2_with fail
  refine (new_any w).mono ?_
  rintro e w3 ⟨rfl, rfl⟩
  have HK3 : Hid (Keep (fun _ => False) w (w.alloc (.cells Try.zeroCells102 102))) := (Keep.refl _ w).alloc _
  have HF3 : Hid (FieldAt (w.alloc (.cells Try.zeroCells102 102)) w.heap.size) := field_new w
  generalize (w.alloc (.cells Try.zeroCells102 102)) = w3 at *
  go_wp2_with fail
  refine (powers_yes w.heap.size (· < w.heap.size) ao n ca c xs w3 HF3.out (H1.out.keep HK3.out (fun _ _ _ => id)) (fun x (hx : x < w.heap.size) e => by omega) HN.out.1 (by have := HN.out; omega) HN.out.2.2.1 (by have := HN.out; omega)).mono ?_
  rintro e w4 ⟨g4, G4, rfl, hfl, hq⟩
  obtain ⟨ms, hms⟩ := hfl.mv (by have := HN.out; omega) (by have := HN.out; omega)
  rw [pow_mk] at hms
  have HM4 := Lib.hid hms
  have HK4 : Hid (Keep (fun _ => False) w w4) := HK3.out.trans' hq.keep (fun i hi e => by omega)
  have HF4 := Lib.hid hq.at_
  have HFB := Lib.hid HF3.out.lt
  clear hfl hms hq
  go_wp2_with fail
  go_loopw [8, 9] (fun s i wr => ∃ k : Nat, k ≤ c ∧ i = .int .i64 (k : Int) ∧
      Hid (Gr (fun x => w4.heap.size ≤ x) w4.heap.size wr s (colM (p.take k)) ∧ Keep (fun _ => False) w4 wr)) (fun _ i _ => c - (intOf i).toNat)
  case atStart => exact ⟨0, Nat.zero_le _, rfl, Gr.nil _ _ _, Keep.refl _ _⟩
  case round =>
    obtain ⟨k, hk, rfl, HI⟩ := hrel
    obtain ⟨wo, rfl⟩ : ∃ wo : World, wo = wr := ⟨_, rfl⟩
    obtain ⟨s, rfl⟩ : ∃ s : Value, s = u8 := ⟨_, rfl⟩
    by_cases hlt : k < c
    · have k0 : (0 : Int) ≤ (k : Int) := by omega
      have kn : (k : Int) < (c : Int) := by omega
      have HLT := Lib.hid hlt
      obtain ⟨b, o, x, rfl, _, hx, hcx⟩ := (H2.out.keep (HK4.out.trans HI.out.2) (fun _ _ _ => id)).at_ hlt
      have HXK := Lib.hid hx
      have HK1 : Hid (Keep (fun _ => False) wo (wo.alloc (.cells #[bv x] 5))) := (Keep.refl _ wo).alloc _
      have HBS : Hid (Bs (fun b => w4.heap.size ≤ b ∧ s.ownBlock ≠ some b) (wo.alloc (.cells #[bv x] 5)) (.slice (some ⟨wo.heap.size, 0, none⟩) 1 1) [x]) := by
        have hb := Blk.new wo 5 (bcells [x])
        obtain ⟨us', q1, _⟩ := HI.out.1
        exact ⟨_, 1, 1, rfl, Nat.le_refl _, by unfold maxLen; omega, Blk.rb (xs := [x]) hb rfl ⟨HI.out.2.size, fun e => by have := (q1.lt _ e).2; omega⟩⟩
      have HLEN : Hid ((colM (p.take k)).length = k) := by
        show (colM (p.take k)).length = k
        have := HPL.out
        have := HLT.out
        rw [colM, List.length_map, List.length_take]
        omega
      clear hlt hx
      go_wp2_with (first
        | (at_builtin; refine wpl_grow1 (wo.alloc (.cells #[bv x] 5)) rfl (.tmp 58) (.tmp 64) 40 Try.underlying40 rfl (fun x => w4.heap.size ≤ x) w4.heap.size s (.slice (some ⟨wo.heap.size, 0, none⟩) 1 1) (colM (p.take k)) [x] (wo.heap.size + 1) rfl rfl (by simp) (HI.out.1.keep HK1.out (fun _ _ => id) (fun _ _ _ _ => id)) HBS.out (by rw [HLEN.out]; omega) (Nat.le_trans HI.out.2.size HK1.out.size) ?_; intro v' w' hgr hkp))
      rw [← colM_take HXK.out] at hgr
      have HG := Lib.hid hgr
      have HKP : Hid (Keep (fun _ => False) w4 w') := by
        obtain ⟨us', q1, _⟩ := HI.out.1
        exact (HI.out.2.trans HK1.out).trans' hkp (fun i hi e => by have := (q1.lt _ e).1; omega)
      clear hgr hkp hcx
      go_wp2_with fail
      go_roundw
      case rel => exact ⟨k + 1, by have := HLT.out; omega, by go_num, HG.out, HKP.out⟩
      case measure => have := HLT.out; simp [intOf]; omega
    · have hkn : (c : Int) ≤ (k : Int) := by omega
      have hke : k = c := by omega
      rw [hke, List.take_of_length_le (by rw [HPL.out]; omega)] at HI
      have HCL : Hid ((colM p).length = c) := by
        show (colM p).length = c
        rw [colM, List.length_map]
        exact HPL.out
      obtain ⟨as_, caps, hs1, _, _⟩ := HI.out.1.len
      rw [HCL.out] at hs1
      subst hs1
      obtain ⟨cs, hcs⟩ := HI.out.1.mv
      have HCM : Hid (Mv (fun b => w4.heap.size ≤ b) wo as_ c cs (colM p)) := hcs.mono (fun b _ hb => hb.elim id id)
      have HKO := Lib.hid (HK4.out.trans HI.out.2)
      have HFO := Lib.hid (HF4.out.keep HI.out.2 id)
      have HMO := Lib.hid (HM4.out.keep HI.out.2 (fun _ _ _ => id))
      have HF4L := Lib.hid HF4.out.lt
      have HCR : Hid (mright (colM p) = true) := by
        show mright (colM p) = true
        rw [colM_mk, HPL.out]
        exact mk_right _ HN.out.2.2.1 (by have := HN.out; omega) (by omega) (by omega)
      have HCC : Hid (mcols (colM p) = 1) := by
        show mcols (colM p) = 1
        rw [colM_mk, HPL.out]
        exact mk_cols _ _ HN.out.2.2.1
      have HMR : Hid (mright (mk n c (powE xs)) = true) := mk_right _ HN.out.1 (by have := HN.out; omega) HN.out.2.2.1 (by have := HN.out; omega)
      have HMC : Hid (mcols (mk n c (powE xs)) = c) := mk_cols _ _ HN.out.1
      have HFIT : Hid (mfit (mk n c (powE xs)) (colM p) = true) := by
        show mfit _ _ = true
        rw [mfit, HMR.out, HCR.out, HMC.out, HCL.out]
        simp
      clear hke HI hcs hlt hk
      go_wp2_with fail
      clear hkn
      refine (mul_yes w.heap.size (fun b => w3.heap.size ≤ b) (fun b => w4.heap.size ≤ b) _ _ n c n caps ms cs _ _ wo HFO.out (fun x (hx : w3.heap.size ≤ x) e => by have := HFB.out; omega) (fun x (hx : w4.heap.size ≤ x) e => by have := HF4L.out; omega) HMO.out HCM.out HFIT.out).mono ?_
      rintro e w5 ⟨g5, G5, rfl, hfl, hq⟩
      rw [HCC.out] at hfl
      have HV5 : Hid (Fl wo.heap.size w5 g5 G5 n 1 (fun i => rowOf 1 (mulE c (ent (mk n c (powE xs))) (ent (colM p)) i))) := hfl
      have HK5 : Hid (Keep (fun _ => False) w w5) := HKO.out.trans' hq.keep (fun i hi e => by omega)
      have HF5 := Lib.hid hq.at_
      have HM5 := Lib.hid (HMO.out.keep hq.keep (fun x _ (hx : w3.heap.size ≤ x) (e : x = w.heap.size) => by have := HFB.out; omega))
      have HFOL : Hid (w.heap.size < wo.heap.size) := HFO.out.lt
      clear hfl hq
      go_wp2_with fail
      go_loopw [12, 13, 14] (fun u i _ wr => ∃ (k : Nat) (t : Bool), k ≤ n ∧ i = .int .i64 (k : Int) ∧ u = .bool t ∧
          Hid ((t = true ↔ (xs.take k).Nodup) ∧ FieldAt wr w.heap.size ∧ Keep (· = w.heap.size) w5 wr)) (fun _ i _ _ => n - (intOf i).toNat)
      case atStart => exact ⟨0, true, Nat.zero_le _, rfl, rfl, by simp, HF5.out, Keep.refl _ _⟩
      case round =>
        obtain ⟨k, t, hk, rfl, rfl, HI⟩ := hrel
        obtain ⟨wy, rfl⟩ : ∃ wy : World, wy = wr := ⟨_, rfl⟩
        have HKY : Hid (Keep (fun _ => False) w wy) := HK5.out.trans' HI.out.2.2 (fun i hi e => by omega)
        by_cases hlt : k < n
        · have k0 : (0 : Int) ≤ (k : Int) := by omega
          have kn : (k : Int) < (n : Int) := by omega
          have kN : k < n := hlt
          have HLT := Lib.hid hlt
          obtain ⟨b, o, x, rfl, _, hx, hcx⟩ := (H1.out.keep HKY.out (fun _ _ _ => id)).at_ hlt
          have HXK := Lib.hid hx
          have HXD : Hid (xs.getD k 0 = x) := by
            show xs.getD k 0 = x
            rw [List.getD_eq_getElem?_getD, hx, Option.getD_some]
          obtain ⟨f1, cs5, f2, f3, f4, f5⟩ := HV5.out.keep HI.out.2.2 (fun b _ hb e => by have := HFOL.out; omega)
          obtain ⟨f6, f7, f8, f9⟩ := f4 k hlt
          have hco : wy.cell? ⟨g5, k, none⟩ = some (.slice (some ⟨G5 k, 0, none⟩) 1 1) := (f2.cell k).trans f6
          have hcv : wy.cell? ⟨G5 k, 0, none⟩ = some (bv (peval x p)) := by
            have h9 : (rowOf 1 (mulE c (ent (mk n c (powE xs))) (ent (colM p)) k))[0]? = some (mulE c (ent (mk n c (powE xs))) (ent (colM p)) k 0) := rowOf_get _ (by omega)
            have h8 := pow_col xs p hlt
            rw [HPL.out] at h8
            rw [h8, HXD.out] at h9
            exact (f8.cell 0).trans (bcells_get h9)
          have LX := Lib.hid (World.block_lt_of_cell? _ _ hcx)
          have LO := Lib.hid (World.block_lt_of_cell? _ _ hco)
          have LV := Lib.hid (World.block_lt_of_cell? _ _ hcv)
          have NO : Hid (¬ g5 = w.heap.size) := by
            have := HFOL.out
            show ¬ g5 = w.heap.size
            omega
          have NV : Hid (¬ G5 k = w.heap.size) := by
            have := HFOL.out
            show ¬ G5 k = w.heap.size
            omega
          have NB : Hid (¬ b = w.heap.size) := by
            obtain ⟨b9, o9, u9, e9, hp9, _⟩ := Rv.at_ H1.out HLT.out
            cases e9
            have hp : b < w.heap.size := hp9
            show ¬ b = w.heap.size
            omega
          clear hlt hx f1 f2 f3 f4 f5 f6 f7 f8 f9
          go_wp2_with fail
          go_region_held3 (fun w' => w'.cell? ⟨b, o + k, none⟩ = some (bv x) ∧ w'.cell? ⟨g5, k, none⟩ = some (.slice (some ⟨G5 k, 0, none⟩) 1 1) ∧ w'.cell? ⟨G5 k, 0, none⟩ = some (bv (peval x p))) (first | exact ⟨by assumption, by assumption, by assumption⟩ | go_keep) (first | (go_at_call 34; refine (eval_any w.heap.size (· < w.heap.size) bo c cb p x _ ?_ ?_ ?_ ?_).mono ?_; (exact HI.out.2.1); (exact H2.out.keep HKY.out.drew (fun _ _ _ => id)); (exact fun h => Nat.lt_irrefl _ h); (omega); rintro e w6 ⟨rfl, hp⟩; have m1 := (hp.keep.cell (p := ⟨b, o + k, none⟩) LX.out NB.out).trans hcx; have m2 := (hp.keep.cell (p := ⟨g5, k, none⟩) LO.out NO.out).trans hco; have m3 := (hp.keep.cell (p := ⟨G5 k, 0, none⟩) LV.out NV.out).trans hcv))
          all_goals
            have HK6 : Hid (Keep (· = w.heap.size) w5 w6) := HI.out.2.2.trans ⟨hp.keep.os, hp.keep.tape, hp.keep.output, hp.keep.size, hp.keep.block⟩
            have HF6 := Lib.hid hp.field
            clear hp m1 m2 m3 hcx hco hcv
            go_wp2_with fail
            go_loopw [12, 14] (fun u j wx => ∃ (q d : Nat) (t2 : Bool), q ≤ k ∧ j = .int .i64 (q : Int) ∧ u = .bool t2 ∧
                Hid ((t2 = true ↔ (xs.take k).Nodup ∧ ∀ q', q' < q → xs.getD q' 0 ≠ x) ∧ wx = w6.drewN d)) (fun _ j _ => k - (intOf j).toNat)
            case atStart => exact ⟨0, 0, t, Nat.zero_le _, rfl, rfl, ⟨fun h => ⟨HI.out.1.1 h, fun q' h9 => absurd h9 (Nat.not_lt_zero _)⟩, fun h => HI.out.1.2 h.1⟩, rfl⟩
            case round =>
              obtain ⟨wz, rfl⟩ : ∃ wz : World, wz = wr := ⟨_, rfl⟩
              obtain ⟨q, d, t2, hq, rfl, rfl, HJ⟩ := hrel
              have HKZ : Hid (Keep (fun _ => False) w wz) := by
                rw [HJ.out.2]
                exact HK5.out.trans' (HK6.out.drewN d) (fun i hi e => by omega)
              by_cases hltq : q < k
              · have q0 : (0 : Int) ≤ (q : Int) := by omega
                have qn : (q : Int) < (n : Int) := by omega
                have qk : (q : Int) < (k : Int) := by omega
                have qN : q < n := by omega
                have HLQ := Lib.hid hltq
                obtain ⟨b1, o1, x1, eb1, _, hx1, hcx1⟩ := (H1.out.keep HKZ.out (fun _ _ _ => id)).at_ HLT.out
                cases eb1
                rw [HXK.out] at hx1
                cases hx1
                obtain ⟨b2, o2, y, eb2, _, hy, hcy⟩ := (H1.out.keep HKZ.out (fun _ _ _ => id)).at_ (k := q) (by omega)
                cases eb2
                have HYD : Hid (xs.getD q 0 = y) := by
                  show xs.getD q 0 = y
                  rw [List.getD_eq_getElem?_getD, hy, Option.getD_some]
                clear hltq hy
                cases t2 with
                | true =>
                  by_cases hxy : x = y
                  · subst hxy
                    go_wp2_with fail
                    go_quiet (fail)
                    go_wp2_with fail
                    go_roundw
                    case rel =>
                      refine ⟨q + 1, d + nq, false, by have := HLQ.out; omega, by go_num, by simp, ⟨fun h => (by cases h), fun h => absurd HYD.out (h.2 q (by omega))⟩, ?_⟩
                      rw [HJ.out.2, World.drewN_drewN]
                    case measure => have := HLQ.out; simp [intOf]; omega
                  · have hb := bne_bytes hxy
                    have HXY := Lib.hid hxy
                    clear hxy
                    go_wp2_with fail
                    go_quiet (fail)
                    go_wp2_with fail
                    go_roundw
                    case rel =>
                      refine ⟨q + 1, d + nq, true, by have := HLQ.out; omega, by go_num, rfl, ⟨fun _ => ⟨(HJ.out.1.1 (by simp)).1, fun q' hq' => ?_⟩, fun _ => rfl⟩, ?_⟩
                      · by_cases e : q' = q
                        · rw [e, HYD.out]
                          exact fun e => HXY.out e.symm
                        · exact (HJ.out.1.1 (by simp)).2 q' (by omega)
                      · rw [HJ.out.2, World.drewN_drewN]
                    case measure => have := HLQ.out; simp [intOf]; omega
                | false =>
                  go_wp2_with fail
                  go_quiet (fail)
                  go_wp2_with fail
                  go_roundw
                  case rel =>
                    refine ⟨q + 1, d + nq, false, by have := HLQ.out; omega, by go_num, rfl, ⟨fun h => (by cases h), fun h => HJ.out.1.2 ⟨h.1, fun q' hq' => h.2 q' (by omega)⟩⟩, ?_⟩
                    rw [HJ.out.2, World.drewN_drewN]
                  case measure => have := HLQ.out; simp [intOf]; omega
              · have hkq : (k : Int) ≤ (q : Int) := by omega
                have hqe : q = k := by omega
                rw [hqe] at HJ
                clear hqe
                go_wp2_with fail
                go_roundw
                case rel =>
                  refine ⟨k + 1, t2, by have := HLT.out; omega, by go_num, rfl, ?_, ?_, ?_⟩
                  · rw [nodup_take HXK.out]
                    exact HJ.out.1
                  · rw [HJ.out.2]
                    exact HF6.out.keep ((Keep.refl (fun _ => False) w6).drewN d) id
                  · rw [HJ.out.2]
                    exact HK6.out.drewN d
                case measure => have := HLT.out; simp [intOf]; omega
        · have hkn : (n : Int) ≤ (k : Int) := by omega
          have hke : k = n := by omega
          rw [hke, List.take_of_length_le (by rw [HX.out]; omega)] at HI
          have HFY := Lib.hid HI.out.2.1
          have HT := Lib.hid HI.out.1
          have HMY := Lib.hid (HM5.out.keep HI.out.2.2 (fun x _ (hx : w3.heap.size ≤ x) (e : x = w.heap.size) => by have := HFB.out; omega))
          clear hke HI hlt hk
          by_cases hnc : n = c
          · have heq : ((n : Int) != (c : Int)) = false := by
              rw [bne_eq_false_iff_eq]
              omega
            have HNC := Lib.hid hnc
            clear hnc
            go_wp2_with fail
            clear hkn heq
            have HEQ : Hid (Eqm n n (ent (mk n c (powE xs))) (powE xs)) := fun i j hi hj => mk_ent n c (powE xs) i j hi (by have := HNC.out; omega)
            refine (back_yes w.heap.size (fun b => w3.heap.size ≤ b) _ n n ms (mk n c (powE xs)) wy HFY.out HMY.out HMR.out (HMC.out.trans HNC.out.symm)).mono ?_
            rintro e w7 ⟨hq7, hcase⟩
            have HK7 : Hid (Keep (fun _ => False) w w7) := HKY.out.trans' hq7.keep (fun i hi e => by omega)
            clear hq7
            rcases hcase with ⟨rfl, hrk⟩ | ⟨g7, X, rfl, _, _, hx1, _⟩
            · rw [mrank_congr HEQ.out] at hrk
              cases t with
              | true =>
                have h9 := van_rank HX.out (HT.out.1 rfl)
                exact absurd hrk (by omega)
              | false =>
                clear hrk
                go_wp2_with fail
                refine (one5_any w7).mono ?_
                rintro e w8 ⟨rfl, hk⟩
                have HK8 := Lib.hid (HK7.out.trans hk)
                clear hk
                go_wp2_with fail
                go_ret
                exact ⟨rfl, HK8.out⟩
            · have hrk := rank_of_right hx1
              rw [mrank_congr HEQ.out] at hrk
              cases t with
              | false =>
                have h9 : xs.Nodup := nodup_of (fun i k hik hkl e => by
                  rw [HX.out] at hkl
                  have h8 := van_less (n := n) (xs := xs) (i := i) (k := k) (by omega) hkl (by omega) e
                  omega)
                have h8 := HT.out.2 h9
                cases h8
              | true =>
                clear hrk hx1
                go_wp2_with fail
                refine (one5_any w7).mono ?_
                rintro e w8 ⟨rfl, hk⟩
                have HK8 := Lib.hid (HK7.out.trans hk)
                clear hk
                go_wp2_with fail
                go_ret
                exact ⟨rfl, HK8.out⟩
          · have hne : ((n : Int) != (c : Int)) = true := by
              rw [bne_iff_ne]
              omega
            clear hnc
            go_wp2_with fail
            refine (one5_any wy).mono ?_
            rintro e w8 ⟨rfl, hk⟩
            have HK8 := Lib.hid (HKY.out.trans hk)
            clear hk
            go_wp2_with fail
            go_ret
            exact ⟨rfl, HK8.out⟩

theorem matPowers_walk (W : World) (v0 : Value) (xs : List UInt8) (i0 : Bs (· < W.heap.size) W v0 xs) (v1 : Value) (p : List UInt8) (i1 : Bs (· < W.heap.size) W v1 p) :
    Calls Try.prog 15 #[v0, v1] W fun e w' => e = .returned (.bool true) ∧ Below W.heap.size W w' := by
  obtain ⟨ao, n, ca, rfl, _, _, h1⟩ := i0
  obtain ⟨bo, c, cb, rfl, _, _, h2⟩ := i1
  have hx : Calls Try.prog 15 #[.slice ao n ca, .slice bo c cb] W fun e w' => e = .returned (.bool true) ∧ Keep (fun _ => False) W w' := by
    by_cases hb : n ≤ 12 ∧ c ≤ 12
    · by_cases h0 : n = 0 ∨ c = 0
      · exact matPowers_none ao bo n c ca cb W hb.1 hb.2 h0
      · exact matPowers_in ao bo n c ca cb xs p W h1 h2 (by omega) hb.1 (by omega) hb.2
    · exact matPowers_big ao bo n c ca cb W hb
  exact hx.mono fun _ _ ⟨he, hk⟩ => ⟨he, hk.below (Nat.le_refl _) (fun _ _ => id)⟩
end Go.Proofs.Ytegecjilpmkamaa
