/-
  The walk of mat's Mul.
-/
import Derived.Test.YtegecjilpmkamaaXs
namespace Go.Proofs.Ytegecjilpmkamaa
open Go.RowKit Sb

theorem closure82 (i j : Nat) (w : World) : Calls Try.prog 82 #[.int .i64 i, .int .i64 j] w fun e w' => e = .returned (bv 0) ∧ w = w' := by
  go_enter Try.func82, Try.ntmps82
  go_wp2
  go_ret
  exact ⟨rfl, rfl⟩

/-- May two be multiplied? -/
def mfit (a b : List (List UInt8)) : Bool := mright a && (mright b && decide (mcols a = b.length))

set_option maxRecDepth 100000 in
set_option maxHeartbeats 1000000 in
theorem mul_no (p : Value) (P Q : Nat → Prop) (a1 a2 : Option Addr) (n1 n2 c1 c2 : Nat) (us vs : List Value) (a b : List (List UInt8)) (w : World) (h1 : Mv P w a1 n1 us a) (h2 : Mv Q w a2 n2 vs b) (hn1 : n1 ≤ 9223372036854775807) (hn2 : n2 ≤ 9223372036854775807) (hf : mfit a b = false) :
    Calls Try.prog 53 #[p, .slice a1 n1 c1, .slice a2 n2 c2] w fun e w' => e = .returned (.tuple #[.slice none 0 0, .int .i64 2]) ∧ Keep (fun _ => False) w w' := by
  have H1 := Lib.hid h1
  have H2 := Lib.hid h2
  have HF := Lib.hid hf
  have hnt := hnot
  cases hma : mright a with
  | false =>
    have HA := Lib.hid hma
    clear h1 h2 hf hma
    go_enter Try.func53, Try.ntmps53
    go_wp2_with fail
    refine (right_any P a1 n1 c1 us a w H1.out hn1).mono ?_
    rintro e w1 ⟨rfl, hk⟩
    have HK := Lib.hid hk
    clear hk
    rw [HA.out]
    go_wp2_with fail
    go_ret2
    exact ⟨rfl, HK.out⟩
  | true =>
    have HA := Lib.hid hma
    cases hmb : mright b with
    | false =>
      have HB := Lib.hid hmb
      clear h1 h2 hf hma hmb
      go_enter Try.func53, Try.ntmps53
      go_wp2_with fail
      refine (right_any P a1 n1 c1 us a w H1.out hn1).mono ?_
      rintro e w1 ⟨rfl, hk⟩
      have HK := Lib.hid hk
      clear hk
      rw [HA.out]
      go_wp2_with fail
      refine (right_any Q a2 n2 c2 vs b w1 (H2.out.keep HK.out (fun _ _ _ => id)) hn2).mono ?_
      rintro e w2 ⟨rfl, hk2⟩
      have HK2 := Lib.hid (HK.out.trans hk2)
      clear hk2
      rw [HB.out]
      go_wp2_with fail
      go_ret2
      exact ⟨rfl, HK2.out⟩
    | true =>
      have HB := Lib.hid hmb
      have hM := of_mright hma
      have hn := hM.1.1
      rw [h1.len] at hn
      obtain ⟨q, o, ao', n', cap', r, rfl, _, hu, hm0, hc, _, _, hrb⟩ := h1.at_ (k := 0) (by omega)
      rw [Nat.add_zero] at hc
      have hne : n' ≠ n2 := by
        intro e
        have e1 := mcols_at hm0
        rw [hrb.len] at e1
        rw [mfit, hma, hmb, Bool.true_and, Bool.true_and, decide_eq_false_iff_not, e1, h2.len] at hf
        exact hf e
      have hne2 : ((n' : Int) != (n2 : Int)) = true := by rw [bne_iff_ne]; omega
      have hlt := World.block_lt_of_cell? w _ hc
      have hp : (0 : Int) < (n1 : Int) := by omega
      clear h1 h2 hf hma hmb hM hn hu hm0 hrb hne
      go_enter Try.func53, Try.ntmps53
      go_wp2_with fail
      refine (right_any P _ n1 c1 us a w H1.out hn1).mono ?_
      rintro e w1 ⟨rfl, hk⟩
      have HK := Lib.hid hk
      clear hk
      rw [HA.out]
      go_wp2_with fail
      refine (right_any Q a2 n2 c2 vs b w1 (H2.out.keep HK.out (fun _ _ _ => id)) hn2).mono ?_
      rintro e w2 ⟨rfl, hk2⟩
      have HK2 := Lib.hid (HK.out.trans hk2)
      have hc2 : w2.cell? ⟨q, o, none⟩ = some (.slice ao' n' cap') := (HK2.out.cell hlt id).trans hc
      clear hk2
      rw [HB.out]
      go_wp2_with fail
      go_ret2
      exact ⟨rfl, HK2.out⟩

theorem Blk.rb {P : Nat → Prop} {w : World} {g n : Nat} {xs : List UInt8} (h : Blk w g 5 (bcells xs)) (hn : xs.length = n) (hP : P g) : Rb P w (some ⟨g, 0, none⟩) n xs := by
  refine ⟨by rw [List.length_map]; exact hn, fun _ => ⟨g, 0, rfl, hP, fun i u hu => ?_⟩⟩
  rw [Nat.zero_add, h.cell]
  simpa [bcells] using hu

set_option maxRecDepth 100000 in
set_option maxHeartbeats 4000000 in
theorem mul_yes (fb : Nat) (P Q : Nat → Prop) (a1 a2 : Option Addr) (n1 n2 c1 c2 : Nat) (us vs : List Value) (a b : List (List UInt8)) (w : World) (hf : FieldAt w fb) (hP : ∀ x, P x → x ≠ fb) (hQ : ∀ x, Q x → x ≠ fb) (h1 : Mv P w a1 n1 us a) (h2 : Mv Q w a2 n2 vs b) (hfit : mfit a b = true) :
    Calls Try.prog 53 #[.pointer (some ⟨fb, 0, none⟩), .slice a1 n1 c1, .slice a2 n2 c2] w fun e w' => ∃ g G, e = .returned (.tuple #[.slice (some ⟨g, 0, none⟩) n1 n1, .int .i64 0]) ∧ Fl w.heap.size w' g G n1 (mcols b) (fun i => rowOf (mcols b) (mulE n2 (ent a) (ent b) i)) ∧ Fq fb w w' := by
  rw [mfit, Bool.and_eq_true, Bool.and_eq_true, decide_eq_true_eq] at hfit
  obtain ⟨hma, hmb, hK⟩ := hfit
  have hMa := of_mright hma
  have hMb := of_mright hmb
  rw [h2.len] at hK
  have e1 := hMa.1
  have e2 := hMb.1
  have e3 := hMb.2.1
  rw [h1.len] at e1
  rw [h2.len] at e2
  have HROWA : Hid (∀ r ∈ a, r.length = n2) := fun r hr => (hMa.2.2 r hr).trans hK
  obtain ⟨c, hc⟩ : ∃ c, c = mcols b := ⟨_, rfl⟩
  rw [← hc] at e3 ⊢
  have HROWB : Hid (∀ r ∈ b, r.length = c) := fun r hr => (hMb.2.2 r hr).trans hc.symm
  obtain ⟨q, o, ao', n', cap', r, rfl, _, hu, hm0, hca, _, _, hrb⟩ := h1.at_ (k := 0) (by omega)
  rw [Nat.add_zero] at hca
  have hn' : n' = n2 := by have h5 := HROWA.out r (List.mem_of_getElem? hm0); rw [hrb.len] at h5; exact h5
  subst hn'
  obtain ⟨q2, o2, bo', c', cap2, r2, rfl, _, hu2, hm2, hcb, _, _, hrb2⟩ := h2.at_ (k := 0) (by omega)
  rw [Nat.add_zero] at hcb
  have hc' : c' = c := by have h5 := HROWB.out r2 (List.mem_of_getElem? hm2); rw [hrb2.len] at h5; exact h5
  subst hc'
  have hlta := World.block_lt_of_cell? w _ hca
  have hltb := World.block_lt_of_cell? w _ hcb
  have HA := Lib.hid hma
  have HB := Lib.hid hmb
  have H1 := Lib.hid h1
  have H2 := Lib.hid h2
  have E1 := Lib.hid e1
  have E2 := Lib.hid e2
  have E3 := Lib.hid e3
  have HF := Lib.hid hf
  have HP := Lib.hid hP
  have HQ := Lib.hid hQ
  have p1 : (0 : Int) < (n1 : Int) := by omega
  have p2 : (0 : Int) < (n' : Int) := by omega
  have p3 : (n1 : Int) ≤ 255 := by omega
  have p4 : (n' : Int) ≤ 255 := by omega
  have p5 : (c' : Int) ≤ 255 := by omega
  have hmk := make_bytes n' (by omega)
  have hnt := hnot
  have hmf := hmf
  clear hma hmb hMa hMb hK hc hu hm0 hrb hu2 hm2 hrb2 h1 h2 e1 e2 e3 hf hP hQ
  go_enter Try.func53, Try.ntmps53
  go_wp2_with fail
  refine (right_any P _ n1 c1 us a w H1.out (by have := E1.out; omega)).mono ?_
  rintro e w1 ⟨rfl, hk⟩
  have HK := Lib.hid hk
  clear hk
  rw [HA.out]
  go_wp2_with fail
  refine (right_any Q _ n' c2 vs b w1 (H2.out.keep HK.out (fun _ _ _ => id)) (by have := E2.out; omega)).mono ?_
  rintro e w2 ⟨rfl, hk2⟩
  have HK2 := Lib.hid (HK.out.trans hk2)
  have hca2 : w2.cell? ⟨q, o, none⟩ = some (.slice ao' n' cap') := (HK2.out.cell hlta id).trans hca
  have hcb2 : w2.cell? ⟨q2, o2, none⟩ = some (.slice bo' c' cap2) := (HK2.out.cell hltb id).trans hcb
  have hltb2 : q2 < w2.heap.size := Nat.lt_of_lt_of_le hltb HK2.out.size
  clear hk2
  rw [HB.out]
  go_wp2_with fail
  clear hmk
  have hcb3 : (w2.alloc (.cells (madeCells #[.int .u8 0] n') 5)).cell? ⟨q2, o2, none⟩ = some (.slice bo' c' cap2) := by
    rw [((Keep.refl (fun _ => False) w2).alloc _).cell hltb2 id]
    exact hcb2
  have HK3 : Hid (Keep (fun _ => False) w (w2.alloc (.cells (madeCells #[.int .u8 0] n') 5))) := HK2.out.alloc _
  have HC3 : Hid (Blk (w2.alloc (.cells (madeCells #[.int .u8 0] n') 5)) w2.heap.size 5 (bcells (List.replicate n' 0))) := by
    rw [← made_bcells]
    exact Blk.new _ _ _
  have HS3 : Hid ((w2.alloc (.cells (madeCells #[.int .u8 0] n') 5)).heap.size = w2.heap.size + 1) := by
    show (w2.alloc (.cells (madeCells #[.int .u8 0] n') 5)).heap.size = w2.heap.size + 1
    simp
  have HS2 : Hid (w.heap.size ≤ w2.heap.size) := HK2.out.size
  generalize w2.alloc (.cells (madeCells #[.int .u8 0] n') 5) = w3 at *
  clear hca2 hcb2 hltb2
  refine (filled_82 (fun _ => False) (fun _ => True) (fun _ _ => 0) n1 c' w3 (by have := E1.out; omega) (by have := E3.out; omega) trivial (fun b h => h.elim) (fun _ _ _ _ _ => trivial) (fun i j wa _ _ _ _ => (closure82 i j wa).mono ?_)).mono ?_
  · rintro e wb ⟨rfl, rfl⟩
    exact ⟨rfl, trivial, Keep.refl _ _⟩
  rintro e w4 ⟨g, G, rfl, hfl, _, hk4⟩
  have HFL4 : Hid (Fl w3.heap.size w4 g G n1 c' (fun i => rowOf c' (fun _ => 0))) := hfl
  have HK4 := Lib.hid (HK3.out.trans hk4)
  have HC4 := Lib.hid (HC3.out.keep hk4 id)
  have hcb4 : w4.cell? ⟨q2, o2, none⟩ = some (.slice bo' c' cap2) := (HK4.out.cell hltb id).trans hcb
  clear hfl hk4 hcb3
  go_wp2_with fail
  clear hcb4
  go_loopw [10, 11, 12, 44] (fun _ _ _ j wr => ∃ jj : Nat, jj ≤ c' ∧ j = .int .i64 (jj : Int) ∧
      Hid (Fl w3.heap.size wr g G n1 c' (fun i => rowOf c' (fun l => if l < jj then mulE n' (ent a) (ent b) i l else 0)) ∧ (∃ ys, Blk wr w2.heap.size 5 (bcells ys) ∧ ys.length = n') ∧ FieldAt wr fb ∧ (Blk w fb 102 full → Blk wr fb 102 full) ∧ Keep (· = fb) w wr)) (fun _ _ _ j _ => c' - (intOf j).toNat)
  case atStart =>
    refine ⟨0, Nat.zero_le _, rfl, HFL4.out.congr (fun i l _ _ => by rw [if_neg (Nat.not_lt_zero _)]), ⟨_, HC4.out, List.length_replicate⟩, HF.out.keep HK4.out id, fun h => h.keep HK4.out id, HK4.out.mono (fun _ _ h => h.elim)⟩
  case round =>
    obtain ⟨jj, hjj, rfl, HI⟩ := hrel
    obtain ⟨wo, rfl⟩ : ∃ wo : World, wo = wr := ⟨_, rfl⟩
    by_cases hltj : jj < c'
    · have j0 : (0 : Int) ≤ (jj : Int) := by omega
      have jn : (jj : Int) < (c' : Int) := by omega
      have HLTJ := Lib.hid hltj
      clear hltj
      go_wp2_with fail
      go_loopw [11, 49] (fun _ k wx => ∃ kk : Nat, kk ≤ n' ∧ k = .int .i64 (kk : Int) ∧ Hid (∃ ys, Blk wx w2.heap.size 5 (bcells ys) ∧ ys.length = n' ∧ (∀ (q : Nat), q < kk → ys[q]? = some (ent b q jj)) ∧ Keep (· = w2.heap.size) wo wx)) (fun _ k _ => n' - (intOf k).toNat)
      case atStart =>
        obtain ⟨ys, i1, i2⟩ := HI.out.2.1
        exact ⟨0, Nat.zero_le _, rfl, ys, i1, i2, fun q h => absurd h (Nat.not_lt_zero _), Keep.refl _ _⟩
      case round =>
        obtain ⟨kk, hkk, rfl, HL⟩ := hrel
        obtain ⟨ys, HY⟩ : ∃ ys, Hid (Blk wr w2.heap.size 5 (bcells ys) ∧ ys.length = n' ∧ (∀ (q : Nat), q < kk → ys[q]? = some (ent b q jj)) ∧ Keep (· = w2.heap.size) wo wr) := HL.out
        have hkw : Keep (· = fb) w wr := HI.out.2.2.2.2.trans' HY.out.2.2.2 (fun i hi e => by have := HS2.out; omega)
        by_cases hltk : kk < n'
        · obtain ⟨qb, ob, bo, nb, cb, rb, eb, _, hub, hrb, hcc, _, _, hrbb⟩ := (H2.out.keep hkw (fun x _ hx e => HQ.out x hx e)).at_ hltk
          cases eb
          have hnb : nb = c' := by have h5 := HROWB.out rb (List.mem_of_getElem? hrb); rw [hrbb.len] at h5; exact h5
          subst hnb
          obtain ⟨q3, o3, x, rfl, _, hx, hcx⟩ := hrbb.at_ HLTJ.out
          have hxe : Hid (x = ent b kk jj) := by
            show x = ent b kk jj
            unfold ent
            rw [hrb, Option.getD_some, hx, Option.getD_some]
          obtain ⟨z, hz⟩ : ∃ z, ys[kk]? = some z := ⟨ys[kk]'(by have := HY.out.2.1; omega), List.getElem?_eq_getElem _⟩
          have hcz : wr.cell? ⟨w2.heap.size, kk, none⟩ = some (bv z) := (HY.out.1.cell _).trans (bcells_get hz)
          have hfz : wr.frozen? ⟨w2.heap.size, kk, none⟩ = false := HY.out.1.frozen _
          have k0 : (0 : Int) ≤ (kk : Int) := by omega
          have kn : (kk : Int) < (n' : Int) := by omega
          have HLTK := Lib.hid hltk
          clear hub hrb hrbb hx hz hltk hkw HL
          go_wp2_with fail
          go_roundw
          case rel =>
            refine ⟨kk + 1, by have := HLTK.out; omega, by go_num, ys.set kk x, ?_, by rw [List.length_set]; exact HY.out.2.1, fun q hq => ?_, HY.out.2.2.2.setCell (p := ⟨w2.heap.size, kk, none⟩) (fun _ => rfl) _⟩
            · rw [← bcells_set]
              exact HY.out.1.set_ _ _
            · by_cases hqk : q = kk
              · subst hqk
                rw [List.getElem?_set_self (by have := HY.out.2.1; have := HLTK.out; omega), hxe.out]
              · rw [List.getElem?_set_ne (fun e => hqk e.symm)]
                exact HY.out.2.2.1 q (by omega)
          case measure => simp [intOf]; omega
        · have hkn : (n' : Int) ≤ (kk : Int) := by omega
          have hke : kk = n' := by omega
          have hys : ys = rowOf n' (fun q => ent b q jj) := by
            apply List.ext_getElem?
            intro q
            by_cases hq : q < n'
            · rw [HY.out.2.2.1 q (by omega), rowOf_get _ hq]
            · rw [List.getElem?_eq_none (by have := HY.out.2.1; omega), List.getElem?_eq_none (by rw [rowOf_len]; omega)]
          rw [hys] at HY
          have HCOL : Hid (Blk wr w2.heap.size 5 (bcells (rowOf n' (fun q => ent b q jj)))) := HY.out.1
          have HKW := Lib.hid hkw
          have HFLW : Hid (Fl w3.heap.size wr g G n1 c' (fun i => rowOf c' (fun l => if l < jj then mulE n' (ent a) (ent b) i l else 0))) := HI.out.1.keep HY.out.2.2.2 (fun b _ hb e => by have := HS3.out; omega)
          have HFW : Hid (FieldAt wr fb) := HI.out.2.2.1.keep HY.out.2.2.2 (fun e => by have := HF.out.lt; have := HS2.out; omega)
          have HUW : Hid (Blk w fb 102 full → Blk wr fb 102 full) := fun h => (HI.out.2.2.2.1 h).keep HY.out.2.2.2 (fun e => by have := HF.out.lt; have := HS2.out; omega)
          clear hys HY HL hkw HI hke
          go_wp2_with fail
          go_loopw [12, 65] (fun _ i wx => ∃ ii : Nat, ii ≤ n1 ∧ i = .int .i64 (ii : Int) ∧
              Hid (Fl w3.heap.size wx g G n1 c' (fun i => rowOf c' (fun l => if l < jj ∨ (l = jj ∧ i < ii) then mulE n' (ent a) (ent b) i l else 0)) ∧ Blk wx w2.heap.size 5 (bcells (rowOf n' (fun q => ent b q jj))) ∧ FieldAt wx fb ∧ (Blk w fb 102 full → Blk wx fb 102 full) ∧ Keep (· = fb) w wx)) (fun _ i _ => n1 - (intOf i).toNat)
          case atStart =>
            exact ⟨0, Nat.zero_le _, rfl, HFLW.out.congr (fun i l _ _ => by simp), HCOL.out, HFW.out, HUW.out, HKW.out⟩
          case round =>
            obtain ⟨ii, hii, rfl, HJ⟩ := hrel
            obtain ⟨wq, rfl⟩ : ∃ wq : World, wq = wr := ⟨_, rfl⟩
            by_cases hlti : ii < n1
            · obtain ⟨qa, oa, ra, na, ca, rr, ea, _, hua, hra, hcra, _, _, hrba⟩ := (H1.out.keep HJ.out.2.2.2.2 (fun x _ hx e => HP.out x hx e)).at_ hlti
              cases ea
              have hna : na = n' := by have h5 := HROWA.out rr (List.mem_of_getElem? hra); rw [hrba.len] at h5; exact h5
              subst hna
              have hrr : rr = rowOf na (ent a ii) := (ent_row hra hrba.len).symm
              subst hrr
              have HRA : Hid (Rb (· ≠ fb) wq ra na (rowOf na (ent a ii))) := hrba.mono (fun x _ hx => HP.out x hx)
              have hgb : w2.heap.size ≠ fb := by have := HF.out.lt; have := HS2.out; omega
              have HCB : Hid (Rb (· ≠ fb) wq (some ⟨w2.heap.size, 0, none⟩) na (rowOf na (fun q => ent b q jj))) := HJ.out.2.1.rb (rowOf_len _ _) hgb
              obtain ⟨f1, cs, f2, f3, f4, f5⟩ := HJ.out.1
              obtain ⟨f6, f7, f8, f9⟩ := f4 ii hlti
              have hco : wq.cell? ⟨g, ii, none⟩ = some (.slice (some ⟨G ii, 0, none⟩) c' c') := (f2.cell ii).trans f6
              obtain ⟨z, hz⟩ : ∃ z, (rowOf c' (fun l => if l < jj ∨ (l = jj ∧ ii < ii) then mulE na (ent a) (ent b) ii l else 0))[jj]? = some z := ⟨_, rowOf_get _ HLTJ.out⟩
              have hcg : wq.cell? ⟨G ii, jj, none⟩ = some (bv z) := (f8.cell jj).trans (bcells_get hz)
              have hfg : wq.frozen? ⟨G ii, jj, none⟩ = false := f8.frozen jj
              have LA := Lib.hid (World.block_lt_of_cell? _ _ hcra)
              have LO := Lib.hid (World.block_lt_of_cell? _ _ hco)
              have LG := Lib.hid (World.block_lt_of_cell? _ _ hcg)
              have hfl := HF.out.lt
              have hs2 := HS2.out
              have hs3 := HS3.out
              have NA : Hid (¬ q = fb) := by
                obtain ⟨b9, o9, u9, e9, hp9, _⟩ := Rv.at_ H1.out.1 hlti
                cases e9
                exact HP.out _ hp9
              have NO : Hid (¬ g = fb) := by show ¬ g = fb; omega
              have NG : Hid (¬ G ii = fb) := by show ¬ G ii = fb; omega
              have i0 : (0 : Int) ≤ (ii : Int) := by omega
              have i1 : (ii : Int) < (n1 : Int) := by omega
              have HLTI := Lib.hid hlti
              clear f1 f2 f3 f4 f5 f6 f7 f8 f9 hz hua hra hrba hlti hfl hs2 hs3 hgb
              go_wp2_with fail
              go_region_with (first | (go_at_call 38; have hD := fun (d : Nat) => dot_any fb (· ≠ fb) ra (some ⟨w2.heap.size, 0, none⟩) na na ca na (rowOf na (ent a ii)) (rowOf na (fun q => ent b q jj)) (wq.drewN d) (HJ.out.2.2.1) (HRA.out.drewN d) (HCB.out.drewN d) (fun h => h rfl) (by have := E2.out; omega) (by have := E2.out; omega); refine (hD _).mono ?_; clear hD; rintro e w5 ⟨rfl, hp5⟩; have hk5 : Keep (· = fb) wq w5 := ⟨hp5.keep.os, hp5.keep.tape, hp5.keep.output, hp5.keep.size, hp5.keep.block⟩; have m1 := (hk5.cell (p := ⟨q, o + ii, none⟩) LA.out NA.out).trans hcra; have m2 := (hk5.cell (p := ⟨g, ii, none⟩) LO.out NO.out).trans hco; have m3 := (hk5.cell (p := ⟨G ii, jj, none⟩) LG.out NG.out).trans hcg; have m4 := (hk5.frozen (p := ⟨G ii, jj, none⟩) LG.out NG.out).trans hfg))
              all_goals
                have HK5 := Lib.hid hk5
                have HP5 : Hid (Blk w5 fb 102 full) := hp5.at_
                have HNGC : Hid (¬ G ii = w2.heap.size) := by
                  have h9 := (HJ.out.1.2.choose_spec.2.2.1 ii HLTI.out).2.1
                  have := HS3.out
                  show ¬ G ii = w2.heap.size
                  omega
                have hst : Hid (Keep (· = G ii) w5 (w5.setCell ⟨G ii, jj, none⟩ (bv (gdot (rowOf na (ent a ii)) (rowOf na (fun q => ent b q jj)))))) := (Keep.refl (· = G ii) _).setCell (p := ⟨G ii, jj, none⟩) (fun _ => rfl) _
                have HGB : Hid (w.heap.size ≤ G ii) := by
                  have h9 := (HJ.out.1.2.choose_spec.2.2.1 ii HLTI.out).2.1
                  have := HS3.out
                  have := HS2.out
                  show w.heap.size ≤ G ii
                  omega
                have HFL5 : Hid (Fl w3.heap.size w5 g G n1 c' (fun i => rowOf c' (fun l => if l < jj ∨ (l = jj ∧ i < ii) then mulE na (ent a) (ent b) i l else 0))) := HJ.out.1.keep HK5.out (fun b _ hb e => by have := HF.out.lt; have := HS2.out; have := HS3.out; omega)
                have HC5 : Hid (Blk w5 w2.heap.size 5 (bcells (rowOf na (fun q => ent b q jj)))) := HJ.out.2.1.keep HK5.out (fun e => by have := HF.out.lt; have := HS2.out; omega)
                have HKJ : Hid (Keep (· = fb) w wq) := HJ.out.2.2.2.2
                clear hk5 hp5 m1 m2 m3 m4 hcra hco hcg hfg HJ
                go_wp2_with fail
                go_roundw
                case rel =>
                  refine ⟨ii + 1, by have := HLTI.out; omega, by go_num, ?_, HC5.out.keep hst.out (fun e => HNGC.out e.symm), .inr (HP5.out.keep hst.out (fun e => NG.out e.symm)), fun _ => HP5.out.keep hst.out (fun e => NG.out e.symm), (HKJ.out.trans HK5.out).trans' hst.out (fun i hi e => by have := HGB.out; omega)⟩
                  refine (HFL5.out.set_ HLTI.out HLTJ.out _).congr (fun i l _ _ => ?_)
                  by_cases h1 : i = ii ∧ l = jj
                  · rw [if_pos h1, if_pos (by omega), gdot_rowOf, h1.1, h1.2]
                    rfl
                  · rw [if_neg h1]
                    by_cases h2 : l < jj ∨ (l = jj ∧ i < ii)
                    · rw [if_pos h2, if_pos (by omega)]
                    · rw [if_neg h2, if_neg (by omega)]
                case measure => simp [intOf]; omega
            · have hin : (n1 : Int) ≤ (ii : Int) := by omega
              have hie : ii = n1 := by omega
              go_wp2_with fail
              go_roundw
              case rel =>
                obtain ⟨j1, j2, j3, j4, j5⟩ := HJ.out
                refine ⟨jj + 1, by have := HLTJ.out; omega, by go_num, j1.congr (fun i l hi _ => ?_), ⟨_, j2, rowOf_len _ _⟩, j3, j4, j5⟩
                by_cases h2 : l < jj ∨ (l = jj ∧ i < ii)
                · rw [if_pos h2, if_pos (by omega)]
                · rw [if_neg h2, if_neg (by omega)]
              case measure => simp [intOf]; omega
    · have hjn : (c' : Int) ≤ (jj : Int) := by omega
      go_wp2_with fail
      go_ret2
      have hje : jj = c' := by omega
      subst hje
      refine ⟨g, G, rfl, (HI.out.1.congr (fun i l _ hl => by rw [if_pos hl])).old (by have := HS3.out; have := HS2.out; omega), HI.out.2.2.1, HI.out.2.2.2.1, HI.out.2.2.2.2⟩
end Go.Proofs.Ytegecjilpmkamaa
