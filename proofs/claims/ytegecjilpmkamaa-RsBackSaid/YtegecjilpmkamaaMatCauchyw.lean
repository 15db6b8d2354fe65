/-
  The walk of the law 'MatCauchy'.
-/
import Derived.Test.YtegecjilpmkamaaCaul
namespace Go.Proofs.Ytegecjilpmkamaa
open Go.RowKit Sb

theorem all_cols {c r : Nat} (h : 1 ≤ c) : mcols (oneM c ++ cauM r c) = c := by
  have h1 : (oneM c ++ cauM r c)[0]? = some (oneRow c 0) := by
    rw [List.getElem?_append, if_pos (by simp [oneM]; omega)]
    have : 0 < c := h
    simp [oneM, this]
  rw [mcols_at h1]
  simp [oneRow]
theorem all_right {c r : Nat} (h : 1 ≤ c) (hT : c + r ≤ 255) : mright (oneM c ++ cauM r c) = true := by
  refine mright_true ⟨?_, ?_, ?_⟩
  · simp [oneM, cauM]
    omega
  · rw [all_cols h]
    omega
  · rw [all_cols h]
    intro x hx
    rcases List.mem_append.1 hx with hx | hx
    · obtain ⟨i, _, rfl⟩ := List.mem_map.1 hx
      simp [oneRow]
    · obtain ⟨i, _, rfl⟩ := List.mem_map.1 hx
      simp [cauRow]

theorem hads_lit : #[.bool false, .bool false, .bool false, .bool false, .bool false, .bool false, .bool false, .bool false, .bool false, .bool false, .bool false, .bool false, .bool false, .bool false, .bool false, .bool false] = hads [] := by kernel_rfl

set_option maxRecDepth 100000 in
set_option maxHeartbeats 8000000 in
theorem matCauchy_in (a0 a1 : Int) (lo : Option Addr) (k0 ck c0 r0 : Nat) (l : List Int) (w : World) (h2 : Nn (· < w.heap.size) w lo k0 l) (e1 : bits BinOp.and IntKind.i64 a0 7 = (c0 : Int)) (e2 : bits BinOp.and IntKind.i64 a1 7 = (r0 : Int)) (hc0 : c0 ≤ 7) (hr0 : r0 ≤ 7) :
    Calls Try.prog 13 #[.int .i64 a0, .int .i64 a1, .slice lo k0 ck] w fun e w' => e = .returned (.bool true) ∧ Keep (fun _ => False) w w' := by
  have H2 := Lib.hid h2
  have b1 : (c0 : Int) ≤ 7 := by omega
  have b2 : (r0 : Int) ≤ 7 := by omega
  have hnt := hnot
  clear h2
  go_enter Try.func13, Try.ntmps13
  go_wp2_with fail
  refine (new_any w).mono ?_
  rintro e w3 ⟨rfl, rfl⟩
  have HK3 : Hid (Keep (fun _ => False) w (w.alloc (.cells Try.zeroCells102 102))) := (Keep.refl _ w).alloc _
  have HF3 : Hid (FieldAt (w.alloc (.cells Try.zeroCells102 102)) w.heap.size) := field_new w
  have HS : Hid (w.heap.size ≤ w.heap.size) := Nat.le_refl _
  generalize (w.alloc (.cells Try.zeroCells102 102)) = w3 at *
  obtain ⟨c, hc⟩ : ∃ c : Nat, c = 1 + c0 := ⟨_, rfl⟩
  obtain ⟨r, hr⟩ : ∃ r : Nat, r = 1 + r0 := ⟨_, rfl⟩
  have HCR : Hid (1 ≤ c ∧ c ≤ 8 ∧ 1 ≤ r ∧ r ≤ 8) := by show 1 ≤ c ∧ c ≤ 8 ∧ 1 ≤ r ∧ r ≤ 8; omega
  have ec : 1 + (c0 : Int) = (c : Int) := by omega
  have er : 1 + (r0 : Int) = (r : Int) := by omega
  rw [ec, er]
  clear ec er hc hr e1 e2 b1 b2 hc0 hr0
  have c1 : (1 : Int) ≤ (c : Int) := by have := HCR.out; omega
  have c2 : (c : Int) ≤ 8 := by have := HCR.out; omega
  have r1 : (1 : Int) ≤ (r : Int) := by have := HCR.out; omega
  have r2 : (r : Int) ≤ 8 := by have := HCR.out; omega
  go_wp2_with fail
  refine (one_yes c w3 (by have := HCR.out; omega) (by have := HCR.out; omega)).mono ?_
  rintro e w4 ⟨g4, G4, rfl, hfl, hk⟩
  obtain ⟨is_, hi⟩ := hfl.mv (by have := HCR.out; omega) (by have := HCR.out; omega)
  have HI4 : Hid (Mv (fun b => w3.heap.size ≤ b) w4 (some ⟨g4, 0, none⟩) c is_ (oneM c)) := hi
  have HK4 := Lib.hid (HK3.out.trans hk)
  have HF4 := Lib.hid (HF3.out.keep hk id)
  have HFB := Lib.hid HF3.out.lt
  clear hfl hi hk
  go_wp2_with fail
  refine (cauchy_yes w.heap.size r c w4 HF4.out (by have := HCR.out; omega) (by have := HCR.out; omega) (by have := HCR.out; omega)).mono ?_
  rintro e w5 ⟨g5, G5, rfl, hfl, hq⟩
  obtain ⟨cs_, hcs⟩ := hfl.mv (by have := HCR.out; omega) (by have := HCR.out; omega)
  have HC5 : Hid (Mv (fun b => w4.heap.size ≤ b) w5 (some ⟨g5, 0, none⟩) r cs_ (cauM r c)) := hcs
  have HK5 : Hid (Keep (fun _ => False) w w5) := HK4.out.trans' hq.keep (fun i hi e => by omega)
  have HF5 := Lib.hid hq.at_
  have HI5 := Lib.hid (HI4.out.keep hq.keep (fun x _ (hx : w3.heap.size ≤ x) (e : x = w.heap.size) => by have := HFB.out; omega))
  clear hfl hcs hq
  go_wp2_with fail
  have HR1 : Hid (mright (oneM c) = true) := mk_right idE (by have := HCR.out; omega) (by have := HCR.out; omega) (by have := HCR.out; omega) (by have := HCR.out; omega)
  have HR2 : Hid (mright (cauM r c) = true) := mk_right (fun i j => ginv (UInt8.ofNat (i + c) ^^^ UInt8.ofNat j)) (by have := HCR.out; omega) (by have := HCR.out; omega) (by have := HCR.out; omega) (by have := HCR.out; omega)
  have HQ1 : Hid (mcols (oneM c) = c) := mk_cols c idE (by have := HCR.out; omega)
  have HQ2 : Hid (mcols (cauM r c) = c) := mk_cols c (fun i j => ginv (UInt8.ofNat (i + c) ^^^ UInt8.ofNat j)) (by have := HCR.out; omega)
  refine (join_yes _ _ _ _ c r c r is_ cs_ _ _ w5 HI5.out HC5.out HR1.out HR2.out (by rw [HQ1.out, HQ2.out]) (by have := HCR.out; omega)).mono ?_
  rintro e w6 ⟨v6, rfl, hgr, hk⟩
  have HLA : Hid ((oneM c ++ cauM r c).length = c + r) := by show (oneM c ++ cauM r c).length = c + r; simp [oneM, cauM]
  obtain ⟨ao6, cap6, rfl, _, _⟩ := hgr.len
  obtain ⟨as_, has⟩ := hgr.mv
  rw [HLA.out] at has ⊢
  have HA6 : Hid (Mv (fun b => w5.heap.size ≤ b ∧ b < w6.heap.size) w6 ao6 (c + r) as_ (oneM c ++ cauM r c)) := has.mono (fun b hl hb => ⟨hb.elim id id, hl⟩)
  have HK6 := Lib.hid (HK5.out.trans hk)
  have HF6 := Lib.hid (HF5.out.keep hk id)
  have HF5L := Lib.hid HF5.out.lt
  have HK56 : Hid (w5.heap.size ≤ w6.heap.size) := hk.size
  clear hgr has hk
  go_wp2_with fail
  have HH7 : Hid (Blk (w6.alloc (.cells #[.bool false, .bool false, .bool false, .bool false, .bool false, .bool false, .bool false, .bool false, .bool false, .bool false, .bool false, .bool false, .bool false, .bool false, .bool false, .bool false] 66)) w6.heap.size 66 (hads [])) := hads_lit ▸ Blk.new w6 66 _
  have HK67 : Hid (Keep (fun _ => False) w6 (w6.alloc (.cells #[.bool false, .bool false, .bool false, .bool false, .bool false, .bool false, .bool false, .bool false, .bool false, .bool false, .bool false, .bool false, .bool false, .bool false, .bool false, .bool false] 66))) := (Keep.refl _ w6).alloc _
  generalize (w6.alloc (.cells #[.bool false, .bool false, .bool false, .bool false, .bool false, .bool false, .bool false, .bool false, .bool false, .bool false, .bool false, .bool false, .bool false, .bool false, .bool false, .bool false] 66)) = w7 at *
  have HK7 := Lib.hid (HK6.out.trans HK67.out)
  have HF7 := Lib.hid (HF6.out.keep HK67.out id)
  have HA7 := Lib.hid (HA6.out.keep HK67.out (fun _ _ _ => id))
  have HG7 : Hid (w6.heap.size < w7.heap.size) := HH7.out.lt
  have HS6 : Hid (w.heap.size < w5.heap.size ∧ w5.heap.size ≤ w6.heap.size) := ⟨HF5L.out, HK56.out⟩
  have pw : IntKind.i64.wrap ((c : Int) + (r : Int)) = (c : Int) + (r : Int) := IntWalk.i64_in _ (by omega)
  have pz : (((c : Int) + (r : Int)) == 0) = false := by rw [beq_eq_false_iff_ne]; omega
  have pn : ¬ ((c : Int) + (r : Int)) = 0 := by omega
  go_loopw [15, 16, 17] (fun s i _ wr => ∃ (k : Nat) (ls : List Nat), k ≤ k0 ∧ i = .int .i64 (k : Int) ∧
      Hid (Gi w7.heap.size wr s (ls.map Int.ofNat) ∧ ls.Nodup ∧ (∀ x ∈ ls, x < c + r) ∧ ls.length ≤ c ∧ Blk wr w6.heap.size 66 (hads ls) ∧ Keep (fun b => b = w6.heap.size) w7 wr)) (fun _ i _ _ => k0 - (intOf i).toNat)
  case atStart => exact ⟨0, [], Nat.zero_le _, rfl, Gi.nil _ _, List.nodup_nil, fun x h => by (cases h), Nat.zero_le _, HH7.out, Keep.refl _ _⟩
  case round =>
    obtain ⟨k, ls, hk, rfl, HI⟩ := hrel
    obtain ⟨ao, cap, rfl, hnn⟩ := HI.out.1.nn
    have HLL : Hid ((ls.map Int.ofNat).length = ls.length) := List.length_map _
    rw [HLL.out] at hnn ⊢
    have HG : Hid (Gi w7.heap.size wr (.slice ao ls.length cap) (ls.map Int.ofNat)) := by
      have h9 := HI.out.1
      rw [HLL.out] at h9
      exact h9
    have HLC : Hid (ls.length ≤ c) := HI.out.2.2.2.1
    have HKX : Hid (Keep (fun _ => False) w wr) := HK7.out.trans' HI.out.2.2.2.2.2 (fun i hi e => by have := HS6.out; omega)
    clear hnn
    by_cases hcont : k < k0 ∧ k < 100 ∧ ls.length < c
    · have k1 : (0 : Int) ≤ (k : Int) := by omega
      have k2 : (k : Int) < (k0 : Int) := by omega
      have k3 : (k : Int) < 100 := by omega
      have k4 : (ls.length : Int) < (c : Int) := by omega
      have HCT := Lib.hid hcont
      obtain ⟨b, o, z, rfl, _, hz, hcz⟩ := (H2.out.keep HKX.out (fun _ _ _ => id)).at_ hcont.1
      have h63 := and_lo z 63 (by omega)
      obtain ⟨x, hx⟩ : ∃ x : Nat, bits BinOp.and IntKind.i64 z 63 = (x : Int) := ⟨(bits BinOp.and IntKind.i64 z 63).toNat, by have := h63.1; exact (Int.toNat_of_nonneg this).symm⟩
      have hx63 : (x : Int) ≤ 63 := by rw [← hx]; exact h63.2
      obtain ⟨p, hp⟩ : ∃ p : Nat, p = x % (c + r) := ⟨_, rfl⟩
      have hpt : (x : Int).tmod ((c : Int) + (r : Int)) = (p : Int) := by
        rw [hp, ← Int.natCast_add, Int.tmod_eq_emod_of_nonneg (by omega), Int.natCast_emod]
      have hplt : p < c + r := by rw [hp]; exact Nat.mod_lt _ (by omega)
      have HPL := Lib.hid hplt
      have p0 : (0 : Int) ≤ (p : Int) := by omega
      have p16 : (p : Int) < 16 := by omega
      have HP16 : Hid (p < 16) := by show p < 16; omega
      clear hp hplt hz h63 hcont
      by_cases hin : p ∈ ls
      · have hch : wr.cell? ⟨w6.heap.size, p, none⟩ = some (.bool true) := by
          have h9 := hads_get (ls := ls) HP16.out
          rw [decide_eq_true hin] at h9
          exact (HI.out.2.2.2.2.1.cell p).trans h9
        clear hin
        go_wp2_with fail
        go_roundw
        case rel => exact ⟨k + 1, ls, by have := HCT.out; omega, by go_num, HG.out, HI.out.2.1, HI.out.2.2.1, HI.out.2.2.2.1, HI.out.2.2.2.2.1, HI.out.2.2.2.2.2⟩
        case measure => have := HCT.out; simp [intOf]; omega
      · have hch : wr.cell? ⟨w6.heap.size, p, none⟩ = some (.bool false) := by
          have h9 := hads_get (ls := ls) HP16.out
          rw [decide_eq_false hin] at h9
          exact (HI.out.2.2.2.2.1.cell p).trans h9
        have hfh : wr.frozen? ⟨w6.heap.size, p, none⟩ = false := HI.out.2.2.2.2.1.frozen p
        have HIN := Lib.hid hin
        have hset : Keep (fun b => b = w6.heap.size) wr (wr.setCell ⟨w6.heap.size, p, none⟩ (.bool true)) := (Keep.refl (fun b => b = w6.heap.size) wr).setCell (p := ⟨w6.heap.size, p, none⟩) (fun _ => rfl) _
        have HSET := Lib.hid hset
        have HGS : Hid (Gi w7.heap.size (wr.setCell ⟨w6.heap.size, p, none⟩ (.bool true)) (.slice ao ls.length cap) (ls.map Int.ofNat)) := HG.out.keep hset (fun b hb e => by have := (HG.out.lt hb).1; have := HG7.out; omega)
        have HBS : Hid (Blk (wr.setCell ⟨w6.heap.size, p, none⟩ (.bool true)) w6.heap.size 66 (hads (ls ++ [p]))) := by
          rw [← hads_set HP16.out]
          exact HI.out.2.2.2.2.1.set_ _ _
        clear hin hset
        go_wp2_with (first
          | (at_builtin; refine wpl_appi1 (wr.setCell ⟨w6.heap.size, p, none⟩ (.bool true)) rfl (.tmp 81) (.tmp 83) rfl w7.heap.size (.slice ao ls.length cap) (ls.map Int.ofNat) (p : Int) wr.heap.size rfl rfl (by simp) HGS.out (by rw [HLL.out]; have := HLC.out; have := HCR.out; omega) (Nat.le_trans HI.out.2.2.2.2.2.size HSET.out.size) ?_; intro v' w' hgi hkp))
        have HGI : Hid (Gi w7.heap.size w' v' ((ls ++ [p]).map Int.ofNat)) := by
          rw [List.map_append]
          exact hgi
        have HKP := Lib.hid hkp
        clear hgi hkp
        go_wp2_with fail
        go_roundw
        case rel =>
          refine ⟨k + 1, ls ++ [p], by have := HCT.out; omega, by go_num, HGI.out, ?_, ?_, ?_, HBS.out.keep HKP.out (fun e => ?_), (HI.out.2.2.2.2.2.trans HSET.out).trans' HKP.out (fun i hi e => ?_)⟩
          · rw [List.nodup_append]
            refine ⟨HI.out.2.1, by simp, fun a ha b hb e => ?_⟩
            rw [List.mem_singleton] at hb
            subst hb
            exact HIN.out (e ▸ ha)
          · intro y hy
            rcases List.mem_append.1 hy with hy | hy
            · exact HI.out.2.2.1 y hy
            · rw [List.mem_singleton] at hy
              rw [hy]
              exact HPL.out
          · have := HCT.out
            simp
            omega
          · have := (HGS.out.lt e).1
            have := HG7.out
            omega
          · have := (HGS.out.lt e).1
            omega
        case measure => have := HCT.out; simp [intOf]; omega
    · have three : ((k0 : Int) ≤ (k : Int)) ∨ (((k : Int) < (k0 : Int)) ∧ (100 : Int) ≤ (k : Int)) ∨ (((k : Int) < (k0 : Int)) ∧ ((k : Int) < 100) ∧ (c : Int) ≤ (ls.length : Int) ∧ decide (ls.length < c) = false) := by
        rw [decide_eq_false_iff_not]
        omega
      clear hcont
      rcases three with h | ⟨h, h'⟩ | ⟨h, h', h'', hd⟩
      all_goals
        go_wp2_with fail
        (try clear hd h''); (try clear h'); clear h
        go_loopw [15, 18] (fun s i wx => ∃ (q : Nat) (l2 : List Nat), q ≤ c + r ∧ i = .int .i64 (q : Int) ∧
            Hid (Gi w7.heap.size wx s (l2.map Int.ofNat) ∧ l2.Nodup ∧ (∀ x ∈ l2, x < c + r) ∧ l2.length ≤ c ∧ (∀ x, x < q → x ∈ l2) ∧ (∀ x ∈ l2, x ∈ ls ∨ x < q) ∧ (∀ x ∈ ls, x ∈ l2) ∧ Blk wx w6.heap.size 66 (hads ls) ∧ Keep (fun b => b = w6.heap.size) w7 wx)) (fun _ i _ => c + r - (intOf i).toNat)
        case atStart => exact ⟨0, ls, Nat.zero_le _, rfl, HG.out, HI.out.2.1, HI.out.2.2.1, HI.out.2.2.2.1, fun x h => absurd h (Nat.not_lt_zero _), fun x h => .inl h, fun x h => h, HI.out.2.2.2.2.1, HI.out.2.2.2.2.2⟩
        case round =>
          obtain ⟨wy, rfl⟩ : ∃ wy : World, wy = wr := ⟨_, rfl⟩
          obtain ⟨q, l2, hq, rfl, HJ⟩ := hrel
          obtain ⟨ao2, cap2, rfl, hnn2⟩ := HJ.out.1.nn
          have HLL2 : Hid ((l2.map Int.ofNat).length = l2.length) := List.length_map _
          rw [HLL2.out] at hnn2 ⊢
          have HNN2 := Lib.hid hnn2
          have HG2 : Hid (Gi w7.heap.size wy (.slice ao2 l2.length cap2) (l2.map Int.ofNat)) := by
            have h9 := HJ.out.1
            rw [HLL2.out] at h9
            exact h9
          have HLC2 : Hid (l2.length ≤ c) := HJ.out.2.2.2.1
          have HKY : Hid (Keep (fun _ => False) w wy) := HK7.out.trans' HJ.out.2.2.2.2.2.2.2.2 (fun i hi e => by have := HS6.out; omega)
          clear hnn2
          by_cases hcont : q < c + r ∧ l2.length < c
          · have q1 : (0 : Int) ≤ (q : Int) := by omega
            have q2 : (q : Int) < (c : Int) + (r : Int) := by omega
            have q3 : (l2.length : Int) < (c : Int) := by omega
            have q16 : (q : Int) < 16 := by omega
            have HQ16 : Hid (q < 16) := by show q < 16; omega
            have HCT := Lib.hid hcont
            clear hcont
            by_cases hin : q ∈ ls
            · have hch : wy.cell? ⟨w6.heap.size, q, none⟩ = some (.bool true) := by
                have h9 := hads_get (ls := ls) HQ16.out
                rw [decide_eq_true hin] at h9
                exact (HJ.out.2.2.2.2.2.2.2.1.cell q).trans h9
              have HIN : Hid (q ∈ l2) := HJ.out.2.2.2.2.2.2.1 q hin
              clear hin
              go_wp2_with fail
              go_roundw
              case rel =>
                refine ⟨q + 1, l2, by have := HCT.out; omega, by go_num, HG2.out, HJ.out.2.1, HJ.out.2.2.1, HJ.out.2.2.2.1, fun x hx => ?_, fun x hx => ?_, HJ.out.2.2.2.2.2.2.1, HJ.out.2.2.2.2.2.2.2.1, HJ.out.2.2.2.2.2.2.2.2⟩
                · by_cases e : x = q
                  · rw [e]; exact HIN.out
                  · exact HJ.out.2.2.2.2.1 x (by omega)
                · rcases HJ.out.2.2.2.2.2.1 x hx with h9 | h9
                  · exact .inl h9
                  · exact .inr (by omega)
              case measure => have := HCT.out; simp [intOf]; omega
            · have hch : wy.cell? ⟨w6.heap.size, q, none⟩ = some (.bool false) := by
                have h9 := hads_get (ls := ls) HQ16.out
                rw [decide_eq_false hin] at h9
                exact (HJ.out.2.2.2.2.2.2.2.1.cell q).trans h9
              have HIN : Hid (q ∉ l2) := by
                intro h9
                rcases HJ.out.2.2.2.2.2.1 q h9 with h8 | h8
                · exact hin h8
                · omega
              clear hin
              go_wp2_with (first
                | (at_builtin; refine wpl_appi1 wy rfl (.tmp 102) (.tmp 104) rfl w7.heap.size (.slice ao2 l2.length cap2) (l2.map Int.ofNat) (q : Int) wy.heap.size rfl rfl rfl HG2.out (by rw [HLL2.out]; have := HLC2.out; have := HCR.out; omega) HJ.out.2.2.2.2.2.2.2.2.size ?_; intro v' w' hgi hkp))
              have HGI : Hid (Gi w7.heap.size w' v' ((l2 ++ [q]).map Int.ofNat)) := by
                rw [List.map_append]
                exact hgi
              have HKP := Lib.hid hkp
              clear hgi hkp hch
              go_wp2_with fail
              go_roundw
              case rel =>
                refine ⟨q + 1, l2 ++ [q], by have := HCT.out; omega, by go_num, HGI.out, ?_, ?_, ?_, fun x hx => ?_, fun x hx => ?_, fun x hx => List.mem_append_left _ (HJ.out.2.2.2.2.2.2.1 x hx), HJ.out.2.2.2.2.2.2.2.1.keep HKP.out (fun e => ?_), HJ.out.2.2.2.2.2.2.2.2.trans' HKP.out (fun i hi e => ?_)⟩
                · rw [List.nodup_append]
                  refine ⟨HJ.out.2.1, by simp, fun a ha b hb e => ?_⟩
                  rw [List.mem_singleton] at hb
                  subst hb
                  exact HIN.out (e ▸ ha)
                · intro y hy
                  rcases List.mem_append.1 hy with hy | hy
                  · exact HJ.out.2.2.1 y hy
                  · rw [List.mem_singleton] at hy
                    rw [hy]
                    exact HCT.out.1
                · have := HCT.out
                  simp
                  omega
                · by_cases e : x = q
                  · rw [e]; simp
                  · exact List.mem_append_left _ (HJ.out.2.2.2.2.1 x (by omega))
                · rcases List.mem_append.1 hx with hx | hx
                  · rcases HJ.out.2.2.2.2.2.1 x hx with h9 | h9
                    · exact .inl h9
                    · exact .inr (by omega)
                  · rw [List.mem_singleton] at hx
                    exact .inr (by omega)
                · have := (HG2.out.lt e).1
                  have := HG7.out
                  omega
                · have := (HG2.out.lt e).1
                  omega
              case measure => have := HCT.out; simp [intOf]; omega
          · have HL2C : Hid (l2.length = c) := by
              show l2.length = c
              by_cases hqe : q = c + r
              · have h9 := nodup_le (l := List.range (c + r)) (m := l2) List.nodup_range (fun x hx => HJ.out.2.2.2.2.1 x (by rw [List.mem_range] at hx; omega))
                rw [List.length_range] at h9
                have := HCR.out
                have := HLC2.out
                omega
              · have := HLC2.out
                omega
            have two : ((c : Int) + (r : Int) ≤ (q : Int)) ∨ ((q : Int) < (c : Int) + (r : Int) ∧ (c : Int) ≤ (l2.length : Int)) := by
              have := HL2C.out
              omega
            clear hcont
            have HSEL := Lib.hid (picked_rank (c := c) (r := r) HL2C.out HJ.out.2.1 HJ.out.2.2.1 (by have := HCR.out; omega))
            have HNM : Hid (named (c + r) (l2.map Int.ofNat) = true) := by
              show named (c + r) (l2.map Int.ofNat) = true
              rw [named, List.all_eq_true]
              intro z hz
              obtain ⟨x, hx, rfl⟩ := List.mem_map.1 hz
              have := HJ.out.2.2.1 x hx
              simp
              omega
            have HALC : Hid (mcols (oneM c ++ cauM r c) = c) := all_cols HCR.out.1
            have HALR : Hid (mright (oneM c ++ cauM r c) = true) := all_right HCR.out.1 (by have := HCR.out; omega)
            rcases two with h9 | ⟨h9, h8⟩
            all_goals
              go_wp2_with fail
              refine (rows_any (fun b => w5.heap.size ≤ b ∧ b < w6.heap.size) (fun b => w7.heap.size ≤ b) ao6 ao2 (c + r) cap6 l2.length cap2 as_ _ (l2.map Int.ofNat) wy (HA7.out.keep HJ.out.2.2.2.2.2.2.2.2 (fun b _ (hb : w5.heap.size ≤ b ∧ b < w6.heap.size) (e : b = w6.heap.size) => by omega)) HNN2.out HALR.out (by rw [HL2C.out]; have := HCR.out; omega) (by rw [HL2C.out]; have := HCR.out; omega)).mono ?_
              rintro e w8 ⟨hk, hcase⟩
              have HK8 := Lib.hid (HKY.out.trans hk)
              have HF8 := Lib.hid ((HF7.out.keep HJ.out.2.2.2.2.2.2.2.2 (fun e => by have := HS6.out; omega)).keep hk id)
              rcases hcase with ⟨hno, _⟩ | ⟨_, g8, G8, rfl, hfl⟩
              · rw [HNM.out] at hno
                cases hno
              rw [HALC.out, HL2C.out] at hfl
              rw [HL2C.out]
              obtain ⟨ms, hms⟩ := hfl.mv (by have := HCR.out; omega) (by have := HCR.out; omega)
              have HM8 : Hid (Mv (fun b => wy.heap.size ≤ b) w8 (some ⟨g8, 0, none⟩) c ms (mk c c (ent (sel (oneM c ++ cauM r c) (l2.map Int.ofNat))))) := hms
              have HSY : Hid (w.heap.size < wy.heap.size) := Nat.lt_of_lt_of_le (Nat.lt_of_lt_of_le HS6.out.1 HS6.out.2) (Nat.le_trans (Nat.le_of_lt HG7.out) HJ.out.2.2.2.2.2.2.2.2.size)
              have HMR : Hid (mright (mk c c (ent (sel (oneM c ++ cauM r c) (l2.map Int.ofNat)))) = true) := mk_right _ HCR.out.1 (by have := HCR.out; omega) HCR.out.1 (by have := HCR.out; omega)
              have HMC : Hid (mcols (mk c c (ent (sel (oneM c ++ cauM r c) (l2.map Int.ofNat)))) = c) := mk_cols _ _ HCR.out.1
              have HRK : Hid (mrank c c (ent (mk c c (ent (sel (oneM c ++ cauM r c) (l2.map Int.ofNat))))) = c) := by
                show mrank c c _ = c
                rw [mrank_congr (mk_ent c c _)]
                exact HSEL.out
              clear hk hfl hms
              go_wp2_with fail
              refine (back_yes w.heap.size (fun b => wy.heap.size ≤ b) _ c c ms _ w8 HF8.out HM8.out HMR.out HMC.out).mono ?_
              rintro e w9 ⟨hq9, hcase⟩
              have HK9 : Hid (Keep (fun _ => False) w w9) := HK8.out.trans' hq9.keep (fun i hi e => by omega)
              have HF9 := Lib.hid hq9.at_
              have HM9 := Lib.hid (HM8.out.keep hq9.keep (fun b _ (hb : wy.heap.size ≤ b) (e : b = w.heap.size) => by have := HSY.out; omega))
              clear hq9
              rcases hcase with ⟨_, hrk⟩ | ⟨g9, X, rfl, _⟩
              · rw [HRK.out] at hrk
                exact absurd hrk (Nat.lt_irrefl _)
              go_wp2_with fail
              refine (rank_yes w.heap.size (fun b => wy.heap.size ≤ b) _ c c ms _ w9 HF9.out HM9.out HMR.out).mono ?_
              rintro e w10 ⟨rfl, hq10⟩
              rw [HMC.out, HRK.out]
              have HK10 : Hid (Keep (fun _ => False) w w10) := HK9.out.trans' hq10.keep (fun i hi e => by omega)
              clear hq10
              go_wp2_with fail
              refine (one5_any w10).mono ?_
              rintro e w11 ⟨rfl, hk⟩
              have HK11 := Lib.hid (HK10.out.trans hk)
              clear hk
              go_wp2_with fail
              go_ret
              exact ⟨rfl, HK11.out⟩

theorem matCauchy_walk (W : World) (a0 a1 : Int) (v2 : Value) (l : List Int) (i2 : Ns (· < W.heap.size) W v2 l) (_b0 : -9223372036854775808 ≤ a0 ∧ a0 ≤ 9223372036854775807) (_b1 : -9223372036854775808 ≤ a1 ∧ a1 ≤ 9223372036854775807) :
    Calls Try.prog 13 #[.int .i64 a0, .int .i64 a1, v2] W fun e w' => e = .returned (.bool true) ∧ Below W.heap.size W w' := by
  obtain ⟨lo, k0, ck, rfl, _, _, h2, _⟩ := i2
  have h7 : 0 ≤ bits BinOp.and IntKind.i64 a0 7 ∧ bits BinOp.and IntKind.i64 a0 7 ≤ 7 := and_lo a0 7 (by omega)
  have h8 : 0 ≤ bits BinOp.and IntKind.i64 a1 7 ∧ bits BinOp.and IntKind.i64 a1 7 ≤ 7 := and_lo a1 7 (by omega)
  refine (matCauchy_in a0 a1 lo k0 ck (bits BinOp.and IntKind.i64 a0 7).toNat (bits BinOp.and IntKind.i64 a1 7).toNat l W h2 (Int.toNat_of_nonneg h7.1).symm (Int.toNat_of_nonneg h8.1).symm ?_ ?_).mono fun _ _ ⟨he, hk⟩ => ⟨he, hk.below (Nat.le_refl _) (fun _ _ => id)⟩
  · have h9 := h7.2
    have h10 := Int.toNat_of_nonneg h7.1
    omega
  · have h9 := h8.2
    have h10 := Int.toNat_of_nonneg h8.1
    omega
end Go.Proofs.Ytegecjilpmkamaa
