/-
  Lists of numbers; the walk of mat's Rows.
-/
import Derived.Test.YtegecjilpmkamaaMk
import Derived.Test.YtegecjilpmkamaaApply
namespace Go.Proofs.Ytegecjilpmkamaa
open Go.RowKit Go.ChangeShapes Go.WideShapes Go.ChangeAt Sb

/-- From an address on lie these numbers. -/
def Nn (P : Nat → Prop) (w : World) (ao : Option Addr) (n : Nat) (l : List Int) : Prop := Rv P w ao n (l.map (Value.int .i64))

theorem Nn.len {P : Nat → Prop} {w : World} {ao : Option Addr} {n : Nat} {l : List Int} (h : Nn P w ao n l) : l.length = n := by have := h.1; simpa using this
theorem Nn.keep {P S : Nat → Prop} {w w' : World} {ao : Option Addr} {n : Nat} {l : List Int} (h : Nn P w ao n l) (hk : Keep S w w') (hs : ∀ b, b < w.heap.size → P b → ¬ S b) : Nn P w' ao n l := Rv.keep h hk hs
theorem Nn.at_ {P : Nat → Prop} {w : World} {ao : Option Addr} {n k : Nat} {l : List Int} (h : Nn P w ao n l) (hk : k < n) : ∃ b o z, ao = some ⟨b, o, none⟩ ∧ P b ∧ l[k]? = some z ∧ w.cell? ⟨b, o + k, none⟩ = some (.int .i64 z) := by
  obtain ⟨b, o, u, e, hP, hu, hc⟩ := Rv.at_ h hk
  rw [List.getElem?_map] at hu
  cases hz : l[k]? with
  | none => rw [hz] at hu; cases hu
  | some z =>
    rw [hz] at hu
    have : Value.int .i64 z = u := by simpa using hu
    exact ⟨b, o, z, e, hP, rfl, by rw [hc, this]⟩

/-- A value that is a list of numbers. -/
def Ns (P : Nat → Prop) (w : World) (v : Value) (l : List Int) : Prop := ∃ ao n cap, v = .slice ao n cap ∧ n ≤ cap ∧ cap ≤ maxLen ∧ Nn P w ao n l ∧ ∀ z ∈ l, -9223372036854775808 ≤ z ∧ z ≤ 9223372036854775807

set_option maxRecDepth 100000 in
/-- An argument that is a list of numbers. -/
theorem open_nums {H : Type} {enc : TypeId × Value → H} {W : World} {base : Nat} {v : Value} {d : DataW H} {p : List MemPlace} (hv : Value.okWide Try.prog W .any base 50 v) (h : DataW.Trod enc Try.prog W 0 (fun _ => true) true 50 v d p) :
    ∃ l, Ns (· < W.heap.size) W v l := by
  obtain ⟨a, len, cap, rfl⟩ := okWide_slice Try.underlying50 hv
  obtain ⟨fuel, hf⟩ := h
  rcases open_ints Try.underlying50 Try.underlying3 (by kernel_rfl) hf with ⟨hcs, _⟩ | ⟨x, l, c, zs, hcs, _, hl, hm, hz, _, hcell, hwz⟩
  · simp [Value.cells] at hcs
    obtain ⟨rfl, rfl, rfl⟩ := hcs
    exact ⟨[], none, 0, 0, rfl, Nat.le_refl _, Nat.zero_le _, Rv.nil _ _, fun z hz => by cases hz⟩
  · simp [Value.cells] at hcs
    obtain ⟨rfl, rfl, rfl⟩ := hcs
    simp only [if_true] at hz
    refine ⟨zs.take len, some x, len, cap, rfl, hl, hm, ⟨by simp; omega, fun hn => ?_⟩, fun z hz' => bounds_i64 (hwz z (List.mem_of_mem_take hz'))⟩
    have h0 := hcell 0 (by omega)
    obtain ⟨b, o, rfl⟩ := addr_of_cell h0
    refine ⟨b, o, rfl, World.block_lt_of_cell? W _ (by simpa [add_zero_addr] using h0), fun i u hu => ?_⟩
    have hi : i < len := by
      have := (List.getElem?_eq_some_iff.1 hu).1
      simp at this
      omega
    have h1 := hcell i (by omega)
    rw [Go.WideShapes.add_plain] at h1
    rw [h1]
    rw [List.getElem?_map, List.getElem?_take, if_pos hi] at hu
    have hi2 : i < zs.length := by omega
    rw [List.getElem?_eq_getElem hi2] at hu
    rw [← hu]
    simp [hi2]

/-- The rows that a list names. -/
def sel (m : List (List UInt8)) (l : List Int) : List (List UInt8) := l.map (fun z => (m[z.toNat]?).getD [])

/-- Are all of them there? -/
def named (n : Nat) (l : List Int) : Bool := l.all (fun z => decide (0 ≤ z ∧ z < n))

theorem sel_take {m : List (List UInt8)} {l : List Int} {k : Nat} {z : Int} {r : List UInt8} (hz : l[k]? = some z) (hr : m[z.toNat]? = some r) : sel m (l.take (k + 1)) = sel m (l.take k) ++ [r] := by
  rw [List.take_add_one, hz, sel, List.map_append, sel]
  simp [hr]

theorem sel_rows {m : List (List UInt8)} {l : List Int} {c : Nat} (h : ∀ r ∈ m, r.length = c) (hl : named m.length l = true) : ∀ r ∈ sel m l, r.length = c := by
  intro r hr
  obtain ⟨z, hz, rfl⟩ := List.mem_map.1 hr
  rw [named, List.all_eq_true] at hl
  have h1 := of_decide_eq_true (hl z hz)
  have h2 : z.toNat < m.length := by omega
  rw [List.getElem?_eq_getElem h2, Option.getD_some]
  exact h _ (List.getElem_mem h2)

theorem named_take {n : Nat} {l : List Int} {k : Nat} {z : Int} (h : named n (l.take k) = true) (hz : l[k]? = some z) (hb : 0 ≤ z ∧ z < n) : named n (l.take (k + 1)) = true := by
  rw [List.take_add_one, hz, named, List.all_append]
  rw [named] at h
  rw [h]
  simp [hb]

theorem named_not {n : Nat} {l : List Int} {k : Nat} {z : Int} (hz : l[k]? = some z) (hb : ¬ (0 ≤ z ∧ z < n)) : named n l = false := by
  rw [named, ← Bool.not_eq_true, List.all_eq_true]
  intro h
  exact hb (of_decide_eq_true (h z (List.mem_of_getElem? hz)))

set_option maxRecDepth 100000 in
set_option maxHeartbeats 4000000 in
theorem rows_no (P : Nat → Prop) (a1 lo : Option Addr) (n1 c1 k ck : Nat) (us : List Value) (m : List (List UInt8)) (w : World) (h1 : Mv P w a1 n1 us m) (hn : n1 ≤ 9223372036854775807) (hno : mright m = false ∨ ¬ (1 ≤ k ∧ k ≤ 255)) :
    Calls Try.prog 48 #[.slice a1 n1 c1, .slice lo k ck] w fun e w' => e = .returned (.tuple #[.slice none 0 0, .int .i64 2]) ∧ Keep (fun _ => False) w w' := by
  have H1 := Lib.hid h1
  have hnt := hnot
  cases hm : mright m with
  | false =>
    have HM := Lib.hid hm
    clear h1 hm hno
    go_enter Try.func48, Try.ntmps48
    go_wp2_with fail
    refine (right_false P a1 n1 c1 us m w H1.out hn HM.out).mono ?_
    rintro e w1 ⟨rfl, hk⟩
    have HK := Lib.hid hk
    clear hk
    go_wp2_with fail
    go_ret2
    exact ⟨rfl, HK.out⟩
  | true =>
    have HM := Lib.hid hm
    have HNO : Hid (¬ (1 ≤ k ∧ k ≤ 255)) := by
      rcases hno with h | h
      · rw [h] at hm; cases hm
      · exact h
    clear h1 hm hno
    go_enter Try.func48, Try.ntmps48
    go_wp2_with fail
    refine (right_true P a1 n1 c1 us m w H1.out hn HM.out).mono ?_
    rintro e w1 ⟨rfl, hk⟩
    have HK := Lib.hid hk
    clear hk
    go_wp2_with fail
    refine (within_no k 255 w1 (by have := HNO.out; omega)).mono ?_
    rintro e w2 ⟨rfl, rfl⟩
    go_wp2_with fail
    go_ret2
    exact ⟨rfl, HK.out⟩

set_option maxRecDepth 100000 in
set_option maxHeartbeats 8000000 in
theorem rows_any (P Q : Nat → Prop) (a1 lo : Option Addr) (n1 c1 k ck : Nat) (us : List Value) (m : List (List UInt8)) (l : List Int) (w : World) (h1 : Mv P w a1 n1 us m) (h2 : Nn Q w lo k l) (hm : mright m = true) (hk1 : 1 ≤ k) (hk2 : k ≤ 255) :
    Calls Try.prog 48 #[.slice a1 n1 c1, .slice lo k ck] w fun e w' => Keep (fun _ => False) w w' ∧ ((named n1 l = false ∧ e = .returned (.tuple #[.slice none 0 0, .int .i64 2])) ∨
      (named n1 l = true ∧ ∃ g G, e = .returned (.tuple #[.slice (some ⟨g, 0, none⟩) k k, .int .i64 0]) ∧ Fl w.heap.size w' g G k (mcols m) (fun i => (List.range (mcols m)).map (ent (sel m l) i)))) := by
  have hb := right_bounds h1.len hm
  have HROWS : Hid (∀ r ∈ m, r.length = mcols m) := (of_mright hm).2.2
  have H1 : Hid (Mv (fun x => P x ∧ x < w.heap.size) w a1 n1 us m) := h1.mono (fun b hb hp => ⟨hp, hb⟩)
  have H2 := Lib.hid h2
  have HM := Lib.hid hm
  have HB := Lib.hid hb
  have hnt := hnot
  have p1 : (1 : Int) ≤ (k : Int) := by omega
  have p2 : (k : Int) ≤ 255 := by omega
  have p3 : (n1 : Int) ≤ 255 := by omega
  clear h1 h2 hm hb
  go_enter Try.func48, Try.ntmps48
  go_wp2_with fail
  refine (right_true _ a1 n1 c1 us m w H1.out (by omega) HM.out).mono ?_
  rintro e w1 ⟨rfl, hk⟩
  have HK := Lib.hid hk
  clear hk
  go_wp2_with fail
  refine (within_yes k 255 w1 (by omega) (by omega)).mono ?_
  rintro e w2 ⟨rfl, rfl⟩
  go_wp2_with fail
  go_loopw [6, 8, 20] (fun s _ i wr => ∃ j : Nat, j ≤ k ∧ i = .int .i64 (j : Int) ∧
      Hid (Gr (fun x => P x ∧ x < w.heap.size) w1.heap.size wr s (sel m (l.take j)) ∧ named n1 (l.take j) = true ∧ Keep (fun _ => False) w1 wr)) (fun _ _ i _ => k - (intOf i).toNat)
  case atStart => exact ⟨0, Nat.zero_le _, rfl, Gr.nil _ _ _, rfl, Keep.refl _ _⟩
  case round =>
    obtain ⟨j, hj, rfl, HI⟩ := hrel
    obtain ⟨s, rfl⟩ : ∃ s : Value, s = u6 := ⟨_, rfl⟩
    obtain ⟨wo, rfl⟩ : ∃ wo : World, wo = wr := ⟨_, rfl⟩
    have HKW := Lib.hid (HK.out.trans HI.out.2.2)
    have HLL : Hid (l.length = k) := H2.out.len
    by_cases hlt : j < k
    · have j0 : (0 : Int) ≤ (j : Int) := by omega
      have jn : (j : Int) < (k : Int) := by omega
      have HLT := Lib.hid hlt
      obtain ⟨b, o, z, rfl, _, hz, hcz⟩ := (H2.out.keep HKW.out (fun _ _ _ => id)).at_ hlt
      have HZ := Lib.hid hz
      clear hlt hz
      by_cases hz0 : z < 0
      · go_wp2_with fail
        go_ret2
        exact ⟨HKW.out, .inl ⟨named_not HZ.out (by omega), rfl⟩⟩
      · have hz1 : 0 ≤ z := by omega
        by_cases hzn : z < (n1 : Int)
        · obtain ⟨x, rfl⟩ : ∃ x : Nat, z = (x : Int) := ⟨z.toNat, by omega⟩
          obtain ⟨q, oq, aq, nq', cq, r, rfl, hP, hu, hr, hcr, hq1, hq2, hrb⟩ := (H1.out.keep HKW.out (fun _ _ _ => id)).at_ (k := x) (by omega)
          have HR := Lib.hid hr
          have HLEN : Hid ((sel m (l.take j)).length = j) := by
            show (sel m (l.take j)).length = j
            have := HLL.out
            have := HLT.out
            rw [sel, List.length_map, List.length_take]
            omega
          have HBS : Hid (Bs (fun b => (P b ∧ b < w.heap.size) ∧ s.ownBlock ≠ some b) wo (.slice aq nq' cq) r) := by
            obtain ⟨us', q1, _⟩ := HI.out.1
            refine ⟨aq, nq', cq, rfl, hq1, hq2, hrb.mono (fun b _ hb => ⟨hb, fun e => ?_⟩)⟩
            have h9 := (q1.lt _ e).1
            have h8 := HK.out.size
            have h7 := hb.2
            omega
          clear hz0 hu hr hrb hP hq1 hq2
          go_wp2_with (first
            | (at_builtin; refine wpl_grow1 wo rfl (.tmp 32) (.tmp 37) 41 Try.underlying41 rfl (fun x => P x ∧ x < w.heap.size) w1.heap.size s (.slice aq nq' cq) (sel m (l.take j)) r wo.heap.size rfl rfl rfl HI.out.1 HBS.out (by rw [HLEN.out]; omega) HI.out.2.2.size ?_; intro v' w' hgr hkp))
          rw [← sel_take HZ.out (by rw [Int.toNat_natCast]; exact HR.out)] at hgr
          have HG := Lib.hid hgr
          have HKP : Hid (Keep (fun _ => False) w1 w') := by
            obtain ⟨us', q1, _⟩ := HI.out.1
            exact HI.out.2.2.trans' hkp (fun i hi e => by have := (q1.lt _ e).1; omega)
          clear hgr hkp hcz hcr
          go_wp2_with fail
          go_roundw
          case rel => exact ⟨j + 1, by have := HLT.out; omega, by go_num, HG.out, named_take HI.out.2.1 HZ.out (by omega), HKP.out⟩
          case measure => have := HLT.out; simp [intOf]; omega
        · clear hz0
          have hzn2 : (n1 : Int) ≤ z := by omega
          go_wp2_with fail
          go_ret2
          exact ⟨HKW.out, .inl ⟨named_not HZ.out (by omega), rfl⟩⟩
    · have hkn : (k : Int) ≤ (j : Int) := by omega
      have hke : j = k := by omega
      rw [hke, List.take_of_length_le (by rw [HLL.out]; omega)] at HI
      have HNM : Hid (named n1 l = true) := HI.out.2.1
      have HSL : Hid ((sel m l).length = k) := by
        show (sel m l).length = k
        rw [sel, List.length_map]
        exact HLL.out
      obtain ⟨ao, cap, hs, _, _⟩ := HI.out.1.len
      rw [HSL.out] at hs
      subst hs
      obtain ⟨ss, hss⟩ := HI.out.1.mv
      have HMV := Lib.hid hss
      clear hke hss
      go_wp2_with fail
      refine (clone_79 _ ao k cap (mcols m) ss (sel m l) wo HMV.out hk2 (by have := HB.out; omega) (sel_rows HROWS.out (by rw [(H1.out.len)]; exact HNM.out))).mono ?_
      rintro e w4 ⟨g, G, rfl, hfl, hk4⟩
      have HFL : Hid (Fl w.heap.size w4 g G k (mcols m) (fun i => (List.range (mcols m)).map (ent (sel m l) i))) := hfl.old HKW.out.size
      have HK4 := Lib.hid (HKW.out.trans hk4)
      clear hfl hk4
      go_wp2_with fail
      go_ret2
      exact ⟨HK4.out, .inr ⟨HNM.out, g, G, rfl, HFL.out⟩⟩
end Go.Proofs.Ytegecjilpmkamaa
