/-
  The walk of mat's Join, where it makes a matrix.
-/
import Derived.Test.YtegecjilpmkamaaMk
import Derived.Test.YtegecjilpmkamaaApply
import Derived.Deep.RegionHeld3
namespace Go.Proofs.Ytegecjilpmkamaa
open Go.RowKit Sb

/-- An own matrix, as a row of rows that may grow. -/
theorem Fl.gr {N : Nat} {w : World} {g : Nat} {G : Nat → Nat} {n c : Nat} {f : Nat → List UInt8} (h : Fl N w g G n c f) (hn : n ≤ 255) (hc : c ≤ 255) : Gr (fun b => N ≤ b) N w (.slice (some ⟨g, 0, none⟩) n n) ((List.range n).map f) := by
  obtain ⟨h1, cs, h2, h3, h4, _⟩ := h
  have hl : ((List.range n).map f).length = n := by simp
  refine ⟨cs.toList, ⟨by rw [hl]; simp; omega, .inr ⟨g, n, cs, by rw [hl], h1, h2, by rw [hl]; omega, by unfold maxLen; omega, by simp [h3], by rw [hl, Nat.mul_one]; exact List.take_of_length_le (by simp; omega)⟩⟩, fun i u r hu hr => ?_⟩
  have hi : i < n := by
    have := (List.getElem?_eq_some_iff.1 hu).1
    simpa [h3] using this
  obtain ⟨i1, i2, i3, i4⟩ := h4 i hi
  rw [Array.getElem?_toList, i1] at hu
  rw [List.getElem?_map, List.getElem?_range hi] at hr
  cases hu
  have hr' : f i = r := by simpa using hr
  subst hr'
  refine ⟨_, c, c, rfl, Nat.le_refl _, by unfold maxLen; omega, ⟨by rw [List.length_map]; exact i4, fun _ => ⟨G i, 0, rfl, ⟨i2, fun e => Blk.ne_ i3 h2 (by decide) (Option.some.inj e).symm⟩, fun j v hv => ?_⟩⟩⟩
  rw [Nat.zero_add, i3.cell]
  simpa [bcells] using hv

set_option maxRecDepth 100000 in
set_option maxHeartbeats 8000000 in
theorem join_yes (P Q : Nat → Prop) (a1 a2 : Option Addr) (n1 n2 c1 c2 : Nat) (us vs : List Value) (m l : List (List UInt8)) (w : World) (h1 : Mv P w a1 n1 us m) (h2 : Mv Q w a2 n2 vs l) (hm : mright m = true) (hl : mright l = true) (hc : mcols m = mcols l) (hs : n1 + n2 ≤ 255) :
    Calls Try.prog 50 #[.slice a1 n1 c1, .slice a2 n2 c2] w fun e w' => ∃ v, e = .returned (.tuple #[v, .int .i64 0]) ∧ Gr (fun b => w.heap.size ≤ b) w.heap.size w' v (m ++ l) ∧ Keep (fun _ => False) w w' := by
  have hb1 := right_bounds h1.len hm
  have hb2 := right_bounds h2.len hl
  obtain ⟨b, o, ao', n', cap', r, rfl, _, hu, hm0, hcc, _, hmx, hrb⟩ := h1.at_ (k := 0) (by omega)
  rw [Nat.add_zero] at hcc
  have hmc := mcols_at hm0
  rw [hrb.len] at hmc
  obtain ⟨q2, o2, bo', L', cap2, r2, rfl, _, hu2, hm2, hcb, _, _, hrb2⟩ := h2.at_ (k := 0) (by omega)
  rw [Nat.add_zero] at hcb
  have hlc := mcols_at hm2
  rw [hrb2.len] at hlc
  have he : L' = n' := by omega
  subst he
  have HROW1 : Hid (∀ r ∈ m, r.length = L') := fun r hr => ((of_mright hm).2.2 r hr).trans hmc
  have HROW2 : Hid (∀ r ∈ l, r.length = L') := fun r hr => ((of_mright hl).2.2 r hr).trans hlc
  have HL' : Hid (L' ≤ 255) := by show L' ≤ 255; omega
  have H1 := Lib.hid h1
  have H2 := Lib.hid h2
  have HM := Lib.hid hm
  have HLR := Lib.hid hl
  have HL1 := Lib.hid (World.block_lt_of_cell? _ _ hcc)
  have HL2 := Lib.hid (World.block_lt_of_cell? _ _ hcb)
  have HN1 : Hid (1 ≤ n1 ∧ n1 ≤ 255) := ⟨hb1.1, hb1.2.1⟩
  have HN2 : Hid (1 ≤ n2 ∧ n2 ≤ 255) := ⟨hb2.1, hb2.2.1⟩
  have HNS : Hid (n1 + n2 ≤ 255) := hs
  have p1 : (0 : Int) < (n1 : Int) := by omega
  have p2 : (0 : Int) < (n2 : Int) := by omega
  have p3 : (n1 : Int) ≤ 255 := by omega
  have p4 : (n2 : Int) ≤ 255 := by omega
  have p6 : IntKind.i64.wrap (255 - (n2 : Int)) = 255 - (n2 : Int) := IntWalk.i64_in _ (by omega)
  have p7 : decide (255 - (n2 : Int) < (n1 : Int)) = false := decide_eq_false (by omega)
  have p8 : (0 : Int) ≤ (n1 : Int) := by omega
  have p9 : (0 : Int) ≤ (n2 : Int) := by omega
  have q1 : 0 < n1 := by omega
  have q2' : 0 < n2 := by omega
  have hnt := hnot
  clear h1 h2 hm hl hu hm0 hmx hrb hu2 hm2 hrb2 hb1 hb2 hmc hlc hc hs
  go_enter Try.func50, Try.ntmps50
  go_wp2_with fail
  (go_region_held3 (fun w' => w'.cell? ⟨b, o, none⟩ = some (.slice ao' L' cap') ∧ w'.cell? ⟨q2, o2, none⟩ = some (.slice bo' L' cap2)) (first | exact ⟨by assumption, by assumption⟩ | go_keep) (first | (go_at_call_of 58 (Value.slice (some ⟨b, o, none⟩) n1 c1); refine (right_true P _ n1 c1 us m _ ?_ (by have := HN1.out; omega) HM.out).mono ?_; (exact H1.out); rintro e w1 ⟨rfl, hk⟩; have m1 := (hk.cell (p := ⟨b, o, none⟩) HL1.out id).trans hcc; have m2 := (hk.cell (p := ⟨q2, o2, none⟩) HL2.out id).trans hcb) | (go_at_call_of 58 (Value.slice (some ⟨q2, o2, none⟩) n2 c2); refine (right_true Q _ n2 c2 vs l _ ?_ (by have := HN2.out; omega) HLR.out).mono ?_; (exact H2.out.keep (S := fun _ => False) ⟨hk.os, hk.tape, hk.output, hk.size, hk.block⟩ (fun _ _ _ => id)); rintro e w2 ⟨rfl, hk2⟩; have m3 := (hk2.cell (p := ⟨b, o, none⟩) (Nat.lt_of_lt_of_le HL1.out hk.size) id).trans m1; have m4 := (hk2.cell (p := ⟨q2, o2, none⟩) (Nat.lt_of_lt_of_le HL2.out hk.size) id).trans m2)))
  all_goals
    have HK : Hid (Keep (fun _ => False) w w2) := Keep.trans (S := fun _ => False) (w' := w1) ⟨hk.os, hk.tape, hk.output, hk.size, hk.block⟩ ⟨hk2.os, hk2.tape, hk2.output, hk2.size, hk2.block⟩
    clear hk hk2 m1 m2 m3 m4 hcc hcb
    go_wp2_with fail
    refine (clone_79 P _ n1 c1 L' us m w2 (H1.out.keep HK.out (fun _ _ _ => id)) (by have := HN1.out; omega) (by have := HL'.out; omega) HROW1.out).mono ?_
    rintro e w3 ⟨g3, G3, rfl, hfl3, hk3⟩
    have HG3 : Hid (Gr (fun b => w.heap.size ≤ b) w.heap.size w3 (.slice (some ⟨g3, 0, none⟩) n1 n1) m) := by
      have h9 := (hfl3.old HK.out.size).gr (by have := HN1.out; omega) HL'.out
      rw [ent_all H1.out.len HROW1.out] at h9
      exact h9
    have HK3 := Lib.hid (HK.out.trans hk3)
    clear hfl3 hk3
    go_wp2_with fail
    refine (clone_79 Q _ n2 c2 L' vs l w3 (H2.out.keep HK3.out (fun _ _ _ => id)) (by have := HN2.out; omega) (by have := HL'.out; omega) HROW2.out).mono ?_
    rintro e w4 ⟨g4, G4, rfl, hfl4, hk4⟩
    have HG4 := Lib.hid (HG3.out.keep hk4 (fun _ _ => id) (fun _ _ _ _ => id))
    have HK4 := Lib.hid (HK3.out.trans hk4)
    obtain ⟨ls, hls⟩ := hfl4.mv (by have := HN2.out; omega) HL'.out
    rw [ent_all H2.out.len HROW2.out] at hls
    have HLS := Lib.hid hls
    have HG3L : Hid (g3 < w3.heap.size) := by
      obtain ⟨us', q, _⟩ := HG3.out
      exact (q.lt g3 rfl).2
    have HM1 : Hid (m.length = n1) := H1.out.len
    clear hfl4 hk4 hls
    go_wp2_with (first
      | (at_builtin; refine wpl_grow w4 rfl (.tmp 34) (.tmp 36) 41 Try.underlying41 rfl (fun b => w.heap.size ≤ b) (fun b => w3.heap.size ≤ b) w.heap.size (.slice (some ⟨g3, 0, none⟩) n1 n1) m rfl HG4.out (some ⟨g4, 0, none⟩) n2 n2 ls l rfl HLS.out.1 HLS.out.2.1 (fun i u r hu hr => (HLS.out.2.2 i u r hu hr).mono (fun b _ (hb : w3.heap.size ≤ b) => ⟨Nat.le_trans HK3.out.size hb, fun e => by have := HG3L.out; have h9 : g3 = b := Option.some.inj e; omega⟩)) (by have := HM1.out; have := HNS.out; omega) HK4.out.size ?_; intro v' w' hgr hkp hb))
    have HGR := Lib.hid hgr
    have HKP : Hid (Keep (fun _ => False) w w') := HK4.out.trans' hkp (fun i hi e => by
      obtain ⟨us', q, _⟩ := HG3.out
      have := (q.lt i e).1
      omega)
    clear hgr hkp hb
    go_wp2_with fail
    go_ret2
    exact ⟨_, rfl, HGR.out, HKP.out⟩
end Go.Proofs.Ytegecjilpmkamaa
