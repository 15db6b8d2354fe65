/-
  The walks of mat's filled, at the functions that the program hands to it.
-/
import Derived.Test.YtegecjilpmkamaaRight
import Derived.Deep.RegionWith
import Derived.BigRegion
namespace Go.Proofs.Ytegecjilpmkamaa
open Go.RowKit Sb

theorem info33 : (Try.prog.info? 33).map (fun i => (i.zero, i.size, i.bytes)) = some (some (.slice none 0 0), 1, 24) := by kernel_rfl

theorem make_rows (n : Nat) (h : n ≤ 255) (w : World) :
    (Instr.makeSlice 41 (.int .i64 (n : Int)) (.int .i64 (n : Int))).run Try.prog w = .ok (.slice (some ⟨w.heap.size, 0, none⟩) n n) (w.alloc (.cells (madeCells #[.slice none 0 0] n) 33)) :=
  run_make_row' (P := Try.prog) 41 33 (.slice none 0 0) 24 Try.underlying41 info33 rfl .i64 .i64 n (by omega) (by omega) w

/-- The first k cells of a row of rows: slices over blocks of their own, that hold these bytes. -/
def RowsAt (N : Nat) (w : World) (cs : Array Value) (G : Nat → Nat) (k c : Nat) (f : Nat → List UInt8) : Prop :=
  (∀ j, j < k → cs[j]? = some (.slice (some ⟨G j, 0, none⟩) c c) ∧ N ≤ G j ∧ Blk w (G j) 5 (bcells (f j)) ∧ (f j).length = c) ∧ ∀ i j, i < k → j < k → i ≠ j → G i ≠ G j

theorem Blk.ne_ {w : World} {g g' : Nat} {t t' : TypeId} {cs cs' : Array Value} (h : Blk w g t cs) (h' : Blk w g' t' cs') (hne : t ≠ t') : g ≠ g' := by
  rintro rfl
  unfold Blk at h h'
  rw [h] at h'
  injection h' with h'
  injection h' with _ ht
  exact hne ht

/-- One row more. -/
theorem RowsAt.step {N : Nat} {w w' : World} {cs : Array Value} {G : Nat → Nat} {k c n g : Nat} {F : Nat → Nat → UInt8} {T : Nat → Prop} (h : RowsAt N w cs G k c (fun i => (List.range c).map (F i))) (hs : cs.size = n) (hk : k < n)
    (hkp : Keep T w w') (hN : N ≤ w.heap.size) (hT : ∀ b, T b → b < N ∨ b = g) (hg : Blk w g 33 cs) (hb : Blk w' w.heap.size 5 (bcells ((List.range c).map (F k)))) :
    RowsAt N w' (cs.setIfInBounds k (.slice (some ⟨w.heap.size, 0, none⟩) c c)) (fun q => if q = k then w.heap.size else G q) (k + 1) c (fun i => (List.range c).map (F i)) := by
  refine ⟨fun j hj => ?_, fun i j hi hj hij => ?_⟩
  · dsimp only
    by_cases hjk : j = k
    · subst hjk
      rw [if_pos rfl, Array.getElem?_setIfInBounds_self_of_lt (by omega)]
      exact ⟨rfl, hN, hb, by simp⟩
    · obtain ⟨h1, h2, h3, h4⟩ := h.1 j (by omega)
      rw [if_neg hjk, Array.getElem?_setIfInBounds_ne (by omega)]
      refine ⟨h1, h2, h3.keep hkp (fun ht => ?_), h4⟩
      rcases hT _ ht with ht | ht
      · omega
      · exact Blk.ne_ h3 hg (by decide) ht
  · dsimp only
    by_cases h1 : i = k
    · subst h1
      have h3 := (h.1 j (by omega)).2.2.1.lt
      rw [if_pos rfl, if_neg (fun e => hij e.symm)]
      omega
    · rw [if_neg h1]
      by_cases h2 : j = k
      · have h3 := (h.1 i (by omega)).2.2.1.lt
        rw [if_pos h2]
        omega
      · rw [if_neg h2]
        exact h.2 i j (by omega) (by omega) hij

/-- A matrix of its own, all rows in blocks of their own. -/
def Fl (N : Nat) (w : World) (g : Nat) (G : Nat → Nat) (n c : Nat) (f : Nat → List UInt8) : Prop :=
  N ≤ g ∧ ∃ cs, Blk w g 33 cs ∧ cs.size = n ∧ RowsAt N w cs G n c f

theorem Fl.ms {N : Nat} {w : World} {g : Nat} {G : Nat → Nat} {n c : Nat} {f : Nat → List UInt8} (h : Fl N w g G n c f) (hn : n ≤ 255) (hc : c ≤ 255) : Ms (fun b => N ≤ b) w (.slice (some ⟨g, 0, none⟩) n n) ((List.range n).map f) := by
  obtain ⟨h1, cs, h2, h3, h4, _⟩ := h
  refine ⟨_, n, n, cs.toList, rfl, Nat.le_refl _, by unfold maxLen; omega, ⟨by rw [Array.length_toList]; exact h3, fun _ => ⟨g, 0, rfl, h1, fun i u hu => ?_⟩⟩, by simp, fun i u r hu hr => ?_⟩
  · rw [Nat.zero_add, h2.cell, ← Array.getElem?_toList]
    exact hu
  · have hi : i < n := by
      have := (List.getElem?_eq_some_iff.1 hu).1
      simpa [h3] using this
    obtain ⟨i1, i2, i3, i4⟩ := h4 i hi
    rw [Array.getElem?_toList, i1] at hu
    rw [List.getElem?_map, List.getElem?_range hi] at hr
    cases hu
    have hr' : f i = r := by simpa using hr
    subst hr'
    refine ⟨_, c, c, rfl, Nat.le_refl _, by unfold maxLen; omega, ⟨by rw [List.length_map]; exact i4, fun _ => ⟨G i, 0, rfl, i2, fun j v hv => ?_⟩⟩⟩
    rw [Nat.zero_add, i3.cell]
    simpa [bcells] using hv

set_option maxRecDepth 100000 in
set_option maxHeartbeats 4000000 in
theorem filled_77 (S : Nat → Prop) (J : World → Prop) (F : Nat → Nat → UInt8) (n c : Nat) (w : World) (hn : n ≤ 255) (hc : c ≤ 255) (hJ0 : J w) (hS : ∀ b, S b → b < w.heap.size)
    (hJ : ∀ w1 w2, J w1 → Keep (fun b => w.heap.size ≤ b) w1 w2 → w.heap.size ≤ w1.heap.size → J w2)
    (hcl : ∀ (i j : Nat) (w1 : World), i < n → j < c → J w1 → w.heap.size ≤ w1.heap.size → Calls Try.prog 77 #[.int .i64 i, .int .i64 j] w1 fun e w2 => e = .returned (bv (F i j)) ∧ J w2 ∧ Keep S w1 w2) :
    Calls Try.prog 76 #[.int .i64 n, .int .i64 c, .func (.func 77) #[] #[]] w fun e w' => ∃ g G, e = .returned (.slice (some ⟨g, 0, none⟩) n n) ∧ Fl w.heap.size w' g G n c (fun i => (List.range c).map (F i)) ∧ J w' ∧ Keep S w w' := by
  have HJ0 := Lib.hid hJ0
  have HS := Lib.hid hS
  have HJ := Lib.hid hJ
  have HC := Lib.hid hcl
  have hmk := make_rows n hn
  have hmk2 := make_bytes c (by omega)
  clear hJ0 hS hJ hcl
  go_enter Try.func76, Try.ntmps76
  go_wp2_with fail
  clear hmk
  go_loopw [8, 9, 14] (fun _ _ i wr => ∃ (k : Nat) (cs : Array Value) (G : Nat → Nat), k ≤ n ∧ i = .int .i64 (k : Int) ∧
      Hid (Blk wr w.heap.size 33 cs ∧ cs.size = n ∧ RowsAt w.heap.size wr cs G k c (fun i => (List.range c).map (F i)) ∧ J wr ∧ Keep S w wr)) (fun _ _ i _ => n - (intOf i).toNat)
  case atStart =>
    refine ⟨0, _, fun _ => 0, Nat.zero_le _, rfl, Blk.new _ _ _, size_madeCells _ _, ⟨fun j h => by omega, fun i j h => by omega⟩, HJ.out _ _ HJ0.out ((Keep.refl _ w).alloc _) (Nat.le_refl _), (Keep.refl _ w).alloc _⟩
  case round =>
    obtain ⟨k, cs, G, hk, rfl, HI⟩ := hrel
    obtain ⟨wo, rfl⟩ : ∃ wo : World, wo = wr := ⟨_, rfl⟩
    by_cases hlt : k < n
    · obtain ⟨u, hu⟩ := some_of_lt (cs := cs) (i := k) (by have := HI.out.2.1; omega)
      have hgl := HI.out.1.lt
      have hcu : wo.cell? ⟨w.heap.size, k, none⟩ = some u := (HI.out.1.cell k).trans hu
      have hfu : wo.frozen? ⟨w.heap.size, k, none⟩ = false := HI.out.1.frozen k
      have hj0 : (0 : Int) ≤ (k : Int) := by omega
      have hjn : (k : Int) < (n : Int) := by omega
      have hbo := (HI.out.1.set_ k (.slice (some ⟨wo.heap.size, 0, none⟩) c c)).alloc (.cells (madeCells #[.int .u8 0] c) 5)
      have hcb : ((wo.setCell ⟨w.heap.size, k, none⟩ (.slice (some ⟨wo.heap.size, 0, none⟩) c c)).alloc (.cells (madeCells #[.int .u8 0] c) 5)).cell? ⟨w.heap.size, k, none⟩ = some (.slice (some ⟨wo.heap.size, 0, none⟩) c c) := by
        rw [hbo.cell, Array.getElem?_setIfInBounds_self_of_lt (by have := HI.out.2.1; omega)]
      have HB := Lib.hid hbo
      clear hu hbo
      go_wp2_with fail
      clear hcu hfu hcb
      go_loopw [9, 27] (fun _ j wr => ∃ (l : Nat) (ys : List UInt8), l ≤ c ∧ j = .int .i64 (l : Int) ∧
          Hid (Blk wr w.heap.size 33 (cs.setIfInBounds k (.slice (some ⟨wo.heap.size, 0, none⟩) c c)) ∧ Blk wr wo.heap.size 5 (bcells ys) ∧ ys.length = c ∧ (∀ (q : Nat), q < l → ys[q]? = some (F k q)) ∧ J wr ∧ Keep (fun b => S b ∨ b = w.heap.size) wo wr)) (fun _ j _ => c - (intOf j).toNat)
      case atStart =>
        obtain ⟨i1, i2, i3, i4, i5⟩ := HI.out
        refine ⟨0, List.replicate c 0, Nat.zero_le _, rfl, HB.out, ?_, List.length_replicate, fun q h => by omega, ?_, ?_⟩
        · rw [← made_bcells]
          have h := Blk.new (wo.setCell ⟨w.heap.size, k, none⟩ (.slice (some ⟨wo.heap.size, 0, none⟩) c c)) 5 (madeCells #[.int .u8 0] c)
          simpa [World.setCell] using h
        · refine HJ.out _ _ i4 ?_ i5.size
          exact ((Keep.refl _ wo).setCell (p := ⟨w.heap.size, k, none⟩) (fun _ => Nat.le_refl _) _).alloc _
        · exact ((Keep.refl _ wo).setCell (p := ⟨w.heap.size, k, none⟩) (fun _ => .inr rfl) _).alloc _
      case round =>
        obtain ⟨l, ys, hl, rfl, HL⟩ := hrel
        by_cases hlt2 : l < c
        · obtain ⟨z, hz⟩ : ∃ z, ys[l]? = some z := ⟨ys[l]'(by have := HL.out.2.2.1; omega), List.getElem?_eq_getElem _⟩
          have hl0 : (0 : Int) ≤ (l : Int) := by omega
          have hlm : (l : Int) < (c : Int) := by omega
          have hcg : wr.cell? ⟨w.heap.size, k, none⟩ = some (.slice (some ⟨wo.heap.size, 0, none⟩) c c) := by
            rw [HL.out.1.cell, Array.getElem?_setIfInBounds_self_of_lt (by have := HI.out.2.1; omega)]
          have hcr : wr.cell? ⟨wo.heap.size, l, none⟩ = some (bv z) := (HL.out.2.1.cell _).trans (bcells_get hz)
          have hfr : wr.frozen? ⟨wo.heap.size, l, none⟩ = false := HL.out.2.1.frozen _
          have HL1 := Lib.hid HL.out.1
          have HL2 := Lib.hid HL.out.2.1
          have HLJ := Lib.hid HL.out.2.2.2.2.1
          have hsz : w.heap.size ≤ wr.heap.size := by have := HL.out.1.lt; omega
          clear hz
          go_wp2_with fail
          go_region_with (first | (go_at_call 77; refine (HC.out k l _ hlt hlt2 ?_ ?_).mono ?_; (exact HJ.out _ _ HLJ.out ((Keep.refl _ wr).drewN _) hsz); (exact hsz); rintro e w2 ⟨rfl, hj2, hk2⟩; have hcg' := (hk2.cell (p := ⟨w.heap.size, k, none⟩) HL1.out.lt (fun h => absurd (HS.out _ h) (Nat.lt_irrefl _))).trans hcg; have hcr' := (hk2.cell (p := ⟨wo.heap.size, l, none⟩) HL2.out.lt (fun h => absurd (HS.out _ h) (by show ¬ wo.heap.size < w.heap.size; omega))).trans hcr; have hfr' := (hk2.frozen (p := ⟨wo.heap.size, l, none⟩) HL2.out.lt (fun h => absurd (HS.out _ h) (by show ¬ wo.heap.size < w.heap.size; omega))).trans hfr))
          all_goals
            have hs2 := hk2.size
            have HJ2 := Lib.hid hj2
            have HK2 : Hid (Keep S wr w2) := ⟨hk2.os, hk2.tape, hk2.output, hk2.size, hk2.block⟩
            clear hcg hcr hfr hcg' hcr' hfr' hj2 hk2
            go_wp2_with fail
            go_roundw
            case rel =>
              obtain ⟨i1, i2, i3, i4, i5, i6⟩ := HL.out
              have n1 : ¬ S w.heap.size := fun h => absurd (HS.out _ h) (Nat.lt_irrefl _)
              have n2 : ¬ S wo.heap.size := fun h => absurd (HS.out _ h) (by omega)
              have hsz2 : w.heap.size ≤ w2.heap.size := by have h := HK2.out.size; omega
              refine ⟨l + 1, ys.set l (F k l), by omega, by go_num, ?_, ?_, by simpa using i3, fun q hq => ?_, ?_, ?_⟩
              · exact (Blk.keep (w := wr) (w' := w2) i1 HK2.out n1).far (p := ⟨wo.heap.size, l, none⟩) (by show w.heap.size ≠ wo.heap.size; omega) _
              · rw [← bcells_set]
                exact (Blk.keep (w := wr) (w' := w2) i2 HK2.out n2).set_ l _
              · by_cases hql : q = l
                · subst hql
                  rw [List.getElem?_set_self (by omega)]
                · rw [List.getElem?_set_ne (by omega)]
                  exact i4 q (by omega)
              · exact HJ.out _ _ HJ2.out ((Keep.refl _ w2).setCell (p := ⟨wo.heap.size, l, none⟩) (fun _ => by show w.heap.size ≤ wo.heap.size; omega) _) hsz2
              · refine (i6.trans' HK2.out (fun b _ h => .inl h)).setCell (p := ⟨wo.heap.size, l, none⟩) (fun h => absurd (show wo.heap.size < wo.heap.size from h) (Nat.lt_irrefl _)) _
            case measure => simp [intOf]; omega
        · have hkn : (c : Int) ≤ (l : Int) := by omega
          go_wp2_with fail
          go_roundw
          case rel =>
            obtain ⟨i1, i2, i3, i4, i5⟩ := HI.out
            obtain ⟨j1, j2, j3, j4, j5, j6⟩ := HL.out
            have hlc : l = c := by omega
            have hys : ys = (List.range c).map (F k) := by
              apply List.ext_getElem?
              intro q
              by_cases hq : q < c
              · rw [j4 q (by omega), List.getElem?_map, List.getElem?_range hq]
                rfl
              · rw [List.getElem?_eq_none (by omega), List.getElem?_eq_none (by simp; omega)]
            refine ⟨k + 1, _, fun q => if q = k then wo.heap.size else G q, by omega, by go_num, j1, by simpa using i2, i3.step i2 hlt j6 (by omega) (fun b hb => ?_) i1 (hys ▸ j2), j5, i5.trans' j6 (fun b hb h => ?_)⟩
            · rcases hb with hb | hb
              · exact .inl (HS.out b hb)
              · exact .inr hb
            · rcases h with h | h
              · exact h
              · omega
          case measure => simp [intOf]; omega
    · have hkn : (n : Int) ≤ (k : Int) := by omega
      go_wp2_with fail
      go_ret
      obtain ⟨i1, i2, i3, i4, i5⟩ := HI.out
      have hke : k = n := by omega
      subst hke
      exact ⟨w.heap.size, G, rfl, ⟨Nat.le_refl _, cs, i1, i2, i3⟩, i4, i5⟩

set_option maxRecDepth 100000 in
set_option maxHeartbeats 4000000 in
theorem filled_82 (S : Nat → Prop) (J : World → Prop) (F : Nat → Nat → UInt8) (n c : Nat) (w : World) (hn : n ≤ 255) (hc : c ≤ 255) (hJ0 : J w) (hS : ∀ b, S b → b < w.heap.size)
    (hJ : ∀ w1 w2, J w1 → Keep (fun b => w.heap.size ≤ b) w1 w2 → w.heap.size ≤ w1.heap.size → J w2)
    (hcl : ∀ (i j : Nat) (w1 : World), i < n → j < c → J w1 → w.heap.size ≤ w1.heap.size → Calls Try.prog 82 #[.int .i64 i, .int .i64 j] w1 fun e w2 => e = .returned (bv (F i j)) ∧ J w2 ∧ Keep S w1 w2) :
    Calls Try.prog 76 #[.int .i64 n, .int .i64 c, .func (.func 82) #[] #[]] w fun e w' => ∃ g G, e = .returned (.slice (some ⟨g, 0, none⟩) n n) ∧ Fl w.heap.size w' g G n c (fun i => (List.range c).map (F i)) ∧ J w' ∧ Keep S w w' := by
  have HJ0 := Lib.hid hJ0
  have HS := Lib.hid hS
  have HJ := Lib.hid hJ
  have HC := Lib.hid hcl
  have hmk := make_rows n hn
  have hmk2 := make_bytes c (by omega)
  clear hJ0 hS hJ hcl
  go_enter Try.func76, Try.ntmps76
  go_wp2_with fail
  clear hmk
  go_loopw [8, 9, 14] (fun _ _ i wr => ∃ (k : Nat) (cs : Array Value) (G : Nat → Nat), k ≤ n ∧ i = .int .i64 (k : Int) ∧
      Hid (Blk wr w.heap.size 33 cs ∧ cs.size = n ∧ RowsAt w.heap.size wr cs G k c (fun i => (List.range c).map (F i)) ∧ J wr ∧ Keep S w wr)) (fun _ _ i _ => n - (intOf i).toNat)
  case atStart =>
    refine ⟨0, _, fun _ => 0, Nat.zero_le _, rfl, Blk.new _ _ _, size_madeCells _ _, ⟨fun j h => by omega, fun i j h => by omega⟩, HJ.out _ _ HJ0.out ((Keep.refl _ w).alloc _) (Nat.le_refl _), (Keep.refl _ w).alloc _⟩
  case round =>
    obtain ⟨k, cs, G, hk, rfl, HI⟩ := hrel
    obtain ⟨wo, rfl⟩ : ∃ wo : World, wo = wr := ⟨_, rfl⟩
    by_cases hlt : k < n
    · obtain ⟨u, hu⟩ := some_of_lt (cs := cs) (i := k) (by have := HI.out.2.1; omega)
      have hgl := HI.out.1.lt
      have hcu : wo.cell? ⟨w.heap.size, k, none⟩ = some u := (HI.out.1.cell k).trans hu
      have hfu : wo.frozen? ⟨w.heap.size, k, none⟩ = false := HI.out.1.frozen k
      have hj0 : (0 : Int) ≤ (k : Int) := by omega
      have hjn : (k : Int) < (n : Int) := by omega
      have hbo := (HI.out.1.set_ k (.slice (some ⟨wo.heap.size, 0, none⟩) c c)).alloc (.cells (madeCells #[.int .u8 0] c) 5)
      have hcb : ((wo.setCell ⟨w.heap.size, k, none⟩ (.slice (some ⟨wo.heap.size, 0, none⟩) c c)).alloc (.cells (madeCells #[.int .u8 0] c) 5)).cell? ⟨w.heap.size, k, none⟩ = some (.slice (some ⟨wo.heap.size, 0, none⟩) c c) := by
        rw [hbo.cell, Array.getElem?_setIfInBounds_self_of_lt (by have := HI.out.2.1; omega)]
      have HB := Lib.hid hbo
      clear hu hbo
      go_wp2_with fail
      clear hcu hfu hcb
      go_loopw [9, 27] (fun _ j wr => ∃ (l : Nat) (ys : List UInt8), l ≤ c ∧ j = .int .i64 (l : Int) ∧
          Hid (Blk wr w.heap.size 33 (cs.setIfInBounds k (.slice (some ⟨wo.heap.size, 0, none⟩) c c)) ∧ Blk wr wo.heap.size 5 (bcells ys) ∧ ys.length = c ∧ (∀ (q : Nat), q < l → ys[q]? = some (F k q)) ∧ J wr ∧ Keep (fun b => S b ∨ b = w.heap.size) wo wr)) (fun _ j _ => c - (intOf j).toNat)
      case atStart =>
        obtain ⟨i1, i2, i3, i4, i5⟩ := HI.out
        refine ⟨0, List.replicate c 0, Nat.zero_le _, rfl, HB.out, ?_, List.length_replicate, fun q h => by omega, ?_, ?_⟩
        · rw [← made_bcells]
          have h := Blk.new (wo.setCell ⟨w.heap.size, k, none⟩ (.slice (some ⟨wo.heap.size, 0, none⟩) c c)) 5 (madeCells #[.int .u8 0] c)
          simpa [World.setCell] using h
        · refine HJ.out _ _ i4 ?_ i5.size
          exact ((Keep.refl _ wo).setCell (p := ⟨w.heap.size, k, none⟩) (fun _ => Nat.le_refl _) _).alloc _
        · exact ((Keep.refl _ wo).setCell (p := ⟨w.heap.size, k, none⟩) (fun _ => .inr rfl) _).alloc _
      case round =>
        obtain ⟨l, ys, hl, rfl, HL⟩ := hrel
        by_cases hlt2 : l < c
        · obtain ⟨z, hz⟩ : ∃ z, ys[l]? = some z := ⟨ys[l]'(by have := HL.out.2.2.1; omega), List.getElem?_eq_getElem _⟩
          have hl0 : (0 : Int) ≤ (l : Int) := by omega
          have hlm : (l : Int) < (c : Int) := by omega
          have hcg : wr.cell? ⟨w.heap.size, k, none⟩ = some (.slice (some ⟨wo.heap.size, 0, none⟩) c c) := by
            rw [HL.out.1.cell, Array.getElem?_setIfInBounds_self_of_lt (by have := HI.out.2.1; omega)]
          have hcr : wr.cell? ⟨wo.heap.size, l, none⟩ = some (bv z) := (HL.out.2.1.cell _).trans (bcells_get hz)
          have hfr : wr.frozen? ⟨wo.heap.size, l, none⟩ = false := HL.out.2.1.frozen _
          have HL1 := Lib.hid HL.out.1
          have HL2 := Lib.hid HL.out.2.1
          have HLJ := Lib.hid HL.out.2.2.2.2.1
          have hsz : w.heap.size ≤ wr.heap.size := by have := HL.out.1.lt; omega
          clear hz
          go_wp2_with fail
          go_region_with (first | (go_at_call 82; refine (HC.out k l _ hlt hlt2 ?_ ?_).mono ?_; (exact HJ.out _ _ HLJ.out ((Keep.refl _ wr).drewN _) hsz); (exact hsz); rintro e w2 ⟨rfl, hj2, hk2⟩; have hcg' := (hk2.cell (p := ⟨w.heap.size, k, none⟩) HL1.out.lt (fun h => absurd (HS.out _ h) (Nat.lt_irrefl _))).trans hcg; have hcr' := (hk2.cell (p := ⟨wo.heap.size, l, none⟩) HL2.out.lt (fun h => absurd (HS.out _ h) (by show ¬ wo.heap.size < w.heap.size; omega))).trans hcr; have hfr' := (hk2.frozen (p := ⟨wo.heap.size, l, none⟩) HL2.out.lt (fun h => absurd (HS.out _ h) (by show ¬ wo.heap.size < w.heap.size; omega))).trans hfr))
          all_goals
            have hs2 := hk2.size
            have HJ2 := Lib.hid hj2
            have HK2 : Hid (Keep S wr w2) := ⟨hk2.os, hk2.tape, hk2.output, hk2.size, hk2.block⟩
            clear hcg hcr hfr hcg' hcr' hfr' hj2 hk2
            go_wp2_with fail
            go_roundw
            case rel =>
              obtain ⟨i1, i2, i3, i4, i5, i6⟩ := HL.out
              have n1 : ¬ S w.heap.size := fun h => absurd (HS.out _ h) (Nat.lt_irrefl _)
              have n2 : ¬ S wo.heap.size := fun h => absurd (HS.out _ h) (by omega)
              have hsz2 : w.heap.size ≤ w2.heap.size := by have h := HK2.out.size; omega
              refine ⟨l + 1, ys.set l (F k l), by omega, by go_num, ?_, ?_, by simpa using i3, fun q hq => ?_, ?_, ?_⟩
              · exact (Blk.keep (w := wr) (w' := w2) i1 HK2.out n1).far (p := ⟨wo.heap.size, l, none⟩) (by show w.heap.size ≠ wo.heap.size; omega) _
              · rw [← bcells_set]
                exact (Blk.keep (w := wr) (w' := w2) i2 HK2.out n2).set_ l _
              · by_cases hql : q = l
                · subst hql
                  rw [List.getElem?_set_self (by omega)]
                · rw [List.getElem?_set_ne (by omega)]
                  exact i4 q (by omega)
              · exact HJ.out _ _ HJ2.out ((Keep.refl _ w2).setCell (p := ⟨wo.heap.size, l, none⟩) (fun _ => by show w.heap.size ≤ wo.heap.size; omega) _) hsz2
              · refine (i6.trans' HK2.out (fun b _ h => .inl h)).setCell (p := ⟨wo.heap.size, l, none⟩) (fun h => absurd (show wo.heap.size < wo.heap.size from h) (Nat.lt_irrefl _)) _
            case measure => simp [intOf]; omega
        · have hkn : (c : Int) ≤ (l : Int) := by omega
          go_wp2_with fail
          go_roundw
          case rel =>
            obtain ⟨i1, i2, i3, i4, i5⟩ := HI.out
            obtain ⟨j1, j2, j3, j4, j5, j6⟩ := HL.out
            have hlc : l = c := by omega
            have hys : ys = (List.range c).map (F k) := by
              apply List.ext_getElem?
              intro q
              by_cases hq : q < c
              · rw [j4 q (by omega), List.getElem?_map, List.getElem?_range hq]
                rfl
              · rw [List.getElem?_eq_none (by omega), List.getElem?_eq_none (by simp; omega)]
            refine ⟨k + 1, _, fun q => if q = k then wo.heap.size else G q, by omega, by go_num, j1, by simpa using i2, i3.step i2 hlt j6 (by omega) (fun b hb => ?_) i1 (hys ▸ j2), j5, i5.trans' j6 (fun b hb h => ?_)⟩
            · rcases hb with hb | hb
              · exact .inl (HS.out b hb)
              · exact .inr hb
            · rcases h with h | h
              · exact h
              · omega
          case measure => simp [intOf]; omega
    · have hkn : (n : Int) ≤ (k : Int) := by omega
      go_wp2_with fail
      go_ret
      obtain ⟨i1, i2, i3, i4, i5⟩ := HI.out
      have hke : k = n := by omega
      subst hke
      exact ⟨w.heap.size, G, rfl, ⟨Nat.le_refl _, cs, i1, i2, i3⟩, i4, i5⟩

set_option maxRecDepth 100000 in
set_option maxHeartbeats 4000000 in
theorem filled_80 (S : Nat → Prop) (J : World → Prop) (F : Nat → Nat → UInt8) (c0 : Value) (n c : Nat) (w : World) (hn : n ≤ 255) (hc : c ≤ 255) (hJ0 : J w) (hS : ∀ b, S b → b < w.heap.size)
    (hJ : ∀ w1 w2, J w1 → Keep (fun b => w.heap.size ≤ b) w1 w2 → w.heap.size ≤ w1.heap.size → J w2)
    (hcl : ∀ (i j : Nat) (w1 : World), i < n → j < c → J w1 → w.heap.size ≤ w1.heap.size → Calls Try.prog 80 #[.int .i64 i, .int .i64 j, c0] w1 fun e w2 => e = .returned (bv (F i j)) ∧ J w2 ∧ Keep S w1 w2) :
    Calls Try.prog 76 #[.int .i64 n, .int .i64 c, .func (.func 80) #[] #[c0]] w fun e w' => ∃ g G, e = .returned (.slice (some ⟨g, 0, none⟩) n n) ∧ Fl w.heap.size w' g G n c (fun i => (List.range c).map (F i)) ∧ J w' ∧ Keep S w w' := by
  have HJ0 := Lib.hid hJ0
  have HS := Lib.hid hS
  have HJ := Lib.hid hJ
  have HC := Lib.hid hcl
  have hmk := make_rows n hn
  have hmk2 := make_bytes c (by omega)
  clear hJ0 hS hJ hcl
  go_enter Try.func76, Try.ntmps76
  go_wp2_with fail
  clear hmk
  go_loopw [8, 9, 14] (fun _ _ i wr => ∃ (k : Nat) (cs : Array Value) (G : Nat → Nat), k ≤ n ∧ i = .int .i64 (k : Int) ∧
      Hid (Blk wr w.heap.size 33 cs ∧ cs.size = n ∧ RowsAt w.heap.size wr cs G k c (fun i => (List.range c).map (F i)) ∧ J wr ∧ Keep S w wr)) (fun _ _ i _ => n - (intOf i).toNat)
  case atStart =>
    refine ⟨0, _, fun _ => 0, Nat.zero_le _, rfl, Blk.new _ _ _, size_madeCells _ _, ⟨fun j h => by omega, fun i j h => by omega⟩, HJ.out _ _ HJ0.out ((Keep.refl _ w).alloc _) (Nat.le_refl _), (Keep.refl _ w).alloc _⟩
  case round =>
    obtain ⟨k, cs, G, hk, rfl, HI⟩ := hrel
    obtain ⟨wo, rfl⟩ : ∃ wo : World, wo = wr := ⟨_, rfl⟩
    by_cases hlt : k < n
    · obtain ⟨u, hu⟩ := some_of_lt (cs := cs) (i := k) (by have := HI.out.2.1; omega)
      have hgl := HI.out.1.lt
      have hcu : wo.cell? ⟨w.heap.size, k, none⟩ = some u := (HI.out.1.cell k).trans hu
      have hfu : wo.frozen? ⟨w.heap.size, k, none⟩ = false := HI.out.1.frozen k
      have hj0 : (0 : Int) ≤ (k : Int) := by omega
      have hjn : (k : Int) < (n : Int) := by omega
      have hbo := (HI.out.1.set_ k (.slice (some ⟨wo.heap.size, 0, none⟩) c c)).alloc (.cells (madeCells #[.int .u8 0] c) 5)
      have hcb : ((wo.setCell ⟨w.heap.size, k, none⟩ (.slice (some ⟨wo.heap.size, 0, none⟩) c c)).alloc (.cells (madeCells #[.int .u8 0] c) 5)).cell? ⟨w.heap.size, k, none⟩ = some (.slice (some ⟨wo.heap.size, 0, none⟩) c c) := by
        rw [hbo.cell, Array.getElem?_setIfInBounds_self_of_lt (by have := HI.out.2.1; omega)]
      have HB := Lib.hid hbo
      clear hu hbo
      go_wp2_with fail
      clear hcu hfu hcb
      go_loopw [9, 27] (fun _ j wr => ∃ (l : Nat) (ys : List UInt8), l ≤ c ∧ j = .int .i64 (l : Int) ∧
          Hid (Blk wr w.heap.size 33 (cs.setIfInBounds k (.slice (some ⟨wo.heap.size, 0, none⟩) c c)) ∧ Blk wr wo.heap.size 5 (bcells ys) ∧ ys.length = c ∧ (∀ (q : Nat), q < l → ys[q]? = some (F k q)) ∧ J wr ∧ Keep (fun b => S b ∨ b = w.heap.size) wo wr)) (fun _ j _ => c - (intOf j).toNat)
      case atStart =>
        obtain ⟨i1, i2, i3, i4, i5⟩ := HI.out
        refine ⟨0, List.replicate c 0, Nat.zero_le _, rfl, HB.out, ?_, List.length_replicate, fun q h => by omega, ?_, ?_⟩
        · rw [← made_bcells]
          have h := Blk.new (wo.setCell ⟨w.heap.size, k, none⟩ (.slice (some ⟨wo.heap.size, 0, none⟩) c c)) 5 (madeCells #[.int .u8 0] c)
          simpa [World.setCell] using h
        · refine HJ.out _ _ i4 ?_ i5.size
          exact ((Keep.refl _ wo).setCell (p := ⟨w.heap.size, k, none⟩) (fun _ => Nat.le_refl _) _).alloc _
        · exact ((Keep.refl _ wo).setCell (p := ⟨w.heap.size, k, none⟩) (fun _ => .inr rfl) _).alloc _
      case round =>
        obtain ⟨l, ys, hl, rfl, HL⟩ := hrel
        by_cases hlt2 : l < c
        · obtain ⟨z, hz⟩ : ∃ z, ys[l]? = some z := ⟨ys[l]'(by have := HL.out.2.2.1; omega), List.getElem?_eq_getElem _⟩
          have hl0 : (0 : Int) ≤ (l : Int) := by omega
          have hlm : (l : Int) < (c : Int) := by omega
          have hcg : wr.cell? ⟨w.heap.size, k, none⟩ = some (.slice (some ⟨wo.heap.size, 0, none⟩) c c) := by
            rw [HL.out.1.cell, Array.getElem?_setIfInBounds_self_of_lt (by have := HI.out.2.1; omega)]
          have hcr : wr.cell? ⟨wo.heap.size, l, none⟩ = some (bv z) := (HL.out.2.1.cell _).trans (bcells_get hz)
          have hfr : wr.frozen? ⟨wo.heap.size, l, none⟩ = false := HL.out.2.1.frozen _
          have HL1 := Lib.hid HL.out.1
          have HL2 := Lib.hid HL.out.2.1
          have HLJ := Lib.hid HL.out.2.2.2.2.1
          have hsz : w.heap.size ≤ wr.heap.size := by have := HL.out.1.lt; omega
          clear hz
          go_wp2_with fail
          go_region_with (first | (go_at_call 80; refine (HC.out k l _ hlt hlt2 ?_ ?_).mono ?_; (exact HJ.out _ _ HLJ.out ((Keep.refl _ wr).drewN _) hsz); (exact hsz); rintro e w2 ⟨rfl, hj2, hk2⟩; have hcg' := (hk2.cell (p := ⟨w.heap.size, k, none⟩) HL1.out.lt (fun h => absurd (HS.out _ h) (Nat.lt_irrefl _))).trans hcg; have hcr' := (hk2.cell (p := ⟨wo.heap.size, l, none⟩) HL2.out.lt (fun h => absurd (HS.out _ h) (by show ¬ wo.heap.size < w.heap.size; omega))).trans hcr; have hfr' := (hk2.frozen (p := ⟨wo.heap.size, l, none⟩) HL2.out.lt (fun h => absurd (HS.out _ h) (by show ¬ wo.heap.size < w.heap.size; omega))).trans hfr))
          all_goals
            have hs2 := hk2.size
            have HJ2 := Lib.hid hj2
            have HK2 : Hid (Keep S wr w2) := ⟨hk2.os, hk2.tape, hk2.output, hk2.size, hk2.block⟩
            clear hcg hcr hfr hcg' hcr' hfr' hj2 hk2
            go_wp2_with fail
            go_roundw
            case rel =>
              obtain ⟨i1, i2, i3, i4, i5, i6⟩ := HL.out
              have n1 : ¬ S w.heap.size := fun h => absurd (HS.out _ h) (Nat.lt_irrefl _)
              have n2 : ¬ S wo.heap.size := fun h => absurd (HS.out _ h) (by omega)
              have hsz2 : w.heap.size ≤ w2.heap.size := by have h := HK2.out.size; omega
              refine ⟨l + 1, ys.set l (F k l), by omega, by go_num, ?_, ?_, by simpa using i3, fun q hq => ?_, ?_, ?_⟩
              · exact (Blk.keep (w := wr) (w' := w2) i1 HK2.out n1).far (p := ⟨wo.heap.size, l, none⟩) (by show w.heap.size ≠ wo.heap.size; omega) _
              · rw [← bcells_set]
                exact (Blk.keep (w := wr) (w' := w2) i2 HK2.out n2).set_ l _
              · by_cases hql : q = l
                · subst hql
                  rw [List.getElem?_set_self (by omega)]
                · rw [List.getElem?_set_ne (by omega)]
                  exact i4 q (by omega)
              · exact HJ.out _ _ HJ2.out ((Keep.refl _ w2).setCell (p := ⟨wo.heap.size, l, none⟩) (fun _ => by show w.heap.size ≤ wo.heap.size; omega) _) hsz2
              · refine (i6.trans' HK2.out (fun b _ h => .inl h)).setCell (p := ⟨wo.heap.size, l, none⟩) (fun h => absurd (show wo.heap.size < wo.heap.size from h) (Nat.lt_irrefl _)) _
            case measure => simp [intOf]; omega
        · have hkn : (c : Int) ≤ (l : Int) := by omega
          go_wp2_with fail
          go_roundw
          case rel =>
            obtain ⟨i1, i2, i3, i4, i5⟩ := HI.out
            obtain ⟨j1, j2, j3, j4, j5, j6⟩ := HL.out
            have hlc : l = c := by omega
            have hys : ys = (List.range c).map (F k) := by
              apply List.ext_getElem?
              intro q
              by_cases hq : q < c
              · rw [j4 q (by omega), List.getElem?_map, List.getElem?_range hq]
                rfl
              · rw [List.getElem?_eq_none (by omega), List.getElem?_eq_none (by simp; omega)]
            refine ⟨k + 1, _, fun q => if q = k then wo.heap.size else G q, by omega, by go_num, j1, by simpa using i2, i3.step i2 hlt j6 (by omega) (fun b hb => ?_) i1 (hys ▸ j2), j5, i5.trans' j6 (fun b hb h => ?_)⟩
            · rcases hb with hb | hb
              · exact .inl (HS.out b hb)
              · exact .inr hb
            · rcases h with h | h
              · exact h
              · omega
          case measure => simp [intOf]; omega
    · have hkn : (n : Int) ≤ (k : Int) := by omega
      go_wp2_with fail
      go_ret
      obtain ⟨i1, i2, i3, i4, i5⟩ := HI.out
      have hke : k = n := by omega
      subst hke
      exact ⟨w.heap.size, G, rfl, ⟨Nat.le_refl _, cs, i1, i2, i3⟩, i4, i5⟩

set_option maxRecDepth 100000 in
set_option maxHeartbeats 4000000 in
theorem filled_78 (S : Nat → Prop) (J : World → Prop) (F : Nat → Nat → UInt8) (c0 : Value) (c1 : Value) (n c : Nat) (w : World) (hn : n ≤ 255) (hc : c ≤ 255) (hJ0 : J w) (hS : ∀ b, S b → b < w.heap.size)
    (hJ : ∀ w1 w2, J w1 → Keep (fun b => w.heap.size ≤ b) w1 w2 → w.heap.size ≤ w1.heap.size → J w2)
    (hcl : ∀ (i j : Nat) (w1 : World), i < n → j < c → J w1 → w.heap.size ≤ w1.heap.size → Calls Try.prog 78 #[.int .i64 i, .int .i64 j, c0, c1] w1 fun e w2 => e = .returned (bv (F i j)) ∧ J w2 ∧ Keep S w1 w2) :
    Calls Try.prog 76 #[.int .i64 n, .int .i64 c, .func (.func 78) #[] #[c0, c1]] w fun e w' => ∃ g G, e = .returned (.slice (some ⟨g, 0, none⟩) n n) ∧ Fl w.heap.size w' g G n c (fun i => (List.range c).map (F i)) ∧ J w' ∧ Keep S w w' := by
  have HJ0 := Lib.hid hJ0
  have HS := Lib.hid hS
  have HJ := Lib.hid hJ
  have HC := Lib.hid hcl
  have hmk := make_rows n hn
  have hmk2 := make_bytes c (by omega)
  clear hJ0 hS hJ hcl
  go_enter Try.func76, Try.ntmps76
  go_wp2_with fail
  clear hmk
  go_loopw [8, 9, 14] (fun _ _ i wr => ∃ (k : Nat) (cs : Array Value) (G : Nat → Nat), k ≤ n ∧ i = .int .i64 (k : Int) ∧
      Hid (Blk wr w.heap.size 33 cs ∧ cs.size = n ∧ RowsAt w.heap.size wr cs G k c (fun i => (List.range c).map (F i)) ∧ J wr ∧ Keep S w wr)) (fun _ _ i _ => n - (intOf i).toNat)
  case atStart =>
    refine ⟨0, _, fun _ => 0, Nat.zero_le _, rfl, Blk.new _ _ _, size_madeCells _ _, ⟨fun j h => by omega, fun i j h => by omega⟩, HJ.out _ _ HJ0.out ((Keep.refl _ w).alloc _) (Nat.le_refl _), (Keep.refl _ w).alloc _⟩
  case round =>
    obtain ⟨k, cs, G, hk, rfl, HI⟩ := hrel
    obtain ⟨wo, rfl⟩ : ∃ wo : World, wo = wr := ⟨_, rfl⟩
    by_cases hlt : k < n
    · obtain ⟨u, hu⟩ := some_of_lt (cs := cs) (i := k) (by have := HI.out.2.1; omega)
      have hgl := HI.out.1.lt
      have hcu : wo.cell? ⟨w.heap.size, k, none⟩ = some u := (HI.out.1.cell k).trans hu
      have hfu : wo.frozen? ⟨w.heap.size, k, none⟩ = false := HI.out.1.frozen k
      have hj0 : (0 : Int) ≤ (k : Int) := by omega
      have hjn : (k : Int) < (n : Int) := by omega
      have hbo := (HI.out.1.set_ k (.slice (some ⟨wo.heap.size, 0, none⟩) c c)).alloc (.cells (madeCells #[.int .u8 0] c) 5)
      have hcb : ((wo.setCell ⟨w.heap.size, k, none⟩ (.slice (some ⟨wo.heap.size, 0, none⟩) c c)).alloc (.cells (madeCells #[.int .u8 0] c) 5)).cell? ⟨w.heap.size, k, none⟩ = some (.slice (some ⟨wo.heap.size, 0, none⟩) c c) := by
        rw [hbo.cell, Array.getElem?_setIfInBounds_self_of_lt (by have := HI.out.2.1; omega)]
      have HB := Lib.hid hbo
      clear hu hbo
      go_wp2_with fail
      clear hcu hfu hcb
      go_loopw [9, 27] (fun _ j wr => ∃ (l : Nat) (ys : List UInt8), l ≤ c ∧ j = .int .i64 (l : Int) ∧
          Hid (Blk wr w.heap.size 33 (cs.setIfInBounds k (.slice (some ⟨wo.heap.size, 0, none⟩) c c)) ∧ Blk wr wo.heap.size 5 (bcells ys) ∧ ys.length = c ∧ (∀ (q : Nat), q < l → ys[q]? = some (F k q)) ∧ J wr ∧ Keep (fun b => S b ∨ b = w.heap.size) wo wr)) (fun _ j _ => c - (intOf j).toNat)
      case atStart =>
        obtain ⟨i1, i2, i3, i4, i5⟩ := HI.out
        refine ⟨0, List.replicate c 0, Nat.zero_le _, rfl, HB.out, ?_, List.length_replicate, fun q h => by omega, ?_, ?_⟩
        · rw [← made_bcells]
          have h := Blk.new (wo.setCell ⟨w.heap.size, k, none⟩ (.slice (some ⟨wo.heap.size, 0, none⟩) c c)) 5 (madeCells #[.int .u8 0] c)
          simpa [World.setCell] using h
        · refine HJ.out _ _ i4 ?_ i5.size
          exact ((Keep.refl _ wo).setCell (p := ⟨w.heap.size, k, none⟩) (fun _ => Nat.le_refl _) _).alloc _
        · exact ((Keep.refl _ wo).setCell (p := ⟨w.heap.size, k, none⟩) (fun _ => .inr rfl) _).alloc _
      case round =>
        obtain ⟨l, ys, hl, rfl, HL⟩ := hrel
        by_cases hlt2 : l < c
        · obtain ⟨z, hz⟩ : ∃ z, ys[l]? = some z := ⟨ys[l]'(by have := HL.out.2.2.1; omega), List.getElem?_eq_getElem _⟩
          have hl0 : (0 : Int) ≤ (l : Int) := by omega
          have hlm : (l : Int) < (c : Int) := by omega
          have hcg : wr.cell? ⟨w.heap.size, k, none⟩ = some (.slice (some ⟨wo.heap.size, 0, none⟩) c c) := by
            rw [HL.out.1.cell, Array.getElem?_setIfInBounds_self_of_lt (by have := HI.out.2.1; omega)]
          have hcr : wr.cell? ⟨wo.heap.size, l, none⟩ = some (bv z) := (HL.out.2.1.cell _).trans (bcells_get hz)
          have hfr : wr.frozen? ⟨wo.heap.size, l, none⟩ = false := HL.out.2.1.frozen _
          have HL1 := Lib.hid HL.out.1
          have HL2 := Lib.hid HL.out.2.1
          have HLJ := Lib.hid HL.out.2.2.2.2.1
          have hsz : w.heap.size ≤ wr.heap.size := by have := HL.out.1.lt; omega
          clear hz
          go_wp2_with fail
          go_region_with (first | (go_at_call 78; refine (HC.out k l _ hlt hlt2 ?_ ?_).mono ?_; (exact HJ.out _ _ HLJ.out ((Keep.refl _ wr).drewN _) hsz); (exact hsz); rintro e w2 ⟨rfl, hj2, hk2⟩; have hcg' := (hk2.cell (p := ⟨w.heap.size, k, none⟩) HL1.out.lt (fun h => absurd (HS.out _ h) (Nat.lt_irrefl _))).trans hcg; have hcr' := (hk2.cell (p := ⟨wo.heap.size, l, none⟩) HL2.out.lt (fun h => absurd (HS.out _ h) (by show ¬ wo.heap.size < w.heap.size; omega))).trans hcr; have hfr' := (hk2.frozen (p := ⟨wo.heap.size, l, none⟩) HL2.out.lt (fun h => absurd (HS.out _ h) (by show ¬ wo.heap.size < w.heap.size; omega))).trans hfr))
          all_goals
            have hs2 := hk2.size
            have HJ2 := Lib.hid hj2
            have HK2 : Hid (Keep S wr w2) := ⟨hk2.os, hk2.tape, hk2.output, hk2.size, hk2.block⟩
            clear hcg hcr hfr hcg' hcr' hfr' hj2 hk2
            go_wp2_with fail
            go_roundw
            case rel =>
              obtain ⟨i1, i2, i3, i4, i5, i6⟩ := HL.out
              have n1 : ¬ S w.heap.size := fun h => absurd (HS.out _ h) (Nat.lt_irrefl _)
              have n2 : ¬ S wo.heap.size := fun h => absurd (HS.out _ h) (by omega)
              have hsz2 : w.heap.size ≤ w2.heap.size := by have h := HK2.out.size; omega
              refine ⟨l + 1, ys.set l (F k l), by omega, by go_num, ?_, ?_, by simpa using i3, fun q hq => ?_, ?_, ?_⟩
              · exact (Blk.keep (w := wr) (w' := w2) i1 HK2.out n1).far (p := ⟨wo.heap.size, l, none⟩) (by show w.heap.size ≠ wo.heap.size; omega) _
              · rw [← bcells_set]
                exact (Blk.keep (w := wr) (w' := w2) i2 HK2.out n2).set_ l _
              · by_cases hql : q = l
                · subst hql
                  rw [List.getElem?_set_self (by omega)]
                · rw [List.getElem?_set_ne (by omega)]
                  exact i4 q (by omega)
              · exact HJ.out _ _ HJ2.out ((Keep.refl _ w2).setCell (p := ⟨wo.heap.size, l, none⟩) (fun _ => by show w.heap.size ≤ wo.heap.size; omega) _) hsz2
              · refine (i6.trans' HK2.out (fun b _ h => .inl h)).setCell (p := ⟨wo.heap.size, l, none⟩) (fun h => absurd (show wo.heap.size < wo.heap.size from h) (Nat.lt_irrefl _)) _
            case measure => simp [intOf]; omega
        · have hkn : (c : Int) ≤ (l : Int) := by omega
          go_wp2_with fail
          go_roundw
          case rel =>
            obtain ⟨i1, i2, i3, i4, i5⟩ := HI.out
            obtain ⟨j1, j2, j3, j4, j5, j6⟩ := HL.out
            have hlc : l = c := by omega
            have hys : ys = (List.range c).map (F k) := by
              apply List.ext_getElem?
              intro q
              by_cases hq : q < c
              · rw [j4 q (by omega), List.getElem?_map, List.getElem?_range hq]
                rfl
              · rw [List.getElem?_eq_none (by omega), List.getElem?_eq_none (by simp; omega)]
            refine ⟨k + 1, _, fun q => if q = k then wo.heap.size else G q, by omega, by go_num, j1, by simpa using i2, i3.step i2 hlt j6 (by omega) (fun b hb => ?_) i1 (hys ▸ j2), j5, i5.trans' j6 (fun b hb h => ?_)⟩
            · rcases hb with hb | hb
              · exact .inl (HS.out b hb)
              · exact .inr hb
            · rcases h with h | h
              · exact h
              · omega
          case measure => simp [intOf]; omega
    · have hkn : (n : Int) ≤ (k : Int) := by omega
      go_wp2_with fail
      go_ret
      obtain ⟨i1, i2, i3, i4, i5⟩ := HI.out
      have hke : k = n := by omega
      subst hke
      exact ⟨w.heap.size, G, rfl, ⟨Nat.le_refl _, cs, i1, i2, i3⟩, i4, i5⟩

set_option maxRecDepth 100000 in
set_option maxHeartbeats 4000000 in
theorem filled_90 (S : Nat → Prop) (J : World → Prop) (F : Nat → Nat → UInt8) (c0 : Value) (c1 : Value) (n c : Nat) (w : World) (hn : n ≤ 255) (hc : c ≤ 255) (hJ0 : J w) (hS : ∀ b, S b → b < w.heap.size)
    (hJ : ∀ w1 w2, J w1 → Keep (fun b => w.heap.size ≤ b) w1 w2 → w.heap.size ≤ w1.heap.size → J w2)
    (hcl : ∀ (i j : Nat) (w1 : World), i < n → j < c → J w1 → w.heap.size ≤ w1.heap.size → Calls Try.prog 90 #[.int .i64 i, .int .i64 j, c0, c1] w1 fun e w2 => e = .returned (bv (F i j)) ∧ J w2 ∧ Keep S w1 w2) :
    Calls Try.prog 76 #[.int .i64 n, .int .i64 c, .func (.func 90) #[] #[c0, c1]] w fun e w' => ∃ g G, e = .returned (.slice (some ⟨g, 0, none⟩) n n) ∧ Fl w.heap.size w' g G n c (fun i => (List.range c).map (F i)) ∧ J w' ∧ Keep S w w' := by
  have HJ0 := Lib.hid hJ0
  have HS := Lib.hid hS
  have HJ := Lib.hid hJ
  have HC := Lib.hid hcl
  have hmk := make_rows n hn
  have hmk2 := make_bytes c (by omega)
  clear hJ0 hS hJ hcl
  go_enter Try.func76, Try.ntmps76
  go_wp2_with fail
  clear hmk
  go_loopw [8, 9, 14] (fun _ _ i wr => ∃ (k : Nat) (cs : Array Value) (G : Nat → Nat), k ≤ n ∧ i = .int .i64 (k : Int) ∧
      Hid (Blk wr w.heap.size 33 cs ∧ cs.size = n ∧ RowsAt w.heap.size wr cs G k c (fun i => (List.range c).map (F i)) ∧ J wr ∧ Keep S w wr)) (fun _ _ i _ => n - (intOf i).toNat)
  case atStart =>
    refine ⟨0, _, fun _ => 0, Nat.zero_le _, rfl, Blk.new _ _ _, size_madeCells _ _, ⟨fun j h => by omega, fun i j h => by omega⟩, HJ.out _ _ HJ0.out ((Keep.refl _ w).alloc _) (Nat.le_refl _), (Keep.refl _ w).alloc _⟩
  case round =>
    obtain ⟨k, cs, G, hk, rfl, HI⟩ := hrel
    obtain ⟨wo, rfl⟩ : ∃ wo : World, wo = wr := ⟨_, rfl⟩
    by_cases hlt : k < n
    · obtain ⟨u, hu⟩ := some_of_lt (cs := cs) (i := k) (by have := HI.out.2.1; omega)
      have hgl := HI.out.1.lt
      have hcu : wo.cell? ⟨w.heap.size, k, none⟩ = some u := (HI.out.1.cell k).trans hu
      have hfu : wo.frozen? ⟨w.heap.size, k, none⟩ = false := HI.out.1.frozen k
      have hj0 : (0 : Int) ≤ (k : Int) := by omega
      have hjn : (k : Int) < (n : Int) := by omega
      have hbo := (HI.out.1.set_ k (.slice (some ⟨wo.heap.size, 0, none⟩) c c)).alloc (.cells (madeCells #[.int .u8 0] c) 5)
      have hcb : ((wo.setCell ⟨w.heap.size, k, none⟩ (.slice (some ⟨wo.heap.size, 0, none⟩) c c)).alloc (.cells (madeCells #[.int .u8 0] c) 5)).cell? ⟨w.heap.size, k, none⟩ = some (.slice (some ⟨wo.heap.size, 0, none⟩) c c) := by
        rw [hbo.cell, Array.getElem?_setIfInBounds_self_of_lt (by have := HI.out.2.1; omega)]
      have HB := Lib.hid hbo
      clear hu hbo
      go_wp2_with fail
      clear hcu hfu hcb
      go_loopw [9, 27] (fun _ j wr => ∃ (l : Nat) (ys : List UInt8), l ≤ c ∧ j = .int .i64 (l : Int) ∧
          Hid (Blk wr w.heap.size 33 (cs.setIfInBounds k (.slice (some ⟨wo.heap.size, 0, none⟩) c c)) ∧ Blk wr wo.heap.size 5 (bcells ys) ∧ ys.length = c ∧ (∀ (q : Nat), q < l → ys[q]? = some (F k q)) ∧ J wr ∧ Keep (fun b => S b ∨ b = w.heap.size) wo wr)) (fun _ j _ => c - (intOf j).toNat)
      case atStart =>
        obtain ⟨i1, i2, i3, i4, i5⟩ := HI.out
        refine ⟨0, List.replicate c 0, Nat.zero_le _, rfl, HB.out, ?_, List.length_replicate, fun q h => by omega, ?_, ?_⟩
        · rw [← made_bcells]
          have h := Blk.new (wo.setCell ⟨w.heap.size, k, none⟩ (.slice (some ⟨wo.heap.size, 0, none⟩) c c)) 5 (madeCells #[.int .u8 0] c)
          simpa [World.setCell] using h
        · refine HJ.out _ _ i4 ?_ i5.size
          exact ((Keep.refl _ wo).setCell (p := ⟨w.heap.size, k, none⟩) (fun _ => Nat.le_refl _) _).alloc _
        · exact ((Keep.refl _ wo).setCell (p := ⟨w.heap.size, k, none⟩) (fun _ => .inr rfl) _).alloc _
      case round =>
        obtain ⟨l, ys, hl, rfl, HL⟩ := hrel
        by_cases hlt2 : l < c
        · obtain ⟨z, hz⟩ : ∃ z, ys[l]? = some z := ⟨ys[l]'(by have := HL.out.2.2.1; omega), List.getElem?_eq_getElem _⟩
          have hl0 : (0 : Int) ≤ (l : Int) := by omega
          have hlm : (l : Int) < (c : Int) := by omega
          have hcg : wr.cell? ⟨w.heap.size, k, none⟩ = some (.slice (some ⟨wo.heap.size, 0, none⟩) c c) := by
            rw [HL.out.1.cell, Array.getElem?_setIfInBounds_self_of_lt (by have := HI.out.2.1; omega)]
          have hcr : wr.cell? ⟨wo.heap.size, l, none⟩ = some (bv z) := (HL.out.2.1.cell _).trans (bcells_get hz)
          have hfr : wr.frozen? ⟨wo.heap.size, l, none⟩ = false := HL.out.2.1.frozen _
          have HL1 := Lib.hid HL.out.1
          have HL2 := Lib.hid HL.out.2.1
          have HLJ := Lib.hid HL.out.2.2.2.2.1
          have hsz : w.heap.size ≤ wr.heap.size := by have := HL.out.1.lt; omega
          clear hz
          go_wp2_with fail
          go_region_with (first | (go_at_call 90; refine (HC.out k l _ hlt hlt2 ?_ ?_).mono ?_; (exact HJ.out _ _ HLJ.out ((Keep.refl _ wr).drewN _) hsz); (exact hsz); rintro e w2 ⟨rfl, hj2, hk2⟩; have hcg' := (hk2.cell (p := ⟨w.heap.size, k, none⟩) HL1.out.lt (fun h => absurd (HS.out _ h) (Nat.lt_irrefl _))).trans hcg; have hcr' := (hk2.cell (p := ⟨wo.heap.size, l, none⟩) HL2.out.lt (fun h => absurd (HS.out _ h) (by show ¬ wo.heap.size < w.heap.size; omega))).trans hcr; have hfr' := (hk2.frozen (p := ⟨wo.heap.size, l, none⟩) HL2.out.lt (fun h => absurd (HS.out _ h) (by show ¬ wo.heap.size < w.heap.size; omega))).trans hfr))
          all_goals
            have hs2 := hk2.size
            have HJ2 := Lib.hid hj2
            have HK2 : Hid (Keep S wr w2) := ⟨hk2.os, hk2.tape, hk2.output, hk2.size, hk2.block⟩
            clear hcg hcr hfr hcg' hcr' hfr' hj2 hk2
            go_wp2_with fail
            go_roundw
            case rel =>
              obtain ⟨i1, i2, i3, i4, i5, i6⟩ := HL.out
              have n1 : ¬ S w.heap.size := fun h => absurd (HS.out _ h) (Nat.lt_irrefl _)
              have n2 : ¬ S wo.heap.size := fun h => absurd (HS.out _ h) (by omega)
              have hsz2 : w.heap.size ≤ w2.heap.size := by have h := HK2.out.size; omega
              refine ⟨l + 1, ys.set l (F k l), by omega, by go_num, ?_, ?_, by simpa using i3, fun q hq => ?_, ?_, ?_⟩
              · exact (Blk.keep (w := wr) (w' := w2) i1 HK2.out n1).far (p := ⟨wo.heap.size, l, none⟩) (by show w.heap.size ≠ wo.heap.size; omega) _
              · rw [← bcells_set]
                exact (Blk.keep (w := wr) (w' := w2) i2 HK2.out n2).set_ l _
              · by_cases hql : q = l
                · subst hql
                  rw [List.getElem?_set_self (by omega)]
                · rw [List.getElem?_set_ne (by omega)]
                  exact i4 q (by omega)
              · exact HJ.out _ _ HJ2.out ((Keep.refl _ w2).setCell (p := ⟨wo.heap.size, l, none⟩) (fun _ => by show w.heap.size ≤ wo.heap.size; omega) _) hsz2
              · refine (i6.trans' HK2.out (fun b _ h => .inl h)).setCell (p := ⟨wo.heap.size, l, none⟩) (fun h => absurd (show wo.heap.size < wo.heap.size from h) (Nat.lt_irrefl _)) _
            case measure => simp [intOf]; omega
        · have hkn : (c : Int) ≤ (l : Int) := by omega
          go_wp2_with fail
          go_roundw
          case rel =>
            obtain ⟨i1, i2, i3, i4, i5⟩ := HI.out
            obtain ⟨j1, j2, j3, j4, j5, j6⟩ := HL.out
            have hlc : l = c := by omega
            have hys : ys = (List.range c).map (F k) := by
              apply List.ext_getElem?
              intro q
              by_cases hq : q < c
              · rw [j4 q (by omega), List.getElem?_map, List.getElem?_range hq]
                rfl
              · rw [List.getElem?_eq_none (by omega), List.getElem?_eq_none (by simp; omega)]
            refine ⟨k + 1, _, fun q => if q = k then wo.heap.size else G q, by omega, by go_num, j1, by simpa using i2, i3.step i2 hlt j6 (by omega) (fun b hb => ?_) i1 (hys ▸ j2), j5, i5.trans' j6 (fun b hb h => ?_)⟩
            · rcases hb with hb | hb
              · exact .inl (HS.out b hb)
              · exact .inr hb
            · rcases h with h | h
              · exact h
              · omega
          case measure => simp [intOf]; omega
    · have hkn : (n : Int) ≤ (k : Int) := by omega
      go_wp2_with fail
      go_ret
      obtain ⟨i1, i2, i3, i4, i5⟩ := HI.out
      have hke : k = n := by omega
      subst hke
      exact ⟨w.heap.size, G, rfl, ⟨Nat.le_refl _, cs, i1, i2, i3⟩, i4, i5⟩

end Go.Proofs.Ytegecjilpmkamaa
