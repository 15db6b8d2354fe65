/-
  The walk of carrier's Spoil.
-/
import Derived.Test.YtoojhdjdhhkkcaaAct
import Derived.Laws.BytesArg
import Derived.Lib.ConvBytes
namespace Go.Proofs.Ytoojhdjdhhkkcaa
open Go.RowKit

/-- A byte, as a cell holds it. -/
abbrev bv (x : UInt8) : Value := .int .u8 (x.toNat : Int)

/-- A list of bytes as a text. -/
def bstr (xs : List UInt8) : ByteArray := ⟨xs.toArray⟩

theorem bstr_eq (xs ys : List UInt8) : ((bstr xs).toList == (bstr ys).toList) = (xs == ys) := by
  rw [ByteArray.toList_eq, ByteArray.toList_eq]
  rfl

theorem conv_bytes {P : Nat → Prop} {ao : Option Addr} {n cap : Nat} {xs : List UInt8} {w : World} (h : Rv P w ao n (xs.map bv)) : (convert 37 9 (.slice ao n cap)).run Try.prog w = .ok (.string (bstr xs)) w := by
  by_cases hn : 0 < n
  · obtain ⟨b, o, rfl, _, hc⟩ := h.2 hn
    have hl : xs.length = n := by have := h.1; simpa using this
    have := run_convert_bytes_arg (P := Try.prog) w 37 5 Try.underlying37 Try.underlying5 b o n cap (xs.map (fun x => (x.toNat : Int))) (by simpa using hl) (fun i hi => ?_) 9 Try.underlying9
    · rw [this]
      have : strOfNums (xs.map (fun x => (x.toNat : Int))) = bstr xs := by
        unfold strOfNums bstr
        rw [List.map_map]
        have : (xs.map ((fun n : Int => UInt8.ofNat n.toNat) ∘ fun x : UInt8 => (x.toNat : Int))) = xs := by
          rw [List.map_congr_left (g := id) (fun x _ => by simp [UInt8.ofNat_toNat]), List.map_id]
        rw [this]
      rw [this]
    · have hx : i < xs.length := by omega
      rw [hc i (bv xs[i]) (by rw [List.getElem?_map, List.getElem?_eq_getElem hx]; rfl)]
      simp [List.getD, List.getElem?_eq_getElem hx]
  · have h0 : n = 0 := by omega
    subst h0
    have hx : xs = [] := List.length_eq_zero_iff.1 (by have := h.1; simpa using this)
    subst hx
    rw [run_convert_bytes_string w 37 9 5 _ 0 cap Try.underlying37 Try.underlying5 Try.underlying9]
    cases ao <;> simp [Conv.bytesToString, loadCells]
    all_goals rfl

theorem bits_xor_u8 (a b : UInt8) : bits .xor .u8 (a.toNat : Int) (b.toNat : Int) = ((a ^^^ b).toNat : Int) := by
  have h1 : (BitVec.ofInt 8 (a.toNat : Int)).toNat = a.toNat := by
    rw [BitVec.ofInt_natCast, BitVec.toNat_ofNat]; exact Nat.mod_eq_of_lt a.toNat_lt
  have h2 : (BitVec.ofInt 8 (b.toNat : Int)).toNat = b.toNat := by
    rw [BitVec.ofInt_natCast, BitVec.toNat_ofNat]; exact Nat.mod_eq_of_lt b.toNat_lt
  show IntKind.u8.wrap ((BitVec.ofInt 8 (a.toNat : Int) ^^^ BitVec.ofInt 8 (b.toNat : Int)).toNat : Int) = _
  rw [BitVec.toNat_xor, h1, h2, ← UInt8.toNat_xor]
  have := (a ^^^ b).toNat_lt
  simp only [IntKind.wrap, IntKind.bits, IntKind.signed, Bool.false_and, Bool.false_eq_true, if_false]
  omega

/-- A text of which one byte is turned. -/
def spoilB (s : ByteArray) (at_ : Nat) (x : UInt8) : ByteArray := bstr (s.data.toList.set at_ (s.data.toList.getD at_ 0 ^^^ x))

theorem spoil_size (s : ByteArray) (at_ : Nat) (x : UInt8) : (spoilB s at_ x).size = s.size := by
  show (s.data.toList.set at_ (s.data.toList.getD at_ 0 ^^^ x)).toArray.size = s.data.size
  rw [List.size_toArray, List.length_set, Array.length_toList]

theorem Os.set_ {N : Nat} {w : World} {g n cap i : Nat} {xs : List ByteArray} (h : Os N w (.slice (some ⟨g, 0, none⟩) n cap) xs) (hi : i < xs.length) (s : ByteArray) : Os N (w.setCell ⟨g, i, none⟩ (.string s)) (.slice (some ⟨g, 0, none⟩) n cap) (xs.set i s) := by
  obtain ⟨g', cap', cur, e, hN, hb, hc, hm, hs, ht⟩ := h.blk (by omega)
  cases e
  refine Os.of hN (hb.set_ i _) (by rw [List.length_set]) hc hm (by simpa using hs) ?_
  apply List.ext_getElem?
  intro q
  have hq := congrArg (fun l => l[q]?) ht
  simp only [List.getElem?_take] at hq
  rw [List.getElem?_take, List.getElem?_map, List.getElem?_set]
  by_cases hqi : i = q
  · subst hqi
    rw [if_pos hi, if_pos rfl, if_pos hi, Array.getElem?_toList, Array.getElem?_setIfInBounds_self_of_lt (by omega)]
    rfl
  · rw [if_neg hqi]
    rw [List.getElem?_map] at hq
    split
    · rename_i hql
      rw [if_pos hql, Array.getElem?_toList] at hq
      rw [Array.getElem?_toList, Array.getElem?_setIfInBounds_ne hqi, hq]
    · rename_i hql
      rw [if_neg hql] at hq
      exact hq

set_option maxRecDepth 100000 in
set_option maxHeartbeats 2000000 in
theorem spoil_no {N : Nat} {bb R : Nat} {v : Value} {xs : List ByteArray} (i at_ : Int) (x : UInt8) (w : World) (h : Bg N w bb R v xs) (hi : ¬ (0 ≤ i ∧ i < xs.length)) :
    Calls Try.prog 12 #[.pointer (some ⟨bb, 0, none⟩), .int .i64 i, .int .i64 at_, bv x] w fun e w' => e = .returned (.int .i64 2) ∧ w = w' := by
  have H := Lib.hid h
  have HI := Lib.hid hi
  clear h hi
  go_enter Try.func12, Try.ntmps12
  go_wp2_with fail
  refine (check_no i w H.out HI.out).mono ?_
  rintro e w' ⟨rfl, rfl⟩
  go_wp2_with fail
  go_ret
  exact ⟨rfl, rfl⟩

set_option maxRecDepth 100000 in
set_option maxHeartbeats 2000000 in
theorem spoil_out {N : Nat} {bb R : Nat} {v : Value} {xs : List ByteArray} (i : Nat) (at_ : Int) (s : ByteArray) (x : UInt8) (w : World) (h : Bg N w bb R v xs) (hs : xs[i]? = some s) (ha : ¬ (0 ≤ at_ ∧ at_ < s.size)) :
    Calls Try.prog 12 #[.pointer (some ⟨bb, 0, none⟩), .int .i64 (i : Int), .int .i64 at_, bv x] w fun e w' => e = .returned (.int .i64 2) ∧ w = w' := by
  have hi : i < xs.length := (List.getElem?_eq_some_iff.1 hs).1
  have hc2 := h.blk.cell 2
  obtain ⟨g, cap, rfl, hci, _⟩ := h.text hs
  obtain ⟨n, hn⟩ : ∃ n, xs.length = n := ⟨_, rfl⟩
  rw [hn] at h hc2
  have i0 : (0 : Int) ≤ (i : Int) := by omega
  have i1 : (i : Int) < (n : Int) := by omega
  have H := Lib.hid h
  have HI := Lib.hid hi
  have h3 : at_ < 0 ∨ (0 ≤ at_ ∧ (s.size : Int) ≤ at_) := by omega
  clear h hi hn hs ha
  rcases h3 with h3 | ⟨h3, h4⟩
  all_goals
    go_enter Try.func12, Try.ntmps12
    go_wp2_with fail
    refine (check_ok i w H.out HI.out).mono ?_
    rintro e w' ⟨rfl, rfl⟩
    go_wp2_with fail
    go_ret
    exact ⟨rfl, rfl⟩

theorem bytes_keep (w : World) (s : ByteArray) : Keep (fun _ => False) w (Lib.bytesWorld w 5 s) :=
  ⟨rfl, rfl, rfl, by rw [Lib.bytesWorld_size]; omega, fun k hk _ => Lib.bytesWorld_at_old w 5 s k hk⟩

theorem bytes_frozen (w : World) (s : ByteArray) (j : Nat) (hj : j < s.size) : (Lib.bytesWorld w 5 s).frozen? ⟨w.heap.size, j, none⟩ = false := by
  have h : j < (Lib.bytesCells w 5 s).size := by
    unfold Lib.bytesCells
    rw [Array.size_append, Array.size_map]
    have : s.data.size = s.size := rfl
    omega
  simp [World.frozen?, Lib.bytesWorld_at_new]
  omega

set_option maxRecDepth 100000 in
set_option maxHeartbeats 4000000 in
theorem spoil_yes {N : Nat} {bb R : Nat} {v : Value} {xs : List ByteArray} (i at_ : Nat) (s : ByteArray) (x : UInt8) (w : World) (h : Bg N w bb R v xs) (hs : xs[i]? = some s) (ha : at_ < s.size) (hN : N ≤ w.heap.size) :
    Calls Try.prog 12 #[.pointer (some ⟨bb, 0, none⟩), .int .i64 (i : Int), .int .i64 (at_ : Int), bv x] w fun e w' => ∃ v', e = .returned (.int .i64 0) ∧ Bg N w' bb R v' (xs.set i (spoilB s at_ x)) ∧ Tn bb w v w' v' := by
  have hi : i < xs.length := (List.getElem?_eq_some_iff.1 hs).1
  have hc2 := h.blk.cell 2
  obtain ⟨g, cap, rfl, hci, hgb⟩ := h.text hs
  obtain ⟨n, hn⟩ : ∃ n, xs.length = n := ⟨_, rfl⟩
  rw [hn] at h hc2 ⊢
  have i0 : (0 : Int) ≤ (i : Int) := by omega
  have i1 : (i : Int) < (n : Int) := by omega
  have a0 : (0 : Int) ≤ (at_ : Int) := by omega
  have a1 : (at_ : Int) < (s.size : Int) := by omega
  have H := Lib.hid h
  have HI := Lib.hid hi
  have HA := Lib.hid ha
  have HN := Lib.hid hn
  have HNN := Lib.hid hN
  have hcv := Lib.run_convert_string_bytes (P := Try.prog) w 9 37 5 s Try.underlying9 Try.underlying37 Try.underlying5
  have HKB := Lib.hid (bytes_keep w s)
  have hca : (Lib.bytesWorld w 5 s).cell? ⟨w.heap.size, at_, none⟩ = some (bv (s.data.toList.getD at_ 0)) := Lib.bytesWorld_cell w 5 s at_ ha
  obtain ⟨y, hy⟩ : ∃ y, s.data.toList.getD at_ 0 = y := ⟨_, rfl⟩
  rw [hy] at hca
  have HY := Lib.hid hy
  clear hy
  have hfa := bytes_frozen w s at_ ha
  have HCS : Hid (∀ j, j < s.size → (Lib.bytesWorld w 5 s).cell? ⟨w.heap.size, j, none⟩ = some (bv (s.data.toList.getD j 0))) := fun j hj => Lib.bytesWorld_cell w 5 s j hj
  have hsb : (Lib.bytesWorld w 5 s).heap.size = w.heap.size + 1 := Lib.bytesWorld_size w 5 s
  have HSB := Lib.hid hsb
  generalize hw1 : Lib.bytesWorld w 5 s = w1 at *
  have hb1 := h.blk.keep HKB.out id
  have hm2 := hb1.cell 2
  have HB1 := Lib.hid hb1
  have HLT : Hid (bb < w.heap.size ∧ g < w.heap.size) := ⟨h.blk.lt, (h.own.lt (b := g) rfl).2⟩
  have HO1 := Lib.hid (h.own.keep HKB.out (fun _ _ => id))
  have hbw : bb < w.heap.size := h.blk.lt
  clear h hi ha hn hs hN hb1 hw1 hgb hsb
  go_enter Try.func12, Try.ntmps12
  go_wp2_with fail
  refine (check_ok i w H.out HI.out).mono ?_
  rintro e w' ⟨rfl, rfl⟩
  go_wp2_with fail
  rw [bits_xor_u8]
  have HW2 : Hid (∀ j, j < s.size → (w1.setCell ⟨w.heap.size, at_, none⟩ (bv (y ^^^ x))).cell? ⟨w.heap.size, j, none⟩ = some (bv ((s.data.toList.set at_ (y ^^^ x)).getD j 0))) := by
    intro j hj
    have hlen : s.data.toList.length = s.size := by rw [Array.length_toList]; rfl
    rw [List.getD_eq_getElem?_getD, List.getElem?_set]
    by_cases hja : at_ = j
    · subst hja
      rw [if_pos rfl, if_pos (by omega)]
      exact World.cell?_setCell_same _ _ _ (HCS.out at_ hj)
    · rw [if_neg hja, World.cell?_setCell_other _ _ _ _ (by intro e; injection e with _ e2 _; exact hja e2), HCS.out j hj, List.getD_eq_getElem?_getD]
  have HK2 : Hid (Keep (fun _ => False) w (w1.setCell ⟨w.heap.size, at_, none⟩ (bv (y ^^^ x)))) := HKB.out.setCell (p := ⟨w.heap.size, at_, none⟩) (fun h => absurd h (Nat.lt_irrefl _)) _
  have HB2 : Hid (Blk (w1.setCell ⟨w.heap.size, at_, none⟩ (bv (y ^^^ x))) bb 44 #[.bool true, .int .i64 (R : Int), .slice (some ⟨g, 0, none⟩) n cap]) := HB1.out.far (p := ⟨w.heap.size, at_, none⟩) (by have := HLT.out; show bb ≠ w.heap.size; omega) _
  have HO2 : Hid (Os N (w1.setCell ⟨w.heap.size, at_, none⟩ (bv (y ^^^ x))) (.slice (some ⟨g, 0, none⟩) n cap) xs) := H.out.own.keep HK2.out (fun _ _ => id)
  have HSZ2 : Hid ((w1.setCell ⟨w.heap.size, at_, none⟩ (bv (y ^^^ x))).heap.size = w.heap.size + 1) := by
    show (w1.setCell ⟨w.heap.size, at_, none⟩ (bv (y ^^^ x))).heap.size = w.heap.size + 1
    rw [← HSB.out]
    simp [World.setCell]
  generalize hw2 : w1.setCell ⟨w.heap.size, at_, none⟩ (bv (y ^^^ x)) = w2 at *
  clear hw2 hca hfa hcv hm2 hci hc2
  obtain ⟨ac, cc, hac, _, _, hrs⟩ := HO2.out.form
  rw [HN.out] at hac hrs
  cases hac
  refine (clone_any _ _ n cap xs w2 hrs (by have := H.out.few; have := HN.out; omega)).mono ?_
  rintro e w3 ⟨u, rfl, hos, hk⟩
  obtain ⟨gu, cu, cur3, rfl, hgu, _, _, _, _, _⟩ := hos.blk (by rw [HN.out]; have := HI.out; have := HN.out; omega)
  rw [HN.out] at hos ⊢
  have hb3 := HB2.out.keep hk id
  have hm3 := hb3.cell 2
  have hf3 := hb3.frozen 2
  have HB3 := Lib.hid hb3
  have HO3 := Lib.hid hos
  have HK3 := Lib.hid hk
  have HGU : Hid (w.heap.size + 1 ≤ gu ∧ gu < w3.heap.size) := ⟨by have := HSZ2.out; omega, (hos.lt rfl).2⟩
  have hb4 : Blk (w3.setCell ⟨bb, 2, none⟩ (.slice (some ⟨gu, 0, none⟩) n cu)) bb 44 #[.bool true, .int .i64 (R : Int), .slice (some ⟨gu, 0, none⟩) n cu] := hb3.set_ 2 _
  have hm4 := hb4.cell 2
  have HB4 := Lib.hid hb4
  have HK4 : Hid (Keep (· = bb) w (w3.setCell ⟨bb, 2, none⟩ (.slice (some ⟨gu, 0, none⟩) n cu))) := ((HK2.out.trans hk).mono (T := (· = bb)) (fun _ _ h => h.elim)).setCell (p := ⟨bb, 2, none⟩) (fun _ => rfl) _
  have HO4 : Hid (Os w2.heap.size (w3.setCell ⟨bb, 2, none⟩ (.slice (some ⟨gu, 0, none⟩) n cu)) (.slice (some ⟨gu, 0, none⟩) n cu) xs) := hos.keep ((Keep.refl (· = bb) w3).setCell (p := ⟨bb, 2, none⟩) (fun _ => rfl) _) (fun b hb e => hos.ne hb3 (by rw [hb, e]))
  have HRV : Hid (Rv (fun _ => True) (w3.setCell ⟨bb, 2, none⟩ (.slice (some ⟨gu, 0, none⟩) n cu)).drew (some ⟨w.heap.size, 0, none⟩) s.size ((s.data.toList.set at_ (y ^^^ x)).map bv)) := by
    have hlen : s.data.toList.length = s.size := by rw [Array.length_toList]; rfl
    refine ⟨by rw [List.length_map, List.length_set, hlen], fun _ => ⟨w.heap.size, 0, rfl, trivial, fun j q hq => ?_⟩⟩
    have hj : j < s.size := by
      have := (List.getElem?_eq_some_iff.1 hq).1
      rw [List.length_map, List.length_set] at this
      omega
    have hne : (⟨bb, 2, none⟩ : Addr) ≠ ⟨w.heap.size, 0 + j, none⟩ := by
      intro e
      injection e with e1 _ _
      have := HLT.out
      omega
    show (w3.setCell ⟨bb, 2, none⟩ (.slice (some ⟨gu, 0, none⟩) n cu)).cell? ⟨w.heap.size, 0 + j, none⟩ = some q
    rw [World.cell?_setCell_other _ _ _ _ hne, Nat.zero_add, hk.cell (p := ⟨w.heap.size, j, none⟩) (by show w.heap.size < w2.heap.size; have := HSZ2.out; omega) id, HW2.out j hj]
    rw [List.getElem?_map, List.getElem?_eq_getElem (by rw [List.length_set]; omega)] at hq
    rw [List.getD_eq_getElem?_getD, List.getElem?_eq_getElem (by rw [List.length_set]; omega)]
    exact hq
  have HSP : Hid (bstr (s.data.toList.set at_ (y ^^^ x)) = spoilB s at_ x) := by
    show _ = _
    unfold spoilB
    rw [HY.out]
  have hcv2 := conv_bytes (cap := grownCap w s.size 0 5) HRV.out
  rw [HSP.out] at hcv2
  have HCI : Hid (∃ sx, (w3.setCell ⟨bb, 2, none⟩ (.slice (some ⟨gu, 0, none⟩) n cu)).cell? ⟨gu, i, none⟩ = some (.string sx)) := by
    obtain ⟨gx, cx, curx, e, _, hbx, hcx, _, hsx, htx⟩ := HO4.out.blk (by rw [HN.out]; have := HI.out; have := HN.out; omega)
    cases e
    refine ⟨xs[i]'(HI.out), ?_⟩
    rw [hbx.cell, ← Array.getElem?_toList]
    have h1 : (curx.toList.take xs.length)[i]? = some (.string (xs[i]'(HI.out))) := by rw [htx, List.getElem?_map, List.getElem?_eq_getElem HI.out]; rfl
    rw [List.getElem?_take, if_pos HI.out] at h1
    exact h1
  obtain ⟨sx, hcx⟩ := HCI.out
  have hfx : (w3.setCell ⟨bb, 2, none⟩ (.slice (some ⟨gu, 0, none⟩) n cu)).frozen? ⟨gu, i, none⟩ = false := by
    obtain ⟨gx, cx, curx, e, _, hbx, _, _, _, _⟩ := HO4.out.blk (by rw [HN.out]; have := HI.out; have := HN.out; omega)
    cases e
    exact hbx.frozen i
  clear hos hk hgu hb3 hb4 hrs
  go_wp2_with fail
  generalize hw4 : w3.setCell ⟨bb, 2, none⟩ (.slice (some ⟨gu, 0, none⟩) n cu) = w4 at *
  clear hw4 hm3 hf3
  go_still_tail 8, (by kernel_rfl)
  change wpList _ _ _ _ _ w4.drew
  go_wp2_with fail
  go_ret
  have hos := HO4.out.set_ HI.out (spoilB s at_ x)
  have hkk : Keep (· = gu) w4 (w4.setCell ⟨gu, i, none⟩ (.string (spoilB s at_ x))) := (Keep.refl (· = gu) w4).setCell (p := ⟨gu, i, none⟩) (fun _ => rfl) _
  have hgb : gu ≠ bb := by have := HGU.out; have := HLT.out; omega
  have hsz := HSZ2.out
  have hNN := HNN.out
  refine ⟨.slice (some ⟨gu, 0, none⟩) n cu, rfl, ⟨H.out.ge, (HB4.out.far (p := ⟨gu, i, none⟩) (fun e => hgb e.symm) _).drew, (hos.keep (Keep.refl (fun _ => False) _).drew (fun _ _ => id)).old (by omega), by rw [List.length_set]; exact H.out.few, H.out.room⟩, ⟨((HK4.out.mono (T := bagS bb (.slice (some ⟨g, 0, none⟩) n cap)) (fun b _ hb => .inl hb)).trans' hkk (fun b hb e => by have := HGU.out; have e' : b = gu := e; omega)).drew, fun b hb => .inr (by have e : gu = b := Option.some.inj hb; have := HGU.out; omega)⟩⟩
end Go.Proofs.Ytoojhdjdhhkkcaa
