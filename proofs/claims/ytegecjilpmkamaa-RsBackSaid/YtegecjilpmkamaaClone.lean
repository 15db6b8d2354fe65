/-
  The walks of mat's clone and rs's copied: a matrix in new memory, each row in a block of its own.
-/
import Derived.Test.YtegecjilpmkamaaStr
import Derived.Laws.CopyRow
import Derived.Laws.IdiomCopy
import Derived.OwnWalk
namespace Go.Proofs.Ytegecjilpmkamaa
open Go.RowKit Sb

/-- The number at a place. -/
def ent (m : List (List UInt8)) (i j : Nat) : UInt8 := ((m[i]?).getD [])[j]?.getD 0

theorem ent_row {m : List (List UInt8)} {i c : Nat} {r : List UInt8} (h : m[i]? = some r) (hc : r.length = c) : (List.range c).map (ent m i) = r := by
  apply List.ext_getElem?
  intro q
  by_cases hq : q < c
  · rw [List.getElem?_map, List.getElem?_range hq]
    simp only [Option.map_some, ent, h, Option.getD_some]
    rw [List.getElem?_eq_getElem (by omega)]
    rfl
  · rw [List.getElem?_eq_none (by simp; omega), List.getElem?_eq_none (by omega)]

theorem ent_map (n c : Nat) (F : Nat → Nat → UInt8) {i j : Nat} (hi : i < n) (hj : j < c) : ent ((List.range n).map (fun i => (List.range c).map (F i))) i j = F i j := by
  unfold ent
  rw [List.getElem?_map, List.getElem?_range hi]
  simp only [Option.map_some, Option.getD_some]
  rw [List.getElem?_map, List.getElem?_range hj]
  rfl

theorem ent_all {m : List (List UInt8)} {n c : Nat} (hn : m.length = n) (hc : ∀ r ∈ m, r.length = c) : (List.range n).map (fun i => (List.range c).map (ent m i)) = m := by
  apply List.ext_getElem?
  intro q
  by_cases hq : q < n
  · have hl : q < m.length := by omega
    rw [List.getElem?_map, List.getElem?_range hq, List.getElem?_eq_getElem hl]
    simp only [Option.map_some]
    rw [ent_row (List.getElem?_eq_getElem hl) (hc _ (List.getElem_mem hl))]
  · rw [List.getElem?_eq_none (by simp; omega), List.getElem?_eq_none (by omega)]

/-- A copy onto a new row of as many bytes. -/
theorem copy_run (w : World) (ty : TypeId) (P : Nat → Prop) (g c : Nat) (A : Option Addr) (cap : Nat) (xs ys : List UInt8) (hg : Blk w g 5 (bcells ys)) (hy : ys.length = c) (hr : Rb P w A c xs) :
    ∃ w', (Builtin.copy_ #[33, 33] ty #[.slice (some ⟨g, 0, none⟩) c c, .slice A c cap]).run Try.prog w = .ok (goInt c) w' ∧ Blk w' g 5 (bcells xs) ∧ Keep (· = g) w w' := by
  have hs : (Try.prog.info? 5).map (·.size) = some 1 := by kernel_rfl
  rcases Nat.eq_zero_or_pos c with h0 | h0
  · subst h0
    have hx : xs = [] := List.length_eq_zero_iff.1 hr.len
    have hy' : ys = [] := List.length_eq_zero_iff.1 hy
    subst hx hy'
    exact ⟨w, run_copy_none w 33 33 ty 5 _ _ _ _ _ _ Try.underlying33 hs (by simp), hg, Keep.refl _ _⟩
  · obtain ⟨b, o, rfl, _, hc⟩ := hr.2 h0
    have h1 : (bcells ys).toList = ys.map bv := rfl
    have := run_copy_row (P := Try.prog) w 33 33 ty 5 g 0 c c ⟨b, o, none⟩ c cap (bcells ys) 5 (xs.map bv) Try.underlying33 hs hg (by rw [List.length_map, hr.len]; simp) (fun j v hj => by rw [Go.WideShapes.add_plain]; exact hc j v hj) (by simp [bcells, hr.len, hy]) bytes_one
    rw [List.length_map, hr.len] at this
    refine ⟨_, this, ?_, ⟨rfl, rfl, rfl, by simp [World.setRow], fun k _ hk => setRow_other w g k _ hk⟩⟩
    rw [h1, List.take_zero, List.nil_append, List.drop_of_length_le (by simp [hy]), List.append_nil]
    exact setRow_heap w g _ _ 5 _ hg

theorem wpl_copy (w : World) {ops : Array Oper} {rest : List Oper} {o : Oper} {a : Act} {Q : Exit → Act → World → Prop} (hgd : o.guard = none) (d s : Operand)
    (ho : o.op = .call { callee := .builtin .copy, args := #[d, s], argTypes := #[33, 33] })
    (P : Nat → Prop) (g c : Nat) (A : Option Addr) (cap : Nat) (xs ys : List UInt8) (hd : a.eval d = .slice (some ⟨g, 0, none⟩) c c) (hs : a.eval s = .slice A c cap) (hg : Blk w g 5 (bcells ys)) (hy : ys.length = c) (hr : Rb P w A c xs)
    (h : ∀ w', Blk w' g 5 (bcells xs) → Keep (· = g) w w' → wpList Try.prog ops Q rest (a.put o.dst (goInt c)) w') :
    wpList Try.prog ops Q (o :: rest) a w := by
  refine wpList_plain hgd fun K hK => ?_
  obtain ⟨w', hrun, h2, h3⟩ := copy_run w o.type P g c A cap xs ys hg hy hr
  unfold Oper.wp execOp
  simp only [ho, resolve, invoke, builtin, Sem.run_bind, Sem.run_pure, Result.andThen_ok, List.map_toArray, List.map_cons, List.map_nil, hd, hs, hrun]
  exact hK _ _ (h w' h2 h3)

theorem made_reps (c : Nat) : (madeCells #[.int .u8 0] c) = bcells (List.replicate c 0) := (made_bcells c).symm ▸ rfl

theorem make_rows40 (n : Nat) (h : n ≤ 255) (w : World) :
    (Instr.makeSlice 40 (.int .i64 (n : Int)) (.int .i64 (n : Int))).run Try.prog w = .ok (.slice (some ⟨w.heap.size, 0, none⟩) n n) (w.alloc (.cells (madeCells #[.slice none 0 0] n) 33)) :=
  run_make_row' (P := Try.prog) 40 33 (.slice none 0 0) 24 Try.underlying40 info33 rfl .i64 .i64 n (by omega) (by omega) w


set_option maxRecDepth 100000 in
set_option maxHeartbeats 4000000 in
theorem clone_79 (P : Nat → Prop) (ao : Option Addr) (n cap c : Nat) (us : List Value) (m : List (List UInt8)) (w : World) (hr : Mv P w ao n us m) (hn : n ≤ 255) (hc : c ≤ 140737488355328) (hm : ∀ r ∈ m, r.length = c) :
    Calls Try.prog 79 #[.slice ao n cap] w fun e w' => ∃ g G, e = .returned (.slice (some ⟨g, 0, none⟩) n n) ∧ Fl w.heap.size w' g G n c (fun i => (List.range c).map (ent m i)) ∧ Keep (fun _ => False) w w' := by
  have HR := Lib.hid hr
  have HM := Lib.hid hm
  have hmk := make_rows n hn
  have hmk2 := make_bytes c hc
  clear hr hm
  go_enter Try.func79, Try.ntmps79
  go_wp2_with fail
  clear hmk
  go_loopw [4, 5, 11] (fun _ _ i wr => ∃ (k : Nat) (cs : Array Value) (G : Nat → Nat), k ≤ n ∧ i = .int .i64 (k : Int) ∧
      Hid (Blk wr w.heap.size 33 cs ∧ cs.size = n ∧ RowsAt w.heap.size wr cs G k c (fun i => (List.range c).map (ent m i)) ∧ Keep (fun _ => False) w wr)) (fun _ _ i _ => n - (intOf i).toNat)
  case atStart =>
    exact ⟨0, _, fun _ => 0, Nat.zero_le _, rfl, Blk.new _ _ _, size_madeCells _ _, ⟨fun j h => by omega, fun i j h => by omega⟩, (Keep.refl _ w).alloc _⟩
  case round =>
    obtain ⟨k, cs, G, hk, rfl, HI⟩ := hrel
    obtain ⟨wo, rfl⟩ : ∃ wo : World, wo = wr := ⟨_, rfl⟩
    by_cases hlt : k < n
    · obtain ⟨b, o, ao', n', cap', r, rfl, _, hu, hr, hcc, _, _, hrb⟩ := (HR.out.keep HI.out.2.2.2 (fun _ _ _ => id)).at_ hlt
      obtain ⟨b2, o2, ao2, n2', cap2, r2, e2, _, hu2, hr2, _, _, _, hrb2⟩ := HR.out.at_ hlt
      rw [hu] at hu2
      cases hu2
      rw [hr] at hr2
      cases hr2
      have hrl : r.length = c := HM.out r (List.mem_of_getElem? hr)
      have hn' : n' = c := by have := hrb.len; omega
      subst hn'
      obtain ⟨u, hu⟩ := some_of_lt (cs := cs) (i := k) (by have := HI.out.2.1; omega)
      have hgl := HI.out.1.lt
      have hcu : wo.cell? ⟨w.heap.size, k, none⟩ = some u := (HI.out.1.cell k).trans hu
      have hfu : wo.frozen? ⟨w.heap.size, k, none⟩ = false := HI.out.1.frozen k
      have hj0 : (0 : Int) ≤ (k : Int) := by omega
      have hjn : (k : Int) < (n : Int) := by omega
      have hbo := (HI.out.1.set_ k (.slice (some ⟨wo.heap.size, 0, none⟩) n' n')).alloc (.cells (madeCells #[.int .u8 0] n') 5)
      have hcb : ((wo.setCell ⟨w.heap.size, k, none⟩ (.slice (some ⟨wo.heap.size, 0, none⟩) n' n')).alloc (.cells (madeCells #[.int .u8 0] n') 5)).cell? ⟨w.heap.size, k, none⟩ = some (.slice (some ⟨wo.heap.size, 0, none⟩) n' n') := by
        rw [hbo.cell, Array.getElem?_setIfInBounds_self_of_lt (by have := HI.out.2.1; omega)]
      have HB := Lib.hid hbo
      have hkw : Keep (· = w.heap.size) wo ((wo.setCell ⟨w.heap.size, k, none⟩ (.slice (some ⟨wo.heap.size, 0, none⟩) n' n')).alloc (.cells (madeCells #[.int .u8 0] n') 5)) :=
        ((Keep.refl (· = w.heap.size) wo).setCell (p := ⟨w.heap.size, k, none⟩) (fun _ => rfl) _).alloc _
      have hnw : Blk ((wo.setCell ⟨w.heap.size, k, none⟩ (.slice (some ⟨wo.heap.size, 0, none⟩) n' n')).alloc (.cells (madeCells #[.int .u8 0] n') 5)) wo.heap.size 5 (bcells (List.replicate n' 0)) := by
        rw [← made_bcells]
        have h := Blk.new (wo.setCell ⟨w.heap.size, k, none⟩ (.slice (some ⟨wo.heap.size, 0, none⟩) n' n')) 5 (madeCells #[.int .u8 0] n')
        simpa [World.setCell] using h
      have HKW := Lib.hid hkw
      have HNW := Lib.hid hnw
      have HRE := Lib.hid hr
      have HRB := Lib.hid ((hrb2.mono (Q := (· < w.heap.size)) (fun b hb _ => hb)).keep HI.out.2.2.2 (fun _ _ _ => id))
      obtain ⟨w2, hcp, hb2, hk2⟩ := copy_run _ 3 (· < w.heap.size) wo.heap.size n' ao' cap' r (List.replicate n' 0) hnw List.length_replicate (HRB.out.keep hkw (fun b _ hb e => by omega))
      have HB2 := Lib.hid hb2
      have HK2 := Lib.hid hk2
      clear hu hr hrb hrb2 e2 hbo hkw hnw hrl hb2 hk2
      go_wp2_with fail
      clear hcu hfu hcb hcp
      go_wp2_with fail
      go_roundw
      case rel =>
        obtain ⟨i1, i2, i3, i4⟩ := HI.out
        have h1 := i1.lt
        have hkk : Keep (· = w.heap.size) wo w2 := HKW.out.trans' HK2.out (fun i hi e => by omega)
        refine ⟨k + 1, _, fun q => if q = k then wo.heap.size else G q, by omega, by go_num, HB.out.keep HK2.out (by omega), by simpa using i2, i3.step (T := (· = w.heap.size)) i2 hlt hkk (by omega) (fun b hb => .inr hb) i1 ?_, i4.trans' hkk (fun b hb e => by omega)⟩
        rw [ent_row HRE.out (HRB.out.len)]
        exact HB2.out
      case measure => simp [intOf]; omega
    · have hkn : (n : Int) ≤ (k : Int) := by omega
      go_wp2_with fail
      go_ret
      obtain ⟨i1, i2, i3, i5⟩ := HI.out
      have hke : k = n := by omega
      subst hke
      exact ⟨w.heap.size, G, rfl, ⟨Nat.le_refl _, cs, i1, i2, i3⟩, i5⟩

set_option maxRecDepth 100000 in
set_option maxHeartbeats 4000000 in
theorem clone_97 (P : Nat → Prop) (ao : Option Addr) (n cap c : Nat) (us : List Value) (m : List (List UInt8)) (w : World) (hr : Mv P w ao n us m) (hn : n ≤ 255) (hc : c ≤ 140737488355328) (hm : ∀ r ∈ m, r.length = c) :
    Calls Try.prog 97 #[.slice ao n cap] w fun e w' => ∃ g G, e = .returned (.slice (some ⟨g, 0, none⟩) n n) ∧ Fl w.heap.size w' g G n c (fun i => (List.range c).map (ent m i)) ∧ Keep (fun _ => False) w w' := by
  have HR := Lib.hid hr
  have HM := Lib.hid hm
  have hmk := make_rows40 n hn
  have hmk2 := make_bytes c hc
  clear hr hm
  go_enter Try.func97, Try.ntmps97
  go_wp2_with fail
  clear hmk
  go_loopw [4, 5, 11] (fun _ _ i wr => ∃ (k : Nat) (cs : Array Value) (G : Nat → Nat), k ≤ n ∧ i = .int .i64 (k : Int) ∧
      Hid (Blk wr w.heap.size 33 cs ∧ cs.size = n ∧ RowsAt w.heap.size wr cs G k c (fun i => (List.range c).map (ent m i)) ∧ Keep (fun _ => False) w wr)) (fun _ _ i _ => n - (intOf i).toNat)
  case atStart =>
    exact ⟨0, _, fun _ => 0, Nat.zero_le _, rfl, Blk.new _ _ _, size_madeCells _ _, ⟨fun j h => by omega, fun i j h => by omega⟩, (Keep.refl _ w).alloc _⟩
  case round =>
    obtain ⟨k, cs, G, hk, rfl, HI⟩ := hrel
    obtain ⟨wo, rfl⟩ : ∃ wo : World, wo = wr := ⟨_, rfl⟩
    by_cases hlt : k < n
    · obtain ⟨b, o, ao', n', cap', r, rfl, _, hu, hr, hcc, _, _, hrb⟩ := (HR.out.keep HI.out.2.2.2 (fun _ _ _ => id)).at_ hlt
      obtain ⟨b2, o2, ao2, n2', cap2, r2, e2, _, hu2, hr2, _, _, _, hrb2⟩ := HR.out.at_ hlt
      rw [hu] at hu2
      cases hu2
      rw [hr] at hr2
      cases hr2
      have hrl : r.length = c := HM.out r (List.mem_of_getElem? hr)
      have hn' : n' = c := by have := hrb.len; omega
      subst hn'
      obtain ⟨u, hu⟩ := some_of_lt (cs := cs) (i := k) (by have := HI.out.2.1; omega)
      have hgl := HI.out.1.lt
      have hcu : wo.cell? ⟨w.heap.size, k, none⟩ = some u := (HI.out.1.cell k).trans hu
      have hfu : wo.frozen? ⟨w.heap.size, k, none⟩ = false := HI.out.1.frozen k
      have hj0 : (0 : Int) ≤ (k : Int) := by omega
      have hjn : (k : Int) < (n : Int) := by omega
      have hbo := (HI.out.1.set_ k (.slice (some ⟨wo.heap.size, 0, none⟩) n' n')).alloc (.cells (madeCells #[.int .u8 0] n') 5)
      have hcb : ((wo.setCell ⟨w.heap.size, k, none⟩ (.slice (some ⟨wo.heap.size, 0, none⟩) n' n')).alloc (.cells (madeCells #[.int .u8 0] n') 5)).cell? ⟨w.heap.size, k, none⟩ = some (.slice (some ⟨wo.heap.size, 0, none⟩) n' n') := by
        rw [hbo.cell, Array.getElem?_setIfInBounds_self_of_lt (by have := HI.out.2.1; omega)]
      have HB := Lib.hid hbo
      have hkw : Keep (· = w.heap.size) wo ((wo.setCell ⟨w.heap.size, k, none⟩ (.slice (some ⟨wo.heap.size, 0, none⟩) n' n')).alloc (.cells (madeCells #[.int .u8 0] n') 5)) :=
        ((Keep.refl (· = w.heap.size) wo).setCell (p := ⟨w.heap.size, k, none⟩) (fun _ => rfl) _).alloc _
      have hnw : Blk ((wo.setCell ⟨w.heap.size, k, none⟩ (.slice (some ⟨wo.heap.size, 0, none⟩) n' n')).alloc (.cells (madeCells #[.int .u8 0] n') 5)) wo.heap.size 5 (bcells (List.replicate n' 0)) := by
        rw [← made_bcells]
        have h := Blk.new (wo.setCell ⟨w.heap.size, k, none⟩ (.slice (some ⟨wo.heap.size, 0, none⟩) n' n')) 5 (madeCells #[.int .u8 0] n')
        simpa [World.setCell] using h
      have HKW := Lib.hid hkw
      have HNW := Lib.hid hnw
      have HRE := Lib.hid hr
      have HRB := Lib.hid ((hrb2.mono (Q := (· < w.heap.size)) (fun b hb _ => hb)).keep HI.out.2.2.2 (fun _ _ _ => id))
      obtain ⟨w2, hcp, hb2, hk2⟩ := copy_run _ 3 (· < w.heap.size) wo.heap.size n' ao' cap' r (List.replicate n' 0) hnw List.length_replicate (HRB.out.keep hkw (fun b _ hb e => by omega))
      have HB2 := Lib.hid hb2
      have HK2 := Lib.hid hk2
      clear hu hr hrb hrb2 e2 hbo hkw hnw hrl hb2 hk2
      go_wp2_with fail
      clear hcu hfu hcb hcp
      go_wp2_with fail
      go_roundw
      case rel =>
        obtain ⟨i1, i2, i3, i4⟩ := HI.out
        have h1 := i1.lt
        have hkk : Keep (· = w.heap.size) wo w2 := HKW.out.trans' HK2.out (fun i hi e => by omega)
        refine ⟨k + 1, _, fun q => if q = k then wo.heap.size else G q, by omega, by go_num, HB.out.keep HK2.out (by omega), by simpa using i2, i3.step (T := (· = w.heap.size)) i2 hlt hkk (by omega) (fun b hb => .inr hb) i1 ?_, i4.trans' hkk (fun b hb e => by omega)⟩
        rw [ent_row HRE.out (HRB.out.len)]
        exact HB2.out
      case measure => simp [intOf]; omega
    · have hkn : (n : Int) ≤ (k : Int) := by omega
      go_wp2_with fail
      go_ret
      obtain ⟨i1, i2, i3, i5⟩ := HI.out
      have hke : k = n := by omega
      subst hke
      exact ⟨w.heap.size, G, rfl, ⟨Nat.le_refl _, cs, i1, i2, i3⟩, i5⟩
end Go.Proofs.Ytegecjilpmkamaa
