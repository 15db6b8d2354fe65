/-
  The walks of rs's Cut and Join, and of the reference's Cut.
-/
import Derived.Test.YtegecjilpmkamaaCutp
import Derived.Test.YtegecjilpmkamaaClone
import Derived.Test.YtegecjilpmkamaaGrow
import Derived.Test.YtegecjilpmkamaaBack
import Derived.StillTailTactics
namespace Go.Proofs.Ytegecjilpmkamaa
open Go.RowKit Sb

/-- A copy of the first bytes onto a new row. -/
theorem copy_part (w : World) (ty : TypeId) (P : Nat → Prop) (g c n : Nat) (A : Option Addr) (cap : Nat) (xs ys : List UInt8) (hg : Blk w g 5 (bcells ys)) (hy : ys.length = c) (hr : Rb P w A n xs) (h0 : 0 < n) :
    ∃ w', (Builtin.copy_ #[33, 33] ty #[.slice (some ⟨g, 0, none⟩) c c, .slice A n cap]).run Try.prog w = .ok (goInt (min n c : Nat)) w' ∧ Blk w' g 5 (bcells (xs.take c ++ ys.drop (min n c))) ∧ Keep (· = g) w w' := by
  have hs : (Try.prog.info? 5).map (·.size) = some 1 := by kernel_rfl
  have hxl := hr.len
  obtain ⟨b, o, rfl, _, hc⟩ := hr.2 h0
  have h1 : (bcells ys).toList = ys.map bv := rfl
  have := run_copy_row (P := Try.prog) w 33 33 ty 5 g 0 c c ⟨b, o, none⟩ n cap (bcells ys) 5 ((xs.take c).map bv) Try.underlying33 hs hg (by rw [List.length_map, List.length_take, hxl]; exact Nat.min_comm c n) (fun j v hj => by
    rw [Go.WideShapes.add_plain]
    rw [List.getElem?_map, List.getElem?_take] at hj
    split at hj
    · exact hc j v (by rw [List.getElem?_map]; exact hj)
    · cases hj) (by simp [bcells, hxl, hy]; omega) bytes_one
  rw [List.length_map, List.length_take, hxl] at this
  rw [Nat.min_comm] at this
  refine ⟨_, this, ?_, ⟨rfl, rfl, rfl, by simp [World.setRow], fun k _ hk => setRow_other w g k _ hk⟩⟩
  rw [h1, List.take_zero, List.nil_append, Nat.zero_add, ← List.map_drop, ← List.map_append]
  exact setRow_heap w g _ _ 5 _ hg

/-- Bytes are appended to own bytes. -/
theorem wpl_appb (w : World) {ops : Array Oper} {rest : List Oper} {o : Oper} {a : Act} {Q : Exit → Act → World → Prop} (hgd : o.guard = none) (s x : Operand)
    (ho : o.op = .call { callee := .builtin .append, args := #[s, x], argTypes := #[33, 33] })
    (R : Nat → Prop) (N : Nat) (v : Value) (xs ys : List UInt8) (A : Option Addr) (k c : Nat) (hs : a.eval s = v) (hx : a.eval x = .slice A k c)
    (hown : Gb N w v xs) (hr : Rb R w A k ys) (hlen : xs.length + k ≤ 140737488355328) (hN : N ≤ w.heap.size)
    (h : ∀ v' w', Gb N w' v' (xs ++ ys) → Keep (fun b => v.ownBlock = some b) w w' → wpList Try.prog ops Q rest (a.put o.dst v') w') :
    wpList Try.prog ops Q (o :: rest) a w := by
  obtain ⟨i0, hi0, hz0, hz1, hz2⟩ := info_parts info5
  refine wpl_append w hgd s x 33 ho N 5 i0 (.int .u8 0) 1 Try.underlying33 hi0 hz0 hz1 hz2 rfl v xs.length (xs.map bv) hs hown R A k c (ys.map bv) hx hr bytes_one (by unfold maxLen; omega) (by omega) hN (fun v' w' g1 g2 _ _ => h v' w' ?_ ?_)
  · unfold Gb
    rw [List.length_append, List.map_append, hr.len]
    exact g1
  · exact (Keep.refl (fun b => v.ownBlock = some b) _).grown g2 (fun k hk _ => hk)

theorem mem_flat {l : List (List UInt8)} {r : List UInt8} (h : r ∈ l) : r.length ≤ l.flatten.length := by
  obtain ⟨s, t, rfl⟩ := List.append_of_mem h
  rw [List.flatten_append, List.flatten_cons, List.length_append, List.length_append]
  omega

theorem Gb.form {N : Nat} {w : World} {v : Value} {xs : List UInt8} (h : Gb N w v xs) : ∃ ao cap, v = .slice ao xs.length cap := by
  obtain ⟨ao, n, cap, rfl, _, _, hb⟩ := h.bs
  exact ⟨ao, cap, by rw [hb.len]⟩

set_option maxRecDepth 100000 in
set_option maxHeartbeats 4000000 in
theorem cut_no (ao : Option Addr) (n cap : Nat) (many : Int) (w : World) (h : ¬ (1 ≤ many ∧ many ≤ 255)) :
    Calls Try.prog 69 #[.slice ao n cap, .int .i64 many] w fun e w' => e = .returned (.tuple #[.slice none 0 0, .int .i64 2]) ∧ w = w' := by
  have h2 : many < 1 ∨ (1 ≤ many ∧ 255 < many) := by omega
  clear h
  rcases h2 with h | ⟨h, h'⟩
  all_goals
    go_enter Try.func69, Try.ntmps69
    go_wp2_with fail
    go_ret2
    exact ⟨rfl, rfl⟩

set_option maxRecDepth 100000 in
set_option maxHeartbeats 8000000 in
theorem cut_yes (P : Nat → Prop) (ao : Option Addr) (n cap many : Nat) (xs : List UInt8) (w : World) (hr : Rb P w ao n xs) (hn : n ≤ 3000) (hc : n ≤ cap) (h1 : 1 ≤ many) (h2 : many ≤ 255) :
    Calls Try.prog 69 #[.slice ao n cap, .int .i64 (many : Int)] w fun e w' => ∃ g G, e = .returned (.tuple #[.slice (some ⟨g, 0, none⟩) many many, .int .i64 0]) ∧ Fl w.heap.size w' g G many (cutN n many) (fun i => rowOf (cutN n many) (fun k => at0 xs (i * cutN n many + k))) ∧ Keep (fun _ => False) w w' := by
  have HR := Lib.hid hr
  have hN1 := cutN_pos n many
  have hN2 := cutN_le n many
  have p1 : (1 : Int) ≤ (many : Int) := by omega
  have p2 : (many : Int) ≤ 255 := by omega
  have p3 : (n : Int) ≤ 3000 := by omega
  obtain ⟨N, hN⟩ : ∃ N, cutN n many = N := ⟨_, rfl⟩
  have hdiv : ((n : Int) + (many : Int) - 1) / (many : Int) = ((((n + many - 1) / many : Nat)) : Int) := by
    rw [show ((n : Int) + (many : Int) - 1) = ((n + many - 1 : Nat) : Int) by omega]
    rfl
  have HDIV : Hid (max 1 ((n + many - 1) / many) = N) := hN
  obtain ⟨q, hq⟩ : ∃ q, (n + many - 1) / many = q := ⟨_, rfl⟩
  rw [hq] at hdiv HDIV
  have HNN := Lib.hid hN
  rw [hN] at hN1 hN2 ⊢
  have hmk := make_rows40 many h2
  have hmk2 := make_bytes N (by omega)
  have p4 : (N : Int) ≤ 3001 := by omega
  have HN3 : Hid (1 ≤ N ∧ N ≤ 3001 ∧ 1 ≤ many ∧ many ≤ 255 ∧ n ≤ 3000 ∧ n ≤ cap) := by show _ ∧ _; omega
  clear hr hN hN1 hN2 h1 h2 hn hc hq
  go_enter Try.func69, Try.ntmps69
  go_upto_region 3 with fail
  go_cut [6] (fun s wx => s = .int .i64 (N : Int) ∧ w = wx)
  case first =>
    have h3 : (2 ≤ q ∧ q = N) ∨ (q = 1 ∧ N = 1) ∨ (q = 0 ∧ N = 1) := by have := HDIV.out; omega
    clear HDIV
    rcases h3 with ⟨h1, rfl⟩ | ⟨rfl, rfl⟩ | ⟨rfl, rfl⟩
    · have h1' : (1 : Int) < (q : Int) := by omega
      have h2' : (1 : Int) ≤ (q : Int) := by omega
      clear h1
      go_wp2_with fail
      go_meet
      exact ⟨rfl, rfl⟩
    · go_wp2_with fail
      go_meet
      exact ⟨rfl, rfl⟩
    · go_wp2_with fail
      go_meet
      exact ⟨rfl, rfl⟩
  case rest =>
    obtain ⟨rfl, rfl⟩ := hcut
    clear hdiv
    go_wp2_with fail
    clear hmk
    go_loopw [8, 26] (fun _ i wr => ∃ (k : Nat) (cs : Array Value) (G : Nat → Nat), k ≤ many ∧ i = .int .i64 (k : Int) ∧
        Hid (Blk wr w.heap.size 33 cs ∧ cs.size = many ∧ RowsAt w.heap.size wr cs G k N (fun i => rowOf N (fun q => at0 xs (i * N + q))) ∧ Keep (fun _ => False) w wr)) (fun _ i _ => many - (intOf i).toNat)
    case atStart =>
      exact ⟨0, _, fun _ => 0, Nat.zero_le _, rfl, Blk.new _ _ _, size_madeCells _ _, ⟨fun j h => by omega, fun i j h => by omega⟩, (Keep.refl _ w).alloc _⟩
    case round =>
      obtain ⟨k, cs, G, hk, rfl, HI⟩ := hrel
      obtain ⟨wo, rfl⟩ : ∃ wo : World, wo = wr := ⟨_, rfl⟩
      by_cases hlt : k < many
      · obtain ⟨u, hu⟩ := some_of_lt (cs := cs) (i := k) (by have := HI.out.2.1; omega)
        have hcu : wo.cell? ⟨w.heap.size, k, none⟩ = some u := (HI.out.1.cell k).trans hu
        have hfu : wo.frozen? ⟨w.heap.size, k, none⟩ = false := HI.out.1.frozen k
        have hgl := HI.out.1.lt
        have hj0 : (0 : Int) ≤ (k : Int) := by omega
        have hjn : (k : Int) < (many : Int) := by omega
        have HLT := Lib.hid hlt
        have hbo := (HI.out.1.set_ k (.slice (some ⟨wo.heap.size, 0, none⟩) N N)).alloc (.cells (madeCells #[.int .u8 0] N) 5)
        have hcb : ((wo.setCell ⟨w.heap.size, k, none⟩ (.slice (some ⟨wo.heap.size, 0, none⟩) N N)).alloc (.cells (madeCells #[.int .u8 0] N) 5)).cell? ⟨w.heap.size, k, none⟩ = some (.slice (some ⟨wo.heap.size, 0, none⟩) N N) := by
          rw [hbo.cell, Array.getElem?_setIfInBounds_self_of_lt (by have := HI.out.2.1; omega)]
        have HB := Lib.hid hbo
        have HKW : Hid (Keep (· = w.heap.size) wo ((wo.setCell ⟨w.heap.size, k, none⟩ (.slice (some ⟨wo.heap.size, 0, none⟩) N N)).alloc (.cells (madeCells #[.int .u8 0] N) 5))) :=
          ((Keep.refl (· = w.heap.size) wo).setCell (p := ⟨w.heap.size, k, none⟩) (fun _ => rfl) _).alloc _
        have HNW : Hid (Blk ((wo.setCell ⟨w.heap.size, k, none⟩ (.slice (some ⟨wo.heap.size, 0, none⟩) N N)).alloc (.cells (madeCells #[.int .u8 0] N) 5)) wo.heap.size 5 (bcells (List.replicate N 0))) := by
          show Blk _ _ _ _
          rw [← made_bcells]
          have h := Blk.new (wo.setCell ⟨w.heap.size, k, none⟩ (.slice (some ⟨wo.heap.size, 0, none⟩) N N)) 5 (madeCells #[.int .u8 0] N)
          simpa [World.setCell] using h
        have HRB : Hid (Rb (· < w.heap.size) ((wo.setCell ⟨w.heap.size, k, none⟩ (.slice (some ⟨wo.heap.size, 0, none⟩) N N)).alloc (.cells (madeCells #[.int .u8 0] N) 5)) ao n xs) :=
          ((HR.out.mono (Q := (· < w.heap.size)) (fun b hb _ => hb)).keep HI.out.2.2.2 (fun _ _ _ => id)).keep HKW.out (fun b _ hb e => by have hb' : b < w.heap.size := hb; have e' : b = w.heap.size := e; omega)
        obtain ⟨I, hI⟩ : ∃ I, k * N = I := ⟨_, rfl⟩
        have hI2 : I ≤ 3255 := by
          have h3 := cutN_room (L := n) (many := many) (i := k) hlt
          rw [HNN.out, hI] at h3
          have := HN3.out
          omega
        have hmul : IntKind.i64.wrap ((k : Int) * (N : Int)) = (I : Int) := by
          rw [← hI, Int.natCast_mul]
          exact IntWalk.i64_in _ (by rw [← Int.natCast_mul, hI]; omega)
        have I0 : (0 : Int) ≤ (I : Int) := by omega
        have HII := Lib.hid hI
        clear hu hbo hlt hI
        go_wp2_with fail
        have hcut := cut_copy xs N k
        rw [HRB.out.len, HII.out] at hcut
        have HCUT := Lib.hid hcut
        clear hcut
        generalize hw1 : (wo.setCell ⟨w.heap.size, k, none⟩ (.slice (some ⟨wo.heap.size, 0, none⟩) N N)).alloc (.cells (madeCells #[.int .u8 0] N) 5) = w1 at *
        clear hw1
        have hcb1 : w1.drew.cell? ⟨w.heap.size, k, none⟩ = some (.slice (some ⟨wo.heap.size, 0, none⟩) N N) := hcb
        have h5 : (I < n) ∨ (I = n) ∨ (n < I) := by omega
        rcases h5 with h5 | h5 | h5
        · have h5' : (I : Int) < (n : Int) := by omega
          have h6' : (I : Int) ≤ (n : Int) := by omega
          have h7 : ¬ cap = I := by have := HN3.out; omega
          obtain ⟨b, o, rfl, _, _⟩ := HRB.out.2 (by omega)
          have hRI : Rb (· < w.heap.size) w1.drew (some ⟨b, o + I, none⟩) (n - I) (xs.drop I) := (Rb.drop (n := I) (k := n - I) (by rw [Nat.add_sub_cancel' (by omega)]; exact HRB.out)).drewN 1
          obtain ⟨w2, hcp, hb2, hk2⟩ := copy_part w1.drew 3 _ wo.heap.size N (n - I) (some ⟨b, o + I, none⟩) (cap - I) (xs.drop I) (List.replicate N 0) HNW.out.drew List.length_replicate hRI (by omega)
          have hrow := HCUT.out
          rw [show min I n = I by omega, Nat.min_comm N] at hrow
          rw [hrow] at hb2
          have HB2 := Lib.hid hb2
          have HK2 := Lib.hid hk2
          clear hRI hb2 hk2 hrow h5
          have h8 : ¬ n < I := by omega
          go_still_tail 12, (by kernel_rfl)
          change wpList _ _ _ _ _ w1.drew
          go_wp2_with fail
          clear hcu hfu hcb hcb1 hcp
          go_roundw
          case rel =>
            obtain ⟨i1, i2, i3, i4⟩ := HI.out
            have h1 := i1.lt
            have hkk : Keep (· = w.heap.size) wo w2 := (HKW.out.drew).trans' HK2.out (fun i hi e => by omega)
            exact ⟨k + 1, _, fun q => if q = k then wo.heap.size else G q, by have := HLT.out; omega, by go_num, HB.out.drew.keep HK2.out (by omega), by simpa using i2, i3.step (T := (· = w.heap.size)) i2 HLT.out hkk (by omega) (fun b hb => .inr hb) i1 (by rw [HII.out]; exact HB2.out), i4.trans' hkk (fun b hb e => by omega)⟩
          case measure => have := HLT.out; simp [intOf]; omega
        · subst h5
          have hs : (Try.prog.info? 5).map (·.size) = some 1 := by kernel_rfl
          have hcp := fun (A' : Option Addr) (cap' : Nat) => run_copy_none (P := Try.prog) w1.drew 33 33 3 5 (some ⟨wo.heap.size, 0, none⟩) A' N N 0 cap' Try.underlying33 hs (Nat.zero_min _)
          obtain ⟨w2, hw2⟩ : ∃ w2, w1.drew = w2 := ⟨_, rfl⟩
          have hrow := HCUT.out
          rw [show min I I = I by omega, Nat.sub_self, List.drop_of_length_le (by rw [HRB.out.len]; omega), Nat.min_zero, List.drop_zero, List.take_nil, List.nil_append] at hrow
          have HB2 : Hid (Blk w2 wo.heap.size 5 (bcells (rowOf N (fun q => at0 xs (I + q))))) := by
            show Blk _ _ _ _
            rw [← hw2, ← hrow]
            exact HNW.out.drew
          have HK2 : Hid (Keep (fun x => x = wo.heap.size) w1.drew w2) := by
            show Keep _ _ _
            rw [hw2]
            exact Keep.refl _ _
          have HW2 := Lib.hid hw2
          clear hs hrow hw2
          go_still_tail 12, (by kernel_rfl)
          change wpList _ _ _ _ _ w1.drew
          go_wp2_with fail
          rw [HW2.out]
          clear hcu hfu hcb hcb1 hcp
          go_roundw
          case rel =>
            obtain ⟨i1, i2, i3, i4⟩ := HI.out
            have h1 := i1.lt
            have hkk : Keep (· = w.heap.size) wo w2 := (HKW.out.drew).trans' HK2.out (fun i hi e => by omega)
            exact ⟨k + 1, _, fun q => if q = k then wo.heap.size else G q, by have := HLT.out; omega, by go_num, HB.out.drew.keep HK2.out (by omega), by simpa using i2, i3.step (T := (· = w.heap.size)) i2 HLT.out hkk (by omega) (fun b hb => .inr hb) i1 (by rw [HII.out]; exact HB2.out), i4.trans' hkk (fun b hb e => by omega)⟩
          case measure => have := HLT.out; simp [intOf]; omega
        · have h5n : ¬ I < n := by omega
          have hs : (Try.prog.info? 5).map (·.size) = some 1 := by kernel_rfl
          have hcp := fun (A' : Option Addr) (cap' : Nat) => run_copy_none (P := Try.prog) w1.drew 33 33 3 5 (some ⟨wo.heap.size, 0, none⟩) A' N N 0 cap' Try.underlying33 hs (Nat.zero_min _)
          obtain ⟨w2, hw2⟩ : ∃ w2, w1.drew = w2 := ⟨_, rfl⟩
          have hrow := HCUT.out
          rw [show min I n = n by omega, Nat.sub_self, List.drop_of_length_le (by rw [HRB.out.len]; omega), Nat.min_zero, List.drop_zero, List.take_nil, List.nil_append] at hrow
          have HB2 : Hid (Blk w2 wo.heap.size 5 (bcells (rowOf N (fun q => at0 xs (I + q))))) := by
            show Blk _ _ _ _
            rw [← hw2, ← hrow]
            exact HNW.out.drew
          have HK2 : Hid (Keep (fun x => x = wo.heap.size) w1.drew w2) := by
            show Keep _ _ _
            rw [hw2]
            exact Keep.refl _ _
          have HW2 := Lib.hid hw2
          clear hs hrow hw2
          go_still_tail 12, (by kernel_rfl)
          change wpList _ _ _ _ _ w1.drew
          go_wp2_with fail
          rw [HW2.out]
          clear hcu hfu hcb hcb1 hcp
          go_roundw
          case rel =>
            obtain ⟨i1, i2, i3, i4⟩ := HI.out
            have h1 := i1.lt
            have hkk : Keep (· = w.heap.size) wo w2 := (HKW.out.drew).trans' HK2.out (fun i hi e => by omega)
            exact ⟨k + 1, _, fun q => if q = k then wo.heap.size else G q, by have := HLT.out; omega, by go_num, HB.out.drew.keep HK2.out (by omega), by simpa using i2, i3.step (T := (· = w.heap.size)) i2 HLT.out hkk (by omega) (fun b hb => .inr hb) i1 (by rw [HII.out]; exact HB2.out), i4.trans' hkk (fun b hb e => by omega)⟩
          case measure => have := HLT.out; simp [intOf]; omega
      · have hkn : (many : Int) ≤ (k : Int) := by omega
        have hke : k = many := by omega
        rw [hke] at HI
        clear hke hlt
        go_wp2_with fail
        go_ret2
        obtain ⟨i1, i2, i3, i5⟩ := HI.out
        exact ⟨w.heap.size, G, rfl, ⟨Nat.le_refl _, cs, i1, i2, i3⟩, i5⟩

/-- A row of which the first numbers are written. -/
abbrev fillR (N : Nat) (f : Nat → UInt8) (l : Nat) : List UInt8 := rowOf N (fun q => if q < l then f q else 0)

theorem fill_set {N l : Nat} (f : Nat → UInt8) : (fillR N f l).set l (f l) = fillR N f (l + 1) := by
  apply List.ext_getElem?
  intro q
  by_cases hq : q < N
  · rw [rowOf_get _ hq]
    by_cases hql : l = q
    · subst hql
      rw [List.getElem?_set_self (by rw [rowOf_len]; exact hq), if_pos (by omega)]
    · rw [List.getElem?_set_ne hql, rowOf_get _ hq]
      by_cases h2 : q < l
      · rw [if_pos h2, if_pos (by omega)]
      · rw [if_neg h2, if_neg (by omega)]
  · rw [List.getElem?_eq_none (by rw [List.length_set, rowOf_len]; omega), List.getElem?_eq_none (by rw [rowOf_len]; omega)]

theorem fill_skip {N l : Nat} {f : Nat → UInt8} (h : f l = 0) : fillR N f l = fillR N f (l + 1) := rowOf_congr (fun q _ => by
  by_cases h2 : q < l
  · rw [if_pos h2, if_pos (by omega)]
  · rw [if_neg h2]
    by_cases h3 : q = l
    · rw [if_pos (by omega), h3, h]
    · rw [if_neg (by omega)])

theorem fill_all (N : Nat) (f : Nat → UInt8) : fillR N f N = rowOf N f := rowOf_congr (fun q hq => by rw [if_pos hq])

theorem fill_none (N : Nat) (f : Nat → UInt8) : madeCells #[.int .u8 0] N = bcells (fillR N f 0) := by
  rw [made_bcells]
  congr 1
  apply List.ext_getElem?
  intro q
  by_cases hq : q < N
  · rw [rowOf_get _ hq, List.getElem?_replicate, if_pos hq, if_neg (by omega)]
  · rw [List.getElem?_eq_none (by simp; omega), List.getElem?_eq_none (by rw [rowOf_len]; omega)]

set_option maxRecDepth 100000 in
set_option maxHeartbeats 8000000 in
theorem refcut_any (P : Nat → Prop) (ao : Option Addr) (n cap many : Nat) (xs : List UInt8) (w : World) (hr : Rb P w ao n xs) (hn : n ≤ 3000) (h1 : 1 ≤ many) (h2 : many ≤ 255) :
    Calls Try.prog 70 #[.slice ao n cap, .int .i64 (many : Int)] w fun e w' => ∃ v, e = .returned v ∧ Gr (fun b => w.heap.size ≤ b) w.heap.size w' v (cutM xs many) ∧ Keep (fun _ => False) w w' := by
  have HR : Hid (Rb (fun b => P b ∧ b < w.heap.size) w ao n xs) := hr.mono (fun b hb hp => ⟨hp, hb⟩)
  have hxl := hr.len
  have hN1 := cutN_pos n many
  have hN2 := cutN_le n many
  have p1 : (1 : Int) ≤ (many : Int) := by omega
  have p2 : (many : Int) ≤ 255 := by omega
  have p3 : (n : Int) ≤ 3000 := by omega
  have HCM : Hid (cutM xs many = (List.range many).map (fun i => rowOf (cutN n many) (fun k => at0 xs (i * cutN n many + k)))) := by
    show cutM xs many = _
    unfold cutM
    rw [hxl]
  obtain ⟨N, hN⟩ : ∃ N, cutN n many = N := ⟨_, rfl⟩
  have hdiv : ((n : Int) + (many : Int) - 1) / (many : Int) = ((((n + many - 1) / many : Nat)) : Int) := by
    rw [show ((n : Int) + (many : Int) - 1) = ((n + many - 1 : Nat) : Int) by omega]
    rfl
  have HDIV : Hid (max 1 ((n + many - 1) / many) = N) := hN
  obtain ⟨q, hq⟩ : ∃ q, (n + many - 1) / many = q := ⟨_, rfl⟩
  rw [hq] at hdiv HDIV
  have HNN := Lib.hid hN
  have HROOM : Hid (∀ i, i < many → i * N ≤ n + many) := fun i hi => by
    have h3 := cutN_room (L := n) (many := many) (i := i) hi
    rw [hN] at h3
    exact h3
  rw [hN] at hN1 hN2 HCM
  have hmk2 := make_bytes N (by omega)
  have p4 : (N : Int) ≤ 3001 := by omega
  have HN3 : Hid (1 ≤ N ∧ N ≤ 3001 ∧ 1 ≤ many ∧ many ≤ 255 ∧ n ≤ 3000) := by show _ ∧ _; omega
  have HXL := Lib.hid hxl
  clear hr hN hN1 hN2 h1 h2 hn hq hxl
  go_enter Try.func70, Try.ntmps70
  go_upto_region 1 with fail
  go_cut [5] (fun s wx => s = .int .i64 (N : Int) ∧ w = wx)
  case first =>
    have h3 : (2 ≤ q ∧ q = N) ∨ (q = 1 ∧ N = 1) ∨ (q = 0 ∧ N = 1) := by have := HDIV.out; omega
    clear HDIV
    rcases h3 with ⟨h1, rfl⟩ | ⟨rfl, rfl⟩ | ⟨rfl, rfl⟩
    · have h1' : (1 : Int) < (q : Int) := by omega
      have h2' : (1 : Int) ≤ (q : Int) := by omega
      clear h1
      go_wp2_with fail
      go_meet
      exact ⟨rfl, rfl⟩
    · go_wp2_with fail
      go_meet
      exact ⟨rfl, rfl⟩
    · go_wp2_with fail
      go_meet
      exact ⟨rfl, rfl⟩
  case rest =>
    obtain ⟨rfl, rfl⟩ := hcut
    clear hdiv
    go_wp2_with fail
    go_loopw [6, 7, 8, 9] (fun s i _ _ wr => ∃ k : Nat, k ≤ many ∧ i = .int .i64 (k : Int) ∧
        Hid (Gr (fun b => w.heap.size ≤ b) w.heap.size wr s ((List.range k).map (fun i => rowOf N (fun q => at0 xs (i * N + q)))) ∧ Keep (fun _ => False) w wr)) (fun _ i _ _ _ => many - (intOf i).toNat)
    case atStart => exact ⟨0, Nat.zero_le _, rfl, Gr.nil _ _ _, Keep.refl _ _⟩
    case round =>
      obtain ⟨k, hk, rfl, HI⟩ := hrel
      obtain ⟨wo, rfl⟩ : ∃ wo : World, wo = wr := ⟨_, rfl⟩
      obtain ⟨s, rfl⟩ : ∃ s : Value, s = u6 := ⟨_, rfl⟩
      by_cases hlt : k < many
      · have k0 : (0 : Int) ≤ (k : Int) := by omega
        have kn : (k : Int) < (many : Int) := by omega
        have HLT := Lib.hid hlt
        obtain ⟨I, hI⟩ : ∃ I, k * N = I := ⟨_, rfl⟩
        have hI2 : I ≤ 3255 := by
          have h3 := HROOM.out k hlt
          rw [hI] at h3
          have := HN3.out
          omega
        have hmul : IntKind.i64.wrap ((k : Int) * (N : Int)) = (I : Int) := by
          rw [← hI, Int.natCast_mul]
          exact IntWalk.i64_in _ (by rw [← Int.natCast_mul, hI]; omega)
        have hmul2 : (k : Int) * (N : Int) = (I : Int) := by rw [← hI, Int.natCast_mul]
        have I0 : (0 : Int) ≤ (I : Int) := by omega
        have I1 : (I : Int) ≤ 3255 := by omega
        have HII := Lib.hid hI
        clear hlt hI
        go_wp2_with fail
        go_loopw [9] (fun j wr => ∃ l : Nat, l ≤ N ∧ j = .int .i64 (l : Int) ∧ Hid (Blk wr wo.heap.size 5 (bcells (fillR N (fun q => at0 xs (I + q)) l)) ∧ Keep (fun _ => False) wo wr)) (fun j _ => N - (intOf j).toNat)
        case atStart => exact ⟨0, Nat.zero_le _, rfl, by rw [← fill_none]; exact Blk.new _ _ _, (Keep.refl _ wo).alloc _⟩
        case round =>
          obtain ⟨l, hl, rfl, HM⟩ := hrel
          obtain ⟨wz, rfl⟩ : ∃ wz : World, wz = wr := ⟨_, rfl⟩
          by_cases hll : l < N
          · have l0 : (0 : Int) ≤ (l : Int) := by omega
            have ln : (l : Int) < (N : Int) := by omega
            have HLL := Lib.hid hll
            clear hl
            by_cases hin : I + l < n
            · have hin' : (I : Int) + (l : Int) < (n : Int) := by omega
              have hi0 : (0 : Int) ≤ (I : Int) + (l : Int) := by omega
              have htn : ((I : Int) + (l : Int)).toNat = I + l := by omega
              obtain ⟨b, o, x, rfl, _, hx, hcx⟩ := ((HR.out.keep HI.out.2 (fun _ _ _ => id)).keep HM.out.2 (fun _ _ _ => id)).at_ hin
              have HX : Hid (at0 xs (I + l) = x) := by
                show at0 xs (I + l) = x
                unfold at0
                rw [hx]
                rfl
              have hcl : wz.cell? ⟨wo.heap.size, l, none⟩ = some (bv 0) := by
                rw [HM.out.1.cell, bcells_get (rowOf_get _ hll), if_neg (by omega)]
              have hfl : wz.frozen? ⟨wo.heap.size, l, none⟩ = false := HM.out.1.frozen l
              have hsz := HM.out.1.lt
              have HST : Hid (Blk (wz.setCell ⟨wo.heap.size, l, none⟩ (bv x)) wo.heap.size 5 (bcells (fillR N (fun q => at0 xs (I + q)) (l + 1)))) := by
                have h9 := HM.out.1.set_ l (bv x)
                rw [bcells_set, ← HX.out, fill_set (fun q => at0 xs (I + q))] at h9
                rw [← HX.out]
                exact h9
              have HKS : Hid (Keep (fun _ => False) wo (wz.setCell ⟨wo.heap.size, l, none⟩ (bv x))) := HM.out.2.setCell (p := ⟨wo.heap.size, l, none⟩) (fun h => absurd h (Nat.lt_irrefl _)) _
              clear hx hll
              go_wp2_with fail
              clear hcx hcl hfl
              go_roundw
              case rel => exact ⟨l + 1, by have := HLL.out; omega, by go_num, HST.out, HKS.out⟩
              case measure => have := HLL.out; simp [intOf]; omega
            · have hin' : (n : Int) ≤ (I : Int) + (l : Int) := by omega
              have HZ : Hid (at0 xs (I + l) = 0) := by
                show at0 xs (I + l) = 0
                unfold at0
                rw [List.getElem?_eq_none (by have := HXL.out; omega)]
                rfl
              clear hll
              go_wp2_with fail
              go_roundw
              case rel => exact ⟨l + 1, by have := HLL.out; omega, by go_num, by rw [← fill_skip (f := fun q => at0 xs (I + q)) HZ.out]; exact HM.out.1, HM.out.2⟩
              case measure => have := HLL.out; simp [intOf]; omega
          · have hln : (N : Int) ≤ (l : Int) := by omega
            have hle : l = N := by omega
            rw [hle, fill_all] at HM
            have HBS : Hid (Bs (fun x => w.heap.size ≤ x ∧ s.ownBlock ≠ some x) wz (.slice (some ⟨wo.heap.size, 0, none⟩) N N) (rowOf N (fun q => at0 xs (I + q)))) := by
              obtain ⟨us, h1, _⟩ := HI.out.1
              refine ⟨_, N, N, rfl, Nat.le_refl _, by have := HN3.out; unfold maxLen; omega, ⟨by rw [List.length_map, rowOf_len], fun _ => ⟨wo.heap.size, 0, rfl, ⟨HI.out.2.size, fun e => ?_⟩, fun i u hu => ?_⟩⟩⟩
              · have := (h1.lt _ e).2
                omega
              · rw [Nat.zero_add, HM.out.1.cell]
                simpa [bcells] using hu
            clear hle hl hll
            go_wp2_with (first
              | (at_builtin; refine wpl_grow1 wz rfl (.tmp 49) (.tmp 51) 40 Try.underlying40 rfl (fun x => w.heap.size ≤ x) w.heap.size s (.slice (some ⟨wo.heap.size, 0, none⟩) N N) ((List.range k).map (fun i => rowOf N (fun q => at0 xs (i * N + q)))) (rowOf N (fun q => at0 xs (I + q))) wz.heap.size rfl rfl rfl (HI.out.1.keep HM.out.2 (fun _ _ => id) (fun _ _ _ _ => id)) HBS.out (by rw [List.length_map, List.length_range]; omega) (Nat.le_trans HI.out.2.size HM.out.2.size) ?_; intro v' w' hgr hkp))
            have HG := Lib.hid hgr
            have HKP := Lib.hid hkp
            clear hgr hkp hln
            go_wp2_with fail
            go_roundw
            case rel =>
              refine ⟨k + 1, by have := HLT.out; omega, by go_num, ?_, ?_⟩
              · rw [List.range_succ, List.map_append, List.map_singleton, HII.out]
                exact HG.out
              · obtain ⟨us, h1, _⟩ := HI.out.1
                exact (HI.out.2.trans HM.out.2).trans' HKP.out (fun i hi e => by have := (h1.lt _ e).1; omega)
            case measure => have := HLT.out; simp [intOf]; omega
      · have hkn : (many : Int) ≤ (k : Int) := by omega
        have hke : k = many := by omega
        rw [hke] at HI
        clear hke hlt
        go_wp2_with fail
        go_ret
        exact ⟨_, rfl, by rw [HCM.out]; exact HI.out.1, HI.out.2⟩

set_option maxRecDepth 100000 in
set_option maxHeartbeats 4000000 in
theorem cjoin_no (ao : Option Addr) (n cap : Nat) (many : Int) (w : World) (h : many < 0) :
    Calls Try.prog 71 #[.slice ao n cap, .int .i64 many] w fun e w' => e = .returned (.tuple #[.slice none 0 0, .int .i64 2]) ∧ w = w' := by
  go_enter Try.func71, Try.ntmps71
  go_wp2_with fail
  go_ret2
  exact ⟨rfl, rfl⟩

/-- What Join tells. -/
def JoinEnd (N : Nat) (l : List (List UInt8)) (many : Nat) (e : Ending) (w' : World) : Prop :=
  if l.flatten.length < many then e = .returned (.tuple #[.slice none 0 0, .int .i64 10]) else ∃ v, e = .returned (.tuple #[v, .int .i64 0]) ∧ Gb N w' v (l.flatten.take many)

set_option maxRecDepth 100000 in
set_option maxHeartbeats 8000000 in
theorem cjoin_any (P : Nat → Prop) (ao : Option Addr) (n cap many : Nat) (us : List Value) (l : List (List UInt8)) (w : World) (hr : Mv P w ao n us l) (hn : n ≤ 9223372036854775807) (hm : many ≤ 9223372036854775807) (hl : l.flatten.length ≤ 1000000) :
    Calls Try.prog 71 #[.slice ao n cap, .int .i64 (many : Int)] w fun e w' => JoinEnd w.heap.size l many e w' ∧ Keep (fun _ => False) w w' := by
  have HR := Lib.hid hr
  have HL := Lib.hid hl
  have m0 : (0 : Int) ≤ (many : Int) := by omega
  have m1 : (many : Int) ≤ 9223372036854775807 := by omega
  have n1 : (n : Int) ≤ 9223372036854775807 := by omega
  clear hr hl hn hm
  go_enter Try.func71, Try.ntmps71
  go_wp2_with fail
  go_loopw [6, 8, 13] (fun s _ i wr => ∃ j : Nat, j ≤ n ∧ i = .int .i64 (j : Int) ∧ Hid (Gb w.heap.size wr s ((l.take j).flatten.take many) ∧ Keep (fun _ => False) w wr)) (fun _ _ i _ => n - (intOf i).toNat)
  case atStart => exact ⟨0, Nat.zero_le _, rfl, by rw [List.take_zero, List.flatten_nil, List.take_nil]; exact Gb.nil _ _, Keep.refl _ _⟩
  case round =>
    obtain ⟨j, hj, rfl, HI⟩ := hrel
    obtain ⟨wo, rfl⟩ : ∃ wo : World, wo = wr := ⟨_, rfl⟩
    obtain ⟨s, rfl⟩ : ∃ s : Value, s = u6 := ⟨_, rfl⟩
    by_cases hlt : j < n
    · have j0 : (0 : Int) ≤ (j : Int) := by omega
      have jn : (j : Int) < (n : Int) := by omega
      have HLT := Lib.hid hlt
      obtain ⟨b, o, ao', n', cap', r, rfl, _, hu, hr, hcc, hcp', hmx', hrb⟩ := (HR.out.keep HI.out.2 (fun _ _ _ => id)).at_ hlt
      obtain ⟨sa, sc, rfl⟩ := HI.out.1.form
      have HS := Lib.hid (join_step (many := many) hr)
      have hlen : ((l.take j).flatten.take many).length ≤ many := List.length_take_le _ _
      have hlen2 : ((l.take j).flatten.take many).length ≤ 1000000 := by
        have h1 := List.length_take_le many (l.take j).flatten
        have h2 : (l.take j).flatten.length ≤ l.flatten.length := by
          have h3 := congrArg List.length (congrArg List.flatten (List.take_append_drop j l))
          rw [List.flatten_append, List.length_append] at h3
          omega
        have := HL.out
        have h4 : ((l.take j).flatten.take many).length ≤ (l.take j).flatten.length := by rw [List.length_take]; omega
        omega
      obtain ⟨q, hq⟩ : ∃ q, ((l.take j).flatten.take many).length = q := ⟨_, rfl⟩
      rw [hrb.len, hq] at HS
      rw [hq] at hlen hlen2
      have HQ := Lib.hid hq
      have q1 : (q : Int) ≤ (many : Int) := by omega
      have q2 : (q : Int) ≤ 1000000 := by omega
      have q3 : (0 : Int) ≤ (many : Int) - (q : Int) := by omega
      have hn' : n' ≤ cap' := hcp'
      have hm' : (n' : Int) ≤ 9223372036854775807 := by unfold maxLen at hmx'; omega
      obtain ⟨d, hd⟩ : ∃ d : Nat, many - q = d := ⟨_, rfl⟩
      have hd' : (many : Int) - (q : Int) = (d : Int) := by omega
      rw [hd] at HS
      have HRB := Lib.hid hrb
      rw [hq] at HI ⊢
      have HND : Hid (n' ≤ 1000000) := by
        show n' ≤ 1000000
        have h1 : r ∈ l := List.mem_of_getElem? hr
        have h2 := mem_flat h1
        rw [hrb.len] at h2
        have := HL.out
        omega
      clear hu hr hlt hq hcp' hmx' hrb hd
      by_cases hdn : d < n'
      · rw [show min n' d = d by omega] at HS
        have d1 : (d : Int) < (n' : Int) := by omega
        have d2 : d < n' := hdn
        have d3 : d ≤ cap' := by omega
        have d4 : (d : Int) ≤ (cap' : Int) := by omega
        clear hdn
        go_wp2_with (first
          | (at_builtin; refine wpl_appb wo rfl (.tmp 17) (.tmp 26) rfl P w.heap.size (.slice sa q sc) ((l.take j).flatten.take many) (r.take d) ao' d cap' rfl rfl HI.out.1 (HRB.out.take (by omega)) (by rw [HQ.out]; have := HND.out; omega) HI.out.2.size ?_; intro v' w' hgb hkp))
        rw [HS.out] at hgb
        have HGB := Lib.hid hgb
        have HKP : Hid (Keep (fun _ => False) w w') := HI.out.2.trans' hkp (fun i hi e => by have := (HI.out.1.lt e).1; omega)
        clear hgb hkp
        go_wp2_with fail
        go_roundw
        case rel => exact ⟨j + 1, by have := HLT.out; omega, by go_num, HGB.out, HKP.out⟩
        case measure => have := HLT.out; simp [intOf]; omega
      · rw [show min n' d = n' by omega] at HS
        have d1 : (n' : Int) ≤ (d : Int) := by omega
        have d2 : ¬ d < n' := hdn
        have d4 : (n' : Int) ≤ (cap' : Int) := by omega
        clear hdn
        go_wp2_with (first
          | (at_builtin; refine wpl_appb wo rfl (.tmp 17) (.tmp 26) rfl P w.heap.size (.slice sa q sc) ((l.take j).flatten.take many) (r.take n') ao' n' cap' rfl rfl HI.out.1 (HRB.out.take (by omega)) (by rw [HQ.out]; have := HND.out; omega) HI.out.2.size ?_; intro v' w' hgb hkp))
        rw [HS.out] at hgb
        have HGB := Lib.hid hgb
        have HKP : Hid (Keep (fun _ => False) w w') := HI.out.2.trans' hkp (fun i hi e => by have := (HI.out.1.lt e).1; omega)
        clear hgb hkp
        go_wp2_with fail
        go_roundw
        case rel => exact ⟨j + 1, by have := HLT.out; omega, by go_num, HGB.out, HKP.out⟩
        case measure => have := HLT.out; simp [intOf]; omega
    · have hjn : (n : Int) ≤ (j : Int) := by omega
      have hje : j = n := by omega
      rw [hje, show l.take n = l from List.take_of_length_le (by rw [HR.out.len]; omega)] at HI
      clear hje hlt hj
      obtain ⟨sa, sc, rfl⟩ := HI.out.1.form
      obtain ⟨q, hq⟩ : ∃ q, (l.flatten.take many).length = q := ⟨_, rfl⟩
      have HQ := Lib.hid hq
      rw [hq] at HI ⊢
      clear hq
      by_cases hlm : l.flatten.length < many
      · have q1 : (q : Int) < (many : Int) := by have h := HQ.out; rw [List.length_take] at h; omega
        have q2 : q < many := by omega
        have HLM := Lib.hid hlm
        clear hlm
        go_wp2_with fail
        go_ret2
        exact ⟨by unfold JoinEnd; rw [if_pos HLM.out]; rfl, HI.out.2⟩
      · have q1 : (many : Int) ≤ (q : Int) := by have h := HQ.out; rw [List.length_take] at h; omega
        have q2 : ¬ q < many := by omega
        have HLM := Lib.hid hlm
        clear hlm
        go_wp2_with fail
        go_ret2
        exact ⟨by unfold JoinEnd; rw [if_neg HLM.out]; exact ⟨_, rfl, HI.out.1⟩, HI.out.2⟩
end Go.Proofs.Ytegecjilpmkamaa
