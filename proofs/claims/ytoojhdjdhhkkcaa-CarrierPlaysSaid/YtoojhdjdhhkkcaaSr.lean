/-
  Lists of texts in memory; the walks of slices.Clone, slices.Delete (one element) and of the law's own comparison.
-/
import Derived.Test.YtoojhdjdhhkkcaaWd
import Derived.Lib.SliceRun
import Derived.StillTailTactics
import Derived.Deep.QuietTactic
import Derived.BigQuiet
import Derived.Deep.DeepCutAuto
namespace Go.Proofs.Ytoojhdjdhhkkcaa
open Go.RowKit

/-- Texts, as cells hold them. -/
abbrev tv (xs : List ByteArray) : List Value := xs.map Value.string

/-- An own slice of texts. -/
def Os (N : Nat) (w : World) (v : Value) (xs : List ByteArray) : Prop := w.ownsRow N 9 1 v xs.length (tv xs)
/-- A slice that reads as texts. -/
def Rs (P : Nat → Prop) (w : World) (ao : Option Addr) (n : Nat) (xs : List ByteArray) : Prop := Rv P w ao n (tv xs)

theorem Rs.len {P : Nat → Prop} {w : World} {ao : Option Addr} {n : Nat} {xs : List ByteArray} (h : Rs P w ao n xs) : xs.length = n := by have := h.1; simpa using this
theorem Rs.at_ {P : Nat → Prop} {w : World} {ao : Option Addr} {n k : Nat} {xs : List ByteArray} (h : Rs P w ao n xs) (hk : k < n) : ∃ b o s, ao = some ⟨b, o, none⟩ ∧ P b ∧ xs[k]? = some s ∧ w.cell? ⟨b, o + k, none⟩ = some (.string s) := by
  obtain ⟨b, o, u, e, hP, hu, hc⟩ := Rv.at_ h hk
  rw [List.getElem?_map] at hu
  cases hx : xs[k]? with
  | none => rw [hx] at hu; cases hu
  | some s =>
    rw [hx] at hu
    cases hu
    exact ⟨b, o, s, e, hP, rfl, hc⟩
theorem Rs.keep {P S : Nat → Prop} {w w' : World} {ao : Option Addr} {n : Nat} {xs : List ByteArray} (h : Rs P w ao n xs) (hk : Keep S w w') (hs : ∀ b, b < w.heap.size → P b → ¬ S b) : Rs P w' ao n xs := Rv.keep h hk hs
theorem Rs.mono {P Q : Nat → Prop} {w : World} {ao : Option Addr} {n : Nat} {xs : List ByteArray} (h : Rs P w ao n xs) (hs : ∀ b, b < w.heap.size → P b → Q b) : Rs Q w ao n xs := Rv.mono h hs
theorem Rs.drewN {P : Nat → Prop} {w : World} {ao : Option Addr} {n : Nat} {xs : List ByteArray} (h : Rs P w ao n xs) (m : Nat) : Rs P (w.drewN m) ao n xs := h
theorem Rs.take {P : Nat → Prop} {w : World} {ao : Option Addr} {n m : Nat} {xs : List ByteArray} (h : Rs P w ao n xs) (hm : m ≤ n) : Rs P w ao m (xs.take m) := by
  have := Rv.take h hm
  rwa [← List.map_take] at this
theorem Rs.drop {P : Nat → Prop} {w : World} {b o n m : Nat} {xs : List ByteArray} (h : Rs P w (some ⟨b, o, none⟩) n xs) (hm : m ≤ n) : Rs P w (some ⟨b, o + m, none⟩) (n - m) (xs.drop m) := by
  refine ⟨by rw [List.length_map, List.length_drop, h.len], fun hn => ?_⟩
  obtain ⟨b', o', e, hP, hc⟩ := h.2 (by omega)
  cases e
  refine ⟨b, o + m, rfl, hP, fun i u hu => ?_⟩
  rw [show tv (xs.drop m) = (tv xs).drop m from List.map_drop, List.getElem?_drop] at hu
  rw [Nat.add_assoc]
  exact hc _ u hu

theorem Os.nil (N : Nat) (w : World) : Os N w (.slice none 0 0) [] := World.ownsRow_nil w N 9 1
theorem Os.empty (N : Nat) (w : World) (h : N ≤ w.heap.size) : Os N (w.alloc (.cells #[] 9)) (.slice (some ⟨w.heap.size, 0, none⟩) 0 0) [] :=
  ⟨rfl, .inr ⟨w.heap.size, 0, #[], rfl, h, Blk.new w 9 #[], Nat.le_refl _, by unfold maxLen; omega, rfl, rfl⟩⟩
theorem Os.lt {N : Nat} {w : World} {v : Value} {xs : List ByteArray} (h : Os N w v xs) {b : Nat} (hb : v.ownBlock = some b) : N ≤ b ∧ b < w.heap.size := World.ownsRow.lt h b hb
theorem Os.keep {S : Nat → Prop} {N : Nat} {w w' : World} {v : Value} {xs : List ByteArray} (h : Os N w v xs) (hk : Keep S w w') (hv : ∀ b, v.ownBlock = some b → ¬ S b) : Os N w' v xs := by
  refine ⟨h.1, ?_⟩
  rcases h.2 with h3 | ⟨g, cap, cur, rfl, h4, h5, h6⟩
  · exact .inl h3
  · exact .inr ⟨g, cap, cur, rfl, h4, (Blk.keep (w := w) (w' := w') h5 hk (hv g rfl)), h6⟩
theorem Os.old {N M : Nat} {w : World} {v : Value} {xs : List ByteArray} (h : Os N w v xs) (hM : M ≤ N) : Os M w v xs := by
  refine ⟨h.1, ?_⟩
  rcases h.2 with h3 | ⟨g, cap, cur, rfl, h4, h5, h6⟩
  · exact .inl h3
  · exact .inr ⟨g, cap, cur, rfl, Nat.le_trans hM h4, h5, h6⟩
theorem Os.form {N : Nat} {w : World} {v : Value} {xs : List ByteArray} (h : Os N w v xs) : ∃ ao cap, v = .slice ao xs.length cap ∧ xs.length ≤ cap ∧ cap ≤ maxLen ∧ Rs (fun b => N ≤ b ∧ v.ownBlock = some b) w ao xs.length xs := by
  rcases h.2 with ⟨rfl, h4⟩ | ⟨g, cap, cur, rfl, h4, h5, h6, h7, h8, h9⟩
  · have hx : xs = [] := List.length_eq_zero_iff.1 h4
    subst hx
    exact ⟨none, 0, rfl, Nat.le_refl _, Nat.zero_le _, Rv.nil w none⟩
  · refine ⟨_, cap, rfl, h6, h7, ⟨by simp, fun _ => ⟨g, 0, rfl, ⟨h4, rfl⟩, fun i u hu => ?_⟩⟩⟩
    have h10 : Blk w g 9 cur := h5
    rw [Nat.zero_add, h10.cell]
    rw [Nat.mul_one] at h9
    rw [← h9, List.getElem?_take] at hu
    split at hu
    · rw [← Array.getElem?_toList]
      exact hu
    · cases hu
/-- An own slice that holds something: its block. -/
theorem Os.blk {N : Nat} {w : World} {v : Value} {xs : List ByteArray} (h : Os N w v xs) (h0 : 0 < xs.length) : ∃ g cap cur, v = .slice (some ⟨g, 0, none⟩) xs.length cap ∧ N ≤ g ∧ Blk w g 9 cur ∧ xs.length ≤ cap ∧ cap ≤ maxLen ∧ cur.size = cap ∧ cur.toList.take xs.length = tv xs := by
  rcases h.2 with ⟨_, h4⟩ | ⟨g, cap, cur, e, h4, h5, h6, h7, h8, h9⟩
  · omega
  · exact ⟨g, cap, cur, e, h4, h5, h6, h7, by rw [h8, Nat.mul_one], by rw [Nat.mul_one] at h9; exact h9⟩
theorem Os.of {N : Nat} {w : World} {g n cap : Nat} {cur : Array Value} {xs : List ByteArray} (hN : N ≤ g) (h : Blk w g 9 cur) (hn : xs.length = n) (hc : n ≤ cap) (hm : cap ≤ maxLen) (hs : cur.size = cap) (ht : cur.toList.take n = tv xs) : Os N w (.slice (some ⟨g, 0, none⟩) n cap) xs := by
  subst hn
  exact ⟨by rw [List.length_map, Nat.mul_one], .inr ⟨g, cap, cur, rfl, hN, h, hc, hm, by rw [hs, Nat.mul_one], by rw [Nat.mul_one]; exact ht⟩⟩

theorem info9 : (Try.prog.info? 9).map (fun i => (i.zero, i.size, i.bytes)) = some (some (.string ⟨#[]⟩), 1, 16) := by kernel_rfl

theorem parts_info {t : TypeId} {z : Value} {s b : Nat} (h : (Try.prog.info? t).map (fun i => (i.zero, i.size, i.bytes)) = some (some z, s, b)) : ∃ i, Try.prog.info? t = some i ∧ i.zero = some z ∧ i.size = s ∧ i.bytes = b := by
  cases hi : Try.prog.info? t with
  | none => rw [hi] at h; cases h
  | some i =>
    rw [hi] at h
    simp only [Option.map_some, Option.some.injEq, Prod.mk.injEq] at h
    exact ⟨i, rfl, h.1, h.2.1, h.2.2⟩

theorem texts_one {xs : List ByteArray} : ∀ u ∈ tv xs, u.oneCell' = true := by
  intro u hu
  obtain ⟨x, _, rfl⟩ := List.mem_map.1 hu
  rfl

/-- Texts are appended to own texts. -/
theorem wpl_apps (w : World) {ops : Array Oper} {rest : List Oper} {o : Oper} {a : Act} {Q : Exit → Act → World → Prop} (hgd : o.guard = none) (s x : Operand)
    (ho : o.op = .call { callee := .builtin .append, args := #[s, x], argTypes := #[28, 28] })
    (R : Nat → Prop) (N : Nat) (v : Value) (xs ys : List ByteArray) (A : Option Addr) (k c : Nat) (hs : a.eval s = v) (hx : a.eval x = .slice A k c)
    (hown : Os N w v xs) (hr : Rs R w A k ys) (hlen : xs.length + k ≤ 1000000) (hN : N ≤ w.heap.size)
    (h : ∀ v' w', Os N w' v' (xs ++ ys) → Keep (fun b => v.ownBlock = some b) w w' → (v'.ownBlock = v.ownBlock ∨ v'.ownBlock = some w.heap.size) → wpList Try.prog ops Q rest (a.put o.dst v') w') :
    wpList Try.prog ops Q (o :: rest) a w := by
  obtain ⟨i0, hi0, hz0, hz1, hz2⟩ := parts_info info9
  refine wpl_append w hgd s x 28 ho N 9 i0 (.string ⟨#[]⟩) 16 Try.underlying28 hi0 hz0 hz1 hz2 rfl v xs.length (tv xs) hs hown R A k c (tv ys) hx hr texts_one (by unfold maxLen; omega) (by omega) hN (fun v' w' g1 g2 _ g4 => h v' w' ?_ ?_ g4)
  · unfold Os
    rw [List.length_append, hr.len]
    unfold tv
    rw [List.map_append]
    exact g1
  · exact (Keep.refl (fun b => v.ownBlock = some b) _).grown g2 (fun k hk _ => hk)

/-- One text is appended: 'append(out, s)'. -/
theorem wpl_apps1 (wp : World) {ops : Array Oper} {rest : List Oper} {o : Oper} {a : Act} {Q : Exit → Act → World → Prop} (hgd : o.guard = none) (s x : Operand)
    (ho : o.op = .call { callee := .builtin .append, args := #[s, x], argTypes := #[28, 28] })
    (N : Nat) (v : Value) (xs : List ByteArray) (y : ByteArray) (g : Nat) (hs : a.eval s = v) (hx : a.eval x = .slice (some ⟨g, 0, none⟩) 1 1) (hg : g = wp.heap.size)
    (hown : Os N wp v xs) (hlen : xs.length + 1 ≤ 1000000) (hN : N ≤ wp.heap.size)
    (h : ∀ v' w', Os N w' v' (xs ++ [y]) → Keep (fun b => v.ownBlock = some b) wp w' → (∀ b, v'.ownBlock = some b → v.ownBlock = some b ∨ wp.heap.size ≤ b) → wpList Try.prog ops Q rest (a.put o.dst v') w') :
    wpList Try.prog ops Q (o :: rest) a (wp.alloc (.cells #[.string y] 9)) := by
  subst hg
  have hk : Keep (fun _ => False) wp (wp.alloc (.cells #[.string y] 9)) := (Keep.refl _ wp).alloc _
  have hb := Blk.new wp 9 #[.string y]
  refine wpl_apps (wp.alloc (.cells #[.string y] 9)) hgd s x ho (fun _ => True) N v xs [y] (some ⟨wp.heap.size, 0, none⟩) 1 1 hs hx (hown.keep hk (fun _ _ => id)) ⟨rfl, fun _ => ⟨wp.heap.size, 0, rfl, trivial, fun i q hq => ?_⟩⟩ hlen (Nat.le_trans hN hk.size) (fun v' w' g1 g2 g4 => h v' w' g1 ((hk.mono (fun _ _ h => h.elim)).trans g2) (fun b hb => by
    rcases g4 with g4 | g4
    · exact .inl (by rw [← g4]; exact hb)
    · rw [g4] at hb
      cases hb
      exact .inr hk.size))
  rw [Nat.zero_add, hb.cell, List.getElem?_toArray]
  exact hq

theorem eql_nil (w : World) (a : Option Addr) (n c : Nat) : (binOp .eql 28 (.slice a n c) (.slice none 0 0)).run Try.prog w = .ok (.bool a.isNone) w :=
  Lib.run_eql_slice_nil (P := Try.prog) w 28 9 a n c 0 0 Try.underlying28

set_option maxRecDepth 100000 in
set_option maxHeartbeats 4000000 in
theorem clone_any (P : Nat → Prop) (ao : Option Addr) (n cap : Nat) (xs : List ByteArray) (w : World) (hr : Rs P w ao n xs) (hn : n ≤ 1000000) :
    Calls Try.prog 21 #[.slice ao n cap] w fun e w' => ∃ v, e = .returned v ∧ Os w.heap.size w' v xs ∧ Keep (fun _ => False) w w' := by
  have HR := Lib.hid hr
  have hnl := eql_nil
  cases ao with
  | none =>
    have HX : Hid (xs = []) := by
      show xs = []
      by_cases h0 : 0 < n
      · obtain ⟨b, o, e, _⟩ := hr.2 h0
        cases e
      · exact List.length_eq_zero_iff.1 (by rw [hr.len]; omega)
    clear hr
    go_enter Try.func21, Try.ntmps21
    go_wp2_with fail
    go_ret
    exact ⟨_, rfl, by rw [HX.out]; exact Os.nil _ _, Keep.refl _ _⟩
  | some a =>
    clear hr
    have HR1 : Hid (Rs P (w.alloc (.cells #[] 9)) (some a) n xs) := HR.out.keep ((Keep.refl (fun _ => False) w).alloc _) (fun _ _ _ => id)
    go_enter Try.func21, Try.ntmps21
    go_wp2_with (first
      | (at_builtin; refine wpl_apps _ rfl (.tmp 5) (.tmp 6) rfl P w.heap.size (.slice (some ⟨w.heap.size, 0, none⟩) 0 0) [] xs (some a) n cap rfl rfl (Os.empty _ w (Nat.le_refl _)) HR1.out (by simp; omega) (by simp) ?_; intro v' w' hos hkp _))
    have HO := Lib.hid hos
    have HK : Hid (Keep (fun _ => False) w w') := ((Keep.refl (fun _ => False) w).alloc _).trans' hkp (fun i hi e => by have h9 : w.heap.size = i := Option.some.inj e; omega)
    clear hos hkp
    go_wp2_with fail
    go_ret
    exact ⟨_, rfl, HO.out, HK.out⟩

theorem zero9 (w : World) : (zeroValue 9).run Try.prog w = .ok (.string ⟨#[]⟩) w := by
  obtain ⟨i0, hi0, hz0, _, _⟩ := parts_info info9
  simp [zeroValue, typeInfo, hi0, hz0]

theorem setCells_one (w : World) (g o : Nat) (z : Value) : w.setCells g o (List.replicate 1 z) = w.setCell ⟨g, o, none⟩ z := rfl

/-- An append whose run is known. -/
theorem wpl_apprun (w : World) {ops : Array Oper} {rest : List Oper} {o : Oper} {a : Act} {Q : Exit → Act → World → Prop} (hgd : o.guard = none) (s x : Operand)
    (ho : o.op = .call { callee := .builtin .append, args := #[s, x], argTypes := #[28, 28] }) (u v r : Value) (w' : World) (hs : a.eval s = u) (hx : a.eval x = v)
    (hrun : (Builtin.append_ #[28, 28] o.type #[u, v]).run Try.prog w = .ok r w') (h : wpList Try.prog ops Q rest (a.put o.dst r) w') :
    wpList Try.prog ops Q (o :: rest) a w := by
  refine wpList_plain hgd fun K hK => ?_
  unfold Oper.wp execOp
  simp only [ho, resolve, invoke, builtin, Sem.run_bind, Sem.run_pure, Result.andThen_ok, List.map_toArray, List.map_cons, List.map_nil, hs, hx, hrun]
  exact hK _ _ h

theorem del_run (w : World) (ty : TypeId) (g n cap i r c : Nat) (cur : Array Value) (xs : List ByteArray) (A : Addr) (hb : Blk w g 9 cur) (hl : xs.length = n) (hi : i + 1 + r = n) (hc : n ≤ cap) (hs : cur.size = cap) (ht : cur.toList.take n = tv xs)
    (hA : ∀ (j : Nat) (u : Value), (tv (xs.drop (i + 1)))[j]? = some u → w.cell? (A.add j) = some u) :
    ∃ w2 cur2, (Builtin.append_ #[28, 28] ty #[.slice (some ⟨g, 0, none⟩) i cap, .slice (some A) r c]).run Try.prog w = .ok (.slice (some ⟨g, 0, none⟩) (i + r) cap) w2 ∧ Blk w2 g 9 cur2 ∧ cur2.size = cap ∧ cur2.toList.take (i + r) = tv (xs.eraseIdx i) ∧ Keep (· = g) w w2 := by
  obtain ⟨i0, hi0, hz0, hz1, hz2⟩ := parts_info info9
  have h := run_append_room (P := Try.prog) w 28 ty 9 i0 Try.underlying28 hi0 g i cap cur hb A r c (tv (xs.drop (i + 1))) (by rw [hz1, List.length_map, List.length_drop, hl]; omega) hA texts_one (by omega) (by rw [hz1, List.length_map, List.length_drop, hl, hs]; omega)
  rw [hz1, Nat.mul_one] at h
  have hlen : (tv (xs.drop (i + 1))).length = r := by rw [List.length_map, List.length_drop, hl]; omega
  refine ⟨_, _, h, setRow_heap w g _ _ 9 _ hb, ?_, ?_, ⟨rfl, rfl, rfl, by simp [World.setRow], fun k _ hk => setRow_other w g k _ hk⟩⟩
  · rw [List.size_toArray, List.length_append, List.length_append, hlen, List.length_take, List.length_drop, Array.length_toList, hs]
    omega
  · have h1 : cur.toList.take i = tv (xs.take i) := by
      rw [show tv (xs.take i) = (tv xs).take i from List.map_take, ← ht, List.take_take, Nat.min_eq_left (by omega)]
    have h2 : (tv (xs.take i) ++ tv (xs.drop (i + 1))).length = i + r := by
      rw [List.length_append, hlen, List.length_map, List.length_take, hl]
      omega
    show (cur.toList.take i ++ tv (xs.drop (i + 1)) ++ _).take (i + r) = _
    rw [h1, ← h2, List.take_left, List.eraseIdx_eq_take_drop_succ]
    exact List.map_append.symm

set_option maxRecDepth 100000 in
set_option maxHeartbeats 8000000 in
theorem delete_any (N g n cap i : Nat) (xs : List ByteArray) (w : World) (h : Os N w (.slice (some ⟨g, 0, none⟩) n cap) xs) (hl : xs.length = n) (hi : i < n) (hn : n ≤ 1000000) :
    Calls Try.prog 20 #[.slice (some ⟨g, 0, none⟩) n cap, .int .i64 (i : Int), .int .i64 ((i : Int) + 1)] w fun e w' => ∃ v, e = .returned v ∧ Os N w' v (xs.eraseIdx i) ∧ Keep (· = g) w w' ∧ v.ownBlock = some g := by
  obtain ⟨g', cap', cur, e, hN, hb, hc, hm, hs, ht⟩ := h.blk (by omega)
  rw [hl] at e
  cases e
  rw [hl] at hc ht
  obtain ⟨r, hr⟩ : ∃ r, n - (i + 1) = r := ⟨_, rfl⟩
  obtain ⟨n1, hn1⟩ : ∃ n1, i + r = n1 := ⟨_, rfl⟩
  have HF : Hid (xs.length = n ∧ N ≤ g ∧ n ≤ cap ∧ cap ≤ maxLen ∧ n1 + 1 = n) := ⟨hl, hN, hc, hm, by omega⟩
  have HE : Hid ((xs.eraseIdx i).length = n1) := by show (xs.eraseIdx i).length = n1; rw [List.length_eraseIdx_of_lt (by omega)]; omega
  have i0 : (0 : Int) ≤ (i : Int) := by omega
  have i1 : (i : Int) + 1 ≤ (n : Int) := by omega
  have i2 : (i : Int) ≤ (i : Int) + 1 := by omega
  have i8 : (0 : Int) ≤ (i : Int) + 1 := by omega
  have i3 : (n : Int) ≤ (cap : Int) := by omega
  have i4 : (i : Int) ≤ (cap : Int) := by omega
  have i5 : ((i : Int) == (i : Int) + 1) = false := by rw [beq_eq_false_iff_ne]; omega
  have i6 : ((i : Int) + 1).toNat = i + 1 := by omega
  have i7 : (i : Int) + 1 ≤ (cap : Int) := by omega
  have c1 : i ≤ cap := by omega
  have c2 : n1 ≤ n := by omega
  have c3 : (n1 : Int) ≤ (n : Int) := by omega
  have c4 : ¬ cap = n1 := by omega
  have c5 : n - n1 = 1 := by omega
  have c6 : ¬ cap = 0 := by omega
  have hA : ∀ (j : Nat) (u : Value), (tv (xs.drop (i + 1)))[j]? = some u → w.drew.cell? ((⟨g, i + 1, none⟩ : Addr).add j) = some u := by
    intro j u hu
    rw [Go.WideShapes.add_plain]
    have h9 := hb.drew.cell (i + 1 + j)
    rw [h9]
    rw [show tv (xs.drop (i + 1)) = (tv xs).drop (i + 1) from List.map_drop, List.getElem?_drop, ← ht, List.getElem?_take] at hu
    split at hu
    · rw [← Array.getElem?_toList]; exact hu
    · cases hu
  by_cases hcap : cap = i + 1
  · have hn2 : n = i + 1 := by omega
    have hr0 : r = 0 := by omega
    have hni : n1 = i := by omega
    subst hr0
    subst hn2
    subst hni
    subst hcap
    have hx : xs.drop (n1 + 1) = [] := List.drop_of_length_le (by omega)
    obtain ⟨w2, cur2, hrun, hb2, hs2, ht2, hk2⟩ := del_run w.drew 28 g (n1 + 1) (n1 + 1) n1 0 0 cur xs ⟨g, 0, none⟩ hb.drew hl (by omega) (by omega) hs ht (fun j u hu => by rw [hx] at hu; simp at hu)
    have hcl : ∀ ty, (Builtin.clear_ #[28] ty #[.slice (some ⟨g, n1, none⟩) 1 1]).run Try.prog w2 = .ok (.tuple #[]) (w2.setCell ⟨g, n1, none⟩ (.string ⟨#[]⟩)) :=
      fun ty => Lib.run_clear_slice w2 28 9 ty (.string ⟨#[]⟩) Try.underlying28 zero9 rfl rfl g n1 1 1 (by omega) (fun x hx => by
        rw [hb2.cell, Array.getElem?_eq_getElem (by omega)]
        rfl) (fun x _ => hb2.frozen _)
    rw [Nat.add_zero] at hrun ht2
    have HO : Hid (Os N (w2.setCell ⟨g, n1, none⟩ (.string ⟨#[]⟩)) (.slice (some ⟨g, 0, none⟩) n1 (n1 + 1)) (xs.eraseIdx n1)) := by
      refine Os.of hN (hb2.set_ n1 _) HE.out (by omega) hm (by simpa using hs2) ?_
      rw [← ht2]
      apply List.ext_getElem?
      intro q
      rw [List.getElem?_take, List.getElem?_take]
      split
      · rw [Array.getElem?_toList, Array.getElem?_toList, Array.getElem?_setIfInBounds_ne (by omega)]
      · rfl
    have HK : Hid (Keep (· = g) w (w2.setCell ⟨g, n1, none⟩ (.string ⟨#[]⟩))) := (((Keep.refl (· = g) w).drew).trans hk2).setCell (p := ⟨g, n1, none⟩) (fun _ => rfl) _
    have HRUN := Lib.hid hrun
    clear h hb hs ht hb2 hs2 ht2 hk2 hA hl hN hm hrun
    go_enter Try.func20, Try.ntmps20
    go_wp2_with fail
    go_still_tail 6, (by kernel_rfl)
    change wpList _ _ _ _ _ w.drew
    go_wp2_with (first
      | (at_builtin; refine wpl_apprun w.drew rfl (.tmp 22) (.tmp 25) rfl _ _ _ w2 rfl rfl HRUN.out ?_))
    go_ret
    exact ⟨_, rfl, HO.out, HK.out, rfl⟩
  · obtain ⟨w2, cur2, hrun, hb2, hs2, ht2, hk2⟩ := del_run w.drew 28 g n cap i r (cap - (i + 1)) cur xs ⟨g, i + 1, none⟩ hb.drew hl (by omega) hc hs ht hA
    have hcl : ∀ ty, (Builtin.clear_ #[28] ty #[.slice (some ⟨g, n1, none⟩) 1 (cap - n1)]).run Try.prog w2 = .ok (.tuple #[]) (w2.setCell ⟨g, n1, none⟩ (.string ⟨#[]⟩)) :=
      fun ty => Lib.run_clear_slice w2 28 9 ty (.string ⟨#[]⟩) Try.underlying28 zero9 rfl rfl g n1 1 (cap - n1) (by omega) (fun x hx => by
        rw [hb2.cell, Array.getElem?_eq_getElem (by omega)]
        rfl) (fun x _ => hb2.frozen _)
    rw [hn1] at hrun ht2
    have HO : Hid (Os N (w2.setCell ⟨g, n1, none⟩ (.string ⟨#[]⟩)) (.slice (some ⟨g, 0, none⟩) n1 cap) (xs.eraseIdx i)) := by
      refine Os.of hN (hb2.set_ n1 _) HE.out (by omega) hm (by simpa using hs2) ?_
      rw [← ht2]
      apply List.ext_getElem?
      intro q
      rw [List.getElem?_take, List.getElem?_take]
      split
      · rw [Array.getElem?_toList, Array.getElem?_toList, Array.getElem?_setIfInBounds_ne (by omega)]
      · rfl
    have HK : Hid (Keep (· = g) w (w2.setCell ⟨g, n1, none⟩ (.string ⟨#[]⟩))) := (((Keep.refl (· = g) w).drew).trans hk2).setCell (p := ⟨g, n1, none⟩) (fun _ => rfl) _
    have HRUN := Lib.hid hrun
    clear h hb hs ht hb2 hs2 ht2 hk2 hA hl hN hm hrun
    go_enter Try.func20, Try.ntmps20
    go_wp2_with fail
    go_still_tail 6, (by kernel_rfl)
    change wpList _ _ _ _ _ w.drew
    go_wp2_with (first
      | (at_builtin; refine wpl_apprun w.drew rfl (.tmp 22) (.tmp 25) rfl _ _ _ w2 rfl rfl HRUN.out ?_))
    go_ret
    exact ⟨_, rfl, HO.out, HK.out, rfl⟩
end Go.Proofs.Ytoojhdjdhhkkcaa
