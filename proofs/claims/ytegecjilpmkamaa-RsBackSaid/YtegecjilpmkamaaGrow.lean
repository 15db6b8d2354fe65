/-
  A matrix that grows row by row in own memory; the walks of the reference's One and Cauchy.
-/
import Derived.Test.YtegecjilpmkamaaOm
namespace Go.Proofs.Ytegecjilpmkamaa
open Go.RowKit Sb

/-- A slice of the call's own that holds rows; the rows lie in blocks that P lets, not in the slice's own. -/
def Gr (P : Nat → Prop) (N : Nat) (w : World) (v : Value) (m : List (List UInt8)) : Prop :=
  ∃ us, w.ownsRow N 33 1 v m.length us ∧ ∀ (i : Nat) (u : Value) (r : List UInt8), us[i]? = some u → m[i]? = some r → Bs (fun b => P b ∧ v.ownBlock ≠ some b) w u r

theorem Gr.nil (P : Nat → Prop) (N : Nat) (w : World) : Gr P N w (.slice none 0 0) [] := ⟨[], World.ownsRow_nil w N 33 1, fun i u r h => by simp at h⟩

theorem grown_of_keep {S : Nat → Prop} {w w' : World} (hk : Keep S w w') (row : Option Nat) (hs : ∀ k, k < w.heap.size → S k → some k = row) : w.grownBy w' row :=
  ⟨hk.os, hk.tape, hk.output, hk.size, fun k h1 h2 => hk.block k h1 (fun h => h2 (hs k h1 h))⟩

theorem Gr.keep {P S : Nat → Prop} {N : Nat} {w w' : World} {v : Value} {m : List (List UInt8)} (h : Gr P N w v m) (hk : Keep S w w') (hv : ∀ b, v.ownBlock = some b → ¬ S b) (hs : ∀ b, b < w.heap.size → P b → v.ownBlock ≠ some b → ¬ S b) : Gr P N w' v m := by
  obtain ⟨us, h1, h2⟩ := h
  refine ⟨us, ⟨h1.1, ?_⟩, fun i u r hu hr => (h2 i u r hu hr).keep hk (fun b hb hp => hs b hb hp.1 hp.2)⟩
  rcases h1.2 with h3 | ⟨g, cap, cur, rfl, h4, h5, h6⟩
  · exact .inl h3
  · exact .inr ⟨g, cap, cur, rfl, h4, (Blk.keep (w := w) (w' := w') h5 hk (hv g rfl)), h6⟩

theorem Gr.mono {P Q : Nat → Prop} {N : Nat} {w : World} {v : Value} {m : List (List UInt8)} (h : Gr P N w v m) (hs : ∀ b, b < w.heap.size → P b → Q b) : Gr Q N w v m := by
  obtain ⟨us, h1, h2⟩ := h
  exact ⟨us, h1, fun i u r hu hr => (h2 i u r hu hr).mono (fun b hb hp => ⟨hs b hb hp.1, hp.2⟩)⟩

theorem Gr.len {P : Nat → Prop} {N : Nat} {w : World} {v : Value} {m : List (List UInt8)} (h : Gr P N w v m) : ∃ ao cap, v = .slice ao m.length cap ∧ m.length ≤ cap ∧ cap ≤ maxLen := by
  obtain ⟨us, h1, h2⟩ := h
  rcases h1.2 with ⟨rfl, h4⟩ | ⟨g, cap, cur, rfl, h4, h5, h6, h7, _⟩
  · exact ⟨none, 0, by rw [h4], by omega, by unfold maxLen; omega⟩
  · exact ⟨_, cap, rfl, h6, h7⟩

theorem Gr.mv {P : Nat → Prop} {N : Nat} {w : World} {ao : Option Addr} {n cap : Nat} {m : List (List UInt8)} (h : Gr P N w (.slice ao n cap) m) : ∃ us, Mv (fun b => P b ∨ N ≤ b) w ao n us m := by
  obtain ⟨us, h1, h2⟩ := h
  have hul : us.length = m.length := by have := h1.1; omega
  rcases h1.2 with ⟨h3, h4⟩ | ⟨g, cap, cur, h3, h4, h5, h6, h7, h8, h9⟩
  · cases h3
    have hm : m = [] := List.length_eq_zero_iff.1 h4
    subst hm
    exact ⟨[], Mv.nil w none⟩
  · cases h3
    refine ⟨us, ⟨hul, fun _ => ⟨g, 0, rfl, .inr h4, fun i u hu => ?_⟩⟩, rfl, fun i u r hu hr => (h2 i u r hu hr).mono (fun b _ hp => .inl hp.1)⟩
    have h10 : Blk w g 33 cur := h5
    rw [Nat.zero_add, h10.cell]
    rw [Nat.mul_one] at h9
    rw [← h9, List.getElem?_take] at hu
    split at hu
    · rw [← Array.getElem?_toList]
      exact hu
    · cases hu

/-- The row of rows is grown by rows from anywhere. -/
theorem wpl_grow (w : World) {ops : Array Oper} {rest : List Oper} {o : Oper} {a : Act} {Q : Exit → Act → World → Prop} (hgd : o.guard = none) (s x : Operand) (t : TypeId) (ht : Try.prog.underlying t = some (.slice 33))
    (ho : o.op = .call { callee := .builtin .append, args := #[s, x], argTypes := #[t, t] })
    (P R : Nat → Prop) (N : Nat) (v : Value) (m : List (List UInt8)) (hs : a.eval s = v) (hown : Gr P N w v m)
    (A : Option Addr) (k c : Nat) (news : List Value) (rs : List (List UInt8)) (hx : a.eval x = .slice A k c) (hr : Rv R w A k news) (hl : rs.length = k)
    (hrows : ∀ (i : Nat) (u : Value) (r : List UInt8), news[i]? = some u → rs[i]? = some r → Bs (fun b => P b ∧ v.ownBlock ≠ some b) w u r)
    (hlen : m.length + k ≤ 100000) (hN : N ≤ w.heap.size)
    (h : ∀ v' w', Gr P N w' v' (m ++ rs) → Keep (fun b => v.ownBlock = some b) w w' → (∀ b, v'.ownBlock = some b → v.ownBlock = some b ∨ b = w.heap.size) → wpList Try.prog ops Q rest (a.put o.dst v') w') :
    wpList Try.prog ops Q (o :: rest) a w := by
  obtain ⟨us, h1, h2⟩ := hown
  obtain ⟨i0, hi0, hz0, hz1, hz2⟩ := info_parts info33
  have hnl : news.length = k := hr.1
  have h1c : ∀ u ∈ news, u.oneCell' = true := by
    intro u hu
    obtain ⟨i, hi, e⟩ := List.getElem_of_mem hu
    have hi' : i < rs.length := by omega
    obtain ⟨_, _, _, rfl, _⟩ := hrows i u _ (by rw [List.getElem?_eq_getElem hi, e]) (List.getElem?_eq_getElem hi')
    rfl
  refine wpl_append w hgd s x t ho N 33 i0 (.slice none 0 0) 24 ht hi0 hz0 hz1 hz2 rfl v m.length us hs h1 R A k c news hx hr h1c (by unfold maxLen; omega) (by omega) hN ?_
  intro v' w' g1 g2 g3 g4
  have hk : Keep (fun b => v.ownBlock = some b) w w' := (Keep.refl _ w).grown g2 (fun k hk _ => hk)
  have hvlt : ∀ b, v.ownBlock = some b → b < w.heap.size := fun b hb => (h1.lt b hb).2
  have hfr : ∀ b, b < w.heap.size → v.ownBlock ≠ some b → v'.ownBlock ≠ some b := by
    intro b hb hne
    rcases g4 with e | e
    · rw [e]; exact hne
    · rw [e]
      intro e2
      have := Option.some.inj e2
      omega
  refine h v' w' ⟨us ++ news, ?_, fun i u r hu hr2 => ?_⟩ hk (fun b hb => ?_)
  · rw [List.length_append, hl]
    exact g1
  · have hul : us.length = m.length := by have := h1.1; omega
    have hB : Bs (fun b => P b ∧ v.ownBlock ≠ some b) w u r := by
      rw [List.getElem?_append] at hu hr2
      by_cases hi : i < us.length
      · rw [if_pos hi] at hu
        rw [if_pos (by omega)] at hr2
        exact h2 i u r hu hr2
      · rw [if_neg hi] at hu
        rw [if_neg (by omega)] at hr2
        rw [hul] at hu
        exact hrows _ u r hu hr2
    have hB2 : Bs (fun b => P b ∧ v'.ownBlock ≠ some b) w u r := hB.mono (fun b hb hp => ⟨hp.1, hfr b hb hp.2⟩)
    obtain ⟨ao, n', cap', e, q1, q2, q3⟩ := hB
    refine ⟨ao, n', cap', e, q1, q2, ?_⟩
    have q4 := q3.keep hk (fun b _ hp e => hp.2 e)
    refine ⟨q4.1, fun hn => ?_⟩
    obtain ⟨b, o', e1, e2, e3⟩ := q4.2 hn
    obtain ⟨b', o2, e4, e5, e6⟩ := q3.2 hn
    rw [e1] at e4
    cases e4
    have hbl : b < w.heap.size := by
      have hpos : 0 < (r.map bv).length := by have := q3.1; omega
      exact World.block_lt_of_cell? w _ (e6 0 _ (List.getElem?_eq_getElem hpos))
    exact ⟨b, o', e1, ⟨e2.1, hfr b hbl e2.2⟩, e3⟩
  · rcases g4 with e | e
    · exact .inl (by rw [← e]; exact hb)
    · rw [e] at hb
      exact .inr (Option.some.inj hb).symm

/-- The row of rows is grown by one row: 'append(out, row)'. -/
theorem wpl_grow1 (wp : World) {ops : Array Oper} {rest : List Oper} {o : Oper} {a : Act} {Q : Exit → Act → World → Prop} (hgd : o.guard = none) (s x : Operand) (t : TypeId) (ht : Try.prog.underlying t = some (.slice 33))
    (ho : o.op = .call { callee := .builtin .append, args := #[s, x], argTypes := #[t, t] })
    (P : Nat → Prop) (N : Nat) (v u : Value) (m : List (List UInt8)) (r : List UInt8) (g : Nat) (hs : a.eval s = v) (hx : a.eval x = .slice (some ⟨g, 0, none⟩) 1 1) (hg : g = wp.heap.size)
    (hown : Gr P N wp v m) (hu : Bs (fun b => P b ∧ v.ownBlock ≠ some b) wp u r) (hlen : m.length + 1 ≤ 100000) (hN : N ≤ wp.heap.size)
    (h : ∀ v' w', Gr P N w' v' (m ++ [r]) → Keep (fun b => v.ownBlock = some b) wp w' → wpList Try.prog ops Q rest (a.put o.dst v') w') :
    wpList Try.prog ops Q (o :: rest) a (wp.alloc (.cells #[u] 33)) := by
  subst hg
  have hk : Keep (fun _ => False) wp (wp.alloc (.cells #[u] 33)) := (Keep.refl _ wp).alloc _
  have hb := Blk.new wp 33 #[u]
  refine wpl_grow (wp.alloc (.cells #[u] 33)) hgd s x t ht ho P (fun _ => True) N v m hs (hown.keep hk (fun _ _ => id) (fun _ _ _ _ => id)) (some ⟨wp.heap.size, 0, none⟩) 1 1 [u] [r] hx ⟨rfl, fun _ => ⟨wp.heap.size, 0, rfl, trivial, fun i q hq => ?_⟩⟩ rfl (fun i q y hq hy => ?_) hlen (Nat.le_trans hN hk.size) (fun v' w' g1 g2 _ => h v' w' g1 ?_)
  · rw [Nat.zero_add, hb.cell, List.getElem?_toArray]
    exact hq
  · cases i with
    | zero =>
      cases hq
      cases hy
      exact hu.keep hk (fun _ _ _ => id)
    | succ i => simp at hq
  · exact (hk.mono (fun _ _ h => h.elim)).trans g2

/-- A slice of bytes of the call's own, that may grow. -/
def Gb (N : Nat) (w : World) (v : Value) (xs : List UInt8) : Prop := w.ownsRow N 5 1 v xs.length (xs.map bv)

theorem Gb.nil (N : Nat) (w : World) : Gb N w (.slice none 0 0) [] := World.ownsRow_nil w N 5 1
theorem Gb.lt {N : Nat} {w : World} {v : Value} {xs : List UInt8} (h : Gb N w v xs) {b : Nat} (hb : v.ownBlock = some b) : N ≤ b ∧ b < w.heap.size := World.ownsRow.lt h b hb
theorem Gb.keep {S : Nat → Prop} {N : Nat} {w w' : World} {v : Value} {xs : List UInt8} (h : Gb N w v xs) (hk : Keep S w w') (hv : ∀ b, v.ownBlock = some b → ¬ S b) : Gb N w' v xs := by
  refine ⟨h.1, ?_⟩
  rcases h.2 with h3 | ⟨g, cap, cur, rfl, h4, h5, h6⟩
  · exact .inl h3
  · exact .inr ⟨g, cap, cur, rfl, h4, (Blk.keep (w := w) (w' := w') h5 hk (hv g rfl)), h6⟩
theorem Gb.bs {N : Nat} {w : World} {v : Value} {xs : List UInt8} (h : Gb N w v xs) : Bs (fun b => N ≤ b) w v xs := by
  rcases h.2 with ⟨rfl, h4⟩ | ⟨g, cap, cur, rfl, h4, h5, h6, h7, h8, h9⟩
  · have hx : xs = [] := List.length_eq_zero_iff.1 h4
    subst hx
    exact ⟨none, 0, 0, rfl, Nat.le_refl _, Nat.zero_le _, Rv.nil w none⟩
  · refine ⟨_, _, cap, rfl, h6, h7, ⟨by simp, fun _ => ⟨g, 0, rfl, h4, fun i u hu => ?_⟩⟩⟩
    have h10 : Blk w g 5 cur := h5
    rw [Nat.zero_add, h10.cell]
    rw [Nat.mul_one] at h9
    rw [← h9, List.getElem?_take] at hu
    split at hu
    · rw [← Array.getElem?_toList]
      exact hu
    · cases hu

theorem wpl_appb1 (wp : World) {ops : Array Oper} {rest : List Oper} {o : Oper} {a : Act} {Q : Exit → Act → World → Prop} (hgd : o.guard = none) (s x : Operand)
    (ho : o.op = .call { callee := .builtin .append, args := #[s, x], argTypes := #[33, 33] })
    (N : Nat) (v : Value) (xs : List UInt8) (y : UInt8) (g : Nat) (hs : a.eval s = v) (hx : a.eval x = .slice (some ⟨g, 0, none⟩) 1 1) (hg : g = wp.heap.size)
    (hown : Gb N wp v xs) (hlen : xs.length + 1 ≤ 140737488355328) (hN : N ≤ wp.heap.size)
    (h : ∀ v' w', Gb N w' v' (xs ++ [y]) → Keep (fun b => v.ownBlock = some b) wp w' → wpList Try.prog ops Q rest (a.put o.dst v') w') :
    wpList Try.prog ops Q (o :: rest) a (wp.alloc (.cells #[bv y] 5)) := by
  subst hg
  obtain ⟨i0, hi0, hz0, hz1, hz2⟩ := info_parts info5
  have hk : Keep (fun _ => False) wp (wp.alloc (.cells #[bv y] 5)) := (Keep.refl _ wp).alloc _
  have hb := Blk.new wp 5 #[bv y]
  refine wpl_append (wp.alloc (.cells #[bv y] 5)) hgd s x 33 ho N 5 i0 (.int .u8 0) 1 Try.underlying33 hi0 hz0 hz1 hz2 rfl v xs.length (xs.map bv) hs (hown.keep hk (fun _ _ => id)) (fun _ => True) (some ⟨wp.heap.size, 0, none⟩) 1 1 [bv y] hx ⟨rfl, fun _ => ⟨wp.heap.size, 0, rfl, trivial, fun i q hq => ?_⟩⟩ (fun u hu => ?_) (by unfold maxLen; omega) (by omega) (Nat.le_trans hN hk.size) (fun v' w' g1 g2 _ _ => h v' w' ?_ ?_)
  · rw [Nat.zero_add, hb.cell, List.getElem?_toArray]
    exact hq
  · rw [List.mem_singleton] at hu
    rw [hu]
    rfl
  · unfold Gb
    rw [List.length_append, List.map_append]
    exact g1
  · exact (hk.mono (fun _ _ h => h.elim)).trans ((Keep.refl (fun b => v.ownBlock = some b) _).grown g2 (fun k hk _ => hk))
end Go.Proofs.Ytegecjilpmkamaa
