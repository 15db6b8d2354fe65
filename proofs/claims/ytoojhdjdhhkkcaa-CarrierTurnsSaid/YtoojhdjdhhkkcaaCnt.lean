/-
  Plain: how often a text stands in a list; turning changes that of none.
-/
import Derived.Test.YtoojhdjdhhkkcaaMp
import Derived.Test.YtoojhdjdhhkkcaaSpo
namespace Go.Proofs.Ytoojhdjdhhkkcaa
open Go.RowKit

/-- How often a text stands in a list. -/
def cnt (l : List ByteArray) (s : ByteArray) : Nat := (l.filter (fun t => decide (t = s))).length

theorem cnt_append (l m : List ByteArray) (s : ByteArray) : cnt (l ++ m) s = cnt l s + cnt m s := by simp [cnt]
theorem cnt_one (t s : ByteArray) : cnt [t] s = if s = t then 1 else 0 := by
  unfold cnt
  by_cases h : t = s
  · simp [h]
  · have h' : ¬ s = t := fun e => h e.symm
    simp [h, h']
theorem cnt_le (l : List ByteArray) (s : ByteArray) : cnt l s ≤ l.length := List.length_filter_le _ _
theorem cnt_step {l : List ByteArray} {j : Nat} {t : ByteArray} (h : l[j]? = some t) (s : ByteArray) : cnt (l.take (j + 1)) s = cnt (l.take j) s + if s = t then 1 else 0 := by
  rw [List.take_add_one, h, Option.toList_some, cnt_append, cnt_one]
theorem cnt_split (l : List ByteArray) (j : Nat) (s : ByteArray) : cnt (l.take j) s + cnt (l.drop j) s = cnt l s := by
  rw [← cnt_append, List.take_append_drop]
theorem cnt_mem {l : List ByteArray} {s : ByteArray} (h : s ∈ l) : 1 ≤ cnt l s := by
  unfold cnt
  exact List.length_pos_of_mem (List.mem_filter.2 ⟨h, decide_eq_true rfl⟩)
theorem cnt_erase {xs : List ByteArray} {i : Nat} {x : ByteArray} (h : xs[i]? = some x) (s : ByteArray) : cnt (xs.eraseIdx i) s + (if s = x then 1 else 0) = cnt xs s := by
  obtain ⟨hl, e⟩ := List.getElem?_eq_some_iff.1 h
  rw [List.eraseIdx_eq_take_drop_succ, cnt_append]
  have h1 := cnt_split xs i s
  have h2 : xs.drop i = [x] ++ xs.drop (i + 1) := by rw [List.drop_eq_getElem_cons hl, e]; rfl
  rw [h2, cnt_append, cnt_one] at h1
  omega

theorem cnt_turn : ∀ (l : List Int) (xs : List ByteArray) (s : ByteArray), cnt (turnL l xs) s = cnt xs s := by
  intro l
  induction l with
  | nil => intro xs s; rfl
  | cons z l ih =>
    intro xs s
    rcases Nat.eq_zero_or_pos xs.length with h0 | h0
    · have : xs = [] := List.length_eq_zero_iff.1 h0
      subst this
      rfl
    · have hk : kOf z xs.length < xs.length := Nat.mod_lt _ h0
      obtain ⟨x, hx⟩ : ∃ x, xs[kOf z xs.length]? = some x := ⟨_, List.getElem?_eq_getElem hk⟩
      rw [turnL_step rfl hx]
      have h1 := cnt_erase hx s
      have h2 : cnt (x :: turnL l (xs.eraseIdx (kOf z xs.length))) s = cnt [x] s + cnt (turnL l (xs.eraseIdx (kOf z xs.length))) s := cnt_append [x] _ s
      rw [h2, ih, cnt_one]
      omega

theorem mem_turn : ∀ (l : List Int) (xs : List ByteArray) (s : ByteArray), s ∈ turnL l xs → s ∈ xs := by
  intro l xs s h
  have h1 := cnt_mem h
  rw [cnt_turn] at h1
  unfold cnt at h1
  obtain ⟨t, ht⟩ := List.exists_mem_of_length_pos h1
  obtain ⟨h2, h3⟩ := List.mem_filter.1 ht
  rw [← of_decide_eq_true h3]
  exact h2

theorem tot_le {xs : List ByteArray} (h : ∀ s ∈ xs, s.size ≤ 100) : tot xs ≤ 100 * xs.length := by
  induction xs with
  | nil => simp [tot]
  | cons x xs ih =>
    have h1 := h x List.mem_cons_self
    have h2 := ih (fun s hs => h s (List.mem_cons_of_mem _ hs))
    have h3 : tot (x :: xs) = x.size + tot xs := by simp [tot]
    rw [h3, List.length_cons]
    omega

theorem Cm.congr {w : World} {b n m : Nat} {f g : ByteArray → Int} (h : Cm w b n f) (e : ∀ s, f s = g s) (hn : n = m) : Cm w b m g := by
  have : f = g := funext e
  rw [← this, ← hn]
  exact h

theorem Cm.ne {w : World} {b n : Nat} {f : ByteArray → Int} (h : Cm w b n f) {g : Nat} {t : TypeId} {cs : Array Value} (hb : Blk w g t cs) : g ≠ b := by
  rintro rfl
  obtain ⟨D, ⟨es, clock, h1, _⟩, _⟩ := h
  have h2 : w.heap[g]? = some (.cells cs t (0, 0)) := hb
  rw [h2] at h1
  cases h1

theorem Cm.neo {w : World} {b n N : Nat} {f : ByteArray → Int} (h : Cm w b n f) {v : Value} {xs : List ByteArray} (ho : Os N w v xs) : v.ownBlock ≠ some b := by
  intro e
  rcases ho.2 with ⟨rfl, _⟩ | ⟨g, cap, cur, rfl, _, h5, _⟩
  · cases e
  · have h6 : Blk w g 9 cur := h5
    exact h.ne h6 (Option.some.inj e)

theorem Os.blk_text {N : Nat} {w : World} {v : Value} {xs : List ByteArray} (h : Os N w v xs) {i : Nat} {s : ByteArray} (hs : xs[i]? = some s) : ∃ g cap, v = .slice (some ⟨g, 0, none⟩) xs.length cap ∧ w.cell? ⟨g, i, none⟩ = some (.string s) ∧ w.frozen? ⟨g, i, none⟩ = false ∧ g < w.heap.size ∧ N ≤ g ∧ xs.length ≤ cap := by
  have hi : i < xs.length := (List.getElem?_eq_some_iff.1 hs).1
  obtain ⟨g, cap, cur, hv, hg, hb, hcap, hmx, hsz, htk⟩ := h.blk (by omega)
  refine ⟨g, cap, hv, ?_, hb.frozen i, hb.lt, hg, hcap⟩
  rw [hb.cell, ← Array.getElem?_toList]
  have h1 : (cur.toList.take xs.length)[i]? = some (.string s) := by rw [htk, List.getElem?_map, hs]; rfl
  rw [List.getElem?_take, if_pos hi] at h1
  exact h1

/-- The text that the law writes over. -/
def other : ByteArray := ⟨#[111, 116, 104, 101, 114]⟩
end Go.Proofs.Ytoojhdjdhhkkcaa
