/-
  How the play stands behind a spoilt byte.
-/
import Derived.Test.YtoojhdjdhhkkcaaPlp
namespace Go.Proofs.Ytoojhdjdhhkkcaa
open Go.RowKit

/-- The operation at a place of a region, as it is written out. -/
theorem take_at {ops : Array Oper} {i : Nat} {o : Oper} {l : List Oper} (h : ops.toList.drop i = o :: l) : ops[i]? = some o := by
  have h1 : (ops.toList.drop i)[0]? = some o := by rw [h]; rfl
  rw [List.getElem?_drop, Nat.add_zero] at h1
  rw [← Array.getElem?_toList]
  exact h1

theorem tot_set {xs : List ByteArray} {k : Nat} {s t : ByteArray} (h : xs[k]? = some s) (ht : t.size = s.size) : tot (xs.set k t) = tot xs := by
  induction xs generalizing k with
  | nil => simp at h
  | cons x xs ih =>
    cases k with
    | zero =>
      have e : x = s := by simpa using h
      subst e
      simp [tot, ht]
    | succ k =>
      have h1 := ih (k := k) (by simpa using h)
      show x.size + tot (xs.set k t) = x.size + tot xs
      rw [h1]

theorem spoil_cut {s : ByteArray} {at_ : Nat} {x y : UInt8} {S1 S2 : ByteArray} (ha : at_ < s.size) (h1 : s.extract 0 at_ ++ bstr [y] = S1) (h2 : S1 ++ s.extract (at_ + 1) s.size = S2) (hy : (s[at_]'ha) ^^^ x = y) : S2 = spoilB s at_ x := by
  subst h1
  subst h2
  subst hy
  apply ByteArray.ext
  have hsz : s.data.size = s.size := rfl
  have hl : s.data.toList.length = s.size := by rw [Array.length_toList]; rfl
  have hg : s.data.toList.getD at_ 0 = s[at_]'ha := by
    rw [List.getD_eq_getElem?_getD, List.getElem?_eq_getElem (by omega)]
    rfl
  apply Array.ext'
  rw [spoilB, hg]
  simp only [bstr, ByteArray.data_append, ByteArray.data_extract, Array.toList_append, Array.toList_extract]
  rw [List.set_eq_take_append_cons_drop, if_pos (by omega)]
  simp
  rw [List.take_of_length_le]
  simp [hl]

theorem Pl.spoil {w w4 w5 wc W6 : World} {R0 j R k m c5 g5 at_ : Nat} {u u3 v : Value} {xs : List ByteArray} {s : ByteArray} {x : UInt8} (h : Pl w w.heap.size R0 j wc R u v xs) (hs : xs[k]? = some s)
    (hb : Bg w.heap.size w4 w.heap.size R u3 (xs.set k (spoilB s at_ x))) (hk : Keep (fun _ => False) w w4) (hk5 : Keep (fun _ => False) w4 w5)
    (hg : w4.heap.size ≤ g5)
    (hn : Keep (· = g5) w5 W6) (hn2 : Os w.heap.size W6 (.slice (some ⟨g5, 0, none⟩) m c5) (xs.set k (spoilB s at_ x))) :
    Pl w w.heap.size R0 (j + 1) W6 R u3 (.slice (some ⟨g5, 0, none⟩) m c5) (xs.set k (spoilB s at_ x)) := by
  have hbl := hb.blk.lt
  refine ⟨(hb.k hk5).far hn (fun e => ?_) (fun b hb' e => ?_), hn2, fun b hb' e => ?_, (hk.trans hk5).trans' hn (fun i hi e => ?_), ?_, fun t ht => ?_, ?_, h.base⟩
  · have e' : w.heap.size = g5 := e
    omega
  · have e' : b = g5 := e
    have := (hb.own.lt hb').2
    omega
  · have e' : g5 = b := Option.some.inj e
    have := (hb.own.lt hb').2
    omega
  · have e' : i = g5 := e
    have := hk.size
    omega
  · rw [List.length_set]
    have := h.few
    omega
  · rcases List.mem_or_eq_of_mem_set ht with h1 | h1
    · exact h.small t h1
    · rw [h1, spoil_size]
      exact h.small s (List.mem_of_getElem? hs)
  · rw [tot_set hs (spoil_size s at_ x)]
    exact h.sum

end Go.Proofs.Ytoojhdjdhhkkcaa
