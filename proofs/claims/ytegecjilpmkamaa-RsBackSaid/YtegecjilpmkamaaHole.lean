/-
  Shards of which some are struck: in memory, and which of them are there.
-/
import Derived.Test.YtegecjilpmkamaaCuts
import Derived.Test.YtegecjilpmkamaaRsa
namespace Go.Proofs.Ytegecjilpmkamaa
open Go.RowKit Sb

/-- An own slice of rows, its values known. -/
def GrU (P : Nat → Prop) (N : Nat) (w : World) (g cap n : Nat) (us : List Value) (m : List (List UInt8)) : Prop :=
  N ≤ g ∧ (∃ cur, Blk w g 33 cur ∧ ∀ (i : Nat) (u : Value), us[i]? = some u → cur[i]? = some u) ∧ us.length = n ∧ m.length = n ∧ n ≤ cap ∧ cap ≤ maxLen ∧
    ∀ (i : Nat) (u : Value) (r : List UInt8), us[i]? = some u → m[i]? = some r → Bs (fun b => P b ∧ b ≠ g) w u r

theorem GrU.of {P : Nat → Prop} {N : Nat} {w : World} {v : Value} {m : List (List UInt8)} (h : Gr P N w v m) (h0 : 0 < m.length) : ∃ g cap us, v = .slice (some ⟨g, 0, none⟩) m.length cap ∧ GrU P N w g cap m.length us m := by
  obtain ⟨us, h1, h2⟩ := h
  have hul : us.length = m.length := by have := h1.1; omega
  rcases h1.2 with ⟨_, h4⟩ | ⟨g, cap, cur, rfl, h4, h5, h6, h7, h8, h9⟩
  · omega
  · refine ⟨g, cap, us, rfl, h4, ⟨cur, h5, fun i u hu => ?_⟩, hul, rfl, h6, h7, fun i u r hu hr => (h2 i u r hu hr).mono (fun b _ hb => ⟨hb.1, fun e => hb.2 (by rw [e]; rfl)⟩)⟩
    rw [Nat.mul_one] at h9
    rw [← h9, List.getElem?_take] at hu
    split at hu
    · rw [← Array.getElem?_toList]
      exact hu
    · cases hu

theorem GrU.mv {P : Nat → Prop} {N : Nat} {w : World} {g cap n : Nat} {us : List Value} {m : List (List UInt8)} (h : GrU P N w g cap n us m) : Mv (fun b => P b ∨ b = g) w (some ⟨g, 0, none⟩) n us m := by
  obtain ⟨_, ⟨cur, h2, h3⟩, h4, h5, _, _, h8⟩ := h
  refine ⟨⟨h4, fun _ => ⟨g, 0, rfl, .inr rfl, fun i u hu => ?_⟩⟩, h5, fun i u r hu hr => (h8 i u r hu hr).mono (fun b _ hb => .inl hb.1)⟩
  rw [Nat.zero_add, h2.cell]
  exact h3 i u hu

theorem GrU.cell {P : Nat → Prop} {N : Nat} {w : World} {g cap n p : Nat} {us : List Value} {m : List (List UInt8)} (h : GrU P N w g cap n us m) {u : Value} (hu : us[p]? = some u) : w.cell? ⟨g, p, none⟩ = some u ∧ w.frozen? ⟨g, p, none⟩ = false := by
  obtain ⟨_, ⟨cur, h2, h3⟩, _⟩ := h
  exact ⟨by rw [h2.cell]; exact h3 p u hu, h2.frozen p⟩

theorem GrU.set_ {P : Nat → Prop} {N : Nat} {w : World} {g cap n p : Nat} {us : List Value} {m : List (List UInt8)} (h : GrU P N w g cap n us m) (hp : p < n) : GrU P N (w.setCell ⟨g, p, none⟩ (.slice none 0 0)) g cap n (us.set p (.slice none 0 0)) (m.set p []) := by
  obtain ⟨h1, ⟨cur, h2, h3⟩, h4, h5, h6, h7, h8⟩ := h
  have hk : Keep (· = g) w (w.setCell ⟨g, p, none⟩ (.slice none 0 0)) := (Keep.refl (· = g) w).setCell (p := ⟨g, p, none⟩) (fun _ => rfl) _
  have hsz : p < cur.size := by
    have h9 := h3 p (us[p]'(by omega)) (List.getElem?_eq_getElem _)
    exact (Array.getElem?_eq_some_iff.1 h9).1
  refine ⟨h1, ⟨_, h2.set_ p _, fun i u hu => ?_⟩, by rw [List.length_set]; exact h4, by rw [List.length_set]; exact h5, h6, h7, fun i u r hu hr => ?_⟩
  · by_cases hip : p = i
    · subst hip
      rw [List.getElem?_set_self (by omega)] at hu
      rw [Array.getElem?_setIfInBounds_self_of_lt hsz]
      exact hu
    · rw [List.getElem?_set_ne hip] at hu
      rw [Array.getElem?_setIfInBounds_ne hip]
      exact h3 i u hu
  · by_cases hip : p = i
    · subst hip
      rw [List.getElem?_set_self (by omega)] at hu hr
      cases hu
      cases hr
      exact ⟨none, 0, 0, rfl, Nat.le_refl _, by unfold maxLen; omega, Rv.nil _ _⟩
    · rw [List.getElem?_set_ne hip] at hu hr
      exact (h8 i u r hu hr).keep hk (fun b _ hb e => hb.2 e)

theorem GrU.keep {P : Nat → Prop} {N : Nat} {w w' : World} {g cap n : Nat} {us : List Value} {m : List (List UInt8)} (h : GrU P N w g cap n us m) (hk : Keep (fun _ => False) w w') : GrU P N w' g cap n us m := by
  obtain ⟨h1, ⟨cur, h2, h3⟩, h4, h5, h6, h7, h8⟩ := h
  exact ⟨h1, ⟨cur, h2.keep hk id, h3⟩, h4, h5, h6, h7, fun i u r hu hr => (h8 i u r hu hr).keep hk (fun _ _ _ => id)⟩

/-- Of all shards each is there as it was, or struck. -/
def Hol (full : List (List UInt8)) (us : List Value) (l : List (List UInt8)) : Prop :=
  us.length = full.length ∧ l.length = full.length ∧ ∀ i, i < full.length → (isnil (us.getD i undef) = true ∧ l.getD i [] = []) ∨ (isnil (us.getD i undef) = false ∧ l.getD i [] = full.getD i [])

theorem Hol.start {full : List (List UInt8)} {us : List Value} (hl : us.length = full.length) (ht : thereB us = true) : Hol full us full := by
  refine ⟨hl, rfl, fun i hi => .inr ⟨?_, rfl⟩⟩
  rw [thereB, List.all_eq_true] at ht
  have h := ht (us[i]'(by omega)) (List.getElem_mem _)
  rw [List.getD_eq_getElem?_getD, List.getElem?_eq_getElem (by omega), Option.getD_some]
  simpa using h

theorem Hol.set_ {full : List (List UInt8)} {us : List Value} {l : List (List UInt8)} {p : Nat} (h : Hol full us l) (hp : p < full.length) : Hol full (us.set p (.slice none 0 0)) (l.set p []) := by
  obtain ⟨h1, h2, h3⟩ := h
  refine ⟨by rw [List.length_set]; exact h1, by rw [List.length_set]; exact h2, fun i hi => ?_⟩
  rw [List.getD_eq_getElem?_getD, List.getD_eq_getElem?_getD]
  by_cases hip : p = i
  · subst hip
    rw [List.getElem?_set_self (by omega), List.getElem?_set_self (by omega)]
    exact .inl ⟨rfl, rfl⟩
  · rw [List.getElem?_set_ne hip, List.getElem?_set_ne hip, ← List.getD_eq_getElem?_getD, ← List.getD_eq_getElem?_getD]
    exact h3 i hi

theorem there_full {us : List Value} (h : thereB us = true) : (there_ us).length = us.length := by
  rw [there_, List.filter_eq_self.2]
  rw [thereB, List.all_eq_true] at h
  exact h

theorem there_less : ∀ {us : List Value} {p : Nat}, p < us.length → isnil (us.getD p undef) = false → (there_ (us.set p (.slice none 0 0))).length + 1 = (there_ us).length := by
  intro us
  induction us with
  | nil => intro p hp; simp at hp
  | cons u us ih =>
    intro p hp hn
    cases p with
    | zero =>
      have hu : isnil u = false := hn
      rw [List.set_cons_zero, there_, there_, List.filter_cons, List.filter_cons, hu, show isnil (.slice none 0 0) = true from rfl]
      simp
    | succ p =>
      have h9 := ih (p := p) (by simpa using hp) hn
      rw [List.set_cons_succ]
      rw [there_, there_] at h9 ⊢
      rw [List.filter_cons, List.filter_cons]
      split
      · rw [List.length_cons, List.length_cons, h9]
      · exact h9

theorem thereL_of {us : List Value} {l : List (List UInt8)} {r : List UInt8} (h : r ∈ thereL us l) : ∃ i, i < us.length ∧ i < l.length ∧ isnil (us.getD i undef) = false ∧ r = l.getD i [] := by
  rw [thereL] at h
  obtain ⟨p, hp, rfl⟩ := List.mem_map.1 h
  obtain ⟨hp1, hp2⟩ := List.mem_filter.1 hp
  obtain ⟨i, hi, rfl⟩ := List.getElem_of_mem hp1
  have hi2 : i < us.length ∧ i < l.length := by rw [List.length_zip] at hi; omega
  refine ⟨i, hi2.1, hi2.2, ?_, ?_⟩
  · rw [List.getElem_zip] at hp2
    rw [List.getD_eq_getElem?_getD, List.getElem?_eq_getElem hi2.1, Option.getD_some]
    simpa using hp2
  · rw [List.getElem_zip, List.getD_eq_getElem?_getD, List.getElem?_eq_getElem hi2.2, Option.getD_some]

theorem Hol.even {full : List (List UInt8)} {us : List Value} {l : List (List UInt8)} {L : Nat} (h : Hol full us l) (hL : ∀ r ∈ full, r.length = L) : evenB (there_ us) (thereL us l) = true ∧ mcols (thereL us l) ≤ L := by
  have hr : ∀ r ∈ thereL us l, r.length = L := by
    intro r hr
    obtain ⟨i, h1, h2, h3, rfl⟩ := thereL_of hr
    rcases h.2.2 i (by have := h.1; omega) with ⟨q, _⟩ | ⟨_, q⟩
    · rw [h3] at q; cases q
    · rw [q]
      have hi : i < full.length := by have := h.1; omega
      apply hL
      rw [List.getD_eq_getElem?_getD, List.getElem?_eq_getElem hi, Option.getD_some]
      exact List.getElem_mem _
  have hm : thereL us l = [] ∨ mcols (thereL us l) = L := by
    cases ht : thereL us l with
    | nil => exact .inl rfl
    | cons r T => exact .inr (by rw [mcols_at (r := r) rfl]; exact hr r (by rw [ht]; exact List.mem_cons_self))
  refine ⟨?_, ?_⟩
  · rw [evenB, Bool.and_eq_true, List.all_eq_true, List.all_eq_true]
    refine ⟨fun u hu => (List.mem_filter.1 hu).2, fun r hr' => ?_⟩
    rcases hm with hm | hm
    · rw [hm] at hr'; cases hr'
    · rw [hm]; exact decide_eq_true (hr r hr')
  · rcases hm with hm | hm
    · rw [hm]; exact Nat.zero_le _
    · omega

theorem Hol.rows {full : List (List UInt8)} {us : List Value} {l : List (List UInt8)} (h : Hol full us l) {i : Nat} (hi : i < full.length) (hn : isnil (us.getD i undef) = false) : l.getD i [] = full.getD i [] := by
  rcases h.2.2 i hi with ⟨q, _⟩ | ⟨_, q⟩
  · rw [hn] at q; cases q
  · exact q

theorem enc_rows {k m L : Nat} {data : List (List UInt8)} (hd : data.length = k) (hk : 1 ≤ k) (hL : ∀ r ∈ data, r.length = L) : ∀ r ∈ encM k m data, r.length = L := by
  intro r hr
  rw [encM, List.mem_append] at hr
  rcases hr with hr | hr
  · exact hL r hr
  · rw [mulM] at hr
    obtain ⟨i, _, rfl⟩ := List.mem_map.1 hr
    rw [rowOf_len]
    cases data with
    | nil => simp at hd; omega
    | cons x d => rw [mcols_at (r := x) rfl]; exact hL x List.mem_cons_self
end Go.Proofs.Ytegecjilpmkamaa
