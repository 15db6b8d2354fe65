/-
  Plain: any rows of the matrix that changes nothing with those of a Cauchy matrix behind it, each once, as many as it has columns, have full rank.
-/
import Derived.Test.YtegecjilpmkamaaGauss
namespace Go.Proofs.Ytegecjilpmkamaa
open Sb

/-- The sum over a list. -/
def lsum {α : Type} : List α → (α → UInt8) → UInt8
  | [], _ => 0
  | x :: l, f => f x ^^^ lsum l f

theorem lsum_congr {α : Type} {l : List α} {f h : α → UInt8} (e : ∀ x ∈ l, f x = h x) : lsum l f = lsum l h := by
  induction l with
  | nil => rfl
  | cons x l ih => rw [lsum, lsum, e x (by simp), ih (fun y hy => e y (by simp [hy]))]

theorem lsum_zero {α : Type} {l : List α} {f : α → UInt8} (e : ∀ x ∈ l, f x = 0) : lsum l f = 0 := by
  induction l with
  | nil => rfl
  | cons x l ih => rw [lsum, e x (by simp), ih (fun y hy => e y (by simp [hy])), UInt8.zero_xor]

theorem lsum_xor {α : Type} (l : List α) (f h : α → UInt8) : lsum l (fun x => f x ^^^ h x) = lsum l f ^^^ lsum l h := by
  induction l with
  | nil => exact (UInt8.xor_zero (a := 0)).symm
  | cons x l ih => rw [lsum, lsum, lsum, ih, xor4']

theorem mul_lsum {α : Type} (l : List α) (f : α → UInt8) (x : UInt8) : gmul x (lsum l f) = lsum l (fun y => gmul x (f y)) := by
  induction l with
  | nil => exact gmul_zero x
  | cons y l ih => rw [lsum, lsum, gmul_xor, ih]

theorem lsum_append {α : Type} (l m : List α) (f : α → UInt8) : lsum (l ++ m) f = lsum l f ^^^ lsum m f := by
  induction l with
  | nil => rw [List.nil_append, lsum, UInt8.zero_xor]
  | cons x l ih => rw [List.cons_append, lsum, lsum, ih, UInt8.xor_assoc]

theorem lsum_map {α β : Type} (l : List α) (h : α → β) (f : β → UInt8) : lsum (l.map h) f = lsum l (fun x => f (h x)) := by
  induction l with
  | nil => rfl
  | cons x l ih => rw [List.map_cons, lsum, lsum, ih]

theorem lsum_filter {α : Type} (l : List α) (p : α → Bool) (f : α → UInt8) (e : ∀ x ∈ l, p x = false → f x = 0) : lsum l f = lsum (l.filter p) f := by
  induction l with
  | nil => rfl
  | cons x l ih =>
    rw [lsum, ih (fun y hy => e y (by simp [hy]))]
    cases hp : p x with
    | true => rw [List.filter_cons, if_pos hp, lsum]
    | false => rw [List.filter_cons, if_neg (by simp [hp]), e x (by simp) hp, UInt8.zero_xor]

theorem xsum_lsum (n : Nat) (f : Nat → UInt8) : xsum n f = lsum (List.range n) f := by
  induction n with
  | zero => rfl
  | succ n ih => rw [xsum, ih, List.range_succ, lsum_append, lsum, lsum, UInt8.xor_zero]

theorem gmul_eq_zero {a b : UInt8} (h : gmul a b = 0) (hb : b ≠ 0) : a = 0 := Classical.byContradiction (fun ha => gmul_ne ha hb h)

theorem xor_ne {a b : UInt8} (h : a ≠ b) : a ^^^ b ≠ 0 := fun e => h (xor_eq_zero e)

theorem xor_cancel (a b : UInt8) : a ^^^ (a ^^^ b) = b := by rw [← UInt8.xor_assoc, UInt8.xor_self, UInt8.zero_xor]

theorem xor_lc (a b c : UInt8) : a ^^^ (b ^^^ c) = b ^^^ (a ^^^ c) := by rw [← UInt8.xor_assoc, UInt8.xor_comm a b, UInt8.xor_assoc]

/-- The one sum of fractions that the proof needs. -/
theorem frac {x x0 y y0 : UInt8} (h1 : x ^^^ y ≠ 0) (h2 : x0 ^^^ y ≠ 0) :
    gmul (x ^^^ y0) (ginv (x ^^^ y)) ^^^ gmul (x0 ^^^ y0) (ginv (x0 ^^^ y)) = gmul (gmul (y ^^^ y0) (ginv (x0 ^^^ y))) (gmul (x ^^^ x0) (ginv (x ^^^ y))) := by
  have e1 : gmul (x ^^^ y0) (ginv (x ^^^ y)) = gmul (gmul (x ^^^ y0) (x0 ^^^ y)) (gmul (ginv (x0 ^^^ y)) (ginv (x ^^^ y))) := by
    rw [gmul_assoc, ← gmul_assoc (x0 ^^^ y), gmul_inv h2, one_gmul]
  have e2 : gmul (x0 ^^^ y0) (ginv (x0 ^^^ y)) = gmul (gmul (x0 ^^^ y0) (x ^^^ y)) (gmul (ginv (x0 ^^^ y)) (ginv (x ^^^ y))) := by
    rw [gmul_comm (ginv (x0 ^^^ y)), gmul_assoc, ← gmul_assoc (x ^^^ y), gmul_inv h1, one_gmul]
  have e3 : gmul (gmul (y ^^^ y0) (ginv (x0 ^^^ y))) (gmul (x ^^^ x0) (ginv (x ^^^ y))) = gmul (gmul (y ^^^ y0) (x ^^^ x0)) (gmul (ginv (x0 ^^^ y)) (ginv (x ^^^ y))) := by
    rw [gmul_assoc, gmul_assoc, ← gmul_assoc (ginv (x0 ^^^ y)), gmul_comm (ginv (x0 ^^^ y)) (x ^^^ x0), gmul_assoc (x ^^^ x0)]
  rw [e1, e2, e3, ← xor_gmul]
  congr 1
  simp only [gmul_xor, xor_gmul]
  rw [gmul_comm x0 x, gmul_comm y0 x0, gmul_comm y x, gmul_comm y x0, gmul_comm y0 x]
  generalize gmul x x0 = a
  generalize gmul x y = b
  generalize gmul x0 y0 = c
  generalize gmul y0 y = d
  generalize gmul x0 y = e
  generalize gmul x y0 = f
  simp only [UInt8.xor_comm, xor_lc, xor_cancel]

theorem cauchy_free : ∀ (J R : List UInt8) (c : UInt8 → UInt8), J.Nodup → R.Nodup → J.length ≤ R.length → (∀ x ∈ R, ∀ y ∈ J, x ≠ y) →
    (∀ x ∈ R, lsum J (fun y => gmul (c y) (ginv (x ^^^ y))) = 0) → ∀ y ∈ J, c y = 0 := by
  intro J
  induction J with
  | nil => intro R c _ _ _ _ _ y hy; cases hy
  | cons y0 J ih =>
    intro R c hJ hR hlen hne hsum
    rw [List.nodup_cons] at hJ
    cases R with
    | nil => simp at hlen
    | cons x0 R =>
      rw [List.nodup_cons] at hR
      have hx0 : x0 ^^^ y0 ≠ 0 := xor_ne (hne x0 (by simp) y0 (by simp))
      have mult : ∀ x ∈ x0 :: R, c y0 ^^^ lsum J (fun y => gmul (c y) (gmul (x ^^^ y0) (ginv (x ^^^ y)))) = 0 := by
        intro x hx
        have h1 := hsum x hx
        have h2 : gmul (x ^^^ y0) (lsum (y0 :: J) (fun y => gmul (c y) (ginv (x ^^^ y)))) = 0 := by rw [h1, gmul_zero]
        rw [lsum, gmul_xor, mul_lsum] at h2
        have e1 : gmul (x ^^^ y0) (gmul (c y0) (ginv (x ^^^ y0))) = c y0 := by
          rw [gmul_comm (c y0), ← gmul_assoc, gmul_inv (xor_ne (hne x hx y0 (by simp))), one_gmul]
        rw [e1] at h2
        rw [← h2]
        congr 1
        exact lsum_congr (fun y _ => by rw [← gmul_assoc, gmul_comm (c y), gmul_assoc])
      have hz : ∀ y ∈ J, c y = 0 := by
        have h3 := ih R (fun y => gmul (c y) (gmul (y ^^^ y0) (ginv (x0 ^^^ y)))) hJ.2 hR.2 (by simpa using hlen) (fun x hx y hy => hne x (by simp [hx]) y (by simp [hy])) ?_
        · intro y hy
          have h4 := h3 y hy
          have h5 : y ^^^ y0 ≠ 0 := xor_ne (fun e => hJ.1 (e ▸ hy))
          have h6 : x0 ^^^ y ≠ 0 := xor_ne (hne x0 (by simp) y (by simp [hy]))
          exact gmul_eq_zero h4 (gmul_ne h5 (ginv_ne h6))
        · intro x hx
          have hxx : x ^^^ x0 ≠ 0 := xor_ne (fun e => hR.1 (e ▸ hx))
          have h4 : lsum J (fun y => gmul (c y) (gmul (x ^^^ y0) (ginv (x ^^^ y)))) ^^^ lsum J (fun y => gmul (c y) (gmul (x0 ^^^ y0) (ginv (x0 ^^^ y)))) = 0 := by
            have h5 := mult x (by simp [hx])
            have h6 := mult x0 (by simp)
            have h7 := xor_eq_zero h5
            have h8 := xor_eq_zero h6
            rw [← h7, ← h8, UInt8.xor_self]
          rw [← lsum_xor] at h4
          have h5 : lsum J (fun y => gmul (x ^^^ x0) (gmul (gmul (c y) (gmul (y ^^^ y0) (ginv (x0 ^^^ y)))) (ginv (x ^^^ y)))) = 0 := by
            rw [← h4]
            refine lsum_congr (fun y hy => ?_)
            rw [← gmul_xor, frac (xor_ne (hne x (by simp [hx]) y (by simp [hy]))) (xor_ne (hne x0 (by simp) y (by simp [hy]))), gmul_assoc (c y), ← gmul_assoc (x ^^^ x0), gmul_comm (x ^^^ x0) (c y), gmul_assoc (c y)]
            congr 1
            rw [gmul_comm (x ^^^ x0), gmul_assoc, gmul_comm (ginv (x ^^^ y))]
          rw [← mul_lsum] at h5
          rw [gmul_comm] at h5
          exact gmul_eq_zero h5 hxx
      intro y hy
      rcases List.mem_cons.1 hy with rfl | hy
      · have h1 := mult x0 (by simp)
        rw [lsum_zero (fun y hy => by rw [hz y hy, zero_gmul]), UInt8.xor_zero] at h1
        exact h1
      · exact hz y hy

/-- What is in one list without doubles, and in another one, is no more than that. -/
theorem nodup_le : ∀ {l m : List Nat}, l.Nodup → (∀ x ∈ l, x ∈ m) → l.length ≤ m.length := by
  intro l
  induction l with
  | nil => intro m _ _; exact Nat.zero_le _
  | cons x l ih =>
    intro m hl hm
    rw [List.nodup_cons] at hl
    have h1 : x ∈ m := hm x (by simp)
    have h2 := ih (m := m.erase x) hl.2 (fun y hy => by
      have hne : y ≠ x := fun e => hl.1 (e ▸ hy)
      exact (List.mem_erase_of_ne hne).2 (hm y (by simp [hy])))
    rw [List.length_erase_of_mem h1] at h2
    have h3 : 0 < m.length := List.length_pos_of_mem h1
    simp only [List.length_cons]
    omega

/-- A row of the matrix that changes nothing with a Cauchy matrix behind it. -/
def pickE (n x j : Nat) : UInt8 := if x < n then idE x j else ginv (UInt8.ofNat x ^^^ UInt8.ofNat j)

theorem length_filter_not (l : List Nat) (p : Nat → Bool) : (l.filter p).length + (l.filter (fun x => !p x)).length = l.length := by
  induction l with
  | nil => rfl
  | cons x l ih =>
    rw [List.filter_cons, List.filter_cons]
    cases p x <;> simp <;> omega

theorem ofNat_toNat {x : Nat} (h : x < 256) : (UInt8.ofNat x).toNat = x := by
  simp
  omega

theorem nodup_map_ofNat {l : List Nat} (h : ∀ x ∈ l, x < 256) (hl : l.Nodup) : (l.map UInt8.ofNat).Nodup := by
  induction l with
  | nil => exact List.nodup_nil
  | cons x l ih =>
    rw [List.nodup_cons] at hl
    rw [List.map_cons, List.nodup_cons]
    refine ⟨fun hx => ?_, ih (fun y hy => h y (by simp [hy])) hl.2⟩
    obtain ⟨y, hy, e⟩ := List.mem_map.1 hx
    have e2 := congrArg UInt8.toNat e
    rw [ofNat_toNat (h y (by simp [hy])), ofNat_toNat (h x (by simp))] at e2
    exact hl.1 (e2 ▸ hy)

theorem cau_rank {n : Nat} {l : List Nat} (hl : l.length = n) (hnd : l.Nodup) (hlt : ∀ x ∈ l, x < 256) (hn : n ≤ 256) : mrank n n (fun i j => pickE n (l.getD i 0) j) = n := by
  apply Classical.byContradiction
  intro hne
  have h1 : mrank n n (trE (fun i j => pickE n (l.getD i 0) j)) < n := by
    rw [mrank_tr]
    have := mrank_le n n (fun i j => pickE n (l.getD i 0) j)
    omega
  obtain ⟨v, ⟨k, hk, hv⟩, hker⟩ := kernel_of_lt h1
  have row : ∀ x ∈ l, xsum n (fun j => gmul (v j) (pickE n x j)) = 0 := by
    intro x hx
    obtain ⟨i, hi, rfl⟩ := List.getElem_of_mem hx
    have h2 := hker i (by omega)
    have e : l.getD i 0 = l[i] := by simp [hi]
    rw [← h2]
    exact xsum_congr (fun j _ => by unfold trE; dsimp only; rw [e])
  have low : ∀ x ∈ l, x < n → v x = 0 := by
    intro x hx hxn
    rw [← row x hx, xsum_congr (h := fun j => gmul (v j) (idE j x)) (fun j _ => ?_)]
    · exact (mulE_id' (fun _ => v) 0 hxn).symm
    · rw [pickE, if_pos hxn]
      unfold idE
      by_cases e : x = j
      · rw [if_pos e, if_pos e.symm]
      · rw [if_neg e, if_neg (fun e' => e e'.symm)]
  have hall : ∀ j, j < n → v j = 0 := by
    have h3 := cauchy_free (((List.range n).filter (fun j => !l.contains j)).map UInt8.ofNat) ((l.filter (fun x => !decide (x < n))).map UInt8.ofNat) (fun y => v y.toNat) ?_ ?_ ?_ ?_ ?_
    · intro j hj
      by_cases hjl : j ∈ l
      · exact low j hjl hj
      · have h4 := h3 (UInt8.ofNat j) (List.mem_map.2 ⟨j, List.mem_filter.2 ⟨List.mem_range.2 hj, by simpa using hjl⟩, rfl⟩)
        rw [ofNat_toNat (by omega)] at h4
        exact h4
    · refine nodup_map_ofNat (fun x hx => ?_) ((List.nodup_range).filter _)
      have := List.mem_range.1 (List.mem_filter.1 hx).1
      omega
    · exact nodup_map_ofNat (fun x hx => hlt x (List.mem_filter.1 hx).1) (hnd.filter _)
    · rw [List.length_map, List.length_map]
      have h5 := length_filter_not (List.range n) (fun j => l.contains j)
      have h6 := length_filter_not l (fun x => decide (x < n))
      rw [List.length_range] at h5
      have h7 : (l.filter (fun x => decide (x < n))).length ≤ ((List.range n).filter (fun j => l.contains j)).length := nodup_le (hnd.filter _) (fun x hx => by
        rw [List.mem_filter] at hx ⊢
        exact ⟨List.mem_range.2 (of_decide_eq_true hx.2), by simpa using hx.1⟩)
      omega
    · intro x hx y hy e
      obtain ⟨a, ha, rfl⟩ := List.mem_map.1 hx
      obtain ⟨b, hb, rfl⟩ := List.mem_map.1 hy
      rw [List.mem_filter] at ha hb
      have h8 := List.mem_range.1 hb.1
      have h9 : ¬ a < n := by simpa using ha.2
      have h10 := congrArg UInt8.toNat e
      rw [ofNat_toNat (hlt a ha.1), ofNat_toNat (by omega)] at h10
      omega
    · intro x hx
      obtain ⟨a, ha, rfl⟩ := List.mem_map.1 hx
      rw [List.mem_filter] at ha
      have h9 : ¬ a < n := by simpa using ha.2
      rw [lsum_map, ← row a ha.1, xsum_lsum]
      rw [lsum_filter (List.range n) (fun j => !l.contains j) (fun j => gmul (v j) (pickE n a j)) (fun j hj hp => ?_)]
      · refine lsum_congr (fun j hj => ?_)
        have := List.mem_range.1 (List.mem_filter.1 hj).1
        rw [ofNat_toNat (by omega), pickE, if_neg h9]
      · have hjl : j ∈ l := by simpa using hp
        rw [low j hjl (List.mem_range.1 hj), zero_gmul]
  exact hv (hall k hk)
end Go.Proofs.Ytegecjilpmkamaa
