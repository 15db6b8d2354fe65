/-
  Plain: what the reference's Rank computes is the rank too. Words: an own matrix whose rows lie in own blocks that may have room.
-/
import Derived.Test.YtegecjilpmkamaaGauss
import Derived.Test.YtegecjilpmkamaaBackw
namespace Go.Proofs.Ytegecjilpmkamaa
open Go.RowKit Sb

/-- How the reference's matrix stands, where k columns are done: r rows are told. -/
structure Ekh (n k r : Nat) (E : Nat → Nat → UInt8) (pc : Nat → Nat) : Prop where
  le : r ≤ n
  lt : ∀ i, i < r → pc i < k
  ne : ∀ i, i < r → E i (pc i) ≠ 0
  low : ∀ i, i < r → ∀ i', i < i' → i' < n → E i' (pc i) = 0
  zer : ∀ i, r ≤ i → i < n → ∀ j, j < k → E i j = 0

theorem Ekh.free {n k r : Nat} {E : Nat → Nat → UInt8} {pc : Nat → Nat} (he : Ekh n k r E pc) {v : Nat → UInt8} (h : LK r k E v) : ∀ i, i < r → v i = 0 := by
  intro i
  induction i using Nat.strongRecOn with
  | _ i ih =>
    intro hi
    have h1 := h (pc i) (he.lt i hi)
    rw [xsum_single hi (fun q hq hne => ?_)] at h1
    · exact Classical.byContradiction (fun hv => gmul_ne hv (he.ne i hi) h1)
    · by_cases hlt : q < i
      · rw [ih q hlt hq, zero_gmul]
      · rw [he.low i hi q (by omega) (by have := he.le; omega), gmul_zero]

theorem Ekh.rank {n c r : Nat} {F E : Nat → Nat → UInt8} {pc : Nat → Nat} (he : Ekh n c r E pc) (hr : RowEq n c F E) : mrank n c F = r := by
  obtain ⟨P, Q, h1, h2, h3, h4⟩ := hr
  apply Nat.le_antisymm
  · refine rank_fac ⟨P, E, fun i j hi hj => ?_⟩
    rw [← h4 i j hi hj, mulE, mulE]
    exact xsum_cut he.le (fun k hk hkn => by rw [he.zer k hk hkn j hj, gmul_zero])
  · obtain ⟨A, B, hab⟩ := fac_rank n c F
    apply Classical.byContradiction
    intro hlt
    obtain ⟨v, ⟨i, hi, hv⟩, hk⟩ := kernel_of_short (mulE n Q A) (Nat.lt_of_not_le hlt)
    refine hv (he.free (v := v) ?_ i hi)
    refine (LK.mul (c := c) (B := B) hk).congr ?_
    intro i j hi hj
    have hin : i < n := Nat.lt_of_lt_of_le hi he.le
    rw [mulE_assoc, ← h3 i j hin hj]
    exact ((Eqm.refl n n Q).mul hab.symm) i j hin hj

theorem Ekh.start (n : Nat) (F : Nat → Nat → UInt8) : Ekh n 0 0 F (fun _ => 0) :=
  ⟨Nat.zero_le _, fun _ h => absurd h (Nat.not_lt_zero _), fun _ h => absurd h (Nat.not_lt_zero _), fun _ h => absurd h (Nat.not_lt_zero _), fun _ _ _ j h => absurd h (Nat.not_lt_zero j)⟩

theorem Ekh.skip {n k r : Nat} {E : Nat → Nat → UInt8} {pc : Nat → Nat} (he : Ekh n k r E pc) (h : ∀ i, r ≤ i → i < n → E i k = 0) : Ekh n (k + 1) r E pc :=
  ⟨he.le, fun i hi => by have := he.lt i hi; omega, he.ne, he.low, fun i h1 h2 j hj => by
    by_cases e : j = k
    · rw [e]; exact h i h1 h2
    · exact he.zer i h1 h2 j (by omega)⟩

/-- How many times row r is put to row i. -/
def refT (E : Nat → Nat → UInt8) (r k i : Nat) : UInt8 := if r < i then gmul (E i k) (ginv (E r k)) else 0
/-- One column of the reference's Rank. -/
def refE (E : Nat → Nat → UInt8) (r p k : Nat) : Nat → Nat → UInt8 := putE r (refT (turnE r p E) r k) (turnE r p E)

theorem turn_a (E : Nat → Nat → UInt8) (r p j : Nat) : turnE r p E r j = E p j := by
  unfold turnE
  by_cases h : r = p
  · rw [if_pos h, h]
  · rw [if_neg h, if_pos rfl]
theorem turn_ne (E : Nat → Nat → UInt8) {r p i : Nat} (hi : i ≠ r) (j : Nat) : turnE r p E i j = E (if i = p then r else i) j := by
  unfold turnE
  by_cases h : i = p
  · rw [if_pos h, if_pos h]
  · rw [if_neg h, if_neg h, if_neg hi]

theorem refE_le (E : Nat → Nat → UInt8) {r p k i : Nat} (hi : i ≤ r) (j : Nat) : refE E r p k i j = turnE r p E i j := by
  rw [refE, putE, refT, if_neg (by omega), gmul_zero, UInt8.xor_zero]
theorem refE_gt (E : Nat → Nat → UInt8) {r p k i : Nat} (hi : r < i) (j : Nat) : refE E r p k i j = turnE r p E i j ^^^ gmul (gmul (turnE r p E i k) (ginv (turnE r p E r k))) (turnE r p E r j) := by
  rw [refE, putE, refT, if_pos hi, gmul_comm]

theorem Ekh.step {n k r p : Nat} {E : Nat → Nat → UInt8} {pc : Nat → Nat} (he : Ekh n k r E pc) (hrp : r ≤ p) (hp : p < n) (hne : E p k ≠ 0) : Ekh n (k + 1) (r + 1) (refE E r p k) (fun i => if i = r then k else pc i) := by
  have hlow : ∀ i, i < r → ∀ j, refE E r p k i j = E i j := fun i hi j => by
    rw [refE_le E (by omega), turn_ne E (by omega), if_neg (by omega)]
  have hr_ : ∀ j, refE E r p k r j = E p j := fun j => by rw [refE_le E (Nat.le_refl _), turn_a]
  have hz : ∀ i, r < i → i < n → ∀ j, (∀ q, r ≤ q → q < n → E q j = 0) → refE E r p k i j = 0 := fun i h1 h2 j h => by
    rw [refE_gt E h1, turn_a E r p j, turn_ne E (i := i) (by omega) j, h p hrp hp, gmul_zero, UInt8.xor_zero]
    split
    · exact h r (Nat.le_refl _) (by omega)
    · exact h i (by omega) h2
  have hk : ∀ i, r < i → i < n → refE E r p k i k = 0 := fun i h1 _ => by
    rw [refE_gt E h1, turn_a, gmul_assoc, ginv_gmul hne, gmul_one, UInt8.xor_self]
  refine ⟨by omega, fun i hi => ?_, fun i hi => ?_, fun i hi i' h1 h2 => ?_, fun i h1 h2 j hj => ?_⟩
  · split
    · omega
    · have := he.lt i (by omega)
      omega
  · by_cases e : i = r
    · rw [if_pos e, e, hr_]; exact hne
    · rw [if_neg e, hlow i (by omega)]; exact he.ne i (by omega)
  · by_cases e : i = r
    · rw [if_pos e]; exact hk i' (by omega) h2
    · rw [if_neg e]
      by_cases e2 : i' < r
      · rw [hlow i' e2]; exact he.low i (by omega) i' h1 h2
      · by_cases e3 : i' = r
        · rw [e3, hr_]; exact he.low i (by omega) p (by omega) hp
        · exact hz i' (by omega) h2 _ (fun q h3 h4 => he.low i (by omega) q (by omega) h4)
  · by_cases e : j = k
    · rw [e]; exact hk i (by omega) h2
    · exact hz i (by omega) h2 j (fun q h3 h4 => he.zer q h3 h4 j (by omega))

theorem refE_rows {n r p k : Nat} (c : Nat) (E : Nat → Nat → UInt8) (hr : r < n) (hp : p < n) : RowEq n c E (refE E r p k) :=
  (RowEq.turn hr hp c E).trans (RowEq.put hr (by unfold refT; rw [if_neg (Nat.lt_irrefl r)]) c _)

/-- The matrix's rows, in blocks G i that have room behind the c numbers; the block of the rows is g. -/
structure Rk (N : Nat) (w : World) (g n c : Nat) (G cp : Nat → Nat) (F : Nat → Nat → UInt8) : Prop where
  old : N ≤ g
  own : ∃ cs, Blk w g 33 cs ∧ n ≤ cs.size ∧ ∀ i, i < n → cs[i]? = some (.slice (some ⟨G i, 0, none⟩) c (cp i))
  rows : ∀ i, i < n → N ≤ G i ∧ c ≤ cp i ∧ cp i ≤ maxLen ∧ ∃ rc, Blk w (G i) 5 rc ∧ c ≤ rc.size ∧ ∀ j, j < c → rc[j]? = some (bv (F i j))
  inj : ∀ i j, i < n → j < n → i ≠ j → G i ≠ G j

section
variable {N : Nat} {w w' : World} {g n c : Nat} {G cp : Nat → Nat} {F : Nat → Nat → UInt8}
theorem Rk.row (h : Rk N w g n c G cp F) {i : Nat} (hi : i < n) : w.cell? ⟨g, i, none⟩ = some (.slice (some ⟨G i, 0, none⟩) c (cp i)) ∧ w.frozen? ⟨g, i, none⟩ = false := by
  obtain ⟨cs, h1, _, h3⟩ := h.own
  exact ⟨(h1.cell i).trans (h3 i hi), h1.frozen i⟩
theorem Rk.num (h : Rk N w g n c G cp F) {i j : Nat} (hi : i < n) (hj : j < c) : w.cell? ⟨G i, j, none⟩ = some (bv (F i j)) ∧ w.frozen? ⟨G i, j, none⟩ = false := by
  obtain ⟨_, _, _, rc, h1, _, h3⟩ := h.rows i hi
  exact ⟨(h1.cell j).trans (h3 j hj), h1.frozen j⟩
theorem Rk.ne (h : Rk N w g n c G cp F) {i : Nat} (hi : i < n) : G i ≠ g := by
  obtain ⟨_, _, _, rc, h1, _⟩ := h.rows i hi
  obtain ⟨cs, h2, _⟩ := h.own
  exact Blk.ne_ h1 h2 (by decide)
theorem Rk.keep {S : Nat → Prop} (h : Rk N w g n c G cp F) (hk : Keep S w w') (hs : ∀ b, N ≤ b → ¬ S b) : Rk N w' g n c G cp F := by
  obtain ⟨cs, h1, h2⟩ := h.own
  refine ⟨h.old, ⟨cs, h1.keep hk (hs g h.old), h2⟩, fun i hi => ?_, h.inj⟩
  obtain ⟨q1, q2, q3, rc, q4, q5⟩ := h.rows i hi
  exact ⟨q1, q2, q3, rc, q4.keep hk (hs _ q1), q5⟩
theorem Rk.congr {F' : Nat → Nat → UInt8} (h : Rk N w g n c G cp F) (e : ∀ i j, i < n → j < c → F i j = F' i j) : Rk N w g n c G cp F' :=
  ⟨h.old, h.own, fun i hi => by
    obtain ⟨q1, q2, q3, rc, q4, q5, q6⟩ := h.rows i hi
    exact ⟨q1, q2, q3, rc, q4, q5, fun j hj => by rw [q6 j hj, e i j hi hj]⟩, h.inj⟩
/-- One number is written. -/
theorem Rk.set_ (h : Rk N w g n c G cp F) {a b : Nat} (ha : a < n) (hb : b < c) (x : UInt8) : Rk N (w.setCell ⟨G a, b, none⟩ (bv x)) g n c G cp (fun i j => if i = a ∧ j = b then x else F i j) := by
  obtain ⟨cs, h1, h2⟩ := h.own
  refine ⟨h.old, ⟨cs, h1.far (p := ⟨G a, b, none⟩) (h.ne ha).symm _, h2⟩, fun i hi => ?_, h.inj⟩
  obtain ⟨q1, q2, q3, rc, q4, q5, q6⟩ := h.rows i hi
  by_cases e : i = a
  · subst e
    refine ⟨q1, q2, q3, rc.setIfInBounds b (bv x), q4.set_ b _, by simpa using q5, fun j hj => ?_⟩
    rw [Array.getElem?_setIfInBounds]
    by_cases e2 : b = j
    · subst e2
      rw [if_pos rfl, if_pos (by omega), if_pos ⟨rfl, rfl⟩]
    · rw [if_neg e2, q6 j hj, if_neg (fun h => e2 h.2.symm)]
  · refine ⟨q1, q2, q3, rc, q4.far (p := ⟨G a, b, none⟩) (h.inj i a hi ha e) _, q5, fun j hj => ?_⟩
    rw [q6 j hj, if_neg (fun h => e h.1)]
/-- Two rows change places. -/
theorem Rk.swap (h : Rk N w g n c G cp F) {a p : Nat} (ha : a < n) (hp : p < n) :
    Rk N ((w.setCell ⟨g, a, none⟩ (.slice (some ⟨G p, 0, none⟩) c (cp p))).setCell ⟨g, p, none⟩ (.slice (some ⟨G a, 0, none⟩) c (cp a))) g n c (fun i => if i = p then G a else if i = a then G p else G i) (fun i => if i = p then cp a else if i = a then cp p else cp i) (turnE a p F) := by
  obtain ⟨cs, h1, h2, h3⟩ := h.own
  have h4 := (h1.set_ a (.slice (some ⟨G p, 0, none⟩) c (cp p))).set_ p (.slice (some ⟨G a, 0, none⟩) c (cp a))
  have hk : Keep (· = g) w ((w.setCell ⟨g, a, none⟩ (.slice (some ⟨G p, 0, none⟩) c (cp p))).setCell ⟨g, p, none⟩ (.slice (some ⟨G a, 0, none⟩) c (cp a))) :=
    ((Keep.refl (· = g) w).setCell (p := ⟨g, a, none⟩) (fun _ => rfl) _).setCell (p := ⟨g, p, none⟩) (fun _ => rfl) _
  refine ⟨h.old, ⟨_, h4, by simpa using h2, fun i hi => ?_⟩, fun i hi => ?_, fun i j hi hj hij => ?_⟩
  · rw [Array.getElem?_setIfInBounds, Array.getElem?_setIfInBounds]
    by_cases e : p = i
    · subst e
      rw [if_pos rfl, if_pos (by simp; omega), if_pos rfl, if_pos rfl]
    · have e' : ¬ i = p := fun h => e h.symm
      rw [if_neg e]
      simp only [if_neg e']
      by_cases e2 : a = i
      · subst e2
        rw [if_pos rfl, if_pos (by omega), if_pos rfl, if_pos rfl]
      · have e3 : ¬ i = a := fun h => e2 h.symm
        rw [if_neg e2]
        simp only [if_neg e3]
        exact h3 i hi
  · have hrow : ∀ q, q < n → N ≤ G q ∧ c ≤ cp q ∧ cp q ≤ maxLen ∧ ∃ rc, Blk ((w.setCell ⟨g, a, none⟩ (.slice (some ⟨G p, 0, none⟩) c (cp p))).setCell ⟨g, p, none⟩ (.slice (some ⟨G a, 0, none⟩) c (cp a))) (G q) 5 rc ∧ c ≤ rc.size ∧ ∀ j, j < c → rc[j]? = some (bv (F q j)) := fun q hq => by
      obtain ⟨q1, q2, q3, rc, q4, q5⟩ := h.rows q hq
      exact ⟨q1, q2, q3, rc, q4.keep hk (h.ne hq), q5⟩
    unfold turnE
    by_cases e : i = p
    · simp only [if_pos e]
      exact hrow a ha
    · by_cases e2 : i = a
      · simp only [if_neg e, if_pos e2]
        exact hrow p hp
      · simp only [if_neg e, if_neg e2]
        exact hrow i hi
  · by_cases e1 : i = p
    · rw [if_pos e1]
      by_cases e2 : j = p
      · omega
      · rw [if_neg e2]
        by_cases e3 : j = a
        · rw [if_pos e3]
          exact h.inj a p ha hp (by omega)
        · rw [if_neg e3]
          exact h.inj a j ha hj (fun e => e3 e.symm)
    · rw [if_neg e1]
      by_cases e2 : j = p
      · rw [if_pos e2]
        by_cases e3 : i = a
        · rw [if_pos e3]
          exact h.inj p a hp ha (by omega)
        · rw [if_neg e3]
          exact h.inj i a hi ha e3
      · rw [if_neg e2]
        by_cases e3 : i = a
        · rw [if_pos e3]
          by_cases e4 : j = a
          · omega
          · rw [if_neg e4]
            exact h.inj p j hp hj (fun e => e2 e.symm)
        · rw [if_neg e3]
          by_cases e4 : j = a
          · rw [if_pos e4]
            exact h.inj i p hi hp e1
          · rw [if_neg e4]
            exact h.inj i j hi hj hij
end
end Go.Proofs.Ytegecjilpmkamaa
