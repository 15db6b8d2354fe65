/-
  Plain: what Rank computes is the rank: the least inner size of a product that is the matrix.
-/
import Derived.Test.YtegecjilpmkamaaRank
import Derived.Test.YtegecjilpmkamaaLin
namespace Go.Proofs.Ytegecjilpmkamaa
open Sb

theorem swapE_eq (F : Nat → Nat → UInt8) (a p : Nat) : swapE F a p = turnE a p F := by
  funext i j
  unfold swapE turnE
  by_cases h : i = p
  · rw [if_pos h, if_pos h]
  · by_cases h' : i = a
    · rw [if_neg h, if_neg h, if_pos h', if_pos h']
    · rw [if_neg h, if_neg h, if_neg h', if_neg h']

theorem unitE_eq (F : Nat → Nat → UInt8) (a col : Nat) : unitE F a col = timesE a (ginv (F a col)) F := by
  funext i j
  unfold unitE timesE
  by_cases h : i = a
  · rw [if_pos h, if_pos h]
  · rw [if_neg h, if_neg h]

/-- How many times row a is put to row i. -/
def clearT (F : Nat → Nat → UInt8) (a col : Nat) (all : Bool) (i : Nat) : UInt8 := if a < i ∨ (all = true ∧ i ≠ a) then F i col else 0

theorem clearAll_eq (F : Nat → Nat → UInt8) (a col : Nat) (all : Bool) : clearAll F a col all = putE a (clearT F a col all) F := by
  funext i j
  unfold clearAll putE clearT clearE
  by_cases h : a < i ∨ (all = true ∧ i ≠ a)
  · rw [if_pos h, if_pos h]
  · rw [if_neg h, if_neg h, gmul_zero, UInt8.xor_zero]

theorem clearT_self (F : Nat → Nat → UInt8) (a col : Nat) (all : Bool) : clearT F a col all a = 0 := if_neg (by rintro (h | ⟨_, h⟩); exact absurd h (Nat.lt_irrefl a); exact h rfl)

/-- Row a, behind the first two steps of sink. -/
theorem mid_a (F : Nat → Nat → UInt8) (a p col : Nat) (j : Nat) : unitE (swapE F a p) a col a j = gmul (F p j) (ginv (F p col)) := by
  rw [unitE_eq, swapE_eq, timesE, if_pos rfl]
  have e : ∀ j, turnE a p F a j = F p j := fun j => by
    unfold turnE
    by_cases h : a = p
    · rw [if_pos h, h]
    · rw [if_neg h, if_pos rfl]
  rw [e, e]
/-- Another row, behind the first two steps. -/
theorem mid_ne (F : Nat → Nat → UInt8) (a p col : Nat) {i : Nat} (hi : i ≠ a) (j : Nat) : unitE (swapE F a p) a col i j = F (if i = p then a else i) j := by
  rw [unitE_eq, swapE_eq, timesE, if_neg hi, turnE]
  by_cases h : i = p
  · rw [if_pos h, if_pos h]
  · rw [if_neg h, if_neg h, if_neg hi]

/-- What sink leaves in row a. -/
theorem sinkE_a (F : Nat → Nat → UInt8) (a p col : Nat) (all : Bool) (j : Nat) : sinkE F a p col all a j = gmul (F p j) (ginv (F p col)) := by
  rw [sinkE, clearAll_eq, putE, clearT_self, gmul_zero, UInt8.xor_zero, mid_a]
/-- What it leaves in a row that is cleared. -/
theorem sinkE_on (F : Nat → Nat → UInt8) (a p col : Nat) (all : Bool) {i : Nat} (hi : a < i ∨ (all = true ∧ i ≠ a)) (j : Nat) :
    sinkE F a p col all i j = F (if i = p then a else i) j ^^^ gmul (gmul (F p j) (ginv (F p col))) (F (if i = p then a else i) col) := by
  have hne : i ≠ a := by
    rcases hi with h | ⟨_, h⟩
    · omega
    · exact h
  rw [sinkE, clearAll_eq, putE, clearT, if_pos hi, mid_a, mid_ne F a p col hne, mid_ne F a p col hne]
/-- What it leaves in a row that is not. -/
theorem sinkE_off (F : Nat → Nat → UInt8) (a p col : Nat) (all : Bool) {i : Nat} (hi : ¬ (a < i ∨ (all = true ∧ i ≠ a))) (hne : i ≠ a) (hap : a ≤ p) (j : Nat) : sinkE F a p col all i j = F i j := by
  have h2 : i ≠ p := fun e => hi (.inl (by omega))
  rw [sinkE, clearAll_eq, putE, clearT, if_neg hi, gmul_zero, UInt8.xor_zero, mid_ne F a p col hne, if_neg h2]

theorem sinkE_rows {n a p col : Nat} (F : Nat → Nat → UInt8) (all : Bool) (ha : a < n) (hp : p < n) (h : F p col ≠ 0) (c : Nat) : RowEq n c F (sinkE F a p col all) := by
  have e : turnE a p F a col = F p col := by
    unfold turnE
    by_cases h : a = p
    · rw [if_pos h, h]
    · rw [if_neg h, if_pos rfl]
  rw [sinkE, clearAll_eq, unitE_eq, swapE_eq, e]
  exact ((RowEq.turn ha hp c F).trans (RowEq.times ha (ginv_ne h) c _)).trans (RowEq.put ha (clearT_self _ a col all) c _)

/-- The column of the row that is put to a is 1 there and 0 in what is cleared. -/
theorem sinkE_one (F : Nat → Nat → UInt8) (a p col : Nat) (all : Bool) (h : F p col ≠ 0) : sinkE F a p col all a col = 1 := by rw [sinkE_a, gmul_inv h]
theorem sinkE_zero (F : Nat → Nat → UInt8) (a p col : Nat) (all : Bool) {i : Nat} (hi : a < i ∨ (all = true ∧ i ≠ a)) (h : F p col ≠ 0) : sinkE F a p col all i col = 0 := by
  rw [sinkE_on F a p col all hi, gmul_inv h, one_gmul, UInt8.xor_self]
/-- A column that has 0 in the rows from a on keeps them. -/
theorem sinkE_keep (F : Nat → Nat → UInt8) {n a p col j : Nat} (hap : a ≤ p) (hp : p < n) (hz : ∀ q, a ≤ q → q < n → F q j = 0) {i : Nat} (hi : a ≤ i) (hin : i < n) : sinkE F a p col false i j = 0 := by
  by_cases e : i = a
  · rw [e, sinkE_a, hz p hap hp, zero_gmul]
  · rw [sinkE_on F a p col false (.inl (by omega)), hz p hap hp, zero_gmul, zero_gmul, UInt8.xor_zero]
    split
    · exact hz a (Nat.le_refl _) (by omega)
    · exact hz i hi hin

/-- How the matrix stands, where k columns are done: r rows are told. -/
structure Ech (n k r : Nat) (E : Nat → Nat → UInt8) (pc : Nat → Nat) : Prop where
  le : r ≤ n
  lt : ∀ i, i < r → pc i < k
  one : ∀ i, i < r → E i (pc i) = 1
  low : ∀ i, i < r → ∀ i', i < i' → i' < n → E i' (pc i) = 0
  zer : ∀ i, r ≤ i → i < n → ∀ j, j < k → E i j = 0

theorem sinkAt_neg {F : Nat → Nat → UInt8} {n a col : Nat} (h : sinkAt F n a col < 0) : ∀ i, a ≤ i → i < n → F i col = 0 := by
  intro i h1 h2
  unfold sinkAt at h
  rcases fidx_spec (fun i => F (a + i) col != 0) (n - a) 0 with ⟨_, h4⟩ | ⟨j, _, _, h4, _⟩
  · have h5 := h4 (i - a) (Nat.zero_le _) (by omega)
    rw [show a + (i - a) = i by omega] at h5
    simpa using h5
  · omega
theorem sinkAt_some {F : Nat → Nat → UInt8} {n a col j : Nat} (h : sinkAt F n a col = (j : Int)) : a + j < n ∧ F (a + j) col ≠ 0 := by
  unfold sinkAt at h
  rcases fidx_spec (fun i => F (a + i) col != 0) (n - a) 0 with ⟨h4, _⟩ | ⟨i, _, h4, h5, h6, _⟩
  · omega
  · have : i = j := by omega
    subst this
    exact ⟨by omega, by simpa using h6⟩

theorem rsteps_ech (n : Nat) (F : Nat → Nat → UInt8) (k : Nat) : ∃ pc, Ech n k (rsteps n F k).1 (rsteps n F k).2 pc ∧ ∀ c, RowEq n c F (rsteps n F k).2 := by
  induction k with
  | zero => exact ⟨fun _ => 0, ⟨Nat.zero_le _, fun i h => absurd h (Nat.not_lt_zero _), fun i h => absurd h (Nat.not_lt_zero _), fun i h => absurd h (Nat.not_lt_zero _), fun i _ _ j h => absurd h (Nat.not_lt_zero _)⟩, fun c => RowEq.refl _ _ _⟩
  | succ k ih =>
    obtain ⟨pc, he, hr⟩ := ih
    rw [rsteps]
    generalize rsteps n F k = st at *
    obtain ⟨r, E⟩ := st
    dsimp only at he hr
    by_cases hrn : r < n
    · rcases sinkAt_cases E n r k with h | ⟨j, h, _⟩
      · rw [rstep_none h]
        refine ⟨pc, ⟨he.le, fun i hi => by have := he.lt i hi; omega, he.one, he.low, fun i h1 h2 j hj => ?_⟩, hr⟩
        by_cases e : j = k
        · rw [e]
          exact sinkAt_neg h i h1 h2
        · exact he.zer i h1 h2 j (by omega)
      · rw [rstep_some hrn h]
        obtain ⟨hp, hne⟩ := sinkAt_some h
        refine ⟨fun i => if i = r then k else pc i, ⟨by show r + 1 ≤ n; omega, fun i hi => ?_, fun i hi => ?_, fun i hi i' h1 h2 => ?_, fun i h1 h2 j' hj => ?_⟩, fun c => (hr c).trans (sinkE_rows E false hrn hp hne c)⟩
        · dsimp only at hi ⊢
          split
          · omega
          · have := he.lt i (by omega)
            omega
        · dsimp only at hi ⊢
          by_cases e : i = r
          · rw [if_pos e, e, sinkE_one _ _ _ _ _ hne]
          · rw [if_neg e, sinkE_off E r (r + j) k false (by simp; omega) e (by omega)]
            exact he.one i (by omega)
        · dsimp only at hi ⊢
          by_cases e : i = r
          · rw [if_pos e, sinkE_zero _ _ _ _ _ (.inl (by omega)) hne]
          · rw [if_neg e]
            by_cases e2 : i' < r
            · rw [sinkE_off E r (r + j) k false (by simp; omega) (by omega) (by omega)]
              exact he.low i (by omega) i' h1 h2
            · exact sinkE_keep E (by omega) hp (fun q h3 h4 => he.low i (by omega) q (by omega) h4) (by omega) h2
        · dsimp only at h1 ⊢
          by_cases e : j' = k
          · rw [e, sinkE_zero _ _ _ _ _ (.inl (by omega)) hne]
          · exact sinkE_keep E (by omega) hp (fun q h3 h4 => he.zer q h3 h4 j' (by omega)) (by omega) h2
    · rw [rstep_full hrn]
      exact ⟨pc, ⟨he.le, fun i hi => by have := he.lt i hi; omega, he.one, he.low, fun i h1 h2 => by have h3 : r ≤ i := h1; omega⟩, hr⟩

theorem rsteps_lek (n : Nat) (F : Nat → Nat → UInt8) (k : Nat) : (rsteps n F k).1 ≤ k := by
  induction k with
  | zero => exact Nat.le_refl _
  | succ k ih =>
    rw [rsteps, rstep]
    split
    · show _ + 1 ≤ k + 1
      omega
    · omega

theorem mrank_le (n c : Nat) (F : Nat → Nat → UInt8) : mrank n c F ≤ n := rsteps_le n F c
theorem mrank_lec (n c : Nat) (F : Nat → Nat → UInt8) : mrank n c F ≤ c := rsteps_lek n F c

theorem mrank_ech (n c : Nat) (F : Nat → Nat → UInt8) : ∃ E pc, Ech n c (mrank n c F) E pc ∧ ∀ k, RowEq n k F E := by
  obtain ⟨pc, h1, h2⟩ := rsteps_ech n F c
  exact ⟨_, pc, h1, h2⟩

/-- The matrix is a product of inner size s. -/
def Fac (n c s : Nat) (F : Nat → Nat → UInt8) : Prop := ∃ A B, Eqm n c F (mulE s A B)

theorem fac_rank (n c : Nat) (F : Nat → Nat → UInt8) : Fac n c (mrank n c F) F := by
  obtain ⟨E, pc, he, hr⟩ := mrank_ech n c F
  obtain ⟨P, Q, h1, h2, h3, h4⟩ := hr c
  refine ⟨P, E, fun i j hi hj => ?_⟩
  rw [← h4 i j hi hj, mulE, mulE]
  exact xsum_cut he.le (fun k hk hkn => by rw [he.zer k hk hkn j hj, gmul_zero])

/-- Where the rank is less, the rows hang on one another. -/
theorem kernel_of_lt {n c : Nat} {F : Nat → Nat → UInt8} (h : mrank n c F < n) : ∃ v, (∃ i, i < n ∧ v i ≠ 0) ∧ LK n c F v := by
  obtain ⟨E, pc, he, hr⟩ := mrank_ech n c F
  obtain ⟨P, Q, h1, h2, h3, h4⟩ := hr c
  refine ⟨Q (n - 1), ?_, fun j hj => ?_⟩
  · apply Classical.byContradiction
    intro hno
    have hz : ∀ i, i < n → Q (n - 1) i = 0 := fun i hi => Classical.byContradiction (fun hq => hno ⟨i, hi, hq⟩)
    have h5 := h2 (n - 1) (n - 1) (by omega) (by omega)
    rw [idE_self, mulE, xsum_zero (fun k hk => by rw [hz k hk, zero_gmul])] at h5
    exact absurd h5 (by decide)
  · have h5 := h3 (n - 1) j (by omega) hj
    rw [he.zer (n - 1) (by omega) (by omega) j hj] at h5
    exact h5

/-- More rows than columns hang on one another. -/
theorem kernel_of_short {r s : Nat} (X : Nat → Nat → UInt8) (h : s < r) : ∃ v, (∃ i, i < r ∧ v i ≠ 0) ∧ LK r s X v :=
  kernel_of_lt (Nat.lt_of_le_of_lt (mrank_lec r s X) h)

/-- The rows that are told do not hang on one another. -/
theorem Ech.free {n k r : Nat} {E : Nat → Nat → UInt8} {pc : Nat → Nat} (he : Ech n k r E pc) {v : Nat → UInt8} (h : LK r k E v) : ∀ i, i < r → v i = 0 := by
  intro i
  induction i using Nat.strongRecOn with
  | _ i ih =>
    intro hi
    have h1 := h (pc i) (he.lt i hi)
    rw [xsum_single hi (fun q hq hne => ?_), he.one i hi, gmul_one] at h1
    · exact h1
    · by_cases hlt : q < i
      · rw [ih q hlt hq, zero_gmul]
      · rw [he.low i hi q (by omega) (by have := he.le; omega), gmul_zero]

theorem rank_fac {n c s : Nat} {F : Nat → Nat → UInt8} (h : Fac n c s F) : mrank n c F ≤ s := by
  obtain ⟨E, pc, he, hr⟩ := mrank_ech n c F
  obtain ⟨P, Q, h1, h2, h3, h4⟩ := hr c
  obtain ⟨A, B, hab⟩ := h
  apply Classical.byContradiction
  intro hlt
  obtain ⟨v, ⟨i, hi, hv⟩, hk⟩ := kernel_of_short (mulE n Q A) (Nat.lt_of_not_le hlt)
  refine hv (he.free (v := v) ?_ i hi)
  refine (LK.mul (c := c) (B := B) hk).congr ?_
  intro i j hi hj
  have hin : i < n := Nat.lt_of_lt_of_le hi he.le
  rw [mulE_assoc, ← h3 i j hin hj]
  exact ((Eqm.refl n n Q).mul hab.symm) i j hin hj

/-- Where the rows hang on one another, the rank is less. -/
theorem lt_of_kernel {n c : Nat} {F : Nat → Nat → UInt8} {v : Nat → UInt8} {i : Nat} (hi : i < n) (hv : v i ≠ 0) (h : LK n c F v) : mrank n c F < n := by
  obtain ⟨E, pc, he, hr⟩ := mrank_ech n c F
  obtain ⟨P, Q, h1, h2, h3, h4⟩ := hr c
  apply Classical.byContradiction
  intro hlt
  have hrn : mrank n c F = n := by have := mrank_le n c F; omega
  rw [hrn] at he
  have h5 : LK n c E (mulE n (fun _ => v) P 0) := fun j hj => by
    have e2 : xsum n (fun i => gmul (mulE n (fun _ => v) P 0 i) (E i j)) = mulE n (mulE n (fun _ => v) P) E 0 j := rfl
    rw [e2, mulE_assoc, mulE, ← h j hj]
    exact xsum_congr (fun k hk => by rw [h4 k j hk hj])
  have h6 := he.free h5
  have h7 : mulE n (mulE n (fun _ => v) P) Q 0 i = v i := by
    rw [mulE_assoc, mulE, xsum_congr (h := fun k => gmul (v k) (idE k i)) (fun k hk => by rw [h1 k i hk hi])]
    exact mulE_id' (fun _ => v) 0 hi
  apply hv
  rw [← h7, mulE]
  exact xsum_zero (fun k hk => by rw [h6 k hk, zero_gmul])

/-- The matrix whose rows are the columns. -/
def trE (F : Nat → Nat → UInt8) : Nat → Nat → UInt8 := fun i j => F j i

theorem mulE_tr (K : Nat) (A B : Nat → Nat → UInt8) (i j : Nat) : mulE K (trE B) (trE A) i j = mulE K A B j i := xsum_congr (fun _ _ => gmul_comm _ _)

theorem Fac.tr {n c s : Nat} {F : Nat → Nat → UInt8} (h : Fac n c s F) : Fac c n s (trE F) := by
  obtain ⟨A, B, hab⟩ := h
  exact ⟨trE B, trE A, fun i j hi hj => by rw [mulE_tr]; exact hab j i hj hi⟩

theorem mrank_tr (n c : Nat) (F : Nat → Nat → UInt8) : mrank c n (trE F) = mrank n c F :=
  Nat.le_antisymm (rank_fac (fac_rank n c F).tr) (rank_fac (fac_rank c n (trE F)).tr)

theorem mrank_congr {n c : Nat} {F G : Nat → Nat → UInt8} (h : Eqm n c F G) : mrank n c F = mrank n c G := by
  have h1 : ∀ {F G : Nat → Nat → UInt8}, Eqm n c F G → mrank n c F ≤ mrank n c G := fun {F G} h => by
    obtain ⟨A, B, hab⟩ := fac_rank n c G
    exact rank_fac ⟨A, B, h.trans hab⟩
  exact Nat.le_antisymm (h1 h) (h1 h.symm)

/-- What has another behind it that makes it the one that changes nothing has full rank. -/
theorem rank_of_right {n : Nat} {F X : Nat → Nat → UInt8} (h : Eqm n n (mulE n F X) idE) : mrank n n F = n := by
  apply Classical.byContradiction
  intro hne
  obtain ⟨v, ⟨i, hi, hv⟩, hk⟩ := kernel_of_lt (n := n) (c := n) (F := F) (by have := mrank_le n n F; omega)
  have h1 := (LK.mul (c := n) (B := X) hk).congr h i hi
  rw [show xsum n (fun k => gmul (v k) (idE k i)) = v i from mulE_id' (fun _ => v) 0 hi] at h1
  exact hv h1
theorem rank_of_left {n : Nat} {F X : Nat → Nat → UInt8} (h : Eqm n n (mulE n X F) idE) : mrank n n F = n := by
  rw [← mrank_tr]
  refine rank_of_right (X := trE X) (fun i j hi hj => ?_)
  rw [mulE_tr, h j i hj hi]
  unfold idE
  by_cases e : i = j
  · rw [if_pos e, if_pos e.symm]
  · rw [if_neg e, if_neg (fun e' => e e'.symm)]
end Go.Proofs.Ytegecjilpmkamaa
