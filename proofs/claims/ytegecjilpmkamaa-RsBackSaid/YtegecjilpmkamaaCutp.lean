/-
  Plain: how bytes are cut to shards, and these joined.
-/
import Derived.Test.YtegecjilpmkamaaMk
namespace Go.Proofs.Ytegecjilpmkamaa
open Go.RowKit Sb

/-- How long each shard is. -/
def cutN (L many : Nat) : Nat := max 1 ((L + many - 1) / many)
/-- The number at a place, 0 behind the end. -/
def at0 (b : List UInt8) (i : Nat) : UInt8 := (b[i]?).getD 0
/-- The shards. -/
def cutM (b : List UInt8) (many : Nat) : List (List UInt8) := (List.range many).map (fun i => rowOf (cutN b.length many) (fun k => at0 b (i * cutN b.length many + k)))

theorem cutN_pos (L many : Nat) : 1 ≤ cutN L many := by unfold cutN; omega
theorem cutN_le (L many : Nat) : cutN L many ≤ L + 1 := by
  unfold cutN
  have h : (L + many - 1) / many ≤ L := by
    rcases Nat.eq_zero_or_pos many with h | h
    · subst h
      simp
    · have h1 : (L + many - 1) / many < L + 1 := by
        rw [Nat.div_lt_iff_lt_mul h]
        have := Nat.mul_le_mul_left L h
        have h2 : (L + 1) * many = L * many + many := by rw [Nat.add_mul, Nat.one_mul]
        omega
      omega
  omega

theorem cutN_all {L many : Nat} (h : 1 ≤ many) : L ≤ many * cutN L many := by
  have h1 := Nat.div_add_mod (L + many - 1) many
  have h2 := Nat.mod_lt (L + many - 1) h
  have h3 : (L + many - 1) / many ≤ cutN L many := by unfold cutN; omega
  have h4 := Nat.mul_le_mul_left many h3
  omega

theorem cutN_room {L many i : Nat} (hi : i < many) : i * cutN L many ≤ L + many := by
  have h1 := Nat.div_add_mod (L + many - 1) many
  unfold cutN
  by_cases h2 : 1 ≤ (L + many - 1) / many
  · rw [show max 1 ((L + many - 1) / many) = (L + many - 1) / many by omega]
    have := Nat.mul_le_mul_right ((L + many - 1) / many) (Nat.le_of_lt hi)
    omega
  · rw [show max 1 ((L + many - 1) / many) = 1 by omega]
    omega

theorem cut_len (b : List UInt8) (many : Nat) : (cutM b many).length = many := by simp [cutM]
theorem cut_row {b : List UInt8} {many : Nat} : ∀ r ∈ cutM b many, r.length = cutN b.length many := by
  intro r hr
  obtain ⟨i, _, rfl⟩ := List.mem_map.1 hr
  exact rowOf_len _ _

theorem rowOf_add (a c : Nat) (f : Nat → UInt8) : rowOf (a + c) f = rowOf a f ++ rowOf c (fun k => f (a + k)) := by
  unfold rowOf
  rw [List.range_add, List.map_append, List.map_map]
  rfl

theorem rows_flat (n : Nat) (f : Nat → UInt8) : ∀ j, ((List.range j).map (fun i => rowOf n (fun k => f (i * n + k)))).flatten = rowOf (j * n) f := by
  intro j
  induction j with
  | zero => rw [Nat.zero_mul]; rfl
  | succ j ih =>
    rw [List.range_succ, List.map_append, List.flatten_append, ih, Nat.succ_mul, rowOf_add]
    simp

theorem cut_flat (b : List UInt8) (many : Nat) : (cutM b many).flatten = rowOf (many * cutN b.length many) (at0 b) := rows_flat _ _ _

theorem cut_back {b : List UInt8} {many : Nat} (h : 1 ≤ many) : (cutM b many).flatten.take b.length = b := by
  rw [cut_flat]
  have h1 := cutN_all (L := b.length) h
  apply List.ext_getElem?
  intro i
  by_cases hi : i < b.length
  · rw [List.getElem?_take, if_pos hi, rowOf_get _ (by omega), List.getElem?_eq_getElem hi, at0, List.getElem?_eq_getElem hi]
    rfl
  · rw [List.getElem?_eq_none (by rw [List.length_take]; omega), List.getElem?_eq_none (by omega)]

theorem cut_flat_len {b : List UInt8} {many : Nat} (h : 1 ≤ many) : b.length ≤ (cutM b many).flatten.length := by
  rw [cut_flat, rowOf_len]
  exact cutN_all h

/-- A row that is copied: what is there, and zeros. -/
theorem cut_copy (b : List UInt8) (n i : Nat) : (b.drop (min (i * n) b.length)).take n ++ (List.replicate n (0 : UInt8)).drop (min n (b.length - min (i * n) b.length)) = rowOf n (fun k => at0 b (i * n + k)) := by
  apply List.ext_getElem?
  intro q
  by_cases hq : q < n
  · rw [rowOf_get _ hq]
    by_cases h : i * n + q < b.length
    · rw [List.getElem?_append_left (by rw [List.length_take, List.length_drop]; omega), List.getElem?_take, if_pos hq, List.getElem?_drop, show min (i * n) b.length = i * n by omega, at0, List.getElem?_eq_getElem h]
      rfl
    · have h1 : ((b.drop (min (i * n) b.length)).take n).length = min n (b.length - min (i * n) b.length) := by rw [List.length_take, List.length_drop]
      rw [List.getElem?_append_right (by omega), List.getElem?_drop, List.getElem?_replicate, if_pos (by omega), at0, List.getElem?_eq_none (by omega)]
      rfl
  · rw [List.getElem?_eq_none (by simp; omega), List.getElem?_eq_none (by rw [rowOf_len]; omega)]

/-- What is joined of the first rows, one row more. -/
theorem join_step {l : List (List UInt8)} {j many : Nat} {r : List UInt8} (h : l[j]? = some r) :
    (l.take j).flatten.take many ++ r.take (min r.length (many - ((l.take j).flatten.take many).length)) = (l.take (j + 1)).flatten.take many := by
  rw [List.take_add_one, h, Option.toList_some, List.flatten_append, List.flatten_singleton, List.take_append, List.length_take]
  congr 1
  by_cases h1 : many ≤ (l.take j).flatten.length
  · rw [show many - min many (l.take j).flatten.length = 0 by omega, show many - (l.take j).flatten.length = 0 by omega]
    simp
  · rw [show min many (l.take j).flatten.length = (l.take j).flatten.length by omega]
    by_cases h2 : r.length ≤ many - (l.take j).flatten.length
    · rw [show min r.length (many - (l.take j).flatten.length) = r.length by omega, List.take_length, List.take_of_length_le h2]
    · rw [show min r.length (many - (l.take j).flatten.length) = many - (l.take j).flatten.length by omega]
end Go.Proofs.Ytegecjilpmkamaa
