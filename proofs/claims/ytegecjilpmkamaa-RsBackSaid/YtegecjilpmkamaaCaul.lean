/-
  Words for the law 'MatCauchy': own lists of numbers that grow; what has been picked; the picked rows.
-/
import Derived.Test.YtegecjilpmkamaaRows48
import Derived.Test.YtegecjilpmkamaaJoin50
import Derived.Test.YtegecjilpmkamaaCau
import Derived.Test.YtegecjilpmkamaaBack
namespace Go.Proofs.Ytegecjilpmkamaa
open Go.RowKit Sb

theorem info3 : (Try.prog.info? 3).map (fun i => (i.zero, i.size, i.bytes)) = some (some (.int .i64 0), 1, 8) := by kernel_rfl

/-- A list of numbers of the call's own, that may grow. -/
def Gi (N : Nat) (w : World) (v : Value) (l : List Int) : Prop := w.ownsRow N 3 1 v l.length (l.map (Value.int .i64))

theorem Gi.nil (N : Nat) (w : World) : Gi N w (.slice none 0 0) [] := World.ownsRow_nil w N 3 1
theorem Gi.lt {N : Nat} {w : World} {v : Value} {l : List Int} (h : Gi N w v l) {b : Nat} (hb : v.ownBlock = some b) : N ≤ b ∧ b < w.heap.size := World.ownsRow.lt h b hb
theorem Gi.keep {S : Nat → Prop} {N : Nat} {w w' : World} {v : Value} {l : List Int} (h : Gi N w v l) (hk : Keep S w w') (hv : ∀ b, v.ownBlock = some b → ¬ S b) : Gi N w' v l := by
  refine ⟨h.1, ?_⟩
  rcases h.2 with h3 | ⟨g, cap, cur, rfl, h4, h5, h6⟩
  · exact .inl h3
  · exact .inr ⟨g, cap, cur, rfl, h4, (Blk.keep (w := w) (w' := w') h5 hk (hv g rfl)), h6⟩
theorem Gi.nn {N : Nat} {w : World} {v : Value} {l : List Int} (h : Gi N w v l) : ∃ ao cap, v = .slice ao l.length cap ∧ Nn (fun b => N ≤ b) w ao l.length l := by
  rcases h.2 with ⟨rfl, h4⟩ | ⟨g, cap, cur, rfl, h4, h5, h6, h7, h8, h9⟩
  · have hx : l = [] := List.length_eq_zero_iff.1 h4
    subst hx
    exact ⟨none, 0, rfl, Rv.nil w none⟩
  · refine ⟨_, cap, rfl, ⟨by simp, fun hn => ⟨g, 0, rfl, h4, fun i u hu => ?_⟩⟩⟩
    have h10 : Blk w g 3 cur := h5
    rw [Nat.zero_add, h10.cell]
    rw [Nat.mul_one] at h9
    rw [← h9, List.getElem?_take] at hu
    split at hu
    · rw [← Array.getElem?_toList]
      exact hu
    · cases hu

theorem wpl_appi1 (wp : World) {ops : Array Oper} {rest : List Oper} {o : Oper} {a : Act} {Q : Exit → Act → World → Prop} (hgd : o.guard = none) (s x : Operand)
    (ho : o.op = .call { callee := .builtin .append, args := #[s, x], argTypes := #[50, 50] })
    (N : Nat) (v : Value) (l : List Int) (y : Int) (g : Nat) (hs : a.eval s = v) (hx : a.eval x = .slice (some ⟨g, 0, none⟩) 1 1) (hg : g = wp.heap.size)
    (hown : Gi N wp v l) (hlen : l.length + 1 ≤ 1000000) (hN : N ≤ wp.heap.size)
    (h : ∀ v' w', Gi N w' v' (l ++ [y]) → Keep (fun b => v.ownBlock = some b) wp w' → wpList Try.prog ops Q rest (a.put o.dst v') w') :
    wpList Try.prog ops Q (o :: rest) a (wp.alloc (.cells #[.int .i64 y] 3)) := by
  subst hg
  obtain ⟨i0, hi0, hz0, hz1, hz2⟩ := info_parts info3
  have hk : Keep (fun _ => False) wp (wp.alloc (.cells #[.int .i64 y] 3)) := (Keep.refl _ wp).alloc _
  have hb := Blk.new wp 3 #[.int .i64 y]
  refine wpl_append (wp.alloc (.cells #[.int .i64 y] 3)) hgd s x 50 ho N 3 i0 (.int .i64 0) 8 Try.underlying50 hi0 hz0 hz1 hz2 rfl v l.length (l.map (Value.int .i64)) hs (hown.keep hk (fun _ _ => id)) (fun _ => True) (some ⟨wp.heap.size, 0, none⟩) 1 1 [.int .i64 y] hx ⟨rfl, fun _ => ⟨wp.heap.size, 0, rfl, trivial, fun i q hq => ?_⟩⟩ (fun u hu => ?_) (by unfold maxLen; omega) (by omega) (Nat.le_trans hN hk.size) (fun v' w' g1 g2 _ _ => h v' w' ?_ ?_)
  · rw [Nat.zero_add, hb.cell, List.getElem?_toArray]
    exact hq
  · rw [List.mem_singleton] at hu
    rw [hu]
    rfl
  · unfold Gi
    rw [List.length_append, List.map_append]
    exact g1
  · exact (hk.mono (fun _ _ h => h.elim)).trans ((Keep.refl (fun b => v.ownBlock = some b) _).grown g2 (fun k hk _ => hk))

theorem and_lo (n : Int) (K : Nat) (hK : K < 1000) : 0 ≤ bits BinOp.and IntKind.i64 n (K : Int) ∧ bits BinOp.and IntKind.i64 n (K : Int) ≤ K := by
  have h : (BitVec.ofInt 64 n &&& BitVec.ofInt 64 (K : Int)).toNat ≤ K := by
    rw [BitVec.toNat_and]
    refine Nat.le_trans Nat.and_le_right ?_
    rw [BitVec.toNat_ofInt]
    omega
  have e : bits BinOp.and IntKind.i64 n (K : Int) = IntKind.i64.wrap ((BitVec.ofInt 64 n &&& BitVec.ofInt 64 (K : Int)).toNat : Int) := rfl
  rw [e, IntKind.wrap_i64]
  omega

/-- Which are picked already. -/
def hads (ls : List Nat) : Array Value := ((List.range 16).map (fun i => Value.bool (decide (i ∈ ls)))).toArray

theorem hads_get {ls : List Nat} {p : Nat} (hp : p < 16) : (hads ls)[p]? = some (.bool (decide (p ∈ ls))) := by
  simp [hads, hp]

theorem hads_nil : hads [] = Array.replicate 16 (.bool false) := by kernel_rfl

theorem hads_set {ls : List Nat} {p : Nat} (hp : p < 16) : (hads ls).setIfInBounds p (.bool true) = hads (ls ++ [p]) := by
  apply Array.ext_getElem?
  intro i
  rw [Array.getElem?_setIfInBounds]
  by_cases h : p = i
  · subst h
    rw [if_pos rfl, if_pos (by simp [hads, hp]), hads_get hp]
    simp
  · rw [if_neg h]
    by_cases hi : i < 16
    · rw [hads_get hi, hads_get hi]
      have : i ≠ p := fun e => h e.symm
      simp [this]
    · simp [hads, hi]

/-- The rows that are picked of all. -/
theorem picked {c r : Nat} {ls : List Nat} (hlt : ∀ x ∈ ls, x < c + r) {i j : Nat} (hi : i < ls.length) (hj : j < c) :
    ent (sel (oneM c ++ cauM r c) (ls.map Int.ofNat)) i j = pickE c (ls.getD i 0) j := by
  have hx := hlt _ (List.getElem_mem hi)
  have e : ls.getD i 0 = ls[i] := by simp [hi]
  have e2 : (sel (oneM c ++ cauM r c) (ls.map Int.ofNat))[i]? = some (((oneM c ++ cauM r c)[ls[i]]?).getD []) := by
    unfold sel
    rw [List.map_map, List.getElem?_map, List.getElem?_eq_getElem hi]
    rfl
  unfold ent
  rw [e2, Option.getD_some, e]
  generalize ls[i] = x at *
  rw [List.getElem?_append]
  unfold pickE
  by_cases h : x < c
  · rw [if_pos (by simp [oneM]; omega), if_pos h]
    have e3 : (oneM c)[x]? = some (oneRow c x) := by simp [oneM, h]
    have e4 : (oneRow c x)[j]? = some (idE x j) := rowOf_get (c := c) (fun j => if x = j then 1 else 0) hj
    rw [e3, Option.getD_some, e4, Option.getD_some]
  · rw [if_neg (by simp [oneM]; omega), if_neg h]
    have e0 : (oneM c).length = c := by simp [oneM]
    have e3 : (cauM r c)[x - c]? = some (cauRow c (x - c)) := by
      have : x - c < r := by omega
      simp [cauM, this]
    have e4 : (cauRow c (x - c))[j]? = some (ginv (UInt8.ofNat (x - c + c) ^^^ UInt8.ofNat j)) := rowOf_get (c := c) (fun j => ginv (UInt8.ofNat (x - c + c) ^^^ UInt8.ofNat j)) hj
    rw [e0, e3, Option.getD_some, e4, Option.getD_some, Nat.sub_add_cancel (by omega)]

theorem picked_rank {c r : Nat} {ls : List Nat} (hl : ls.length = c) (hnd : ls.Nodup) (hlt : ∀ x ∈ ls, x < c + r) (hT : c + r ≤ 256) : mrank c c (ent (sel (oneM c ++ cauM r c) (ls.map Int.ofNat))) = c := by
  rw [mrank_congr (G := fun i j => pickE c (ls.getD i 0) j) (fun i j hi hj => picked hlt (by omega) hj)]
  exact cau_rank hl hnd (fun x hx => by have := hlt x hx; omega) (by omega)
end Go.Proofs.Ytegecjilpmkamaa
