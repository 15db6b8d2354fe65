/-
  An own map from texts to whole numbers.
-/
import Derived.Test.YtoojhdjdhhkkcaaTrn
import Derived.Maps.OwnOps
import Derived.Maps.OwnSet
import Derived.Maps.Views
namespace Go.Proofs.Ytoojhdjdhhkkcaa
open Go.RowKit

theorem key_text (s : ByteArray) (h : s.size ≤ maxLen) : keyOf Try.prog 9 (.string s) = some (.string s.data.toList) := by
  unfold keyOf
  rw [Try.underlying9]
  unfold mapKey
  rw [Try.underlying9]
  exact if_pos h

/-- Block b is a map of at most n texts; f tells the number of each. -/
def Cm (w : World) (b n : Nat) (f : ByteArray → Int) : Prop :=
  ∃ D : DataW Unit, w.ownsMap Try.prog 9 (plainElem Try.prog 3) b n D ∧ ∀ s : ByteArray, D.atKey (.string s.data.toList) (.lit (.int .i64 0)) = .lit (.int .i64 (f s))

theorem zero3 (w : World) : (zeroValue 3).run Try.prog w = .ok (.int .i64 0) w := by
  have h : (Try.prog.info? 3).map (fun i => (i.zero, i.size, i.bytes)) = some (some (.int .i64 0), 1, 8) := by kernel_rfl
  obtain ⟨i0, hi0, hz0, _, _⟩ := parts_info h
  simp [zeroValue, typeInfo, hi0, hz0]

theorem Cm.made (w : World) : Cm (w.alloc (.map #[] 0)) w.heap.size 0 (fun _ => 0) := ⟨.map [], World.ownsMap_made w _ _ _, fun _ => rfl⟩
theorem Cm.keep {S : Nat → Prop} {w w' : World} {b n : Nat} {f : ByteArray → Int} (h : Cm w b n f) (hk : Keep S w w') (hb : ¬ S b) : Cm w' b n f := by
  obtain ⟨D, ⟨es, clock, h1, h2⟩, h3⟩ := h
  have hlt : b < w.heap.size := by
    rcases Nat.lt_or_ge b w.heap.size with h | h
    · exact h
    · rw [Array.getElem?_eq_none h] at h1; cases h1
  exact ⟨D, ⟨es, clock, (hk.block b hlt hb).trans h1, h2⟩, h3⟩
theorem Cm.lt {w : World} {b n : Nat} {f : ByteArray → Int} (h : Cm w b n f) : b < w.heap.size := by
  obtain ⟨D, h1, _⟩ := h
  exact h1.lt

theorem wf_i64 {z : Int} (h : -9223372036854775808 ≤ z ∧ z ≤ 9223372036854775807) : (Lit.int .i64 z).wf = true := by
  have h1 : IntKind.i64.min = -9223372036854775808 := rfl
  have h2 : IntKind.i64.max = 9223372036854775807 := rfl
  simp [Lit.wf, h1, h2]
  omega

theorem wpl_look (w : World) {ops : Array Oper} {rest : List Oper} {o : Oper} {a : Act} {Q : Exit → Act → World → Prop} (hg : o.guard = none) (m x : Operand) (hop : o.op = Op.lookup 42 m x false)
    (b n : Nat) (f : ByteArray → Int) (s : ByteArray) (hm : a.eval m = .map (some b)) (hc : Cm w b n f) (hx : a.eval x = .string s) (hs : s.size ≤ maxLen)
    (hK : wpList Try.prog ops Q rest (a.put o.dst (.int .i64 (f s))) w) : wpList Try.prog ops Q (o :: rest) a w := by
  obtain ⟨D, h1, h2⟩ := hc
  refine wpList_lookup_own_int (H := Unit) w hg m x 42 hop 9 3 .i64 (Maps.string_keyed Try.underlying9) Try.underlying42 Try.underlying3 (zero3 w) b n D hm h1 (.string s) _ hx (key_text s hs) (fun c hat _ => ?_)
  rw [h2 s] at hat
  injection hat with hat
  injection hat with _ hat
  rw [← hat]
  exact hK

theorem wpl_upd (w : World) {ops : Array Oper} {rest : List Oper} {o : Oper} {a : Act} {Q : Exit → Act → World → Prop} (hg : o.guard = none) (m x v : Operand) (hop : o.op = Op.mapUpdate 42 m x v)
    (b n : Nat) (f : ByteArray → Int) (s : ByteArray) (z : Int) (hm : a.eval m = .map (some b)) (hc : Cm w b n f) (hn : n < 100000) (hx : a.eval x = .string s) (hs : s.size ≤ maxLen) (hv : a.eval v = .int .i64 z) (hz : -9223372036854775808 ≤ z ∧ z ≤ 9223372036854775807)
    (hK : ∀ w', Cm w' b (n + 1) (fun t => if t = s then z else f t) → Keep (· = b) w w' → wpList Try.prog ops Q rest (a.put o.dst undef) w') : wpList Try.prog ops Q (o :: rest) a w := by
  obtain ⟨D, h1, h2⟩ := hc
  refine wpList_mapUpdate_own (H := Unit) w hg m x v 42 hop 9 3 (Maps.string_keyed Try.underlying9) Try.underlying42 (plainElem Try.prog 3) b n D hm h1 (by unfold maxLen; omega) (.string s) (.int .i64 z) _ hx hv (key_text s hs) (.lit (.int .i64 z)) [] (plainElem_int Try.underlying3 (wf_i64 hz)) (fun w' h3 h4 => hK w' ⟨_, h3, fun t => ?_⟩ ((Keep.refl (· = b) w).grown h4 (fun k hk _ => (Option.some.inj hk).symm)))
  show _ = DataW.lit (Lit.int .i64 (if t = s then z else f t))
  by_cases ht : t = s
  · subst ht
    rw [if_pos rfl, Maps.atKey_put_same h1.isMap (by exact ⟨⟩)]
  · rw [if_neg ht, Maps.atKey_put_other (fun e => ht ?_)]
    · exact h2 t
    · injection e with e
      apply ByteArray.ext
      exact Array.toList_inj.1 e
end Go.Proofs.Ytoojhdjdhhkkcaa
