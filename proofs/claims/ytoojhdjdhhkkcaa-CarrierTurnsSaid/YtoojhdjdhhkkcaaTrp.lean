/-
  How the law CarrierTurns stands behind a text written over.
-/
import Derived.Test.YtoojhdjdhhkkcaaCnt
import Derived.Test.YtoojhdjdhhkkcaaNob
import Derived.Test.YtoojhdjdhhkkcaaOne
namespace Go.Proofs.Ytoojhdjdhhkkcaa
open Go.RowKit

theorem Bg.far_ {S : Nat → Prop} {N : Nat} {w w' : World} {bb R : Nat} {v : Value} {xs : List ByteArray} (h : Bg N w bb R v xs) (hk : Keep S w w') (h1 : ¬ S bb) (h2 : ∀ b, v.ownBlock = some b → ¬ S b) : Bg N w' bb R v xs :=
  ⟨h.ge, h.blk.keep hk h1, h.own.keep hk h2, h.few, h.room⟩

theorem Cm.look {w : World} {b n : Nat} {f : ByteArray → Int} {s : ByteArray} (hc : Cm w b n f) (hs : s.size ≤ maxLen) : (Instr.lookup 42 (.map (some b)) (.string s) false).run Try.prog w = .ok (.int .i64 (f s)) w := by
  obtain ⟨D, h1, h2⟩ := hc
  obtain ⟨c, hrun, hat, _⟩ := h1.lookup_int (Maps.string_keyed Try.underlying9) Try.underlying42 Try.underlying3 (zero3 w) (key_text s hs)
  rw [h2 s] at hat
  injection hat with hat
  injection hat with _ hat
  rw [hat]
  exact hrun

theorem other_iff {s : ByteArray} : s = other ↔ s.toList = [111, 116, 104, 101, 114] := by
  constructor
  · rintro rfl
    rw [ByteArray.toList_eq]
    rfl
  · intro h
    rw [ByteArray.toList_eq] at h
    exact ByteArray.ext (Array.ext' h)

theorem over_step {T : List ByteArray} {j : Nat} (h : j < T.length) : (List.replicate j other ++ T.drop j).set j other = List.replicate (j + 1) other ++ T.drop (j + 1) := by
  rw [List.set_append_right _ _ (by simp), List.length_replicate, Nat.sub_self, List.drop_eq_getElem_cons h, List.set_cons_zero, List.replicate_succ', List.append_assoc]
  rfl

theorem turns_step {w w4 wo w6 : World} {mb n j R c gx xc : Nat} {v4 : Value} {fs T : List ByteArray} {t : ByteArray}
    (hT : T.length = n) (hj : j < n) (ht : T[j]? = some t) (hbb : w.heap.size < w4.heap.size) (hvl : ∀ b, v4.ownBlock = some b → b < w4.heap.size)
    (hmb : w.heap.size ≤ mb) (hgx : gx < wo.heap.size ∧ gx ≠ mb ∧ w4.heap.size ≤ gx)
    (hc : ((cnt fs t : Nat) : Int) - ((cnt (T.take j) t : Nat) : Int) = (c : Int) + 1)
    (h : Cm wo mb (n + j) (fun s => ((cnt fs s : Nat) : Int) - ((cnt (T.take j) s : Nat) : Int)) ∧ Bg w.heap.size wo w.heap.size R v4 T ∧ Os w.heap.size wo (.slice (some ⟨gx, 0, none⟩) n xc) (List.replicate j other ++ T.drop j) ∧ Keep (fun _ => False) w wo)
    (h6 : Cm w6 mb (n + j + 1) (fun s => if s = t then (c : Int) else ((cnt fs s : Nat) : Int) - ((cnt (T.take j) s : Nat) : Int))) (hk6 : Keep (· = mb) wo w6) :
    Cm (w6.setCell ⟨gx, j, none⟩ (.string other)) mb (n + (j + 1)) (fun s => ((cnt fs s : Nat) : Int) - ((cnt (T.take (j + 1)) s : Nat) : Int)) ∧
      Bg w.heap.size (w6.setCell ⟨gx, j, none⟩ (.string other)) w.heap.size R v4 T ∧
      Os w.heap.size (w6.setCell ⟨gx, j, none⟩ (.string other)) (.slice (some ⟨gx, 0, none⟩) n xc) (List.replicate (j + 1) other ++ T.drop (j + 1)) ∧
      Keep (fun _ => False) w (w6.setCell ⟨gx, j, none⟩ (.string other)) := by
  obtain ⟨hcm, hbg, hos, hk⟩ := h
  have hks : Keep (· = gx) w6 (w6.setCell ⟨gx, j, none⟩ (.string other)) := (Keep.refl (· = gx) w6).setCell (p := ⟨gx, j, none⟩) (fun _ => rfl) _
  have hlen : (List.replicate j other ++ T.drop j).length = n := by
    rw [List.length_append, List.length_replicate, List.length_drop, hT]
    omega
  refine ⟨?_, ?_, ?_, ?_⟩
  · refine (h6.keep hks (fun e => hgx.2.1 e.symm)).congr (fun s => ?_) (by omega)
    rw [cnt_step ht]
    by_cases hs : s = t
    · rw [if_pos hs, if_pos hs, hs]
      omega
    · rw [if_neg hs, if_neg hs]
      omega
  · refine (hbg.far_ hk6 (hcm.ne hbg.blk) (fun b hb e => hcm.neo hbg.own (by rw [hb, e]))).far_ hks (fun e => ?_) (fun b hb e => ?_)
    · have e' : w.heap.size = gx := e
      omega
    · have e' : b = gx := e
      have := hvl b hb
      omega
  · have h1 := (hos.keep hk6 (fun b hb e => hcm.neo hos (by rw [hb, e]))).set_ (i := j) (by omega) other
    rw [over_step (by omega)] at h1
    exact h1
  · refine (hk.trans' hk6 (fun i hi e => ?_)).trans' hks (fun i hi e => ?_)
    · have e' : i = mb := e
      omega
    · have e' : i = gx := e
      omega
end Go.Proofs.Ytoojhdjdhhkkcaa
