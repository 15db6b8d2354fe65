/-
  What a law's row asks behind its walk, once for all laws: true is handed back, and nothing that was there has turned.
-/
import Derived.Test.YtegecjilpmkamaaOnea
import Derived.ProofKit
import Derived.OpenShut
namespace Go.Proofs.Ytegecjilpmkamaa
open Go.RowKit Go.ChangeShapes Go.WideShapes Go.ChangeAt Sb

theorem own : ownKnob Try.prog.godebug = none := by kernel_rfl
theorem laidOut : laidOutB Try.prog = true := by kernel_rfl

theorem trodAll_below {H : Type} {enc : TypeId × Value → H} {P : Program} (hl : laidOutB P = true) {W W' : World} (hb : Below W.heap.size W W') :
    ∀ (ts : List TypeId) (vs : List Value) (ds : List (DataW H)) (ps : List MemPlace), DataW.TrodAll enc P W 0 (fun _ => true) true ts vs ds ps → (∀ t ∈ ts, P.readableRec t = true ∧ t < P.types.size) → (∀ x ∈ ps, x.block < W.heap.size) →
      DataW.TrodAll enc P W' 0 (fun b => decide (b < W.heap.size)) true ts vs ds ps := by
  intro ts
  induction ts with
  | nil =>
    intro vs ds ps h _ _
    obtain ⟨rfl, rfl, rfl⟩ := trodAll_nil h
    exact trodAll_mk0
  | cons t ts ih =>
    intro vs ds ps h hr hp
    obtain ⟨v, vs1, d, ds1, a, b, rfl, rfl, rfl, h1, h2⟩ := trodAll_cons h
    exact trodAll_cons_mk (Below.trod hl (hr t (by simp)).1 (hr t (by simp)).2 h1 hb (fun x hx => hp x (by simp [hx]))) (ih vs1 ds1 b h2 (fun t ht => hr t (by simp [ht])) (fun x hx => hp x (by simp [hx])))

theorem post_law {H : Type} {enc : TypeId × Value → H} {f : Func} {s : ChangeSpec} {apart fresh handsOn : Bool} {W W' : World} {args : Array Value} {ds gs : List (DataW H)} {before : List MemPlace}
    (hW : DataW.Whole enc Try.prog f.params.toList s.vars apart W args.toList ds gs before) (hs : s.vars = [])
    (hres : (s.fn H (ds ++ gs)).results = [.lit (.bool true)]) (hargs : (s.fn H (ds ++ gs)).args = ds) (hvars : (s.fn H (ds ++ gs)).vars = [])
    (hr : f.resultTypes = #[4]) (hread : ∀ t ∈ f.params.toList, Try.prog.readableRec t = true ∧ t < Try.prog.types.size) (hb : Below W.heap.size W W') :
    s.post enc Try.prog f apart fresh handsOn false W args (.bool true) W' := by
  have hW' := hW
  obtain ⟨p, q, hA, hV, hpq, hfz, hnd⟩ := hW
  rw [hs] at hV
  have hV' := hV
  obtain ⟨rfl, rfl⟩ := trodVars_none hV'
  refine ⟨ds, [], before, [], p, [], hW', ?_, ?_, ?_, hb.frame _, fun h => by cases h⟩
  · rw [hres, hr]
    exact trodAll_cons_mk (shut_bool Try.underlying4 _) trodAll_mk0
  · rw [hargs]
    exact trodAll_below laidOut hb _ _ _ _ hA hread (fun x hx => by simpa using hW'.lt x (by rw [hpq]; simp [hx]))
  · rw [hs, hvars]
    rfl

/-- Where a law stands: fb holds its Field, in memory that is new since the law began; nothing that was there has turned. -/
structure Lw (w : World) (fb : Nat) (w' : World) : Prop where
  ge : w.heap.size ≤ fb
  at_ : FieldAt w' fb
  keep : Keep (fun _ => False) w w'

theorem Lw.start (w : World) : Lw w w.heap.size (w.alloc (.cells Try.zeroCells102 102)) := ⟨Nat.le_refl _, field_new w, (Keep.refl _ _).alloc _⟩
theorem Lw.q {w w1 w2 : World} {fb : Nat} (h : Lw w fb w1) (k : Fq fb w1 w2) : Lw w fb w2 :=
  ⟨h.ge, k.at_, h.keep.trans' k.keep (fun i hi e => by have := h.ge; omega)⟩
theorem Lw.p {w w1 w2 : World} {fb : Nat} (h : Lw w fb w1) (k : Fp fb w1 w2) : Lw w fb w2 := h.q k.q
theorem FieldAt.keep {w w' : World} {fb : Nat} {S : Nat → Prop} (h : FieldAt w fb) (k : Keep S w w') (hs : ¬ S fb) : FieldAt w' fb :=
  h.elim (fun h => .inl (h.keep k hs)) (fun h => .inr (h.keep k hs))
theorem Lw.k {w w1 w2 : World} {fb : Nat} (h : Lw w fb w1) (k : Keep (fun _ => False) w1 w2) : Lw w fb w2 :=
  ⟨h.ge, h.at_.keep k id, h.keep.trans k⟩
theorem Lw.below {w w1 : World} {fb : Nat} (h : Lw w fb w1) : Below w.heap.size w w1 := h.keep.below (Nat.le_refl _) (fun _ _ => id)

theorem u8_of_wf {n : Int} (h : (Lit.int .u8 n).wf = true) : ∃ u : UInt8, n = (u.toNat : Int) := by
  have hb := bounds_u8 h
  refine ⟨UInt8.ofNat n.toNat, ?_⟩
  rw [toNat_u8 (by omega)]
  omega
end Go.Proofs.Ytegecjilpmkamaa
