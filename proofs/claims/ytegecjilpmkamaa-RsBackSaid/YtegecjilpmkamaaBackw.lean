/-
  Words for an own matrix whose rows differ in length; the walk of slices.Clone over bytes.
-/
import Derived.Test.YtegecjilpmkamaaGrow
import Derived.Test.YtegecjilpmkamaaMk
import Derived.Test.YtegecjilpmkamaaLin
namespace Go.Proofs.Ytegecjilpmkamaa
open Go.RowKit Sb

theorem Gb.bs_ne {N : Nat} {w : World} {v : Value} {xs : List UInt8} {g : Nat} {cs : Array Value} (h : Gb N w v xs) (hg : Blk w g 33 cs) : Bs (fun b => N ≤ b ∧ b ≠ g ∧ v.ownBlock = some b) w v xs := by
  rcases h.2 with ⟨rfl, h4⟩ | ⟨q, cap, cur, rfl, h4, h5, h6, h7, h8, h9⟩
  · have hx : xs = [] := List.length_eq_zero_iff.1 h4
    subst hx
    exact ⟨none, 0, 0, rfl, Nat.le_refl _, Nat.zero_le _, Rv.nil w none⟩
  · have h10 : Blk w q 5 cur := h5
    refine ⟨_, _, cap, rfl, h6, h7, ⟨by simp, fun hn => ⟨q, 0, rfl, ⟨h4, Blk.ne_ h10 hg (by decide), rfl⟩, fun i u hu => ?_⟩⟩⟩
    rw [Nat.zero_add, h10.cell]
    rw [Nat.mul_one] at h9
    rw [← h9, List.getElem?_take] at hu
    split at hu
    · rw [← Array.getElem?_toList]
      exact hu
    · cases hu

set_option maxRecDepth 100000 in
set_option maxHeartbeats 1000000 in
/-- slices.Clone of bytes that are not none. -/
theorem clone_89 (P : Nat → Prop) (ao : Option Addr) (n cap : Nat) (xs : List UInt8) (w : World) (hr : Rb P w ao n xs) (h0 : 0 < n) (hn : n ≤ 140737488355328) :
    Calls Try.prog 89 #[.slice ao n cap] w fun e w' => ∃ v, e = .returned v ∧ Gb w.heap.size w' v xs ∧ Keep (fun _ => False) w w' := by
  obtain ⟨i0, hi0, hz0, hz1, hz2⟩ := info_parts info5
  obtain ⟨b, o, x, rfl, _⟩ := hr.at_ h0
  have hnl := fun w a n c => Lib.run_eql_slice_nil (P := Try.prog) w 33 5 a n c 0 0 Try.underlying33
  have hlen := Lib.hid hr.len
  have HR := Lib.hid hr
  clear hr
  go_enter Try.func89, Try.ntmps89
  go_wp2_with (first
    | (at_builtin; refine wpl_append _ rfl (.tmp 5) (.tmp 6) 33 rfl w.heap.size 5 i0 (.int .u8 0) 1 Try.underlying33 hi0 hz0 hz1 hz2 rfl (.slice (some ⟨w.heap.size, 0, none⟩) 0 0) 0 [] rfl (World.ownsRow_made w #[] 0 (Nat.le_refl _) (Nat.zero_le _) rfl) P _ n cap (xs.map bv) rfl ((HR).out.keep ((Keep.refl (fun _ => False) w).alloc _) (fun _ _ _ => id)) bytes_one (by unfold maxLen; omega) (by omega) (by simp) ?_; intro v1 w1 hown1 hg1 hnil1 hat1))
  have HK : Hid (Keep (fun _ => False) w w1) := ((Keep.refl _ w).alloc _).grown hg1 (fun k hk h => by simp [Value.ownBlock] at hk; omega)
  have HG : Hid (Gb w.heap.size w1 v1 xs) := by
    show w1.ownsRow w.heap.size 5 1 v1 xs.length (xs.map bv)
    rw [hlen.out]
    simpa using hown1
  clear hown1 hg1 hnil1 hat1
  go_wp2_with fail
  go_ret
  exact ⟨_, rfl, HG.out, HK.out⟩

/-- How an own matrix stands while it is widened or narrowed: row i reads as ls i, in blocks that R lets; the block of the rows is g. -/
def Ow (R : Nat → Prop) (w : World) (g n : Nat) (ls : Nat → List UInt8) : Prop :=
  ∃ us : List Value, Blk w g 33 us.toArray ∧ us.length = n ∧ ∀ (i : Nat) (u : Value), us[i]? = some u → Bs (fun b => R b ∧ b ≠ g) w u (ls i)

theorem Ow.keep {R S : Nat → Prop} {w w' : World} {g n : Nat} {ls : Nat → List UInt8} (h : Ow R w g n ls) (hk : Keep S w w') (hg : ¬ S g) (hs : ∀ b, b < w.heap.size → R b → b ≠ g → ¬ S b) : Ow R w' g n ls := by
  obtain ⟨us, h1, h2, h3⟩ := h
  exact ⟨us, h1.keep hk hg, h2, fun i u hu => (h3 i u hu).keep hk (fun b hb hp => hs b hb hp.1 hp.2)⟩

theorem Ow.at_ {R : Nat → Prop} {w : World} {g n i : Nat} {ls : Nat → List UInt8} (h : Ow R w g n ls) (hi : i < n) :
    ∃ ao k cap, w.cell? ⟨g, i, none⟩ = some (.slice ao k cap) ∧ w.frozen? ⟨g, i, none⟩ = false ∧ k ≤ cap ∧ cap ≤ maxLen ∧ Rb (fun b => R b ∧ b ≠ g) w ao k (ls i) := by
  obtain ⟨us, h1, h2, h3⟩ := h
  have hl : i < us.length := by omega
  have hu := List.getElem?_eq_getElem hl
  obtain ⟨ao, k, cap, e, h4, h5, h6⟩ := h3 i _ hu
  refine ⟨ao, k, cap, ?_, h1.frozen i, h4, h5, h6⟩
  rw [h1.cell, List.getElem?_toArray, hu, e]

theorem Ow.set_ {R : Nat → Prop} {w : World} {g n i : Nat} {ls : Nat → List UInt8} (h : Ow R w g n ls) {u : Value} {f : List UInt8} (hu : Bs (fun b => R b ∧ b ≠ g) w u f) :
    Ow R (w.setCell ⟨g, i, none⟩ u) g n (fun k => if k = i then f else ls k) := by
  obtain ⟨us, h1, h2, h3⟩ := h
  have hk : Keep (· = g) w (w.setCell ⟨g, i, none⟩ u) := (Keep.refl (· = g) w).setCell (p := ⟨g, i, none⟩) (fun _ => rfl) u
  refine ⟨us.set i u, ?_, by simpa using h2, fun k v hv => ?_⟩
  · have := h1.set_ i u
    rwa [← List.setIfInBounds_toArray] at *
  · dsimp only
    by_cases hki : k = i
    · subst hki
      rw [if_pos rfl]
      have hl : k < us.length := by
        have := (List.getElem?_eq_some_iff.1 hv).1
        simpa using this
      rw [List.getElem?_set_self hl] at hv
      cases hv
      exact hu.keep hk (fun b _ hp e => hp.2 e)
    · rw [if_neg hki]
      rw [List.getElem?_set_ne (fun e => hki e.symm)] at hv
      exact (h3 k v hv).keep hk (fun b _ hp e => hp.2 e)

theorem Ow.congr {R : Nat → Prop} {w : World} {g n : Nat} {ls ls' : Nat → List UInt8} (h : Ow R w g n ls) (e : ∀ i, i < n → ls i = ls' i) : Ow R w g n ls' := by
  obtain ⟨us, h1, h2, h3⟩ := h
  refine ⟨us, h1, h2, fun i u hu => ?_⟩
  have hi : i < n := by
    have := (List.getElem?_eq_some_iff.1 hu).1
    omega
  rw [← e i hi]
  exact h3 i u hu

theorem Ow.om {N : Nat} {w : World} {g n c : Nat} {F : Nat → Nat → UInt8} (h : Ow (fun b => N ≤ b) w g n (fun i => rowOf c (F i))) : Om N w g n c F := h
theorem Om.ow {N : Nat} {w : World} {g n c : Nat} {F : Nat → Nat → UInt8} (h : Om N w g n c F) : Ow (fun b => N ≤ b) w g n (fun i => rowOf c (F i)) := h

/-- A matrix with the one that changes nothing behind it. -/
def wideE (n : Nat) (F : Nat → Nat → UInt8) (i j : Nat) : UInt8 := if j < n then F i j else idE i (j - n)

theorem wide_row (n : Nat) (F : Nat → Nat → UInt8) (i : Nat) : rowOf n (F i) ++ oneRow n i = rowOf (n + n) (wideE n F i) := by
  apply List.ext_getElem?
  intro j
  rw [List.getElem?_append, rowOf_len]
  by_cases h : j < n
  · rw [if_pos h, rowOf_get _ h, rowOf_get _ (by omega), wideE, if_pos h]
  · rw [if_neg h]
    by_cases h2 : j < n + n
    · have e : (oneRow n i)[j - n]? = some (idE i (j - n)) := rowOf_get (c := n) (fun j => if i = j then 1 else 0) (by omega)
      rw [e, rowOf_get _ h2, wideE, if_neg h]
    · rw [List.getElem?_eq_none (by simp [oneRow]; omega), List.getElem?_eq_none (by rw [rowOf_len]; omega)]

/-- The first step: rows from k on lie as they were made. -/
def Wid (N : Nat) (w : World) (g : Nat) (G : Nat → Nat) (n : Nat) (F : Nat → Nat → UInt8) (k : Nat) : Prop :=
  N ≤ g ∧ (∀ i j, i < n → j < n → i ≠ j → G i ≠ G j) ∧ ∃ us : List Value, Blk w g 33 us.toArray ∧ us.length = n ∧
    (∀ (i : Nat) (u : Value), i < k → us[i]? = some u → Bs (fun b => N ≤ b ∧ b ≠ g ∧ ∀ i, k ≤ i → i < n → b ≠ G i) w u (rowOf (n + n) (wideE n F i))) ∧
    ∀ i, k ≤ i → i < n → us[i]? = some (.slice (some ⟨G i, 0, none⟩) n n) ∧ N ≤ G i ∧ Blk w (G i) 5 (bcells (rowOf n (F i)))

theorem Wid.start {N : Nat} {w : World} {g : Nat} {G : Nat → Nat} {n : Nat} {F : Nat → Nat → UInt8} (h : Fl N w g G n n (fun i => rowOf n (F i))) : Wid N w g G n F 0 := by
  obtain ⟨h1, cs, h2, h3, h4, h5⟩ := h
  refine ⟨h1, fun i j hi hj hij => h5 i j hi hj hij, cs.toList, h2, by rw [Array.length_toList]; exact h3, fun i u hi => absurd hi (Nat.not_lt_zero _), fun i _ hi => ?_⟩
  obtain ⟨q1, q2, q3, _⟩ := h4 i hi
  exact ⟨by rw [Array.getElem?_toList]; exact q1, q2, q3⟩

theorem Wid.done {N : Nat} {w : World} {g : Nat} {G : Nat → Nat} {n : Nat} {F : Nat → Nat → UInt8} (h : Wid N w g G n F n) : Om N w g n (n + n) (wideE n F) := by
  obtain ⟨_, _, us, h2, h3, h4, _⟩ := h
  refine ⟨us, h2, h3, fun i u hu => ?_⟩
  have hi : i < n := by
    have := (List.getElem?_eq_some_iff.1 hu).1
    omega
  exact (h4 i u hi hu).mono (fun b _ hb => ⟨hb.1, hb.2.1⟩)

/-- One row is widened: it is told by a new value, that lies in its old block or in a new one. -/
theorem Wid.step {N : Nat} {w w' : World} {g : Nat} {G : Nat → Nat} {n k : Nat} {F : Nat → Nat → UInt8} {v : Value} (h : Wid N w g G n F k) (hk : k < n) (hkp : Keep (fun b => b = G k) w w') (hgb : Gb N w' v (rowOf (n + n) (wideE n F k)))
    (hat : ∀ b, v.ownBlock = some b → b = G k ∨ w.heap.size ≤ b) : Wid N (w'.setCell ⟨g, k, none⟩ v) g G n F (k + 1) := by
  obtain ⟨h0, hinj, us, h2, h3, h4, h5⟩ := h
  have hgk : g ≠ G k := (Blk.ne_ (h5 k (Nat.le_refl _) hk).2.2 h2 (by decide)).symm
  have h2' := h2.keep hkp hgk
  have hs : Keep (· = g) w' (w'.setCell ⟨g, k, none⟩ v) := (Keep.refl (· = g) w').setCell (p := ⟨g, k, none⟩) (fun _ => rfl) v
  have hlt : ∀ i, k ≤ i → i < n → G i < w.heap.size := fun i h6 h7 => (h5 i h6 h7).2.2.lt
  refine ⟨h0, hinj, us.set k v, ?_, by simpa using h3, fun i u hi hu => ?_, fun i hi hin => ?_⟩
  · have := h2'.set_ k v
    rwa [← List.setIfInBounds_toArray] at *
  · by_cases hik : i = k
    · subst hik
      rw [List.getElem?_set_self (by omega)] at hu
      cases hu
      have h8 := (hgb.bs_ne h2').keep hs (fun b _ hp e => hp.2.1 e)
      refine h8.mono (fun b _ hp => ⟨hp.1, hp.2.1, fun j hj hjn e => ?_⟩)
      rcases hat b hp.2.2 with h6 | h6
      · exact hinj i j hk hjn (by omega) (by rw [← h6, e])
      · have := hlt j (by omega) hjn
        omega
    · rw [List.getElem?_set_ne (fun e => hik e.symm)] at hu
      have h6 := h4 i u (by omega) hu
      have h7 := h6.keep hkp (fun b _ hp e => hp.2.2 k (Nat.le_refl _) hk e)
      exact (h7.keep hs (fun b _ hp e => hp.2.1 e)).mono (fun b _ hp => ⟨hp.1, hp.2.1, fun j hj hjn => hp.2.2 j (by omega) hjn⟩)
  · obtain ⟨q1, q2, q3⟩ := h5 i (by omega) hin
    refine ⟨by rw [List.getElem?_set_ne (by omega)]; exact q1, q2, ?_⟩
    have h6 : Blk w' (G i) 5 (bcells (rowOf n (F i))) := q3.keep hkp (fun e => hinj i k hin hk (by omega) e)
    exact h6.keep hs (fun e => Blk.ne_ h6 h2' (by decide) e)

theorem Wid.keep {N : Nat} {w w' : World} {g : Nat} {G : Nat → Nat} {n k : Nat} {F : Nat → Nat → UInt8} (h : Wid N w g G n F k) (hk : Keep (fun _ => False) w w') : Wid N w' g G n F k := by
  obtain ⟨h0, hinj, us, h2, h3, h4, h5⟩ := h
  exact ⟨h0, hinj, us, h2.keep hk id, h3, fun i u hi hu => (h4 i u hi hu).keep hk (fun _ _ _ => id), fun i hi hin => ⟨(h5 i hi hin).1, (h5 i hi hin).2.1, (h5 i hi hin).2.2.keep hk id⟩⟩

theorem Wid.at_ {N : Nat} {w : World} {g : Nat} {G : Nat → Nat} {n k : Nat} {F : Nat → Nat → UInt8} (h : Wid N w g G n F k) (hk : k < n) :
    w.cell? ⟨g, k, none⟩ = some (.slice (some ⟨G k, 0, none⟩) n n) ∧ w.frozen? ⟨g, k, none⟩ = false ∧ N ≤ G k ∧ Blk w (G k) 5 (bcells (rowOf n (F k))) ∧ g < w.heap.size ∧ g ≠ G k := by
  obtain ⟨h0, hinj, us, h2, h3, h4, h5⟩ := h
  obtain ⟨q1, q2, q3⟩ := h5 k (Nat.le_refl _) hk
  exact ⟨by rw [h2.cell, List.getElem?_toArray, q1], h2.frozen k, q2, q3, h2.lt, (Blk.ne_ q3 h2 (by decide)).symm⟩

theorem Gb.of_blk {N : Nat} {w : World} {g : Nat} {xs : List UInt8} (h : Blk w g 5 (bcells xs)) (hg : N ≤ g) (hl : xs.length ≤ maxLen) : Gb N w (.slice (some ⟨g, 0, none⟩) xs.length xs.length) xs :=
  ⟨by simp, .inr ⟨g, xs.length, bcells xs, rfl, hg, h, Nat.le_refl _, hl, by simp [bcells], by simp [bcells]; exact List.take_of_length_le (by simp)⟩⟩
end Go.Proofs.Ytegecjilpmkamaa
