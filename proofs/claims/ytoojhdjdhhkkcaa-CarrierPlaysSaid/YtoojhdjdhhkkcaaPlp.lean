/-
  The words of the law CarrierPlays: acts, and how the play stands.
-/
import Derived.Test.YtoojhdjdhhkkcaaOne
import Derived.Test.YtoojhdjdhhkkcaaSpo
import Derived.Test.YtoojhdjdhhkkcaaRtn
import Derived.Test.YtoojhdjdhhkkcaaOpn
namespace Go.Proofs.Ytoojhdjdhhkkcaa
open Go.RowKit Go.ChangeShapes Go.WideShapes Go.ChangeAt

/-- An act, as it lies in the argument. -/
structure Act_ where
  kind : Int
  i : Int
  at_ : Int
  file : ByteArray
  bo : Option Addr
  bn : Nat
  bc : Nat
  by_ : List Int

/-- The acts of an argument. -/
def Acts (P : Nat → Prop) (w : World) (ao : Option Addr) (n : Nat) (A : List Act_) : Prop :=
  A.length = n ∧ ∀ (j : Nat) (c : Act_), A[j]? = some c → ∃ b o, ao = some ⟨b, o, none⟩ ∧ P b ∧ w.cell? ⟨b, o + j * 5, none⟩ = some (.int .i64 c.kind) ∧ w.cell? ⟨b, o + j * 5 + 1, none⟩ = some (.int .i64 c.i) ∧ w.cell? ⟨b, o + j * 5 + 2, none⟩ = some (.int .i64 c.at_) ∧ w.cell? ⟨b, o + j * 5 + 3, none⟩ = some (.string c.file) ∧ w.cell? ⟨b, o + j * 5 + 4, none⟩ = some (.slice c.bo c.bn c.bc) ∧ c.bn ≤ c.bc ∧ c.bc ≤ maxLen ∧ Nn P w c.bo c.bn c.by_ ∧
    (-9223372036854775808 ≤ c.i ∧ c.i ≤ 9223372036854775807) ∧ (-9223372036854775808 ≤ c.at_ ∧ c.at_ ≤ 9223372036854775807)

theorem Acts.keep {P S : Nat → Prop} {w w' : World} {ao : Option Addr} {n : Nat} {A : List Act_} (h : Acts P w ao n A) (hk : Keep S w w') (hs : ∀ b, b < w.heap.size → P b → ¬ S b) : Acts P w' ao n A := by
  refine ⟨h.1, fun j c hc => ?_⟩
  obtain ⟨b, o, e, hP, h0, h1, h2, h3, h4, h5, h6, h7, h8⟩ := h.2 j c hc
  have hlt : b < w.heap.size := World.block_lt_of_cell? w _ h0
  have hn := hs b hlt hP
  exact ⟨b, o, e, hP, (hk.cell (p := ⟨b, _, none⟩) hlt hn).trans h0, (hk.cell (p := ⟨b, _, none⟩) hlt hn).trans h1, (hk.cell (p := ⟨b, _, none⟩) hlt hn).trans h2, (hk.cell (p := ⟨b, _, none⟩) hlt hn).trans h3, (hk.cell (p := ⟨b, _, none⟩) hlt hn).trans h4, h5, h6, h7.keep hk hs, h8⟩

theorem tot_erase {xs : List ByteArray} {i : Nat} {s : ByteArray} (h : xs[i]? = some s) : tot (xs.eraseIdx i) + s.size = tot xs := (tot_get h).symm

theorem turn_facts : ∀ (l : List Int) (xs : List ByteArray), tot (turnL l xs) = tot xs ∧ ∀ s ∈ turnL l xs, s ∈ xs := by
  intro l
  induction l with
  | nil => intro xs; exact ⟨rfl, fun s h => h⟩
  | cons z l ih =>
    intro xs
    rcases Nat.eq_zero_or_pos xs.length with h0 | h0
    · have : xs = [] := List.length_eq_zero_iff.1 h0
      subst this
      exact ⟨rfl, fun s h => h⟩
    · have hk : kOf z xs.length < xs.length := Nat.mod_lt _ h0
      obtain ⟨s, hs⟩ : ∃ s, xs[kOf z xs.length]? = some s := ⟨_, List.getElem?_eq_getElem hk⟩
      rw [turnL_step rfl hs]
      obtain ⟨h1, h2⟩ := ih (xs.eraseIdx (kOf z xs.length))
      refine ⟨?_, fun t ht => ?_⟩
      · have h3 := tot_erase hs
        have h4 : tot (s :: turnL l (xs.eraseIdx (kOf z xs.length))) = s.size + tot (turnL l (xs.eraseIdx (kOf z xs.length))) := by simp [tot]
        omega
      · rcases List.mem_cons.1 ht with rfl | ht
        · exact List.mem_of_getElem? hs
        · exact List.mem_of_mem_eraseIdx (h2 t ht)
theorem tot_turnL (l : List Int) (xs : List ByteArray) : tot (turnL l xs) = tot xs := (turn_facts l xs).1
theorem mem_turnL {l : List Int} {xs : List ByteArray} {s : ByteArray} (h : s ∈ turnL l xs) : s ∈ xs := (turn_facts l xs).2 s h

set_option maxRecDepth 100000 in
theorem plays_no (R : Int) (v : Value) (w : World) (h : R < 0) :
    Calls Try.prog 3 #[.int .i64 R, v] w fun e w' => e = .returned (.bool true) ∧ Keep (fun _ => False) w w' := by
  go_enter Try.func3, Try.ntmps3
  go_wp2_with fail
  refine (new_no R w h).mono ?_
  rintro e w' ⟨rfl, rfl⟩
  go_wp2_with fail
  refine (one_any w).mono ?_
  rintro e w1 ⟨rfl, hk⟩
  have HK := Lib.hid hk
  clear hk
  go_wp2_with fail
  go_ret
  exact ⟨rfl, HK.out⟩

/-- How the play stands behind some acts: the bag, and the law's own list. -/
structure Pl (w : World) (bb R0 : Nat) (j : Nat) (wr : World) (R : Nat) (u v : Value) (xs : List ByteArray) : Prop where
  bag : Bg w.heap.size wr bb R u xs
  own : Os w.heap.size wr v xs
  apart : ∀ b, u.ownBlock = some b → v.ownBlock ≠ some b
  keep : Keep (fun _ => False) w wr
  few : xs.length ≤ 2 * j
  small : ∀ s ∈ xs, s.size ≤ 100
  sum : R + tot xs = R0
  base : w.heap.size ≤ bb

theorem Os.ne_ {N : Nat} {w : World} {v : Value} {xs : List ByteArray} (h : Os N w v xs) {g : Nat} {t : TypeId} {cs : Array Value} (hb : Blk w g t cs) (ht : t ≠ 9) : v.ownBlock ≠ some g := by
  intro e
  rcases h.2 with ⟨rfl, _⟩ | ⟨g', cap, cur, rfl, _, h5, _⟩
  · cases e
  · have h6 : Blk w g' 9 cur := h5
    exact Blk.ne_ h6 hb (fun e => ht e.symm) (Option.some.inj e)

theorem Os.text {N : Nat} {w : World} {v : Value} {xs : List ByteArray} (h : Os N w v xs) {i : Nat} {s : ByteArray} (hs : xs[i]? = some s) : ∃ g cap, v = .slice (some ⟨g, 0, none⟩) xs.length cap ∧ w.cell? ⟨g, i, none⟩ = some (.string s) ∧ w.frozen? ⟨g, i, none⟩ = false ∧ g < w.heap.size ∧ N ≤ g ∧ xs.length ≤ cap := by
  have hi : i < xs.length := (List.getElem?_eq_some_iff.1 hs).1
  obtain ⟨g, cap, cur, hv, hg, hb, hcap, hmx, hsz, htk⟩ := h.blk (by omega)
  refine ⟨g, cap, hv, ?_, hb.frozen i, hb.lt, hg, hcap⟩
  rw [hb.cell, ← Array.getElem?_toList]
  have h1 : (cur.toList.take xs.length)[i]? = some (.string s) := by rw [htk, List.getElem?_map, hs]; rfl
  rw [List.getElem?_take, if_pos hi] at h1
  exact h1

theorem Bg.far {S : Nat → Prop} {N : Nat} {w w' : World} {bb R : Nat} {v : Value} {xs : List ByteArray} (h : Bg N w bb R v xs) (hk : Keep S w w') (h1 : ¬ S bb) (h2 : ∀ b, v.ownBlock = some b → ¬ S b) : Bg N w' bb R v xs :=
  ⟨h.ge, h.blk.keep hk h1, h.own.keep hk h2, h.few, h.room⟩

theorem Pl.k {w wr w' : World} {bb R0 j R : Nat} {u v : Value} {xs : List ByteArray} (h : Pl w bb R0 j wr R u v xs) (hk : Keep (fun _ => False) wr w') : Pl w bb R0 j w' R u v xs :=
  ⟨h.bag.k hk, h.own.keep hk (fun _ _ => id), h.apart, h.keep.trans hk, h.few, h.small, h.sum, h.base⟩

/-- Behind an act of the bag: the law's own list, and what lay apart, are as they were. -/
theorem Pl.tn {w wr w' : World} {bb R0 j R : Nat} {u u' v : Value} {xs : List ByteArray} (h : Pl w bb R0 j wr R u v xs) (ht : Tn bb wr u w' u') :
    Os w.heap.size w' v xs ∧ Keep (fun _ => False) w w' ∧ (∀ b, u'.ownBlock = some b → v.ownBlock ≠ some b) ∧ ∀ (g : Nat) (cs : Array Value), Blk wr g 31 cs → Blk w' g 31 cs := by
  have hvv : ∀ b, v.ownBlock = some b → ¬ bagS bb u b := fun b hb hs => by
    rcases hs with hs | hs
    · rw [hs] at hb
      exact h.own.ne h.bag.blk hb
    · exact h.apart b hs hb
  refine ⟨h.own.keep ht.keep hvv, h.keep.trans' ht.keep (fun i hi hs => ?_), fun b hb e => ?_, fun g cs hg => hg.keep ht.keep (fun hs => ?_)⟩
  · rcases hs with hs | hs
    · have := h.base; omega
    · have := (h.bag.own.lt hs).1; omega
  · rcases ht.own b hb with h1 | h1
    · exact h.apart b h1 e
    · have := (h.own.lt e).2; omega
  · rcases hs with hs | hs
    · exact Blk.ne_ hg h.bag.blk (by decide) hs
    · exact h.bag.own.ne_ hg (by decide) hs

theorem byte_of (c : Nat) (h : c ≤ 100) : ∃ x : UInt8, x.toNat = c ∧ IntKind.u8.wrap (c : Int) = (x.toNat : Int) := by
  have h1 : (UInt8.ofNat c).toNat = c := by simp; omega
  refine ⟨UInt8.ofNat c, h1, ?_⟩
  rw [h1]
  simp only [IntKind.wrap, IntKind.bits, IntKind.signed, Bool.false_and, Bool.false_eq_true, if_false]
  omega

theorem fit2_lt {R : Nat} {f : ByteArray} {q : Nat} (h : q < (fitL R [f, f]).length) : q < 2 ∧ (fitL R [f, f])[q]? = some f ∧ f.size ≤ R - tot ((fitL R [f, f]).take q) := by
  by_cases h1 : f.size ≤ R
  · by_cases h2 : f.size ≤ R - f.size
    · rw [fitL, if_pos h1, fitL, if_pos h2, fitL] at h ⊢
      rcases q with _ | _ | q
      · exact ⟨by omega, rfl, by simpa [tot] using h1⟩
      · exact ⟨by omega, rfl, by simpa [tot] using h2⟩
      · exact absurd h (by rw [show [f, f].length = 2 from rfl]; omega)
    · rw [fitL, if_pos h1, fitL, if_neg h2] at h ⊢
      rcases q with _ | q
      · exact ⟨by omega, rfl, by simpa [tot] using h1⟩
      · simp at h
  · rw [fitL, if_neg h1] at h
    simp at h

theorem fit2_end (R : Nat) (f : ByteArray) : (fitL R [f, f]).length = 2 ∨ ((fitL R [f, f]).length < 2 ∧ R - tot (fitL R [f, f]) < f.size) := by
  by_cases h1 : f.size ≤ R
  · by_cases h2 : f.size ≤ R - f.size
    · rw [fitL, if_pos h1, fitL, if_pos h2, fitL]
      exact .inl rfl
    · rw [fitL, if_pos h1, fitL, if_neg h2]
      exact .inr ⟨by simp, by simp [tot]; omega⟩
  · rw [fitL, if_neg h1]
    exact .inr ⟨by simp, by simp [tot]; omega⟩

theorem fit2_mem {R : Nat} {f : ByteArray} : ∀ s ∈ fitL R [f, f], s = f := by
  intro s hs
  obtain ⟨i, hi, rfl⟩ := List.getElem_of_mem hs
  have := (fit2_lt hi).2.1
  rw [List.getElem?_eq_getElem hi] at this
  exact Option.some.inj this


theorem open_acts {H : Type} {enc : TypeId × Value → H} {W : World} {base : Nat} {v : Value} {d : DataW H} {p : List MemPlace} (hv : Value.okWide Try.prog W .any base 22 v) (h : DataW.Trod enc Try.prog W 0 (fun _ => true) true 22 v d p) :
    ∃ ao n cap A, v = .slice ao n cap ∧ n ≤ cap ∧ cap ≤ maxLen ∧ Acts (· < W.heap.size) W ao n A := by
  obtain ⟨a, len, cap, rfl⟩ := okWide_slice Try.underlying22 hv
  obtain ⟨fuel, hf⟩ := h
  rcases open_slice_fields Try.underlying22 Try.underlying31 (by kernel_rfl) (by kernel_rfl) hf with ⟨hcs, _⟩ | ⟨x, l, c, m, hcs, _, hl, hm, hmm, hi⟩
  · simp [Value.cells] at hcs
    obtain ⟨rfl, rfl, rfl⟩ := hcs
    exact ⟨none, 0, 0, [], rfl, Nat.le_refl _, Nat.zero_le _, rfl, fun j c hc => by simp at hc⟩
  · simp [Value.cells] at hcs
    obtain ⟨rfl, rfl, rfl⟩ := hcs
    simp only [if_true] at hmm

    have one : ∀ i, i < m → ∃ r : Act_, W.cell? (x.add (i * 5)) = some (.int .i64 r.kind) ∧ W.cell? (x.add (i * 5 + 1)) = some (.int .i64 r.i) ∧ W.cell? (x.add (i * 5 + 2)) = some (.int .i64 r.at_) ∧ W.cell? (x.add (i * 5 + 3)) = some (.string r.file) ∧ W.cell? (x.add (i * 5 + 4)) = some (.slice r.bo r.bn r.bc) ∧ r.bn ≤ r.bc ∧ r.bc ≤ maxLen ∧ Nn (· < W.heap.size) W r.bo r.bn r.by_ ∧
        (-9223372036854775808 ≤ r.i ∧ r.i ≤ 9223372036854775807) ∧ (-9223372036854775808 ≤ r.at_ ∧ r.at_ ≤ 9223372036854775807) := by
      intro i hic
      obtain ⟨n, hfs⟩ := hi i hic
      obtain ⟨v0, y0, c0, t0⟩ := hfs 0 _ rfl
      obtain ⟨v1, y1, c1, t1⟩ := hfs 1 _ rfl
      obtain ⟨v2, y2, c2, t2⟩ := hfs 2 _ rfl
      obtain ⟨v3, y3, c3, t3⟩ := hfs 3 _ rfl
      obtain ⟨v4, y4, c4, t4⟩ := hfs 4 _ rfl
      obtain ⟨a0, e0, _, w0⟩ := DataW.trod_int Try.underlying3 t0
      obtain ⟨a1, e1, _, w1⟩ := DataW.trod_int Try.underlying3 t1
      obtain ⟨a2, e2, _, w2⟩ := DataW.trod_int Try.underlying3 t2
      obtain ⟨s3, e3, _, _⟩ := DataW.trod_string Try.underlying9 t3
      obtain ⟨ao, an, ac, l4, e4, h1, h2, h3⟩ := nums_in t4
      cases e0
      cases e1
      cases e2
      cases e3
      subst e4
      exact ⟨⟨a0, a1, a2, s3, ao, an, ac, l4⟩, c0, c1, c2, c3, c4, h1, h2, h3, bounds_i64 w1, bounds_i64 w2⟩
    have inh : Inhabited Act_ := ⟨⟨0, 0, 0, ⟨#[]⟩, none, 0, 0, []⟩⟩
    obtain ⟨f, hfA⟩ := Go.Deep.choose_lt one
    refine ⟨some x, len, cap, (List.range len).map f, rfl, hl, hm, by simp, fun j c hc => ?_⟩
    have hj : j < len := by
      have := (List.getElem?_eq_some_iff.1 hc).1
      simpa using this
    rw [List.getElem?_map, List.getElem?_range hj] at hc
    have hc' : f j = c := by simpa using hc
    subst hc'
    obtain ⟨k0, k1, k2, k3, k4, k5⟩ := hfA j (by omega)
    obtain ⟨b, o, rfl⟩ := addr_of_cell (hfA 0 (by omega)).1
    rw [Go.WideShapes.add_plain] at k0 k1 k2 k3 k4
    exact ⟨b, o, rfl, World.block_lt_of_cell? W _ k0, k0, k1, k2, k3, k4, k5⟩
end Go.Proofs.Ytoojhdjdhhkkcaa
