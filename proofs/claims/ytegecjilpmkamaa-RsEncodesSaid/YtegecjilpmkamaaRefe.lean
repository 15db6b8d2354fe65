/-
  The walk of the reference's Encode.
-/
import Derived.Test.YtegecjilpmkamaaRsa
namespace Go.Proofs.Ytegecjilpmkamaa
open Go.RowKit Sb

/-- As Gr, and no row is nil. -/
def Grt (P : Nat → Prop) (N : Nat) (w : World) (v : Value) (m : List (List UInt8)) : Prop :=
  ∃ us, w.ownsRow N 33 1 v m.length us ∧ thereB us = true ∧ ∀ (i : Nat) (u : Value) (r : List UInt8), us[i]? = some u → m[i]? = some r → Bs (fun b => P b ∧ v.ownBlock ≠ some b) w u r

theorem Grt.gr {P : Nat → Prop} {N : Nat} {w : World} {v : Value} {m : List (List UInt8)} (h : Grt P N w v m) : Gr P N w v m := by
  obtain ⟨us, h1, _, h2⟩ := h
  exact ⟨us, h1, h2⟩

theorem Grt.empty (P : Nat → Prop) (N : Nat) (w : World) (h : N ≤ w.heap.size) : Grt P N (w.alloc (.cells #[] 33)) (.slice (some ⟨w.heap.size, 0, none⟩) 0 0) [] :=
  ⟨[], ⟨rfl, .inr ⟨w.heap.size, 0, #[], rfl, h, Blk.new w 33 #[], Nat.le_refl _, by unfold maxLen; omega, rfl, rfl⟩⟩, rfl, fun i u r h => by simp at h⟩

theorem Grt.keep {P S : Nat → Prop} {N : Nat} {w w' : World} {v : Value} {m : List (List UInt8)} (h : Grt P N w v m) (hk : Keep S w w') (hv : ∀ b, v.ownBlock = some b → ¬ S b) (hs : ∀ b, b < w.heap.size → P b → v.ownBlock ≠ some b → ¬ S b) : Grt P N w' v m := by
  obtain ⟨us, h1, h0, h2⟩ := h
  refine ⟨us, ⟨h1.1, ?_⟩, h0, fun i u r hu hr => (h2 i u r hu hr).keep hk (fun b hb hp => hs b hb hp.1 hp.2)⟩
  rcases h1.2 with h3 | ⟨g, cap, cur, rfl, h4, h5, h6⟩
  · exact .inl h3
  · exact .inr ⟨g, cap, cur, rfl, h4, (Blk.keep (w := w) (w' := w') h5 hk (hv g rfl)), h6⟩

theorem Grt.mv {P : Nat → Prop} {N : Nat} {w : World} {ao : Option Addr} {n cap : Nat} {m : List (List UInt8)} (h : Grt P N w (.slice ao n cap) m) : ∃ us, Mv (fun b => P b ∨ N ≤ b) w ao n us m ∧ thereB us = true := by
  obtain ⟨us, h1, h0, h2⟩ := h
  have hul : us.length = m.length := by have := h1.1; omega
  rcases h1.2 with ⟨h3, h4⟩ | ⟨g, cap, cur, h3, h4, h5, h6, h7, h8, h9⟩
  · cases h3
    have hm : m = [] := List.length_eq_zero_iff.1 h4
    subst hm
    exact ⟨[], Mv.nil w none, rfl⟩
  · cases h3
    refine ⟨us, ⟨⟨hul, fun _ => ⟨g, 0, rfl, .inr h4, fun i u hu => ?_⟩⟩, rfl, fun i u r hu hr => (h2 i u r hu hr).mono (fun b _ hp => .inl hp.1)⟩, h0⟩
    have h10 : Blk w g 33 cur := h5
    rw [Nat.zero_add, h10.cell]
    rw [Nat.mul_one] at h9
    rw [← h9, List.getElem?_take] at hu
    split at hu
    · rw [← Array.getElem?_toList]
      exact hu
    · cases hu

theorem wpl_growt (w : World) {ops : Array Oper} {rest : List Oper} {o : Oper} {a : Act} {Q : Exit → Act → World → Prop} (hgd : o.guard = none) (s x : Operand) (t : TypeId) (ht : Try.prog.underlying t = some (.slice 33))
    (ho : o.op = .call { callee := .builtin .append, args := #[s, x], argTypes := #[t, t] })
    (P R : Nat → Prop) (N : Nat) (v : Value) (m : List (List UInt8)) (hs : a.eval s = v) (hown : Grt P N w v m)
    (A : Option Addr) (k c : Nat) (news : List Value) (rs : List (List UInt8)) (hx : a.eval x = .slice A k c) (hr : Rv R w A k news) (hl : rs.length = k) (hth : thereB news = true)
    (hrows : ∀ (i : Nat) (u : Value) (r : List UInt8), news[i]? = some u → rs[i]? = some r → Bs (fun b => P b ∧ v.ownBlock ≠ some b) w u r)
    (hlen : m.length + k ≤ 100000) (hN : N ≤ w.heap.size)
    (h : ∀ v' w', Grt P N w' v' (m ++ rs) → Keep (fun b => v.ownBlock = some b) w w' → (∀ b, v'.ownBlock = some b → v.ownBlock = some b ∨ b = w.heap.size) → wpList Try.prog ops Q rest (a.put o.dst v') w') :
    wpList Try.prog ops Q (o :: rest) a w := by
  obtain ⟨us, h1, h0, h2⟩ := hown
  obtain ⟨i0, hi0, hz0, hz1, hz2⟩ := info_parts info33
  have hnl : news.length = k := hr.1
  have h1c : ∀ u ∈ news, u.oneCell' = true := by
    intro u hu
    obtain ⟨i, hi, e⟩ := List.getElem_of_mem hu
    have hi' : i < rs.length := by omega
    obtain ⟨_, _, _, rfl, _⟩ := hrows i u _ (by rw [List.getElem?_eq_getElem hi, e]) (List.getElem?_eq_getElem hi')
    rfl
  refine wpl_append w hgd s x t ho N 33 i0 (.slice none 0 0) 24 ht hi0 hz0 hz1 hz2 rfl v m.length us hs h1 R A k c news hx hr h1c (by unfold maxLen; omega) (by omega) hN ?_
  intro v' w' g1 g2 g3 g4
  have hk : Keep (fun b => v.ownBlock = some b) w w' := (Keep.refl _ w).grown g2 (fun k hk _ => hk)
  have hvlt : ∀ b, v.ownBlock = some b → b < w.heap.size := fun b hb => (h1.lt b hb).2
  have hfr : ∀ b, b < w.heap.size → v.ownBlock ≠ some b → v'.ownBlock ≠ some b := by
    intro b hb hne
    rcases g4 with e | e
    · rw [e]; exact hne
    · rw [e]
      intro e2
      have := Option.some.inj e2
      omega
  refine h v' w' ⟨us ++ news, ?_, by rw [thereB, List.all_append, Bool.and_eq_true]; exact ⟨h0, hth⟩, fun i u r hu hr2 => ?_⟩ hk (fun b hb => ?_)
  · rw [List.length_append, hl]
    exact g1
  · have hul : us.length = m.length := by have := h1.1; omega
    have hB : Bs (fun b => P b ∧ v.ownBlock ≠ some b) w u r := by
      rw [List.getElem?_append] at hu hr2
      by_cases hi : i < us.length
      · rw [if_pos hi] at hu
        rw [if_pos (by omega)] at hr2
        exact h2 i u r hu hr2
      · rw [if_neg hi] at hu
        rw [if_neg (by omega)] at hr2
        rw [hul] at hu
        exact hrows _ u r hu hr2
    have hB2 : Bs (fun b => P b ∧ v'.ownBlock ≠ some b) w u r := hB.mono (fun b hb hp => ⟨hp.1, hfr b hb hp.2⟩)
    obtain ⟨ao, n', cap', e, q1, q2, q3⟩ := hB
    refine ⟨ao, n', cap', e, q1, q2, ?_⟩
    have q4 := q3.keep hk (fun b _ hp e => hp.2 e)
    refine ⟨q4.1, fun hn => ?_⟩
    obtain ⟨b, o', e1, e2, e3⟩ := q4.2 hn
    obtain ⟨b', o2, e4, e5, e6⟩ := q3.2 hn
    rw [e1] at e4
    cases e4
    have hbl : b < w.heap.size := by
      have hpos : 0 < (r.map bv).length := by have := q3.1; omega
      exact World.block_lt_of_cell? w _ (e6 0 _ (List.getElem?_eq_getElem hpos))
    exact ⟨b, o', e1, ⟨e2.1, hfr b hbl e2.2⟩, e3⟩
  · rcases g4 with e | e
    · exact .inl (by rw [← e]; exact hb)
    · rw [e] at hb
      exact .inr (Option.some.inj hb).symm

/-- One empty row more. -/
theorem wpl_growt1 (wp : World) {ops : Array Oper} {rest : List Oper} {o : Oper} {a : Act} {Q : Exit → Act → World → Prop} (hgd : o.guard = none) (s x : Operand) (t : TypeId) (ht : Try.prog.underlying t = some (.slice 33))
    (ho : o.op = .call { callee := .builtin .append, args := #[s, x], argTypes := #[t, t] })
    (P : Nat → Prop) (N : Nat) (v : Value) (b0 : Nat) (m : List (List UInt8)) (g : Nat) (hs : a.eval s = v) (hx : a.eval x = .slice (some ⟨g, 0, none⟩) 1 1) (hg : g = wp.heap.size)
    (hown : Grt P N wp v m) (hlen : m.length + 1 ≤ 100000) (hN : N ≤ wp.heap.size)
    (h : ∀ v' w', Grt P N w' v' (m ++ [[]]) → Keep (fun b => v.ownBlock = some b) wp w' → wpList Try.prog ops Q rest (a.put o.dst v') w') :
    wpList Try.prog ops Q (o :: rest) a (wp.alloc (.cells #[.slice (some ⟨b0, 0, none⟩) 0 0] 33)) := by
  subst hg
  have hk : Keep (fun _ => False) wp (wp.alloc (.cells #[.slice (some ⟨b0, 0, none⟩) 0 0] 33)) := (Keep.refl _ wp).alloc _
  have hb := Blk.new wp 33 #[.slice (some ⟨b0, 0, none⟩) 0 0]
  refine wpl_growt (wp.alloc (.cells #[.slice (some ⟨b0, 0, none⟩) 0 0] 33)) hgd s x t ht ho P (fun _ => True) N v m hs (hown.keep hk (fun _ _ => id) (fun _ _ _ _ => id)) (some ⟨wp.heap.size, 0, none⟩) 1 1 [.slice (some ⟨b0, 0, none⟩) 0 0] [[]] hx ⟨rfl, fun _ => ⟨wp.heap.size, 0, rfl, trivial, fun i q hq => ?_⟩⟩ rfl rfl (fun i q y hq hy => ?_) hlen (Nat.le_trans hN hk.size) (fun v' w' g1 g2 _ => h v' w' g1 ?_)
  · rw [Nat.zero_add, hb.cell, List.getElem?_toArray]
    exact hq
  · cases i with
    | zero =>
      cases hq
      cases hy
      exact ⟨_, 0, 0, rfl, Nat.le_refl _, by unfold maxLen; omega, Rv.nil _ _⟩
    | succ i => simp at hq
  · exact (hk.mono (fun _ _ h => h.elim)).trans g2

theorem even_there {vs : List Value} {l : List (List UInt8)} (h : evenB vs l = true) : thereB vs = true ∧ ∀ r ∈ l, r.length = mcols l := by
  rw [evenB, Bool.and_eq_true] at h
  refine ⟨h.1, fun r hr => of_decide_eq_true (List.all_eq_true.1 h.2 r hr)⟩

theorem mul_empty {k m : Nat} {l : List (List UInt8)} (h : mcols l = 0) : mulM (cauM m k) l = List.replicate m [] := by
  unfold mulM
  rw [show (cauM m k).length = m by simp [cauM], h]
  apply List.ext_getElem
  · simp
  · intro i h1 h2
    simp [rowOf]

set_option maxRecDepth 100000 in
set_option maxHeartbeats 8000000 in
theorem refenc_any (P : Nat → Prop) (a2 : Option Addr) (k m c2 : Nat) (vs : List Value) (l : List (List UInt8)) (w : World) (h2 : Mv P w a2 k vs l) (hk : 1 ≤ k) (hkm : k + m ≤ 255) (he : evenB vs l = true) (hL : mcols l ≤ 255) :
    Calls Try.prog 67 #[.slice a2 k c2, .int .i64 (m : Int)] w fun e w' => ∃ v, e = .returned v ∧ Grt (fun b => P b ∨ w.heap.size ≤ b) w.heap.size w' v (encM k m l) ∧ Keep (fun _ => False) w w' := by
  have H2 : Hid (Mv (fun b => P b ∧ b < w.heap.size) w a2 k vs l) := h2.mono (fun b hb hp => ⟨hp, hb⟩)
  have HTR := Lib.hid (even_there he)
  have HKM : Hid (1 ≤ k ∧ k + m ≤ 255 ∧ mcols l ≤ 255) := ⟨hk, hkm, hL⟩
  have HLL : Hid (l.length = k) := h2.len
  have HME : Hid (Mv (fun b => P b ∧ b < w.heap.size) (w.alloc (.cells #[] 33)) a2 k vs l) := H2.out.keep ((Keep.refl (fun _ => False) w).alloc _) (fun _ _ _ => id)
  have hk2 : k ≤ 255 := by omega
  have k0 : 0 < k := by omega
  have k0' : (0 : Int) < (k : Int) := by omega
  have kk1 : (1 : Int) ≤ (k : Int) := by omega
  have m255 : (m : Int) ≤ 255 := by omega
  obtain ⟨b0, o0, ra, rn, rc, r0, rfl, _, hu0, hr0, hc0, hn0, hx0, hb0⟩ := H2.out.at_ (k := 0) (by omega)
  have HMC : Hid (mcols l = rn) := by
    show mcols l = rn
    rw [mcols_at hr0]
    exact hb0.len
  have HC0 : Hid (w.cell? ⟨b0, o0, none⟩ = some (.slice ra rn rc)) := hc0
  clear h2 he hkm hL hu0 hr0 hc0 hn0 hx0 hb0
  by_cases hm : m = 0
  · have HM : Hid (m = 0) := hm
    have hm0 : ((m : Int) == 0) = true := by rw [beq_iff_eq]; omega
    clear hm
    go_enter Try.func67, Try.ntmps67
    go_wp2_with (first
      | (at_builtin; refine wpl_growt _ rfl (.tmp 7) (.tmp 8) 40 Try.underlying40 rfl (fun b => P b ∨ w.heap.size ≤ b) (fun b => P b ∧ b < w.heap.size) w.heap.size (.slice (some ⟨w.heap.size, 0, none⟩) 0 0) [] rfl (Grt.empty _ _ w (Nat.le_refl _)) (some ⟨b0, o0, none⟩) k c2 vs l rfl HME.out.1 HLL.out HTR.out.1 (fun i u r hu hr => (HME.out.2.2 i u r hu hr).mono (fun b _ hb => ⟨.inl hb.1, fun e => by have h9 : w.heap.size = b := Option.some.inj e; have := hb.2; omega⟩)) (by simp; omega) (by simp) ?_; intro v' w' hgr hkp hb))
    have HG := Lib.hid hgr
    have HKP : Hid (Keep (fun _ => False) w w') := ((Keep.refl (fun _ => False) w).alloc _).trans' hkp (fun i hi e => by have h9 : w.heap.size = i := Option.some.inj e; omega)
    clear hgr hkp hb
    go_wp2_with fail
    go_ret
    refine ⟨_, rfl, ?_, HKP.out⟩
    rw [show encM k m l = l by rw [HM.out, encM, show cauM 0 k = [] from rfl, show mulM [] l = [] from rfl, List.append_nil]]
    exact HG.out
  · have hm0 : ((m : Int) == 0) = false := by rw [beq_eq_false_iff_ne]; omega
    have HM1 : Hid (1 ≤ m) := by show 1 ≤ m; omega
    clear hm
    by_cases hz : rn = 0
    · have HZ : Hid (mcols l = 0) := by show mcols l = 0; rw [HMC.out]; exact hz
      have hz0 : ((rn : Int) == 0) = true := by rw [beq_iff_eq]; omega
      clear hz
      go_enter Try.func67, Try.ntmps67
      go_wp2_with (first
        | (at_builtin; refine wpl_growt _ rfl (.tmp 7) (.tmp 8) 40 Try.underlying40 rfl (fun b => P b ∨ w.heap.size ≤ b) (fun b => P b ∧ b < w.heap.size) w.heap.size (.slice (some ⟨w.heap.size, 0, none⟩) 0 0) [] rfl (Grt.empty _ _ w (Nat.le_refl _)) (some ⟨b0, o0, none⟩) k c2 vs l rfl HME.out.1 HLL.out HTR.out.1 (fun i u r hu hr => (HME.out.2.2 i u r hu hr).mono (fun b _ hb => ⟨.inl hb.1, fun e => by have h9 : w.heap.size = b := Option.some.inj e; have := hb.2; omega⟩)) (by simp; omega) (by simp) ?_; intro v' w1 hgr hkp hb; have HK1 : Hid (Keep (fun _ => False) w w1) := ((Keep.refl (fun _ => False) w).alloc _).trans' hkp (fun i hi e => by have h9 : w.heap.size = i := Option.some.inj e; omega); have hcc : w1.cell? ⟨b0, o0, none⟩ = some (.slice ra rn rc) := (HK1.out.cell (p := ⟨b0, o0, none⟩) (World.block_lt_of_cell? _ _ HC0.out) id).trans HC0.out; have HG1 := Lib.hid hgr; clear hgr hkp hb))
      clear hcc
      go_loopw [5, 6] (fun s i wr => ∃ j : Nat, j ≤ m ∧ i = .int .i64 (j : Int) ∧ Hid (Grt (fun b => P b ∨ w.heap.size ≤ b) w.heap.size wr s (l ++ List.replicate j []) ∧ Keep (fun _ => False) w wr)) (fun _ i _ => m - (intOf i).toNat)
      case atStart => exact ⟨0, Nat.zero_le _, rfl, by rw [List.replicate_zero, List.append_nil]; exact HG1.out, HK1.out⟩
      case round =>
        obtain ⟨j, hj, rfl, HI⟩ := hrel
        obtain ⟨s, rfl⟩ : ∃ s : Value, s = u5 := ⟨_, rfl⟩
        by_cases hlt : j < m
        · have j0 : (0 : Int) ≤ (j : Int) := by omega
          have jn : (j : Int) < (m : Int) := by omega
          have HLT := Lib.hid hlt
          clear hlt
          go_wp2_with (first
            | (at_builtin; refine wpl_growt1 _ rfl (.tmp 23) (.tmp 25) 40 Try.underlying40 rfl (fun b => P b ∨ w.heap.size ≤ b) w.heap.size s wr.heap.size (l ++ List.replicate j []) _ rfl rfl (by simp) (HI.out.1.keep ((Keep.refl (fun _ => False) wr).alloc _) (fun _ _ => id) (fun _ _ _ _ => id)) (by have := HKM.out; have := HLT.out; rw [List.length_append, HLL.out, List.length_replicate]; omega) (by have := HI.out.2.size; simp; omega) ?_; intro v2 w2 hgr hkp))
          have HG2 := Lib.hid hgr
          have HK2 : Hid (Keep (fun _ => False) w w2) := by
            obtain ⟨us, q, _⟩ := HI.out.1
            exact (HI.out.2.alloc _).trans' hkp (fun i hi e => by have := (q.lt i e).1; omega)
          clear hgr hkp
          go_wp2_with fail
          go_roundw
          case rel => exact ⟨j + 1, by have := HLT.out; omega, by go_num, by rw [List.replicate_succ', ← List.append_assoc]; exact HG2.out, HK2.out⟩
          case measure => have := HLT.out; simp [intOf]; omega
        · have hmj : (m : Int) ≤ (j : Int) := by omega
          have hjm : j = m := by omega
          rw [hjm] at HI
          clear hjm hlt
          go_wp2_with fail
          go_ret
          refine ⟨_, rfl, ?_, HI.out.2⟩
          rw [encM, mul_empty HZ.out]
          exact HI.out.1
    · have hz0 : ((rn : Int) == 0) = false := by rw [beq_eq_false_iff_ne]; omega
      have HZ : Hid (1 ≤ mcols l) := by show 1 ≤ mcols l; rw [HMC.out]; omega
      clear hz
      have HFIT : Hid (mfit (cauM m k) l = true) := by
        show mfit (cauM m k) l = true
        rw [mfit, cau_right HM1.out HKM.out.1 HKM.out.2.1, cau_cols HM1.out, HLL.out, decide_eq_true rfl, mright_true ⟨⟨by rw [HLL.out]; exact hk, by rw [HLL.out]; exact hk2⟩, ⟨HZ.out, HKM.out.2.2⟩, HTR.out.2⟩]
        rfl
      go_enter Try.func67, Try.ntmps67
      go_wp2_with (first
        | (at_builtin; refine wpl_growt _ rfl (.tmp 7) (.tmp 8) 40 Try.underlying40 rfl (fun b => P b ∨ w.heap.size ≤ b) (fun b => P b ∧ b < w.heap.size) w.heap.size (.slice (some ⟨w.heap.size, 0, none⟩) 0 0) [] rfl (Grt.empty _ _ w (Nat.le_refl _)) (some ⟨b0, o0, none⟩) k c2 vs l rfl HME.out.1 HLL.out HTR.out.1 (fun i u r hu hr => (HME.out.2.2 i u r hu hr).mono (fun b _ hb => ⟨.inl hb.1, fun e => by have h9 : w.heap.size = b := Option.some.inj e; have := hb.2; omega⟩)) (by simp; omega) (by simp) ?_; intro v' w1 hgr hkp hb; have HK1 : Hid (Keep (fun _ => False) w w1) := ((Keep.refl (fun _ => False) w).alloc _).trans' hkp (fun i hi e => by have h9 : w.heap.size = i := Option.some.inj e; omega); have hcc : w1.cell? ⟨b0, o0, none⟩ = some (.slice ra rn rc) := (HK1.out.cell (p := ⟨b0, o0, none⟩) (World.block_lt_of_cell? _ _ HC0.out) id).trans HC0.out; have HG1 := Lib.hid hgr; clear hgr hkp hb))
      refine (refcauchy_any m k w1 (by have := HKM.out; omega)).mono ?_
      rintro e w2 ⟨v2, rfl, hgr, hkp⟩
      have HK2 := Lib.hid (HK1.out.trans hkp)
      have HG2 : Hid (Grt (fun b => P b ∨ w.heap.size ≤ b) w.heap.size w2 v' l) := HG1.out.keep hkp (fun _ _ => id) (fun _ _ _ _ => id)
      obtain ⟨ao2, cap2, rfl, _, _⟩ := hgr.len
      rw [show (cauM m k).length = m by simp [cauM]] at hgr ⊢
      obtain ⟨us2, hmv⟩ := hgr.mv
      have HV2 := Lib.hid hmv
      clear hgr hkp hcc hmv
      go_wp2_with fail
      refine (refmat_mul _ (fun b => P b ∧ b < w.heap.size) ao2 _ m k cap2 c2 us2 vs (cauM m k) l w2 HV2.out (H2.out.keep HK2.out (fun _ _ _ => id)) HFIT.out).mono ?_
      rintro e w3 ⟨v3, rfl, hgr, hkp⟩
      have HK3 := Lib.hid (HK2.out.trans hkp)
      have HG3 : Hid (Grt (fun b => P b ∨ w.heap.size ≤ b) w.heap.size w3 v' l) := HG2.out.keep hkp (fun _ _ => id) (fun _ _ _ _ => id)
      have HML : Hid ((mulM (cauM m k) l).length = m) := by
        show (mulM (cauM m k) l).length = m
        simp [mulM, cauM]
      obtain ⟨ao3, cap3, rfl, _, _⟩ := hgr.len
      rw [HML.out] at hgr ⊢
      obtain ⟨us3, hmv⟩ := hgr.mv
      have HV3 : Hid (Mv (fun b => w2.heap.size ≤ b) w3 ao3 m us3 (mulM (cauM m k) l)) := hmv.mono (fun b _ hb => hb.elim id id)
      have HT3 : Hid (thereB us3 = true) := mv_there hmv (fun r hr => by
        rw [mulM] at hr
        obtain ⟨i, _, rfl⟩ := List.mem_map.1 hr
        rw [rowOf_len]
        exact HZ.out)
      have HSZ : Hid (∀ b, v'.ownBlock = some b → b < w2.heap.size) := by
        intro b hb
        obtain ⟨us, q, _⟩ := HG2.out
        exact (q.lt b hb).2
      clear hgr hkp hmv
      go_wp2_with (first
        | (at_builtin; refine wpl_growt w3 rfl (.tmp 28) (.tmp 34) 40 Try.underlying40 rfl (fun b => P b ∨ w.heap.size ≤ b) (fun b => w2.heap.size ≤ b) w.heap.size v' l rfl HG3.out ao3 m cap3 us3 (mulM (cauM m k) l) rfl HV3.out.1 HML.out HT3.out (fun i u r hu hr => (HV3.out.2.2 i u r hu hr).mono (fun b _ (hb : w2.heap.size ≤ b) => ⟨.inr (Nat.le_trans HK2.out.size hb), fun e => by have := HSZ.out b e; omega⟩)) (by have := HKM.out; rw [HLL.out]; omega) HK3.out.size ?_; intro v4 w4 hgr hkp hb))
      have HG4 := Lib.hid hgr
      have HK4 : Hid (Keep (fun _ => False) w w4) := by
        obtain ⟨us, q, _⟩ := HG3.out
        exact HK3.out.trans' hkp (fun i hi e => by have := (q.lt i e).1; omega)
      clear hgr hkp hb
      go_wp2_with fail
      go_ret
      exact ⟨_, rfl, HG4.out, HK4.out⟩
end Go.Proofs.Ytegecjilpmkamaa
