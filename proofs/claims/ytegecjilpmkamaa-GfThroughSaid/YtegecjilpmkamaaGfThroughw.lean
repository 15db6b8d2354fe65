/-
  The walk of the law GfThrough: it answers true, at every input.
-/
import Derived.Test.YtegecjilpmkamaaThr
import Derived.Deep.RegionHeld3
namespace Go.Proofs.Ytegecjilpmkamaa
open Go.RowKit Sb

theorem Rb.keepf {N fb : Nat} {w w' : World} {ao : Option Addr} {n : Nat} {xs : List UInt8} (h : Rb (· < N) w ao n xs) (hk : Keep (· = fb) w w') (hN : N ≤ fb) : Rb (· < N) w' ao n xs :=
  h.keep hk (fun b _ (hb : b < N) (e : b = fb) => by omega)

theorem Lw.drewN {w w1 : World} {fb : Nat} (h : Lw w fb w1) (m : Nat) : Lw w fb (w1.drewN m) := ⟨h.ge, h.at_, h.keep.drewN m⟩

/-- The first k points are unlike. -/
def Ulk (pts : List UInt8) (k : Nat) : Prop := ∀ (a b : Nat) (x : UInt8), a < k → b < a → pts[a]? = some x → pts[b]? ≠ some x

theorem ulk_less {pts : List UInt8} {k : Nat} (h : Ulk pts (k + 1)) : Ulk pts k := fun a b x h1 h2 h3 => h a b x (by omega) h2 h3
theorem ulk_succ {pts : List UInt8} {k : Nat} {c : UInt8} (h : Ulk pts k) (hc : pts[k]? = some c) (hn : ∀ (q : Nat), q < k → pts[q]? ≠ some c) : Ulk pts (k + 1) := by
  intro a b x h1 h2 h3
  by_cases ha : a = k
  · subst ha
    rw [hc] at h3
    cases h3
    exact hn b h2
  · exact h a b x (by omega) h2 h3
theorem dst_of {pts vals : List UInt8} (h : (pts.length = vals.length ∧ 0 < pts.length) ∧ Ulk pts pts.length) : Dst pts vals := by
  refine ⟨h.1.1, h.1.2, fun i j x hij hi hj => ?_⟩
  have h1 := (List.getElem?_eq_some_iff.1 hi).1
  have h2 := (List.getElem?_eq_some_iff.1 hj).1
  rcases Nat.lt_or_gt_of_ne hij with hl | hl
  · exact h.2 j i x h2 hl hj hi
  · exact h.2 i j x h1 hl hi hj
theorem of_dst {pts vals : List UInt8} (h : Dst pts vals) : (pts.length = vals.length ∧ 0 < pts.length) ∧ Ulk pts pts.length :=
  ⟨⟨h.1, h.2.1⟩, fun a b x _ h2 h3 => h.2.2 a b x (by omega) h3⟩

set_option maxRecDepth 100000 in
set_option maxHeartbeats 4000000 in
theorem gfThrough_a2 (w : World) (ao bo : Option Addr) (cap cap' : Nat) (pts vals : List UInt8) (x : UInt8) (hr : Rb (· < w.heap.size) w ao 0 pts) (hs : Rb (· < w.heap.size) w bo 0 vals) (HD : Hid (¬ Dst pts vals)) :
    Calls Try.prog 8 #[.slice ao 0 cap, .slice bo 0 cap', bv x] w fun e w' => e = .returned (.bool true) ∧ Below w.heap.size w w' := by
  go_enter Try.func8, Try.ntmps8
  go_wp2_with fail
  refine (new_any _).mono ?_
  rintro e w1 ⟨rfl, rfl⟩
  have l1 := Lw.start w
  generalize w.alloc (.cells Try.zeroCells102 102) = w1 at *
  have hr1 := hr.keep l1.keep (fun _ _ _ => id)
  have hs1 := hs.keep l1.keep (fun _ _ _ => id)
  clear hr hs
  go_wp2_with fail
  refine (through_any _ (· < w.heap.size) ao bo 0 0 cap cap' pts vals _ l1.at_ hr1 hs1 (by simp) (by omega)).mono ?_
  rintro e w2 ⟨vp, rfl, hth, hq2⟩
  have HL2 := Lib.hid (l1.q hq2)
  have HR := Lib.hid (hr1.keepf hq2.keep (Nat.le_refl _))
  have HS := Lib.hid (hs1.keepf hq2.keep (Nat.le_refl _))
  have hge1 := l1.keep.size
  have hlt1 := l1.at_.lt
  have hs2 := hq2.keep.size
  clear l1 hr1 hs1 hq2
  have hvp : vp = .slice none 0 0 := by
    rcases hth with ⟨_, h⟩ | ⟨h, _⟩
    · exact h
    · exact absurd h HD.out
  subst hvp
  clear hth
  go_wp2_with fail
  go_loopw [9, 10, 11] (fun u i _ wr => i = .int .i64 0 ∧ u = .bool false ∧ Hid (wr = w2)) (fun _ i _ _ => 0)
  case atStart => exact ⟨rfl, rfl, rfl⟩
  case round =>
    obtain ⟨rfl, rfl, HW⟩ := hrel
    have HL3 : Hid (Lw w w.heap.size wr) := by rw [HW.out]; exact HL2.out
    have HR3 : Hid (Rb (· < w.heap.size) wr ao 0 pts) := by rw [HW.out]; exact HR.out
    have HS3 : Hid (Rb (· < w.heap.size) wr bo 0 vals) := by rw [HW.out]; exact HS.out
    go_wp2_with fail
    refine (times_nil _ ao bo 0 0 cap cap' _ (.inl rfl)).mono ?_
    rintro e w4 ⟨rfl, rfl⟩
    go_wp2_with fail
    have HL4 := HL3
    have HR4 := HR3
    have HS4 := HS3
    have HQ4 : Hid (Rb (· ≠ w.heap.size) wr none 0 []) := Rv.nil _ _
    refine (eval_any _ (· ≠ w.heap.size) none 0 0 [] x _ HL4.out.at_ HQ4.out (by simp) (by omega)).mono ?_
    rintro e w5 ⟨rfl, hp5⟩
    have HL5 := Lib.hid (HL4.out.p hp5)
    have HR5 := Lib.hid (HR4.out.keepf hp5.keep (Nat.le_refl _))
    have HS5 := Lib.hid (HS4.out.keepf hp5.keep (Nat.le_refl _))
    clear hp5
    go_wp2_with fail
    refine (eval_any _ (· < w.heap.size) ao 0 cap pts x _ HL5.out.at_ HR5.out (by simp) (by omega)).mono ?_
    rintro e w6 ⟨rfl, hp6⟩
    have HL6 := Lib.hid (HL5.out.p hp6)
    have HR6 := Lib.hid (HR5.out.keepf hp6.keep (Nat.le_refl _))
    have HS6 := Lib.hid (HS5.out.keepf hp6.keep (Nat.le_refl _))
    clear hp6
    go_wp2_with fail
    refine (eval_any _ (· < w.heap.size) bo 0 cap' vals x _ HL6.out.at_ HS6.out (by simp) (by omega)).mono ?_
    rintro e w7 ⟨rfl, hp7⟩
    have HL7 := Lib.hid (HL6.out.p hp7)
    have HR7 := Lib.hid (HR6.out.keepf hp7.keep (Nat.le_refl _))
    have HS7 := Lib.hid (HS6.out.keepf hp7.keep (Nat.le_refl _))
    clear hp7
    go_wp2_with fail
    refine (mul_any _ (peval x pts) (peval x vals) _ HL7.out.at_).mono ?_
    rintro e w8 ⟨rfl, hp8⟩
    have HL8 := Lib.hid (HL7.out.p hp8)
    have HR8 := Lib.hid (HR7.out.keepf hp8.keep (Nat.le_refl _))
    have HS8 := Lib.hid (HS7.out.keepf hp8.keep (Nat.le_refl _))
    clear hp8
    have hzz : gmul (peval x pts) (peval x vals) = peval x [] := by
      rw [List.eq_nil_of_length_eq_zero HR3.out.len, peval.eq_1, zero_gmul]
    rw [hzz]
    go_wp2_with fail
    refine (one4_any _).mono ?_
    rintro e w9 ⟨rfl, hp9⟩
    have HL9 := Lib.hid (HL8.out.k hp9)
    clear hp9
    go_wp2_with fail
    go_ret
    exact ⟨rfl, HL9.out.below⟩

set_option maxRecDepth 100000 in
set_option maxHeartbeats 4000000 in
theorem gfThrough_a1 (w : World) (ao bo : Option Addr) (m cap cap' : Nat) (pts vals : List UInt8) (x : UInt8) (hr : Rb (· < w.heap.size) w ao 0 pts) (hs : Rb (· < w.heap.size) w bo m vals) (hm : m ≤ 40) (HD : Hid (¬ Dst pts vals)) (hnm : ((0 : Int) == (m : Int)) = false) :
    Calls Try.prog 8 #[.slice ao 0 cap, .slice bo m cap', bv x] w fun e w' => e = .returned (.bool true) ∧ Below w.heap.size w w' := by
  go_enter Try.func8, Try.ntmps8
  go_wp2_with fail
  refine (new_any _).mono ?_
  rintro e w1 ⟨rfl, rfl⟩
  have l1 := Lw.start w
  generalize w.alloc (.cells Try.zeroCells102 102) = w1 at *
  have hr1 := hr.keep l1.keep (fun _ _ _ => id)
  have hs1 := hs.keep l1.keep (fun _ _ _ => id)
  clear hr hs
  go_wp2_with fail
  refine (through_any _ (· < w.heap.size) ao bo 0 m cap cap' pts vals _ l1.at_ hr1 hs1 (by simp) (by omega)).mono ?_
  rintro e w2 ⟨vp, rfl, hth, hq2⟩
  have HL2 := Lib.hid (l1.q hq2)
  have HR := Lib.hid (hr1.keepf hq2.keep (Nat.le_refl _))
  have HS := Lib.hid (hs1.keepf hq2.keep (Nat.le_refl _))
  have hge1 := l1.keep.size
  have hlt1 := l1.at_.lt
  have hs2 := hq2.keep.size
  clear l1 hr1 hs1 hq2
  have hvp : vp = .slice none 0 0 := by
    rcases hth with ⟨_, h⟩ | ⟨h, _⟩
    · exact h
    · exact absurd h HD.out
  subst hvp
  clear hth
  go_wp2_with fail
  go_loopw [9, 10, 11] (fun u i _ wr => i = .int .i64 0 ∧ u = .bool false ∧ Hid (wr = w2)) (fun _ i _ _ => 0)
  case atStart => exact ⟨rfl, rfl, rfl⟩
  case round =>
    obtain ⟨rfl, rfl, HW⟩ := hrel
    have HL3 : Hid (Lw w w.heap.size wr) := by rw [HW.out]; exact HL2.out
    have HR3 : Hid (Rb (· < w.heap.size) wr ao 0 pts) := by rw [HW.out]; exact HR.out
    have HS3 : Hid (Rb (· < w.heap.size) wr bo m vals) := by rw [HW.out]; exact HS.out
    go_wp2_with fail
    refine (times_nil _ ao bo 0 m cap cap' _ (.inl rfl)).mono ?_
    rintro e w4 ⟨rfl, rfl⟩
    go_wp2_with fail
    have HL4 := HL3
    have HR4 := HR3
    have HS4 := HS3
    have HQ4 : Hid (Rb (· ≠ w.heap.size) wr none 0 []) := Rv.nil _ _
    refine (eval_any _ (· ≠ w.heap.size) none 0 0 [] x _ HL4.out.at_ HQ4.out (by simp) (by omega)).mono ?_
    rintro e w5 ⟨rfl, hp5⟩
    have HL5 := Lib.hid (HL4.out.p hp5)
    have HR5 := Lib.hid (HR4.out.keepf hp5.keep (Nat.le_refl _))
    have HS5 := Lib.hid (HS4.out.keepf hp5.keep (Nat.le_refl _))
    clear hp5
    go_wp2_with fail
    refine (eval_any _ (· < w.heap.size) ao 0 cap pts x _ HL5.out.at_ HR5.out (by simp) (by omega)).mono ?_
    rintro e w6 ⟨rfl, hp6⟩
    have HL6 := Lib.hid (HL5.out.p hp6)
    have HR6 := Lib.hid (HR5.out.keepf hp6.keep (Nat.le_refl _))
    have HS6 := Lib.hid (HS5.out.keepf hp6.keep (Nat.le_refl _))
    clear hp6
    go_wp2_with fail
    refine (eval_any _ (· < w.heap.size) bo m cap' vals x _ HL6.out.at_ HS6.out (by simp) (by omega)).mono ?_
    rintro e w7 ⟨rfl, hp7⟩
    have HL7 := Lib.hid (HL6.out.p hp7)
    have HR7 := Lib.hid (HR6.out.keepf hp7.keep (Nat.le_refl _))
    have HS7 := Lib.hid (HS6.out.keepf hp7.keep (Nat.le_refl _))
    clear hp7
    go_wp2_with fail
    refine (mul_any _ (peval x pts) (peval x vals) _ HL7.out.at_).mono ?_
    rintro e w8 ⟨rfl, hp8⟩
    have HL8 := Lib.hid (HL7.out.p hp8)
    have HR8 := Lib.hid (HR7.out.keepf hp8.keep (Nat.le_refl _))
    have HS8 := Lib.hid (HS7.out.keepf hp8.keep (Nat.le_refl _))
    clear hp8
    have hzz : gmul (peval x pts) (peval x vals) = peval x [] := by
      rw [List.eq_nil_of_length_eq_zero HR3.out.len, peval.eq_1, zero_gmul]
    rw [hzz]
    go_wp2_with fail
    refine (one4_any _).mono ?_
    rintro e w9 ⟨rfl, hp9⟩
    have HL9 := Lib.hid (HL8.out.k hp9)
    clear hp9
    go_wp2_with fail
    go_ret
    exact ⟨rfl, HL9.out.below⟩

set_option maxRecDepth 100000 in
set_option maxHeartbeats 4000000 in
theorem gfThrough_b1 (w : World) (ao bo : Option Addr) (n cap cap' : Nat) (pts vals : List UInt8) (x : UInt8) (hr : Rb (· < w.heap.size) w ao n pts) (hs : Rb (· < w.heap.size) w bo 0 vals) (hn : n ≤ 40) (HD : Hid (¬ Dst pts vals)) (hnm : ((n : Int) == (0 : Int)) = false) (hn0 : 0 < n) (HNM : Hid (n ≠ 0)) :
    Calls Try.prog 8 #[.slice ao n cap, .slice bo 0 cap', bv x] w fun e w' => e = .returned (.bool true) ∧ Below w.heap.size w w' := by
  go_enter Try.func8, Try.ntmps8
  go_wp2_with fail
  refine (new_any _).mono ?_
  rintro e w1 ⟨rfl, rfl⟩
  have l1 := Lw.start w
  generalize w.alloc (.cells Try.zeroCells102 102) = w1 at *
  have hr1 := hr.keep l1.keep (fun _ _ _ => id)
  have hs1 := hs.keep l1.keep (fun _ _ _ => id)
  clear hr hs
  go_wp2_with fail
  refine (through_any _ (· < w.heap.size) ao bo n 0 cap cap' pts vals _ l1.at_ hr1 hs1 (by simp) (by omega)).mono ?_
  rintro e w2 ⟨vp, rfl, hth, hq2⟩
  have HL2 := Lib.hid (l1.q hq2)
  have HR := Lib.hid (hr1.keepf hq2.keep (Nat.le_refl _))
  have HS := Lib.hid (hs1.keepf hq2.keep (Nat.le_refl _))
  have hge1 := l1.keep.size
  have hlt1 := l1.at_.lt
  have hs2 := hq2.keep.size
  clear l1 hr1 hs1 hq2
  have hvp : vp = .slice none 0 0 := by
    rcases hth with ⟨_, h⟩ | ⟨h, _⟩
    · exact h
    · exact absurd h HD.out
  subst hvp
  clear hth
  go_wp2_with fail
  go_loopw [9, 10, 11] (fun u i _ wr => ∃ (k d : Nat) (b : Bool), k ≤ n ∧ i = .int .i64 (k : Int) ∧ u = .bool b ∧ Hid ((b = true ↔ (pts.length = vals.length ∧ 0 < pts.length) ∧ Ulk pts k) ∧ wr = w2.drewN d)) (fun _ i _ _ => n - (intOf i).toNat)
  case atStart => exact ⟨0, 0, false, Nat.zero_le _, rfl, rfl, ⟨fun h => absurd h (by simp), fun h => (HNM.out (by have := h.1.1; have := HR.out.len; have := HS.out.len; omega)).elim⟩, rfl⟩
  case round =>
    obtain ⟨k, d, b, hk, rfl, rfl, HI⟩ := hrel
    by_cases hlt : k < n
    · have hj0 : (0 : Int) ≤ (k : Int) := by omega
      have hjn : (k : Int) < (n : Int) := by omega
      obtain ⟨pb, po, c, rfl, _, hx, hc⟩ := HR.out.at_ hlt
      have HX := Lib.hid hx
      have HC := Lib.hid hc
      clear hx hc
      go_wp2_with fail
      go_loopw [9, 11] (fun u j wr' => ∃ (l d : Nat) (b : Bool), l ≤ k ∧ j = .int .i64 (l : Int) ∧ u = .bool b ∧ Hid ((b = true ↔ ((pts.length = vals.length ∧ 0 < pts.length) ∧ Ulk pts k) ∧ ∀ (q : Nat), q < l → pts[q]? ≠ some c) ∧ wr' = w2.drewN d)) (fun _ j _ => k - (intOf j).toNat)
      case atStart => exact ⟨0, d, b, Nat.zero_le _, rfl, rfl, ⟨fun h => ⟨HI.out.1.1 h, fun q h => by omega⟩, fun h => HI.out.1.2 h.1⟩, HI.out.2⟩
      case round =>
        clear HI
        obtain ⟨l, d', bb, hl, rfl, rfl, HI⟩ := hrel
        by_cases hlt2 : l < k
        · have hl0 : (0 : Int) ≤ (l : Int) := by omega
          have hlk : (l : Int) < (k : Int) := by omega
          have hln : (l : Int) < (n : Int) := by omega
          obtain ⟨pb', po', c', he, _, hx, hc⟩ := HR.out.at_ (k := l) (by omega)
          cases he
          have hck : wr.cell? ⟨pb, po + k, none⟩ = some (bv c) := by rw [HI.out.2]; exact HC.out
          have hcl : wr.cell? ⟨pb, po + l, none⟩ = some (bv c') := by rw [HI.out.2]; exact hc
          have HX' := Lib.hid hx
          clear hx hc
          cases bb with
          | false =>
            go_wp2_with fail
            go_quiet (fail)
            go_wp2_with fail
            go_roundw
            case rel =>
              refine ⟨l + 1, d' + nq, false, by omega, by go_num, rfl, ⟨fun h => absurd h (by simp), fun h => ?_⟩, by rw [HI.out.2, World.drewN_drewN]⟩
              exact HI.out.1.2 ⟨h.1, fun q hq => h.2 q (by omega)⟩
            case measure => simp [intOf]; omega
          | true =>
            by_cases hcc : c = c'
            · have ht : ((c.toNat : Int) != (c'.toNat : Int)) = false := by rw [hcc, bne_self_eq_false]
              have HCC := Lib.hid hcc
              clear hcc
              go_wp2_with fail
              go_quiet (fail)
              go_wp2_with fail
              go_roundw
              case rel =>
                refine ⟨l + 1, d' + nq, false, by omega, by go_num, rfl, ⟨fun h => absurd h (by simp), fun h => ?_⟩, by rw [HI.out.2, World.drewN_drewN]⟩
                exact absurd (HX'.out.trans (by rw [HCC.out])) (h.2 l (by omega))
              case measure => simp [intOf]; omega
            · have ht : ((c.toNat : Int) != (c'.toNat : Int)) = true := by
                have := bv_eq_iff (a := c) (b := c')
                show (!((c.toNat : Int) == (c'.toNat : Int))) = true
                rw [this]
                simpa using hcc
              have HCC := Lib.hid hcc
              clear hcc
              go_wp2_with fail
              go_quiet (fail)
              go_wp2_with fail
              go_roundw
              case rel =>
                refine ⟨l + 1, d' + nq, true, by omega, by go_num, rfl, ⟨fun _ => ⟨(HI.out.1.1 (by simp)).1, fun q hq => ?_⟩, fun _ => rfl⟩, by rw [HI.out.2, World.drewN_drewN]⟩
                by_cases hql : q = l
                · subst hql
                  rw [HX'.out]
                  exact fun e => HCC.out (by injection e with e; exact e.symm)
                · exact (HI.out.1.1 (by simp)).2 q (by omega)
              case measure => simp [intOf]; omega
        · have hkn : (k : Int) ≤ (l : Int) := by omega
          go_wp2_with fail
          go_roundw
          case rel =>
            have hke : l = k := by omega
            subst hke
            refine ⟨l + 1, d', bb, by omega, by go_num, rfl, ⟨fun h => ?_, fun h => ?_⟩, HI.out.2⟩
            · obtain ⟨h1, h2⟩ := HI.out.1.1 h
              exact ⟨h1.1, ulk_succ h1.2 HX.out h2⟩
            · exact HI.out.1.2 ⟨⟨h.1, ulk_less h.2⟩, fun q hq => h.2 l q c (by omega) hq HX.out⟩
          case measure => simp [intOf]; omega
    · have hkn : (n : Int) ≤ (k : Int) := by omega
      have hb : b = false := by
        have h1 := HI.out.1
        have hke : k = n := by omega
        rw [hke, ← HR.out.len] at h1
        cases hb : b with
        | false => rfl
        | true => exact absurd (dst_of (h1.1 hb)) HD.out
      subst hb
      have HW := Lib.hid HI.out.2
      clear HI
      have HL3 : Hid (Lw w w.heap.size wr) := by rw [HW.out]; exact HL2.out.drewN d
      have HR3 : Hid (Rb (· < w.heap.size) wr ao n pts) := by rw [HW.out]; exact HR.out.drewN d
      have HS3 : Hid (Rb (· < w.heap.size) wr bo 0 vals) := by rw [HW.out]; exact HS.out.drewN d
      go_wp2_with fail
      refine (times_nil _ ao bo n 0 cap cap' _ (.inr rfl)).mono ?_
      rintro e w4 ⟨rfl, rfl⟩
      go_wp2_with fail
      have HL4 := HL3
      have HR4 := HR3
      have HS4 := HS3
      have HQ4 : Hid (Rb (· ≠ w.heap.size) wr none 0 []) := Rv.nil _ _
      refine (eval_any _ (· ≠ w.heap.size) none 0 0 [] x _ HL4.out.at_ HQ4.out (by simp) (by omega)).mono ?_
      rintro e w5 ⟨rfl, hp5⟩
      have HL5 := Lib.hid (HL4.out.p hp5)
      have HR5 := Lib.hid (HR4.out.keepf hp5.keep (Nat.le_refl _))
      have HS5 := Lib.hid (HS4.out.keepf hp5.keep (Nat.le_refl _))
      clear hp5
      go_wp2_with fail
      refine (eval_any _ (· < w.heap.size) ao n cap pts x _ HL5.out.at_ HR5.out (by simp) (by omega)).mono ?_
      rintro e w6 ⟨rfl, hp6⟩
      have HL6 := Lib.hid (HL5.out.p hp6)
      have HR6 := Lib.hid (HR5.out.keepf hp6.keep (Nat.le_refl _))
      have HS6 := Lib.hid (HS5.out.keepf hp6.keep (Nat.le_refl _))
      clear hp6
      go_wp2_with fail
      refine (eval_any _ (· < w.heap.size) bo 0 cap' vals x _ HL6.out.at_ HS6.out (by simp) (by omega)).mono ?_
      rintro e w7 ⟨rfl, hp7⟩
      have HL7 := Lib.hid (HL6.out.p hp7)
      have HR7 := Lib.hid (HR6.out.keepf hp7.keep (Nat.le_refl _))
      have HS7 := Lib.hid (HS6.out.keepf hp7.keep (Nat.le_refl _))
      clear hp7
      go_wp2_with fail
      refine (mul_any _ (peval x pts) (peval x vals) _ HL7.out.at_).mono ?_
      rintro e w8 ⟨rfl, hp8⟩
      have HL8 := Lib.hid (HL7.out.p hp8)
      have HR8 := Lib.hid (HR7.out.keepf hp8.keep (Nat.le_refl _))
      have HS8 := Lib.hid (HS7.out.keepf hp8.keep (Nat.le_refl _))
      clear hp8
      have hzz : gmul (peval x pts) (peval x vals) = peval x [] := by
        rw [List.eq_nil_of_length_eq_zero HS3.out.len, peval.eq_1 x, gmul_zero]
      rw [hzz]
      go_wp2_with fail
      refine (one4_any _).mono ?_
      rintro e w9 ⟨rfl, hp9⟩
      have HL9 := Lib.hid (HL8.out.k hp9)
      clear hp9
      go_wp2_with fail
      go_ret
      exact ⟨rfl, HL9.out.below⟩

set_option maxRecDepth 100000 in
set_option maxHeartbeats 4000000 in
theorem gfThrough_c1 (w : World) (ao bo : Option Addr) (n m cap cap' : Nat) (pts vals : List UInt8) (x : UInt8) (hr : Rb (· < w.heap.size) w ao n pts) (hs : Rb (· < w.heap.size) w bo m vals) (hn : n ≤ 40) (hm : m ≤ 40) (HD : Hid (¬ Dst pts vals)) (hnm : ((n : Int) == (m : Int)) = false) (hn0 : 0 < n) (hm0 : 0 < m) (HNM : Hid (n ≠ m)) :
    Calls Try.prog 8 #[.slice ao n cap, .slice bo m cap', bv x] w fun e w' => e = .returned (.bool true) ∧ Below w.heap.size w w' := by
  go_enter Try.func8, Try.ntmps8
  go_wp2_with fail
  refine (new_any _).mono ?_
  rintro e w1 ⟨rfl, rfl⟩
  have l1 := Lw.start w
  generalize w.alloc (.cells Try.zeroCells102 102) = w1 at *
  have hr1 := hr.keep l1.keep (fun _ _ _ => id)
  have hs1 := hs.keep l1.keep (fun _ _ _ => id)
  clear hr hs
  go_wp2_with fail
  refine (through_any _ (· < w.heap.size) ao bo n m cap cap' pts vals _ l1.at_ hr1 hs1 (by simp) (by omega)).mono ?_
  rintro e w2 ⟨vp, rfl, hth, hq2⟩
  have HL2 := Lib.hid (l1.q hq2)
  have HR := Lib.hid (hr1.keepf hq2.keep (Nat.le_refl _))
  have HS := Lib.hid (hs1.keepf hq2.keep (Nat.le_refl _))
  have hge1 := l1.keep.size
  have hlt1 := l1.at_.lt
  have hs2 := hq2.keep.size
  clear l1 hr1 hs1 hq2
  have hvp : vp = .slice none 0 0 := by
    rcases hth with ⟨_, h⟩ | ⟨h, _⟩
    · exact h
    · exact absurd h HD.out
  subst hvp
  clear hth
  go_wp2_with fail
  go_loopw [9, 10, 11] (fun u i _ wr => ∃ (k d : Nat) (b : Bool), k ≤ n ∧ i = .int .i64 (k : Int) ∧ u = .bool b ∧ Hid ((b = true ↔ (pts.length = vals.length ∧ 0 < pts.length) ∧ Ulk pts k) ∧ wr = w2.drewN d)) (fun _ i _ _ => n - (intOf i).toNat)
  case atStart => exact ⟨0, 0, false, Nat.zero_le _, rfl, rfl, ⟨fun h => absurd h (by simp), fun h => (HNM.out (by have := h.1.1; have := HR.out.len; have := HS.out.len; omega)).elim⟩, rfl⟩
  case round =>
    obtain ⟨k, d, b, hk, rfl, rfl, HI⟩ := hrel
    by_cases hlt : k < n
    · have hj0 : (0 : Int) ≤ (k : Int) := by omega
      have hjn : (k : Int) < (n : Int) := by omega
      obtain ⟨pb, po, c, rfl, _, hx, hc⟩ := HR.out.at_ hlt
      have HX := Lib.hid hx
      have HC := Lib.hid hc
      clear hx hc
      go_wp2_with fail
      go_loopw [9, 11] (fun u j wr' => ∃ (l d : Nat) (b : Bool), l ≤ k ∧ j = .int .i64 (l : Int) ∧ u = .bool b ∧ Hid ((b = true ↔ ((pts.length = vals.length ∧ 0 < pts.length) ∧ Ulk pts k) ∧ ∀ (q : Nat), q < l → pts[q]? ≠ some c) ∧ wr' = w2.drewN d)) (fun _ j _ => k - (intOf j).toNat)
      case atStart => exact ⟨0, d, b, Nat.zero_le _, rfl, rfl, ⟨fun h => ⟨HI.out.1.1 h, fun q h => by omega⟩, fun h => HI.out.1.2 h.1⟩, HI.out.2⟩
      case round =>
        clear HI
        obtain ⟨l, d', bb, hl, rfl, rfl, HI⟩ := hrel
        by_cases hlt2 : l < k
        · have hl0 : (0 : Int) ≤ (l : Int) := by omega
          have hlk : (l : Int) < (k : Int) := by omega
          have hln : (l : Int) < (n : Int) := by omega
          obtain ⟨pb', po', c', he, _, hx, hc⟩ := HR.out.at_ (k := l) (by omega)
          cases he
          have hck : wr.cell? ⟨pb, po + k, none⟩ = some (bv c) := by rw [HI.out.2]; exact HC.out
          have hcl : wr.cell? ⟨pb, po + l, none⟩ = some (bv c') := by rw [HI.out.2]; exact hc
          have HX' := Lib.hid hx
          clear hx hc
          cases bb with
          | false =>
            go_wp2_with fail
            go_quiet (fail)
            go_wp2_with fail
            go_roundw
            case rel =>
              refine ⟨l + 1, d' + nq, false, by omega, by go_num, rfl, ⟨fun h => absurd h (by simp), fun h => ?_⟩, by rw [HI.out.2, World.drewN_drewN]⟩
              exact HI.out.1.2 ⟨h.1, fun q hq => h.2 q (by omega)⟩
            case measure => simp [intOf]; omega
          | true =>
            by_cases hcc : c = c'
            · have ht : ((c.toNat : Int) != (c'.toNat : Int)) = false := by rw [hcc, bne_self_eq_false]
              have HCC := Lib.hid hcc
              clear hcc
              go_wp2_with fail
              go_quiet (fail)
              go_wp2_with fail
              go_roundw
              case rel =>
                refine ⟨l + 1, d' + nq, false, by omega, by go_num, rfl, ⟨fun h => absurd h (by simp), fun h => ?_⟩, by rw [HI.out.2, World.drewN_drewN]⟩
                exact absurd (HX'.out.trans (by rw [HCC.out])) (h.2 l (by omega))
              case measure => simp [intOf]; omega
            · have ht : ((c.toNat : Int) != (c'.toNat : Int)) = true := by
                have := bv_eq_iff (a := c) (b := c')
                show (!((c.toNat : Int) == (c'.toNat : Int))) = true
                rw [this]
                simpa using hcc
              have HCC := Lib.hid hcc
              clear hcc
              go_wp2_with fail
              go_quiet (fail)
              go_wp2_with fail
              go_roundw
              case rel =>
                refine ⟨l + 1, d' + nq, true, by omega, by go_num, rfl, ⟨fun _ => ⟨(HI.out.1.1 (by simp)).1, fun q hq => ?_⟩, fun _ => rfl⟩, by rw [HI.out.2, World.drewN_drewN]⟩
                by_cases hql : q = l
                · subst hql
                  rw [HX'.out]
                  exact fun e => HCC.out (by injection e with e; exact e.symm)
                · exact (HI.out.1.1 (by simp)).2 q (by omega)
              case measure => simp [intOf]; omega
        · have hkn : (k : Int) ≤ (l : Int) := by omega
          go_wp2_with fail
          go_roundw
          case rel =>
            have hke : l = k := by omega
            subst hke
            refine ⟨l + 1, d', bb, by omega, by go_num, rfl, ⟨fun h => ?_, fun h => ?_⟩, HI.out.2⟩
            · obtain ⟨h1, h2⟩ := HI.out.1.1 h
              exact ⟨h1.1, ulk_succ h1.2 HX.out h2⟩
            · exact HI.out.1.2 ⟨⟨h.1, ulk_less h.2⟩, fun q hq => h.2 l q c (by omega) hq HX.out⟩
          case measure => simp [intOf]; omega
    · have hkn : (n : Int) ≤ (k : Int) := by omega
      have hb : b = false := by
        have h1 := HI.out.1
        have hke : k = n := by omega
        rw [hke, ← HR.out.len] at h1
        cases hb : b with
        | false => rfl
        | true => exact absurd (dst_of (h1.1 hb)) HD.out
      subst hb
      have HW := Lib.hid HI.out.2
      clear HI
      have HL3 : Hid (Lw w w.heap.size wr) := by rw [HW.out]; exact HL2.out.drewN d
      have HR3 : Hid (Rb (· < w.heap.size) wr ao n pts) := by rw [HW.out]; exact HR.out.drewN d
      have HS3 : Hid (Rb (· < w.heap.size) wr bo m vals) := by rw [HW.out]; exact HS.out.drewN d
      go_wp2_with fail
      refine (times_ne_any _ (· < w.heap.size) ao bo n m cap cap' pts vals _ HL3.out.at_ HR3.out HS3.out (by simp) hn0 hm0 (by omega) (by omega)).mono ?_
      rintro e w4 ⟨vq, qs, rfl, hbq, htq, hlq, hp4⟩
      have HL4 := Lib.hid (HL3.out.p hp4)
      have HR4 := Lib.hid (HR3.out.keepf hp4.keep (Nat.le_refl _))
      have HS4 := Lib.hid (HS3.out.keepf hp4.keep (Nat.le_refl _))
      have hs3 : w.heap.size < wr.heap.size := HL3.out.at_.lt
      obtain ⟨gq, capq, cq, rfl, hgq, hq1, hq2, hq3, hBq, hCq⟩ := hbq
      have hbq' : Nb wr w4 (.slice (some ⟨gq, 0, none⟩) qs.length capq) qs := ⟨gq, capq, cq, rfl, hgq, hq1, hq2, hq3, hBq, hCq⟩
      obtain ⟨ao6, n6, cp6, hv6, _, _, hrb6⟩ := hbq'.bs
      cases hv6
      have HQ4 : Hid (Rb (· ≠ w.heap.size) w4 (some ⟨gq, 0, none⟩) qs.length qs) := hrb6.mono (fun b _ (hb : wr.heap.size ≤ b) => by show b ≠ w.heap.size; omega)
      have HTQ := Lib.hid (htq.1 x)
      have hql : qs.length ≤ 80 := by omega
      have hqe : (((qs.length : Nat) : Int) != (n : Int) + (m : Int) - 1) = false := by rw [bne_eq_false_iff_eq]; omega
      clear hgq hq1 hq2 hq3 hBq hCq hbq' hrb6 htq hlq hp4
      go_wp2_with fail
      refine (eval_any _ (· ≠ w.heap.size) (some ⟨gq, 0, none⟩) qs.length capq qs x _ HL4.out.at_ HQ4.out (by simp) (by omega)).mono ?_
      rintro e w5 ⟨rfl, hp5⟩
      have HL5 := Lib.hid (HL4.out.p hp5)
      have HR5 := Lib.hid (HR4.out.keepf hp5.keep (Nat.le_refl _))
      have HS5 := Lib.hid (HS4.out.keepf hp5.keep (Nat.le_refl _))
      clear hp5
      go_wp2_with fail
      refine (eval_any _ (· < w.heap.size) ao n cap pts x _ HL5.out.at_ HR5.out (by simp) (by omega)).mono ?_
      rintro e w6 ⟨rfl, hp6⟩
      have HL6 := Lib.hid (HL5.out.p hp6)
      have HR6 := Lib.hid (HR5.out.keepf hp6.keep (Nat.le_refl _))
      have HS6 := Lib.hid (HS5.out.keepf hp6.keep (Nat.le_refl _))
      clear hp6
      go_wp2_with fail
      refine (eval_any _ (· < w.heap.size) bo m cap' vals x _ HL6.out.at_ HS6.out (by simp) (by omega)).mono ?_
      rintro e w7 ⟨rfl, hp7⟩
      have HL7 := Lib.hid (HL6.out.p hp7)
      have HR7 := Lib.hid (HR6.out.keepf hp7.keep (Nat.le_refl _))
      have HS7 := Lib.hid (HS6.out.keepf hp7.keep (Nat.le_refl _))
      clear hp7
      go_wp2_with fail
      refine (mul_any _ (peval x pts) (peval x vals) _ HL7.out.at_).mono ?_
      rintro e w8 ⟨rfl, hp8⟩
      have HL8 := Lib.hid (HL7.out.p hp8)
      have HR8 := Lib.hid (HR7.out.keepf hp8.keep (Nat.le_refl _))
      have HS8 := Lib.hid (HS7.out.keepf hp8.keep (Nat.le_refl _))
      clear hp8
      rw [HTQ.out]
      go_wp2_with fail
      refine (one4_any _).mono ?_
      rintro e w9 ⟨rfl, hp9⟩
      have HL9 := Lib.hid (HL8.out.k hp9)
      clear hp9
      go_wp2_with fail
      go_ret
      exact ⟨rfl, HL9.out.below⟩

set_option maxRecDepth 100000 in
set_option maxHeartbeats 4000000 in
theorem gfThrough_c2 (w : World) (ao bo : Option Addr) (n cap cap' : Nat) (pts vals : List UInt8) (x : UInt8) (hr : Rb (· < w.heap.size) w ao n pts) (hs : Rb (· < w.heap.size) w bo n vals) (hn : n ≤ 40) (HD : Hid (¬ Dst pts vals)) (hn0 : 0 < n) (hm0 : 0 < n) :
    Calls Try.prog 8 #[.slice ao n cap, .slice bo n cap', bv x] w fun e w' => e = .returned (.bool true) ∧ Below w.heap.size w w' := by
  go_enter Try.func8, Try.ntmps8
  go_wp2_with fail
  refine (new_any _).mono ?_
  rintro e w1 ⟨rfl, rfl⟩
  have l1 := Lw.start w
  generalize w.alloc (.cells Try.zeroCells102 102) = w1 at *
  have hr1 := hr.keep l1.keep (fun _ _ _ => id)
  have hs1 := hs.keep l1.keep (fun _ _ _ => id)
  clear hr hs
  go_wp2_with fail
  refine (through_any _ (· < w.heap.size) ao bo n n cap cap' pts vals _ l1.at_ hr1 hs1 (by simp) (by omega)).mono ?_
  rintro e w2 ⟨vp, rfl, hth, hq2⟩
  have HL2 := Lib.hid (l1.q hq2)
  have HR := Lib.hid (hr1.keepf hq2.keep (Nat.le_refl _))
  have HS := Lib.hid (hs1.keepf hq2.keep (Nat.le_refl _))
  have hge1 := l1.keep.size
  have hlt1 := l1.at_.lt
  have hs2 := hq2.keep.size
  clear l1 hr1 hs1 hq2
  have hvp : vp = .slice none 0 0 := by
    rcases hth with ⟨_, h⟩ | ⟨h, _⟩
    · exact h
    · exact absurd h HD.out
  subst hvp
  clear hth
  go_wp2_with fail
  go_loopw [9, 10, 11] (fun u i _ wr => ∃ (k d : Nat) (b : Bool), k ≤ n ∧ i = .int .i64 (k : Int) ∧ u = .bool b ∧ Hid ((b = true ↔ (pts.length = vals.length ∧ 0 < pts.length) ∧ Ulk pts k) ∧ wr = w2.drewN d)) (fun _ i _ _ => n - (intOf i).toNat)
  case atStart => exact ⟨0, 0, true, Nat.zero_le _, rfl, rfl, ⟨fun _ => ⟨⟨by rw [HR.out.len, HS.out.len], by rw [HR.out.len]; exact hn0⟩, fun a b x h => by omega⟩, fun _ => rfl⟩, rfl⟩
  case round =>
    obtain ⟨k, d, b, hk, rfl, rfl, HI⟩ := hrel
    by_cases hlt : k < n
    · have hj0 : (0 : Int) ≤ (k : Int) := by omega
      have hjn : (k : Int) < (n : Int) := by omega
      obtain ⟨pb, po, c, rfl, _, hx, hc⟩ := HR.out.at_ hlt
      have HX := Lib.hid hx
      have HC := Lib.hid hc
      clear hx hc
      go_wp2_with fail
      go_loopw [9, 11] (fun u j wr' => ∃ (l d : Nat) (b : Bool), l ≤ k ∧ j = .int .i64 (l : Int) ∧ u = .bool b ∧ Hid ((b = true ↔ ((pts.length = vals.length ∧ 0 < pts.length) ∧ Ulk pts k) ∧ ∀ (q : Nat), q < l → pts[q]? ≠ some c) ∧ wr' = w2.drewN d)) (fun _ j _ => k - (intOf j).toNat)
      case atStart => exact ⟨0, d, b, Nat.zero_le _, rfl, rfl, ⟨fun h => ⟨HI.out.1.1 h, fun q h => by omega⟩, fun h => HI.out.1.2 h.1⟩, HI.out.2⟩
      case round =>
        clear HI
        obtain ⟨l, d', bb, hl, rfl, rfl, HI⟩ := hrel
        by_cases hlt2 : l < k
        · have hl0 : (0 : Int) ≤ (l : Int) := by omega
          have hlk : (l : Int) < (k : Int) := by omega
          have hln : (l : Int) < (n : Int) := by omega
          obtain ⟨pb', po', c', he, _, hx, hc⟩ := HR.out.at_ (k := l) (by omega)
          cases he
          have hck : wr.cell? ⟨pb, po + k, none⟩ = some (bv c) := by rw [HI.out.2]; exact HC.out
          have hcl : wr.cell? ⟨pb, po + l, none⟩ = some (bv c') := by rw [HI.out.2]; exact hc
          have HX' := Lib.hid hx
          clear hx hc
          cases bb with
          | false =>
            go_wp2_with fail
            go_quiet (fail)
            go_wp2_with fail
            go_roundw
            case rel =>
              refine ⟨l + 1, d' + nq, false, by omega, by go_num, rfl, ⟨fun h => absurd h (by simp), fun h => ?_⟩, by rw [HI.out.2, World.drewN_drewN]⟩
              exact HI.out.1.2 ⟨h.1, fun q hq => h.2 q (by omega)⟩
            case measure => simp [intOf]; omega
          | true =>
            by_cases hcc : c = c'
            · have ht : ((c.toNat : Int) != (c'.toNat : Int)) = false := by rw [hcc, bne_self_eq_false]
              have HCC := Lib.hid hcc
              clear hcc
              go_wp2_with fail
              go_quiet (fail)
              go_wp2_with fail
              go_roundw
              case rel =>
                refine ⟨l + 1, d' + nq, false, by omega, by go_num, rfl, ⟨fun h => absurd h (by simp), fun h => ?_⟩, by rw [HI.out.2, World.drewN_drewN]⟩
                exact absurd (HX'.out.trans (by rw [HCC.out])) (h.2 l (by omega))
              case measure => simp [intOf]; omega
            · have ht : ((c.toNat : Int) != (c'.toNat : Int)) = true := by
                have := bv_eq_iff (a := c) (b := c')
                show (!((c.toNat : Int) == (c'.toNat : Int))) = true
                rw [this]
                simpa using hcc
              have HCC := Lib.hid hcc
              clear hcc
              go_wp2_with fail
              go_quiet (fail)
              go_wp2_with fail
              go_roundw
              case rel =>
                refine ⟨l + 1, d' + nq, true, by omega, by go_num, rfl, ⟨fun _ => ⟨(HI.out.1.1 (by simp)).1, fun q hq => ?_⟩, fun _ => rfl⟩, by rw [HI.out.2, World.drewN_drewN]⟩
                by_cases hql : q = l
                · subst hql
                  rw [HX'.out]
                  exact fun e => HCC.out (by injection e with e; exact e.symm)
                · exact (HI.out.1.1 (by simp)).2 q (by omega)
              case measure => simp [intOf]; omega
        · have hkn : (k : Int) ≤ (l : Int) := by omega
          go_wp2_with fail
          go_roundw
          case rel =>
            have hke : l = k := by omega
            subst hke
            refine ⟨l + 1, d', bb, by omega, by go_num, rfl, ⟨fun h => ?_, fun h => ?_⟩, HI.out.2⟩
            · obtain ⟨h1, h2⟩ := HI.out.1.1 h
              exact ⟨h1.1, ulk_succ h1.2 HX.out h2⟩
            · exact HI.out.1.2 ⟨⟨h.1, ulk_less h.2⟩, fun q hq => h.2 l q c (by omega) hq HX.out⟩
          case measure => simp [intOf]; omega
    · have hkn : (n : Int) ≤ (k : Int) := by omega
      have hb : b = false := by
        have h1 := HI.out.1
        have hke : k = n := by omega
        rw [hke, ← HR.out.len] at h1
        cases hb : b with
        | false => rfl
        | true => exact absurd (dst_of (h1.1 hb)) HD.out
      subst hb
      have HW := Lib.hid HI.out.2
      clear HI
      have HL3 : Hid (Lw w w.heap.size wr) := by rw [HW.out]; exact HL2.out.drewN d
      have HR3 : Hid (Rb (· < w.heap.size) wr ao n pts) := by rw [HW.out]; exact HR.out.drewN d
      have HS3 : Hid (Rb (· < w.heap.size) wr bo n vals) := by rw [HW.out]; exact HS.out.drewN d
      go_wp2_with fail
      refine (times_ne_any _ (· < w.heap.size) ao bo n n cap cap' pts vals _ HL3.out.at_ HR3.out HS3.out (by simp) hn0 hm0 (by omega) (by omega)).mono ?_
      rintro e w4 ⟨vq, qs, rfl, hbq, htq, hlq, hp4⟩
      have HL4 := Lib.hid (HL3.out.p hp4)
      have HR4 := Lib.hid (HR3.out.keepf hp4.keep (Nat.le_refl _))
      have HS4 := Lib.hid (HS3.out.keepf hp4.keep (Nat.le_refl _))
      have hs3 : w.heap.size < wr.heap.size := HL3.out.at_.lt
      obtain ⟨gq, capq, cq, rfl, hgq, hq1, hq2, hq3, hBq, hCq⟩ := hbq
      have hbq' : Nb wr w4 (.slice (some ⟨gq, 0, none⟩) qs.length capq) qs := ⟨gq, capq, cq, rfl, hgq, hq1, hq2, hq3, hBq, hCq⟩
      obtain ⟨ao6, n6, cp6, hv6, _, _, hrb6⟩ := hbq'.bs
      cases hv6
      have HQ4 : Hid (Rb (· ≠ w.heap.size) w4 (some ⟨gq, 0, none⟩) qs.length qs) := hrb6.mono (fun b _ (hb : wr.heap.size ≤ b) => by show b ≠ w.heap.size; omega)
      have HTQ := Lib.hid (htq.1 x)
      have hql : qs.length ≤ 80 := by omega
      have hqe : (((qs.length : Nat) : Int) != (n : Int) + (n : Int) - 1) = false := by rw [bne_eq_false_iff_eq]; omega
      clear hgq hq1 hq2 hq3 hBq hCq hbq' hrb6 htq hlq hp4
      go_wp2_with fail
      refine (eval_any _ (· ≠ w.heap.size) (some ⟨gq, 0, none⟩) qs.length capq qs x _ HL4.out.at_ HQ4.out (by simp) (by omega)).mono ?_
      rintro e w5 ⟨rfl, hp5⟩
      have HL5 := Lib.hid (HL4.out.p hp5)
      have HR5 := Lib.hid (HR4.out.keepf hp5.keep (Nat.le_refl _))
      have HS5 := Lib.hid (HS4.out.keepf hp5.keep (Nat.le_refl _))
      clear hp5
      go_wp2_with fail
      refine (eval_any _ (· < w.heap.size) ao n cap pts x _ HL5.out.at_ HR5.out (by simp) (by omega)).mono ?_
      rintro e w6 ⟨rfl, hp6⟩
      have HL6 := Lib.hid (HL5.out.p hp6)
      have HR6 := Lib.hid (HR5.out.keepf hp6.keep (Nat.le_refl _))
      have HS6 := Lib.hid (HS5.out.keepf hp6.keep (Nat.le_refl _))
      clear hp6
      go_wp2_with fail
      refine (eval_any _ (· < w.heap.size) bo n cap' vals x _ HL6.out.at_ HS6.out (by simp) (by omega)).mono ?_
      rintro e w7 ⟨rfl, hp7⟩
      have HL7 := Lib.hid (HL6.out.p hp7)
      have HR7 := Lib.hid (HR6.out.keepf hp7.keep (Nat.le_refl _))
      have HS7 := Lib.hid (HS6.out.keepf hp7.keep (Nat.le_refl _))
      clear hp7
      go_wp2_with fail
      refine (mul_any _ (peval x pts) (peval x vals) _ HL7.out.at_).mono ?_
      rintro e w8 ⟨rfl, hp8⟩
      have HL8 := Lib.hid (HL7.out.p hp8)
      have HR8 := Lib.hid (HR7.out.keepf hp8.keep (Nat.le_refl _))
      have HS8 := Lib.hid (HS7.out.keepf hp8.keep (Nat.le_refl _))
      clear hp8
      rw [HTQ.out]
      go_wp2_with fail
      refine (one4_any _).mono ?_
      rintro e w9 ⟨rfl, hp9⟩
      have HL9 := Lib.hid (HL8.out.k hp9)
      clear hp9
      go_wp2_with fail
      go_ret
      exact ⟨rfl, HL9.out.below⟩

set_option maxRecDepth 100000 in
set_option maxHeartbeats 4000000 in
theorem gfThrough_d (w : World) (ao bo : Option Addr) (n cap cap' : Nat) (pts vals : List UInt8) (x : UInt8) (hr : Rb (· < w.heap.size) w ao n pts) (hs : Rb (· < w.heap.size) w bo n vals) (hn : n ≤ 40) (HD : Hid (Dst pts vals)) (hn0 : 0 < n) (hm0 : 0 < n) :
    Calls Try.prog 8 #[.slice ao n cap, .slice bo n cap', bv x] w fun e w' => e = .returned (.bool true) ∧ Below w.heap.size w w' := by
  go_enter Try.func8, Try.ntmps8
  go_wp2_with fail
  refine (new_any _).mono ?_
  rintro e w1 ⟨rfl, rfl⟩
  have l1 := Lw.start w
  generalize w.alloc (.cells Try.zeroCells102 102) = w1 at *
  have hr1 := hr.keep l1.keep (fun _ _ _ => id)
  have hs1 := hs.keep l1.keep (fun _ _ _ => id)
  clear hr hs
  go_wp2_with fail
  refine (through_any _ (· < w.heap.size) ao bo n n cap cap' pts vals _ l1.at_ hr1 hs1 (by simp) (by omega)).mono ?_
  rintro e w2 ⟨vp, rfl, hth, hq2⟩
  have HL2 := Lib.hid (l1.q hq2)
  have HR := Lib.hid (hr1.keepf hq2.keep (Nat.le_refl _))
  have HS := Lib.hid (hs1.keepf hq2.keep (Nat.le_refl _))
  have hge1 := l1.keep.size
  have hlt1 := l1.at_.lt
  have hs2 := hq2.keep.size
  clear l1 hr1 hs1 hq2
  obtain ⟨ys, gp, capp, rfl, hnb, hyl, hye⟩ : ∃ ys g cap, vp = .slice (some ⟨g, 0, none⟩) ys.length cap ∧ Nb w1 w2 vp ys ∧ ys.length = pts.length ∧ ∀ (i : Nat) (x y : UInt8), pts[i]? = some x → vals[i]? = some y → peval x ys = y := by
    rcases hth with ⟨h, _⟩ | ⟨_, h⟩
    · exact absurd HD.out h
    · exact h
  have hyn : ys.length = n := hyl.trans HR.out.len
  rw [hyn] at hnb ⊢
  have HNB := Lib.hid hnb
  have HYN := Lib.hid hyn
  have HYE := Lib.hid hye
  clear hnb hyl hye hth hyn
  go_wp2_with fail
  go_loopw [9, 10, 11] (fun u i _ wr => ∃ (k d : Nat) (b : Bool), k ≤ n ∧ i = .int .i64 (k : Int) ∧ u = .bool b ∧ Hid ((b = true ↔ (pts.length = vals.length ∧ 0 < pts.length) ∧ Ulk pts k) ∧ wr = w2.drewN d)) (fun _ i _ _ => n - (intOf i).toNat)
  case atStart => exact ⟨0, 0, true, Nat.zero_le _, rfl, rfl, ⟨fun _ => ⟨⟨by rw [HR.out.len, HS.out.len], by rw [HR.out.len]; exact hn0⟩, fun a b x h => by omega⟩, fun _ => rfl⟩, rfl⟩
  case round =>
    obtain ⟨k, d, b, hk, rfl, rfl, HI⟩ := hrel
    by_cases hlt : k < n
    · have hj0 : (0 : Int) ≤ (k : Int) := by omega
      have hjn : (k : Int) < (n : Int) := by omega
      obtain ⟨pb, po, c, rfl, _, hx, hc⟩ := HR.out.at_ hlt
      have HX := Lib.hid hx
      have HC := Lib.hid hc
      clear hx hc
      go_wp2_with fail
      go_loopw [9, 11] (fun u j wr' => ∃ (l d : Nat) (b : Bool), l ≤ k ∧ j = .int .i64 (l : Int) ∧ u = .bool b ∧ Hid ((b = true ↔ ((pts.length = vals.length ∧ 0 < pts.length) ∧ Ulk pts k) ∧ ∀ (q : Nat), q < l → pts[q]? ≠ some c) ∧ wr' = w2.drewN d)) (fun _ j _ => k - (intOf j).toNat)
      case atStart => exact ⟨0, d, b, Nat.zero_le _, rfl, rfl, ⟨fun h => ⟨HI.out.1.1 h, fun q h => by omega⟩, fun h => HI.out.1.2 h.1⟩, HI.out.2⟩
      case round =>
        clear HI
        obtain ⟨l, d', bb, hl, rfl, rfl, HI⟩ := hrel
        by_cases hlt2 : l < k
        · have hl0 : (0 : Int) ≤ (l : Int) := by omega
          have hlk : (l : Int) < (k : Int) := by omega
          have hln : (l : Int) < (n : Int) := by omega
          obtain ⟨pb', po', c', he, _, hx, hc⟩ := HR.out.at_ (k := l) (by omega)
          cases he
          have hck : wr.cell? ⟨pb, po + k, none⟩ = some (bv c) := by rw [HI.out.2]; exact HC.out
          have hcl : wr.cell? ⟨pb, po + l, none⟩ = some (bv c') := by rw [HI.out.2]; exact hc
          have HX' := Lib.hid hx
          clear hx hc
          cases bb with
          | false =>
            go_wp2_with fail
            go_quiet (fail)
            go_wp2_with fail
            go_roundw
            case rel =>
              refine ⟨l + 1, d' + nq, false, by omega, by go_num, rfl, ⟨fun h => absurd h (by simp), fun h => ?_⟩, by rw [HI.out.2, World.drewN_drewN]⟩
              exact HI.out.1.2 ⟨h.1, fun q hq => h.2 q (by omega)⟩
            case measure => simp [intOf]; omega
          | true =>
            by_cases hcc : c = c'
            · have ht : ((c.toNat : Int) != (c'.toNat : Int)) = false := by rw [hcc, bne_self_eq_false]
              have HCC := Lib.hid hcc
              clear hcc
              go_wp2_with fail
              go_quiet (fail)
              go_wp2_with fail
              go_roundw
              case rel =>
                refine ⟨l + 1, d' + nq, false, by omega, by go_num, rfl, ⟨fun h => absurd h (by simp), fun h => ?_⟩, by rw [HI.out.2, World.drewN_drewN]⟩
                exact absurd (HX'.out.trans (by rw [HCC.out])) (h.2 l (by omega))
              case measure => simp [intOf]; omega
            · have ht : ((c.toNat : Int) != (c'.toNat : Int)) = true := by
                have := bv_eq_iff (a := c) (b := c')
                show (!((c.toNat : Int) == (c'.toNat : Int))) = true
                rw [this]
                simpa using hcc
              have HCC := Lib.hid hcc
              clear hcc
              go_wp2_with fail
              go_quiet (fail)
              go_wp2_with fail
              go_roundw
              case rel =>
                refine ⟨l + 1, d' + nq, true, by omega, by go_num, rfl, ⟨fun _ => ⟨(HI.out.1.1 (by simp)).1, fun q hq => ?_⟩, fun _ => rfl⟩, by rw [HI.out.2, World.drewN_drewN]⟩
                by_cases hql : q = l
                · subst hql
                  rw [HX'.out]
                  exact fun e => HCC.out (by injection e with e; exact e.symm)
                · exact (HI.out.1.1 (by simp)).2 q (by omega)
              case measure => simp [intOf]; omega
        · have hkn : (k : Int) ≤ (l : Int) := by omega
          go_wp2_with fail
          go_roundw
          case rel =>
            have hke : l = k := by omega
            subst hke
            refine ⟨l + 1, d', bb, by omega, by go_num, rfl, ⟨fun h => ?_, fun h => ?_⟩, HI.out.2⟩
            · obtain ⟨h1, h2⟩ := HI.out.1.1 h
              exact ⟨h1.1, ulk_succ h1.2 HX.out h2⟩
            · exact HI.out.1.2 ⟨⟨h.1, ulk_less h.2⟩, fun q hq => h.2 l q c (by omega) hq HX.out⟩
          case measure => simp [intOf]; omega
    · have hkn : (n : Int) ≤ (k : Int) := by omega
      have hb : b = true := by
        have h1 := HI.out.1
        have hke : k = n := by omega
        rw [hke, ← HR.out.len] at h1
        exact h1.2 (of_dst HD.out)
      subst hb
      have HW := Lib.hid HI.out.2
      clear HI
      have HL3 : Hid (Lw w w.heap.size wr) := by rw [HW.out]; exact HL2.out.drewN d
      have HR3 : Hid (Rb (· < w.heap.size) wr ao n pts) := by rw [HW.out]; exact HR.out.drewN d
      have HS3 : Hid (Rb (· < w.heap.size) wr bo n vals) := by rw [HW.out]; exact HS.out.drewN d
      go_wp2_with fail
      refine (times_ne_any _ (· < w.heap.size) ao bo n n cap cap' pts vals _ HL3.out.at_ HR3.out HS3.out (by simp) hn0 hm0 (by omega) (by omega)).mono ?_
      rintro e w4 ⟨vq, qs, rfl, hbq, htq, hlq, hp4⟩
      have HL4 := Lib.hid (HL3.out.p hp4)
      have HR4 := Lib.hid (HR3.out.keepf hp4.keep (Nat.le_refl _))
      have HS4 := Lib.hid (HS3.out.keepf hp4.keep (Nat.le_refl _))
      have HNB3 : Hid (Nb w1 wr (.slice (some ⟨gp, 0, none⟩) n capp) ys) := by rw [HW.out]; exact HNB.out.keep ((Keep.refl (fun _ => False) w2).drewN d) (fun _ _ _ => id)
      have HNB4 := Lib.hid (HNB3.out.keep hp4.keep (fun b h1 h2 e => by omega))
      have hs3 : w.heap.size < wr.heap.size := HL3.out.at_.lt
      obtain ⟨gq, capq, cq, rfl, hgq, hq1, hq2, hq3, hBq, hCq⟩ := hbq
      have hbq' : Nb wr w4 (.slice (some ⟨gq, 0, none⟩) qs.length capq) qs := ⟨gq, capq, cq, rfl, hgq, hq1, hq2, hq3, hBq, hCq⟩
      obtain ⟨ao6, n6, cp6, hv6, _, _, hrb6⟩ := hbq'.bs
      cases hv6
      have HQ4 : Hid (Rb (· ≠ w.heap.size) w4 (some ⟨gq, 0, none⟩) qs.length qs) := hrb6.mono (fun b _ (hb : wr.heap.size ≤ b) => by show b ≠ w.heap.size; omega)
      have HTQ := Lib.hid (htq.1 x)
      have hql : qs.length ≤ 80 := by omega
      have hqe : (((qs.length : Nat) : Int) != (n : Int) + (n : Int) - 1) = false := by rw [bne_eq_false_iff_eq]; omega
      clear hgq hq1 hq2 hq3 hBq hCq hbq' hrb6 htq hlq hp4
      go_wp2_with fail
      refine (eval_any _ (· ≠ w.heap.size) (some ⟨gq, 0, none⟩) qs.length capq qs x _ HL4.out.at_ HQ4.out (by simp) (by omega)).mono ?_
      rintro e w5 ⟨rfl, hp5⟩
      have HL5 := Lib.hid (HL4.out.p hp5)
      have HR5 := Lib.hid (HR4.out.keepf hp5.keep (Nat.le_refl _))
      have HS5 := Lib.hid (HS4.out.keepf hp5.keep (Nat.le_refl _))
      have HNB5 := Lib.hid (HNB4.out.keep hp5.keep (fun b h1 h2 e => by omega))
      clear hp5
      go_wp2_with fail
      refine (eval_any _ (· < w.heap.size) ao n cap pts x _ HL5.out.at_ HR5.out (by simp) (by omega)).mono ?_
      rintro e w6 ⟨rfl, hp6⟩
      have HL6 := Lib.hid (HL5.out.p hp6)
      have HR6 := Lib.hid (HR5.out.keepf hp6.keep (Nat.le_refl _))
      have HS6 := Lib.hid (HS5.out.keepf hp6.keep (Nat.le_refl _))
      have HNB6 := Lib.hid (HNB5.out.keep hp6.keep (fun b h1 h2 e => by omega))
      clear hp6
      go_wp2_with fail
      refine (eval_any _ (· < w.heap.size) bo n cap' vals x _ HL6.out.at_ HS6.out (by simp) (by omega)).mono ?_
      rintro e w7 ⟨rfl, hp7⟩
      have HL7 := Lib.hid (HL6.out.p hp7)
      have HR7 := Lib.hid (HR6.out.keepf hp7.keep (Nat.le_refl _))
      have HS7 := Lib.hid (HS6.out.keepf hp7.keep (Nat.le_refl _))
      have HNB7 := Lib.hid (HNB6.out.keep hp7.keep (fun b h1 h2 e => by omega))
      clear hp7
      go_wp2_with fail
      refine (mul_any _ (peval x pts) (peval x vals) _ HL7.out.at_).mono ?_
      rintro e w8 ⟨rfl, hp8⟩
      have HL8 := Lib.hid (HL7.out.p hp8)
      have HR8 := Lib.hid (HR7.out.keepf hp8.keep (Nat.le_refl _))
      have HS8 := Lib.hid (HS7.out.keepf hp8.keep (Nat.le_refl _))
      have HNB8 := Lib.hid (HNB7.out.keep hp8.keep (fun b h1 h2 e => by omega))
      clear hp8
      rw [HTQ.out]
      go_wp2_with fail
      go_loopw [13] (fun i wr9 => ∃ (k : Nat), k ≤ n ∧ i = .int .i64 (k : Int) ∧ Hid (Lw w w.heap.size wr9 ∧ Keep (· = w.heap.size) w8 wr9)) (fun i _ => n - (intOf i).toNat)
      case atStart => exact ⟨0, Nat.zero_le _, rfl, HL8.out, Keep.refl _ _⟩
      case round =>
        obtain ⟨i, hi, rfl, HJ⟩ := hrel
        by_cases hlt2 : i < n
        · have hi0 : (0 : Int) ≤ (i : Int) := by omega
          have hin : (i : Int) < (n : Int) := by omega
          have him : (i : Int) < (n : Int) := by omega
          have hR9 := HR8.out.keepf HJ.out.2 (Nat.le_refl _)
          have hS9 := HS8.out.keepf HJ.out.2 (Nat.le_refl _)
          obtain ⟨b1, o1, c1, rfl, hb1, hx1, hc1⟩ := hR9.at_ hlt2
          obtain ⟨b2, o2, c2, rfl, hb2, hx2, hc2⟩ := hS9.at_ (k := i) (by omega)
          have HNB9 := Lib.hid (HNB8.out.keep HJ.out.2 (fun b h1 h2 e => by omega))
          have HYV := Lib.hid (HYE.out i c1 c2 hx1 hx2)
          have H2 : Hid (b2 ≠ w.heap.size) := fun e => by have h : b2 < w.heap.size := hb2; omega
          have H2L := Lib.hid (World.block_lt_of_cell? _ _ hc2)
          obtain ⟨ao9, n9, cp9, hv9, _, _, hrb9⟩ := HNB9.out.bs
          cases hv9
          have HQ9 : Hid (Rb (· ≠ w.heap.size) wr (some ⟨gp, 0, none⟩) n ys) := hrb9.mono (fun b _ (hb : w1.heap.size ≤ b) => by show b ≠ w.heap.size; omega)
          have HF9 := Lib.hid HJ.out.1.at_
          have hyc : ((((peval c1 ys).toNat : Nat) : Int) != (c2.toNat : Int)) = false := by rw [HYV.out, bne_self_eq_false]
          clear hx1 hx2 hR9 hS9 hb1 hb2 hrb9
          go_wp2_with fail
          go_region_with (first | (go_at_call 34; refine (eval_any w.heap.size (· ≠ w.heap.size) _ n capp ys c1 _ ?_ ?_ (by simp) (by omega)).mono ?_; (exact HF9.out); (exact HQ9.out); rintro e w' ⟨rfl, hp9⟩; have hc2' := (hp9.keep.cell (p := ⟨b2, o2 + i, none⟩) H2L.out H2.out).trans hc2))
          all_goals
            go_wp2_with fail
            go_roundw
            case rel =>
              refine ⟨i + 1, by omega, by go_num, ?_, ?_⟩
              · first | exact (HJ.out.1.drewN _).p hp9 | exact ((HJ.out.1.drewN _).p hp9).drewN _
              · first | exact (HJ.out.2.drewN _).trans hp9.keep | exact ((HJ.out.2.drewN _).trans hp9.keep).drewN _
            case measure => simp [intOf]; omega
        · have hkn2 : (n : Int) ≤ (i : Int) := by omega
          go_wp2_with fail
          refine (one4_any _).mono ?_
          rintro e w9 ⟨rfl, hp9⟩
          have HL9 := Lib.hid (HJ.out.1.k hp9)
          clear hp9
          go_wp2_with fail
          go_ret
          exact ⟨rfl, HL9.out.below⟩

theorem gfThrough_walk (w : World) (v : Value) (pts : List UInt8) (h : Bs (· < w.heap.size) w v pts) (v' : Value) (vals : List UInt8) (h' : Bs (· < w.heap.size) w v' vals) (x : UInt8) :
    Calls Try.prog 8 #[v, v', bv x] w fun e w' => e = .returned (.bool true) ∧ Below w.heap.size w w' := by
  obtain ⟨ao, n, cap, rfl, hc, hm, hr⟩ := h
  obtain ⟨bo, m, cap', rfl, hc', hm', hr'⟩ := h'
  unfold maxLen at hm hm'
  by_cases h1 : n ≤ 40
  · by_cases h2 : m ≤ 40
    · have hl := hr.len
      have hl' := hr'.len
      by_cases hnm : n = m
      · subst hnm
        by_cases h0 : n = 0
        · subst h0
          exact gfThrough_a2 w ao bo cap cap' pts vals x hr hr' (fun hd => by have := hd.2.1; omega)
        · by_cases hd : Dst pts vals
          · exact gfThrough_d w ao bo n cap cap' pts vals x hr hr' h1 hd (by omega) (by omega)
          · exact gfThrough_c2 w ao bo n cap cap' pts vals x hr hr' h1 hd (by omega) (by omega)
      · have hd : ¬ Dst pts vals := fun hd => hnm (by have := hd.1; omega)
        have hb : ((n : Int) == (m : Int)) = false := by rw [beq_eq_false_iff_ne]; omega
        by_cases h0 : n = 0
        · subst h0
          exact gfThrough_a1 w ao bo m cap cap' pts vals x hr hr' h2 hd hb
        · by_cases h3 : m = 0
          · subst h3
            exact gfThrough_b1 w ao bo n cap cap' pts vals x hr hr' h1 hd hb (by omega) h0
          · exact gfThrough_c1 w ao bo n m cap cap' pts vals x hr hr' h1 h2 hd hb (by omega) (by omega) hnm
    · have h2' : (40 : Int) < (m : Int) := by omega
      have h1' : (n : Int) ≤ 40 := by omega
      clear hr hr'
      go_enter Try.func8, Try.ntmps8
      go_wp2_with fail
      go_ret
      exact ⟨rfl, Below.refl _ _⟩
  · have h1' : (40 : Int) < (n : Int) := by omega
    clear hr hr'
    go_enter Try.func8, Try.ntmps8
    go_wp2_with fail
    go_ret
    exact ⟨rfl, Below.refl _ _⟩
end Go.Proofs.Ytegecjilpmkamaa
