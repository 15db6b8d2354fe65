/-
  The walks of mat's within, Right, Size, and of the reference's Right.
-/
import Derived.Test.YtegecjilpmkamaaIdx
import Derived.RegionTactic
namespace Go.Proofs.Ytegecjilpmkamaa
open Go.RowKit Sb

theorem within_yes (a b : Int) (w : World) (h1 : 1 ≤ a) (h2 : a ≤ b) : Calls Try.prog 75 #[.int .i64 a, .int .i64 b] w fun e w' => e = .returned (.bool true) ∧ w = w' := by
  go_enter Try.func75, Try.ntmps75
  go_wp2
  go_ret
  exact ⟨rfl, rfl⟩

theorem within_no (a b : Int) (w : World) (h : ¬ (1 ≤ a ∧ a ≤ b)) : Calls Try.prog 75 #[.int .i64 a, .int .i64 b] w fun e w' => e = .returned (.bool false) ∧ w = w' := by
  by_cases h1 : 1 ≤ a
  · have h2 : decide (a ≤ b) = false := by simp; omega
    clear h
    go_enter Try.func75, Try.ntmps75
    go_wp2
    go_ret
    exact ⟨rfl, rfl⟩
  · have h2 : decide (1 ≤ a) = false := by simp; omega
    clear h h1
    go_enter Try.func75, Try.ntmps75
    go_wp2
    go_ret
    exact ⟨rfl, rfl⟩

/-- How many columns: as many as the first row has. -/
def mcols : List (List UInt8) → Nat
  | [] => 0
  | r :: _ => r.length

/-- From 1 to 255 rows, of 1 to 255 numbers, all of one length. -/
def MRight (m : List (List UInt8)) : Prop := (1 ≤ m.length ∧ m.length ≤ 255) ∧ (1 ≤ mcols m ∧ mcols m ≤ 255) ∧ ∀ r ∈ m, r.length = mcols m
instance (m : List (List UInt8)) : Decidable (MRight m) := by unfold MRight; infer_instance
def mright (m : List (List UInt8)) : Bool := decide (MRight m)

theorem mright_true {m : List (List UInt8)} (h : MRight m) : mright m = true := decide_eq_true h
theorem mright_false {m : List (List UInt8)} (h : ¬ MRight m) : mright m = false := decide_eq_false h
theorem of_mright {m : List (List UInt8)} (h : mright m = true) : MRight m := of_decide_eq_true h
theorem of_not_mright {m : List (List UInt8)} (h : mright m = false) : ¬ MRight m := of_decide_eq_false h

theorem mcols_at {m : List (List UInt8)} {r : List UInt8} (h : m[0]? = some r) : mcols m = r.length := by
  cases m with
  | nil => simp at h
  | cons a m => simp at h; rw [mcols, h]

theorem closure86 (ao : Option Addr) (n cap lb long : Nat) (w : World) (hl : w.cell? ⟨lb, 0, none⟩ = some (.int .i64 long)) :
    Calls Try.prog 86 #[.slice ao n cap, .pointer (some ⟨lb, 0, none⟩)] w fun e w' => e = .returned (.bool ((n : Int) != (long : Int))) ∧ w = w' := by
  go_enter Try.func86, Try.ntmps86
  go_wp2
  go_ret
  exact ⟨rfl, rfl⟩

theorem right_any_iff {m : List (List UInt8)} {n c : Nat} (hn : m.length = n) (hc : mcols m = c) (h1 : 1 ≤ n ∧ n ≤ 255) (h2 : 1 ≤ c ∧ c ≤ 255) :
    (List.range n).any (fun i => ((((m[i]?.map List.length).getD 0 : Nat) : Int) != (c : Int))) = !mright m := by
  cases hm : mright m with
  | true =>
    have h := of_mright hm
    rw [Bool.not_true, List.any_eq_false]
    intro i hi
    rw [List.mem_range] at hi
    have hl : i < m.length := by omega
    rw [List.getElem?_eq_getElem hl]
    have := h.2.2 _ (List.getElem_mem hl)
    simp only [Option.map_some, Option.getD_some]
    rw [this, hc]
    simp
  | false =>
    have h := of_not_mright hm
    rw [Bool.not_false, List.any_eq_true]
    have hex : ∃ r ∈ m, r.length ≠ mcols m := by
      apply Classical.byContradiction
      intro hno
      exact h ⟨by omega, by omega, fun r hr => Classical.byContradiction fun hne => hno ⟨r, hr, hne⟩⟩
    obtain ⟨r, hr, hne⟩ := hex
    obtain ⟨i, hi, he⟩ := List.getElem_of_mem hr
    refine ⟨i, List.mem_range.2 (by omega), ?_⟩
    rw [List.getElem?_eq_getElem hi, he]
    simp only [Option.map_some, Option.getD_some]
    rw [bne_iff_ne]
    omega

set_option maxRecDepth 100000 in
set_option maxHeartbeats 1000000 in
theorem right_any (P : Nat → Prop) (ao : Option Addr) (n cap : Nat) (us : List Value) (m : List (List UInt8)) (w : World) (hr : Mv P w ao n us m) (hn : n ≤ 9223372036854775807) :
    Calls Try.prog 58 #[.slice ao n cap] w fun e w' => e = .returned (.bool (mright m)) ∧ Keep (fun _ => False) w w' := by
  by_cases h1 : 1 ≤ n ∧ n ≤ 255
  · obtain ⟨b, o, ao', n', cap', r, rfl, hP, hu, hm0, hc, hcap, hmx, hrb⟩ := hr.at_ (k := 0) (by omega)
    have hmc : mcols m = n' := by rw [mcols_at hm0]; exact hrb.len
    rw [Nat.add_zero] at hc
    have hp : (0 : Int) < (n : Int) := by omega
    have hR := Lib.hid hr
    have hml := Lib.hid hr.len
    have HMC := Lib.hid hmc
    have hL1 : (1 : Int) ≤ (n : Int) := by omega
    have hL2 : (n : Int) ≤ 255 := by omega
    unfold maxLen at hmx
    by_cases h2 : 1 ≤ n' ∧ n' ≤ 255
    · have hL3 : (1 : Int) ≤ (n' : Int) := by omega
      have hL4 : (n' : Int) ≤ 255 := by omega
      have hq := right_any_iff hr.len hmc h1 h2
      have HQ := Lib.hid hq
      have hmf := hmf
      have hn := hnot
      have hW : Hid (Mv P (w.alloc (.cells #[.int .i64 n'] 3)) (some ⟨b, o, none⟩) n us m) := hr.keep ((Keep.refl (fun _ => False) w).alloc _) (fun _ _ _ => id)
      clear hr hu hm0 hrb hmc hq h1 h2
      go_enter Try.func58, Try.ntmps58
      go_wp2_with fail
      refine (within_yes n 255 _ hL1 hL2).mono ?_
      rintro e w' ⟨rfl, rfl⟩
      go_wp2_with fail
      refine (within_yes n' 255 _ hL3 hL4).mono ?_
      rintro e w' ⟨rfl, rfl⟩
      go_wp2_with fail
      refine (any_86 P _ n cap us m _ (fun i => ((((m[i]?.map List.length).getD 0 : Nat) : Int) != (n' : Int))) _ hW.out (by omega) (fun i u hu => ?_)).mono ?_
      · obtain ⟨r, hr⟩ : ∃ r, m[i]? = some r := ⟨m[i]'(by have := hW.out.lenu; have := hml.out; have := (List.getElem?_eq_some_iff.1 hu).1; omega), List.getElem?_eq_getElem _⟩
        obtain ⟨a2, n2, c2, rfl, _, _, h3⟩ := hW.out.row hu hr
        have := closure86 a2 n2 c2 w.heap.size n' (w.alloc (.cells #[.int .i64 n'] 3)) (by simp)
        rw [hr]
        simp only [Option.map_some, Option.getD_some]
        rw [h3.len]
        exact this
      rintro e w' ⟨rfl, rfl⟩
      rw [HQ.out]
      go_wp2_with fail
      go_ret
      exact ⟨rfl, (Keep.refl _ _).alloc _⟩
    · have hm : Hid (mright m = false) := mright_false (fun h => h2 (by rw [← hmc]; exact h.2.1))
      clear hr hu hm0 hrb hmc
      have H2 := Lib.hid h2
      clear h1 h2
      go_enter Try.func58, Try.ntmps58
      go_wp2_with fail
      refine (within_yes n 255 _ hL1 hL2).mono ?_
      rintro e w' ⟨rfl, rfl⟩
      have hn := hnot
      go_wp2_with fail
      refine (within_no n' 255 _ (by have := H2.out; omega)).mono ?_
      rintro e w' ⟨rfl, rfl⟩
      go_wp2_with fail
      go_ret
      exact ⟨by rw [hm.out]; rfl, (Keep.refl _ _).alloc _⟩
  · have hm : Hid (mright m = false) := mright_false (fun h => h1 (by rw [← hr.len]; exact h.1))
    have H1 := Lib.hid h1
    have hn := hnot
    clear hr h1
    go_enter Try.func58, Try.ntmps58
    go_wp2_with fail
    refine (within_no n 255 _ (by have := H1.out; omega)).mono ?_
    rintro e w' ⟨rfl, rfl⟩
    go_wp2_with fail
    go_ret
    exact ⟨by rw [hm.out]; rfl, Keep.refl _ _⟩

set_option maxRecDepth 100000 in
set_option maxHeartbeats 1000000 in
theorem size_any (P : Nat → Prop) (ao : Option Addr) (n cap : Nat) (us : List Value) (m : List (List UInt8)) (w : World) (hr : Mv P w ao n us m) (hn : n ≤ 9223372036854775807) :
    Calls Try.prog 56 #[.slice ao n cap] w fun e w' => e = .returned (.tuple #[.int .i64 (if mright m then n else 0 : Nat), .int .i64 (if mright m then mcols m else 0 : Nat)]) ∧ Keep (fun _ => False) w w' := by
  have HR := Lib.hid (right_any P ao n cap us m w hr hn)
  cases hm : mright m with
  | false =>
    have HM := Lib.hid hm
    have hnt := hnot
    clear hm hr
    go_enter Try.func56, Try.ntmps56
    go_wp2_with fail
    refine HR.out.mono ?_
    rintro e w1 ⟨rfl, hk⟩
    rw [HM.out]
    go_wp2_with fail
    go_ret2
    exact ⟨rfl, hk⟩
  | true =>
    have HM := Lib.hid hm
    have hnt := hnot
    have hM := of_mright hm
    have h1 := hM.1.1
    rw [hr.len] at h1
    obtain ⟨b, o, ao', n', cap', r, rfl, hP, hu, hm0, hc, hcap, hmx, hrb⟩ := hr.at_ (k := 0) (by omega)
    have hmc : Hid (mcols m = n') := by
      have := mcols_at hm0
      rw [hrb.len] at this
      exact this
    rw [Nat.add_zero] at hc
    have hlt := World.block_lt_of_cell? w _ hc
    have hp : (0 : Int) < (n : Int) := by omega
    clear hm hr hM hu hm0 hrb
    go_enter Try.func56, Try.ntmps56
    go_wp2_with fail
    refine HR.out.mono ?_
    rintro e w1 ⟨rfl, hk⟩
    rw [HM.out]
    have hc1 : w1.cell? ⟨b, o, none⟩ = some (.slice ao' n' cap') := (hk.cell hlt id).trans hc
    go_wp2_with fail
    go_quiet (fail)
    go_wp2_with fail
    go_ret2
    exact ⟨by rw [hmc.out]; rfl, hk.drewN _⟩

/-- The first k rows are as they should be. -/
def RowsOk (m : List (List UInt8)) (k : Nat) : Prop := ∀ (i : Nat) (r : List UInt8), i < k → m[i]? = some r → r.length = mcols m ∧ 1 ≤ mcols m ∧ mcols m ≤ 255

set_option maxRecDepth 100000 in
set_option maxHeartbeats 2000000 in
theorem refright_any (P : Nat → Prop) (ao : Option Addr) (n cap : Nat) (us : List Value) (m : List (List UInt8)) (w : World) (hr : Mv P w ao n us m) (hn : n ≤ 9223372036854775807) :
    Calls Try.prog 49 #[.slice ao n cap] w fun e w' => e = .returned (.bool (mright m)) ∧ ∃ d, w' = w.drewN d := by
  by_cases h1 : 1 ≤ n ∧ n ≤ 255
  · obtain ⟨b, o, ao0, n0, cap0, r0, rfl, hP, hu0, hm0, hc0, hcap0, hmx0, hrb0⟩ := hr.at_ (k := 0) (by omega)
    have hmc : Hid (mcols m = n0) := by
      have := mcols_at hm0
      rw [hrb0.len] at this
      exact this
    rw [Nat.add_zero] at hc0
    have HR := Lib.hid hr
    have hL1 : decide ((n : Int) < 1) = false := by simp; omega
    have hL2 : decide ((255 : Int) < (n : Int)) = false := by simp; omega
    have hL3 : (1 : Int) ≤ (n : Int) := by omega
    have hL4 : (n : Int) ≤ 255 := by omega
    have hp : (0 : Int) < (n : Int) := by omega
    have HC0 := Lib.hid hc0
    have H1 := Lib.hid h1
    clear hr hu0 hm0 hrb0 hc0 h1
    go_enter Try.func49, Try.ntmps49
    go_wp2_with fail
    go_loopw [3] (fun i wr => ∃ k d : Nat, k ≤ n ∧ i = .int .i64 (k : Int) ∧ Hid (RowsOk m k ∧ wr = w.drewN d)) (fun i _ => n - (intOf i).toNat)
    case atStart => exact ⟨0, 0, Nat.zero_le _, rfl, fun i r h => by omega, rfl⟩
    case round =>
      obtain ⟨k, d, hk, rfl, HI⟩ := hrel
      by_cases hlt : k < n
      · obtain ⟨b', o', ao', n', cap', r, he, _, hu, hmk, hc, _, hmx, hrb⟩ := HR.out.at_ hlt
        cases he
        have hcr : wr.cell? ⟨b, o + k, none⟩ = some (.slice ao' n' cap') := by rw [HI.out.2]; exact hc
        have hcr0 : wr.cell? ⟨b, o, none⟩ = some (.slice ao0 n0 cap0) := by rw [HI.out.2]; exact HC0.out
        have HMK := Lib.hid hmk
        have HRL := Lib.hid hrb.len
        have hj0 : (0 : Int) ≤ (k : Int) := by omega
        have hjn : (k : Int) < (n : Int) := by omega
        clear hu hmk hc hrb
        by_cases e1 : n' = n0
        · have f1 : ((n' : Int) != (n0 : Int)) = false := by rw [e1, bne_self_eq_false]
          by_cases e2 : 1 ≤ n'
          · have f2 : decide ((n' : Int) < 1) = false := by simp; omega
            by_cases e3 : n' ≤ 255
            · have f3 : decide ((255 : Int) < (n' : Int)) = false := by simp; omega
              have E1 := Lib.hid e1
              clear e1
              go_wp2_with fail
              go_quiet (fail)
              go_wp2_with fail
              go_roundw
              case rel =>
                refine ⟨k + 1, d + nq, by omega, by go_num, fun i s hi hs => ?_, by rw [HI.out.2, World.drewN_drewN]⟩
                by_cases hik : i = k
                · subst hik
                  rw [HMK.out] at hs
                  cases hs
                  have := E1.out
                  rw [hmc.out, HRL.out]
                  omega
                · exact HI.out.1 i s (by omega) hs
              case measure => simp [intOf]; omega
            · have f3 : decide ((255 : Int) < (n' : Int)) = true := by simp; omega
              have hf : Hid (mright m = false) := mright_false (fun h => by have := h.2.1.2; rw [hmc.out] at this; omega)
              clear e1 e2 e3
              go_wp2_with fail
              go_quiet (fail)
              go_wp2_with fail
              go_ret
              exact ⟨by rw [hf.out]; rfl, d + nq, by rw [HI.out.2, World.drewN_drewN]⟩
          · have f2 : decide ((n' : Int) < 1) = true := by simp; omega
            have hf : Hid (mright m = false) := mright_false (fun h => by have := h.2.1.1; rw [hmc.out] at this; omega)
            clear e1 e2
            go_wp2_with fail
            go_quiet (fail)
            go_wp2_with fail
            go_ret
            exact ⟨by rw [hf.out]; rfl, d + nq, by rw [HI.out.2, World.drewN_drewN]⟩
        · have f1 : ((n' : Int) != (n0 : Int)) = true := by rw [bne_iff_ne]; omega
          have hf : Hid (mright m = false) := mright_false (fun h => e1 (by have := h.2.2 r (List.mem_of_getElem? HMK.out); rw [HRL.out, hmc.out] at this; exact this))
          clear e1
          go_wp2_with fail
          go_quiet (fail)
          go_wp2_with fail
          go_ret
          exact ⟨by rw [hf.out]; rfl, d + nq, by rw [HI.out.2, World.drewN_drewN]⟩
      · have hkn : (n : Int) ≤ (k : Int) := by omega
        have hf : Hid (mright m = true) := by
          have hl := HR.out.len
          have h1 := H1.out
          have hk : k = n := by omega
          refine mright_true ⟨by omega, ?_, fun r hr => ?_⟩
          · obtain ⟨r, hr⟩ : ∃ r, m[0]? = some r := ⟨m[0]'(by omega), List.getElem?_eq_getElem _⟩
            exact (HI.out.1 0 r (by omega) hr).2
          · obtain ⟨i, hi, he⟩ := List.getElem_of_mem hr
            exact (HI.out.1 i r (by omega) (by rw [List.getElem?_eq_getElem hi, he])).1
        go_wp2_with fail
        go_ret
        exact ⟨by rw [hf.out]; rfl, d, HI.out.2⟩
  · have hf : Hid (mright m = false) := mright_false (fun h => h1 (by rw [← hr.len]; exact h.1))
    clear hr
    by_cases h2 : 1 ≤ n
    · have hL1 : decide ((n : Int) < 1) = false := by simp; omega
      have hL2 : decide ((255 : Int) < (n : Int)) = true := by simp; omega
      clear h1 h2
      go_enter Try.func49, Try.ntmps49
      go_wp2_with fail
      go_ret
      exact ⟨by rw [hf.out]; rfl, 0, rfl⟩
    · have hL1 : decide ((n : Int) < 1) = true := by simp; omega
      clear h1 h2
      go_enter Try.func49, Try.ntmps49
      go_wp2_with fail
      go_ret
      exact ⟨by rw [hf.out]; rfl, 0, rfl⟩
end Go.Proofs.Ytegecjilpmkamaa
