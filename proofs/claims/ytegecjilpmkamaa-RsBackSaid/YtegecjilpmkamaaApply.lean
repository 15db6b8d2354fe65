/-
  The walk of mat's Apply.
-/
import Derived.Test.YtegecjilpmkamaaRmul
namespace Go.Proofs.Ytegecjilpmkamaa
open Go.RowKit Sb

set_option maxRecDepth 100000 in
theorem closure84 (P : Nat → Prop) (ao bo : Option Addr) (n cap n2 cap2 lb : Nat) (us : List Value) (l : List (List UInt8)) (w : World) (hr : Mv P w bo n2 us l) (hn : 0 < n2) (hl : w.cell? ⟨lb, 0, none⟩ = some (.slice bo n2 cap2)) :
    Calls Try.prog 84 #[.slice ao n cap, .pointer (some ⟨lb, 0, none⟩)] w fun e w' => e = .returned (.bool ((n : Int) != (mcols l : Int))) ∧ w = w' := by
  obtain ⟨b, o, ao', n', cap', r', rfl, _, hu, hr', hc, _, _, hrb⟩ := hr.at_ hn
  rw [Nat.add_zero] at hc
  have e : Hid (mcols l = n') := by
    show mcols l = n'
    rw [mcols_at hr', hrb.len]
  have h1 : (0 : Int) < (n2 : Int) := by omega
  clear hr hn hu hr' hrb
  go_enter Try.func84, Try.ntmps84
  go_wp2_with fail
  go_ret
  exact ⟨by rw [e.out]; rfl, rfl⟩

/-- May a matrix be applied to shards? -/
def mapp (m l : List (List UInt8)) : Bool := mright m && (decide (l.length = mcols m) && l.all (fun r => decide (r.length = mcols l)))

theorem any_not_all (l : List (List UInt8)) (n : Nat) (hn : l.length = n) : (List.range n).any (fun i => ((((l[i]?.map List.length).getD 0 : Nat) : Int) != (mcols l : Int))) = !l.all (fun r => decide (r.length = mcols l)) := by
  rw [Bool.eq_iff_iff, List.any_eq_true, Bool.not_eq_true', ← Bool.not_eq_true, List.all_eq_true]
  constructor
  · rintro ⟨i, hi, h⟩ hall
    rw [List.mem_range] at hi
    have hl : i < l.length := by omega
    rw [List.getElem?_eq_getElem hl, Option.map_some, Option.getD_some, bne_iff_ne] at h
    have := of_decide_eq_true (hall _ (List.getElem_mem hl))
    exact h (by rw [this])
  · intro h
    apply Classical.byContradiction
    intro hno
    apply h
    intro r hr
    obtain ⟨i, hi, rfl⟩ := List.getElem_of_mem hr
    apply decide_eq_true
    apply Classical.byContradiction
    intro hne
    apply hno
    refine ⟨i, List.mem_range.2 (by omega), ?_⟩
    rw [List.getElem?_eq_getElem hi, Option.map_some, Option.getD_some, bne_iff_ne]
    omega

theorem right_false (P : Nat → Prop) (ao : Option Addr) (n cap : Nat) (us : List Value) (m : List (List UInt8)) (w : World) (hr : Mv P w ao n us m) (hn : n ≤ 9223372036854775807) (hm : mright m = false) :
    Calls Try.prog 58 #[.slice ao n cap] w fun e w' => e = .returned (.bool false) ∧ Keep (fun _ => False) w w' :=
  (right_any P ao n cap us m w hr hn).mono fun _ _ ⟨he, hk⟩ => ⟨by rw [he, hm], hk⟩
theorem right_true (P : Nat → Prop) (ao : Option Addr) (n cap : Nat) (us : List Value) (m : List (List UInt8)) (w : World) (hr : Mv P w ao n us m) (hn : n ≤ 9223372036854775807) (hm : mright m = true) :
    Calls Try.prog 58 #[.slice ao n cap] w fun e w' => e = .returned (.bool true) ∧ Keep (fun _ => False) w w' :=
  (right_any P ao n cap us m w hr hn).mono fun _ _ ⟨he, hk⟩ => ⟨by rw [he, hm], hk⟩

set_option maxRecDepth 100000 in
set_option maxHeartbeats 2000000 in
theorem apply_no1 (p : Value) (P : Nat → Prop) (a1 a2 : Option Addr) (n1 n2 c1 c2 : Nat) (us : List Value) (m : List (List UInt8)) (w : World) (h1 : Mv P w a1 n1 us m) (hn1 : n1 ≤ 9223372036854775807) (hm : mright m = false) :
    Calls Try.prog 55 #[p, .slice a1 n1 c1, .slice a2 n2 c2] w fun e w' => e = .returned (.tuple #[.slice none 0 0, .int .i64 2]) ∧ Keep (fun _ => False) w w' := by
  have H1 := Lib.hid (h1.keep ((Keep.refl (fun _ => False) w).alloc (.cells #[.slice a2 n2 c2] 40)) (fun _ _ _ => id))
  have HM := Lib.hid hm
  have hnt := hnot
  have hmf := hmf
  clear h1 hm
  go_enter Try.func55, Try.ntmps55
  go_wp2_with fail
  first | (go_region_with (first | (go_at_call 58; refine (right_false P a1 n1 c1 us m _ ?_ hn1 HM.out).mono ?_; (exact H1.out); rintro e w1 ⟨rfl, hk⟩))) | fail "no"
  all_goals
    have HK : Hid (Keep (fun _ => False) w w1) := ((Keep.refl (fun _ => False) w).alloc (.cells #[.slice a2 n2 c2] 40)).trans ⟨hk.os, hk.tape, hk.output, hk.size, hk.block⟩
    clear hk
    go_wp2_with fail
    go_ret2
    exact ⟨rfl, HK.out⟩

set_option maxRecDepth 100000 in
set_option maxHeartbeats 4000000 in
theorem apply_no2 (p : Value) (P : Nat → Prop) (a1 a2 : Option Addr) (n1 n2 c1 c2 : Nat) (us : List Value) (m : List (List UInt8)) (w : World) (h1 : Mv P w a1 n1 us m) (hm : mright m = true) (hne : n2 ≠ mcols m) :
    Calls Try.prog 55 #[p, .slice a1 n1 c1, .slice a2 n2 c2] w fun e w' => e = .returned (.tuple #[.slice none 0 0, .int .i64 2]) ∧ Keep (fun _ => False) w w' := by
  have hM := of_mright hm
  have e1 := hM.1
  rw [h1.len] at e1
  have h1' := h1.keep ((Keep.refl (fun _ => False) w).alloc (.cells #[.slice a2 n2 c2] 40)) (fun _ _ _ => id)
  obtain ⟨b, o, ao', n', cap', r, rfl, _, hu, hm0, hc, _, hmx, hrb⟩ := h1'.at_ (k := 0) (by omega)
  rw [Nat.add_zero] at hc
  have hmc := mcols_at hm0
  rw [hrb.len] at hmc
  have hne2 : ((n2 : Int) != (n' : Int)) = true := by rw [bne_iff_ne]; omega
  have hbox : (w.alloc (.cells #[.slice a2 n2 c2] 40)).cell? ⟨w.heap.size, 0, none⟩ = some (.slice a2 n2 c2) := by simp
  have H1 := Lib.hid h1'
  have HM := Lib.hid hm
  have HL1 := Lib.hid (World.block_lt_of_cell? _ _ hc)
  have HL2 := Lib.hid (World.block_lt_of_cell? _ _ hbox)
  have HN : Hid (n1 ≤ 9223372036854775807) := by show n1 ≤ 9223372036854775807; omega
  have hp : (0 : Int) < (n1 : Int) := by omega
  have hnt := hnot
  have HK0 : Hid (Keep (fun _ => False) w (w.alloc (.cells #[.slice a2 n2 c2] 40))) := (Keep.refl (fun _ => False) w).alloc _
  clear h1 h1' hm hM e1 hu hm0 hrb hmc hne hmx hbox
  go_enter Try.func55, Try.ntmps55
  go_wp2_with fail
  have hbox : (w.alloc (.cells #[.slice a2 n2 c2] 40)).cell? ⟨w.heap.size, 0, none⟩ = some (.slice a2 n2 c2) := by simp
  generalize w.alloc (.cells #[.slice a2 n2 c2] 40) = w0 at *
  first | (go_region_with (first | (go_at_call 58; refine (right_true P _ n1 c1 us m _ ?_ HN.out HM.out).mono ?_; (exact H1.out); rintro e w1 ⟨rfl, hk⟩; have m1 := (hk.cell (p := ⟨b, o, none⟩) HL1.out id).trans hc; have m2 := (hk.cell (p := ⟨w.heap.size, 0, none⟩) HL2.out id).trans hbox))) | fail "no"
  all_goals
    have HK : Hid (Keep (fun _ => False) w w1) := HK0.out.trans ⟨hk.os, hk.tape, hk.output, hk.size, hk.block⟩
    clear hk m1 m2 hc hbox
    go_wp2_with fail
    go_ret2
    exact ⟨rfl, HK.out⟩
end Go.Proofs.Ytegecjilpmkamaa
