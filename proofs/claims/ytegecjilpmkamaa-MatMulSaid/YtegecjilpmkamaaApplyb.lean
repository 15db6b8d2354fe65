/-
  The walk of mat's Apply, where its matrix and the number of shards fit.
-/
import Derived.Test.YtegecjilpmkamaaApply
namespace Go.Proofs.Ytegecjilpmkamaa
open Go.RowKit Sb

theorem any_84m (Q : Nat → Prop) (a2 : Option Addr) (n2 c2 lb : Nat) (vs : List Value) (l : List (List UInt8)) (w : World) (h2 : Mv Q w a2 n2 vs l) (hn : 0 < n2) (hn2 : n2 ≤ 9223372036854775807) (hl : w.cell? ⟨lb, 0, none⟩ = some (.slice a2 n2 c2)) :
    Calls Try.prog 83 #[.slice a2 n2 c2, .func (.func 84) #[] #[.pointer (some ⟨lb, 0, none⟩)]] w fun e w' => e = .returned (.bool (!l.all (fun r => decide (r.length = mcols l)))) ∧ w = w' := by
  refine (any_84 Q a2 n2 c2 vs l (.pointer (some ⟨lb, 0, none⟩)) (fun i => ((((l[i]?.map List.length).getD 0 : Nat) : Int) != (mcols l : Int))) w h2 hn2 (fun i u hu => ?_)).mono ?_
  · obtain ⟨b, o, ao', n', cap', r, _, _, hu', hr, _, _, _, hrb⟩ := h2.at_ (k := i) (by have := h2.lenu; have := (List.getElem?_eq_some_iff.1 hu).1; omega)
    rw [hu] at hu'
    cases hu'
    refine (closure84 Q ao' a2 n' cap' n2 c2 lb vs l w h2 hn hl).mono ?_
    rintro e w' ⟨rfl, rfl⟩
    refine ⟨?_, rfl⟩
    rw [hr, Option.map_some, Option.getD_some, hrb.len]
  · rintro e w' ⟨rfl, rfl⟩
    exact ⟨by rw [any_not_all l n2 h2.len], rfl⟩

theorem any_84is (Q : Nat → Prop) (a2 : Option Addr) (n2 c2 lb : Nat) (vs : List Value) (l : List (List UInt8)) (w : World) (x : Bool) (h2 : Mv Q w a2 n2 vs l) (hn : 0 < n2 ∧ n2 ≤ 9223372036854775807) (hl : w.cell? ⟨lb, 0, none⟩ = some (.slice a2 n2 c2)) (hx : l.all (fun r => decide (r.length = mcols l)) = !x) :
    Calls Try.prog 83 #[.slice a2 n2 c2, .func (.func 84) #[] #[.pointer (some ⟨lb, 0, none⟩)]] w fun e w' => e = .returned (.bool x) ∧ w = w' :=
  (any_84m Q a2 n2 c2 lb vs l w h2 hn.1 hn.2 hl).mono fun _ _ ⟨he, hw⟩ => ⟨by rw [he, hx, Bool.not_not], hw⟩

set_option maxRecDepth 100000 in
set_option maxHeartbeats 4000000 in
theorem apply_no3 (p : Value) (P Q : Nat → Prop) (a1 a2 : Option Addr) (n1 n2 c1 c2 : Nat) (us vs : List Value) (m l : List (List UInt8)) (w : World) (h1 : Mv P w a1 n1 us m) (h2 : Mv Q w a2 n2 vs l) (hm : mright m = true) (hne : n2 = mcols m) (hall : l.all (fun r => decide (r.length = mcols l)) = false) :
    Calls Try.prog 55 #[p, .slice a1 n1 c1, .slice a2 n2 c2] w fun e w' => e = .returned (.tuple #[.slice none 0 0, .int .i64 2]) ∧ Keep (fun _ => False) w w' := by
  have hM := of_mright hm
  have e1 := hM.1
  have e2 := hM.2.1
  rw [h1.len] at e1
  have h1' := h1.keep ((Keep.refl (fun _ => False) w).alloc (.cells #[.slice a2 n2 c2] 40)) (fun _ _ _ => id)
  have h2' := h2.keep ((Keep.refl (fun _ => False) w).alloc (.cells #[.slice a2 n2 c2] 40)) (fun _ _ _ => id)
  obtain ⟨b, o, ao', n', cap', r, rfl, _, hu, hm0, hc, _, hmx, hrb⟩ := h1'.at_ (k := 0) (by omega)
  rw [Nat.add_zero] at hc
  have hmc := mcols_at hm0
  rw [hrb.len] at hmc
  rw [hmc] at hne e2
  subst hne
  have hbox : (w.alloc (.cells #[.slice a2 n2 c2] 40)).cell? ⟨w.heap.size, 0, none⟩ = some (.slice a2 n2 c2) := by simp
  have H1 := Lib.hid h1'
  have H2 := Lib.hid h2'
  have HM := Lib.hid hm
  have HA := Lib.hid hall
  have HL1 := Lib.hid (World.block_lt_of_cell? _ _ hc)
  have HL2 := Lib.hid (World.block_lt_of_cell? _ _ hbox)
  have HN : Hid (n1 ≤ 9223372036854775807) := by show n1 ≤ 9223372036854775807; omega
  have HN2 : Hid (0 < n2 ∧ n2 ≤ 9223372036854775807) := by show 0 < n2 ∧ n2 ≤ 9223372036854775807; omega
  have hp : (0 : Int) < (n1 : Int) := by omega
  have hnt := hnot
  have hmf := hmf
  have HK0 : Hid (Keep (fun _ => False) w (w.alloc (.cells #[.slice a2 n2 c2] 40))) := (Keep.refl (fun _ => False) w).alloc _
  clear h1 h1' h2 h2' hm hM e1 e2 hu hm0 hrb hmc hmx hbox hall
  go_enter Try.func55, Try.ntmps55
  go_wp2_with fail
  have hbox : (w.alloc (.cells #[.slice a2 n2 c2] 40)).cell? ⟨w.heap.size, 0, none⟩ = some (.slice a2 n2 c2) := by simp
  generalize w.alloc (.cells #[.slice a2 n2 c2] 40) = w0 at *
  first | (go_region_with (first | (go_at_call 58; refine (right_true P _ n1 c1 us m _ ?_ HN.out HM.out).mono ?_; (exact H1.out); rintro e w1 ⟨rfl, hk⟩; have m1 := (hk.cell (p := ⟨b, o, none⟩) HL1.out id).trans hc; have m2 := (hk.cell (p := ⟨w.heap.size, 0, none⟩) HL2.out id).trans hbox) | (go_at_call 83; refine (any_84is Q a2 n2 c2 w.heap.size vs l _ true ?_ HN2.out ?_ HA.out).mono ?_; (exact H2.out.keep (S := fun _ => False) ⟨hk.os, hk.tape, hk.output, hk.size, hk.block⟩ (fun _ _ _ => id)); (exact m2); rintro e w2 ⟨rfl, rfl⟩))) | fail "no"
  all_goals
    have HK : Hid (Keep (fun _ => False) w w1) := HK0.out.trans ⟨hk.os, hk.tape, hk.output, hk.size, hk.block⟩
    clear hk m1 m2 hc hbox
    go_wp2_with fail
    go_ret2
    exact ⟨rfl, HK.out⟩
end Go.Proofs.Ytegecjilpmkamaa
