/-
  The walk of mat's Turn.
-/
import Derived.Test.YtegecjilpmkamaaOm
namespace Go.Proofs.Ytegecjilpmkamaa
open Go.RowKit Sb

set_option maxRecDepth 100000 in
theorem closure80 (P : Nat → Prop) (ao : Option Addr) (n cap lb i j : Nat) (us : List Value) (m : List (List UInt8)) (r : List UInt8) (w : World) (hr : Mv P w ao n us m) (hj : m[j]? = some r) (hi : i < r.length) (hl : w.cell? ⟨lb, 0, none⟩ = some (.slice ao n cap)) :
    Calls Try.prog 80 #[.int .i64 i, .int .i64 j, .pointer (some ⟨lb, 0, none⟩)] w fun e w' => e = .returned (bv (ent m j i)) ∧ w = w' := by
  have hjn : j < n := by
    have := (List.getElem?_eq_some_iff.1 hj).1
    have := hr.len
    omega
  obtain ⟨b, o, ao', n', cap', r', rfl, _, hu, hr', hc, _, _, hrb⟩ := hr.at_ hjn
  rw [hj] at hr'
  cases hr'
  have hl' := hrb.len
  obtain ⟨b2, o2, x, rfl, _, hx, hc2⟩ := hrb.at_ (k := i) (by omega)
  have e : Hid (ent m j i = x) := by
    show ent m j i = x
    unfold ent
    rw [hj, Option.getD_some, hx, Option.getD_some]
  have h0 : (0 : Int) ≤ (j : Int) := by omega
  have h1 : (j : Int) < (n : Int) := by omega
  have h2 : (0 : Int) ≤ (i : Int) := by omega
  have h3 : (i : Int) < (n' : Int) := by omega
  clear hr hj hi hjn hu hrb hx hl'
  go_enter Try.func80, Try.ntmps80
  go_wp2_with fail
  go_ret
  exact ⟨by rw [e.out]; rfl, rfl⟩

set_option maxRecDepth 100000 in
set_option maxHeartbeats 1000000 in
theorem turn_no (P : Nat → Prop) (ao : Option Addr) (n cap : Nat) (us : List Value) (m : List (List UInt8)) (w : World) (hr : Mv P w ao n us m) (hn : n ≤ 9223372036854775807) (hm : mright m = false) :
    Calls Try.prog 51 #[.slice ao n cap] w fun e w' => e = .returned (.slice none 0 0) ∧ Keep (fun _ => False) w w' := by
  have hW := Lib.hid (hr.keep ((Keep.refl (fun _ => False) w).alloc (.cells #[.slice ao n cap] 41)) (fun _ _ _ => id))
  have HM := Lib.hid hm
  clear hr hm
  go_enter Try.func51, Try.ntmps51
  go_wp2_with fail
  refine (size_any P ao n cap us m _ hW.out hn).mono ?_
  rintro e w1 ⟨rfl, hk⟩
  have HK := Lib.hid (((Keep.refl (fun _ => False) w).alloc (.cells #[.slice ao n cap] 41)).trans hk)
  clear hk
  rw [HM.out]
  go_wp2_with fail
  go_ret
  exact ⟨rfl, HK.out⟩

set_option maxRecDepth 100000 in
set_option maxHeartbeats 1000000 in
theorem turn_yes (P : Nat → Prop) (ao : Option Addr) (n cap : Nat) (us : List Value) (m : List (List UInt8)) (w : World) (hr : Mv P w ao n us m) (hm : mright m = true) :
    Calls Try.prog 51 #[.slice ao n cap] w fun e w' => ∃ g G, e = .returned (.slice (some ⟨g, 0, none⟩) (mcols m) (mcols m)) ∧ Fl w.heap.size w' g G (mcols m) n (fun i => rowOf n (fun j => ent m j i)) ∧ Keep (fun _ => False) w w' := by
  have hW := Lib.hid (hr.keep ((Keep.refl (fun _ => False) w).alloc (.cells #[.slice ao n cap] 41)) (fun _ _ _ => id))
  have hM := of_mright hm
  have HM := Lib.hid hm
  have HMM := Lib.hid hM
  have h1 := hM.1
  rw [hr.len] at h1
  have h2 := hM.2.1
  have n1 : (n : Int) ≠ 0 := by omega
  have n2 : ((n : Int) == 0) = false := by rw [beq_eq_false_iff_ne]; exact n1
  have hmf := hmf
  have H1 := Lib.hid h1
  have H2 := Lib.hid h2
  have HLEN := Lib.hid hr.len
  obtain ⟨c, hc⟩ : ∃ c, c = mcols m := ⟨_, rfl⟩
  rw [← hc]
  have HC := Lib.hid hc
  clear hr hm hM h1 h2 hc
  go_enter Try.func51, Try.ntmps51
  go_wp2_with fail
  refine (size_any P ao n cap us m _ hW.out (by have := H1.out; omega)).mono ?_
  rintro e w1 ⟨rfl, hk⟩
  have hbox : w1.cell? ⟨w.heap.size, 0, none⟩ = some (.slice ao n cap) := by
    rw [hk.cell (by simp) id]
    simp
  have HBOX := Lib.hid hbox
  have HR1 := Lib.hid (hW.out.keep hk (fun _ _ _ => id))
  have HK := Lib.hid (((Keep.refl (fun _ => False) w).alloc (.cells #[.slice ao n cap] 41)).trans hk)
  clear hk
  rw [HM.out, ← HC.out]
  go_wp2_with fail
  refine (filled_80 (fun _ => False) (fun wx => Keep (fun b => w1.heap.size ≤ b) w1 wx) (fun i j => ent m j i) _ c n w1 (by have := H2.out; have := HC.out; omega) (by have := H1.out; omega) (Keep.refl _ _) (fun b h => h.elim) (fun wa wb h hk hs => h.trans hk) (fun i j wa hi hj h hs => ?_)).mono ?_
  · have hlt : j < m.length := by have := HLEN.out; omega
    have hrow := HMM.out.2.2 _ (List.getElem_mem hlt)
    refine (closure80 P ao n cap w.heap.size i j us m _ wa (HR1.out.keep h (fun b hb _ hc => by omega)) (List.getElem?_eq_getElem hlt) (by have := HC.out; omega) ((h.cell (World.block_lt_of_cell? _ _ HBOX.out) (fun hc => ?_)).trans HBOX.out)).mono ?_
    · have := World.block_lt_of_cell? _ _ HBOX.out
      dsimp only at this hc
      omega
    · rintro e wb ⟨rfl, rfl⟩
      exact ⟨rfl, h, Keep.refl _ _⟩
  rintro e w2 ⟨g, G, rfl, hfl, _, hk⟩
  have HFL := Lib.hid hfl
  have HK2 := Lib.hid (HK.out.trans hk)
  have HS : Hid (w.heap.size ≤ w1.heap.size) := HK.out.size
  clear hfl hk
  go_wp2_with fail
  go_ret
  refine ⟨g, G, rfl, ?_, HK2.out⟩
  obtain ⟨q1, cs, q2, q3, q4, q5⟩ := HFL.out
  have := HS.out
  exact ⟨by omega, cs, q2, q3, fun j hj => by obtain ⟨r1, r2, r3⟩ := q4 j hj; exact ⟨r1, by omega, r3⟩, q5⟩
end Go.Proofs.Ytegecjilpmkamaa
