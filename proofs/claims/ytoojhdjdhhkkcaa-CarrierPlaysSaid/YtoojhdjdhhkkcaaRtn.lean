/-
  The walk of the reference's Turn.
-/
import Derived.Test.YtoojhdjdhhkkcaaTrn
import Derived.Deep.RegionLaw
namespace Go.Proofs.Ytoojhdjdhhkkcaa
open Go.RowKit

/-- Texts are appended to own texts, at a step of a region that draws its order. -/
theorem step_apps {w : World} {ops : Array Oper} {o : Oper} {a : Act} {K : Act → World → Prop} {Q : Exit → Act → World → Prop} {E : Prop} (hgd : o.guard = none) (s x : Operand)
    (ho : o.op = .call { callee := .builtin .append, args := #[s, x], argTypes := #[28, 28] })
    (R : Nat → Prop) (N : Nat) (v : Value) (xs ys : List ByteArray) (A : Option Addr) (k c : Nat) (hs : a.eval s = v) (hx : a.eval x = .slice A k c)
    (hown : Os N w v xs) (hr : Rs R w A k ys) (hlen : xs.length + k ≤ 1000000) (hN : N ≤ w.heap.size)
    (h : ∀ v' w', Os N w' v' (xs ++ ys) → Keep (fun b => v.ownBlock = some b) w w' → (v'.ownBlock = v.ownBlock ∨ v'.ownBlock = some w.heap.size) → K (a.put o.dst v') w') :
    if Region.wanted o (yielded ops a.tmps) = true then Oper.wp Try.prog o a w K Q else E := by
  have hw : Region.wanted o (yielded ops a.tmps) = true := by simp [Region.wanted, hgd]
  rw [if_pos hw]
  obtain ⟨i0, hi0, hz0, hz1, hz2⟩ := parts_info info9
  obtain ⟨v', w', hrun, g1, g2, _, g4⟩ := append_run (Pr := Try.prog) w N 28 o.type 9 i0 (.string ⟨#[]⟩) 16 Try.underlying28 hi0 hz0 hz1 hz2 rfl v xs.length (tv xs) hown R A k c (tv ys) hr texts_one (by unfold maxLen; omega) (by omega) hN
  unfold Oper.wp execOp
  simp only [ho, resolve, invoke, builtin, Sem.run_bind, Sem.run_pure, Result.andThen_ok, List.map_toArray, List.map_cons, List.map_nil, hs, hx, hrun]
  refine h v' w' ?_ ((Keep.refl (fun b => v.ownBlock = some b) _).grown g2 (fun k hk _ => hk)) g4
  unfold Os
  rw [List.length_append, hr.len]
  unfold tv
  rw [List.map_append]
  exact g1

set_option maxRecDepth 100000 in
set_option maxHeartbeats 2000000 in
theorem refturn_any (P Q : Nat → Prop) (a1 : Option Addr) (n1 c1 : Nat) (xs : List ByteArray) (ao : Option Addr) (n cap : Nat) (l : List Int) (w : World) (h1 : Rs Q w a1 n1 xs) (hr : Nn P w ao n l) (hn : n ≤ 100000) (hl : n1 ≤ 100000) :
    Calls Try.prog 11 #[.slice a1 n1 c1, .slice ao n cap] w fun e w' => ∃ v', e = .returned v' ∧ Os w.heap.size w' v' (turnL l xs) ∧ Keep (fun _ => False) w w' := by
  have H1 := Lib.hid h1
  have HR := Lib.hid hr
  have HB : Hid (n ≤ 100000 ∧ n1 ≤ 100000) := ⟨hn, hl⟩
  have HR1 : Hid (Rs Q (w.alloc (.cells #[] 9)) a1 n1 xs) := h1.keep ((Keep.refl (fun _ => False) w).alloc _) (fun _ _ _ => id)
  have n1' : (n : Int) ≤ 100000 := by omega
  clear h1 hr hn hl
  go_enter Try.func11, Try.ntmps11
  go_wp2_with (first
    | (at_builtin; refine wpl_apps _ rfl (.tmp 9) (.tmp 10) rfl Q w.heap.size (.slice (some ⟨w.heap.size, 0, none⟩) 0 0) [] xs a1 n1 c1 rfl rfl (Os.empty _ w (Nat.le_refl _)) HR1.out (by have := HB.out; simp; omega) (by simp) ?_; intro v1 w1 hos hkp _))
  have HO1 := Lib.hid hos
  have HK1 : Hid (Keep (fun _ => False) w w1) := ((Keep.refl (fun _ => False) w).alloc _).trans' hkp (fun i hi e => by have h9 : w.heap.size = i := Option.some.inj e; omega)
  clear hos hkp
  go_wp2_with fail
  go_loopw [5, 6, 7, 8] (fun lf ou i _ wr => ∃ (j : Nat) (left out : List ByteArray), j ≤ n ∧ i = .int .i64 (j : Int) ∧
      Hid (Os w.heap.size wr lf left ∧ Os w.heap.size wr ou out ∧ (∀ b, lf.ownBlock = some b → ou.ownBlock ≠ some b) ∧ turnL l xs = out ++ turnL (l.drop j) left ∧ out.length + left.length = n1 ∧ Keep (fun _ => False) w wr)) (fun _ _ i _ _ => n - (intOf i).toNat)
  case atStart => exact ⟨0, xs, [], Nat.zero_le _, rfl, HO1.out, Os.nil _ _, (fun b _ e => by cases e), rfl, by have := H1.out.len; simpa using this, HK1.out⟩
  case round =>
    obtain ⟨j, left, out, hj, rfl, HI⟩ := hrel
    obtain ⟨wo, rfl⟩ : ∃ wo : World, wo = wr := ⟨_, rfl⟩
    obtain ⟨lf, rfl⟩ : ∃ s : Value, s = u5 := ⟨_, rfl⟩
    obtain ⟨ou, rfl⟩ : ∃ s : Value, s = u6 := ⟨_, rfl⟩
    obtain ⟨la, lc, hlv, _, _, hlrs⟩ := HI.out.1.form
    obtain ⟨q, hq⟩ : ∃ q, left.length = q := ⟨_, rfl⟩
    have HQ := Lib.hid hq
    rw [hq] at hlv hlrs
    subst hlv
    have hq100 : q ≤ 100000 := by have := HI.out.2.2.2.2.1; have := HB.out; omega
    by_cases hlt : j < n ∧ 0 < q
    · have j0 : (0 : Int) ≤ (j : Int) := by omega
      have jn : (j : Int) < (n : Int) := by omega
      have HLT : Hid (j < n) := hlt.1
      obtain ⟨bz, oz, z, rfl, _, hz, hcz, hz1, hz2⟩ := (HR.out.keep HI.out.2.2.2.2.2 (fun _ _ _ => id)).at_ hlt.1
      have HZ := Lib.hid hz
      have q1 : (1 : Int) ≤ (q : Int) := by omega
      have q0 : (0 : Int) < (q : Int) := by omega
      have q0' : 0 < q := hlt.2
      have q2 : (q : Int) ≤ 100000 := by omega
      obtain ⟨k, hk⟩ : ∃ k, kOf z q = k := ⟨_, rfl⟩
      have hkq : k < q := by rw [← hk, kOf]; exact Nat.mod_lt _ (by omega)
      have k0 : (0 : Int) ≤ (k : Int) := by omega
      have k1 : (k : Int) < (q : Int) := by omega
      obtain ⟨s, hs⟩ : ∃ s, left[k]? = some s := ⟨left[k]'(by omega), List.getElem?_eq_getElem _⟩
      obtain ⟨gl, cl, cur, hlv, hgl, hbl, hcl, hml, hsl, htl⟩ := HI.out.1.blk (by omega)
      rw [hq] at hlv htl hcl
      cases hlv
      have hcs : wo.cell? ⟨gl, k, none⟩ = some (.string s) := by
        rw [hbl.cell, ← Array.getElem?_toList]
        have h1 : (cur.toList.take q)[k]? = some (.string s) := by rw [htl, List.getElem?_map, hs]; rfl
        rw [List.getElem?_take, if_pos hkq] at h1
        exact h1
      have HGL : Hid (gl < wo.heap.size ∧ q ≤ lc) := ⟨hbl.lt, hcl⟩
      have HS := Lib.hid hs
      have HK := Lib.hid hk
      have HKQ := Lib.hid hkq
      have HRS := Lib.hid hlrs
      clear hk hkq hs hgl hbl hcl hml hsl htl hq hlrs hz hlt hj
      go_upto_region 6 with fail
      go_cut [8] (fun s8 wx => s8 = .int .i64 (k : Int) ∧ wo = wx)
      case first =>
        have h3 : (0 < z) ∨ (z = 0) ∨ (z < 0) := by omega
        rcases h3 with h3 | h3 | h3
        · have hrem : z % (q : Int) = (k : Int) := by
            obtain ⟨zz, rfl⟩ : ∃ zz : Nat, z = (zz : Int) := ⟨z.toNat, by omega⟩
            rw [← HK.out]
            rfl
          have h4 : (0 : Int) ≤ z := by omega
          go_wp2_with fail
          go_meet
          exact ⟨by rw [hrem], rfl⟩
        · have hk0 : k = 0 := by rw [← HK.out, h3]; simp [kOf]
          subst h3
          subst hk0
          go_wp2_with fail
          go_meet
          exact ⟨rfl, rfl⟩
        · have hk0 : k = 0 := by rw [← HK.out, kOf, show z.toNat = 0 by omega]; simp
          subst hk0
          go_wp2_with fail
          go_meet
          exact ⟨rfl, rfl⟩
      case rest =>
        obtain ⟨rfl, rfl⟩ := hcut
        clear hcz
        go_wp2_with (first
          | (at_builtin; refine wpl_apps1 wo rfl (.tmp 31) (.tmp 36) rfl w.heap.size ou out s wo.heap.size rfl rfl rfl HI.out.2.1 (by have := HI.out.2.2.2.2.1; have := HB.out; omega) HI.out.2.2.2.2.2.size ?_; intro ou2 w2 hos hkp hown))
        have HO2 := Lib.hid hos
        have HK2 := Lib.hid hkp
        have HOW := Lib.hid hown
        have HLF : Hid (Rs (fun b => b = gl) w2 (some ⟨gl, 0, none⟩) q left) := (HRS.out.keep HK2.out (fun b _ hb => HI.out.2.2.1 b hb.2)).mono (fun b _ hb => (Option.some.inj hb.2).symm)
        have HSZ2 : Hid (w.heap.size ≤ w2.heap.size) := Nat.le_trans HI.out.2.2.2.2.2.size HK2.out.size
        clear hos hkp hown hcs
        have i1 : (k : Int) + 1 ≤ (q : Int) := by omega
        have i2 : (0 : Int) ≤ (k : Int) + 1 := by omega
        have i3 : (k : Int) ≤ (lc : Int) := by have := HGL.out; have := HKQ.out; omega
        have i4 : ((k : Int) + 1).toNat = k + 1 := by omega
        have i5 : IntKind.i64.wrap ((k : Int) + 1) = (k : Int) + 1 := IntWalk.i64_in _ (by omega)
        have i6 : ¬ lc = 0 := by have := HGL.out; have := HKQ.out; omega
        have HEM : Hid (Os w.heap.size (w2.alloc (.cells #[] 9)) (.slice (some ⟨w2.heap.size, 0, none⟩) 0 0) []) := Os.empty _ w2 HSZ2.out
        have HLF2 : Hid (Rs (fun b => b = gl) (w2.alloc (.cells #[] 9)) (some ⟨gl, 0, none⟩) q left) := HLF.out.keep ((Keep.refl (fun _ => False) w2).alloc _) (fun _ _ _ => id)
        have HG2 : Hid (gl < w2.heap.size) := Nat.lt_of_lt_of_le HGL.out.1 HK2.out.size
        have HTK : Hid (Rs (fun b => b = gl) (w2.alloc (.cells #[] 9)) (some ⟨gl, 0, none⟩) k (left.take k)) := HLF2.out.take (by have := HKQ.out; omega)
        go_wp2_with fail
        by_cases hcap : lc = k + 1
        · have hqk : q = k + 1 := by have := HGL.out; have := HKQ.out; omega
          subst hqk
          subst hcap
          have i9 : (k : Int) ≤ (k : Int) + 1 := by omega
          go_region_law (first
            | (refine step_apps rfl (.tmp 38) (.tmp 41) rfl (fun b => b = gl) w.heap.size (.slice (some ⟨w2.heap.size, 0, none⟩) 0 0) [] (left.take k) (some ⟨gl, 0, none⟩) k (k + 1) (by simp [Act.eval]) (by simp [Act.eval]) HEM.out HTK.out (by have := HKQ.out; simp; omega) (by have := HSZ2.out; simp; omega) ?_; intro v3 w3 hos3 hkp3 hown3)
            | (refine step_apps rfl (.tmp 42) (.tmp 46) rfl (fun b => b = gl) w.heap.size v3 ([] ++ left.take k) (left.drop (k + 1)) (some ⟨gl, 0, none⟩) (0) (0) (by simp [Act.eval]) (by simp [Act.eval]) hos3 (by rw [List.drop_of_length_le (by rw [HQ.out]; omega)]; exact Rv.nil _ _) (by have := HKQ.out; simp; omega) (by have h := hkp3.size; have := HSZ2.out; simp at h; omega) ?_; intro v4 w4 hos4 hkp4 hown4))
          have HO4 : Hid (Os w.heap.size w4 v4 (left.eraseIdx k)) := by
            rw [List.eraseIdx_eq_take_drop_succ]
            exact hos4
          have hsz3 : w2.heap.size < w3.heap.size := by have h := hkp3.size; simp at h; omega
          have HV3 : Hid (∀ b, v3.ownBlock = some b → w2.heap.size ≤ b) := fun b hb => by
            rcases hown3 with h1 | h1
            · rw [h1] at hb
              cases hb
              exact Nat.le_refl _
            · rw [h1] at hb
              have := Option.some.inj hb
              simp at this
              omega
          have HV4 : Hid (∀ b, v4.ownBlock = some b → w2.heap.size ≤ b) := fun b hb => by
            rcases hown4 with h1 | h1
            · rw [h1] at hb
              exact HV3.out b hb
            · rw [h1] at hb
              have := Option.some.inj hb
              omega
          have HK4 : Hid (Keep (fun b => w2.heap.size ≤ b) w2 w4) := (((((Keep.refl (fun _ => False) w2).alloc (.cells #[] 9)).drew).trans' hkp3 (fun i hi e => by have h9 : w2.heap.size = i := Option.some.inj e; omega)).mono (T := fun b => w2.heap.size ≤ b) (fun _ _ h => h.elim)).trans' hkp4 (fun i _ e => HV3.out i e)
          clear hos3 hkp3 hown3 hos4 hkp4 hown4 hsz3
          go_wp2_with fail
          go_roundw
          case rel =>
            refine ⟨j + 1, left.eraseIdx k, out ++ [s], by have := HLT.out; omega, by go_num, HO4.out, HO2.out.keep HK4.out (fun b hb e => by have := (HO2.out.lt hb).2; omega), fun b hb e => by have := HV4.out b hb; have := (HO2.out.lt e).2; omega, ?_, ?_, ?_⟩
            · obtain ⟨hzl, ez⟩ := List.getElem?_eq_some_iff.1 HZ.out
              rw [HI.out.2.2.2.1, List.drop_eq_getElem_cons hzl, ez, turnL_step HQ.out (by rw [HK.out]; exact HS.out), HK.out, List.append_assoc]
              rfl
            · have h1 := HI.out.2.2.2.2.1
              have h2 := HQ.out
              have h3 := HKQ.out
              rw [List.length_append, List.length_singleton, List.length_eraseIdx_of_lt (by omega)]
              omega
            · exact (HI.out.2.2.2.2.2.trans' HK2.out (fun i hi e => by have := (HI.out.2.1.lt e).1; omega)).trans' HK4.out (fun i hi e => by have := HSZ2.out; have e' : w2.heap.size ≤ i := e; omega)
          case measure => have := HLT.out; simp [intOf]; omega
        · go_region_law (first
            | (refine step_apps rfl (.tmp 38) (.tmp 41) rfl (fun b => b = gl) w.heap.size (.slice (some ⟨w2.heap.size, 0, none⟩) 0 0) [] (left.take k) (some ⟨gl, 0, none⟩) k lc (by simp [Act.eval]) (by simp [Act.eval]) HEM.out HTK.out (by have := HKQ.out; simp; omega) (by have := HSZ2.out; simp; omega) ?_; intro v3 w3 hos3 hkp3 hown3)
            | (refine step_apps rfl (.tmp 42) (.tmp 46) rfl (fun b => b = gl) w.heap.size v3 ([] ++ left.take k) (left.drop (k + 1)) (some ⟨gl, k + 1, none⟩) (q - (k + 1)) (lc - (k + 1)) (by simp [Act.eval]) (by simp [Act.eval]) hos3 (by have h9 := (Rs.keep (w := (w2.alloc (.cells #[] 9)).drew) HLF2.out hkp3 (fun b _ e hs => by have e' : w2.heap.size = b := Option.some.inj hs; have := HG2.out; omega)).drop (m := k + 1) (by have := HKQ.out; omega); rw [Nat.zero_add] at h9; exact h9) (by have := HKQ.out; simp; omega) (by have h := hkp3.size; have := HSZ2.out; simp at h; omega) ?_; intro v4 w4 hos4 hkp4 hown4))
          have HO4 : Hid (Os w.heap.size w4 v4 (left.eraseIdx k)) := by
            rw [List.eraseIdx_eq_take_drop_succ]
            exact hos4
          have hsz3 : w2.heap.size < w3.heap.size := by have h := hkp3.size; simp at h; omega
          have HV3 : Hid (∀ b, v3.ownBlock = some b → w2.heap.size ≤ b) := fun b hb => by
            rcases hown3 with h1 | h1
            · rw [h1] at hb
              cases hb
              exact Nat.le_refl _
            · rw [h1] at hb
              have := Option.some.inj hb
              simp at this
              omega
          have HV4 : Hid (∀ b, v4.ownBlock = some b → w2.heap.size ≤ b) := fun b hb => by
            rcases hown4 with h1 | h1
            · rw [h1] at hb
              exact HV3.out b hb
            · rw [h1] at hb
              have := Option.some.inj hb
              omega
          have HK4 : Hid (Keep (fun b => w2.heap.size ≤ b) w2 w4) := (((((Keep.refl (fun _ => False) w2).alloc (.cells #[] 9)).drew).trans' hkp3 (fun i hi e => by have h9 : w2.heap.size = i := Option.some.inj e; omega)).mono (T := fun b => w2.heap.size ≤ b) (fun _ _ h => h.elim)).trans' hkp4 (fun i _ e => HV3.out i e)
          clear hos3 hkp3 hown3 hos4 hkp4 hown4 hsz3
          go_wp2_with fail
          go_roundw
          case rel =>
            refine ⟨j + 1, left.eraseIdx k, out ++ [s], by have := HLT.out; omega, by go_num, HO4.out, HO2.out.keep HK4.out (fun b hb e => by have := (HO2.out.lt hb).2; omega), fun b hb e => by have := HV4.out b hb; have := (HO2.out.lt e).2; omega, ?_, ?_, ?_⟩
            · obtain ⟨hzl, ez⟩ := List.getElem?_eq_some_iff.1 HZ.out
              rw [HI.out.2.2.2.1, List.drop_eq_getElem_cons hzl, ez, turnL_step HQ.out (by rw [HK.out]; exact HS.out), HK.out, List.append_assoc]
              rfl
            · have h1 := HI.out.2.2.2.2.1
              have h2 := HQ.out
              have h3 := HKQ.out
              rw [List.length_append, List.length_singleton, List.length_eraseIdx_of_lt (by omega)]
              omega
            · exact (HI.out.2.2.2.2.2.trans' HK2.out (fun i hi e => by have := (HI.out.2.1.lt e).1; omega)).trans' HK4.out (fun i hi e => by have := HSZ2.out; have e' : w2.heap.size ≤ i := e; omega)
          case measure => have := HLT.out; simp [intOf]; omega
    · have HTL : Hid (out ++ left = turnL l xs) := by
        show out ++ left = turnL l xs
        rw [HI.out.2.2.2.1]
        by_cases h0 : q = 0
        · have : left = [] := List.length_eq_zero_iff.1 (by omega)
          rw [this, turnL_nil]
        · rw [List.drop_of_length_le (by rw [HR.out.len]; omega)]
          rfl
      have hx1 : (n : Int) ≤ (j : Int) ∨ ((j : Int) < (n : Int) ∧ q = 0) := by omega
      have HRL := Lib.hid hlrs
      clear hlt hq hlrs hj
      rcases hx1 with hx1 | ⟨hx1, rfl⟩
      · go_wp2_with (first
          | (at_builtin; refine wpl_apps wo rfl (.tmp 48) (.tmp 49) rfl _ w.heap.size ou out left la q lc rfl rfl HI.out.2.1 HRL.out (by have := HI.out.2.2.2.2.1; have := HB.out; have := HQ.out; omega) HI.out.2.2.2.2.2.size ?_; intro v9 w9 hos hkp hown))
        have HO9 := Lib.hid hos
        have HK9 : Hid (Keep (fun _ => False) w w9) := HI.out.2.2.2.2.2.trans' hkp (fun i hi e => by have := (HI.out.2.1.lt e).1; omega)
        clear hos hkp hown
        go_ret
        exact ⟨v9, rfl, by rw [← HTL.out]; exact HO9.out, HK9.out⟩
      · go_wp2_with (first
          | (at_builtin; refine wpl_apps wo rfl (.tmp 48) (.tmp 49) rfl _ w.heap.size ou out left la 0 lc rfl rfl HI.out.2.1 HRL.out (by have := HI.out.2.2.2.2.1; have := HB.out; have := HQ.out; omega) HI.out.2.2.2.2.2.size ?_; intro v9 w9 hos hkp hown))
        have HO9 := Lib.hid hos
        have HK9 : Hid (Keep (fun _ => False) w w9) := HI.out.2.2.2.2.2.trans' hkp (fun i hi e => by have := (HI.out.2.1.lt e).1; omega)
        clear hos hkp hown
        go_ret
        exact ⟨v9, rfl, by rw [← HTL.out]; exact HO9.out, HK9.out⟩
end Go.Proofs.Ytoojhdjdhhkkcaa
