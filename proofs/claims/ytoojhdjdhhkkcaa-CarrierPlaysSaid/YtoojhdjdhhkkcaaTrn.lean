/-
  The walks of carrier's Turn and of the reference's Turn.
-/
import Derived.Test.YtoojhdjdhhkkcaaAct
namespace Go.Proofs.Ytoojhdjdhhkkcaa
open Go.RowKit

/-- A slice that reads as numbers. -/
def Nn (P : Nat → Prop) (w : World) (ao : Option Addr) (n : Nat) (l : List Int) : Prop := Rv P w ao n (l.map (Value.int .i64)) ∧ ∀ z ∈ l, -9223372036854775808 ≤ z ∧ z ≤ 9223372036854775807

theorem Nn.len {P : Nat → Prop} {w : World} {ao : Option Addr} {n : Nat} {l : List Int} (h : Nn P w ao n l) : l.length = n := by have := h.1.1; simpa using this
theorem Nn.keep {P S : Nat → Prop} {w w' : World} {ao : Option Addr} {n : Nat} {l : List Int} (h : Nn P w ao n l) (hk : Keep S w w') (hs : ∀ b, b < w.heap.size → P b → ¬ S b) : Nn P w' ao n l := ⟨h.1.keep hk hs, h.2⟩
theorem Nn.at_ {P : Nat → Prop} {w : World} {ao : Option Addr} {n k : Nat} {l : List Int} (h : Nn P w ao n l) (hk : k < n) : ∃ b o z, ao = some ⟨b, o, none⟩ ∧ P b ∧ l[k]? = some z ∧ w.cell? ⟨b, o + k, none⟩ = some (.int .i64 z) ∧ -9223372036854775808 ≤ z ∧ z ≤ 9223372036854775807 := by
  obtain ⟨b, o, u, e, hP, hu, hc⟩ := Rv.at_ h.1 hk
  rw [List.getElem?_map] at hu
  cases hx : l[k]? with
  | none => rw [hx] at hu; cases hu
  | some s =>
    rw [hx] at hu
    cases hu
    exact ⟨b, o, s, e, hP, rfl, hc, h.2 s (List.mem_of_getElem? hx)⟩

/-- The place that a number names. -/
def kOf (z : Int) (n : Nat) : Nat := z.toNat % n

/-- Files, turned by numbers. -/
def turnL : List Int → List ByteArray → List ByteArray
  | [], l => l
  | z :: by_, l => match l with
    | [] => []
    | x :: l' => ((x :: l')[kOf z (l'.length + 1)]?.getD x) :: turnL by_ ((x :: l').eraseIdx (kOf z (l'.length + 1)))

theorem turnL_nil (by_ : List Int) : turnL by_ [] = [] := by cases by_ <;> rfl

theorem turnL_step {z : Int} {by_ : List Int} {l : List ByteArray} {n : Nat} {s : ByteArray} (hn : l.length = n) (hs : l[kOf z n]? = some s) : turnL (z :: by_) l = s :: turnL by_ (l.eraseIdx (kOf z n)) := by
  subst hn
  cases l with
  | nil => simp at hs
  | cons x l' =>
    rw [turnL]
    rw [List.length_cons] at hs ⊢
    rw [hs]
    rfl

theorem turnL_len : ∀ (by_ : List Int) (l : List ByteArray), (turnL by_ l).length = l.length := by
  intro by_
  induction by_ with
  | nil => intro l; rfl
  | cons z by_ ih =>
    intro l
    cases l with
    | nil => rfl
    | cons x l' =>
      rw [turnL, List.length_cons, ih, List.length_eraseIdx_of_lt (by rw [List.length_cons, kOf]; exact Nat.mod_lt _ (by omega)), List.length_cons]
      rfl

set_option maxRecDepth 100000 in
set_option maxHeartbeats 1500000 in
theorem turn_yes {N : Nat} {bb R : Nat} {v : Value} {xs : List ByteArray} (P : Nat → Prop) (ao : Option Addr) (n cap : Nat) (l : List Int) (w : World) (h : Bg N w bb R v xs) (hr : Nn P w ao n l) (hn : n ≤ 100000) (hN : N ≤ w.heap.size) (hl : xs.length ≤ 100000) :
    Calls Try.prog 10 #[.pointer (some ⟨bb, 0, none⟩), .slice ao n cap] w fun e w' => ∃ v', e = .returned (.tuple #[]) ∧ Bg N w' bb R v' (turnL l xs) ∧ Tn bb w v w' v' := by
  have hc2 := h.blk.cell 2
  obtain ⟨va, vc, hv, hcap, hmx, hrs⟩ := h.own.form
  obtain ⟨m, hm⟩ : ∃ m, xs.length = m := ⟨_, rfl⟩
  rw [hm] at hv hcap hrs
  subst hv
  have H := Lib.hid h
  have HR := Lib.hid hr
  have HM := Lib.hid hm
  have HRS := Lib.hid hrs
  have HB : Hid (n ≤ 100000 ∧ N ≤ w.heap.size ∧ m ≤ 100000) := ⟨hn, hN, by omega⟩
  have HBB : Hid (bb < w.heap.size) := h.blk.lt
  have n1 : (n : Int) ≤ 100000 := by omega
  clear h hr hn hN hl hm hcap hmx hrs
  go_enter Try.func10, Try.ntmps10
  go_wp2_with fail
  refine (none_no w H.out).mono ?_
  rintro e w' ⟨rfl, rfl⟩
  go_wp2_with fail
  refine (clone_any _ va m vc xs w HRS.out (by have := HB.out; omega)).mono ?_
  rintro e w1 ⟨u, rfl, hos, hk⟩
  have HO1 := Lib.hid hos
  have HK1 := Lib.hid hk
  clear hos hk hc2
  go_wp2_with fail
  go_loopw [4, 5, 7, 8, 18] (fun lf ou _ _ i wr => ∃ (j : Nat) (left out : List ByteArray), j ≤ n ∧ i = .int .i64 (j : Int) ∧
      Hid (Os w.heap.size wr lf left ∧ Os w.heap.size wr ou out ∧ (∀ b, lf.ownBlock = some b → ou.ownBlock ≠ some b) ∧ turnL l xs = out ++ turnL (l.drop j) left ∧ out.length + left.length = m ∧ Keep (fun _ => False) w wr)) (fun _ _ _ _ i _ => n - (intOf i).toNat)
  case atStart => exact ⟨0, xs, [], Nat.zero_le _, rfl, HO1.out, Os.nil _ _, (fun b _ e => by cases e), rfl, by have := HM.out; simpa using this, HK1.out⟩
  case round =>
    obtain ⟨j, left, out, hj, rfl, HI⟩ := hrel
    obtain ⟨wo, rfl⟩ : ∃ wo : World, wo = wr := ⟨_, rfl⟩
    obtain ⟨lf, rfl⟩ : ∃ s : Value, s = u4 := ⟨_, rfl⟩
    obtain ⟨ou, rfl⟩ : ∃ s : Value, s = u5 := ⟨_, rfl⟩
    by_cases hlt : j < n
    · have j0 : (0 : Int) ≤ (j : Int) := by omega
      have jn : (j : Int) < (n : Int) := by omega
      have HLT := Lib.hid hlt
      obtain ⟨bz, oz, z, rfl, _, hz, hcz, hz1, hz2⟩ := (HR.out.keep HI.out.2.2.2.2.2 (fun _ _ _ => id)).at_ hlt
      have HZ := Lib.hid hz
      obtain ⟨la, lc, hlv, _, _, hlrs⟩ := HI.out.1.form
      obtain ⟨q, hq⟩ : ∃ q, left.length = q := ⟨_, rfl⟩
      have HQ := Lib.hid hq
      rw [hq] at hlv hlrs
      subst hlv
      have hq100 : q ≤ 100000 := by have := HI.out.2.2.2.2.1; have := HB.out; omega
      clear hz hlt hj
      by_cases hq0 : q = 0
      · subst hq0
        have HL0 : Hid (left = []) := List.length_eq_zero_iff.1 HQ.out
        clear hq
        have hb2 : Blk wo bb 44 #[.bool true, .int .i64 (R : Int), .slice va m vc] := H.out.blk.keep HI.out.2.2.2.2.2 id
        have HBO := Lib.hid hb2
        have HRL := Lib.hid hlrs
        have HTL : Hid (out ++ left = turnL l xs) := by
          show out ++ left = turnL l xs
          rw [HI.out.2.2.2.1, HL0.out, turnL_nil]
        clear hb2 hlrs
        go_wp2_with (first
          | (at_builtin; refine wpl_apps wo rfl (.tmp 44) (.tmp 45) rfl _ w.heap.size ou out left la 0 lc rfl rfl HI.out.2.1 HRL.out (by have := HI.out.2.2.2.2.1; have := HB.out; have := HQ.out; omega) HI.out.2.2.2.2.2.size ?_; intro v9 w9 hos hkp hown; obtain ⟨a9, n9, c9, hve⟩ := hos.form0; subst hve; have hbz := HBO.out.keep hkp (HI.out.2.1.ne HBO.out); have hm2 := hbz.cell 2; have hf2 := hbz.frozen 2; have HO9 := Lib.hid hos; have HK9 := Lib.hid hkp; have HB9 := Lib.hid hbz; clear hos hkp hown hbz))
        refine bodyPost_end (v := .tuple #[]) (results_none rfl _ _ _) rfl ?_
        rw [HTL.out] at HO9
        have HK10 : Hid (Keep (fun _ => False) w w9) := HI.out.2.2.2.2.2.trans' HK9.out (fun i hi e => by have := (HI.out.2.1.lt e).1; omega)
        refine ⟨.slice a9 n9 c9, rfl, ⟨H.out.ge, HB9.out.set_ 2 _, (HO9.out.old HB.out.2.1).keep ((Keep.refl (· = bb) w9).setCell (p := ⟨bb, 2, none⟩) (fun _ => rfl) _) (fun b hb e => HO9.out.ne HB9.out (by rw [hb, e])), by rw [turnL_len]; exact H.out.few, H.out.room⟩, ⟨((HK10.out.mono (fun _ _ h => h.elim)).setCell (p := ⟨bb, 2, none⟩) (fun _ => .inl rfl) _), fun b hb => .inr (HO9.out.lt hb).1⟩⟩
      · have q1 : (1 : Int) ≤ (q : Int) := by omega
        have q2 : (q : Int) ≤ 100000 := by omega
        have q3 : ((q : Int) == 0) = false := by rw [beq_eq_false_iff_ne]; omega
        obtain ⟨k, hk⟩ : ∃ k, kOf z q = k := ⟨_, rfl⟩
        have hkq : k < q := by rw [← hk, kOf]; exact Nat.mod_lt _ (by omega)
        have k0 : (0 : Int) ≤ (k : Int) := by omega
        have k1 : (k : Int) < (q : Int) := by omega
        obtain ⟨s, hs⟩ : ∃ s, left[k]? = some s := ⟨left[k]'(by omega), List.getElem?_eq_getElem _⟩
        obtain ⟨gl, cl, cur, hlv, hgl, hbl, hcl, hml, hsl, htl⟩ := HI.out.1.blk (by omega)
        rw [hq] at hlv htl
        cases hlv
        have hcs : wo.cell? ⟨gl, k, none⟩ = some (.string s) := by
          rw [hbl.cell, ← Array.getElem?_toList]
          have h1 : (cur.toList.take q)[k]? = some (.string s) := by rw [htl, List.getElem?_map, hs]; rfl
          rw [List.getElem?_take, if_pos hkq] at h1
          exact h1
        have HGL : Hid (gl < wo.heap.size) := hbl.lt
        have HS := Lib.hid hs
        have HK := Lib.hid hk
        have HKQ := Lib.hid hkq
        clear hq0 hk hkq hs hgl hbl hcl hml hsl htl hq hlrs
        go_upto_region 7 with fail
        go_cut [8] (fun s8 wx => s8 = .int .i64 (k : Int) ∧ wo = wx)
        case first =>
          have h3 : (0 < z) ∨ (z = 0) ∨ (z < 0) := by omega
          rcases h3 with h3 | h3 | h3
          · have hrem : z % (q : Int) = (k : Int) := by
              obtain ⟨zz, rfl⟩ : ∃ zz : Nat, z = (zz : Int) := ⟨z.toNat, by omega⟩
              rw [← HK.out]
              rfl
            have h4 : (0 : Int) ≤ z := by omega
            go_wp2_with fail
            go_meet
            exact ⟨by rw [hrem], rfl⟩
          · have hk0 : k = 0 := by rw [← HK.out, h3]; simp [kOf]
            subst h3
            subst hk0
            go_wp2_with fail
            go_meet
            exact ⟨rfl, rfl⟩
          · have hk0 : k = 0 := by rw [← HK.out, kOf, show z.toNat = 0 by omega]; simp
            subst hk0
            go_wp2_with fail
            go_meet
            exact ⟨rfl, rfl⟩
        case rest =>
          obtain ⟨rfl, rfl⟩ := hcut
          clear hcz
          go_wp2_with (first
            | (at_builtin; refine wpl_apps1 wo rfl (.tmp 30) (.tmp 35) rfl w.heap.size ou out s wo.heap.size rfl rfl rfl HI.out.2.1 (by have := HI.out.2.2.2.2.1; have := HB.out; omega) HI.out.2.2.2.2.2.size ?_; intro ou2 w2 hos hkp hown))
          have HO2 := Lib.hid hos
          have HK2 := Lib.hid hkp
          have HOW := Lib.hid hown
          clear hos hkp hown hcs
          have hlo := HI.out.1.keep HK2.out (fun b hb => HI.out.2.2.1 b hb)
          refine (delete_any w.heap.size gl q lc k left w2 hlo HQ.out HKQ.out (by omega)).mono ?_
          rintro e w3 ⟨lf3, rfl, hos, hkp, hblk⟩
          have HO3 := Lib.hid hos
          have HK3 := Lib.hid hkp
          have HBL := Lib.hid hblk
          clear hos hkp hblk hlo
          have HNE : Hid (ou2.ownBlock ≠ some gl) := by
            intro e
            rcases HOW.out gl e with h1 | h1
            · exact HI.out.2.2.1 gl rfl h1
            · have := HGL.out
              omega
          go_wp2_with fail
          go_roundw
          case rel =>
            refine ⟨j + 1, left.eraseIdx k, out ++ [s], by have := HLT.out; omega, by go_num, HO3.out, HO2.out.keep HK3.out (fun b hb e => HNE.out (by rw [hb, e])), fun b hb e => ?_, ?_, ?_, ?_⟩
            · rw [HBL.out] at hb
              cases hb
              exact HNE.out e
            · obtain ⟨hzl, ez⟩ := List.getElem?_eq_some_iff.1 HZ.out
              rw [HI.out.2.2.2.1, List.drop_eq_getElem_cons hzl, ez, turnL_step HQ.out (by rw [HK.out]; exact HS.out), HK.out, List.append_assoc]
              rfl
            · have h1 := HI.out.2.2.2.2.1
              have h2 := HQ.out
              have h3 := HKQ.out
              rw [List.length_append, List.length_singleton, List.length_eraseIdx_of_lt (by omega)]
              omega
            · exact (HI.out.2.2.2.2.2.trans' HK2.out (fun i hi e => by have := (HI.out.2.1.lt e).1; omega)).trans' HK3.out (fun i hi e => by have e' : i = gl := e; have h9 : w.heap.size ≤ gl := (HI.out.1.lt (b := gl) rfl).1; omega)
          case measure => have := HLT.out; simp [intOf]; omega
    · have hjn : (n : Int) ≤ (j : Int) := by omega
      have hje : j = n := by omega
      obtain ⟨la, lc, hlv, _, _, hlrs⟩ := HI.out.1.form
      obtain ⟨q, hq⟩ : ∃ q, left.length = q := ⟨_, rfl⟩
      have HQ := Lib.hid hq
      rw [hq] at hlv hlrs
      subst hlv
      have HJ : Hid (l.drop j = []) := List.drop_of_length_le (by rw [HR.out.len]; omega)
      clear hje hlt hj hq
      have hb2 : Blk wo bb 44 #[.bool true, .int .i64 (R : Int), .slice va m vc] := H.out.blk.keep HI.out.2.2.2.2.2 id
      have HBO := Lib.hid hb2
      have HRL := Lib.hid hlrs
      have HTL : Hid (out ++ left = turnL l xs) := by
        show out ++ left = turnL l xs
        rw [HI.out.2.2.2.1, HJ.out]; rfl
      clear hb2 hlrs
      go_wp2_with (first
        | (at_builtin; refine wpl_apps wo rfl (.tmp 44) (.tmp 45) rfl _ w.heap.size ou out left la q lc rfl rfl HI.out.2.1 HRL.out (by have := HI.out.2.2.2.2.1; have := HB.out; have := HQ.out; omega) HI.out.2.2.2.2.2.size ?_; intro v9 w9 hos hkp hown; obtain ⟨a9, n9, c9, hve⟩ := hos.form0; subst hve; have hbz := HBO.out.keep hkp (HI.out.2.1.ne HBO.out); have hm2 := hbz.cell 2; have hf2 := hbz.frozen 2; have HO9 := Lib.hid hos; have HK9 := Lib.hid hkp; have HB9 := Lib.hid hbz; clear hos hkp hown hbz))
      refine bodyPost_end (v := .tuple #[]) (results_none rfl _ _ _) rfl ?_
      rw [HTL.out] at HO9
      have HK10 : Hid (Keep (fun _ => False) w w9) := HI.out.2.2.2.2.2.trans' HK9.out (fun i hi e => by have := (HI.out.2.1.lt e).1; omega)
      refine ⟨.slice a9 n9 c9, rfl, ⟨H.out.ge, HB9.out.set_ 2 _, (HO9.out.old HB.out.2.1).keep ((Keep.refl (· = bb) w9).setCell (p := ⟨bb, 2, none⟩) (fun _ => rfl) _) (fun b hb e => HO9.out.ne HB9.out (by rw [hb, e])), by rw [turnL_len]; exact H.out.few, H.out.room⟩, ⟨((HK10.out.mono (fun _ _ h => h.elim)).setCell (p := ⟨bb, 2, none⟩) (fun _ => .inl rfl) _), fun b hb => .inr (HO9.out.lt hb).1⟩⟩
end Go.Proofs.Ytoojhdjdhhkkcaa
