/-
  The walk of mat's Apply, where its matrix and the number of shards fit.
  The walk of mat's Apply, where it makes shards.
  The coder of rs: how it lies in memory; the walk of rs's New.
  The walks of rs's none, Counts and even.
  The walk of rs's Encode.
  The walks of slices.Clone over rows, and of slices.DeleteFunc with the test for none.
  The walk of slices.DeleteFunc with the test for none.
  The walk of rs's there: the places of the shards that are there, and these, as many as are needed.
  slices.DeleteFunc with the test for none, on what slices.Clone has made: the shards that are there.
  The walk of rs's Decode.
  The walk of rs's Decode, where it makes data.
  Plain: what Decode makes of shards that Encode made is the data.
  The walk of rs's Right.
  The walk of one() of law 06.
-/
import Derived.Test.YtegecjilpmkamaaApply
import Derived.Test.YtegecjilpmkamaaMatCauchyw
import Derived.BigQuiet
import Derived.Test.YtegecjilpmkamaaMatRowsa
import Derived.Deep.RegionHeld3
import Derived.Lib.SliceRun
import Derived.Test.YtegecjilpmkamaaCaul
namespace Go.Proofs.Ytegecjilpmkamaa
open Go.RowKit Sb

theorem any_84m (Q : Nat → Prop) (a2 : Option Addr) (n2 c2 lb : Nat) (vs : List Value) (l : List (List UInt8)) (w : World) (h2 : Mv Q w a2 n2 vs l) (hn : 0 < n2) (hn2 : n2 ≤ 9223372036854775807) (hl : w.cell? ⟨lb, 0, none⟩ = some (.slice a2 n2 c2)) :
    Calls Try.prog 83 #[.slice a2 n2 c2, .func (.func 84) #[] #[.pointer (some ⟨lb, 0, none⟩)]] w fun e w' => e = .returned (.bool (!l.all (fun r => decide (r.length = mcols l)))) ∧ w = w' := by
  refine (any_84 Q a2 n2 c2 vs l (.pointer (some ⟨lb, 0, none⟩)) (fun i => ((((l[i]?.map List.length).getD 0 : Nat) : Int) != (mcols l : Int))) w h2 hn2 (fun i u hu => ?_)).mono ?_
  · obtain ⟨b, o, ao', n', cap', r, _, _, hu', hr, _, _, _, hrb⟩ := h2.at_ (k := i) (by have := h2.lenu; have := (List.getElem?_eq_some_iff.1 hu).1; omega)
    rw [hu] at hu'
    cases hu'
    refine (closure84 Q ao' a2 n' cap' n2 c2 lb vs l w h2 hn hl).mono ?_
    rintro e w' ⟨rfl, rfl⟩
    refine ⟨?_, rfl⟩
    rw [hr, Option.map_some, Option.getD_some, hrb.len]
  · rintro e w' ⟨rfl, rfl⟩
    exact ⟨by rw [any_not_all l n2 h2.len], rfl⟩

theorem any_84is (Q : Nat → Prop) (a2 : Option Addr) (n2 c2 lb : Nat) (vs : List Value) (l : List (List UInt8)) (w : World) (x : Bool) (h2 : Mv Q w a2 n2 vs l) (hn : 0 < n2 ∧ n2 ≤ 9223372036854775807) (hl : w.cell? ⟨lb, 0, none⟩ = some (.slice a2 n2 c2)) (hx : l.all (fun r => decide (r.length = mcols l)) = !x) :
    Calls Try.prog 83 #[.slice a2 n2 c2, .func (.func 84) #[] #[.pointer (some ⟨lb, 0, none⟩)]] w fun e w' => e = .returned (.bool x) ∧ w = w' :=
  (any_84m Q a2 n2 c2 lb vs l w h2 hn.1 hn.2 hl).mono fun _ _ ⟨he, hw⟩ => ⟨by rw [he, hx, Bool.not_not], hw⟩

set_option maxRecDepth 100000 in
set_option maxHeartbeats 4000000 in
theorem apply_no3 (p : Value) (P Q : Nat → Prop) (a1 a2 : Option Addr) (n1 n2 c1 c2 : Nat) (us vs : List Value) (m l : List (List UInt8)) (w : World) (h1 : Mv P w a1 n1 us m) (h2 : Mv Q w a2 n2 vs l) (hm : mright m = true) (hne : n2 = mcols m) (hall : l.all (fun r => decide (r.length = mcols l)) = false) :
    Calls Try.prog 55 #[p, .slice a1 n1 c1, .slice a2 n2 c2] w fun e w' => e = .returned (.tuple #[.slice none 0 0, .int .i64 2]) ∧ Keep (fun _ => False) w w' := by
  have hM := of_mright hm
  have e1 := hM.1
  have e2 := hM.2.1
  rw [h1.len] at e1
  have h1' := h1.keep ((Keep.refl (fun _ => False) w).alloc (.cells #[.slice a2 n2 c2] 40)) (fun _ _ _ => id)
  have h2' := h2.keep ((Keep.refl (fun _ => False) w).alloc (.cells #[.slice a2 n2 c2] 40)) (fun _ _ _ => id)
  obtain ⟨b, o, ao', n', cap', r, rfl, _, hu, hm0, hc, _, hmx, hrb⟩ := h1'.at_ (k := 0) (by omega)
  rw [Nat.add_zero] at hc
  have hmc := mcols_at hm0
  rw [hrb.len] at hmc
  rw [hmc] at hne e2
  subst hne
  have hbox : (w.alloc (.cells #[.slice a2 n2 c2] 40)).cell? ⟨w.heap.size, 0, none⟩ = some (.slice a2 n2 c2) := by simp
  have H1 := Lib.hid h1'
  have H2 := Lib.hid h2'
  have HM := Lib.hid hm
  have HA := Lib.hid hall
  have HL1 := Lib.hid (World.block_lt_of_cell? _ _ hc)
  have HL2 := Lib.hid (World.block_lt_of_cell? _ _ hbox)
  have HN : Hid (n1 ≤ 9223372036854775807) := by show n1 ≤ 9223372036854775807; omega
  have HN2 : Hid (0 < n2 ∧ n2 ≤ 9223372036854775807) := by show 0 < n2 ∧ n2 ≤ 9223372036854775807; omega
  have hp : (0 : Int) < (n1 : Int) := by omega
  have hnt := hnot
  have hmf := hmf
  have HK0 : Hid (Keep (fun _ => False) w (w.alloc (.cells #[.slice a2 n2 c2] 40))) := (Keep.refl (fun _ => False) w).alloc _
  clear h1 h1' h2 h2' hm hM e1 e2 hu hm0 hrb hmc hmx hbox hall
  go_enter Try.func55, Try.ntmps55
  go_wp2_with fail
  have hbox : (w.alloc (.cells #[.slice a2 n2 c2] 40)).cell? ⟨w.heap.size, 0, none⟩ = some (.slice a2 n2 c2) := by simp
  generalize w.alloc (.cells #[.slice a2 n2 c2] 40) = w0 at *
  first | (go_region_with (first | (go_at_call 58; refine (right_true P _ n1 c1 us m _ ?_ HN.out HM.out).mono ?_; (exact H1.out); rintro e w1 ⟨rfl, hk⟩; have m1 := (hk.cell (p := ⟨b, o, none⟩) HL1.out id).trans hc; have m2 := (hk.cell (p := ⟨w.heap.size, 0, none⟩) HL2.out id).trans hbox) | (go_at_call 83; refine (any_84is Q a2 n2 c2 w.heap.size vs l _ true ?_ HN2.out ?_ HA.out).mono ?_; (exact H2.out.keep (S := fun _ => False) ⟨hk.os, hk.tape, hk.output, hk.size, hk.block⟩ (fun _ _ _ => id)); (exact m2); rintro e w2 ⟨rfl, rfl⟩))) | fail "no"
  all_goals
    have HK : Hid (Keep (fun _ => False) w w1) := HK0.out.trans ⟨hk.os, hk.tape, hk.output, hk.size, hk.block⟩
    clear hk m1 m2 hc hbox
    go_wp2_with fail
    go_ret2
    exact ⟨rfl, HK.out⟩
end Go.Proofs.Ytegecjilpmkamaa

namespace Go.Proofs.Ytegecjilpmkamaa
open Go.RowKit Sb

theorem Gr.old {P : Nat → Prop} {N M : Nat} {w : World} {v : Value} {m : List (List UInt8)} (h : Gr P N w v m) (hM : M ≤ N) : Gr P M w v m := by
  obtain ⟨us, h1, h2⟩ := h
  refine ⟨us, ⟨h1.1, ?_⟩, h2⟩
  rcases h1.2 with h3 | ⟨g, cap, cur, rfl, h4, h5⟩
  · exact .inl h3
  · exact .inr ⟨g, cap, cur, rfl, Nat.le_trans hM h4, h5⟩

theorem rowOf_zero (n : Nat) : List.replicate n 0 = rowOf n (fun _ => 0) := by
  apply List.ext_getElem?
  intro i
  by_cases h : i < n
  · rw [rowOf_get _ h, List.getElem?_replicate, if_pos h]
  · rw [List.getElem?_eq_none (by simp; omega), List.getElem?_eq_none (by rw [rowOf_len]; omega)]

theorem nb_rb {P : Nat → Prop} {w w' : World} {v : Value} {ys : List UInt8} {n : Nat} (h : Nb w w' v ys) (hn : ys.length = n) (hP : ∀ b, w.heap.size ≤ b → P b) : ∃ g cap, v = .slice (some ⟨g, 0, none⟩) n cap ∧ n ≤ cap ∧ cap ≤ maxLen ∧ Rb P w' (some ⟨g, 0, none⟩) n ys := by
  subst hn
  have hb := h.bs
  obtain ⟨g, cap, cs, rfl, hg, h1, h2, _⟩ := h
  obtain ⟨ao, n', cap', e, h3, h4, h5⟩ := hb
  cases e
  exact ⟨g, cap, rfl, h1, h2, h5.mono (fun b _ hb => hP b hb)⟩

set_option maxRecDepth 100000 in
set_option maxHeartbeats 8000000 in
theorem apply_yes (fb : Nat) (P Q : Nat → Prop) (a1 a2 : Option Addr) (n1 n2 c1 c2 : Nat) (us vs : List Value) (m l : List (List UInt8)) (w : World) (hf : FieldAt w fb) (hP : ∀ x, P x → x ≠ fb) (hQ : ∀ x, Q x → x ≠ fb) (h1 : Mv P w a1 n1 us m) (h2 : Mv Q w a2 n2 vs l) (hfit : mapp m l = true) (hL : mcols l ≤ 140737488355328) :
    Calls Try.prog 55 #[.pointer (some ⟨fb, 0, none⟩), .slice a1 n1 c1, .slice a2 n2 c2] w fun e w' => ∃ v, e = .returned (.tuple #[v, .int .i64 0]) ∧ Gr (fun x => w.heap.size ≤ x) w.heap.size w' v (mulM m l) ∧ Fq fb w w' := by
  rw [mapp, Bool.and_eq_true, Bool.and_eq_true, decide_eq_true_eq] at hfit
  obtain ⟨hm, hne, hall⟩ := hfit
  have hM := of_mright hm
  have e1 := hM.1
  have e2 := hM.2.1
  rw [h1.len] at e1
  rw [h2.len] at hne
  have h1' := h1.keep ((Keep.refl (fun _ => False) w).alloc (.cells #[.slice a2 n2 c2] 40)) (fun _ _ _ => id)
  have h2' := h2.keep ((Keep.refl (fun _ => False) w).alloc (.cells #[.slice a2 n2 c2] 40)) (fun _ _ _ => id)
  have HROWA : Hid (∀ r ∈ m, r.length = n2) := fun r hr => (hM.2.2 r hr).trans hne.symm
  obtain ⟨L, hLe⟩ : ∃ L, L = mcols l := ⟨_, rfl⟩
  have HROWB : Hid (∀ r ∈ l, r.length = L) := fun r hr => by
    rw [List.all_eq_true] at hall
    rw [of_decide_eq_true (hall r hr), hLe]
  have HMM : Hid (mulM m l = (List.range n1).map (fun i => rowOf L (mulE n2 (ent m) (ent l) i))) := by
    show mulM m l = _
    rw [mulM, h1.len, h2.len, hLe]
  obtain ⟨b, o, ao', n', cap', r, rfl, _, hu, hm0, hc, _, hmx, hrb⟩ := h1'.at_ (k := 0) (by omega)
  rw [Nat.add_zero] at hc
  have hn' : n' = n2 := by have h5 := HROWA.out r (List.mem_of_getElem? hm0); rw [hrb.len] at h5; exact h5
  subst hn'
  obtain ⟨q2, o2, bo', L', cap2, r2, rfl, _, hu2, hm2, hcb, _, _, hrb2⟩ := h2'.at_ (k := 0) (by omega)
  rw [Nat.add_zero] at hcb
  have hL' : L' = L := by have h5 := HROWB.out r2 (List.mem_of_getElem? hm2); rw [hrb2.len] at h5; exact h5
  subst hL'
  rw [← hLe] at hL
  have hbox : (w.alloc (.cells #[.slice (some ⟨q2, o2, none⟩) n' c2] 40)).cell? ⟨w.heap.size, 0, none⟩ = some (.slice (some ⟨q2, o2, none⟩) n' c2) := by simp
  have HF : Hid (FieldAt (w.alloc (.cells #[.slice (some ⟨q2, o2, none⟩) n' c2] 40)) fb) := hf.keep ((Keep.refl (fun _ => False) w).alloc _) id
  have HU : Hid (Blk w fb 102 full → Blk (w.alloc (.cells #[.slice (some ⟨q2, o2, none⟩) n' c2] 40)) fb 102 full) := fun h => h.alloc _
  have HFL : Hid (fb < w.heap.size) := hf.lt
  have H1 := Lib.hid h1'
  have H2 := Lib.hid h2'
  have HM := Lib.hid hm
  have HA : Hid (l.all (fun r => decide (r.length = mcols l)) = true) := hall
  have HL1 := Lib.hid (World.block_lt_of_cell? _ _ hc)
  have HL2 := Lib.hid (World.block_lt_of_cell? _ _ hbox)
  have HL3 := Lib.hid (World.block_lt_of_cell? _ _ hcb)
  have HCB := Lib.hid hcb
  have HN : Hid (n1 ≤ 9223372036854775807) := by show n1 ≤ 9223372036854775807; omega
  have HN2 : Hid (0 < n' ∧ n' ≤ 9223372036854775807) := by show 0 < n' ∧ n' ≤ 9223372036854775807; omega
  have HQ2 : Hid (¬ q2 = fb) := by
    obtain ⟨b9, o9, u9, e9, hp9, _⟩ := Rv.at_ h2.1 (k := 0) (by omega)
    cases e9
    exact hQ _ hp9
  have HP := Lib.hid hP
  have HQ := Lib.hid hQ
  have HL := Lib.hid hL
  have hp : (0 : Int) < (n1 : Int) := by omega
  have hp2 : (0 : Int) < (n' : Int) := by omega
  have p3 : (n1 : Int) ≤ 255 := by omega
  have p4 : (n' : Int) ≤ 255 := by omega
  have hnt := hnot
  have hmf := hmf
  have hmk := make_bytes L' hL
  have HK0 : Hid (Keep (fun _ => False) w (w.alloc (.cells #[.slice (some ⟨q2, o2, none⟩) n' c2] 40))) := (Keep.refl (fun _ => False) w).alloc _
  have HS0 : Hid ((w.alloc (.cells #[.slice (some ⟨q2, o2, none⟩) n' c2] 40)).heap.size = w.heap.size + 1) := by
    show (w.alloc (.cells #[.slice (some ⟨q2, o2, none⟩) n' c2] 40)).heap.size = w.heap.size + 1
    simp
  clear h1 h1' h2 h2' hm hM e1 e2 hu hm0 hrb hmx hbox hall hf hP hQ hL hLe hu2 hm2 hrb2 hcb hne
  go_enter Try.func55, Try.ntmps55
  go_wp2_with fail
  have hbox : (w.alloc (.cells #[.slice (some ⟨q2, o2, none⟩) n' c2] 40)).cell? ⟨w.heap.size, 0, none⟩ = some (.slice (some ⟨q2, o2, none⟩) n' c2) := by simp
  generalize w.alloc (.cells #[.slice (some ⟨q2, o2, none⟩) n' c2] 40) = w0 at *
  clear hmk
  first | (go_region_with (first | (go_at_call 58; refine (right_true P _ n1 c1 us m _ ?_ HN.out HM.out).mono ?_; (exact H1.out); rintro e w1 ⟨rfl, hk⟩; have m1 := (hk.cell (p := ⟨b, o, none⟩) HL1.out id).trans hc; have m2 := (hk.cell (p := ⟨w.heap.size, 0, none⟩) HL2.out id).trans hbox) | (go_at_call 83; refine (any_84is Q _ n' c2 w.heap.size vs l _ false ?_ HN2.out ?_ HA.out).mono ?_; (exact H2.out.keep (S := fun _ => False) ⟨hk.os, hk.tape, hk.output, hk.size, hk.block⟩ (fun _ _ _ => id)); (exact m2); rintro e w2 ⟨rfl, rfl⟩))) | fail "no"
  all_goals
    have HK : Hid (Keep (fun _ => False) w w1) := HK0.out.trans ⟨hk.os, hk.tape, hk.output, hk.size, hk.block⟩
    have HK1 : Hid (Keep (fun _ => False) w0 w1) := ⟨hk.os, hk.tape, hk.output, hk.size, hk.block⟩
    have HBOX := Lib.hid m2
    clear hk m1 m2 hc hbox
    have hmk := make_bytes L' HL.out
    go_wp2_with fail
    go_loopw [8, 10, 11, 12, 13, 33, 44] (fun s _ _ _ _ i _ wr => ∃ k : Nat, k ≤ n1 ∧ i = .int .i64 (k : Int) ∧
        Hid (Gr (fun x => w0.heap.size ≤ x) w0.heap.size wr s ((List.range k).map (fun i => rowOf L' (mulE n' (ent m) (ent l) i))) ∧ FieldAt wr fb ∧ (Blk w0 fb 102 full → Blk wr fb 102 full) ∧ Keep (· = fb) w0 wr)) (fun _ _ _ _ _ i _ _ => n1 - (intOf i).toNat)
    case atStart => exact ⟨0, Nat.zero_le _, rfl, Gr.nil _ _ _, HF.out.keep (S := fun _ => False) ⟨HK1.out.os, HK1.out.tape, HK1.out.output, HK1.out.size, HK1.out.block⟩ id, fun h => h.keep (S := fun _ => False) ⟨HK1.out.os, HK1.out.tape, HK1.out.output, HK1.out.size, HK1.out.block⟩ id, Keep.mono (S := fun _ => False) ⟨HK1.out.os, HK1.out.tape, HK1.out.output, HK1.out.size, HK1.out.block⟩ (fun _ _ h => h.elim)⟩
    case round =>
      obtain ⟨k, hk, rfl, HI⟩ := hrel
      obtain ⟨wo, rfl⟩ : ∃ wo : World, wo = wr := ⟨_, rfl⟩
      obtain ⟨s, rfl⟩ : ∃ s : Value, s = u8 := ⟨_, rfl⟩
      by_cases hltk : k < n1
      · have k0 : (0 : Int) ≤ (k : Int) := by omega
        have kn : (k : Int) < (n1 : Int) := by omega
        have HLTK := Lib.hid hltk
        obtain ⟨qa, oa, ra, na, ca, rr, ea, _, hua, hra, hcra, _, _, hrba⟩ := (H1.out.keep HI.out.2.2.2 (fun x _ hx e => HP.out x hx e)).at_ hltk
        cases ea
        have hna : na = n' := by have h5 := HROWA.out rr (List.mem_of_getElem? hra); rw [hrba.len] at h5; exact h5
        subst hna
        have hrr : rr = rowOf na (ent m k) := (ent_row hra hrba.len).symm
        subst hrr
        have HRA : Hid (Rb (· ≠ fb) wo ra na (rowOf na (ent m k))) := hrba.mono (fun x _ hx => HP.out x hx)
        have hbx : wo.cell? ⟨w.heap.size, 0, none⟩ = some (.slice (some ⟨q2, o2, none⟩) na c2) := (HI.out.2.2.2.cell (p := ⟨w.heap.size, 0, none⟩) HL2.out (fun e => by have e' : w.heap.size = fb := e; have := HFL.out; omega)).trans ((Keep.cell (p := ⟨w.heap.size, 0, none⟩) (Keep.refl (fun _ => False) w0) HL2.out id).symm.trans (by have h9 := HBOX.out; have h8 := HK1.out.cell (p := ⟨w.heap.size, 0, none⟩) HL2.out id; rw [← h8]; exact h9))
        have hcb := (HI.out.2.2.2.cell (p := ⟨q2, o2, none⟩) HL3.out HQ2.out).trans HCB.out
        have HBX := Lib.hid hbx
        clear hltk hua hra hrba
        go_wp2_with fail
        clear hmk
        go_loopw [11, 12, 13, 44] (fun t _ _ j wx => ∃ (kk : Nat) (at_ : Option Addr) (ct : Nat), kk ≤ na ∧ j = .int .i64 (kk : Int) ∧ t = .slice at_ L' ct ∧
            Hid (L' ≤ ct ∧ ct ≤ maxLen ∧ Rb (fun x => wo.heap.size ≤ x) wx at_ L' (rowOf L' (fun x => xsum kk (fun q => gmul (ent m k q) (ent l q x)))) ∧ FieldAt wx fb ∧ (Blk w0 fb 102 full → Blk wx fb 102 full) ∧ Keep (· = fb) wo wx)) (fun _ _ _ j _ => na - (intOf j).toNat)
        case atStart =>
          refine ⟨0, _, _, Nat.zero_le _, rfl, rfl, Nat.le_refl _, by have := HL.out; unfold maxLen; omega, ?_, HI.out.2.1.keep ((Keep.refl (fun _ => False) wo).alloc _) id, fun h => (HI.out.2.2.1 h).alloc _, (Keep.refl (· = fb) wo).alloc _⟩
          have e : rowOf L' (fun x => xsum 0 (fun q => gmul (ent m k q) (ent l q x))) = List.replicate L' 0 := (rowOf_zero L').symm
          rw [e, made_reps]
          exact (Blk.new wo 5 (bcells (List.replicate L' 0))).rb (by simp) (Nat.le_refl _)
        case round =>
          obtain ⟨kk, at_, ct, hkk, rfl, rfl, HL2⟩ := hrel
          have HKR : Hid (Keep (· = fb) w0 wr) := HI.out.2.2.2.trans HL2.out.2.2.2.2.2
          by_cases hltk : kk < na
          · have j0 : (0 : Int) ≤ (kk : Int) := by omega
            have jn : (kk : Int) < (na : Int) := by omega
            have HLTJ := Lib.hid hltk
            obtain ⟨b3, o3, x, rfl, _, hx, hcx⟩ := (HRA.out.keep HL2.out.2.2.2.2.2 (fun b _ hb e => hb e)).at_ hltk
            rw [rowOf_get _ hltk] at hx
            cases hx
            obtain ⟨q4, o4, rl, nl, cl, rr4, e4, _, hul, hrl, hcl, _, _, hrbl⟩ := (H2.out.keep HKR.out (fun x _ hx e => HQ.out x hx e)).at_ hltk
            cases e4
            have hnl : nl = L' := by have h5 := HROWB.out rr4 (List.mem_of_getElem? hrl); rw [hrbl.len] at h5; exact h5
            subst hnl
            have hrr4 : rr4 = rowOf nl (ent l kk) := (ent_row hrl hrbl.len).symm
            subst hrr4
            have HRL : Hid (Rb (· ≠ fb) wr rl nl (rowOf nl (ent l kk))) := hrbl.mono (fun x _ hx => HQ.out x hx)
            have hbx2 : wr.cell? ⟨w.heap.size, 0, none⟩ = some (.slice (some ⟨q2, o2, none⟩) na c2) := (HL2.out.2.2.2.2.2.cell (p := ⟨w.heap.size, 0, none⟩) (World.block_lt_of_cell? _ _ HBX.out) (fun e => by have e' : w.heap.size = fb := e; have := HFL.out; omega)).trans HBX.out
            clear hltk hul hrl hrbl
            go_wp2_with fail
            refine (scale_any fb (· ≠ fb) rl nl cl (rowOf nl (ent l kk)) (ent m k kk) wr HL2.out.2.2.2.1 HRL.out (fun h => h rfl) HL.out).mono ?_
            rintro e w5 ⟨v5, rfl, hnb, hp⟩
            rw [rowOf_scale] at hnb
            obtain ⟨g5, cap5, rfl, _, _, hrb5⟩ := nb_rb (P := fun x => wo.heap.size ≤ x) hnb (rowOf_len _ _) (fun b hb => Nat.le_trans HL2.out.2.2.2.2.2.size hb)
            have HR5 := Lib.hid hrb5
            have HP5 := Lib.hid hp
            have HFO : Hid (fb < wo.heap.size) := HI.out.2.1.lt
            have HT5 : Hid (Rb (fun x => wo.heap.size ≤ x) w5 at_ nl (rowOf nl (fun x => xsum kk (fun q => gmul (ent m k q) (ent l q x))))) := HL2.out.2.2.1.keep hp.keep (fun x _ (hx : wo.heap.size ≤ x) (e : x = fb) => by have := HFO.out; omega)
            clear hnb hp hrb5 hcx hcl hbx2
            go_wp2_with fail
            refine (sum_any _ (fun x => wo.heap.size ≤ x) at_ _ nl nl ct cap5 _ _ w5 HT5.out HR5.out HL.out HL.out).mono ?_
            rintro e w6 ⟨v6, rfl, hnb, hk⟩
            rw [rowOf_sum] at hnb
            have HK6 : Hid (Keep (· = fb) wo w6) := HL2.out.2.2.2.2.2.trans (HP5.out.keep.trans (hk.mono (fun _ _ h => h.elim)))
            obtain ⟨g6, cap6, rfl, hc6, hm6, hrb6⟩ := nb_rb (P := fun x => wo.heap.size ≤ x) hnb (rowOf_len _ _) (fun b hb => Nat.le_trans (HL2.out.2.2.2.2.2.trans HP5.out.keep).size hb)
            have HR6 : Hid (nl ≤ cap6 ∧ cap6 ≤ maxLen ∧ Rb (fun x => wo.heap.size ≤ x) w6 (some ⟨g6, 0, none⟩) nl (rowOf nl (fun x => xsum (kk + 1) (fun q => gmul (ent m k q) (ent l q x))))) := by
              refine ⟨hc6, hm6, ?_⟩
              have e : rowOf nl (fun x => xsum (kk + 1) (fun q => gmul (ent m k q) (ent l q x))) = rowOf nl (fun j => xsum kk (fun q => gmul (ent m k q) (ent l q j)) ^^^ gmul (ent l kk j) (ent m k kk)) := rowOf_congr (fun j _ => by rw [xsum, gmul_comm (ent l kk j)])
              rw [e]
              exact hrb6
            have HF6 : Hid (FieldAt w6 fb) := HP5.out.field.keep hk id
            have HU6 : Hid (Blk w0 fb 102 full → Blk w6 fb 102 full) := fun _ => HP5.out.at_.keep hk id
            clear hnb hk hrb6 hc6 hm6
            go_wp2_with fail
            go_roundw
            case rel => exact ⟨kk + 1, _, _, by have := HLTJ.out; omega, by go_num, rfl, HR6.out.1, HR6.out.2.1, HR6.out.2.2, HF6.out, HU6.out, HK6.out⟩
            case measure => have := HLTJ.out; simp [intOf]; omega
          · have hkn : (na : Int) ≤ (kk : Int) := by omega
            have hke : kk = na := by omega
            rw [hke] at HL2
            have HBS : Hid (Bs (fun x => w0.heap.size ≤ x ∧ s.ownBlock ≠ some x) wr (.slice at_ L' ct) (rowOf L' (mulE na (ent m) (ent l) k))) := by
              obtain ⟨us, h1, _⟩ := HI.out.1
              exact ⟨at_, L', ct, rfl, HL2.out.1, HL2.out.2.1, HL2.out.2.2.1.mono (fun b _ (hb : wo.heap.size ≤ b) => ⟨Nat.le_trans HI.out.2.2.2.size hb, fun e => by have := (h1.lt _ e).2; omega⟩)⟩
            have HFO : Hid (fb < w0.heap.size) := by
              have h1 := HFL.out
              have h2 := HS0.out
              show fb < w0.heap.size
              omega
            have HGK : Hid (Gr (fun x => w0.heap.size ≤ x) w0.heap.size wr s ((List.range k).map (fun i => rowOf L' (mulE na (ent m) (ent l) i)))) := by
              obtain ⟨us, h1, _⟩ := HI.out.1
              exact HI.out.1.keep HL2.out.2.2.2.2.2 (fun b hb e => by have := (h1.lt _ hb).1; have := HFO.out; omega) (fun b _ (hb : w0.heap.size ≤ b) _ e => by have := HFO.out; omega)
            clear hke hltk
            go_wp2_with (first
              | (at_builtin; refine wpl_grow1 wr rfl (.tmp 60) (.tmp 62) 40 Try.underlying40 rfl (fun x => w0.heap.size ≤ x) w0.heap.size s (.slice at_ L' ct) ((List.range k).map (fun i => rowOf L' (mulE na (ent m) (ent l) i))) (rowOf L' (mulE na (ent m) (ent l) k)) wr.heap.size rfl rfl rfl HGK.out HBS.out (by rw [List.length_map, List.length_range]; omega) HKR.out.size ?_; intro v' w' hgr hkp))
            have HG := Lib.hid hgr
            have HKP := Lib.hid hkp
            clear hgr hkp
            have hmk := make_bytes L' HL.out
            go_wp2_with fail
            go_roundw
            case rel =>
              obtain ⟨us, h1, _⟩ := HGK.out
              refine ⟨k + 1, by have := HLTK.out; omega, by go_num, ?_, HL2.out.2.2.2.1.keep HKP.out (fun e => by have := (h1.lt _ e).1; have := HFO.out; omega), fun h => (HL2.out.2.2.2.2.1 h).keep HKP.out (fun e => by have := (h1.lt _ e).1; have := HFO.out; omega), HKR.out.trans' HKP.out (fun i hi e => by have := (h1.lt _ e).1; omega)⟩
              rw [List.range_succ, List.map_append]
              exact HG.out
            case measure => have := HLTK.out; simp [intOf]; omega
      · have hkn : (n1 : Int) ≤ (k : Int) := by omega
        have hke : k = n1 := by omega
        rw [hke] at HI
        clear hke
        go_wp2_with fail
        go_ret2
        refine ⟨_, rfl, ?_, HI.out.2.1, fun h => HI.out.2.2.1 (HU.out h), (HK0.out.mono (fun _ _ h => h.elim)).trans' HI.out.2.2.2 (fun _ _ h => h)⟩
        rw [HMM.out]
        have hle : w.heap.size ≤ w0.heap.size := by have := HS0.out; omega
        exact (HI.out.1.old hle).mono (fun b _ hb => Nat.le_trans hle hb)
end Go.Proofs.Ytegecjilpmkamaa

namespace Go.Proofs.Ytegecjilpmkamaa
open Go.RowKit Sb

/-- A coder of k shards of data and m more, in block cb; its field lies in block fb; its matrix is that of the document. Nothing of it is older than N. -/
structure Cd (N : Nat) (w : World) (cb fb k m : Nat) (ao : Option Addr) (cap : Nat) (us : List Value) : Prop where
  blk : Blk w cb 79 #[.pointer (some ⟨fb, 0, none⟩), .int .i64 (k : Int), .int .i64 (m : Int), .slice ao (k + m) cap]
  field : FieldAt w fb
  all : Mv (fun b => b ≠ fb ∧ N ≤ b) w ao (k + m) us (oneM k ++ cauM m k)
  le : k + m ≤ cap ∧ cap ≤ maxLen
  ne : cb ≠ fb
  oldf : N ≤ fb
  oldc : N ≤ cb
  k1 : 1 ≤ k
  km : k + m ≤ 255

theorem Cd.q {N : Nat} {w w' : World} {cb fb k m cap : Nat} {ao : Option Addr} {us : List Value} (h : Cd N w cb fb k m ao cap us) (hq : Fq fb w w') : Cd N w' cb fb k m ao cap us :=
  ⟨h.blk.keep hq.keep h.ne, hq.at_, h.all.keep hq.keep (fun _ _ hb => hb.1), h.le, h.ne, h.oldf, h.oldc, h.k1, h.km⟩
theorem Cd.k {N : Nat} {w w' : World} {cb fb k m cap : Nat} {ao : Option Addr} {us : List Value} (h : Cd N w cb fb k m ao cap us) (hk : Keep (fun _ => False) w w') : Cd N w' cb fb k m ao cap us :=
  ⟨h.blk.keep hk id, h.field.keep hk id, h.all.keep hk (fun _ _ _ => id), h.le, h.ne, h.oldf, h.oldc, h.k1, h.km⟩

set_option maxRecDepth 100000 in
set_option maxHeartbeats 4000000 in
theorem rsnew_no (k m : Int) (hk : -9223372036854775808 ≤ k ∧ k ≤ 9223372036854775807) (hm : -9223372036854775808 ≤ m ∧ m ≤ 9223372036854775807) (w : World) (h : ¬ (1 ≤ k ∧ 0 ≤ m ∧ k ≤ 255 ∧ k + m ≤ 255)) :
    Calls Try.prog 62 #[.int .i64 k, .int .i64 m] w fun e w' => e = .returned (.tuple #[.pointer none, .int .i64 2]) ∧ w = w' := by
  have four : k < 1 ∨ (1 ≤ k ∧ m < 0) ∨ (1 ≤ k ∧ 0 ≤ m ∧ 255 < k) ∨ (1 ≤ k ∧ 0 ≤ m ∧ k ≤ 255 ∧ 255 - k < m) := by omega
  have hm1 := hm.1
  have hm2 := hm.2
  have hk1 := hk.1
  have hk2 := hk.2
  clear h hk hm
  rcases four with h | ⟨h, h'⟩ | ⟨h, h', h''⟩ | ⟨h, h', h'', h3⟩
  all_goals
    go_enter Try.func62, Try.ntmps62
    go_wp2_with fail
    go_ret2
    exact ⟨rfl, rfl⟩

set_option maxRecDepth 100000 in
set_option maxHeartbeats 8000000 in
theorem rsnew_yes (k m : Nat) (w : World) (hk : 1 ≤ k) (hkm : k + m ≤ 255) :
    Calls Try.prog 62 #[.int .i64 (k : Int), .int .i64 (m : Int)] w fun e w' => ∃ cb fb ao cap us, e = .returned (.tuple #[.pointer (some ⟨cb, 0, none⟩), .int .i64 0]) ∧ Cd w.heap.size w' cb fb k m ao cap us ∧ Keep (fun _ => False) w w' := by
  have p1 : (1 : Int) ≤ (k : Int) := by omega
  have p2 : (0 : Int) ≤ (m : Int) := by omega
  have p3 : (k : Int) ≤ 255 := by omega
  have p4 : (m : Int) ≤ 255 - (k : Int) := by omega
  have HK1 : Hid (1 ≤ k ∧ k + m ≤ 255) := ⟨hk, hkm⟩
  go_enter Try.func62, Try.ntmps62
  go_wp2_with fail
  refine (new_any w).mono ?_
  rintro e w1 ⟨rfl, rfl⟩
  have HKa : Hid (Keep (fun _ => False) w (w.alloc (.cells Try.zeroCells102 102))) := (Keep.refl _ w).alloc _
  have HFa : Hid (FieldAt (w.alloc (.cells Try.zeroCells102 102)) w.heap.size) := field_new w
  have HS1 : Hid ((w.alloc (.cells Try.zeroCells102 102)).heap.size = w.heap.size + 1) := by
    show (w.alloc (.cells Try.zeroCells102 102)).heap.size = w.heap.size + 1
    simp
  generalize (w.alloc (.cells Try.zeroCells102 102)) = w1 at *
  go_wp2_with fail
  have HB2 : Hid (Blk (w1.alloc (.cells #[.pointer (some ⟨w.heap.size, 0, none⟩), .int .i64 (k : Int), .int .i64 (m : Int), .slice none 0 0] 79)) w1.heap.size 79 #[.pointer (some ⟨w.heap.size, 0, none⟩), .int .i64 (k : Int), .int .i64 (m : Int), .slice none 0 0]) := Blk.new _ _ _
  have HK2 : Hid (Keep (fun _ => False) w (w1.alloc (.cells #[.pointer (some ⟨w.heap.size, 0, none⟩), .int .i64 (k : Int), .int .i64 (m : Int), .slice none 0 0] 79))) := HKa.out.alloc _
  have HF2 : Hid (FieldAt (w1.alloc (.cells #[.pointer (some ⟨w.heap.size, 0, none⟩), .int .i64 (k : Int), .int .i64 (m : Int), .slice none 0 0] 79)) w.heap.size) := HFa.out.keep ((Keep.refl (fun _ => False) w1).alloc _) id
  generalize (w1.alloc (.cells #[.pointer (some ⟨w.heap.size, 0, none⟩), .int .i64 (k : Int), .int .i64 (m : Int), .slice none 0 0] 79)) = w2 at *
  obtain ⟨fb, hfb⟩ : ∃ fb, fb = w.heap.size := ⟨_, rfl⟩
  obtain ⟨cb, hcb⟩ : ∃ cb, cb = w1.heap.size := ⟨_, rfl⟩
  rw [← hfb] at HF2 HB2 ⊢
  rw [← hcb] at HB2 ⊢
  have HCF : Hid (w.heap.size ≤ fb ∧ w.heap.size ≤ cb ∧ cb ≠ fb) := by
    have := HS1.out
    show w.heap.size ≤ fb ∧ w.heap.size ≤ cb ∧ cb ≠ fb
    omega
  have HCL : Hid (cb < w2.heap.size) := HB2.out.lt
  have HFL : Hid (fb < w2.heap.size) := HF2.out.lt
  clear hfb hcb
  refine (one_yes k w2 hk (by omega)).mono ?_
  rintro e w3 ⟨g, G, rfl, hfl, hk3⟩
  have HO3 := Lib.hid hfl
  have HK3 := Lib.hid (HK2.out.trans hk3)
  have HF3 := Lib.hid (HF2.out.keep hk3 id)
  have hb3 := HB2.out.keep hk3 id
  have hc3 : w3.cell? ⟨cb, 3, none⟩ = some (.slice none 0 0) := hb3.cell 3
  have hz3 : w3.frozen? ⟨cb, 3, none⟩ = false := hb3.frozen 3
  have hset : Keep (· = cb) w3 (w3.setCell ⟨cb, 3, none⟩ (.slice (some ⟨g, 0, none⟩) k k)) := (Keep.refl (· = cb) w3).setCell (p := ⟨cb, 3, none⟩) (fun _ => rfl) _
  have HB4 : Hid (Blk (w3.setCell ⟨cb, 3, none⟩ (.slice (some ⟨g, 0, none⟩) k k)) cb 79 #[.pointer (some ⟨fb, 0, none⟩), .int .i64 (k : Int), .int .i64 (m : Int), .slice (some ⟨g, 0, none⟩) k k]) := hb3.set_ 3 _
  have HSET := Lib.hid hset
  obtain ⟨us3, hmv3⟩ := hfl.mv (by omega) (by omega)
  have hmo : Mv (fun b => w2.heap.size ≤ b) w3 (some ⟨g, 0, none⟩) k us3 (oneM k) := hmv3
  have HM4 : Hid (Mv (fun b => w2.heap.size ≤ b) (w3.setCell ⟨cb, 3, none⟩ (.slice (some ⟨g, 0, none⟩) k k)) (some ⟨g, 0, none⟩) k us3 (oneM k)) := hmo.keep hset (fun b _ (hb : w2.heap.size ≤ b) (e : b = cb) => by have := HCL.out; omega)
  have HK4 : Hid (Keep (fun _ => False) w (w3.setCell ⟨cb, 3, none⟩ (.slice (some ⟨g, 0, none⟩) k k))) := HK3.out.trans' hset (fun i hi e => by have := HCF.out; omega)
  have HF4 : Hid (FieldAt (w3.setCell ⟨cb, 3, none⟩ (.slice (some ⟨g, 0, none⟩) k k)) fb) := HF3.out.keep hset (fun e => HCF.out.2.2 e.symm)
  have HS4 : Hid (w2.heap.size ≤ (w3.setCell ⟨cb, 3, none⟩ (.slice (some ⟨g, 0, none⟩) k k)).heap.size) := Nat.le_trans hk3.size hset.size
  clear hfl hk3 hset hmv3 hmo hb3
  by_cases hm : m = 0
  · subst hm
    go_wp2_with fail
    go_ret2
    refine ⟨cb, fb, _, k, us3, rfl, ⟨HB4.out, HF4.out, ?_, ⟨by omega, by unfold maxLen; omega⟩, HCF.out.2.2, HCF.out.1, HCF.out.2.1, HK1.out.1, HK1.out.2⟩, HK4.out⟩
    rw [show oneM k ++ cauM 0 k = oneM k from List.append_nil _]
    exact HM4.out.mono (fun b _ (hb : w2.heap.size ≤ b) => ⟨by have := HFL.out; omega, by have := HCF.out; have := HCL.out; omega⟩)
  · have m1 : (0 : Int) < (m : Int) := by omega
    have HM1 : Hid (1 ≤ m) := by show 1 ≤ m; omega
    have hc4a := HB4.out.cell 0
    have hc4b := HB4.out.cell 3
    clear hm
    go_wp2_with fail
    clear hc3 hz3
    generalize (w3.setCell ⟨cb, 3, none⟩ (.slice (some ⟨g, 0, none⟩) k k)) = w4 at *
    refine (cauchy_yes fb m k w4 HF4.out HM1.out hk (by omega)).mono ?_
    rintro e w5 ⟨g5, G5, rfl, hfl, hq⟩
    obtain ⟨us5, hmv5⟩ := hfl.mv (by omega) (by omega)
    have HC5 : Hid (Mv (fun b => w4.heap.size ≤ b) w5 (some ⟨g5, 0, none⟩) m us5 (cauM m k)) := hmv5
    have HM5 := Lib.hid (HM4.out.keep hq.keep (fun b _ (hb : w2.heap.size ≤ b) (e : b = fb) => by have := HFL.out; omega))
    have hb5 := HB4.out.keep hq.keep HCF.out.2.2
    have HB5 := Lib.hid hb5
    have hc5b := hb5.cell 3
    have HK5 : Hid (Keep (fun _ => False) w w5) := HK4.out.trans' hq.keep (fun i hi e => by have := HCF.out; omega)
    have HF5 := Lib.hid hq.at_
    have HS5 : Hid (w2.heap.size ≤ w5.heap.size) := Nat.le_trans HS4.out hq.keep.size
    clear hfl hmv5 hq hb5 hc4a hc4b
    go_wp2_with fail
    clear hc5b
    refine (join_yes _ _ _ _ k m k m us3 us5 _ _ w5 HM5.out HC5.out (mk_right idE hk (by omega) hk (by omega)) (mk_right (fun i j => ginv (UInt8.ofNat (i + k) ^^^ UInt8.ofNat j)) HM1.out (by omega) hk (by omega)) ((mk_cols k idE hk).trans (mk_cols k (fun i j => ginv (UInt8.ofNat (i + k) ^^^ UInt8.ofNat j)) HM1.out).symm) (by omega)).mono ?_
    rintro e w6 ⟨v6, rfl, hgr, hk6⟩
    have HLA : Hid ((oneM k ++ cauM m k).length = k + m) := by show (oneM k ++ cauM m k).length = k + m; simp [oneM, cauM]
    obtain ⟨ao6, cap6, rfl, hcap6, hmx6⟩ := hgr.len
    obtain ⟨us6, hus⟩ := hgr.mv
    rw [HLA.out] at hus hcap6 ⊢
    have hb6 := HB5.out.keep hk6 id
    have hc6 := hb6.cell 3
    have hz6 := hb6.frozen 3
    have hset : Keep (· = cb) w6 (w6.setCell ⟨cb, 3, none⟩ (.slice ao6 (k + m) cap6)) := (Keep.refl (· = cb) w6).setCell (p := ⟨cb, 3, none⟩) (fun _ => rfl) _
    have HB7 : Hid (Blk (w6.setCell ⟨cb, 3, none⟩ (.slice ao6 (k + m) cap6)) cb 79 #[.pointer (some ⟨fb, 0, none⟩), .int .i64 (k : Int), .int .i64 (m : Int), .slice ao6 (k + m) cap6]) := hb6.set_ 3 _
    have hmv7 : Mv (fun b => w5.heap.size ≤ b) w6 ao6 (k + m) us6 (oneM k ++ cauM m k) := hus.mono (fun b _ hb => hb.elim id id)
    have HM7 : Hid (Mv (fun b => b ≠ fb ∧ w.heap.size ≤ b) (w6.setCell ⟨cb, 3, none⟩ (.slice ao6 (k + m) cap6)) ao6 (k + m) us6 (oneM k ++ cauM m k)) :=
      (hmv7.keep hset (fun b _ (hb : w5.heap.size ≤ b) (e : b = cb) => by have := HCL.out; have := HS5.out; omega)).mono (fun b _ (hb : w5.heap.size ≤ b) => ⟨by have := HFL.out; have := HS5.out; omega, by have := HCF.out; have := HCL.out; have := HS5.out; omega⟩)
    have HK7 : Hid (Keep (fun _ => False) w (w6.setCell ⟨cb, 3, none⟩ (.slice ao6 (k + m) cap6))) := (HK5.out.trans hk6).trans' hset (fun i hi e => by have := HCF.out; omega)
    have HF7 : Hid (FieldAt (w6.setCell ⟨cb, 3, none⟩ (.slice ao6 (k + m) cap6)) fb) := (HF5.out.keep hk6 id).keep hset (fun e => HCF.out.2.2 e.symm)
    have HCAP : Hid (k + m ≤ cap6 ∧ cap6 ≤ maxLen) := ⟨hcap6, hmx6⟩
    clear hgr hk6 hus hcap6 hmx6 hb6 hset hmv7
    go_wp2_with fail
    go_ret2
    exact ⟨cb, fb, ao6, cap6, us6, rfl, ⟨HB7.out, HF7.out, HM7.out, HCAP.out, HCF.out.2.2, HCF.out.1, HCF.out.2.1, HK1.out.1, HK1.out.2⟩, HK7.out⟩
end Go.Proofs.Ytegecjilpmkamaa

namespace Go.Proofs.Ytegecjilpmkamaa
open Go.RowKit Sb

/-- Is a slice none? -/
def isnil : Value → Bool
  | .slice none _ _ => true
  | _ => false

set_option maxRecDepth 100000 in
set_option maxHeartbeats 1000000 in
theorem none_no {N cb fb k m cap : Nat} {ao : Option Addr} {us : List Value} (w : World) (h : Cd N w cb fb k m ao cap us) :
    Calls Try.prog 91 #[.pointer (some ⟨cb, 0, none⟩)] w fun e w' => e = .returned (.bool false) ∧ w = w' := by
  have hc := h.blk.cell 0
  clear h
  go_enter Try.func91, Try.ntmps91
  go_wp2_with fail
  go_ret
  exact ⟨rfl, rfl⟩

set_option maxRecDepth 100000 in
set_option maxHeartbeats 1000000 in
theorem none_nil (w : World) : Calls Try.prog 91 #[.pointer none] w fun e w' => e = .returned (.bool true) ∧ w = w' := by
  go_enter Try.func91, Try.ntmps91
  go_wp2_with fail
  go_ret
  exact ⟨rfl, rfl⟩

set_option maxRecDepth 100000 in
set_option maxHeartbeats 1000000 in
theorem none_zero (cb : Nat) (w : World) (hc : w.cell? ⟨cb, 0, none⟩ = some (.pointer none)) : Calls Try.prog 91 #[.pointer (some ⟨cb, 0, none⟩)] w fun e w' => e = .returned (.bool true) ∧ w = w' := by
  go_enter Try.func91, Try.ntmps91
  go_wp2_with fail
  go_ret
  exact ⟨rfl, rfl⟩

set_option maxRecDepth 100000 in
set_option maxHeartbeats 1000000 in
theorem counts_yes {N cb fb k m cap : Nat} {ao : Option Addr} {us : List Value} (w : World) (h : Cd N w cb fb k m ao cap us) :
    Calls Try.prog 65 #[.pointer (some ⟨cb, 0, none⟩)] w fun e w' => e = .returned (.tuple #[.int .i64 (k : Int), .int .i64 (m : Int)]) ∧ Keep (fun _ => False) w w' := by
  have hc1 := h.blk.cell 1
  have hc2 := h.blk.cell 2
  have H := Lib.hid h
  clear h
  go_enter Try.func65, Try.ntmps65
  go_wp2_with fail
  refine (none_no w H.out).mono ?_
  rintro e w' ⟨rfl, rfl⟩
  go_wp2_with fail
  go_quiet (fail)
  go_wp2_with fail
  go_ret2
  exact ⟨rfl, (Keep.refl _ _).drewN _⟩

set_option maxRecDepth 100000 in
set_option maxHeartbeats 1000000 in
theorem closure105 (P : Nat → Prop) (ao bo : Option Addr) (n cap n2 cap2 lb : Nat) (us : List Value) (l : List (List UInt8)) (w : World) (hr : Mv P w bo n2 us l) (hn : 0 < n2) (hl : w.cell? ⟨lb, 0, none⟩ = some (.slice bo n2 cap2)) :
    Calls Try.prog 105 #[.slice ao n cap, .pointer (some ⟨lb, 0, none⟩)] w fun e w' => e = .returned (.bool (ao.isNone || ((n : Int) != (mcols l : Int)))) ∧ w = w' := by
  obtain ⟨b, o, ao', n', cap', r', rfl, _, hu, hr', hc, _, _, hrb⟩ := hr.at_ hn
  rw [Nat.add_zero] at hc
  have e : Hid (mcols l = n') := by
    show mcols l = n'
    rw [mcols_at hr', hrb.len]
  have h1 : (0 : Int) < (n2 : Int) := by omega
  have hnl := fun w a n c => Lib.run_eql_slice_nil (P := Try.prog) w 33 5 a n c 0 0 Try.underlying33
  clear hr hn hu hr' hrb
  cases ao with
  | none =>
    go_enter Try.func105, Try.ntmps105
    go_wp2_with fail
    go_ret
    exact ⟨rfl, rfl⟩
  | some a =>
    go_enter Try.func105, Try.ntmps105
    go_wp2_with fail
    go_ret
    exact ⟨by rw [e.out]; rfl, rfl⟩

/-- Are shards all there, and of one length? -/
def evenB (us : List Value) (l : List (List UInt8)) : Bool := us.all (fun u => !isnil u) && l.all (fun r => decide (r.length = mcols l))

theorem even_not (P : Nat → Prop) (w : World) (ao : Option Addr) (n : Nat) (us : List Value) (l : List (List UInt8)) (hr : Mv P w ao n us l) :
    (List.range n).any (fun i => (isnil (us.getD i undef) || ((((l[i]?.map List.length).getD 0 : Nat) : Int) != (mcols l : Int)))) = !evenB us l := by
  rw [Bool.eq_iff_iff, List.any_eq_true, Bool.not_eq_true', ← Bool.not_eq_true, evenB, Bool.and_eq_true, List.all_eq_true, List.all_eq_true]
  constructor
  · rintro ⟨i, hi, h⟩ ⟨h1, h2⟩
    rw [List.mem_range] at hi
    obtain ⟨_, _, ao', n', cap', r, _, _, hu, hm, _, _, _, hrb⟩ := hr.at_ hi
    have e1 : us.getD i undef = .slice ao' n' cap' := by rw [List.getD_eq_getElem?_getD, hu, Option.getD_some]
    rw [e1, hm, Option.map_some, Option.getD_some, Bool.or_eq_true] at h
    rcases h with h | h
    · have h3 := h1 _ (List.mem_of_getElem? hu)
      rw [h] at h3
      cases h3
    · rw [bne_iff_ne] at h
      have h3 := of_decide_eq_true (h2 r (List.mem_of_getElem? hm))
      exact h (by rw [h3])
  · intro h
    apply Classical.byContradiction
    intro hno
    apply h
    constructor
    · intro u hu
      obtain ⟨i, hi, rfl⟩ := List.getElem_of_mem hu
      rw [hr.lenu] at hi
      cases hn : isnil us[i] with
      | false => rfl
      | true =>
        refine absurd ⟨i, List.mem_range.2 hi, ?_⟩ hno
        rw [List.getD_eq_getElem?_getD, List.getElem?_eq_getElem (by rw [hr.lenu]; exact hi), Option.getD_some, hn, Bool.true_or]
    · intro r hrm
      obtain ⟨i, hi, rfl⟩ := List.getElem_of_mem hrm
      apply decide_eq_true
      apply Classical.byContradiction
      intro hne
      have hi' : i < n := by rw [← hr.len]; exact hi
      refine hno ⟨i, List.mem_range.2 hi', ?_⟩
      rw [List.getElem?_eq_getElem hi, Option.map_some, Option.getD_some, Bool.or_eq_true, bne_iff_ne]
      exact .inr (by omega)

set_option maxRecDepth 100000 in
set_option maxHeartbeats 2000000 in
theorem even_any (P : Nat → Prop) (ao : Option Addr) (n cap : Nat) (us : List Value) (l : List (List UInt8)) (w : World) (hr : Mv P w ao n us l) (hn : n ≤ 9223372036854775807) :
    Calls Try.prog 95 #[.slice ao n cap] w fun e w' => e = .returned (.bool (evenB us l)) ∧ Keep (fun _ => False) w w' := by
  have hk : Keep (fun _ => False) w (w.alloc (.cells #[.slice ao n cap] 40)) := (Keep.refl _ w).alloc _
  have hb : (w.alloc (.cells #[.slice ao n cap] 40)).cell? ⟨w.heap.size, 0, none⟩ = some (.slice ao n cap) := by simp
  have HR := Lib.hid (hr.keep hk (fun _ _ _ => id))
  have HB := Lib.hid hb
  have HK := Lib.hid hk
  have hmf := hmf
  have hnt := hnot
  clear hr hk hb
  go_enter Try.func95, Try.ntmps95
  go_wp2_with fail
  refine (any_105 P ao n cap us l (.pointer (some ⟨w.heap.size, 0, none⟩)) (fun i => (isnil (us.getD i undef) || ((((l[i]?.map List.length).getD 0 : Nat) : Int) != (mcols l : Int)))) _ HR.out hn (fun i u hu => ?_)).mono ?_
  · have hi : i < n := by have := HR.out.lenu; have := (List.getElem?_eq_some_iff.1 hu).1; omega
    obtain ⟨b, o, ao', n', cap', r, _, _, hu', hm, _, _, _, hrb⟩ := HR.out.at_ hi
    rw [hu] at hu'
    cases hu'
    refine (closure105 P ao' ao n' cap' n cap w.heap.size us l _ HR.out (by omega) HB.out).mono ?_
    rintro e w' ⟨rfl, rfl⟩
    refine ⟨?_, rfl⟩
    rw [List.getD_eq_getElem?_getD, hu, Option.getD_some, hm, Option.map_some, Option.getD_some, hrb.len]
    cases ao' <;> rfl
  rintro e w' ⟨rfl, rfl⟩
  rw [even_not P _ ao n us l HR.out]
  go_wp2_with fail
  go_ret
  exact ⟨rfl, HK.out⟩
end Go.Proofs.Ytegecjilpmkamaa

namespace Go.Proofs.Ytegecjilpmkamaa
open Go.RowKit Sb

theorem Fl.gr' {N : Nat} {w : World} {g : Nat} {G : Nat → Nat} {n c : Nat} {f : Nat → List UInt8} (h : Fl N w g G n c f) (hn : n ≤ 255) (hc : c ≤ maxLen) : Gr (fun b => N ≤ b) N w (.slice (some ⟨g, 0, none⟩) n n) ((List.range n).map f) := by
  obtain ⟨h1, cs, h2, h3, h4, _⟩ := h
  have hl : ((List.range n).map f).length = n := by simp
  refine ⟨cs.toList, ⟨by rw [hl]; simp; omega, .inr ⟨g, n, cs, by rw [hl], h1, h2, by rw [hl]; omega, by unfold maxLen; omega, by simp [h3], by rw [hl, Nat.mul_one]; exact List.take_of_length_le (by simp; omega)⟩⟩, fun i u r hu hr => ?_⟩
  have hi : i < n := by
    have := (List.getElem?_eq_some_iff.1 hu).1
    simpa [h3] using this
  obtain ⟨i1, i2, i3, i4⟩ := h4 i hi
  rw [Array.getElem?_toList, i1] at hu
  rw [List.getElem?_map, List.getElem?_range hi] at hr
  cases hu
  have hr' : f i = r := by simpa using hr
  subst hr'
  refine ⟨_, c, c, rfl, Nat.le_refl _, hc, ⟨by rw [List.length_map]; exact i4, fun _ => ⟨G i, 0, rfl, ⟨i2, fun e => Blk.ne_ i3 h2 (by decide) (Option.some.inj e).symm⟩, fun j v hv => ?_⟩⟩⟩
  rw [Nat.zero_add, i3.cell]
  simpa [bcells] using hv

theorem cau_cols {k m : Nat} (h : 1 ≤ m) : mcols (cauM m k) = k := mk_cols k (fun i j => ginv (UInt8.ofNat (i + k) ^^^ UInt8.ofNat j)) h
theorem cau_right {k m : Nat} (h1 : 1 ≤ m) (h2 : 1 ≤ k) (h3 : k + m ≤ 255) : mright (cauM m k) = true := mk_right (fun i j => ginv (UInt8.ofNat (i + k) ^^^ UInt8.ofNat j)) h1 (by omega) h2 (by omega)

/-- All shards: those of data, and those that the matrix makes of them. -/
def encM (k m : Nat) (l : List (List UInt8)) : List (List UInt8) := l ++ mulM (cauM m k) l

set_option maxRecDepth 100000 in
set_option maxHeartbeats 4000000 in
theorem encode_nil (a : Option Addr) (ao : Option Addr) (n cap : Nat) (w : World) (h : Calls Try.prog 91 #[.pointer a] w fun e w' => e = .returned (.bool true) ∧ w = w') :
    Calls Try.prog 66 #[.pointer a, .slice ao n cap] w fun e w' => e = .returned (.tuple #[.slice none 0 0, .int .i64 1]) ∧ w = w' := by
  have H := Lib.hid h
  clear h
  go_enter Try.func66, Try.ntmps66
  go_wp2_with fail
  refine H.out.mono ?_
  rintro e w' ⟨rfl, rfl⟩
  go_wp2_with fail
  go_ret2
  exact ⟨rfl, rfl⟩

set_option maxRecDepth 100000 in
set_option maxHeartbeats 4000000 in
theorem encode_no {N cb fb k m cap : Nat} {ao : Option Addr} {us : List Value} (P : Nat → Prop) (a2 : Option Addr) (n c2 : Nat) (vs : List Value) (l : List (List UInt8)) (w : World) (h : Cd N w cb fb k m ao cap us) (h2 : Mv P w a2 n vs l) (hn : n ≤ 9223372036854775807) (hno : n ≠ k ∨ evenB vs l = false) :
    Calls Try.prog 66 #[.pointer (some ⟨cb, 0, none⟩), .slice a2 n c2] w fun e w' => e = .returned (.tuple #[.slice none 0 0, .int .i64 2]) ∧ Keep (fun _ => False) w w' := by
  have HC := Lib.hid h
  have H2 := Lib.hid h2
  have hc1 := h.blk.cell 1
  have hnt := hnot
  by_cases hnk : n = k
  · subst hnk
    have HE : Hid (evenB vs l = false) := by
      rcases hno with h | h
      · exact absurd rfl h
      · exact h
    clear h h2 hno
    go_enter Try.func66, Try.ntmps66
    go_wp2_with fail
    refine (none_no w HC.out).mono ?_
    rintro e w' ⟨rfl, rfl⟩
    go_wp2_with fail
    refine (even_any P a2 n c2 vs l w H2.out hn).mono ?_
    rintro e w1 ⟨rfl, hk⟩
    have HK := Lib.hid hk
    rw [HE.out]
    clear hk
    go_wp2_with fail
    go_ret2
    exact ⟨rfl, HK.out⟩
  · have hne : ((n : Int) != (k : Int)) = true := by rw [bne_iff_ne]; omega
    clear h h2 hno hnk
    go_enter Try.func66, Try.ntmps66
    go_wp2_with fail
    refine (none_no w HC.out).mono ?_
    rintro e w' ⟨rfl, rfl⟩
    go_wp2_with fail
    go_ret2
    exact ⟨rfl, Keep.refl _ _⟩

set_option maxRecDepth 100000 in
set_option maxHeartbeats 8000000 in
theorem encode_yes {N cb fb k m cap : Nat} {ao : Option Addr} {us : List Value} (P : Nat → Prop) (a2 : Option Addr) (c2 : Nat) (vs : List Value) (l : List (List UInt8)) (w : World) (h : Cd N w cb fb k m ao cap us) (h2 : Mv P w a2 k vs l) (hP : ∀ x, P x → x ≠ fb) (he : evenB vs l = true) (hL : mcols l ≤ 140737488355328) :
    Calls Try.prog 66 #[.pointer (some ⟨cb, 0, none⟩), .slice a2 k c2] w fun e w' => ∃ v, e = .returned (.tuple #[v, .int .i64 0]) ∧ Gr (fun b => w.heap.size ≤ b) w.heap.size w' v (encM k m l) ∧ Fq fb w w' := by
  have hk1 := h.k1
  have hkm := h.km
  have hcap := h.le
  obtain ⟨b0, o0, _, _, _, _, rfl, _⟩ := h.all.at_ (k := 0) (by omega)
  have HROWS : Hid (∀ r ∈ l, r.length = mcols l) := by
    rw [evenB, Bool.and_eq_true, List.all_eq_true, List.all_eq_true] at he
    exact fun r hr => of_decide_eq_true (he.2 r hr)
  have HC := Lib.hid h
  have H2 := Lib.hid h2
  have HE := Lib.hid he
  have HP := Lib.hid hP
  have HL := Lib.hid hL
  have HKM : Hid (1 ≤ k ∧ k + m ≤ 255) := ⟨hk1, hkm⟩
  have hc1 := h.blk.cell 1
  have hnt := hnot
  have p3 : (k : Int) ≤ 255 := by omega
  clear h h2 he hP hL
  go_enter Try.func66, Try.ntmps66
  go_wp2_with fail
  refine (none_no w HC.out).mono ?_
  rintro e w' ⟨rfl, rfl⟩
  go_wp2_with fail
  refine (even_any P a2 k c2 vs l w H2.out (by omega)).mono ?_
  rintro e w1 ⟨rfl, hk⟩
  have HK1 := Lib.hid hk
  rw [HE.out]
  clear hk hc1
  go_wp2_with fail
  refine (clone_97 P a2 k c2 (mcols l) vs l w1 (H2.out.keep HK1.out (fun _ _ _ => id)) (by omega) HL.out HROWS.out).mono ?_
  rintro e w2 ⟨g, G, rfl, hfl, hk⟩
  have HG2 : Hid (Gr (fun b => w.heap.size ≤ b) w.heap.size w2 (.slice (some ⟨g, 0, none⟩) k k) l) := by
    have h9 := (hfl.old HK1.out.size).gr' (by omega) (by have := HL.out; unfold maxLen; omega)
    rw [ent_all H2.out.len HROWS.out] at h9
    exact h9
  have HK2 := Lib.hid (HK1.out.trans hk)
  have HC2 := Lib.hid ((HC.out.k HK1.out).k hk)
  clear hfl hk
  have hc0 := HC2.out.blk.cell 0
  have hc1 := HC2.out.blk.cell 1
  have hc2 := HC2.out.blk.cell 2
  have hc3 := HC2.out.blk.cell 3
  by_cases hm : m = 0
  · have hm0 : ((m : Int) == 0) = true := by rw [beq_iff_eq]; omega
    have HM : Hid (m = 0) := hm
    clear hm
    go_wp2_with fail
    go_ret2
    refine ⟨_, rfl, ?_, ⟨HC2.out.field, fun h => h.keep HK2.out id, HK2.out.mono (fun _ _ h => h.elim)⟩⟩
    rw [show encM k m l = l by rw [HM.out, encM, show cauM 0 k = [] from rfl, show mulM [] l = [] from rfl, List.append_nil]]
    exact HG2.out
  · have hm0 : ((m : Int) == 0) = false := by rw [beq_eq_false_iff_ne]; omega
    have HM1 : Hid (1 ≤ m) := by show 1 ≤ m; omega
    have HAL : Hid (Mv (fun b => b ≠ fb) w2 (some ⟨b0, o0 + k, none⟩) m (us.drop k) (cauM m k)) := by
      have h9 := HC2.out.all.drop
      rw [List.drop_left' (by simp [oneM])] at h9
      exact h9.mono (fun b _ hb => hb.1)
    have HAP : Hid (mapp (cauM m k) l = true) := by
      show mapp (cauM m k) l = true
      rw [mapp, cau_right HM1.out hk1 hkm, cau_cols HM1.out, H2.out.len, decide_eq_true rfl, Bool.true_and, Bool.true_and, List.all_eq_true]
      exact fun r hr => decide_eq_true (HROWS.out r hr)
    have q1 : (k : Int) ≤ (k : Int) + (m : Int) := by omega
    have q2 : (k : Int) + (m : Int) ≤ (cap : Int) := by omega
    have q3 : k ≤ k + m := by omega
    have q4 : k + m ≤ cap := hcap.1
    have q5 : k ≤ cap := by omega
    have q6 : (k : Int) ≤ (cap : Int) := by omega
    have q7 : ¬ cap = k := by omega
    have L0 := Lib.hid HC2.out.blk.lt
    have NE := Lib.hid HC2.out.ne
    clear hm hcap
    go_wp2_with fail
    clear hc2
    go_region_held3 (fun w' => w'.cell? ⟨cb, 0, none⟩ = some (.pointer (some ⟨fb, 0, none⟩)) ∧ w'.cell? ⟨cb, 1, none⟩ = some (.int .i64 (k : Int)) ∧ w'.cell? ⟨cb, 3, none⟩ = some (.slice (some ⟨b0, o0, none⟩) (k + m) cap)) (first | exact ⟨by assumption, by assumption, by assumption⟩ | go_keep) (first | (go_at_call 55; refine (apply_yes fb (fun b => b ≠ fb) P _ a2 m k _ c2 (us.drop k) vs (cauM m k) l _ ?_ ?_ ?_ ?_ ?_ HAP.out HL.out).mono ?_; (exact HC2.out.field); (exact fun _ h => h); (exact HP.out); (exact HAL.out); (exact H2.out.keep HK2.out.drew (fun _ _ _ => id)); rintro e w3 ⟨v3, rfl, hgr, hq⟩; have m0 := (hq.keep.cell (p := ⟨cb, 0, none⟩) L0.out NE.out).trans hc0; have m1 := (hq.keep.cell (p := ⟨cb, 1, none⟩) L0.out NE.out).trans hc1; have m3 := (hq.keep.cell (p := ⟨cb, 3, none⟩) L0.out NE.out).trans hc3))
    all_goals
      have HQ3 : Hid (Fq fb w2 w3) := ⟨hq.at_, hq.up, hq.keep.os, hq.keep.tape, hq.keep.output, hq.keep.size, hq.keep.block⟩
      have HML : Hid ((mulM (cauM m k) l).length = m) := by
        show (mulM (cauM m k) l).length = m
        simp [mulM, cauM]
      obtain ⟨ao3, cap3, rfl, hcp3, hmx3⟩ := hgr.len
      obtain ⟨ms, hms⟩ := hgr.mv
      rw [HML.out] at hms ⊢
      have HMS : Hid (Mv (fun b => w2.heap.size ≤ b) w3 ao3 m ms (mulM (cauM m k) l)) := hms.mono (fun b _ hb => hb.elim id id)
      have HFB : Hid (fb < w.heap.size) := HC.out.field.lt
      have HG3 : Hid (Gr (fun b => w.heap.size ≤ b) w.heap.size w3 (.slice (some ⟨g, 0, none⟩) k k) l) := by
        obtain ⟨us', q, _⟩ := HG2.out
        exact HG2.out.keep HQ3.out.keep (fun b hb e => by have := (q.lt b hb).1; have := HFB.out; omega) (fun b _ (hb : w.heap.size ≤ b) _ e => by have := HFB.out; omega)
      have HGL : Hid (g < w2.heap.size) := by
        obtain ⟨us', q, _⟩ := HG2.out
        exact (q.lt g rfl).2
      have HLL : Hid (l.length = k) := H2.out.len
      clear hgr hq m0 m1 m3 hc0 hc1 hc3 hms hcp3 hmx3
      go_wp2_with (first
        | (at_builtin; refine wpl_grow w3 rfl (.tmp 51) (.tmp 52) 40 Try.underlying40 rfl (fun b => w.heap.size ≤ b) (fun b => w2.heap.size ≤ b) w.heap.size (.slice (some ⟨g, 0, none⟩) k k) l rfl HG3.out ao3 m cap3 ms (mulM (cauM m k) l) rfl HMS.out.1 HMS.out.2.1 (fun i u r hu hr => (HMS.out.2.2 i u r hu hr).mono (fun b _ (hb : w2.heap.size ≤ b) => ⟨Nat.le_trans HK2.out.size hb, fun e => by have := HGL.out; have h9 : g = b := Option.some.inj e; omega⟩)) (by rw [HLL.out]; omega) (Nat.le_trans HK2.out.size HQ3.out.keep.size) ?_; intro v' w' hgr hkp hb))
      have HGR := Lib.hid hgr
      have HQ4 : Hid (Fq fb w w') := by
        obtain ⟨us', q, _⟩ := HG3.out
        have hne : ∀ b, (Value.slice (some ⟨g, 0, none⟩) k k).ownBlock = some b → b ≠ fb := fun b hb e => by have := (q.lt b hb).1; have := HFB.out; omega
        refine ⟨HQ3.out.at_.keep hkp (fun e => hne fb e rfl), fun h => (HQ3.out.up (h.keep HK2.out id)).keep hkp (fun e => hne fb e rfl), ((HK2.out.mono (fun _ _ h => h.elim)).trans HQ3.out.keep).trans' hkp (fun i hi e => by have := (q.lt i e).1; omega)⟩
      clear hgr hkp hb
      go_wp2_with fail
      go_ret2
      exact ⟨_, rfl, HGR.out, HQ4.out⟩
end Go.Proofs.Ytegecjilpmkamaa

namespace Go.Proofs.Ytegecjilpmkamaa
open Go.RowKit Sb

theorem mv_one {P : Nat → Prop} {w : World} {ao : Option Addr} {n : Nat} {us : List Value} {m : List (List UInt8)} (h : Mv P w ao n us m) : ∀ u ∈ us, u.oneCell' = true := by
  intro u hu
  obtain ⟨i, hi, rfl⟩ := List.getElem_of_mem hu
  have hin : i < n := by rw [← h.lenu]; exact hi
  obtain ⟨_, _, ao', n', cap', r, _, _, hu', _⟩ := h.at_ hin
  rw [List.getElem?_eq_getElem hi] at hu'
  rw [Option.some.inj hu']
  rfl

set_option maxRecDepth 100000 in
set_option maxHeartbeats 1000000 in
/-- slices.Clone of rows: the same slices, in a row of the call's own. -/
theorem clone_93 (P : Nat → Prop) (ao : Option Addr) (n cap : Nat) (us : List Value) (l : List (List UInt8)) (w : World) (hr : Mv P w ao n us l) (hn : n ≤ 100000) :
    Calls Try.prog 93 #[.slice ao n cap] w fun e w' => ∃ v, e = .returned v ∧ w'.ownsRow w.heap.size 33 1 v n us ∧ Keep (fun _ => False) w w' := by
  obtain ⟨i0, hi0, hz0, hz1, hz2⟩ := info_parts info33
  have hnl := fun w a n c => Lib.run_eql_slice_nil (P := Try.prog) w 40 33 a n c 0 0 Try.underlying40
  cases ao with
  | none =>
    have h0 : n = 0 := by
      apply Classical.byContradiction
      intro hne
      obtain ⟨b, o, e, _⟩ := hr.1.2 (by omega)
      cases e
    subst h0
    have hu : us = [] := List.length_eq_zero_iff.1 hr.lenu
    subst hu
    clear hr
    go_enter Try.func93, Try.ntmps93
    go_wp2_with fail
    go_ret
    exact ⟨_, rfl, World.ownsRow_nil _ _ _ _, Keep.refl _ _⟩
  | some a =>
    have HR := Lib.hid hr
    clear hr
    go_enter Try.func93, Try.ntmps93
    go_wp2_with (first
      | (at_builtin; refine wpl_append _ rfl (.tmp 5) (.tmp 6) 40 rfl w.heap.size 33 i0 (.slice none 0 0) 24 Try.underlying40 hi0 hz0 hz1 hz2 rfl (.slice (some ⟨w.heap.size, 0, none⟩) 0 0) 0 [] rfl (World.ownsRow_made w #[] 0 (Nat.le_refl _) (Nat.zero_le _) rfl) P _ n cap us rfl (HR.out.1.keep ((Keep.refl (fun _ => False) w).alloc _) (fun _ _ _ => id)) (mv_one HR.out) (by unfold maxLen; omega) (by omega) (by simp) ?_; intro v1 w1 hown1 hg1 hnil1 hat1))
    have HK : Hid (Keep (fun _ => False) w w1) := ((Keep.refl _ w).alloc _).grown hg1 (fun k hk h => by simp [Value.ownBlock] at hk; omega)
    have HG : Hid (w1.ownsRow w.heap.size 33 1 v1 n us) := by
      show w1.ownsRow w.heap.size 33 1 v1 n us
      simpa using hown1
    clear hown1 hg1 hnil1 hat1
    go_wp2_with fail
    go_ret
    exact ⟨_, rfl, HG.out, HK.out⟩

set_option maxRecDepth 100000 in
set_option maxHeartbeats 1000000 in
theorem closure94 (ao : Option Addr) (n cap : Nat) (w : World) : Calls Try.prog 94 #[.slice ao n cap] w fun e w' => e = .returned (.bool (isnil (.slice ao n cap))) ∧ w = w' := by
  have hnl := fun w a n c => Lib.run_eql_slice_nil (P := Try.prog) w 33 5 a n c 0 0 Try.underlying33
  cases ao <;>
  · go_enter Try.func94, Try.ntmps94
    go_wp2_with fail
    go_ret
    exact ⟨rfl, rfl⟩

set_option maxRecDepth 100000 in
set_option maxHeartbeats 1000000 in
theorem closure98 (ao : Option Addr) (n cap : Nat) (w : World) : Calls Try.prog 98 #[.slice ao n cap] w fun e w' => e = .returned (.bool (isnil (.slice ao n cap))) ∧ w = w' := by
  have hnl := fun w a n c => Lib.run_eql_slice_nil (P := Try.prog) w 33 5 a n c 0 0 Try.underlying33
  cases ao <;>
  · go_enter Try.func98, Try.ntmps98
    go_wp2_with fail
    go_ret
    exact ⟨rfl, rfl⟩

set_option maxRecDepth 100000 in
set_option maxHeartbeats 1000000 in
theorem idx_94 (P : Nat → Prop) (ao : Option Addr) (n cap : Nat) (us : List Value) (m : List (List UInt8)) (q : Nat → Bool) (w : World) (hr : Mv P w ao n us m) (hn : n ≤ 9223372036854775807)
    (hcl : ∀ (i : Nat) (u : Value), us[i]? = some u → Calls Try.prog 94 #[u] w fun e w' => e = .returned (.bool (q i)) ∧ w = w') :
    Calls Try.prog 104 #[.slice ao n cap, .func (.func 94) #[] #[]] w fun e w' => e = .returned (.int .i64 (fidx q n 0)) ∧ w = w' := by
  have HR := Lib.hid hr
  have HC := Lib.hid hcl
  clear hr hcl
  go_enter Try.func104, Try.ntmps104
  go_wp2_with fail
  go_loop [5, 8] (fun _ i => ∃ k : Nat, k ≤ n ∧ i = .int .i64 (k : Int) ∧ Hid (fidx q (n - k) k = fidx q n 0)) (fun _ i => n - (intOf i).toNat)
  case atStart => exact ⟨0, Nat.zero_le _, rfl, rfl⟩
  case round =>
    obtain ⟨k, hk, rfl, HI⟩ := hrel
    by_cases hlt : k < n
    · obtain ⟨b, o, ao', n', cap', r, rfl, _, hu, _, hc, _⟩ := HR.out.at_ hlt
      have hcl := Lib.hid (HC.out k _ hu)
      have hj0 : (0 : Int) ≤ (k : Int) := by omega
      have hjn : (k : Int) < (n : Int) := by omega
      clear hu
      cases hq : q k with
      | true =>
        have HQ := Lib.hid hq
        clear hq
        go_wp2_with fail
        refine hcl.out.mono ?_
        rintro e w' ⟨rfl, rfl⟩
        rw [HQ.out]
        go_wp2_with fail
        go_ret
        refine ⟨?_, rfl⟩
        rw [← HI.out, fidx_step hlt, if_pos HQ.out]
        rfl
      | false =>
        have HQ := Lib.hid hq
        clear hq
        go_wp2_with fail
        refine hcl.out.mono ?_
        rintro e w' ⟨rfl, rfl⟩
        rw [HQ.out]
        go_wp2_with fail
        go_round
        case rel =>
          refine ⟨k + 1, by omega, by go_num, ?_⟩
          have h := HI.out
          rw [fidx_step hlt, if_neg (by rw [HQ.out]; simp)] at h
          exact h
        case measure => simp [intOf]; omega
    · have hkn : (n : Int) ≤ (k : Int) := by omega
      go_wp2_with fail
      go_ret
      refine ⟨?_, rfl⟩
      rw [← HI.out, show n - k = 0 by omega, fidx]
      rfl

/-- Those that are there. -/
def there_ (us : List Value) : List Value := us.filter (fun u => !isnil u)

theorem Keep.setCells {S : Nat → Prop} {w w' : World} (g : Nat) (hg : S g) : ∀ (vs : List Value) (o : Nat), Keep S w w' → Keep S w (w'.setCells g o vs) := by
  intro vs
  induction vs generalizing w' with
  | nil => intro o h; exact h
  | cons v vs ih =>
    intro o h
    rw [World.setCells]
    exact ih (o + 1) (h.setCell (p := ⟨g, o, none⟩) (fun _ => hg) v)
end Go.Proofs.Ytegecjilpmkamaa

namespace Go.Proofs.Ytegecjilpmkamaa
open Go.RowKit Sb

theorem zero33 (w : World) : (zeroValue 33).run Try.prog w = .ok (.slice none 0 0) w := by
  obtain ⟨i0, hi0, hz0, _, _⟩ := info_parts info33
  simp [zeroValue, typeInfo, hi0, hz0]

theorem there_step {us : List Value} {j : Nat} {v : Value} (h : us[j]? = some v) : there_ (us.take (j + 1)) = there_ (us.take j) ++ (if isnil v then [] else [v]) := by
  rw [List.take_add_one, h, there_, List.filter_append, there_]
  cases hv : isnil v <;> simp [hv]

theorem there_all {us : List Value} (h : ∀ (i : Nat) (v : Value), us[i]? = some v → isnil v = false) : there_ us = us := by
  rw [there_, List.filter_eq_self]
  intro v hv
  obtain ⟨i, hi, rfl⟩ := List.getElem_of_mem hv
  rw [h i _ (List.getElem?_eq_getElem hi)]
  rfl

set_option maxRecDepth 100000 in
set_option maxHeartbeats 8000000 in
theorem delete_92 (P : Nat → Prop) (g n cap : Nat) (cur : Array Value) (us : List Value) (m : List (List UInt8)) (w : World) (hr : Mv P w (some ⟨g, 0, none⟩) n us m) (hb : Blk w g 33 cur) (hs : cur.size = cap) (hcap : n ≤ cap) (ht : cur.toList.take n = us) (hn : n ≤ 100000) :
    Calls Try.prog 92 #[.slice (some ⟨g, 0, none⟩) n cap, .func (.func 94) #[] #[]] w fun e w' => e = .returned (.slice (some ⟨g, 0, none⟩) (there_ us).length cap) ∧ Rv (fun b => b = g) w' (some ⟨g, 0, none⟩) (there_ us).length (there_ us) ∧ Keep (· = g) w w' := by
  have hcell : Hid (∀ x, x < n → cur[x]? = us[x]?) := by
    intro x hx
    rw [← ht, List.getElem?_take, if_pos hx, Array.getElem?_toList]
  have HSL : Hid (∀ x, x < n → ∃ ao' n' c', us[x]? = some (.slice ao' n' c')) := by
    intro x hx
    obtain ⟨_, _, ao', n', c', _, _, _, hu, _⟩ := hr.at_ hx
    exact ⟨ao', n', c', hu⟩
  have HUL : Hid (us.length = n) := hr.lenu
  have HR := Lib.hid hr
  have HB := Lib.hid hb
  have HSZ : Hid (cur.size = cap ∧ n ≤ cap) := ⟨hs, hcap⟩
  have q1 : (n : Int) ≤ (cap : Int) := by omega
  have hnt := hnot
  have hq : Hid (∀ (i : Nat) (u : Value), us[i]? = some u → Calls Try.prog 94 #[u] w fun e w' => e = .returned (.bool (isnil (us.getD i undef))) ∧ w = w') := by
    intro i u hu
    have hi : i < n := by have := (List.getElem?_eq_some_iff.1 hu).1; have := HUL.out; omega
    obtain ⟨ao', n', c', hu'⟩ := HSL.out i hi
    rw [hu] at hu'
    cases hu'
    rw [List.getD_eq_getElem?_getD, hu, Option.getD_some]
    exact closure94 ao' n' c' w
  clear hr hb hs ht
  rcases fidx_spec (fun i => isnil (us.getD i undef)) n 0 with ⟨hf, hall⟩ | ⟨j0, _, hj0, hf, hj1, hj2⟩
  · have HF := Lib.hid hf
    have HALL := Lib.hid hall
    clear hf hall hcap
    go_enter Try.func92, Try.ntmps92
    go_wp2_with fail
    refine (idx_94 P _ n cap us m (fun i => isnil (us.getD i undef)) w HR.out (by omega) hq.out).mono ?_
    rintro e w' ⟨rfl, rfl⟩
    rw [HF.out]
    go_wp2_with fail
    go_ret
    have e : there_ us = us := there_all (fun i v hv => by
      have hi : i < n := by have := (List.getElem?_eq_some_iff.1 hv).1; have := HUL.out; omega
      have h9 := HALL.out i (Nat.zero_le _) (by omega)
      rw [List.getD_eq_getElem?_getD, hv, Option.getD_some] at h9
      exact h9)
    rw [e, HUL.out]
    refine ⟨rfl, ⟨HUL.out, fun _ => ⟨g, 0, rfl, rfl, fun i u hu => ?_⟩⟩, Keep.refl _ _⟩
    have hi : i < n := by have := (List.getElem?_eq_some_iff.1 hu).1; have := HUL.out; omega
    rw [Nat.zero_add, HB.out.cell, hcell.out i hi, hu]
  · have HF := Lib.hid hf
    have HJ : Hid (j0 < n) := by show j0 < n; omega
    have HTJ : Hid (there_ (us.take (j0 + 1)) = us.take j0) := by
      obtain ⟨ao', n', c', hu⟩ := HSL.out j0 HJ.out
      have h9 := hj1
      rw [List.getD_eq_getElem?_getD, hu, Option.getD_some] at h9
      rw [there_step hu, if_pos h9, List.append_nil]
      refine there_all (fun i v hv => ?_)
      rw [List.getElem?_take] at hv
      split at hv
      · rename_i hij
        have h8 := hj2 i (Nat.zero_le _) hij
        rw [List.getD_eq_getElem?_getD, hv, Option.getD_some] at h8
        exact h8
      · cases hv
    have hne : ((j0 : Int) == -1) = false := by rw [beq_eq_false_iff_ne]; omega
    have jb : (j0 : Int) < (n : Int) := by have := HJ.out; omega
    clear hf hj0 hj1 hj2 hcap
    go_enter Try.func92, Try.ntmps92
    go_wp2_with fail
    refine (idx_94 P _ n cap us m (fun i => isnil (us.getD i undef)) w HR.out (by omega) hq.out).mono ?_
    rintro e w' ⟨rfl, rfl⟩
    rw [HF.out]
    go_wp2_with fail
    clear hne
    go_loopw [5, 6, 7] (fun u i _ wr => ∃ (j k : Nat) (cs : Array Value), j ≤ n ∧ i = .int .i64 (j : Int) ∧ u = .int .i64 (k : Int) ∧
        Hid (k = (there_ (us.take j)).length ∧ k < j ∧ Blk wr g 33 cs ∧ cs.size = cap ∧ (∀ (x : Nat) v, (there_ (us.take j))[x]? = some v → cs[x]? = some v) ∧ (∀ x, j ≤ x → x < n → cs[x]? = us[x]?) ∧ Keep (· = g) w wr)) (fun _ i _ _ => n - (intOf i).toNat)
    case atStart =>
      refine ⟨j0 + 1, j0, cur, HJ.out, by go_num, rfl, ?_, by omega, HB.out, HSZ.out.1, fun x v hv => ?_, fun x _ hx => hcell.out x hx, Keep.refl _ _⟩
      · rw [HTJ.out, List.length_take, HUL.out]
        have := HJ.out
        omega
      · rw [HTJ.out, List.getElem?_take] at hv
        split at hv
        · rw [hcell.out x (by have := HJ.out; omega)]
          exact hv
        · cases hv
    case round =>
      obtain ⟨j, k, cs, hj, rfl, rfl, HI⟩ := hrel
      by_cases hlt : j < n
      · have i0 : (0 : Int) ≤ (j : Int) := by omega
        have i1 : (j : Int) < (n : Int) := by omega
        have i2 : (0 : Int) ≤ (k : Int) := by omega
        have hkj := HI.out.2.1
        have i3 : (k : Int) < (n : Int) := by omega
        have HLT := Lib.hid hlt
        obtain ⟨ao', n', c', hu⟩ := HSL.out j hlt
        have hcj : wr.cell? ⟨g, j, none⟩ = some (.slice ao' n' c') := by
          rw [HI.out.2.2.1.cell, HI.out.2.2.2.2.2.1 j (Nat.le_refl _) hlt, hu]
        obtain ⟨vk, hvk⟩ : ∃ vk, cs[k]? = some vk := ⟨cs[k]'(by have := HI.out.2.2.2.1; have := HSZ.out.2; omega), Array.getElem?_eq_getElem _⟩
        have hck : wr.cell? ⟨g, k, none⟩ = some vk := (HI.out.2.2.1.cell k).trans hvk
        have hzk : wr.frozen? ⟨g, k, none⟩ = false := HI.out.2.2.1.frozen k
        have HTS := Lib.hid (there_step hu)
        have HU := Lib.hid hu
        clear hlt hkj hu hvk
        go_wp2_with fail
        refine (closure94 ao' n' c' wr).mono ?_
        rintro e w' ⟨rfl, rfl⟩
        cases hnl : isnil (.slice ao' n' c') with
        | true =>
          have HNL := Lib.hid hnl
          clear hnl
          go_wp2_with fail
          go_roundw
          case rel =>
            have e1 : there_ (us.take (j + 1)) = there_ (us.take j) := by rw [HTS.out, if_pos HNL.out, List.append_nil]
            refine ⟨j + 1, k, cs, HLT.out, by go_num, rfl, by rw [e1]; exact HI.out.1, by have := HI.out.2.1; omega, HI.out.2.2.1, HI.out.2.2.2.1, fun x v hv => ?_, fun x hx hxn => HI.out.2.2.2.2.2.1 x (by omega) hxn, HI.out.2.2.2.2.2.2⟩
            rw [e1] at hv
            exact HI.out.2.2.2.2.1 x v hv
          case measure => have := HLT.out; simp [intOf]; omega
        | false =>
          have HNL := Lib.hid hnl
          clear hnl
          go_wp2_with fail
          go_roundw
          case rel =>
            have e1 : there_ (us.take (j + 1)) = there_ (us.take j) ++ [.slice ao' n' c'] := by rw [HTS.out, HNL.out]; rfl
            have hk := HI.out.1
            refine ⟨j + 1, k + 1, cs.setIfInBounds k (.slice ao' n' c'), HLT.out, by go_num, by go_num, by rw [e1, List.length_append, ← hk]; rfl, by have := HI.out.2.1; omega, HI.out.2.2.1.set_ _ _, by simpa using HI.out.2.2.2.1, fun x v hv => ?_, fun x hx hxn => ?_, HI.out.2.2.2.2.2.2.setCell (p := ⟨g, k, none⟩) (fun _ => rfl) _⟩
            · rw [e1, List.getElem?_append] at hv
              rw [Array.getElem?_setIfInBounds]
              by_cases hxk : x < (there_ (us.take j)).length
              · rw [if_pos hxk] at hv
                rw [if_neg (by omega)]
                exact HI.out.2.2.2.2.1 x v hv
              · rw [if_neg hxk] at hv
                have hx0 : x = k := by
                  have := (List.getElem?_eq_some_iff.1 hv).1
                  simp at this
                  omega
                subst hx0
                rw [← hk, Nat.sub_self] at hv
                rw [if_pos rfl, if_pos (by have := HI.out.2.2.2.1; have := HSZ.out.2; have := HI.out.2.1; have := HLT.out; omega)]
                exact hv
            · rw [Array.getElem?_setIfInBounds, if_neg (by have := HI.out.2.1; omega)]
              exact HI.out.2.2.2.2.2.1 x (by omega) hxn
          case measure => have := HLT.out; simp [intOf]; omega
      · have hkn : (n : Int) ≤ (j : Int) := by omega
        have hje : j = n := by omega
        rw [hje, List.take_of_length_le (by rw [HUL.out]; omega)] at HI
        have HK := Lib.hid HI.out.1
        have hkl := HI.out.2.1
        have s1 : (k : Int) ≤ (n : Int) := by omega
        have s2 : (0 : Int) ≤ (k : Int) := by omega
        have s3 : (k : Int) ≤ (cap : Int) := by omega
        have s4 : ¬ cap = k := by have := HSZ.out.2; omega
        have s5 : k ≤ n := by omega
        have s6 : n ≤ cap := HSZ.out.2
        have hcl : ∀ ty, (Builtin.clear_ #[40] ty #[.slice (some ⟨g, k, none⟩) (n - k) (cap - k)]).run Try.prog wr = .ok (.tuple #[]) (wr.setCells g k (List.replicate (n - k) (.slice none 0 0))) :=
          fun ty => Lib.run_clear_slice wr 40 33 ty (.slice none 0 0) Try.underlying40 zero33 rfl rfl g k (n - k) (cap - k) (by omega) (fun x hx => by
            rw [HI.out.2.2.1.cell, Array.getElem?_eq_getElem (by have := HI.out.2.2.2.1; have := HSZ.out.2; omega)]
            rfl) (fun x _ => HI.out.2.2.1.frozen _)
        clear hje hkl
        go_wp2_with fail
        go_ret
        rw [← HK.out]
        refine ⟨rfl, ⟨HK.out.symm, fun _ => ⟨g, 0, rfl, rfl, fun i u hu => ?_⟩⟩, Keep.setCells (S := (· = g)) g rfl _ _ HI.out.2.2.2.2.2.2⟩
        have hi : i < k := by rw [HK.out]; exact (List.getElem?_eq_some_iff.1 hu).1
        rw [Nat.zero_add, World.cell?_setCells_out g _ k wr ⟨g, i, none⟩ (fun _ _ => .inl hi), HI.out.2.2.1.cell]
        exact HI.out.2.2.2.2.1 i u hu
end Go.Proofs.Ytegecjilpmkamaa

namespace Go.Proofs.Ytegecjilpmkamaa
open Go.RowKit Sb

theorem neq_nil (w : World) (a : Option Addr) (n c : Nat) : (binOp .neq 33 (.slice a n c) (.slice none 0 0)).run Try.prog w = .ok (.bool (!a.isNone)) w := by
  simp only [binOp]
  simp [Op.equal, Op.maxDepth, Lib.run_equalIn_slice_nil (P := Try.prog) w 9999 33 5 a n c 0 0 Try.underlying33]

/-- The places of the first k that are there, of the first so many. -/
def pk (us : List Value) (k : Nat) : Nat → List Nat
  | 0 => []
  | j + 1 => if isnil (us.getD j undef) = false ∧ (pk us k j).length < k then pk us k j ++ [j] else pk us k j

theorem pk_lt (us : List Value) (k j : Nat) : ∀ x ∈ pk us k j, x < j ∧ isnil (us.getD x undef) = false := by
  induction j with
  | zero => intro x hx; cases hx
  | succ j ih =>
    intro x hx
    rw [pk] at hx
    split at hx
    · rename_i h
      rcases List.mem_append.1 hx with hx | hx
      · exact ⟨by have := (ih x hx).1; omega, (ih x hx).2⟩
      · rw [List.mem_singleton] at hx
        subst hx
        exact ⟨by omega, h.1⟩
    · exact ⟨by have := (ih x hx).1; omega, (ih x hx).2⟩

theorem pk_nodup (us : List Value) (k j : Nat) : (pk us k j).Nodup := by
  induction j with
  | zero => exact List.nodup_nil
  | succ j ih =>
    rw [pk]
    split
    · rw [List.nodup_append]
      refine ⟨ih, by simp, fun a ha b hb e => ?_⟩
      rw [List.mem_singleton] at hb
      have := (pk_lt us k j a ha).1
      omega
    · exact ih

theorem pk_le (us : List Value) (k j : Nat) : (pk us k j).length ≤ k ∧ (pk us k j).length ≤ j := by
  induction j with
  | zero => exact ⟨Nat.zero_le _, Nat.le_refl _⟩
  | succ j ih =>
    rw [pk]
    split
    · rename_i h
      rw [List.length_append]
      exact ⟨by have := h.2; simp; omega, by simp; omega⟩
    · exact ⟨ih.1, by omega⟩

/-- How many are told: all that are there, but k at most. -/
theorem pk_len (us : List Value) (k : Nat) : ∀ j, j ≤ us.length → (pk us k j).length = min k (there_ (us.take j)).length := by
  intro j
  induction j with
  | zero => intro _; simp [pk, there_]
  | succ j ih =>
    intro hj
    have hu : us[j]? = some (us.getD j undef) := by
      rw [List.getD_eq_getElem?_getD, List.getElem?_eq_getElem (by omega), Option.getD_some]
    have ih := ih (by omega)
    rw [there_step hu, pk]
    cases hn : isnil (us.getD j undef) with
    | true => simp [ih]
    | false =>
      by_cases hl : (pk us k j).length < k
      · rw [if_pos ⟨rfl, hl⟩]
        simp
        omega
      · rw [if_neg (fun h => hl h.2)]
        simp
        omega

theorem gi_gr_ne {P : Nat → Prop} {N M : Nat} {w : World} {v v2 : Value} {l : List Int} {m : List (List UInt8)} (h : Gi N w v l) (h2 : Gr P M w v2 m) : ∀ b, v.ownBlock = some b → v2.ownBlock ≠ some b := by
  intro b hb hb2
  obtain ⟨us, h3, _⟩ := h2
  rcases h.2 with ⟨e1, _⟩ | ⟨g, cap, cur, rfl, _, g2, _⟩
  · rw [e1] at hb
    simp [Value.ownBlock] at hb
  · rcases h3.2 with ⟨e2, _⟩ | ⟨g', cap', cur', rfl, _, g2', _⟩
    · rw [e2] at hb2
      simp [Value.ownBlock] at hb2
    · have e3 : g = b := Option.some.inj hb
      have e4 : g' = b := Option.some.inj hb2
      have b1 : Blk w g 3 cur := g2
      have b2 : Blk w g' 33 cur' := g2'
      exact Blk.ne_ b1 b2 (by decide) (by omega)

set_option maxRecDepth 100000 in
set_option maxHeartbeats 8000000 in
theorem there_any {N cb fb k m cap : Nat} {ao : Option Addr} {us0 : List Value} (P : Nat → Prop) (a2 : Option Addr) (n c2 : Nat) (us : List Value) (l : List (List UInt8)) (w : World) (h : Cd N w cb fb k m ao cap us0) (h2 : Mv P w a2 n us l) (hn : n ≤ 1000) :
    Calls Try.prog 96 #[.pointer (some ⟨cb, 0, none⟩), .slice a2 n c2] w fun e w' => ∃ v1 v2, e = .returned (.tuple #[v1, v2]) ∧ Gi w.heap.size w' v1 ((pk us k n).map Int.ofNat) ∧ Gr (fun b => P b ∧ b < w.heap.size) w.heap.size w' v2 ((pk us k n).map (fun i => l.getD i [])) ∧ Keep (fun _ => False) w w' := by
  have HC := Lib.hid h
  have H2 : Hid (Mv (fun b => P b ∧ b < w.heap.size) w a2 n us l) := h2.mono (fun b hb hp => ⟨hp, hb⟩)
  have hnq := neq_nil
  have hkm := h.km
  have t1 : (n : Int) ≤ 1000 := by omega
  clear h h2
  go_enter Try.func96, Try.ntmps96
  go_wp2_with fail
  go_loopw [4, 5, 6, 7, 10] (fun v1 v2 _ _ i wr => ∃ j : Nat, j ≤ n ∧ i = .int .i64 (j : Int) ∧
      Hid (Gi w.heap.size wr v1 ((pk us k j).map Int.ofNat) ∧ Gr (fun b => P b ∧ b < w.heap.size) w.heap.size wr v2 ((pk us k j).map (fun i => l.getD i [])) ∧ Keep (fun _ => False) w wr)) (fun _ _ _ _ i _ => n - (intOf i).toNat)
  case atStart => exact ⟨0, Nat.zero_le _, rfl, Gi.nil _ _, Gr.nil _ _ _, Keep.refl _ _⟩
  case round =>
    obtain ⟨j, hj, rfl, HI⟩ := hrel
    obtain ⟨wo, rfl⟩ : ∃ wo : World, wo = wr := ⟨_, rfl⟩
    obtain ⟨v1, rfl⟩ : ∃ v1 : Value, v1 = u4 := ⟨_, rfl⟩
    obtain ⟨v2, rfl⟩ : ∃ v2 : Value, v2 = u5 := ⟨_, rfl⟩
    by_cases hlt : j < n
    · have j0 : (0 : Int) ≤ (j : Int) := by omega
      have jn : (j : Int) < (n : Int) := by omega
      have HLT := Lib.hid hlt
      obtain ⟨b, o, ao', n', cap', r, rfl, hP, hu, hr, hcr, hq1, hq2, hrb⟩ := (H2.out.keep HI.out.2.2 (fun _ _ _ => id)).at_ hlt
      have HU : Hid (us.getD j undef = .slice ao' n' cap') := by
        show us.getD j undef = _
        rw [List.getD_eq_getElem?_getD, hu, Option.getD_some]
      have HRJ : Hid (l.getD j [] = r) := by
        show l.getD j [] = r
        rw [List.getD_eq_getElem?_getD, hr, Option.getD_some]
      have hck := (HC.out.k HI.out.2.2).blk.cell 1
      obtain ⟨ai, ci, hvi, _⟩ := HI.out.1.nn
      have HLI : Hid (((pk us k j).map Int.ofNat).length = (pk us k j).length) := List.length_map _
      rw [HLI.out] at hvi
      obtain ⟨L, hL⟩ : ∃ L, L = (pk us k j).length := ⟨_, rfl⟩
      rw [← hL] at hvi
      have HL := Lib.hid hL
      have hLk : L ≤ k := by rw [hL]; exact (pk_le us k j).1
      have hLb : (L : Int) ≤ 255 := by omega
      have HBS : Hid (Bs (fun b => (P b ∧ b < w.heap.size) ∧ v2.ownBlock ≠ some b) wo (.slice ao' n' cap') r) := by
        obtain ⟨us', q1, _⟩ := HI.out.2.1
        exact ⟨ao', n', cap', rfl, hq1, hq2, hrb.mono (fun b _ hb => ⟨hb, fun e => by have := (q1.lt _ e).1; have := hb.2; omega⟩)⟩
      have hG1 := HI.out.1
      subst hvi
      have HG1 := Lib.hid hG1
      clear hlt hu hr hP hq1 hq2 hrb hL hG1
      cases ao' with
      | none =>
        have e1 : Hid (pk us k (j + 1) = pk us k j) := by
          show pk us k (j + 1) = pk us k j
          rw [pk, if_neg (fun h => by rw [HU.out] at h; exact absurd h.1 (by simp [isnil]))]
        go_wp2_with fail
        go_roundw
        case rel => exact ⟨j + 1, by have := HLT.out; omega, by go_num, by rw [e1.out]; exact HG1.out, by rw [e1.out]; exact HI.out.2.1, HI.out.2.2⟩
        case measure => have := HLT.out; simp [intOf]; omega
      | some a' =>
        by_cases hfull : L < k
        · have f1 : (L : Int) < (k : Int) := by omega
          have e1 : Hid (pk us k (j + 1) = pk us k j ++ [j]) := by
            show pk us k (j + 1) = pk us k j ++ [j]
            rw [pk, if_pos ⟨by rw [HU.out]; rfl, by rw [← HL.out]; exact hfull⟩]
          clear hfull
          go_wp2_with (first
            | (at_builtin; refine wpl_appi1 wo rfl (.tmp 26) (.tmp 28) rfl w.heap.size (.slice ai L ci) ((pk us k j).map Int.ofNat) (j : Int) wo.heap.size rfl rfl rfl HG1.out (by rw [HLI.out, ← HL.out]; omega) HI.out.2.2.size ?_; intro v3 w3 hgi hkp3; have hgr3 := HI.out.2.1.keep hkp3 (fun b hb e => gi_gr_ne HG1.out HI.out.2.1 b e hb) (fun b _ hb _ e => by have h9 := (HG1.out.lt e).1; have h8 : P b ∧ b < w.heap.size := hb; omega); have hbs3 : Bs (fun b => (P b ∧ b < w.heap.size) ∧ v2.ownBlock ≠ some b) w3 (.slice (some a') n' cap') r := HBS.out.keep hkp3 (fun b _ hb e => by have h9 := (HG1.out.lt e).1; have h8 := hb.1.2; omega); have hsz3 := hkp3.size)
            | (at_builtin; refine wpl_grow1 w3 rfl (.tmp 30) (.tmp 32) 40 Try.underlying40 rfl (fun b => P b ∧ b < w.heap.size) w.heap.size v2 (.slice (some a') n' cap') ((pk us k j).map (fun i => l.getD i [])) r w3.heap.size rfl rfl rfl hgr3 hbs3 (by rw [List.length_map, ← HL.out]; omega) (Nat.le_trans HI.out.2.2.size hsz3) ?_; intro v4 w4 hgr hkp4))
          have HGI : Hid (Gi w.heap.size w4 v3 ((pk us k (j + 1)).map Int.ofNat)) := by
            rw [e1.out, List.map_append]
            exact hgi.keep hkp4 (fun b hb e => gi_gr_ne hgi hgr3 b hb e)
          have HGR : Hid (Gr (fun b => P b ∧ b < w.heap.size) w.heap.size w4 v4 ((pk us k (j + 1)).map (fun i => l.getD i []))) := by
            rw [e1.out, List.map_append, List.map_cons, List.map_nil, HRJ.out]
            exact hgr
          have HK4 : Hid (Keep (fun _ => False) w w4) := by
            obtain ⟨us', q1, _⟩ := hgr3
            exact (HI.out.2.2.trans' hkp3 (fun i hi e => by have := (HG1.out.lt e).1; omega)).trans' hkp4 (fun i hi e => by have := (q1.lt _ e).1; omega)
          clear hgi hgr hgr3 hbs3 hsz3 hkp3 hkp4 hck hcr
          go_wp2_with fail
          go_roundw
          case rel => exact ⟨j + 1, by have := HLT.out; omega, by go_num, HGI.out, HGR.out, HK4.out⟩
          case measure => have := HLT.out; simp [intOf]; omega
        · have f1 : (k : Int) ≤ (L : Int) := by omega
          have e1 : Hid (pk us k (j + 1) = pk us k j) := by
            show pk us k (j + 1) = pk us k j
            rw [pk, if_neg (fun h => hfull (by rw [HL.out]; exact h.2))]
          clear hfull
          go_wp2_with fail
          go_roundw
          case rel => exact ⟨j + 1, by have := HLT.out; omega, by go_num, by rw [e1.out]; exact HG1.out, by rw [e1.out]; exact HI.out.2.1, HI.out.2.2⟩
          case measure => have := HLT.out; simp [intOf]; omega
    · have hkn : (n : Int) ≤ (j : Int) := by omega
      have hje : j = n := by omega
      rw [hje] at HI
      clear hje
      go_wp2_with fail
      go_ret2
      exact ⟨_, _, rfl, HI.out.1, HI.out.2.1, HI.out.2.2⟩
end Go.Proofs.Ytegecjilpmkamaa

namespace Go.Proofs.Ytegecjilpmkamaa
open Go.RowKit Sb

/-- The rows that are there. -/
def thereL (us : List Value) (l : List (List UInt8)) : List (List UInt8) := ((us.zip l).filter (fun p => !isnil p.1)).map Prod.snd

theorem there_zip : ∀ (us : List Value) (l : List (List UInt8)), l.length = us.length → there_ us = ((us.zip l).filter (fun p => !isnil p.1)).map Prod.fst := by
  intro us
  induction us with
  | nil => intro l _; rfl
  | cons u us ih =>
    intro l hl
    cases l with
    | nil => simp at hl
    | cons r l =>
      have h := ih l (by simpa using hl)
      rw [there_] at h ⊢
      rw [List.zip_cons_cons, List.filter_cons, List.filter_cons]
      cases hu : isnil u <;> simp [h]

theorem there_pair {us : List Value} {l : List (List UInt8)} (hl : l.length = us.length) {i : Nat} {u : Value} {r : List UInt8} (hu : (there_ us)[i]? = some u) (hr : (thereL us l)[i]? = some r) : ∃ j : Nat, us[j]? = some u ∧ l[j]? = some r ∧ isnil u = false := by
  rw [there_zip us l hl, List.getElem?_map] at hu
  rw [thereL, List.getElem?_map] at hr
  cases hp : ((us.zip l).filter (fun p => !isnil p.1))[i]? with
  | none => rw [hp] at hu; cases hu
  | some p =>
    rw [hp] at hu hr
    have h1 : p.1 = u := by simpa using hu
    have h2 : p.2 = r := by simpa using hr
    have hm := List.mem_of_getElem? hp
    rw [List.mem_filter] at hm
    obtain ⟨j, hj, e⟩ := List.getElem_of_mem hm.1
    rw [List.length_zip] at hj
    rw [List.getElem_zip] at e
    refine ⟨j, ?_, ?_, ?_⟩
    · rw [List.getElem?_eq_getElem (by omega), ← h1, ← e]
    · rw [List.getElem?_eq_getElem (by omega), ← h2, ← e]
    · rw [← h1]
      simpa using hm.2

theorem thereL_len {us : List Value} {l : List (List UInt8)} (hl : l.length = us.length) : (thereL us l).length = (there_ us).length := by
  rw [there_zip us l hl, thereL, List.length_map, List.length_map]

set_option maxRecDepth 100000 in
set_option maxHeartbeats 2000000 in
theorem delete_none (w : World) : Calls Try.prog 92 #[.slice none 0 0, .func (.func 94) #[] #[]] w fun e w' => e = .returned (.slice none 0 0) ∧ w = w' := by
  go_enter Try.func92, Try.ntmps92
  go_wp2_with fail
  refine (idx_94 (fun _ => True) none 0 0 [] [] (fun _ => false) w (Mv.nil w none) (by omega) (fun i u h => by simp at h)).mono ?_
  rintro e w' ⟨rfl, rfl⟩
  rw [show fidx (fun _ => false) 0 0 = -1 from rfl]
  go_wp2_with fail
  go_ret
  exact ⟨rfl, rfl⟩

theorem del_any (P : Nat → Prop) (N : Nat) (v : Value) (n : Nat) (us : List Value) (l : List (List UInt8)) (w : World) (hown : w.ownsRow N 33 1 v n us) (hrows : ∀ (i : Nat) (u : Value) (r : List UInt8), us[i]? = some u → l[i]? = some r → Bs P w u r) (hl : l.length = n) (hPN : ∀ b, P b → b < N) (hn : n ≤ 100000) :
    Calls Try.prog 92 #[v, .func (.func 94) #[] #[]] w fun e w' => ∃ ao' c', e = .returned (.slice ao' (there_ us).length c') ∧ Mv (fun b => P b ∨ N ≤ b) w' ao' (there_ us).length (there_ us) (thereL us l) ∧ Keep (fun b => v.ownBlock = some b) w w' := by
  have hul : us.length = n := by have := hown.1; omega
  rcases hown.2 with ⟨rfl, h0⟩ | ⟨g, cap, cur, rfl, hg, hb, hc1, hc2, hsz, htk⟩
  · subst h0
    have hu : us = [] := List.length_eq_zero_iff.1 hul
    have hll : l = [] := List.length_eq_zero_iff.1 hl
    subst hu hll
    refine (delete_none w).mono ?_
    rintro e w' ⟨rfl, rfl⟩
    exact ⟨none, 0, rfl, Mv.nil _ _, Keep.refl _ _⟩
  · have hblk : Blk w g 33 cur := hb
    rw [Nat.mul_one] at htk
    have hmv : Mv (fun b => P b ∨ N ≤ b) w (some ⟨g, 0, none⟩) n us l := by
      refine ⟨?_, hl, fun i u r hu hr => (hrows i u r hu hr).mono (fun b _ hb => .inl hb)⟩
      have h9 := Rv.blk hblk (P := fun b => P b ∨ N ≤ b) (.inr hg) (n := n) (by omega)
      rw [htk] at h9
      exact h9
    refine (delete_92 _ g n cap cur us l w hmv hblk (by omega) hc1 htk hn).mono ?_
    rintro e w' ⟨rfl, hrv, hk⟩
    refine ⟨_, cap, rfl, ⟨hrv.mono (fun b _ hb => .inr (by have h9 : b = g := hb; omega)), thereL_len (by omega), fun i u r hu hr => ?_⟩, hk.mono (fun b _ hb => by have h9 : b = g := hb; rw [h9]; rfl)⟩
    obtain ⟨j, h1, h2, _⟩ := there_pair (by omega) hu hr
    exact ((hrows j u r h1 h2).keep hk (fun b _ hp e => by have := hPN b hp; have h9 : b = g := e; omega)).mono (fun b _ hb => .inl hb)
end Go.Proofs.Ytegecjilpmkamaa

namespace Go.Proofs.Ytegecjilpmkamaa
open Go.RowKit Sb

theorem own_rows {P : Nat → Prop} {w w' : World} {ao : Option Addr} {n : Nat} {us : List Value} {l : List (List UInt8)} (h : Mv P w ao n us l) (hk : Keep (fun _ => False) w w') : ∀ (i : Nat) (u : Value) (r : List UInt8), us[i]? = some u → l[i]? = some r → Bs P w' u r :=
  fun i u r hu hr => (h.2.2 i u r hu hr).keep hk (fun _ _ _ => id)

set_option maxRecDepth 100000 in
set_option maxHeartbeats 4000000 in
theorem decode_nil (a : Option Addr) (ao : Option Addr) (n cap : Nat) (w : World) (h : Calls Try.prog 91 #[.pointer a] w fun e w' => e = .returned (.bool true) ∧ w = w') :
    Calls Try.prog 64 #[.pointer a, .slice ao n cap] w fun e w' => e = .returned (.tuple #[.slice none 0 0, .int .i64 1]) ∧ w = w' := by
  have H := Lib.hid h
  clear h
  go_enter Try.func64, Try.ntmps64
  go_wp2_with fail
  refine H.out.mono ?_
  rintro e w' ⟨rfl, rfl⟩
  go_wp2_with fail
  go_ret2
  exact ⟨rfl, rfl⟩

theorem even_is (P : Nat → Prop) (ao : Option Addr) (n cap : Nat) (us : List Value) (l : List (List UInt8)) (w : World) (b : Bool) (hr : Mv P w ao n us l) (hn : n ≤ 9223372036854775807) (hb : evenB us l = b) :
    Calls Try.prog 95 #[.slice ao n cap] w fun e w' => e = .returned (.bool b) ∧ Keep (fun _ => False) w w' :=
  (even_any P ao n cap us l w hr hn).mono fun _ _ ⟨he, hk⟩ => ⟨by rw [he, hb], hk⟩

set_option maxRecDepth 100000 in
set_option maxHeartbeats 8000000 in
theorem decode_len {N cb fb k m cap : Nat} {ao : Option Addr} {us0 : List Value} (P : Nat → Prop) (a2 : Option Addr) (n c2 : Nat) (us : List Value) (l : List (List UInt8)) (w : World) (h : Cd N w cb fb k m ao cap us0) (h2 : Mv P w a2 n us l) (hn : n ≤ 1000) (hno : n ≠ k + m) :
    Calls Try.prog 64 #[.pointer (some ⟨cb, 0, none⟩), .slice a2 n c2] w fun e w' => e = .returned (.tuple #[.slice none 0 0, .int .i64 2]) ∧ Keep (fun _ => False) w w' := by
  have HC := Lib.hid h
  have H2 : Hid (Mv (fun b => P b ∧ b < w.heap.size) w a2 n us l) := h2.mono (fun b hb hp => ⟨hp, hb⟩)
  have hk1 := h.k1
  have hkm := h.km
  have hnt := hnot
  have t1 : (n : Int) ≤ 1000 := by omega
  have t2 : (k : Int) ≤ 255 := by omega
  have t3 : (m : Int) ≤ 255 := by omega
  have pw : IntKind.i64.wrap ((k : Int) + (m : Int)) = (k : Int) + (m : Int) := IntWalk.i64_in _ (by omega)
  have hq : ((n : Int) != (k : Int) + (m : Int)) = true := by rw [bne_iff_ne]; omega
  clear h h2 hno
  go_enter Try.func64, Try.ntmps64
  go_wp2_with fail
  refine (none_no w HC.out).mono ?_
  rintro e w' ⟨rfl, rfl⟩
  go_wp2_with fail
  refine (clone_93 _ a2 n c2 us l w H2.out (by omega)).mono ?_
  rintro e w1 ⟨v1, rfl, hown, hk⟩
  have HK1 := Lib.hid hk
  have HOWN := Lib.hid hown
  clear hk hown
  go_wp2_with fail
  refine (del_any (fun b => P b ∧ b < w.heap.size) w.heap.size v1 n us l w1 HOWN.out (own_rows H2.out HK1.out) H2.out.len (fun b hb => hb.2) (by omega)).mono ?_
  rintro e w2 ⟨ah, ch, rfl, hmv, hk⟩
  have HH := Lib.hid hmv
  have HK2 : Hid (Keep (fun _ => False) w w2) := HK1.out.trans' hk (fun i hi e => by have := (HOWN.out.lt i e).1; omega)
  have HC2 := Lib.hid (HC.out.k HK2.out)
  have hc0 := HC2.out.blk.cell 0
  have hc1 := HC2.out.blk.cell 1
  have hc2 := HC2.out.blk.cell 2
  have hc3 := HC2.out.blk.cell 3
  have L0 := Lib.hid HC2.out.blk.lt
  obtain ⟨r, hr⟩ : ∃ r, r = (there_ us).length := ⟨_, rfl⟩
  rw [← hr] at HH ⊢
  have HR := Lib.hid hr
  have hr1 : r ≤ 1000 := by
    have h9 : (there_ us).length ≤ us.length := List.length_filter_le _ _
    have := H2.out.lenu
    omega
  have hr2 : (r : Int) ≤ 1000 := by omega
  clear hk hmv hr
  go_wp2_with fail
  clear hc0 hc3
  first | (go_region_with (fail)) | fail "no"
  all_goals
    have HK3 := Lib.hid HK2.out.drew
    clear hc1 hc2
    go_wp2_with fail
    go_ret2
    exact ⟨rfl, HK3.out⟩

set_option maxRecDepth 100000 in
set_option maxHeartbeats 8000000 in
theorem decode_odd {N cb fb k m cap : Nat} {ao : Option Addr} {us0 : List Value} (P : Nat → Prop) (a2 : Option Addr) (n c2 : Nat) (us : List Value) (l : List (List UInt8)) (w : World) (h : Cd N w cb fb k m ao cap us0) (h2 : Mv P w a2 n us l) (hn : n ≤ 1000) (hnk : n = k + m) (he : evenB (there_ us) (thereL us l) = false) :
    Calls Try.prog 64 #[.pointer (some ⟨cb, 0, none⟩), .slice a2 n c2] w fun e w' => e = .returned (.tuple #[.slice none 0 0, .int .i64 2]) ∧ Keep (fun _ => False) w w' := by
  have HC := Lib.hid h
  have H2 : Hid (Mv (fun b => P b ∧ b < w.heap.size) w a2 n us l) := h2.mono (fun b hb hp => ⟨hp, hb⟩)
  have hk1 := h.k1
  have hkm := h.km
  have hnt := hnot
  have t1 : (n : Int) ≤ 1000 := by omega
  have t2 : (k : Int) ≤ 255 := by omega
  have t3 : (m : Int) ≤ 255 := by omega
  have pw : IntKind.i64.wrap ((k : Int) + (m : Int)) = (k : Int) + (m : Int) := IntWalk.i64_in _ (by omega)
  have hq : ((n : Int) != (k : Int) + (m : Int)) = false := by rw [bne_eq_false_iff_eq]; omega
  have HNK : Hid (n = k + m) := hnk
  have HE := Lib.hid he
  clear h h2 hnk he
  go_enter Try.func64, Try.ntmps64
  go_wp2_with fail
  refine (none_no w HC.out).mono ?_
  rintro e w' ⟨rfl, rfl⟩
  go_wp2_with fail
  refine (clone_93 _ a2 n c2 us l w H2.out (by omega)).mono ?_
  rintro e w1 ⟨v1, rfl, hown, hk⟩
  have HK1 := Lib.hid hk
  have HOWN := Lib.hid hown
  clear hk hown
  go_wp2_with fail
  refine (del_any (fun b => P b ∧ b < w.heap.size) w.heap.size v1 n us l w1 HOWN.out (own_rows H2.out HK1.out) H2.out.len (fun b hb => hb.2) (by omega)).mono ?_
  rintro e w2 ⟨ah, ch, rfl, hmv, hk⟩
  have HH := Lib.hid hmv
  have HK2 : Hid (Keep (fun _ => False) w w2) := HK1.out.trans' hk (fun i hi e => by have := (HOWN.out.lt i e).1; omega)
  have HC2 := Lib.hid (HC.out.k HK2.out)
  have hc0 := HC2.out.blk.cell 0
  have hc1 := HC2.out.blk.cell 1
  have hc2 := HC2.out.blk.cell 2
  have hc3 := HC2.out.blk.cell 3
  have L0 := Lib.hid HC2.out.blk.lt
  obtain ⟨r, hr⟩ : ∃ r, r = (there_ us).length := ⟨_, rfl⟩
  rw [← hr] at HH ⊢
  have HR := Lib.hid hr
  have hr1 : r ≤ 1000 := by
    have h9 : (there_ us).length ≤ us.length := List.length_filter_le _ _
    have := H2.out.lenu
    omega
  have hr2 : (r : Int) ≤ 1000 := by omega
  clear hk hmv hr
  go_wp2_with fail
  clear hc0 hc3
  go_region_held3 (fun w' => w'.cell? ⟨cb, 1, none⟩ = some (.int .i64 (k : Int)) ∧ w'.cell? ⟨cb, 2, none⟩ = some (.int .i64 (m : Int))) (first | exact ⟨by assumption, by assumption⟩ | go_keep) (first | (go_at_call 95; refine (even_is (fun b => (P b ∧ b < w.heap.size) ∨ w.heap.size ≤ b) ah r ch (there_ us) (thereL us l) _ false ?_ ?_ ?_).mono ?_; (exact HH.out); (omega); (exact HE.out); rintro e w3 ⟨rfl, hk⟩; have m1 := (hk.cell (p := ⟨cb, 1, none⟩) L0.out id).trans hc1; have m2 := (hk.cell (p := ⟨cb, 2, none⟩) L0.out id).trans hc2))
  all_goals
    have HK3 : Hid (Keep (fun _ => False) w w3) := HK2.out.trans ⟨hk.os, hk.tape, hk.output, hk.size, hk.block⟩
    clear hk hc1 hc2 m2
    clear m1
    go_wp2_with fail
    go_ret2
    exact ⟨rfl, HK3.out⟩

set_option maxRecDepth 100000 in
set_option maxHeartbeats 8000000 in
theorem decode_few {N cb fb k m cap : Nat} {ao : Option Addr} {us0 : List Value} (P : Nat → Prop) (a2 : Option Addr) (n c2 : Nat) (us : List Value) (l : List (List UInt8)) (w : World) (h : Cd N w cb fb k m ao cap us0) (h2 : Mv P w a2 n us l) (hn : n ≤ 1000) (hnk : n = k + m) (he : evenB (there_ us) (thereL us l) = true) (hfew : (there_ us).length < k) :
    Calls Try.prog 64 #[.pointer (some ⟨cb, 0, none⟩), .slice a2 n c2] w fun e w' => e = .returned (.tuple #[.slice none 0 0, .int .i64 19]) ∧ Keep (fun _ => False) w w' := by
  have HC := Lib.hid h
  have H2 : Hid (Mv (fun b => P b ∧ b < w.heap.size) w a2 n us l) := h2.mono (fun b hb hp => ⟨hp, hb⟩)
  have hk1 := h.k1
  have hkm := h.km
  have hnt := hnot
  have t1 : (n : Int) ≤ 1000 := by omega
  have t2 : (k : Int) ≤ 255 := by omega
  have t3 : (m : Int) ≤ 255 := by omega
  have pw : IntKind.i64.wrap ((k : Int) + (m : Int)) = (k : Int) + (m : Int) := IntWalk.i64_in _ (by omega)
  have hq : ((n : Int) != (k : Int) + (m : Int)) = false := by rw [bne_eq_false_iff_eq]; omega
  have HNK : Hid (n = k + m) := hnk
  have HE := Lib.hid he
  have hf : ((there_ us).length : Int) < (k : Int) := by omega
  clear h h2 hnk he hfew
  go_enter Try.func64, Try.ntmps64
  go_wp2_with fail
  refine (none_no w HC.out).mono ?_
  rintro e w' ⟨rfl, rfl⟩
  go_wp2_with fail
  refine (clone_93 _ a2 n c2 us l w H2.out (by omega)).mono ?_
  rintro e w1 ⟨v1, rfl, hown, hk⟩
  have HK1 := Lib.hid hk
  have HOWN := Lib.hid hown
  clear hk hown
  go_wp2_with fail
  refine (del_any (fun b => P b ∧ b < w.heap.size) w.heap.size v1 n us l w1 HOWN.out (own_rows H2.out HK1.out) H2.out.len (fun b hb => hb.2) (by omega)).mono ?_
  rintro e w2 ⟨ah, ch, rfl, hmv, hk⟩
  have HH := Lib.hid hmv
  have HK2 : Hid (Keep (fun _ => False) w w2) := HK1.out.trans' hk (fun i hi e => by have := (HOWN.out.lt i e).1; omega)
  have HC2 := Lib.hid (HC.out.k HK2.out)
  have hc0 := HC2.out.blk.cell 0
  have hc1 := HC2.out.blk.cell 1
  have hc2 := HC2.out.blk.cell 2
  have hc3 := HC2.out.blk.cell 3
  have L0 := Lib.hid HC2.out.blk.lt
  obtain ⟨r, hr⟩ : ∃ r, r = (there_ us).length := ⟨_, rfl⟩
  rw [← hr] at HH ⊢
  rw [← hr] at hf
  have HR := Lib.hid hr
  have hr1 : r ≤ 1000 := by
    have h9 : (there_ us).length ≤ us.length := List.length_filter_le _ _
    have := H2.out.lenu
    omega
  have hr2 : (r : Int) ≤ 1000 := by omega
  clear hk hmv hr
  go_wp2_with fail
  clear hc0 hc3
  go_region_held3 (fun w' => w'.cell? ⟨cb, 1, none⟩ = some (.int .i64 (k : Int)) ∧ w'.cell? ⟨cb, 2, none⟩ = some (.int .i64 (m : Int))) (first | exact ⟨by assumption, by assumption⟩ | go_keep) (first | (go_at_call 95; refine (even_is (fun b => (P b ∧ b < w.heap.size) ∨ w.heap.size ≤ b) ah r ch (there_ us) (thereL us l) _ true ?_ ?_ ?_).mono ?_; (exact HH.out); (omega); (exact HE.out); rintro e w3 ⟨rfl, hk⟩; have m1 := (hk.cell (p := ⟨cb, 1, none⟩) L0.out id).trans hc1; have m2 := (hk.cell (p := ⟨cb, 2, none⟩) L0.out id).trans hc2))
  all_goals
    have HK3 : Hid (Keep (fun _ => False) w w3) := HK2.out.trans ⟨hk.os, hk.tape, hk.output, hk.size, hk.block⟩
    clear hk hc1 hc2 m2
    go_wp2_with fail
    go_ret2
    exact ⟨rfl, HK3.out⟩
end Go.Proofs.Ytegecjilpmkamaa

namespace Go.Proofs.Ytegecjilpmkamaa
open Go.RowKit Sb

theorem there_mem {us : List Value} {l : List (List UInt8)} {i : Nat} (hi : i < us.length) (hl : us.length = l.length) (hn : isnil (us.getD i undef) = false) : l.getD i [] ∈ thereL us l := by
  rw [thereL]
  refine List.mem_map.2 ⟨(us.getD i undef, l.getD i []), List.mem_filter.2 ⟨?_, by simpa using hn⟩, rfl⟩
  have h1 : i < (us.zip l).length := by rw [List.length_zip]; omega
  have h2 := List.getElem_mem h1
  rw [List.getElem_zip] at h2
  have e1 : us.getD i undef = us[i] := by rw [List.getD_eq_getElem?_getD, List.getElem?_eq_getElem hi, Option.getD_some]
  have e2 : l.getD i [] = l[i]'(by omega) := by rw [List.getD_eq_getElem?_getD, List.getElem?_eq_getElem (by omega), Option.getD_some]
  rw [e1, e2]
  exact h2

set_option maxRecDepth 100000 in
set_option maxHeartbeats 8000000 in
theorem decode_yes {N cb fb k m cap : Nat} {ao : Option Addr} {us0 : List Value} (P : Nat → Prop) (a2 : Option Addr) (n c2 : Nat) (us : List Value) (l : List (List UInt8)) (w : World) (h : Cd N w cb fb k m ao cap us0) (h2 : Mv P w a2 n us l) (hn : n ≤ 1000) (hnk : n = k + m) (he : evenB (there_ us) (thereL us l) = true) (hfew : k ≤ (there_ us).length) (hL : mcols (thereL us l) ≤ 140737488355328) (hP : ∀ x, P x → x ≠ fb) :
    Calls Try.prog 64 #[.pointer (some ⟨cb, 0, none⟩), .slice a2 n c2] w fun e w' => Fq fb w w' ∧ ∃ v D, e = .returned (.tuple #[v, .int .i64 0]) ∧ Gr (fun b => w.heap.size ≤ b) w.heap.size w' v D ∧ (((pk us k n).getD (k - 1) 0 = k - 1 ∧ D = (pk us k n).map (fun i => l.getD i [])) ∨ ∃ X, Eqm k k (mulE k X (ent (sel (oneM k ++ cauM m k) ((pk us k n).map Int.ofNat)))) idE ∧ D = mulM (mk k k X) ((pk us k n).map (fun i => l.getD i []))) := by
  have HC := Lib.hid h
  have H2 : Hid (Mv (fun b => P b ∧ b < w.heap.size) w a2 n us l) := h2.mono (fun b hb hp => ⟨hp, hb⟩)
  have hk1 := h.k1
  have hkm := h.km
  have hnt := hnot
  have t1 : (n : Int) ≤ 1000 := by omega
  have t2 : (k : Int) ≤ 255 := by omega
  have t3 : (m : Int) ≤ 255 := by omega
  have pw : IntKind.i64.wrap ((k : Int) + (m : Int)) = (k : Int) + (m : Int) := IntWalk.i64_in _ (by omega)
  have hq : ((n : Int) != (k : Int) + (m : Int)) = false := by rw [bne_eq_false_iff_eq]; omega
  have HNK : Hid (n = k + m) := hnk
  have HE := Lib.hid he
  have hf : (k : Int) ≤ ((there_ us).length : Int) := by omega
  have HFW : Hid (k ≤ (there_ us).length) := hfew
  have HLM : Hid (mcols (thereL us l) ≤ 140737488355328) := hL
  have HPF : Hid (∀ x, P x → x ≠ fb) := hP
  clear h h2 hnk he hfew hL hP
  go_enter Try.func64, Try.ntmps64
  go_wp2_with fail
  refine (none_no w HC.out).mono ?_
  rintro e w' ⟨rfl, rfl⟩
  go_wp2_with fail
  refine (clone_93 _ a2 n c2 us l w H2.out (by omega)).mono ?_
  rintro e w1 ⟨v1, rfl, hown, hk⟩
  have HK1 := Lib.hid hk
  have HOWN := Lib.hid hown
  clear hk hown
  go_wp2_with fail
  refine (del_any (fun b => P b ∧ b < w.heap.size) w.heap.size v1 n us l w1 HOWN.out (own_rows H2.out HK1.out) H2.out.len (fun b hb => hb.2) (by omega)).mono ?_
  rintro e w2 ⟨ah, ch, rfl, hmv, hk⟩
  have HH := Lib.hid hmv
  have HK2 : Hid (Keep (fun _ => False) w w2) := HK1.out.trans' hk (fun i hi e => by have := (HOWN.out.lt i e).1; omega)
  have HC2 := Lib.hid (HC.out.k HK2.out)
  have hc0 := HC2.out.blk.cell 0
  have hc1 := HC2.out.blk.cell 1
  have hc2 := HC2.out.blk.cell 2
  have hc3 := HC2.out.blk.cell 3
  have L0 := Lib.hid HC2.out.blk.lt
  obtain ⟨r, hr⟩ : ∃ r, r = (there_ us).length := ⟨_, rfl⟩
  rw [← hr] at HH ⊢
  rw [← hr] at hf
  rw [← hr] at HFW
  have HR := Lib.hid hr
  have hr1 : r ≤ 1000 := by
    have h9 : (there_ us).length ≤ us.length := List.length_filter_le _ _
    have := H2.out.lenu
    omega
  have hr2 : (r : Int) ≤ 1000 := by omega
  clear hk hmv hr
  go_wp2_with fail
  clear hc0 hc3
  go_region_held3 (fun w' => w'.cell? ⟨cb, 1, none⟩ = some (.int .i64 (k : Int)) ∧ w'.cell? ⟨cb, 2, none⟩ = some (.int .i64 (m : Int))) (first | exact ⟨by assumption, by assumption⟩ | go_keep) (first | (go_at_call 95; refine (even_is (fun b => (P b ∧ b < w.heap.size) ∨ w.heap.size ≤ b) ah r ch (there_ us) (thereL us l) _ true ?_ ?_ ?_).mono ?_; (exact HH.out); (omega); (exact HE.out); rintro e w3 ⟨rfl, hk⟩; have m1 := (hk.cell (p := ⟨cb, 1, none⟩) L0.out id).trans hc1; have m2 := (hk.cell (p := ⟨cb, 2, none⟩) L0.out id).trans hc2))
  all_goals
    have HK3 : Hid (Keep (fun _ => False) w w3) := HK2.out.trans ⟨hk.os, hk.tape, hk.output, hk.size, hk.block⟩
    clear hk hc1 hc2 m2
    go_wp2_with fail
    clear m1
    have HC3 := Lib.hid (HC.out.k HK3.out)
    refine (there_any _ a2 n c2 us l w3 HC3.out (H2.out.keep HK3.out (fun _ _ _ => id)) hn).mono ?_
    rintro e w4 ⟨v4, v5, rfl, hgi, hgr, hk⟩
    have HK4 := Lib.hid (HK3.out.trans hk)
    have HC4 := Lib.hid (HC3.out.k hk)
    have HPK : Hid ((pk us k n).length = k) := by
      have h9 := pk_len us k n (by rw [H2.out.lenu]; exact Nat.le_refl _)
      rw [List.take_of_length_le (by rw [H2.out.lenu]; exact Nat.le_refl _)] at h9
      have := HFW.out
      have := HR.out
      show (pk us k n).length = k
      omega
    obtain ⟨ai, ci, rfl, hnn⟩ := hgi.nn
    obtain ⟨as_, cs_, rfl, hcs1, hcs2⟩ := hgr.len
    obtain ⟨ss, hss⟩ := hgr.mv
    rw [List.length_map, HPK.out] at hnn hss hcs1 ⊢
    rw [List.length_map, HPK.out]
    obtain ⟨k1, hk1'⟩ : ∃ k1, k1 + 1 = k := ⟨k - 1, by omega⟩
    obtain ⟨ab, ob, z, rfl, _, hz, hcz⟩ := hnn.at_ (k := k1) (by omega)
    obtain ⟨x, hx⟩ : ∃ x, (pk us k n)[k1]? = some x := ⟨(pk us k n)[k1]'(by rw [HPK.out]; omega), List.getElem?_eq_getElem _⟩
    have hzx : z = (x : Int) := by
      rw [List.getElem?_map, hx] at hz
      exact (Option.some.inj hz).symm
    subst hzx
    have HX : Hid ((pk us k n).getD (k - 1) 0 = x) := by
      show (pk us k n).getD (k - 1) 0 = x
      rw [List.getD_eq_getElem?_getD, show k - 1 = k1 by omega, hx, Option.getD_some]
    have pk1 : IntKind.i64.wrap ((k : Int) - 1) = (k1 : Int) := by
      rw [IntWalk.i64_in _ (by omega)]
      omega
    have b0 : (0 : Int) ≤ (k1 : Int) := by omega
    have b1 : (k1 : Int) < (k : Int) := by omega
    have b2 : k1 < k := by omega
    have HKK : Hid (k1 + 1 = k) := hk1'
    have HNN := Lib.hid hnn
    have HSL : Hid (((pk us k n).map (fun i => l.getD i [])).length = k) := by
      show _ = k
      rw [List.length_map]
      exact HPK.out
    have HSR : Hid (∀ r ∈ (pk us k n).map (fun i => l.getD i []), r.length = mcols (thereL us l)) := by
      intro r hr
      obtain ⟨i, hi, rfl⟩ := List.mem_map.1 hr
      have h9 := pk_lt us k n i hi
      have h8 := HE.out
      rw [evenB, Bool.and_eq_true, List.all_eq_true, List.all_eq_true] at h8
      refine of_decide_eq_true (h8.2 _ (there_mem (i := i) (by rw [H2.out.lenu]; exact h9.1) (by rw [H2.out.lenu, H2.out.len]) h9.2))
    have HSS : Hid (Mv (fun b => b ≠ fb) w4 as_ k ss ((pk us k n).map (fun i => l.getD i []))) := hss.mono (fun b _ hb => by
      rcases hb with hb | hb
      · exact HPF.out b hb.1.1
      · have h9 := HC.out.field.lt
        have h8 := HK3.out.size
        omega)
    have hc1 := HC4.out.blk.cell 1
    have hc0 := HC4.out.blk.cell 0
    have hc3 := HC4.out.blk.cell 3
    clear hgi hgr hk hnn hss hz hx hk1' hcs1 hcs2
    by_cases hxk : x = k1
    · have he1 : ((x : Int) == (k1 : Int)) = true := by rw [beq_iff_eq]; omega
      have HXK : Hid (x = k1) := hxk
      clear hxk
      go_wp2_with fail
      go_quiet (fail)
      have HK5 := Lib.hid (HK4.out.drewN nq)
      have HS5 := Lib.hid (HSS.out.drewN nq)
      have HC5 : Hid (Cd N (w4.drewN nq) cb fb k m ao cap us0) := HC4.out.k ((Keep.refl (fun _ => False) w4).drewN nq)
      clear hc0 hc1 hc3 hcz
      go_wp2_with fail
      refine (clone_97 _ as_ k cs_ (mcols (thereL us l)) ss _ _ HS5.out (by omega) HLM.out HSR.out).mono ?_
      rintro e w6 ⟨g, G, rfl, hfl, hk⟩
      have HG6 : Hid (Gr (fun b => w.heap.size ≤ b) w.heap.size w6 (.slice (some ⟨g, 0, none⟩) k k) ((pk us k n).map (fun i => l.getD i []))) := by
        have h9 := (hfl.old HK5.out.size).gr' (by omega) (by have := HLM.out; unfold maxLen; omega)
        rw [ent_all HSL.out HSR.out] at h9
        exact h9
      have HK6 := Lib.hid (HK5.out.trans hk)
      have HC6 := Lib.hid (HC5.out.k hk)
      clear hfl hk
      go_wp2_with fail
      go_ret2
      exact ⟨⟨HC6.out.field, fun h => h.keep HK6.out id, HK6.out.mono (fun _ _ h => h.elim)⟩, _, _, rfl, HG6.out, .inl ⟨by rw [HX.out, HXK.out]; have := HKK.out; omega, rfl⟩⟩
    · have he1 : ((x : Int) == (k1 : Int)) = false := by rw [beq_eq_false_iff_ne]; omega
      clear hxk
      go_wp2_with fail
      go_quiet (fail)
      have HK5 := Lib.hid (HK4.out.drewN nq)
      have HS5 := Lib.hid (HSS.out.drewN nq)
      have HN5 : Hid (Nn (fun b => w3.heap.size ≤ b) (w4.drewN nq) (some ⟨ab, ob, none⟩) k ((pk us k n).map Int.ofNat)) := HNN.out
      have HC5 : Hid (Cd N (w4.drewN nq) cb fb k m ao cap us0) := HC4.out.k ((Keep.refl (fun _ => False) w4).drewN nq)
      clear hcz hc0
      go_wp2_with fail
      clear hc1 hc3
      have HNM : Hid (named (k + m) ((pk us k n).map Int.ofNat) = true) := by
        show named (k + m) ((pk us k n).map Int.ofNat) = true
        rw [named, List.all_eq_true]
        intro z hz
        obtain ⟨i, hi, rfl⟩ := List.mem_map.1 hz
        have h9 := (pk_lt us k n i hi).1
        have h8 := HNK.out
        simp
        omega
      refine (rows_any _ _ ao _ (k + m) cap k ci us0 (oneM k ++ cauM m k) ((pk us k n).map Int.ofNat) _ HC5.out.all HN5.out (all_right hk1 hkm) hk1 (by omega)).mono ?_
      rintro e w6 ⟨hk, hcase⟩
      have HK6 := Lib.hid (HK5.out.trans hk)
      have HC6 := Lib.hid (HC5.out.k hk)
      have HS6 := Lib.hid (HS5.out.keep hk (fun _ _ _ => id))
      rcases hcase with ⟨hno, _⟩ | ⟨_, g6, G6, rfl, hfl⟩
      · rw [HNM.out] at hno
        cases hno
      rw [all_cols hk1] at hfl
      obtain ⟨ms, hms⟩ := hfl.mv (by omega) (by omega)
      have HM6 : Hid (Mv (fun b => w4.heap.size ≤ b) w6 (some ⟨g6, 0, none⟩) k ms (mk k k (ent (sel (oneM k ++ cauM m k) ((pk us k n).map Int.ofNat))))) := hms
      have HFB : Hid (fb < w4.heap.size) := HC4.out.field.lt
      have hc0 := HC6.out.blk.cell 0
      clear hk hfl hms
      go_wp2_with fail
      clear hc0
      have HSE : Hid (Eqm k k (ent (mk k k (ent (sel (oneM k ++ cauM m k) ((pk us k n).map Int.ofNat))))) (ent (sel (oneM k ++ cauM m k) ((pk us k n).map Int.ofNat)))) := mk_ent k k _
      refine (back_yes fb (fun b => w4.heap.size ≤ b) _ k k ms _ w6 HC6.out.field HM6.out (mk_right _ hk1 (by omega) hk1 (by omega)) (mk_cols _ _ hk1)).mono ?_
      rintro e w7 ⟨hq, hcase⟩
      have HQ7 := Lib.hid hq
      have HK7 : Hid (Keep (fun _ => False) w6 w6) := Keep.refl _ _
      have HC7 := Lib.hid (HC6.out.q hq)
      have HS7 := Lib.hid (HS6.out.keep hq.keep (fun b _ (hb : b ≠ fb) e => hb e))
      clear hq
      rcases hcase with ⟨_, hrk⟩ | ⟨g7, X, rfl, hg7, hom, _, hx2⟩
      · rw [mrank_congr HSE.out, picked_rank HPK.out (pk_nodup us k n) (fun x hx => by have := (pk_lt us k n x hx).1; have := HNK.out; omega) (by omega)] at hrk
        exact absurd hrk (Nat.lt_irrefl _)
      obtain ⟨xs, hxs⟩ := hom.ms hg7
      have HX7 : Hid (Mv (fun b => w6.heap.size ≤ b) w7 (some ⟨g7, 0, none⟩) k xs (mk k k X)) := hxs
      have HXE : Hid (Eqm k k (mulE k X (ent (sel (oneM k ++ cauM m k) ((pk us k n).map Int.ofNat)))) idE) := ((Eqm.refl k k X).mul HSE.out.symm).trans hx2
      have hc0 := HC7.out.blk.cell 0
      have HF6 : Hid (fb < w6.heap.size) := HC6.out.field.lt
      clear hom hxs hx2 hg7
      go_wp2_with fail
      clear hc0
      have HAP : Hid (mapp (mk k k X) ((pk us k n).map (fun i => l.getD i [])) = true) := by
        have hcs : mcols ((pk us k n).map (fun i => l.getD i [])) = mcols (thereL us l) := by
          have h9 : 0 < ((pk us k n).map (fun i => l.getD i [])).length := by rw [HSL.out]; omega
          rw [mcols_at (List.getElem?_eq_getElem h9)]
          exact HSR.out _ (List.getElem_mem h9)
        show mapp _ _ = true
        rw [mapp, mk_right X hk1 (by omega) hk1 (by omega), mk_cols _ _ hk1, HSL.out, decide_eq_true rfl, Bool.true_and, Bool.true_and, List.all_eq_true, hcs]
        exact fun r hr => decide_eq_true (HSR.out r hr)
      have HLM2 : Hid (mcols ((pk us k n).map (fun i => l.getD i [])) ≤ 140737488355328) := by
        have h9 : 0 < ((pk us k n).map (fun i => l.getD i [])).length := by rw [HSL.out]; omega
        show mcols _ ≤ _
        rw [mcols_at (List.getElem?_eq_getElem h9), HSR.out _ (List.getElem_mem h9)]
        exact HLM.out
      refine (apply_yes fb (fun b => w6.heap.size ≤ b) (fun b => b ≠ fb) _ _ k k k cs_ xs ss (mk k k X) _ w7 HC7.out.field (fun x (hx : w6.heap.size ≤ x) e => by have := HF6.out; omega) (fun _ h => h) HX7.out HS7.out HAP.out HLM2.out).mono ?_
      rintro e w8 ⟨v8, rfl, hgr, hq⟩
      have HSZ : Hid (w.heap.size ≤ w7.heap.size) := Nat.le_trans HK6.out.size HQ7.out.keep.size
      have HG8 : Hid (Gr (fun b => w.heap.size ≤ b) w.heap.size w8 v8 (mulM (mk k k X) ((pk us k n).map (fun i => l.getD i [])))) := (hgr.old HSZ.out).mono (fun b _ (hb : w7.heap.size ≤ b) => Nat.le_trans HSZ.out hb)
      have HQ8 : Hid (Fq fb w w8) := Fq.trans (w' := w6) ⟨HC6.out.field, fun h => h.keep HK6.out id, HK6.out.mono (fun _ _ h => h.elim)⟩ (HQ7.out.trans hq)
      clear hgr hq
      go_wp2_with fail
      go_ret2
      exact ⟨HQ8.out, _, _, rfl, HG8.out, .inr ⟨X, HXE.out, rfl⟩⟩
end Go.Proofs.Ytegecjilpmkamaa

namespace Go.Proofs.Ytegecjilpmkamaa
open Sb

theorem pk_up (us : List Value) (k j : Nat) : (pk us k j).Pairwise (· < ·) := by
  induction j with
  | zero => exact List.Pairwise.nil
  | succ j ih =>
    rw [pk]
    split
    · rw [List.pairwise_append]
      refine ⟨ih, List.pairwise_singleton _ _, fun a ha b hb => ?_⟩
      rw [List.mem_singleton] at hb
      rw [hb]
      exact (pk_lt us k j a ha).1
    · exact ih

theorem up_ge {l : List Nat} (h : l.Pairwise (· < ·)) : ∀ i (hi : i < l.length), i ≤ l[i] := by
  rw [List.pairwise_iff_getElem] at h
  intro i
  induction i with
  | zero => intro _; exact Nat.zero_le _
  | succ i ih =>
    intro hi
    have h1 := ih (by omega)
    have h2 := h i (i + 1) (by omega) hi (by omega)
    omega

theorem up_gap {l : List Nat} (h : l.Pairwise (· < ·)) : ∀ d i (hi : i + d < l.length), l[i]'(by omega) + d ≤ l[i + d] := by
  rw [List.pairwise_iff_getElem] at h
  intro d
  induction d with
  | zero => intro i hi; exact Nat.le_refl _
  | succ d ih =>
    intro i hi
    have h1 := ih i (by omega)
    have h2 := h (i + d) (i + (d + 1)) (by omega) hi (by omega)
    omega

/-- Where the last of the places is k - 1, they are the first k. -/
theorem up_range {l : List Nat} {k : Nat} (h : l.Pairwise (· < ·)) (hl : l.length = k) (hk : 1 ≤ k) (hlast : l.getD (k - 1) 0 = k - 1) : l = List.range k := by
  apply List.ext_getElem
  · rw [hl, List.length_range]
  · intro i h1 h2
    rw [List.getElem_range]
    have h3 := up_ge h i h1
    have h4 := up_gap h (k - 1 - i) i (by omega)
    have h6 : l.getD (i + (k - 1 - i)) 0 = k - 1 := by
      rw [show i + (k - 1 - i) = k - 1 by omega]
      exact hlast
    have h5 : l[i + (k - 1 - i)]'(by omega) = k - 1 := by
      rw [List.getD_eq_getElem?_getD, List.getElem?_eq_getElem (by omega), Option.getD_some] at h6
      exact h6
    omega

/-- A shard of those that Encode makes, by its numbers. -/
theorem enc_row {k m L x : Nat} {data : List (List UInt8)} (hd : data.length = k) (hL : ∀ r ∈ data, r.length = L) (hk : 1 ≤ k) (hx : x < k + m) : (encM k m data).getD x [] = rowOf L (fun c => xsum k (fun q => gmul (pickE k x q) (ent data q c))) := by
  have hmc : mcols data = L := by
    have h9 : 0 < data.length := by omega
    rw [mcols_at (List.getElem?_eq_getElem h9)]
    exact hL _ (List.getElem_mem h9)
  rw [List.getD_eq_getElem?_getD, encM, List.getElem?_append]
  by_cases h : x < k
  · have hx' : x < data.length := by omega
    rw [if_pos hx', List.getElem?_eq_getElem hx', Option.getD_some]
    have h1 : rowOf L (ent data x) = data[x] := ent_row (List.getElem?_eq_getElem hx') (hL _ (List.getElem_mem hx'))
    rw [← h1]
    refine rowOf_congr (fun c _ => ?_)
    have h2 := mulE_id (n := k) (ent data) c h
    rw [← h2, mulE]
    exact xsum_congr (fun q _ => by rw [pickE, if_pos h])
  · rw [if_neg (by omega), hd, mulM, cauM, List.length_map, List.length_range, List.getElem?_map, List.getElem?_range (by omega), Option.map_some, Option.getD_some, hmc]
    refine rowOf_congr (fun c _ => ?_)
    rw [mulE, hd]
    refine xsum_congr (fun q hq => ?_)
    have e : ent ((List.range m).map (cauRow k)) (x - k) q = ginv (UInt8.ofNat (x - k + k) ^^^ UInt8.ofNat q) := mk_ent m k (fun i j => ginv (UInt8.ofNat (i + k) ^^^ UInt8.ofNat j)) (x - k) q (by omega) hq
    rw [e, pickE, if_neg h, Nat.sub_add_cancel (by omega)]

theorem dec_data {k m n L : Nat} {us : List Value} {l data D : List (List UInt8)} (hn : n = k + m) (hk : 1 ≤ k) (hp : (pk us k n).length = k) (hd : data.length = k) (hL : ∀ r ∈ data, r.length = L) (hrow : ∀ i ∈ pk us k n, l.getD i [] = (encM k m data).getD i [])
    (hc : ((pk us k n).getD (k - 1) 0 = k - 1 ∧ D = (pk us k n).map (fun i => l.getD i [])) ∨ ∃ X, Eqm k k (mulE k X (ent (sel (oneM k ++ cauM m k) ((pk us k n).map Int.ofNat)))) idE ∧ D = mulM (mk k k X) ((pk us k n).map (fun i => l.getD i []))) : D = data := by
  have hrows : (pk us k n).map (fun i => l.getD i []) = (pk us k n).map (fun x => rowOf L (fun c => xsum k (fun q => gmul (pickE k x q) (ent data q c)))) := by
    apply List.map_congr_left
    intro x hx
    rw [hrow x hx, enc_row hd hL hk (by have := (pk_lt us k n x hx).1; omega)]
  have hdm : data = mk k L (ent data) := mk_of hd hL
  rw [hrows] at hc
  rcases hc with ⟨hlast, rfl⟩ | ⟨X, hX, rfl⟩
  · rw [up_range (pk_up us k n) hp hk hlast]
    conv => rhs; rw [hdm]
    refine mk_congr (fun i c hi _ => ?_)
    have h2 := mulE_id (n := k) (ent data) c hi
    rw [← h2, mulE]
    exact xsum_congr (fun q _ => by rw [pickE, if_pos hi])
  · have hs : (pk us k n).map (fun x => rowOf L (fun c => xsum k (fun q => gmul (pickE k x q) (ent data q c)))) = mk k L (mulE k (ent (sel (oneM k ++ cauM m k) ((pk us k n).map Int.ofNat))) (ent data)) := by
      apply List.ext_getElem?
      intro i
      by_cases hi : i < k
      · rw [mk_get _ _ hi, List.getElem?_map, List.getElem?_eq_getElem (by omega), Option.map_some]
        congr 1
        refine rowOf_congr (fun c _ => ?_)
        rw [mulE]
        refine xsum_congr (fun q hq => ?_)
        rw [picked (r := m) (fun x hx => by have := (pk_lt us k n x hx).1; omega) (by omega) hq]
        have : (pk us k n).getD i 0 = (pk us k n)[i] := by rw [List.getD_eq_getElem?_getD, List.getElem?_eq_getElem (by omega), Option.getD_some]
        rw [this]
      · rw [List.getElem?_eq_none (by rw [List.length_map]; omega), List.getElem?_eq_none (by rw [mk_len]; omega)]
    rw [hs]
    conv => rhs; rw [hdm]
    have e1 : mulM (mk k k X) (mk k L (mulE k (ent (sel (oneM k ++ cauM m k) ((pk us k n).map Int.ofNat))) (ent data))) = mk k L (mulE k (ent (mk k k X)) (ent (mk k L (mulE k (ent (sel (oneM k ++ cauM m k) ((pk us k n).map Int.ofNat))) (ent data))))) := by
      rw [mulM, mk_len, mk_cols _ _ hk, mk_len]
      rfl
    rw [e1]
    refine mk_congr (fun i c hi hc => ?_)
    have h1 : Eqm k L (mulE k (ent (mk k k X)) (ent (mk k L (mulE k (ent (sel (oneM k ++ cauM m k) ((pk us k n).map Int.ofNat))) (ent data))))) (mulE k X (mulE k (ent (sel (oneM k ++ cauM m k) ((pk us k n).map Int.ofNat))) (ent data))) := Eqm.mul (mk_ent k k X) (mk_ent k L _)
    rw [h1 i c hi hc, ← mulE_assoc]
    exact ((hX.mul (Eqm.refl k L (ent data))).trans (Eqm.id_ k L (ent data))) i c hi hc
end Go.Proofs.Ytegecjilpmkamaa

namespace Go.Proofs.Ytegecjilpmkamaa
open Go.RowKit Sb

/-- Are shards all there? -/
def thereB (us : List Value) : Bool := us.all (fun u => !isnil u)

theorem there_not {P : Nat → Prop} {w : World} {ao : Option Addr} {n : Nat} {us : List Value} {l : List (List UInt8)} (hr : Mv P w ao n us l) : (List.range n).any (fun i => isnil (us.getD i undef)) = !thereB us := by
  rw [Bool.eq_iff_iff, List.any_eq_true, Bool.not_eq_true', ← Bool.not_eq_true, thereB, List.all_eq_true]
  constructor
  · rintro ⟨i, hi, h⟩ h1
    rw [List.mem_range] at hi
    have hi' : i < us.length := by rw [hr.lenu]; exact hi
    rw [List.getD_eq_getElem?_getD, List.getElem?_eq_getElem hi', Option.getD_some] at h
    have h3 := h1 _ (List.getElem_mem hi')
    rw [h] at h3
    cases h3
  · intro h
    apply Classical.byContradiction
    intro hno
    apply h
    intro u hu
    obtain ⟨i, hi, rfl⟩ := List.getElem_of_mem hu
    cases hn : isnil us[i] with
    | false => rfl
    | true =>
      refine absurd ⟨i, List.mem_range.2 (by rw [← hr.lenu]; exact hi), ?_⟩ hno
      rw [List.getD_eq_getElem?_getD, List.getElem?_eq_getElem hi, Option.getD_some, hn]

theorem contains_nil (P : Nat → Prop) (ao : Option Addr) (n cap : Nat) (us : List Value) (l : List (List UInt8)) (w : World) (x : Bool) (hr : Mv P w ao n us l) (hn : n ≤ 9223372036854775807) (hx : thereB us = !x) :
    Calls Try.prog 83 #[.slice ao n cap, .func (.func 98) #[] #[]] w fun e w' => e = .returned (.bool x) ∧ w' = w := by
  refine (any_98 P ao n cap us l (fun i => isnil (us.getD i undef)) w hr hn (fun i u hu => ?_)).mono ?_
  · have hi : i < n := by have := hr.lenu; have := (List.getElem?_eq_some_iff.1 hu).1; omega
    obtain ⟨_, _, ao', n', cap', _, _, _, hu', _⟩ := hr.at_ hi
    rw [hu] at hu'
    cases hu'
    rw [List.getD_eq_getElem?_getD, hu, Option.getD_some]
    exact closure98 ao' n' cap' w
  · rintro e w' ⟨rfl, rfl⟩
    exact ⟨by rw [there_not hr, hx, Bool.not_not], rfl⟩

set_option maxRecDepth 100000 in
set_option maxHeartbeats 4000000 in
theorem rsright_nil (a : Option Addr) (ao : Option Addr) (n cap : Nat) (W : World) (h : ∀ w, w.heap = W.heap → Calls Try.prog 91 #[.pointer a] w fun e w' => e = .returned (.bool true) ∧ w' = w) :
    Calls Try.prog 68 #[.pointer a, .slice ao n cap] W fun e w' => e = .returned (.bool false) ∧ Keep (fun _ => False) W w' := by
  have H := Lib.hid h
  clear h
  go_enter Try.func68, Try.ntmps68
  go_wp2_with fail
  go_quiet ((go_at_call 91; exact Calls.quiet_of_same (H.out _ rfl)))
  go_wp2_with fail
  go_ret
  exact ⟨rfl, (Keep.refl _ _).drewN _⟩

set_option maxRecDepth 100000 in
set_option maxHeartbeats 4000000 in
theorem rsright_len {N cb fb k m cap : Nat} {ao : Option Addr} {us0 : List Value} (a2 : Option Addr) (n c2 : Nat) (w : World) (h : Cd N w cb fb k m ao cap us0) (hno : n ≠ k + m) :
    Calls Try.prog 68 #[.pointer (some ⟨cb, 0, none⟩), .slice a2 n c2] w fun e w' => e = .returned (.bool false) ∧ Keep (fun _ => False) w w' := by
  have HC := Lib.hid h
  have hkm := h.km
  have hc1 := h.blk.cell 1
  have hc2 := h.blk.cell 2
  have pw : IntKind.i64.wrap ((k : Int) + (m : Int)) = (k : Int) + (m : Int) := IntWalk.i64_in _ (by omega)
  have hq : ((n : Int) != (k : Int) + (m : Int)) = true := by rw [bne_iff_ne]; omega
  clear h hno
  go_enter Try.func68, Try.ntmps68
  go_wp2_with fail
  go_quiet ((go_at_call 91; exact Calls.quiet_of_same ((none_no _ (HC.out.k ((Keep.refl (fun _ => False) w).drewN _))).mono fun _ _ ⟨h1, h2⟩ => ⟨h1, h2.symm⟩)))
  go_wp2_with fail
  go_ret
  exact ⟨rfl, (Keep.refl _ _).drewN _⟩

set_option maxRecDepth 100000 in
set_option maxHeartbeats 4000000 in
theorem rsright_hole {N cb fb k m cap : Nat} {ao : Option Addr} {us0 : List Value} (P : Nat → Prop) (a2 : Option Addr) (n c2 : Nat) (us : List Value) (l : List (List UInt8)) (w : World) (h : Cd N w cb fb k m ao cap us0) (h2 : Mv P w a2 n us l) (hn : n ≤ 1000) (hnk : n = k + m) (ht : thereB us = false) :
    Calls Try.prog 68 #[.pointer (some ⟨cb, 0, none⟩), .slice a2 n c2] w fun e w' => e = .returned (.bool false) ∧ Keep (fun _ => False) w w' := by
  have HC := Lib.hid h
  have H2 := Lib.hid h2
  have HT := Lib.hid ht
  have hkm := h.km
  have hc1 := h.blk.cell 1
  have hc2 := h.blk.cell 2
  have pw : IntKind.i64.wrap ((k : Int) + (m : Int)) = (k : Int) + (m : Int) := IntWalk.i64_in _ (by omega)
  have hq : ((n : Int) != (k : Int) + (m : Int)) = false := by rw [bne_eq_false_iff_eq]; omega
  have HN : Hid (n ≤ 9223372036854775807) := by show n ≤ 9223372036854775807; omega
  clear h h2 hnk ht
  go_enter Try.func68, Try.ntmps68
  go_wp2_with fail
  go_quiet ((first | (go_at_call 91; exact Calls.quiet_of_same ((none_no _ (HC.out.k ((Keep.refl (fun _ => False) w).drewN _))).mono fun _ _ ⟨h1, h2⟩ => ⟨h1, h2.symm⟩)) | (go_at_call 83; exact Calls.quiet_of_same (contains_nil P a2 n c2 us l _ true (H2.out.drewN _) HN.out HT.out))))
  go_wp2_with fail
  go_ret
  exact ⟨rfl, (Keep.refl _ _).drewN _⟩

set_option maxRecDepth 100000 in
set_option maxHeartbeats 8000000 in
theorem rsright_full {N cb fb k m cap : Nat} {ao : Option Addr} {us0 : List Value} (P : Nat → Prop) (a2 : Option Addr) (n c2 : Nat) (us : List Value) (l : List (List UInt8)) (w : World) (h : Cd N w cb fb k m ao cap us0) (h2 : Mv P w a2 n us l) (hP : ∀ x, P x → x ≠ fb) (hn : n ≤ 1000) (hnk : n = k + m) (ht : thereB us = true) (hc2' : n ≤ c2) (hL : mcols (l.take k) ≤ 140737488355328) :
    Calls Try.prog 68 #[.pointer (some ⟨cb, 0, none⟩), .slice a2 n c2] w fun e w' => e = .returned (.bool (evenB (us.take k) (l.take k) && (encM k m (l.take k) == l))) ∧ Fq fb w w' := by
  have HC := Lib.hid h
  have H2 := Lib.hid h2
  have HT := Lib.hid ht
  have HP := Lib.hid hP
  have HL := Lib.hid hL
  have hkm := h.km
  have hk1 := h.k1
  have hc1 := h.blk.cell 1
  have hc2 := h.blk.cell 2
  have pw : IntKind.i64.wrap ((k : Int) + (m : Int)) = (k : Int) + (m : Int) := IntWalk.i64_in _ (by omega)
  have hq : ((n : Int) != (k : Int) + (m : Int)) = false := by rw [bne_eq_false_iff_eq]; omega
  have HN : Hid (n ≤ 9223372036854775807) := by show n ≤ 9223372036854775807; omega
  have s1 : (k : Int) ≤ (c2 : Int) := by omega
  have s2 : k ≤ c2 := by omega
  have HTK : Hid (Mv P w a2 k (us.take k) (l.take k)) := h2.take (by omega)
  have HNK : Hid (n = k + m) := hnk
  clear h h2 ht hP hL hnk hc2'
  go_enter Try.func68, Try.ntmps68
  go_wp2_with fail
  go_quiet ((first | (go_at_call 91; exact Calls.quiet_of_same ((none_no _ (HC.out.k ((Keep.refl (fun _ => False) w).drewN _))).mono fun _ _ ⟨h1, h2⟩ => ⟨h1, h2.symm⟩)) | (go_at_call 83; exact Calls.quiet_of_same (contains_nil P a2 n c2 us l _ false (H2.out.drewN _) HN.out HT.out))))
  have HCQ : Hid (Cd N (w.drewN nq) cb fb k m ao cap us0) := HC.out.k ((Keep.refl (fun _ => False) w).drewN nq)
  have HTQ := Lib.hid (HTK.out.drewN nq)
  clear hc2
  go_wp2_with fail
  clear hc1
  cases he : evenB (us.take k) (l.take k) with
  | false =>
    have HE := Lib.hid he
    clear he
    refine (encode_no P a2 k _ _ _ _ HCQ.out HTQ.out (by omega) (.inr HE.out)).mono ?_
    rintro e w3 ⟨rfl, hk⟩
    have HQ : Hid (Fq fb w w3) := ⟨HC.out.field.keep (S := fun _ => False) ⟨hk.os, hk.tape, hk.output, hk.size, hk.block⟩ id, fun h => h.keep (S := fun _ => False) ⟨hk.os, hk.tape, hk.output, hk.size, hk.block⟩ id, Keep.mono (S := fun _ => False) ⟨hk.os, hk.tape, hk.output, hk.size, hk.block⟩ (fun _ _ h => h.elim)⟩
    clear hk
    go_wp2_with fail
    go_ret
    exact ⟨by rw [HE.out]; rfl, HQ.out⟩
  | true =>
    have HE := Lib.hid he
    clear he
    refine (encode_yes P a2 _ _ _ _ HCQ.out HTQ.out HP.out HE.out HL.out).mono ?_
    rintro e w3 ⟨v3, rfl, hgr, hq3⟩
    obtain ⟨ao3, cap3, rfl, _, _⟩ := hgr.len
    obtain ⟨gs, hgs⟩ := hgr.mv
    have HGS := Lib.hid hgs
    have HM3 : Hid (Mv P w3 a2 n us l) := (H2.out.drewN nq).keep hq3.keep (fun b _ hb e => HP.out b hb e)
    have HQ : Hid (Fq fb w w3) := ⟨hq3.at_, hq3.up, hq3.keep.os, hq3.keep.tape, hq3.keep.output, hq3.keep.size, hq3.keep.block⟩
    have HEL : Hid ((encM k m (l.take k)).length ≤ 9223372036854775807) := by
      show (encM k m (l.take k)).length ≤ 9223372036854775807
      have h9 := HTK.out.len
      simp [encM, mulM, cauM]
      omega
    clear hgr hgs hq3
    go_wp2_with fail
    refine (eqfunc_99 _ P ao3 a2 _ n cap3 c2 gs us _ l w3 HGS.out HM3.out HEL.out HN.out).mono ?_
    rintro e w4 ⟨rfl, rfl⟩
    go_wp2_with fail
    go_ret
    exact ⟨by rw [HE.out]; rfl, HQ.out⟩
end Go.Proofs.Ytegecjilpmkamaa

namespace Go.Proofs.Ytegecjilpmkamaa
open Go.RowKit Sb

theorem mv_two (w : World) (a b c d : Int) (xs ys : List UInt8) (hx : xs.map bv = [.int .u8 a, .int .u8 b]) (hy : ys.map bv = [.int .u8 c, .int .u8 d]) :
    Mv (fun b => w.heap.size ≤ b) (((w.alloc (.cells #[.int .u8 a, .int .u8 b] 5)).alloc (.cells #[.int .u8 c, .int .u8 d] 5)).alloc (.cells #[.slice (some ⟨w.heap.size, 0, none⟩) 2 2, .slice (some ⟨w.heap.size + 1, 0, none⟩) 2 2] 33)) (some ⟨w.heap.size + 2, 0, none⟩) 2 [.slice (some ⟨w.heap.size, 0, none⟩) 2 2, .slice (some ⟨w.heap.size + 1, 0, none⟩) 2 2] [xs, ys] := by
  have h1 := ((Blk.new w 5 #[.int .u8 a, .int .u8 b]).alloc (.cells #[.int .u8 c, .int .u8 d] 5)).alloc (.cells #[.slice (some ⟨w.heap.size, 0, none⟩) 2 2, .slice (some ⟨w.heap.size + 1, 0, none⟩) 2 2] 33)
  have h2 := (Blk.new (w.alloc (.cells #[.int .u8 a, .int .u8 b] 5)) 5 #[.int .u8 c, .int .u8 d]).alloc (.cells #[.slice (some ⟨w.heap.size, 0, none⟩) 2 2, .slice (some ⟨w.heap.size + 1, 0, none⟩) 2 2] 33)
  have h3 := Blk.new ((w.alloc (.cells #[.int .u8 a, .int .u8 b] 5)).alloc (.cells #[.int .u8 c, .int .u8 d] 5)) 33 #[.slice (some ⟨w.heap.size, 0, none⟩) 2 2, .slice (some ⟨w.heap.size + 1, 0, none⟩) 2 2]
  rw [show (w.alloc (.cells #[.int .u8 a, .int .u8 b] 5)).heap.size = w.heap.size + 1 by simp] at h2
  rw [show ((w.alloc (.cells #[.int .u8 a, .int .u8 b] 5)).alloc (.cells #[.int .u8 c, .int .u8 d] 5)).heap.size = w.heap.size + 2 by simp] at h3
  have hxl : xs.length = 2 := by have := congrArg List.length hx; simpa using this
  have hyl : ys.length = 2 := by have := congrArg List.length hy; simpa using this
  refine ⟨⟨rfl, fun _ => ⟨_, 0, rfl, by omega, fun i u hu => ?_⟩⟩, rfl, fun i u r hu hr => ?_⟩
  · rw [Nat.zero_add, h3.cell, List.getElem?_toArray]
    exact hu
  · rcases i with _ | _ | i
    · cases hu
      cases hr
      refine ⟨_, 2, 2, rfl, Nat.le_refl _, by unfold maxLen; omega, by simp [hxl], fun _ => ⟨_, 0, rfl, by omega, fun j v hv => ?_⟩⟩
      rw [Nat.zero_add, h1.cell, List.getElem?_toArray]
      rw [hx] at hv
      exact hv
    · cases hu
      cases hr
      refine ⟨_, 2, 2, rfl, Nat.le_refl _, by unfold maxLen; omega, by simp [hyl], fun _ => ⟨_, 0, rfl, by omega, fun j v hv => ?_⟩⟩
      rw [Nat.zero_add, h2.cell, List.getElem?_toArray]
      rw [hy] at hv
      exact hv
    · simp at hu

/-- The data of one(). -/
def oneD : List (List UInt8) := [[1, 2], [3, 4]]
theorem oneD_enc : (encM 2 2 oneD).length = 4 := rfl

theorem rsnew_22 (w : World) : Calls Try.prog 62 #[.int .i64 2, .int .i64 2] w fun e w' => ∃ cb fb ao cap us, e = .returned (.tuple #[.pointer (some ⟨cb, 0, none⟩), .int .i64 0]) ∧ Cd w.heap.size w' cb fb 2 2 ao cap us ∧ Keep (fun _ => False) w w' := rsnew_yes 2 2 w (by omega) (by omega)


theorem oneD_cols : mcols oneD ≤ 140737488355328 := by unfold oneD; simp [mcols]
theorem oneD_even (a b : Option Addr) (x y : Addr) (ha : a = some x) (hb : b = some y) : evenB [.slice a 2 2, .slice b 2 2] oneD = true := by subst ha hb; rfl

theorem encM_2 : (encM 2 2 oneD).getD 2 [] = [(encM 2 2 oneD).getD 2 [] |>.getD 0 0, (encM 2 2 oneD).getD 2 [] |>.getD 1 0] := by kernel_rfl
theorem encM_3 : (encM 2 2 oneD).getD 3 [] = [(encM 2 2 oneD).getD 3 [] |>.getD 0 0, (encM 2 2 oneD).getD 3 [] |>.getD 1 0] := by kernel_rfl

theorem dec_22 {N cb fb cap : Nat} {ao : Option Addr} {us0 : List Value} (P : Nat → Prop) (a2 : Option Addr) (c2 n2 n3 q2 q3 : Nat) (x y : Addr) (w : World) (h : Cd N w cb fb 2 2 ao cap us0) (hP : ∀ x, P x → x ≠ fb)
    (h4 : Mv P w a2 4 [.slice none 0 0, .slice none 0 0, .slice (some x) n2 q2, .slice (some y) n3 q3] [[], [], (encM 2 2 oneD).getD 2 [], (encM 2 2 oneD).getD 3 []]) :
    Calls Try.prog 64 #[.pointer (some ⟨cb, 0, none⟩), .slice a2 4 c2] w fun e w' => Fq fb w w' ∧ ∃ v, e = .returned (.tuple #[v, .int .i64 0]) ∧ Gr (fun b => w.heap.size ≤ b) w.heap.size w' v oneD := by
  have ht : there_ [.slice none 0 0, .slice none 0 0, .slice (some x) n2 q2, .slice (some y) n3 q3] = [.slice (some x) n2 q2, .slice (some y) n3 q3] := rfl
  have htl : thereL [.slice none 0 0, .slice none 0 0, .slice (some x) n2 q2, .slice (some y) n3 q3] [[], [], (encM 2 2 oneD).getD 2 [], (encM 2 2 oneD).getD 3 []] = [(encM 2 2 oneD).getD 2 [], (encM 2 2 oneD).getD 3 []] := rfl
  have hpk : pk [.slice none 0 0, .slice none 0 0, .slice (some x) n2 q2, .slice (some y) n3 q3] 2 4 = [2, 3] := rfl
  refine (decode_yes P a2 4 c2 _ _ w h h4 (by omega) (by omega) ?_ ?_ ?_ hP).mono ?_
  · rw [ht, htl, encM_2, encM_3]
    rfl
  · rw [ht]
    exact Nat.le_refl _
  · rw [htl, encM_2, encM_3]
    simp [mcols]
  · rintro e w' ⟨hq, v, D, rfl, hgr, hD⟩
    have e1 : D = oneD := dec_data (k := 2) (m := 2) (n := 4) (L := 2) (data := oneD) rfl (by omega) (by rw [hpk]; rfl) rfl (by unfold oneD; simp) (fun i hi => by
      rw [hpk] at hi
      rcases List.mem_cons.1 hi with rfl | hi
      · rfl
      · rcases List.mem_cons.1 hi with rfl | hi
        · rfl
        · cases hi) hD
    rw [e1] at hgr
    exact ⟨hq, v, rfl, hgr⟩

theorem mv_four {P : Nat → Prop} {w : World} {u2 u3 : Value} {r2 r3 : List UInt8} (h2 : Bs P w u2 r2) (h3 : Bs P w u3 r3) (hP : P w.heap.size) :
    Mv P (w.alloc (.cells #[.slice none 0 0, .slice none 0 0, u2, u3] 33)) (some ⟨w.heap.size, 0, none⟩) 4 [.slice none 0 0, .slice none 0 0, u2, u3] [[], [], r2, r3] := by
  have hb := Blk.new w 33 #[.slice none 0 0, .slice none 0 0, u2, u3]
  have hk : Keep (fun _ => False) w (w.alloc (.cells #[.slice none 0 0, .slice none 0 0, u2, u3] 33)) := (Keep.refl _ w).alloc _
  refine ⟨⟨rfl, fun _ => ⟨_, 0, rfl, hP, fun i u hu => ?_⟩⟩, rfl, fun i u r hu hr => ?_⟩
  · rw [Nat.zero_add, hb.cell, List.getElem?_toArray]
    exact hu
  · rcases i with _ | _ | _ | _ | i
    · cases hu
      cases hr
      exact ⟨none, 0, 0, rfl, Nat.le_refl _, by unfold maxLen; omega, Rv.nil _ _⟩
    · cases hu
      cases hr
      exact ⟨none, 0, 0, rfl, Nat.le_refl _, by unfold maxLen; omega, Rv.nil _ _⟩
    · cases hu
      cases hr
      exact h2.keep hk (fun _ _ _ => id)
    · cases hu
      cases hr
      exact h3.keep hk (fun _ _ _ => id)
    · simp at hu

theorem mv_there {P : Nat → Prop} {w : World} {ao : Option Addr} {n : Nat} {us : List Value} {m : List (List UInt8)} (h : Mv P w ao n us m) (hr : ∀ r ∈ m, 0 < r.length) : thereB us = true := by
  rw [thereB, List.all_eq_true]
  intro u hu
  obtain ⟨i, hi, rfl⟩ := List.getElem_of_mem hu
  have hin : i < n := by rw [← h.lenu]; exact hi
  obtain ⟨_, _, ao', n', cap', r, _, _, hu', hm, _, _, _, hb⟩ := h.at_ hin
  rw [List.getElem?_eq_getElem hi] at hu'
  rw [Option.some.inj hu']
  have h0 := hr r (List.mem_of_getElem? hm)
  rw [hb.len] at h0
  obtain ⟨_, _, _, rfl, _⟩ := hb.at_ h0
  rfl

theorem enc_take {k m : Nat} {l : List (List UInt8)} (h : l.length = k) : (encM k m l).take k = l := by
  rw [encM, List.take_left' h]

theorem there_take {us : List Value} (h : thereB us = true) (k : Nat) : (us.take k).all (fun u => !isnil u) = true := by
  rw [thereB, List.all_eq_true] at h
  rw [List.all_eq_true]
  exact fun u hu => h u (List.mem_of_mem_take hu)

theorem one6_rows : ∀ r ∈ encM 2 2 oneD, 0 < r.length := by
  intro r hr
  have h : (encM 2 2 oneD).all (fun r => decide (0 < r.length)) = true := by kernel_rfl
  exact of_decide_eq_true (List.all_eq_true.1 h r hr)

theorem right_22 {N cb fb cap : Nat} {ao : Option Addr} {us0 : List Value} (P : Nat → Prop) (a2 : Option Addr) (c2 : Nat) (us : List Value) (w : World) (h : Cd N w cb fb 2 2 ao cap us0) (h2 : Mv P w a2 4 us (encM 2 2 oneD)) (hP : ∀ x, P x → x ≠ fb) (hc2 : 4 ≤ c2) :
    Calls Try.prog 68 #[.pointer (some ⟨cb, 0, none⟩), .slice a2 4 c2] w fun e w' => e = .returned (.bool true) ∧ Fq fb w w' := by
  have e1 : (encM 2 2 oneD).take 2 = oneD := enc_take rfl
  have ht := mv_there h2 one6_rows
  refine (rsright_full P a2 4 c2 us (encM 2 2 oneD) w h h2 hP (by omega) rfl ht hc2 (by rw [e1]; exact oneD_cols)).mono ?_
  rintro e w' ⟨rfl, hq⟩
  refine ⟨?_, hq⟩
  rw [e1, evenB, there_take ht 2, Bool.true_and, beq_self_eq_true, Bool.and_true]
  rfl

set_option maxRecDepth 100000 in
set_option maxHeartbeats 8000000 in
theorem one6_any (w : World) : Calls Try.prog 63 #[] w fun e w' => e = .returned (.bool true) ∧ Keep (fun _ => False) w w' := by
  go_enter Try.func63, Try.ntmps63
  go_wp2_with fail
  refine (rsnew_22 w).mono ?_
  rintro e w1 ⟨cb, fb, ao, cap, us, rfl, hcd, hk⟩
  have HC1 := Lib.hid hcd
  have HK1 := Lib.hid hk
  clear hcd hk
  go_wp2_with fail
  have hmv := mv_two w1 1 2 3 4 [1, 2] [3, 4] rfl rfl
  have hka : Keep (fun _ => False) w1 (((w1.alloc (.cells #[.int .u8 1, .int .u8 2] 5)).alloc (.cells #[.int .u8 3, .int .u8 4] 5)).alloc (.cells #[.slice (some ⟨w1.heap.size, 0, none⟩) 2 2, .slice (some ⟨w1.heap.size + 1, 0, none⟩) 2 2] 33)) := (((Keep.refl _ w1).alloc _).alloc _).alloc _
  have HK2 := Lib.hid (HK1.out.trans hka)
  have HC2 := Lib.hid (HC1.out.k hka)
  have HSZ := Lib.hid hka.size
  have HFB : Hid (fb < w1.heap.size) := HC1.out.field.lt
  have HFN : Hid (w.heap.size ≤ fb) := HC1.out.oldf
  have HMV := Lib.hid hmv
  clear hmv hka
  refine (encode_yes (fun b => w1.heap.size ≤ b) _ _ _ oneD _ HC2.out HMV.out (fun x hx e => by have := HFB.out; omega) (oneD_even _ _ _ _ rfl rfl) oneD_cols).mono ?_
  rintro e w3 ⟨v3, rfl, hgr, hq⟩
  have HC3 := Lib.hid (HC2.out.q hq)
  have HK3 : Hid (Keep (fun _ => False) w w3) := HK2.out.trans' hq.keep (fun i hi e => by have := HFN.out; have e' : i = fb := e; omega)
  have HGF : Hid (∀ x, w1.heap.size ≤ x → x ≠ fb) := fun x hx e => by have := HFB.out; omega
  have HWS : Hid (w1.heap.size ≤ w3.heap.size) := Nat.le_trans HSZ.out hq.keep.size
  have hgr' := hgr.mono (Q := fun b => w1.heap.size ≤ b) (fun b _ hb => Nat.le_trans HSZ.out hb)
  obtain ⟨ao3, cap3, hv, hc3, _⟩ := hgr.len
  rw [oneD_enc] at hv hc3
  subst hv
  obtain ⟨us3, hm3⟩ := hgr'.mv
  have HM3 : Hid (Mv (fun b => w1.heap.size ≤ b) w3 ao3 4 us3 (encM 2 2 oneD)) := hm3.mono (fun b hb' hb => hb.elim id (fun h => Nat.le_trans HSZ.out h))
  clear hgr hgr' hq hm3 HMV HC1 HC2 HK2
  go_wp2_with fail
  obtain ⟨b, o, a2, n2, q2, r2, rfl, _, hu2, hr2, m2, _, _, hb2⟩ := HM3.out.at_ (k := 2) (by omega)
  obtain ⟨b', o', a3, n3, q3, r3, he', _, hu3, hr3, m3, _, _, hb3⟩ := HM3.out.at_ (k := 3) (by omega)
  cases he'
  have e2 : (encM 2 2 oneD).getD 2 [] = r2 := by rw [List.getD_eq_getElem?_getD, hr2]; rfl
  have e3 : (encM 2 2 oneD).getD 3 [] = r3 := by rw [List.getD_eq_getElem?_getD, hr3]; rfl
  have g2 : 0 < n2 := by rw [← hb2.len, ← e2, encM_2]; simp
  have g3 : 0 < n3 := by rw [← hb3.len, ← e3, encM_3]; simp
  obtain ⟨x2, y2, _, rfl, _⟩ := hb2.at_ g2
  obtain ⟨x3, y3, _, rfl, _⟩ := hb3.at_ g3
  have HB2 : Hid (Bs (fun b => w1.heap.size ≤ b) w3 (.slice (some ⟨x2, y2, none⟩) n2 q2) ((encM 2 2 oneD).getD 2 [])) := by
    rw [e2]
    exact HM3.out.2.2 2 _ _ hu2 hr2
  have HB3 : Hid (Bs (fun b => w1.heap.size ≤ b) w3 (.slice (some ⟨x3, y3, none⟩) n3 q3) ((encM 2 2 oneD).getD 3 [])) := by
    rw [e3]
    exact HM3.out.2.2 3 _ _ hu3 hr3
  have LB : Hid (b < w3.heap.size) := World.block_lt_of_cell? w3 _ m2
  have NB : Hid (b ≠ fb) := HGF.out b (by assumption)
  clear hu2 hr2 hb2 hu3 hr3 hb3 e2 e3 g2 g3
  go_region_held3 (fun w' => w'.cell? ⟨b, o + 2, none⟩ = some (.slice (some ⟨x2, y2, none⟩) n2 q2) ∧ w'.cell? ⟨b, o + 3, none⟩ = some (.slice (some ⟨x3, y3, none⟩) n3 q3)) (first | exact ⟨by assumption, by assumption⟩ | go_keep) (first | (go_at_call 64; refine (dec_22 (fun b => w1.heap.size ≤ b) _ _ n2 n3 q2 q3 _ _ _ (HC3.out.k ((Keep.refl (fun _ => False) w3).alloc _).drew) HGF.out (mv_four HB2.out HB3.out HWS.out)).mono ?_; rintro e w4 ⟨hq, v4, rfl, hgr⟩; have hkk : Keep (· = fb) w3 w4 := (((Keep.refl (· = fb) w3).alloc _).drew).trans hq.keep; have mm2 := (hkk.cell (p := ⟨b, o + 2, none⟩) LB.out NB.out).trans m2; have mm3 := (hkk.cell (p := ⟨b, o + 3, none⟩) LB.out NB.out).trans m3))
  all_goals
    have HQ3 : Hid (Keep (· = fb) w3 w4) := ⟨hkk.os, hkk.tape, hkk.output, hkk.size, hkk.block⟩
    have HK4 : Hid (Keep (fun _ => False) w w4) := HK3.out.trans' HQ3.out (fun i hi e => by have := HFN.out; omega)
    have HC4 : Hid (Cd w.heap.size w4 cb fb 2 2 ao cap us) := ⟨HC3.out.blk.keep HQ3.out HC3.out.ne, hq.at_, HC3.out.all.keep HQ3.out (fun _ _ hb => hb.1), HC3.out.le, HC3.out.ne, HC3.out.oldf, HC3.out.oldc, HC3.out.k1, HC3.out.km⟩
    have HM4 : Hid (Mv (fun b => w1.heap.size ≤ b) w4 (some ⟨b, o, none⟩) 4 us3 (encM 2 2 oneD)) := HM3.out.keep HQ3.out (fun x _ hx e => HGF.out x hx e)
    obtain ⟨ao4, cap4, hv4, _, _⟩ := hgr.len
    rw [show oneD.length = 2 from rfl] at hv4
    subst hv4
    obtain ⟨us4, hm4⟩ := hgr.mv
    have HD4 := Lib.hid hm4
    clear hgr hq hkk mm2 mm3 hm4 m2 m3
    have HC3C : Hid (4 ≤ cap3) := hc3
    go_wp2_with fail
    have hmv := mv_two w4 1 2 3 4 [1, 2] [3, 4] rfl rfl
    have hka : Keep (fun _ => False) w4 (((w4.alloc (.cells #[.int .u8 1, .int .u8 2] 5)).alloc (.cells #[.int .u8 3, .int .u8 4] 5)).alloc (.cells #[.slice (some ⟨w4.heap.size, 0, none⟩) 2 2, .slice (some ⟨w4.heap.size + 1, 0, none⟩) 2 2] 33)) := (((Keep.refl _ w4).alloc _).alloc _).alloc _
    have HKA := Lib.hid hka
    have HMV := Lib.hid hmv
    clear hka hmv
    refine (refsame_is _ _ ao4 _ 2 2 cap4 2 us4 _ oneD _ _ true (HD4.out.keep HKA.out (fun _ _ _ => id)) HMV.out (by omega) (by omega) rfl).mono ?_
    rintro e w5 ⟨rfl, hk5⟩
    have HK5 := Lib.hid (HKA.out.trans hk5)
    clear hk5
    go_wp2_with fail
    refine (right_22 (fun b => w1.heap.size ≤ b) _ cap3 us3 _ (HC4.out.k HK5.out) (HM4.out.keep HK5.out (fun _ _ _ => id)) HGF.out HC3C.out).mono ?_
    rintro e w6 ⟨rfl, hq6⟩
    have HK6 : Hid (Keep (fun _ => False) w w6) := (HK4.out.trans HK5.out).trans' hq6.keep (fun i hi e => by have := HFN.out; have e' : i = fb := e; omega)
    clear hq6
    go_wp2_with fail
    go_ret
    exact ⟨rfl, HK6.out⟩
end Go.Proofs.Ytegecjilpmkamaa
