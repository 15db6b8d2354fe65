/-
  The walk of mat's Apply, where it makes shards.
-/
import Derived.Test.YtegecjilpmkamaaApplyb
namespace Go.Proofs.Ytegecjilpmkamaa
open Go.RowKit Sb

theorem Gr.old {P : Nat → Prop} {N M : Nat} {w : World} {v : Value} {m : List (List UInt8)} (h : Gr P N w v m) (hM : M ≤ N) : Gr P M w v m := by
  obtain ⟨us, h1, h2⟩ := h
  refine ⟨us, ⟨h1.1, ?_⟩, h2⟩
  rcases h1.2 with h3 | ⟨g, cap, cur, rfl, h4, h5⟩
  · exact .inl h3
  · exact .inr ⟨g, cap, cur, rfl, Nat.le_trans hM h4, h5⟩

theorem rowOf_zero (n : Nat) : List.replicate n 0 = rowOf n (fun _ => 0) := by
  apply List.ext_getElem?
  intro i
  by_cases h : i < n
  · rw [rowOf_get _ h, List.getElem?_replicate, if_pos h]
  · rw [List.getElem?_eq_none (by simp; omega), List.getElem?_eq_none (by rw [rowOf_len]; omega)]

theorem nb_rb {P : Nat → Prop} {w w' : World} {v : Value} {ys : List UInt8} {n : Nat} (h : Nb w w' v ys) (hn : ys.length = n) (hP : ∀ b, w.heap.size ≤ b → P b) : ∃ g cap, v = .slice (some ⟨g, 0, none⟩) n cap ∧ n ≤ cap ∧ cap ≤ maxLen ∧ Rb P w' (some ⟨g, 0, none⟩) n ys := by
  subst hn
  have hb := h.bs
  obtain ⟨g, cap, cs, rfl, hg, h1, h2, _⟩ := h
  obtain ⟨ao, n', cap', e, h3, h4, h5⟩ := hb
  cases e
  exact ⟨g, cap, rfl, h1, h2, h5.mono (fun b _ hb => hP b hb)⟩

set_option maxRecDepth 100000 in
set_option maxHeartbeats 8000000 in
theorem apply_yes (fb : Nat) (P Q : Nat → Prop) (a1 a2 : Option Addr) (n1 n2 c1 c2 : Nat) (us vs : List Value) (m l : List (List UInt8)) (w : World) (hf : FieldAt w fb) (hP : ∀ x, P x → x ≠ fb) (hQ : ∀ x, Q x → x ≠ fb) (h1 : Mv P w a1 n1 us m) (h2 : Mv Q w a2 n2 vs l) (hfit : mapp m l = true) (hL : mcols l ≤ 140737488355328) :
    Calls Try.prog 55 #[.pointer (some ⟨fb, 0, none⟩), .slice a1 n1 c1, .slice a2 n2 c2] w fun e w' => ∃ v, e = .returned (.tuple #[v, .int .i64 0]) ∧ Gr (fun x => w.heap.size ≤ x) w.heap.size w' v (mulM m l) ∧ Fq fb w w' := by
  rw [mapp, Bool.and_eq_true, Bool.and_eq_true, decide_eq_true_eq] at hfit
  obtain ⟨hm, hne, hall⟩ := hfit
  have hM := of_mright hm
  have e1 := hM.1
  have e2 := hM.2.1
  rw [h1.len] at e1
  rw [h2.len] at hne
  have h1' := h1.keep ((Keep.refl (fun _ => False) w).alloc (.cells #[.slice a2 n2 c2] 40)) (fun _ _ _ => id)
  have h2' := h2.keep ((Keep.refl (fun _ => False) w).alloc (.cells #[.slice a2 n2 c2] 40)) (fun _ _ _ => id)
  have HROWA : Hid (∀ r ∈ m, r.length = n2) := fun r hr => (hM.2.2 r hr).trans hne.symm
  obtain ⟨L, hLe⟩ : ∃ L, L = mcols l := ⟨_, rfl⟩
  have HROWB : Hid (∀ r ∈ l, r.length = L) := fun r hr => by
    rw [List.all_eq_true] at hall
    rw [of_decide_eq_true (hall r hr), hLe]
  have HMM : Hid (mulM m l = (List.range n1).map (fun i => rowOf L (mulE n2 (ent m) (ent l) i))) := by
    show mulM m l = _
    rw [mulM, h1.len, h2.len, hLe]
  obtain ⟨b, o, ao', n', cap', r, rfl, _, hu, hm0, hc, _, hmx, hrb⟩ := h1'.at_ (k := 0) (by omega)
  rw [Nat.add_zero] at hc
  have hn' : n' = n2 := by have h5 := HROWA.out r (List.mem_of_getElem? hm0); rw [hrb.len] at h5; exact h5
  subst hn'
  obtain ⟨q2, o2, bo', L', cap2, r2, rfl, _, hu2, hm2, hcb, _, _, hrb2⟩ := h2'.at_ (k := 0) (by omega)
  rw [Nat.add_zero] at hcb
  have hL' : L' = L := by have h5 := HROWB.out r2 (List.mem_of_getElem? hm2); rw [hrb2.len] at h5; exact h5
  subst hL'
  rw [← hLe] at hL
  have hbox : (w.alloc (.cells #[.slice (some ⟨q2, o2, none⟩) n' c2] 40)).cell? ⟨w.heap.size, 0, none⟩ = some (.slice (some ⟨q2, o2, none⟩) n' c2) := by simp
  have HF : Hid (FieldAt (w.alloc (.cells #[.slice (some ⟨q2, o2, none⟩) n' c2] 40)) fb) := hf.keep ((Keep.refl (fun _ => False) w).alloc _) id
  have HU : Hid (Blk w fb 102 full → Blk (w.alloc (.cells #[.slice (some ⟨q2, o2, none⟩) n' c2] 40)) fb 102 full) := fun h => h.alloc _
  have HFL : Hid (fb < w.heap.size) := hf.lt
  have H1 := Lib.hid h1'
  have H2 := Lib.hid h2'
  have HM := Lib.hid hm
  have HA : Hid (l.all (fun r => decide (r.length = mcols l)) = true) := hall
  have HL1 := Lib.hid (World.block_lt_of_cell? _ _ hc)
  have HL2 := Lib.hid (World.block_lt_of_cell? _ _ hbox)
  have HL3 := Lib.hid (World.block_lt_of_cell? _ _ hcb)
  have HCB := Lib.hid hcb
  have HN : Hid (n1 ≤ 9223372036854775807) := by show n1 ≤ 9223372036854775807; omega
  have HN2 : Hid (0 < n' ∧ n' ≤ 9223372036854775807) := by show 0 < n' ∧ n' ≤ 9223372036854775807; omega
  have HQ2 : Hid (¬ q2 = fb) := by
    obtain ⟨b9, o9, u9, e9, hp9, _⟩ := Rv.at_ h2.1 (k := 0) (by omega)
    cases e9
    exact hQ _ hp9
  have HP := Lib.hid hP
  have HQ := Lib.hid hQ
  have HL := Lib.hid hL
  have hp : (0 : Int) < (n1 : Int) := by omega
  have hp2 : (0 : Int) < (n' : Int) := by omega
  have p3 : (n1 : Int) ≤ 255 := by omega
  have p4 : (n' : Int) ≤ 255 := by omega
  have hnt := hnot
  have hmf := hmf
  have hmk := make_bytes L' hL
  have HK0 : Hid (Keep (fun _ => False) w (w.alloc (.cells #[.slice (some ⟨q2, o2, none⟩) n' c2] 40))) := (Keep.refl (fun _ => False) w).alloc _
  have HS0 : Hid ((w.alloc (.cells #[.slice (some ⟨q2, o2, none⟩) n' c2] 40)).heap.size = w.heap.size + 1) := by
    show (w.alloc (.cells #[.slice (some ⟨q2, o2, none⟩) n' c2] 40)).heap.size = w.heap.size + 1
    simp
  clear h1 h1' h2 h2' hm hM e1 e2 hu hm0 hrb hmx hbox hall hf hP hQ hL hLe hu2 hm2 hrb2 hcb hne
  go_enter Try.func55, Try.ntmps55
  go_wp2_with fail
  have hbox : (w.alloc (.cells #[.slice (some ⟨q2, o2, none⟩) n' c2] 40)).cell? ⟨w.heap.size, 0, none⟩ = some (.slice (some ⟨q2, o2, none⟩) n' c2) := by simp
  generalize w.alloc (.cells #[.slice (some ⟨q2, o2, none⟩) n' c2] 40) = w0 at *
  clear hmk
  first | (go_region_with (first | (go_at_call 58; refine (right_true P _ n1 c1 us m _ ?_ HN.out HM.out).mono ?_; (exact H1.out); rintro e w1 ⟨rfl, hk⟩; have m1 := (hk.cell (p := ⟨b, o, none⟩) HL1.out id).trans hc; have m2 := (hk.cell (p := ⟨w.heap.size, 0, none⟩) HL2.out id).trans hbox) | (go_at_call 83; refine (any_84is Q _ n' c2 w.heap.size vs l _ false ?_ HN2.out ?_ HA.out).mono ?_; (exact H2.out.keep (S := fun _ => False) ⟨hk.os, hk.tape, hk.output, hk.size, hk.block⟩ (fun _ _ _ => id)); (exact m2); rintro e w2 ⟨rfl, rfl⟩))) | fail "no"
  all_goals
    have HK : Hid (Keep (fun _ => False) w w1) := HK0.out.trans ⟨hk.os, hk.tape, hk.output, hk.size, hk.block⟩
    have HK1 : Hid (Keep (fun _ => False) w0 w1) := ⟨hk.os, hk.tape, hk.output, hk.size, hk.block⟩
    have HBOX := Lib.hid m2
    clear hk m1 m2 hc hbox
    have hmk := make_bytes L' HL.out
    go_wp2_with fail
    go_loopw [8, 10, 11, 12, 13, 33, 44] (fun s _ _ _ _ i _ wr => ∃ k : Nat, k ≤ n1 ∧ i = .int .i64 (k : Int) ∧
        Hid (Gr (fun x => w0.heap.size ≤ x) w0.heap.size wr s ((List.range k).map (fun i => rowOf L' (mulE n' (ent m) (ent l) i))) ∧ FieldAt wr fb ∧ (Blk w0 fb 102 full → Blk wr fb 102 full) ∧ Keep (· = fb) w0 wr)) (fun _ _ _ _ _ i _ _ => n1 - (intOf i).toNat)
    case atStart => exact ⟨0, Nat.zero_le _, rfl, Gr.nil _ _ _, HF.out.keep (S := fun _ => False) ⟨HK1.out.os, HK1.out.tape, HK1.out.output, HK1.out.size, HK1.out.block⟩ id, fun h => h.keep (S := fun _ => False) ⟨HK1.out.os, HK1.out.tape, HK1.out.output, HK1.out.size, HK1.out.block⟩ id, Keep.mono (S := fun _ => False) ⟨HK1.out.os, HK1.out.tape, HK1.out.output, HK1.out.size, HK1.out.block⟩ (fun _ _ h => h.elim)⟩
    case round =>
      obtain ⟨k, hk, rfl, HI⟩ := hrel
      obtain ⟨wo, rfl⟩ : ∃ wo : World, wo = wr := ⟨_, rfl⟩
      obtain ⟨s, rfl⟩ : ∃ s : Value, s = u8 := ⟨_, rfl⟩
      by_cases hltk : k < n1
      · have k0 : (0 : Int) ≤ (k : Int) := by omega
        have kn : (k : Int) < (n1 : Int) := by omega
        have HLTK := Lib.hid hltk
        obtain ⟨qa, oa, ra, na, ca, rr, ea, _, hua, hra, hcra, _, _, hrba⟩ := (H1.out.keep HI.out.2.2.2 (fun x _ hx e => HP.out x hx e)).at_ hltk
        cases ea
        have hna : na = n' := by have h5 := HROWA.out rr (List.mem_of_getElem? hra); rw [hrba.len] at h5; exact h5
        subst hna
        have hrr : rr = rowOf na (ent m k) := (ent_row hra hrba.len).symm
        subst hrr
        have HRA : Hid (Rb (· ≠ fb) wo ra na (rowOf na (ent m k))) := hrba.mono (fun x _ hx => HP.out x hx)
        have hbx : wo.cell? ⟨w.heap.size, 0, none⟩ = some (.slice (some ⟨q2, o2, none⟩) na c2) := (HI.out.2.2.2.cell (p := ⟨w.heap.size, 0, none⟩) HL2.out (fun e => by have e' : w.heap.size = fb := e; have := HFL.out; omega)).trans ((Keep.cell (p := ⟨w.heap.size, 0, none⟩) (Keep.refl (fun _ => False) w0) HL2.out id).symm.trans (by have h9 := HBOX.out; have h8 := HK1.out.cell (p := ⟨w.heap.size, 0, none⟩) HL2.out id; rw [← h8]; exact h9))
        have hcb := (HI.out.2.2.2.cell (p := ⟨q2, o2, none⟩) HL3.out HQ2.out).trans HCB.out
        have HBX := Lib.hid hbx
        clear hltk hua hra hrba
        go_wp2_with fail
        clear hmk
        go_loopw [11, 12, 13, 44] (fun t _ _ j wx => ∃ (kk : Nat) (at_ : Option Addr) (ct : Nat), kk ≤ na ∧ j = .int .i64 (kk : Int) ∧ t = .slice at_ L' ct ∧
            Hid (L' ≤ ct ∧ ct ≤ maxLen ∧ Rb (fun x => wo.heap.size ≤ x) wx at_ L' (rowOf L' (fun x => xsum kk (fun q => gmul (ent m k q) (ent l q x)))) ∧ FieldAt wx fb ∧ (Blk w0 fb 102 full → Blk wx fb 102 full) ∧ Keep (· = fb) wo wx)) (fun _ _ _ j _ => na - (intOf j).toNat)
        case atStart =>
          refine ⟨0, _, _, Nat.zero_le _, rfl, rfl, Nat.le_refl _, by have := HL.out; unfold maxLen; omega, ?_, HI.out.2.1.keep ((Keep.refl (fun _ => False) wo).alloc _) id, fun h => (HI.out.2.2.1 h).alloc _, (Keep.refl (· = fb) wo).alloc _⟩
          have e : rowOf L' (fun x => xsum 0 (fun q => gmul (ent m k q) (ent l q x))) = List.replicate L' 0 := (rowOf_zero L').symm
          rw [e, made_reps]
          exact (Blk.new wo 5 (bcells (List.replicate L' 0))).rb (by simp) (Nat.le_refl _)
        case round =>
          obtain ⟨kk, at_, ct, hkk, rfl, rfl, HL2⟩ := hrel
          have HKR : Hid (Keep (· = fb) w0 wr) := HI.out.2.2.2.trans HL2.out.2.2.2.2.2
          by_cases hltk : kk < na
          · have j0 : (0 : Int) ≤ (kk : Int) := by omega
            have jn : (kk : Int) < (na : Int) := by omega
            have HLTJ := Lib.hid hltk
            obtain ⟨b3, o3, x, rfl, _, hx, hcx⟩ := (HRA.out.keep HL2.out.2.2.2.2.2 (fun b _ hb e => hb e)).at_ hltk
            rw [rowOf_get _ hltk] at hx
            cases hx
            obtain ⟨q4, o4, rl, nl, cl, rr4, e4, _, hul, hrl, hcl, _, _, hrbl⟩ := (H2.out.keep HKR.out (fun x _ hx e => HQ.out x hx e)).at_ hltk
            cases e4
            have hnl : nl = L' := by have h5 := HROWB.out rr4 (List.mem_of_getElem? hrl); rw [hrbl.len] at h5; exact h5
            subst hnl
            have hrr4 : rr4 = rowOf nl (ent l kk) := (ent_row hrl hrbl.len).symm
            subst hrr4
            have HRL : Hid (Rb (· ≠ fb) wr rl nl (rowOf nl (ent l kk))) := hrbl.mono (fun x _ hx => HQ.out x hx)
            have hbx2 : wr.cell? ⟨w.heap.size, 0, none⟩ = some (.slice (some ⟨q2, o2, none⟩) na c2) := (HL2.out.2.2.2.2.2.cell (p := ⟨w.heap.size, 0, none⟩) (World.block_lt_of_cell? _ _ HBX.out) (fun e => by have e' : w.heap.size = fb := e; have := HFL.out; omega)).trans HBX.out
            clear hltk hul hrl hrbl
            go_wp2_with fail
            refine (scale_any fb (· ≠ fb) rl nl cl (rowOf nl (ent l kk)) (ent m k kk) wr HL2.out.2.2.2.1 HRL.out (fun h => h rfl) HL.out).mono ?_
            rintro e w5 ⟨v5, rfl, hnb, hp⟩
            rw [rowOf_scale] at hnb
            obtain ⟨g5, cap5, rfl, _, _, hrb5⟩ := nb_rb (P := fun x => wo.heap.size ≤ x) hnb (rowOf_len _ _) (fun b hb => Nat.le_trans HL2.out.2.2.2.2.2.size hb)
            have HR5 := Lib.hid hrb5
            have HP5 := Lib.hid hp
            have HFO : Hid (fb < wo.heap.size) := HI.out.2.1.lt
            have HT5 : Hid (Rb (fun x => wo.heap.size ≤ x) w5 at_ nl (rowOf nl (fun x => xsum kk (fun q => gmul (ent m k q) (ent l q x))))) := HL2.out.2.2.1.keep hp.keep (fun x _ (hx : wo.heap.size ≤ x) (e : x = fb) => by have := HFO.out; omega)
            clear hnb hp hrb5 hcx hcl hbx2
            go_wp2_with fail
            refine (sum_any _ (fun x => wo.heap.size ≤ x) at_ _ nl nl ct cap5 _ _ w5 HT5.out HR5.out HL.out HL.out).mono ?_
            rintro e w6 ⟨v6, rfl, hnb, hk⟩
            rw [rowOf_sum] at hnb
            have HK6 : Hid (Keep (· = fb) wo w6) := HL2.out.2.2.2.2.2.trans (HP5.out.keep.trans (hk.mono (fun _ _ h => h.elim)))
            obtain ⟨g6, cap6, rfl, hc6, hm6, hrb6⟩ := nb_rb (P := fun x => wo.heap.size ≤ x) hnb (rowOf_len _ _) (fun b hb => Nat.le_trans (HL2.out.2.2.2.2.2.trans HP5.out.keep).size hb)
            have HR6 : Hid (nl ≤ cap6 ∧ cap6 ≤ maxLen ∧ Rb (fun x => wo.heap.size ≤ x) w6 (some ⟨g6, 0, none⟩) nl (rowOf nl (fun x => xsum (kk + 1) (fun q => gmul (ent m k q) (ent l q x))))) := by
              refine ⟨hc6, hm6, ?_⟩
              have e : rowOf nl (fun x => xsum (kk + 1) (fun q => gmul (ent m k q) (ent l q x))) = rowOf nl (fun j => xsum kk (fun q => gmul (ent m k q) (ent l q j)) ^^^ gmul (ent l kk j) (ent m k kk)) := rowOf_congr (fun j _ => by rw [xsum, gmul_comm (ent l kk j)])
              rw [e]
              exact hrb6
            have HF6 : Hid (FieldAt w6 fb) := HP5.out.field.keep hk id
            have HU6 : Hid (Blk w0 fb 102 full → Blk w6 fb 102 full) := fun _ => HP5.out.at_.keep hk id
            clear hnb hk hrb6 hc6 hm6
            go_wp2_with fail
            go_roundw
            case rel => exact ⟨kk + 1, _, _, by have := HLTJ.out; omega, by go_num, rfl, HR6.out.1, HR6.out.2.1, HR6.out.2.2, HF6.out, HU6.out, HK6.out⟩
            case measure => have := HLTJ.out; simp [intOf]; omega
          · have hkn : (na : Int) ≤ (kk : Int) := by omega
            have hke : kk = na := by omega
            rw [hke] at HL2
            have HBS : Hid (Bs (fun x => w0.heap.size ≤ x ∧ s.ownBlock ≠ some x) wr (.slice at_ L' ct) (rowOf L' (mulE na (ent m) (ent l) k))) := by
              obtain ⟨us, h1, _⟩ := HI.out.1
              exact ⟨at_, L', ct, rfl, HL2.out.1, HL2.out.2.1, HL2.out.2.2.1.mono (fun b _ (hb : wo.heap.size ≤ b) => ⟨Nat.le_trans HI.out.2.2.2.size hb, fun e => by have := (h1.lt _ e).2; omega⟩)⟩
            have HFO : Hid (fb < w0.heap.size) := by
              have h1 := HFL.out
              have h2 := HS0.out
              show fb < w0.heap.size
              omega
            have HGK : Hid (Gr (fun x => w0.heap.size ≤ x) w0.heap.size wr s ((List.range k).map (fun i => rowOf L' (mulE na (ent m) (ent l) i)))) := by
              obtain ⟨us, h1, _⟩ := HI.out.1
              exact HI.out.1.keep HL2.out.2.2.2.2.2 (fun b hb e => by have := (h1.lt _ hb).1; have := HFO.out; omega) (fun b _ (hb : w0.heap.size ≤ b) _ e => by have := HFO.out; omega)
            clear hke hltk
            go_wp2_with (first
              | (at_builtin; refine wpl_grow1 wr rfl (.tmp 60) (.tmp 62) 40 Try.underlying40 rfl (fun x => w0.heap.size ≤ x) w0.heap.size s (.slice at_ L' ct) ((List.range k).map (fun i => rowOf L' (mulE na (ent m) (ent l) i))) (rowOf L' (mulE na (ent m) (ent l) k)) wr.heap.size rfl rfl rfl HGK.out HBS.out (by rw [List.length_map, List.length_range]; omega) HKR.out.size ?_; intro v' w' hgr hkp))
            have HG := Lib.hid hgr
            have HKP := Lib.hid hkp
            clear hgr hkp
            have hmk := make_bytes L' HL.out
            go_wp2_with fail
            go_roundw
            case rel =>
              obtain ⟨us, h1, _⟩ := HGK.out
              refine ⟨k + 1, by have := HLTK.out; omega, by go_num, ?_, HL2.out.2.2.2.1.keep HKP.out (fun e => by have := (h1.lt _ e).1; have := HFO.out; omega), fun h => (HL2.out.2.2.2.2.1 h).keep HKP.out (fun e => by have := (h1.lt _ e).1; have := HFO.out; omega), HKR.out.trans' HKP.out (fun i hi e => by have := (h1.lt _ e).1; omega)⟩
              rw [List.range_succ, List.map_append]
              exact HG.out
            case measure => have := HLTK.out; simp [intOf]; omega
      · have hkn : (n1 : Int) ≤ (k : Int) := by omega
        have hke : k = n1 := by omega
        rw [hke] at HI
        clear hke
        go_wp2_with fail
        go_ret2
        refine ⟨_, rfl, ?_, HI.out.2.1, fun h => HI.out.2.2.1 (HU.out h), (HK0.out.mono (fun _ _ h => h.elim)).trans' HI.out.2.2.2 (fun _ _ h => h)⟩
        rw [HMM.out]
        have hle : w.heap.size ≤ w0.heap.size := by have := HS0.out; omega
        exact (HI.out.1.old hle).mono (fun b _ hb => Nat.le_trans hle hb)
end Go.Proofs.Ytegecjilpmkamaa
