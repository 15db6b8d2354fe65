/-
  The walk of the reference's Mul (saddlebagref05).
-/
import Derived.Test.YtegecjilpmkamaaMmul
import Derived.Test.YtegecjilpmkamaaRefm5
namespace Go.Proofs.Ytegecjilpmkamaa
open Go.RowKit Sb

/-- The product, as a list of rows. -/
def mulM (a b : List (List UInt8)) : List (List UInt8) := (List.range a.length).map (fun i => rowOf (mcols b) (mulE b.length (ent a) (ent b) i))

set_option maxRecDepth 100000 in
set_option maxHeartbeats 4000000 in
theorem refmat_mul (P Q : Nat → Prop) (a1 a2 : Option Addr) (n1 n2 c1 c2 : Nat) (us vs : List Value) (a b : List (List UInt8)) (w : World) (h1 : Mv P w a1 n1 us a) (h2 : Mv Q w a2 n2 vs b) (hfit : mfit a b = true) :
    Calls Try.prog 54 #[.slice a1 n1 c1, .slice a2 n2 c2] w fun e w' => ∃ v, e = .returned v ∧ Gr (fun x => w.heap.size ≤ x) w.heap.size w' v (mulM a b) ∧ Keep (fun _ => False) w w' := by
  rw [mfit, Bool.and_eq_true, Bool.and_eq_true, decide_eq_true_eq] at hfit
  obtain ⟨hma, hmb, hK⟩ := hfit
  have hMa := of_mright hma
  have hMb := of_mright hmb
  rw [h2.len] at hK
  have e1 := hMa.1
  have e2 := hMb.1
  have e3 := hMb.2.1
  rw [h1.len] at e1
  rw [h2.len] at e2
  have HROWA : Hid (∀ r ∈ a, r.length = n2) := fun r hr => (hMa.2.2 r hr).trans hK
  obtain ⟨c, hc⟩ : ∃ c, c = mcols b := ⟨_, rfl⟩
  have HMM : Hid (mulM a b = (List.range n1).map (fun i => rowOf c (mulE n2 (ent a) (ent b) i))) := by
    show mulM a b = _
    rw [mulM, h1.len, h2.len, hc]
  rw [← hc] at e3
  have HROWB : Hid (∀ r ∈ b, r.length = c) := fun r hr => (hMb.2.2 r hr).trans hc.symm
  obtain ⟨q2, o2, bo', c', cap2, r2, rfl, _, hu2, hm2, hcb, _, _, hrb2⟩ := h2.at_ (k := 0) (by omega)
  rw [Nat.add_zero] at hcb
  have hc' : c' = c := by have h5 := HROWB.out r2 (List.mem_of_getElem? hm2); rw [hrb2.len] at h5; exact h5
  subst hc'
  have hltb := World.block_lt_of_cell? w _ hcb
  have H1 := Lib.hid h1
  have H2 := Lib.hid h2
  have HCB := Lib.hid hcb
  have HLB := Lib.hid hltb
  have p1 : (0 : Int) < (n1 : Int) := by omega
  have p2 : (0 : Int) < (n2 : Int) := by omega
  have p3 : (n1 : Int) ≤ 255 := by omega
  have p4 : (n2 : Int) ≤ 255 := by omega
  have p5 : (c' : Int) ≤ 255 := by omega
  clear hma hmb hMa hMb hK hc hu2 hm2 hrb2 h1 h2 e1 e2 e3 hcb hltb
  go_enter Try.func54, Try.ntmps54
  go_wp2_with fail
  go_loopw [5, 6, 7, 8, 9, 10] (fun s i _ _ _ _ wr => ∃ k : Nat, k ≤ n1 ∧ i = .int .i64 (k : Int) ∧
      Hid (Gr (fun x => w.heap.size ≤ x) w.heap.size wr s ((List.range k).map (fun i => rowOf c' (mulE n2 (ent a) (ent b) i))) ∧ Keep (fun _ => False) w wr)) (fun _ i _ _ _ _ _ => n1 - (intOf i).toNat)
  case atStart => exact ⟨0, Nat.zero_le _, rfl, Gr.nil _ _ _, Keep.refl _ _⟩
  case round =>
    obtain ⟨i, hi, rfl, HI⟩ := hrel
    obtain ⟨wo, rfl⟩ : ∃ wo : World, wo = wr := ⟨_, rfl⟩
    obtain ⟨s, rfl⟩ : ∃ s : Value, s = u5 := ⟨_, rfl⟩
    by_cases hlti : i < n1
    · have in_ : (i : Int) < (n1 : Int) := by omega
      have HLTI := Lib.hid hlti
      clear hlti
      go_wp2_with fail
      go_loopw [7, 8, 9, 10] (fun t j _ _ wr => ∃ (l : Nat), l ≤ c' ∧ j = .int .i64 (l : Int) ∧
          Hid (Gb wo.heap.size wr t (rowOf l (mulE n2 (ent a) (ent b) i)) ∧ Keep (fun _ => False) wo wr)) (fun _ j _ _ _ => c' - (intOf j).toNat)
      case atStart => exact ⟨0, Nat.zero_le _, rfl, Gb.nil _ _, Keep.refl _ _⟩
      case round =>
        obtain ⟨l, hl, rfl, HL⟩ := hrel
        obtain ⟨wq, rfl⟩ : ∃ wq : World, wq = wr := ⟨_, rfl⟩
        obtain ⟨t, rfl⟩ : ∃ t : Value, t = u7 := ⟨_, rfl⟩
        have HKQ := Lib.hid (HI.out.2.trans HL.out.2)
        have hcbq : wq.cell? ⟨q2, o2, none⟩ = some (.slice bo' c' cap2) := (HKQ.out.cell HLB.out id).trans HCB.out
        by_cases hltl : l < c'
        · have ln : (l : Int) < (c' : Int) := by omega
          have l0 : (0 : Int) ≤ (l : Int) := by omega
          have HLTL := Lib.hid hltl
          clear hltl
          go_wp2_with fail
          clear hcbq
          go_loopw [9, 10] (fun x k wr => ∃ (kk d : Nat), kk ≤ n2 ∧ k = .int .i64 (kk : Int) ∧ x = bv (xsum kk (fun k => gmul (ent a i k) (ent b k l))) ∧ Hid (wr = wq.drewN d)) (fun _ k _ => n2 - (intOf k).toNat)
          case atStart => exact ⟨0, 0, Nat.zero_le _, rfl, rfl, rfl⟩
          case round =>
            obtain ⟨kk, d, hkk, rfl, rfl, HW⟩ := hrel
            have HKR : Hid (Keep (fun _ => False) w wr) := by
              rw [HW.out]
              exact HKQ.out.drewN d
            by_cases hltk : kk < n2
            · obtain ⟨qa, oa, ra, na, ca, rr, rfl, _, hua, hra, hcra, _, _, hrba⟩ := (H1.out.keep HKR.out (fun _ _ _ => id)).at_ HLTI.out
              have hna : na = n2 := by have h5 := HROWA.out rr (List.mem_of_getElem? hra); rw [hrba.len] at h5; exact h5
              subst hna
              obtain ⟨q4, o4, x, rfl, _, hx, hcx⟩ := hrba.at_ hltk
              have hxe : ent a i kk = x := by
                unfold ent
                rw [hra, Option.getD_some, hx, Option.getD_some]
              obtain ⟨qb, ob, bo, nb, cb, rb, eb, _, hub, hrb, hcc, _, _, hrbb⟩ := (H2.out.keep HKR.out (fun _ _ _ => id)).at_ hltk
              cases eb
              have hnb : nb = c' := by have h5 := HROWB.out rb (List.mem_of_getElem? hrb); rw [hrbb.len] at h5; exact h5
              subst hnb
              obtain ⟨q3, o3, y, rfl, _, hy, hcy⟩ := hrbb.at_ HLTL.out
              have hye : ent b kk l = y := by
                unfold ent
                rw [hrb, Option.getD_some, hy, Option.getD_some]
              have HXE := Lib.hid hxe
              have HYE := Lib.hid hye
              have k0 : (0 : Int) ≤ (kk : Int) := by omega
              have kn : (kk : Int) < (na : Int) := by omega
              have i0 : (0 : Int) ≤ (i : Int) := by omega
              have HLTK := Lib.hid hltk
              clear hua hra hrba hub hrb hrbb hx hy hxe hye hltk
              go_wp2_with fail
              go_quiet ((go_at_call 23; exact Calls.quiet_of_same ((refmul_any x y _).mono fun _ _ ⟨h1, h2⟩ => ⟨h1, h2.symm⟩)))
              go_wp2_with fail
              rw [bits_xor_u8]
              go_roundw
              case rel =>
                refine ⟨kk + 1, d + nq, by have := HLTK.out; omega, by go_num, ?_, ?_⟩
                · rw [xsum, HXE.out, HYE.out]
                · show wr.drewN nq = wq.drewN (d + nq)
                  rw [HW.out, World.drewN_drewN]
              case measure => simp [intOf]; omega
            · have hkn : (n2 : Int) ≤ (kk : Int) := by omega
              have hke : kk = n2 := by omega
              rw [hke]
              have HGBR : Hid (Gb wo.heap.size wr t (rowOf l (mulE n2 (ent a) (ent b) i))) := by
                rw [HW.out]
                exact HL.out.1.keep ((Keep.refl (fun _ => False) wq).drewN d) (fun _ _ => id)
              have HKWR : Hid (Keep (fun _ => False) wo wr) := by
                rw [HW.out]
                exact HL.out.2.drewN d
              clear hke
              have hrow : Hid (rowOf l (mulE n2 (ent a) (ent b) i) ++ [xsum n2 (fun k => gmul (ent a i k) (ent b k l))] = rowOf (l + 1) (mulE n2 (ent a) (ent b) i)) := by
                show _ = _
                unfold rowOf
                rw [List.range_succ, List.map_append]
                rfl
              go_wp2_with (first
                | (at_builtin; refine wpl_appb1 _ rfl (.tmp 48) (.tmp 50) rfl wo.heap.size t (rowOf l (mulE n2 (ent a) (ent b) i)) (xsum n2 (fun k => gmul (ent a i k) (ent b k l))) _ rfl rfl rfl HGBR.out (by rw [rowOf_len]; omega) HKWR.out.size ?_; intro v' w' hgb hkp))
              rw [hrow.out] at hgb
              have HGB := Lib.hid hgb
              have HKP := Lib.hid hkp
              clear hgb hkp hkn
              go_wp2_with fail
              go_roundw
              case rel => exact ⟨l + 1, by have := HLTL.out; omega, by go_num, HGB.out, HKWR.out.trans' HKP.out (fun i hi e => by have := (HL.out.1.lt e).1; omega)⟩
              case measure => simp [intOf]; omega
        · have hln : (c' : Int) ≤ (l : Int) := by omega
          have hlc : l = c' := by omega
          rw [hlc] at HL
          have HBS : Hid (Bs (fun x => w.heap.size ≤ x ∧ s.ownBlock ≠ some x) wq t (rowOf c' (mulE n2 (ent a) (ent b) i))) := by
            obtain ⟨us, h1, _⟩ := HI.out.1
            refine HL.out.1.bs.mono (fun b _ (hb : wo.heap.size ≤ b) => ⟨Nat.le_trans HI.out.2.size hb, fun e => ?_⟩)
            have := (h1.lt _ e).2
            omega
          obtain ⟨au, nu, cu, hu7, _⟩ := HBS.out
          subst hu7
          clear hlc hltl
          go_wp2_with (first
            | (at_builtin; refine wpl_grow1 wq rfl (.tmp 52) (.tmp 54) 40 Try.underlying40 rfl (fun x => w.heap.size ≤ x) w.heap.size s (.slice au nu cu) ((List.range i).map (fun i => rowOf c' (mulE n2 (ent a) (ent b) i))) (rowOf c' (mulE n2 (ent a) (ent b) i)) wq.heap.size rfl rfl rfl (HI.out.1.keep HL.out.2 (fun _ _ => id) (fun _ _ _ _ => id)) HBS.out (by rw [List.length_map, List.length_range]; omega) (Nat.le_trans HI.out.2.size HL.out.2.size) ?_; intro v' w' hgr hkp))
          have HG := Lib.hid hgr
          have HKP := Lib.hid hkp
          clear hgr hkp hcbq hln
          go_wp2_with fail
          go_roundw
          case rel =>
            refine ⟨i + 1, by have := HLTI.out; omega, by go_num, ?_, ?_⟩
            · rw [List.range_succ, List.map_append]
              exact HG.out
            · obtain ⟨us, h1, _⟩ := HI.out.1
              exact (HI.out.2.trans HL.out.2).trans' HKP.out (fun i hi e => by have := (h1.lt _ e).1; omega)
          case measure => have := HLTI.out; simp [intOf]; omega
    · have hin : (n1 : Int) ≤ (i : Int) := by omega
      have hie : i = n1 := by omega
      rw [hie] at HI
      clear hie
      go_wp2_with fail
      go_ret
      refine ⟨_, rfl, ?_, HI.out.2⟩
      rw [HMM.out]
      exact HI.out.1
end Go.Proofs.Ytegecjilpmkamaa
