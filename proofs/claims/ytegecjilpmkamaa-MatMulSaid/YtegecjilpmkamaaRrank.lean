/-
  The walk of the reference's Rank (saddlebagref05).
-/
import Derived.Test.YtegecjilpmkamaaRk
import Derived.Deep.DeepCutAuto
import Derived.StillTailTactics
namespace Go.Proofs.Ytegecjilpmkamaa
open Go.RowKit Sb

/-- A row of rows that grows, each row in a block of its own. -/
def Gm (N : Nat) (w : World) (v : Value) (k c : Nat) (F : Nat → Nat → UInt8) : Prop :=
  ∃ (us : List Value) (G cp : Nat → Nat), w.ownsRow N 33 1 v k us ∧ (∀ i, i < k → us[i]? = some (.slice (some ⟨G i, 0, none⟩) c (cp i))) ∧
    (∀ i, i < k → N ≤ G i ∧ c ≤ cp i ∧ cp i ≤ maxLen ∧ ∃ rc, Blk w (G i) 5 rc ∧ c ≤ rc.size ∧ ∀ j, j < c → rc[j]? = some (bv (F i j))) ∧ ∀ i j, i < k → j < k → i ≠ j → G i ≠ G j

theorem Gm.nil (N : Nat) (w : World) (c : Nat) (F : Nat → Nat → UInt8) : Gm N w (.slice none 0 0) 0 c F :=
  ⟨[], fun _ => 0, fun _ => 0, World.ownsRow_nil w N 33 1, fun _ h => absurd h (Nat.not_lt_zero _), fun _ h => absurd h (Nat.not_lt_zero _), fun _ _ h => absurd h (Nat.not_lt_zero _)⟩

theorem Gm.lt {N : Nat} {w : World} {v : Value} {k c : Nat} {F : Nat → Nat → UInt8} (h : Gm N w v k c F) {b : Nat} (hb : v.ownBlock = some b) : N ≤ b ∧ b < w.heap.size := by
  obtain ⟨us, G, cp, h1, _⟩ := h
  exact h1.lt b hb

theorem wpl_growm (wo wp : World) {ops : Array Oper} {rest : List Oper} {o : Oper} {a : Act} {Q : Exit → Act → World → Prop} (hgd : o.guard = none) (s x : Operand) (t : TypeId) (ht : Try.prog.underlying t = some (.slice 33))
    (ho : o.op = .call { callee := .builtin .append, args := #[s, x], argTypes := #[t, t] })
    (N : Nat) (v : Value) (k c : Nat) (F : Nat → Nat → UInt8) (q cq : Nat) (hs : a.eval s = v) (hx : a.eval x = .slice (some ⟨wp.heap.size, 0, none⟩) 1 1)
    (hown : Gm N wo v k c F) (hk : Keep (fun _ => False) wo wp) (hq : wo.heap.size ≤ q) (hrow : ∃ rc, Blk wp q 5 rc ∧ c ≤ rc.size ∧ ∀ j, j < c → rc[j]? = some (bv (F k j))) (hcq : c ≤ cq ∧ cq ≤ maxLen) (hlen : k + 1 ≤ 100000) (hN : N ≤ wo.heap.size)
    (h : ∀ v' w', Gm N w' v' (k + 1) c F → Keep (fun b => v.ownBlock = some b) wp w' → wpList Try.prog ops Q rest (a.put o.dst v') w') :
    wpList Try.prog ops Q (o :: rest) a (wp.alloc (.cells #[.slice (some ⟨q, 0, none⟩) c cq] 33)) := by
  obtain ⟨us, G, cp, h1, h2, h3, h4⟩ := hown
  obtain ⟨rc, r1, r2, r3⟩ := hrow
  obtain ⟨i0, hi0, hz0, hz1, hz2⟩ := info_parts info33
  have hk1 : Keep (fun _ => False) wp (wp.alloc (.cells #[.slice (some ⟨q, 0, none⟩) c cq] 33)) := (Keep.refl _ wp).alloc _
  have hb := Blk.new wp 33 #[.slice (some ⟨q, 0, none⟩) c cq]
  have hkk := hk.trans hk1
  have hvlt : ∀ b, v.ownBlock = some b → N ≤ b ∧ b < wo.heap.size := fun b hb => h1.lt b hb
  have hown2 : (wp.alloc (.cells #[.slice (some ⟨q, 0, none⟩) c cq] 33)).ownsRow N 33 1 v k us := by
    refine ⟨h1.1, ?_⟩
    rcases h1.2 with h5 | ⟨g, cap, cur, rfl, h5, h6, h7⟩
    · exact .inl h5
    · exact .inr ⟨g, cap, cur, rfl, h5, Blk.keep (w := wo) h6 hkk id, h7⟩
  have hne : ∀ i, i < k → v.ownBlock ≠ some (G i) := fun i hi e => by
    obtain ⟨_, _, _, rc', q4, _⟩ := h3 i hi
    rcases h1.2 with ⟨h5, _⟩ | ⟨g, cap, cur, rfl, h5, h6, h7⟩
    · rw [h5] at e
      simp [Value.ownBlock] at e
    · have e2 : g = G i := Option.some.inj e
      have h8 : Blk wo g 33 cur := h6
      rw [e2] at h8
      exact Blk.ne_ q4 h8 (by decide) rfl
  refine wpl_append _ hgd s x t ho N 33 i0 (.slice none 0 0) 24 ht hi0 hz0 hz1 hz2 rfl v k us hs hown2 (fun _ => True) (some ⟨wp.heap.size, 0, none⟩) 1 1 [.slice (some ⟨q, 0, none⟩) c cq] hx ⟨rfl, fun _ => ⟨wp.heap.size, 0, rfl, trivial, fun i u hu => ?_⟩⟩ (fun u hu => ?_) (by unfold maxLen; omega) (by omega) (Nat.le_trans hN (hkk.size)) (fun v' w' g1 g2 _ _ => ?_)
  · rw [Nat.zero_add, hb.cell, List.getElem?_toArray]
    exact hu
  · rw [List.mem_singleton] at hu
    rw [hu]
    rfl
  · have hk2 : Keep (fun b => v.ownBlock = some b) wp w' := (hk1.mono (fun _ _ h => h.elim)).trans ((Keep.refl (fun b => v.ownBlock = some b) _).grown g2 (fun b hb _ => hb))
    have hul : us.length = k := by have := h1.1; omega
    refine h v' w' ⟨us ++ [.slice (some ⟨q, 0, none⟩) c cq], fun i => if i = k then q else G i, fun i => if i = k then cq else cp i, g1, fun i hi => ?_, fun i hi => ?_, fun i j hi hj hij => ?_⟩ hk2
    · by_cases e : i = k
      · simp only [if_pos e]
        rw [List.getElem?_append_right (by omega), e, hul, Nat.sub_self]
        rfl
      · simp only [if_neg e]
        rw [List.getElem?_append_left (by omega)]
        exact h2 i (by omega)
    · by_cases e : i = k
      · simp only [if_pos e]
        rw [e]
        exact ⟨by omega, hcq.1, hcq.2, rc, r1.keep hk2 (fun e => by have := (hvlt q e).2; omega), r2, r3⟩
      · simp only [if_neg e]
        obtain ⟨q1, q2, q3, rc', q4, q5⟩ := h3 i (by omega)
        exact ⟨q1, q2, q3, rc', (q4.keep hk id).keep hk2 (hne i (by omega)), q5⟩
    · dsimp only
      have hglt : ∀ i, i < k → G i < wo.heap.size := fun i hi => by
        obtain ⟨_, _, _, rc', q4, _⟩ := h3 i hi
        exact q4.lt
      by_cases e1 : i = k
      · rw [if_pos e1, if_neg (by omega)]
        have := hglt j (by omega)
        omega
      · rw [if_neg e1]
        by_cases e2 : j = k
        · rw [if_pos e2]
          have := hglt i (by omega)
          omega
        · rw [if_neg e2]
          exact h4 i j (by omega) (by omega) hij

theorem Gm.rk {N : Nat} {w : World} {v : Value} {n c : Nat} {F : Nat → Nat → UInt8} (h : Gm N w v n c F) (hn : 0 < n) : ∃ g cap G cp, v = .slice (some ⟨g, 0, none⟩) n cap ∧ n ≤ cap ∧ Rk N w g n c G cp F := by
  obtain ⟨us, G, cp, h1, h2, h3, h4⟩ := h
  rcases h1.2 with ⟨_, h5⟩ | ⟨g, cap, cur, rfl, h5, h6, h7, h8, h9, h10⟩
  · omega
  · have h11 : Blk w g 33 cur := h6
    refine ⟨g, cap, G, cp, rfl, h7, h5, ⟨cur, h11, by omega, fun i hi => ?_⟩, h3, h4⟩
    have h12 := h2 i hi
    rw [← h10, List.getElem?_take, if_pos (by omega), Array.getElem?_toList] at h12
    exact h12

theorem gb_row {N : Nat} {w : World} {v : Value} {xs : List UInt8} {c : Nat} {f : Nat → UInt8} (h : Gb N w v xs) (hl : xs.length = c) (h0 : 0 < c) (hx : ∀ j, j < c → xs[j]? = some (f j)) :
    ∃ q cq, v = .slice (some ⟨q, 0, none⟩) c cq ∧ N ≤ q ∧ (c ≤ cq ∧ cq ≤ maxLen) ∧ ∃ rc, Blk w q 5 rc ∧ c ≤ rc.size ∧ ∀ j, j < c → rc[j]? = some (bv (f j)) := by
  subst hl
  rcases h.2 with ⟨_, h4⟩ | ⟨q, cap, cur, rfl, h4, h5, h6, h7, h8, h9⟩
  · omega
  · have h10 : Blk w q 5 cur := h5
    refine ⟨q, cap, rfl, h4, ⟨h6, h7⟩, cur, h10, by omega, fun j hj => ?_⟩
    have h11 : (xs.map bv)[j]? = some (bv (f j)) := by rw [List.getElem?_map, hx j hj]; rfl
    rw [← h9, List.getElem?_take, if_pos (by omega), Array.getElem?_toList] at h11
    exact h11

set_option maxRecDepth 100000 in
set_option maxHeartbeats 8000000 in
theorem refrank_any (P : Nat → Prop) (ao : Option Addr) (n cap : Nat) (us : List Value) (m : List (List UInt8)) (w : World) (hr : Mv P w ao n us m) (hm : mright m = true) :
    Calls Try.prog 57 #[.slice ao n cap] w fun e w' => e = .returned (.int .i64 (mrank n (mcols m) (ent m) : Nat)) ∧ Keep (fun _ => False) w w' := by
  have hb := right_bounds hr.len hm
  have hrows := (of_mright hm).2.2
  obtain ⟨b, o, ao', c, cap', r0, rfl, _, hu, hm0, hcc, _, hmx, hrb⟩ := hr.at_ (k := 0) (by omega)
  rw [Nat.add_zero] at hcc
  have hmc := mcols_at hm0
  rw [hrb.len] at hmc
  rw [hmc] at hb hrows ⊢
  have HR := Lib.hid hr
  have HROWS := Lib.hid hrows
  have HB := Lib.hid hb
  have HLT := Lib.hid (World.block_lt_of_cell? _ _ hcc)
  have HC := Lib.hid hcc
  have p0 : (0 : Int) < (n : Int) := by omega
  have p1 : (n : Int) ≤ 255 := by omega
  have p2 : (0 : Int) < (c : Int) := by omega
  have p3 : (c : Int) ≤ 255 := by omega
  clear hr hm hb hrows hu hm0 hcc hmx hrb hmc
  obtain ⟨i0, hi0, hz0, hz1, hz2⟩ := info_parts info5
  go_enter Try.func57, Try.ntmps57
  go_wp2_with fail
  go_loopw [3, 4] (fun s i wr => ∃ k : Nat, k ≤ n ∧ i = .int .i64 (k : Int) ∧
      Hid (Gm w.heap.size wr s k c (ent m) ∧ Keep (fun _ => False) w wr)) (fun _ i _ => n - (intOf i).toNat)
  case atStart => exact ⟨0, Nat.zero_le _, rfl, Gm.nil _ _ _ _, Keep.refl _ _⟩
  case round =>
    obtain ⟨k, hk, rfl, HI⟩ := hrel
    obtain ⟨wo, rfl⟩ : ∃ wo : World, wo = wr := ⟨_, rfl⟩
    obtain ⟨s, rfl⟩ : ∃ s : Value, s = u3 := ⟨_, rfl⟩
    by_cases hltk : k < n
    · have k0 : (0 : Int) ≤ (k : Int) := by omega
      have kn : (k : Int) < (n : Int) := by omega
      have HLTK := Lib.hid hltk
      obtain ⟨qa, oa, ra, na, ca, rr, ea, _, hua, hra, hcra, _, _, hrba⟩ := (HR.out.keep HI.out.2 (fun _ _ _ => id)).at_ hltk
      cases ea
      have hna : na = c := by have h5 := HROWS.out rr (List.mem_of_getElem? hra); rw [hrba.len] at h5; exact h5
      subst hna
      have HRR : Hid (rr = rowOf na (ent m k)) := (ent_row hra hrba.len).symm
      have HRB := Lib.hid hrba
      have HNA : Hid (na ≤ 255 ∧ rr.length = na) := ⟨by have := HB.out; omega, hrba.len⟩
      have hcra2 : (wo.alloc (.cells #[] 5)).cell? ⟨b, o + k, none⟩ = some (.slice ra na ca) := ((Keep.refl (fun _ => False) wo).alloc (.cells #[] 5) |>.cell (p := ⟨b, o + k, none⟩) (World.block_lt_of_cell? _ _ hcra) id).trans hcra
      clear hltk hua hra hrba
      go_wp2_with (first
        | (at_builtin; refine wpl_append _ rfl (.tmp 19) (.tmp 23) 33 rfl wo.heap.size 5 i0 (.int .u8 0) 1 Try.underlying33 hi0 hz0 hz1 hz2 rfl (.slice (some ⟨wo.heap.size, 0, none⟩) 0 0) 0 [] rfl (World.ownsRow_made wo #[] 0 (Nat.le_refl _) (Nat.zero_le _) rfl) P ra na ca (rr.map bv) rfl (HRB.out.keep ((Keep.refl (fun _ => False) wo).alloc _) (fun _ _ _ => id)) bytes_one (by have := HNA.out; unfold maxLen; omega) (by have := HNA.out; omega) (by simp) ?_; intro v1 wa hown1 hg1 hnil1 hat1; have hka : Keep (fun _ => False) wo wa := ((Keep.refl _ wo).alloc _).grown hg1 (fun k hk h => by simp [Value.ownBlock] at hk; omega); have hgb : Gb wo.heap.size wa v1 rr := (by unfold Gb; rw [HNA.out.2]; simpa using hown1); obtain ⟨q, cq, rfl, hq1, hq2, hq3⟩ := gb_row (f := ent m k) hgb HNA.out.2 (by have := HB.out; omega) (fun j hj => by rw [HRR.out]; exact rowOf_get _ hj); clear hown1 hg1 hnil1 hat1 hgb)
        | (at_builtin; refine wpl_growm wo wa rfl (.tmp 18) (.tmp 25) 40 Try.underlying40 rfl w.heap.size s k na (ent m) q cq rfl rfl HI.out.1 hka hq1 hq3 hq2 (by omega) HI.out.2.size ?_; intro v2 wb hgr hkp))
      have HG := Lib.hid hgr
      have HKP : Hid (Keep (fun _ => False) w wb) := (HI.out.2.trans hka).trans' hkp (fun i hi e => by have := (HI.out.1.lt e).1; omega)
      clear hgr hkp hka hq1 hq2 hq3 hcra hcra2
      go_wp2_with fail
      go_roundw
      case rel => exact ⟨k + 1, by have := HLTK.out; omega, by go_num, HG.out, HKP.out⟩
      case measure => have := HLTK.out; simp [intOf]; omega
    · have hkn : (n : Int) ≤ (k : Int) := by omega
      have hke : k = n := by omega
      rw [hke] at HI
      obtain ⟨g, capg, G0, cp0, rfl, hcg, hrk⟩ := HI.out.1.rk (by have := HB.out; omega)
      have HRK0 := Lib.hid hrk
      have HK0 := Lib.hid HI.out.2
      have hd : decide (k < n) = false := decide_eq_false hltk
      clear hke HI hrk hltk hk
      go_wp2_with fail
      clear hkn hd
      go_loopw [5, 6, 7, 8, 9, 10, 11] (fun u i _ _ _ _ _ wr => ∃ (r k : Nat) (E : Nat → Nat → UInt8) (G cp pc : Nat → Nat), k ≤ c ∧ u = .int .i64 (r : Int) ∧ i = .int .i64 (k : Int) ∧
          Hid (Ekh n k r E pc ∧ RowEq n c (ent m) E ∧ Rk w.heap.size wr g n c G cp E ∧ Keep (fun _ => False) w wr)) (fun _ i _ _ _ _ _ _ => c - (intOf i).toNat)
      case atStart => exact ⟨0, 0, ent m, G0, cp0, _, Nat.zero_le _, rfl, rfl, Ekh.start _ _, RowEq.refl _ _ _, HRK0.out, HK0.out⟩
      case round =>
        obtain ⟨r, k, E, G, cp, pc, hk, rfl, rfl, HI⟩ := hrel
        obtain ⟨wo, rfl⟩ : ∃ wo : World, wo = wr := ⟨_, rfl⟩
        have hc0 : wo.cell? ⟨b, o, none⟩ = some (.slice ao' c cap') := (HI.out.2.2.2.cell (p := ⟨b, o, none⟩) HLT.out id).trans HC.out
        have HRN : Hid (r ≤ n) := HI.out.1.le
        by_cases hltk : k < c
        · have k0 : (0 : Int) ≤ (k : Int) := by omega
          have kn : (k : Int) < (c : Int) := by omega
          have HLTK := Lib.hid hltk
          have r0 : (0 : Int) ≤ (r : Int) := by omega
          have rn : (r : Int) ≤ (n : Int) := by have := HRN.out; omega
          clear hltk
          go_wp2_with fail
          go_loopw [7] (fun u wx => ∃ p : Nat, r ≤ p ∧ p ≤ n ∧ u = .int .i64 (p : Int) ∧ Hid ((∀ i, r ≤ i → i < p → E i k = 0) ∧ wx = wo)) (fun u _ => n - (intOf u).toNat)
          case atStart => exact ⟨r, Nat.le_refl _, HRN.out, rfl, fun i h1 h2 => by omega, rfl⟩
          case round =>
            obtain ⟨p, hp1, hp2, rfl, HJ⟩ := hrel
            have hwx := HJ.out.2
            subst hwx
            by_cases hpn : p < n
            · have q0 : (0 : Int) ≤ (p : Int) := by omega
              have qn : (p : Int) < (n : Int) := by omega
              have HPN := Lib.hid hpn
              have HRP : Hid (r ≤ p) := hp1
              obtain ⟨hcp, hfp⟩ := HI.out.2.2.1.row hpn
              obtain ⟨hcn, _⟩ := HI.out.2.2.1.num hpn HLTK.out
              by_cases hz : E p k = 0
              · have hb0 := beq0 hz
                have HZ := Lib.hid hz
                clear hz hpn
                go_wp2_with fail
                go_roundw
                case rel =>
                  refine ⟨p + 1, by have := HRP.out; omega, by have := HPN.out; omega, by go_num, fun i h1 h2 => ?_, by first | rfl | trivial⟩
                  by_cases e : i = p
                  · rw [e]; exact HZ.out
                  · exact HJ.out.1 i h1 (by omega)
                case measure => have := HPN.out; simp [intOf]; omega
              · have hb0 := bne0 hz
                have hpe : ((p : Int) == (n : Int)) = false := by rw [beq_eq_false_iff_ne]; omega
                have HZ := Lib.hid hz
                have rlt : (r : Int) < (n : Int) := by omega
                have HRL : Hid (r < n) := by show r < n; omega
                obtain ⟨hcr, hfr⟩ := HI.out.2.2.1.row HRL.out
                have HSW := Lib.hid (HI.out.2.2.1.swap HRL.out HPN.out)
                have HKW : Hid (Keep (fun _ => False) w ((wr.setCell ⟨g, r, none⟩ (.slice (some ⟨G p, 0, none⟩) c (cp p))).setCell ⟨g, p, none⟩ (.slice (some ⟨G r, 0, none⟩) c (cp r)))) := by
                  have h9 := HI.out.2.2.1.old
                  have h10 : Keep (· = g) wr ((wr.setCell ⟨g, r, none⟩ (.slice (some ⟨G p, 0, none⟩) c (cp p))).setCell ⟨g, p, none⟩ (.slice (some ⟨G r, 0, none⟩) c (cp r))) :=
                    ((Keep.refl (· = g) wr).setCell (p := ⟨g, r, none⟩) (fun _ => rfl) _).setCell (p := ⟨g, p, none⟩) (fun _ => rfl) _
                  exact HI.out.2.2.2.trans' h10 (fun i hi e => by omega)
                clear hz hpn
                go_upto_region 14 with fail
                go_cut [56] (fun _ wx => Hid ((∃ G' cp', Rk w.heap.size wx g n c G' cp' (turnE r p E)) ∧ Keep (fun _ => False) w wx))
                case first =>
                  by_cases hpr : p = r
                  · subst hpr
                    go_region_with (fail)
                    all_goals
                      go_wp2_with fail
                      go_meet
                      exact ⟨⟨_, _, HSW.out.keep ((Keep.refl (fun _ => False) _).drew) (fun _ _ => id)⟩, HKW.out.drew⟩
                  · have hne2 : ¬ r = p := fun e => hpr e.symm
                    go_region_with (fail)
                    all_goals
                      go_wp2_with fail
                      go_meet
                      exact ⟨⟨_, _, HSW.out.keep ((Keep.refl (fun _ => False) _).drew) (fun _ _ => id)⟩, HKW.out.drew⟩
                case rest =>
                  obtain ⟨⟨G1, cp1, hrk1⟩, hk1⟩ := hcut.out
                  have HRK1 := Lib.hid hrk1
                  have HK1 := Lib.hid hk1
                  have HPN2 := Lib.hid HPN.out
                  obtain ⟨hcr1, _⟩ := hrk1.row HRL.out
                  obtain ⟨hcn1, _⟩ := hrk1.num HRL.out HLTK.out
                  have HE0 : Hid (∀ j, j < k → turnE r p E r j = 0) := fun j hj => by rw [turn_a]; exact HI.out.1.zer p HRP.out HPN.out j hj
                  have HST : Hid (Ekh n (k + 1) (r + 1) (refE E r p k) (fun i => if i = r then k else pc i)) := HI.out.1.step HRP.out HPN.out HZ.out
                  have HRE : Hid (RowEq n c (ent m) (refE E r p k)) := HI.out.2.1.trans (refE_rows c E HRL.out HPN.out)
                  have HEE : Hid (∀ i j, r < i → refE E r p k i j = turnE r p E i j ^^^ gmul (gmul (turnE r p E i k) (ginv (turnE r p E r k))) (turnE r p E r j)) := fun i j hi => refE_gt E hi j
                  have HEL : Hid (∀ i j, i ≤ r → refE E r p k i j = turnE r p E i j) := fun i j hi => refE_le E hi j
                  clear hcut hrk1 hk1 hcp hfp hcr hfr hpe hb0 hcn HSW HKW
                  generalize refE E r p k = E2 at *
                  generalize turnE r p E = E1 at *
                  go_wp2_with fail
                  refine (refinv_any (E1 r k) _).mono ?_
                  rintro e w5 ⟨rfl, rfl⟩
                  go_wp2_with fail
                  clear hcr1 hcn1
                  go_loopw [9, 10, 11] (fun u _ _ wx => ∃ i : Nat, r + 1 ≤ i ∧ i ≤ n ∧ u = .int .i64 (i : Int) ∧
                      Hid (Rk w.heap.size wx g n c G1 cp1 (fun i' j' => if r < i' ∧ i' < i then E2 i' j' else E1 i' j') ∧ Keep (fun _ => False) w wx)) (fun u _ _ _ => n - (intOf u).toNat)
                  case atStart => exact ⟨r + 1, Nat.le_refl _, HRL.out, by go_num, HRK1.out.congr (fun i j _ _ => by rw [if_neg (by omega)]), HK1.out⟩
                  case round =>
                    obtain ⟨i, hi1, hi2, rfl, HL⟩ := hrel
                    obtain ⟨wy, rfl⟩ : ∃ wy : World, wy = wr := ⟨_, rfl⟩
                    by_cases hin : i < n
                    · have i0' : (0 : Int) ≤ (i : Int) := by omega
                      have i1 : (i : Int) < (n : Int) := by omega
                      have HIN := Lib.hid hin
                      have HRI : Hid (r + 1 ≤ i) := hi1
                      obtain ⟨hci, _⟩ := HL.out.1.row hin
                      obtain ⟨hcik, _⟩ := HL.out.1.num hin HLTK.out
                      rw [if_neg (by omega)] at hcik
                      clear hin hi1 hi2
                      go_wp2_with fail
                      refine (refmul_any (E1 i k) (ginv (E1 r k)) _).mono ?_
                      rintro e w6 ⟨rfl, rfl⟩
                      go_wp2_with fail
                      clear hci hcik
                      go_loopw [11] (fun u wx => ∃ j : Nat, k ≤ j ∧ j ≤ c ∧ u = .int .i64 (j : Int) ∧
                          Hid (Rk w.heap.size wx g n c G1 cp1 (fun i' j' => if (r < i' ∧ i' < i) ∨ (i' = i ∧ j' < j) then E2 i' j' else E1 i' j') ∧ Keep (fun _ => False) w wx)) (fun u _ => c - (intOf u).toNat)
                      case atStart =>
                        refine ⟨k, Nat.le_refl _, Nat.le_of_lt HLTK.out, rfl, HL.out.1.congr (fun i' j' _ _ => ?_), HL.out.2⟩
                        by_cases h1 : r < i' ∧ i' < i
                        · rw [if_pos h1, if_pos (.inl h1)]
                        · rw [if_neg h1]
                          by_cases h2 : i' = i ∧ j' < k
                          · rw [if_pos (.inr h2), HEE.out i' j' (by have := HRI.out; omega), HE0.out j' h2.2, gmul_zero, UInt8.xor_zero]
                          · rw [if_neg (by rintro (h | h); exact h1 h; exact h2 h)]
                      case round =>
                        obtain ⟨j, hj1, hj2, rfl, HM⟩ := hrel
                        obtain ⟨wz, rfl⟩ : ∃ wz : World, wz = wr := ⟨_, rfl⟩
                        have hc9 : wz.cell? ⟨b, o, none⟩ = some (.slice ao' c cap') := (HM.out.2.cell (p := ⟨b, o, none⟩) HLT.out id).trans HC.out
                        by_cases hjc : j < c
                        · have j0 : (0 : Int) ≤ (j : Int) := by omega
                          have jn : (j : Int) < (c : Int) := by omega
                          have HJC := Lib.hid hjc
                          have HJ1 : Hid (k ≤ j) := hj1
                          obtain ⟨hci, _⟩ := HM.out.1.row HIN.out
                          obtain ⟨hcr, _⟩ := HM.out.1.row HRL.out
                          obtain ⟨hcij, hfij⟩ := HM.out.1.num HIN.out hjc
                          obtain ⟨hcrj, _⟩ := HM.out.1.num HRL.out hjc
                          rw [if_neg (by omega)] at hcij
                          rw [if_neg (by have := HRI.out; omega)] at hcrj
                          have hiN : i < n := HIN.out
                          have hrN : r < n := HRL.out
                          clear hj1 hj2
                          go_wp2_with fail
                          clear hc9
                          refine wp_region_still_tail 23 (by kernel_rfl) (by kernel_rfl) ?_
                          simp only [List.take_succ_cons, List.take_zero, List.drop_succ_cons, List.drop_zero]
                          repeat still_step
                          still_call ((refmul_any (gmul (E1 i k) (ginv (E1 r k))) (E1 r j) _).mono fun _ _ ⟨h1, h2⟩ => ⟨h1, h2.symm⟩)
                          repeat still_step
                          refine wpStill_nil ?_
                          change wpList _ _ _ _ _ wz.drew
                          rw [bits_xor_u8]
                          have hset := HM.out.1.set_ HIN.out HJC.out (E1 i j ^^^ gmul (gmul (E1 i k) (ginv (E1 r k))) (E1 r j))
                          have hkset : Keep (· = G1 i) wz (wz.setCell ⟨G1 i, j, none⟩ (bv (E1 i j ^^^ gmul (gmul (E1 i k) (ginv (E1 r k))) (E1 r j)))) := (Keep.refl (· = G1 i) wz).setCell (p := ⟨G1 i, j, none⟩) (fun _ => rfl) _
                          have e9 : bv (E1 i j ^^^ gmul (gmul (E1 i k) (ginv (E1 r k))) (E1 r j)) = .int .u8 (((E1 i j).toNat ^^^ (gmul (gmul (E1 i k) (ginv (E1 r k))) (E1 r j)).toNat : Nat) : Int) := by
                            show Value.int .u8 _ = _
                            rw [UInt8.toNat_xor]
                          rw [e9] at hset hkset
                          have HSET := Lib.hid hset
                          have HKS := Lib.hid hkset
                          clear hset hkset e9
                          go_wp2_with fail
                          clear hci hcr hcij hfij hcrj
                          go_roundw
                          case rel =>
                            refine ⟨j + 1, by have := HJ1.out; omega, by have := HJC.out; omega, by go_num, ?_, ?_⟩
                            · refine Rk.keep (HSET.out.congr (fun i' j' _ _ => ?_)) ((Keep.refl (fun _ => False) _).drew) (fun _ _ => id)
                              by_cases h1 : i' = i ∧ j' = j
                              · rw [if_pos h1, if_pos (by omega), HEE.out i' j' (by have := HRI.out; omega), h1.1, h1.2]
                              · rw [if_neg h1]
                                by_cases h2 : (r < i' ∧ i' < i) ∨ (i' = i ∧ j' < j)
                                · rw [if_pos h2, if_pos (by omega)]
                                · rw [if_neg h2, if_neg (by omega)]
                            · exact (HM.out.2.trans' HKS.out (fun q hq e => by have := (HM.out.1.rows i HIN.out).1; omega)).drew
                          case measure => have := HJC.out; simp [intOf]; omega
                        · have hcj : (c : Int) ≤ (j : Int) := by omega
                          have hje : j = c := by omega
                          rw [hje] at HM
                          clear hje hj1 hj2
                          go_wp2_with fail
                          go_roundw
                          case rel =>
                            refine ⟨i + 1, by have := HRI.out; omega, by have := HIN.out; omega, by go_num, HM.out.1.congr (fun i' j' _ hj' => ?_), HM.out.2⟩
                            by_cases h1 : (r < i' ∧ i' < i) ∨ (i' = i ∧ j' < c)
                            · rw [if_pos h1, if_pos (by have := HRI.out; omega)]
                            · rw [if_neg h1, if_neg (by omega)]
                          case measure => have := HIN.out; simp [intOf]; omega
                    · have hni : (n : Int) ≤ (i : Int) := by omega
                      have hie : i = n := by omega
                      rw [hie] at HL
                      clear hie hi1 hi2
                      go_wp2_with fail
                      go_roundw
                      case rel =>
                        refine ⟨r + 1, k + 1, E2, G1, cp1, _, by have := HLTK.out; omega, by go_num, by go_num, HST.out, HRE.out, HL.out.1.congr (fun i' j' hi' _ => ?_), HL.out.2⟩
                        by_cases h1 : r < i' ∧ i' < n
                        · rw [if_pos h1]
                        · rw [if_neg h1, HEL.out i' j' (by omega)]
                      case measure => have := HLTK.out; simp [intOf]; omega
            · have hnp : (n : Int) ≤ (p : Int) := by omega
              have hpe : ((p : Int) == (n : Int)) = true := by rw [beq_iff_eq]; omega
              have HPE : Hid (p = n) := by show p = n; omega
              clear hpn hp1 hp2
              go_wp2_with fail
              go_roundw
              case rel =>
                refine ⟨r, k + 1, E, G, cp, pc, by have := HLTK.out; omega, rfl, by go_num, HI.out.1.skip (fun i h1 h2 => HJ.out.1 i h1 (by have := HPE.out; omega)), HI.out.2.1, HI.out.2.2.1, HI.out.2.2.2⟩
              case measure => have := HLTK.out; simp [intOf]; omega
        · have hkn : (c : Int) ≤ (k : Int) := by omega
          have hke : k = c := by omega
          rw [hke] at HI
          clear hke
          go_wp2_with fail
          go_ret
          refine ⟨?_, HI.out.2.2.2⟩
          rw [HI.out.1.rank HI.out.2.1]
          rfl
end Go.Proofs.Ytegecjilpmkamaa
