/-
  Rows as texts; the walks of bytes.Equal, slices.EqualFunc at it, mat's Same and the reference's Same.
-/
import Derived.Test.YtegecjilpmkamaaMakes
import Derived.Laws.BytesArg
namespace Go.Proofs.Ytegecjilpmkamaa
open Go.RowKit Sb

/-- A list of bytes as a text. -/
def bstr (xs : List UInt8) : ByteArray := ⟨xs.toArray⟩

theorem bstr_eq (xs ys : List UInt8) : ((bstr xs).toList == (bstr ys).toList) = (xs == ys) := by
  rw [ByteArray.toList_eq, ByteArray.toList_eq]
  rfl

theorem conv_bytes {P : Nat → Prop} {ao : Option Addr} {n cap : Nat} {xs : List UInt8} {w : World} (h : Rb P w ao n xs) : (convert 33 9 (.slice ao n cap)).run Try.prog w = .ok (.string (bstr xs)) w := by
  by_cases hn : 0 < n
  · obtain ⟨b, o, rfl, _, hc⟩ := h.2 hn
    have hl := h.len
    have := run_convert_bytes_arg (P := Try.prog) w 33 5 Try.underlying33 Try.underlying5 b o n cap (xs.map (fun x => (x.toNat : Int))) (by simpa using hl) (fun i hi => ?_) 9 Try.underlying9
    · rw [this]
      have : strOfNums (xs.map (fun x => (x.toNat : Int))) = bstr xs := by
        unfold strOfNums bstr
        rw [List.map_map]
        have : (xs.map ((fun n : Int => UInt8.ofNat n.toNat) ∘ fun x : UInt8 => (x.toNat : Int))) = xs := by
          rw [List.map_congr_left (g := id) (fun x _ => by simp [UInt8.ofNat_toNat]), List.map_id]
        rw [this]
      rw [this]
    · have hx : i < xs.length := by omega
      rw [hc i (bv xs[i]) (by rw [List.getElem?_map, List.getElem?_eq_getElem hx]; rfl)]
      simp [List.getD, List.getElem?_eq_getElem hx]
  · have h0 : n = 0 := by omega
    subst h0
    have hx : xs = [] := List.length_eq_zero_iff.1 h.len
    subst hx
    rw [run_convert_bytes_string w 33 9 5 _ 0 cap Try.underlying33 Try.underlying5 Try.underlying9]
    cases ao <;> simp [Conv.bytesToString, loadCells]
    all_goals rfl

theorem equal_any (P Q : Nat → Prop) (a1 a2 : Option Addr) (n1 n2 c1 c2 : Nat) (xs ys : List UInt8) (w : World) (h1 : Rb P w a1 n1 xs) (h2 : Rb Q w a2 n2 ys) :
    Calls Try.prog 88 #[.slice a1 n1 c1, .slice a2 n2 c2] w fun e w' => e = .returned (.bool (xs == ys)) ∧ w = w' := by
  have g1 := conv_bytes (cap := c1) h1
  have g2 := conv_bytes (cap := c2) h2
  have hb := bstr_eq xs ys
  clear h1 h2
  go_enter Try.func88, Try.ntmps88
  go_wp2_with fail
  go_ret
  exact ⟨rfl, rfl⟩

/-- From row k on all rows are alike. -/
theorem drop_eqs {m o : List (List UInt8)} {k : Nat} {r s : List UInt8} (h1 : m[k]? = some r) (h2 : o[k]? = some s) : (m.drop k == o.drop k) = ((r == s) && (m.drop (k + 1) == o.drop (k + 1))) := by
  obtain ⟨l1, e1⟩ := List.getElem?_eq_some_iff.1 h1
  obtain ⟨l2, e2⟩ := List.getElem?_eq_some_iff.1 h2
  rw [List.drop_eq_getElem_cons l1, List.drop_eq_getElem_cons l2, e1, e2]
  rfl

set_option maxRecDepth 100000 in
set_option maxHeartbeats 1000000 in
theorem eqfunc_87 (P Q : Nat → Prop) (a1 a2 : Option Addr) (n1 n2 c1 c2 : Nat) (us vs : List Value) (m o : List (List UInt8)) (w : World) (h1 : Mv P w a1 n1 us m) (h2 : Mv Q w a2 n2 vs o) (hn1 : n1 ≤ 9223372036854775807) (hn2 : n2 ≤ 9223372036854775807) :
    Calls Try.prog 87 #[.slice a1 n1 c1, .slice a2 n2 c2, .func (.func 88) #[] #[]] w fun e w' => e = .returned (.bool (m == o)) ∧ w = w' := by
  have H1 := Lib.hid h1
  have H2 := Lib.hid h2
  have hnt := hnot
  by_cases hne : n1 = n2
  · subst hne
    clear h1 h2
    go_enter Try.func87, Try.ntmps87
    go_wp2_with fail
    go_loop [7, 8, 9, 17] (fun _ _ _ i => ∃ k : Nat, k ≤ n1 ∧ i = .int .i64 (k : Int) ∧ Hid ((m.drop k == o.drop k) = (m == o))) (fun _ _ _ i => n1 - (intOf i).toNat)
    case atStart => exact ⟨0, Nat.zero_le _, rfl, rfl⟩
    case round =>
      obtain ⟨k, hk, rfl, HI⟩ := hrel
      by_cases hlt : k < n1
      · obtain ⟨b, q, ao', n', cap', r, rfl, _, hu, hr, hc, _, _, hrb⟩ := H1.out.at_ hlt
        obtain ⟨b2, q2, ao2, n2', cap2, s, rfl, _, hu2, hs, hc2, _, _, hsb⟩ := H2.out.at_ hlt
        have hj0 : (0 : Int) ≤ (k : Int) := by omega
        have hjn : (k : Int) < (n1 : Int) := by omega
        have HS := Lib.hid (drop_eqs hr hs)
        have HE := Lib.hid (equal_any P Q ao' ao2 n' n2' cap' cap2 r s w hrb hsb)
        clear hu hu2 hr hs hrb hsb
        cases hq : (r == s) with
        | true =>
          have HQ := Lib.hid hq
          clear hq
          go_wp2_with fail
          refine HE.out.mono ?_
          rintro e w' ⟨rfl, rfl⟩
          rw [HQ.out]
          go_wp2_with fail
          go_round
          case rel =>
            refine ⟨k + 1, by omega, by go_num, ?_⟩
            have h := HS.out
            rw [HQ.out, HI.out, Bool.true_and] at h
            exact h.symm
          case measure => simp [intOf]; omega
        | false =>
          have HQ := Lib.hid hq
          clear hq
          go_wp2_with fail
          refine HE.out.mono ?_
          rintro e w' ⟨rfl, rfl⟩
          rw [HQ.out]
          go_wp2_with fail
          go_ret
          refine ⟨?_, rfl⟩
          have h := HS.out
          rw [HQ.out, HI.out, Bool.false_and] at h
          rw [h]
          rfl
      · have hkn : (n1 : Int) ≤ (k : Int) := by omega
        go_wp2_with fail
        go_ret
        refine ⟨?_, rfl⟩
        rw [← HI.out, List.drop_eq_nil_of_le (by rw [H1.out.len]; omega), List.drop_eq_nil_of_le (by rw [H2.out.len]; omega)]
        rfl
  · have hne' : ((n1 : Int) == (n2 : Int)) = false := by rw [beq_eq_false_iff_ne]; omega
    have hmo : Hid ((m == o) = false) := by
      rw [beq_eq_false_iff_ne]
      intro e
      have := h1.len
      have := h2.len
      rw [e] at *
      omega
    clear h1 h2 hne
    go_enter Try.func87, Try.ntmps87
    go_wp2_with fail
    go_ret
    exact ⟨by rw [hmo.out]; rfl, rfl⟩

set_option maxRecDepth 100000 in
set_option maxHeartbeats 1000000 in
theorem eqfunc_99 (P Q : Nat → Prop) (a1 a2 : Option Addr) (n1 n2 c1 c2 : Nat) (us vs : List Value) (m o : List (List UInt8)) (w : World) (h1 : Mv P w a1 n1 us m) (h2 : Mv Q w a2 n2 vs o) (hn1 : n1 ≤ 9223372036854775807) (hn2 : n2 ≤ 9223372036854775807) :
    Calls Try.prog 99 #[.slice a1 n1 c1, .slice a2 n2 c2, .func (.func 88) #[] #[]] w fun e w' => e = .returned (.bool (m == o)) ∧ w = w' := by
  have H1 := Lib.hid h1
  have H2 := Lib.hid h2
  have hnt := hnot
  by_cases hne : n1 = n2
  · subst hne
    clear h1 h2
    go_enter Try.func99, Try.ntmps99
    go_wp2_with fail
    go_loop [7, 8, 9, 17] (fun _ _ _ i => ∃ k : Nat, k ≤ n1 ∧ i = .int .i64 (k : Int) ∧ Hid ((m.drop k == o.drop k) = (m == o))) (fun _ _ _ i => n1 - (intOf i).toNat)
    case atStart => exact ⟨0, Nat.zero_le _, rfl, rfl⟩
    case round =>
      obtain ⟨k, hk, rfl, HI⟩ := hrel
      by_cases hlt : k < n1
      · obtain ⟨b, q, ao', n', cap', r, rfl, _, hu, hr, hc, _, _, hrb⟩ := H1.out.at_ hlt
        obtain ⟨b2, q2, ao2, n2', cap2, s, rfl, _, hu2, hs, hc2, _, _, hsb⟩ := H2.out.at_ hlt
        have hj0 : (0 : Int) ≤ (k : Int) := by omega
        have hjn : (k : Int) < (n1 : Int) := by omega
        have HS := Lib.hid (drop_eqs hr hs)
        have HE := Lib.hid (equal_any P Q ao' ao2 n' n2' cap' cap2 r s w hrb hsb)
        clear hu hu2 hr hs hrb hsb
        cases hq : (r == s) with
        | true =>
          have HQ := Lib.hid hq
          clear hq
          go_wp2_with fail
          refine HE.out.mono ?_
          rintro e w' ⟨rfl, rfl⟩
          rw [HQ.out]
          go_wp2_with fail
          go_round
          case rel =>
            refine ⟨k + 1, by omega, by go_num, ?_⟩
            have h := HS.out
            rw [HQ.out, HI.out, Bool.true_and] at h
            exact h.symm
          case measure => simp [intOf]; omega
        | false =>
          have HQ := Lib.hid hq
          clear hq
          go_wp2_with fail
          refine HE.out.mono ?_
          rintro e w' ⟨rfl, rfl⟩
          rw [HQ.out]
          go_wp2_with fail
          go_ret
          refine ⟨?_, rfl⟩
          have h := HS.out
          rw [HQ.out, HI.out, Bool.false_and] at h
          rw [h]
          rfl
      · have hkn : (n1 : Int) ≤ (k : Int) := by omega
        go_wp2_with fail
        go_ret
        refine ⟨?_, rfl⟩
        rw [← HI.out, List.drop_eq_nil_of_le (by rw [H1.out.len]; omega), List.drop_eq_nil_of_le (by rw [H2.out.len]; omega)]
        rfl
  · have hne' : ((n1 : Int) == (n2 : Int)) = false := by rw [beq_eq_false_iff_ne]; omega
    have hmo : Hid ((m == o) = false) := by
      rw [beq_eq_false_iff_ne]
      intro e
      have := h1.len
      have := h2.len
      rw [e] at *
      omega
    clear h1 h2 hne
    go_enter Try.func99, Try.ntmps99
    go_wp2_with fail
    go_ret
    exact ⟨by rw [hmo.out]; rfl, rfl⟩

/-- What Same answers. -/
def msame (m o : List (List UInt8)) : Bool := mright m && (mright o && (m == o))

set_option maxRecDepth 100000 in
set_option maxHeartbeats 1000000 in
theorem same_any (P Q : Nat → Prop) (a1 a2 : Option Addr) (n1 n2 c1 c2 : Nat) (us vs : List Value) (m o : List (List UInt8)) (w : World) (h1 : Mv P w a1 n1 us m) (h2 : Mv Q w a2 n2 vs o) (hn1 : n1 ≤ 9223372036854775807) (hn2 : n2 ≤ 9223372036854775807) :
    Calls Try.prog 59 #[.slice a1 n1 c1, .slice a2 n2 c2] w fun e w' => e = .returned (.bool (msame m o)) ∧ Keep (fun _ => False) w w' := by
  have H1 := Lib.hid h1
  have H2 := Lib.hid h2
  clear h1 h2
  cases hm : mright m with
  | false =>
    have HM := Lib.hid hm
    clear hm
    go_enter Try.func59, Try.ntmps59
    go_wp2_with fail
    refine (right_any P a1 n1 c1 us m w H1.out hn1).mono ?_
    rintro e w1 ⟨rfl, hk⟩
    have HK := Lib.hid hk
    clear hk
    rw [HM.out]
    go_wp2_with fail
    go_ret
    exact ⟨by rw [msame, HM.out]; rfl, HK.out⟩
  | true =>
    have HM := Lib.hid hm
    clear hm
    cases ho : mright o with
    | false =>
      have HO := Lib.hid ho
      clear ho
      go_enter Try.func59, Try.ntmps59
      go_wp2_with fail
      refine (right_any P a1 n1 c1 us m w H1.out hn1).mono ?_
      rintro e w1 ⟨rfl, hk⟩
      have HK := Lib.hid hk
      clear hk
      rw [HM.out]
      go_wp2_with fail
      refine (right_any Q a2 n2 c2 vs o w1 (H2.out.keep HK.out (fun _ _ _ => id)) hn2).mono ?_
      rintro e w2 ⟨rfl, hk2⟩
      have HK2 := Lib.hid hk2
      clear hk2
      rw [HO.out]
      go_wp2_with fail
      go_ret
      exact ⟨by rw [msame, HM.out, HO.out]; rfl, HK.out.trans HK2.out⟩
    | true =>
      have HO := Lib.hid ho
      clear ho
      have hmf := hmf
      go_enter Try.func59, Try.ntmps59
      go_wp2_with fail
      refine (right_any P a1 n1 c1 us m w H1.out hn1).mono ?_
      rintro e w1 ⟨rfl, hk⟩
      have HK := Lib.hid hk
      clear hk
      rw [HM.out]
      go_wp2_with fail
      refine (right_any Q a2 n2 c2 vs o w1 (H2.out.keep HK.out (fun _ _ _ => id)) hn2).mono ?_
      rintro e w2 ⟨rfl, hk2⟩
      have HK2 := Lib.hid (HK.out.trans hk2)
      clear hk2
      rw [HO.out]
      go_wp2_with fail
      refine (eqfunc_87 P Q a1 a2 n1 n2 c1 c2 us vs m o w2 (H1.out.keep HK2.out (fun _ _ _ => id)) (H2.out.keep HK2.out (fun _ _ _ => id)) hn1 hn2).mono ?_
      rintro e w3 ⟨rfl, rfl⟩
      go_wp2_with fail
      go_ret
      exact ⟨by rw [msame, HM.out, HO.out]; rfl, HK2.out⟩

set_option maxRecDepth 100000 in
set_option maxHeartbeats 1000000 in
theorem refsame_any (P Q : Nat → Prop) (a1 a2 : Option Addr) (n1 n2 c1 c2 : Nat) (us vs : List Value) (m o : List (List UInt8)) (w : World) (h1 : Mv P w a1 n1 us m) (h2 : Mv Q w a2 n2 vs o) (hn1 : n1 ≤ 9223372036854775807) (hn2 : n2 ≤ 9223372036854775807) :
    Calls Try.prog 43 #[.slice a1 n1 c1, .slice a2 n2 c2] w fun e w' => e = .returned (.bool (m == o)) ∧ Keep (fun _ => False) w w' := by
  have H1 := Lib.hid h1
  have H2 := Lib.hid h2
  have hnt := hnot
  by_cases hne : n1 = n2
  · subst hne
    clear h1 h2
    go_enter Try.func43, Try.ntmps43
    go_wp2_with fail
    go_loopw [5] (fun i wr => ∃ k : Nat, k ≤ n1 ∧ i = .int .i64 (k : Int) ∧ Hid (((m.drop k == o.drop k) = (m == o)) ∧ Keep (fun _ => False) w wr)) (fun i _ => n1 - (intOf i).toNat)
    case atStart => exact ⟨0, Nat.zero_le _, rfl, rfl, Keep.refl _ _⟩
    case round =>
      obtain ⟨k, hk, rfl, HI⟩ := hrel
      by_cases hlt : k < n1
      · obtain ⟨b, q, ao', n', cap', r, rfl, _, hu, hr, hc, _, _, hrb⟩ := (H1.out.keep HI.out.2 (fun _ _ _ => id)).at_ hlt
        obtain ⟨b2, q2, ao2, n2', cap2, s, rfl, _, hu2, hs, hc2, _, _, hsb⟩ := (H2.out.keep HI.out.2 (fun _ _ _ => id)).at_ hlt
        have hj0 : (0 : Int) ≤ (k : Int) := by omega
        have hjn : (k : Int) < (n1 : Int) := by omega
        have HS := Lib.hid (drop_eqs hr hs)
        have g1 := fun (d : Nat) => conv_bytes (cap := cap') (hrb.drewN d)
        have g2 := fun (d : Nat) => conv_bytes (cap := cap2) (hsb.drewN d)
        have hb := bstr_eq r s
        clear hu hu2 hr hs hrb hsb
        cases hq : (r == s) with
        | true =>
          rw [hq] at hb
          have HQ := Lib.hid hq
          clear hq
          go_wp2_with fail
          go_quiet (fail)
          go_wp2_with fail
          go_roundw
          case rel =>
            refine ⟨k + 1, by omega, by go_num, ?_, HI.out.2.drewN _⟩
            have h := HS.out
            rw [HQ.out, HI.out.1, Bool.true_and] at h
            exact h.symm
          case measure => simp [intOf]; omega
        | false =>
          rw [hq] at hb
          have HQ := Lib.hid hq
          clear hq
          go_wp2_with fail
          go_quiet (fail)
          go_wp2_with fail
          go_ret
          refine ⟨?_, HI.out.2.drewN _⟩
          have h := HS.out
          rw [HQ.out, HI.out.1, Bool.false_and] at h
          rw [h]
          rfl
      · have hkn : (n1 : Int) ≤ (k : Int) := by omega
        go_wp2_with fail
        go_ret
        refine ⟨?_, HI.out.2⟩
        rw [← HI.out.1, List.drop_eq_nil_of_le (by rw [H1.out.len]; omega), List.drop_eq_nil_of_le (by rw [H2.out.len]; omega)]
        rfl
  · have hne' : ((n1 : Int) == (n2 : Int)) = false := by rw [beq_eq_false_iff_ne]; omega
    have hmo : Hid ((m == o) = false) := by
      rw [beq_eq_false_iff_ne]
      intro e
      have := h1.len
      have := h2.len
      rw [e] at *
      omega
    clear h1 h2 hne
    go_enter Try.func43, Try.ntmps43
    go_wp2_with fail
    go_ret
    exact ⟨by rw [hmo.out]; rfl, Keep.refl _ _⟩
end Go.Proofs.Ytegecjilpmkamaa
