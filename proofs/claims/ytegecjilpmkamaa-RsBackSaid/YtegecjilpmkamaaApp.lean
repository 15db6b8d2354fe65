/-
  append onto a row of the call's own, of a slice that came from anywhere; and the walk of gf's Dot.
-/
import Derived.Test.YtegecjilpmkamaaLst
import Derived.Maps.AppendAt
import Derived.OwnWalk
namespace Go.Proofs.Ytegecjilpmkamaa
open Go.RowKit Sb

theorem append_nothing {Pr : Program} (w : World) (base : Nat) (t ty e : TypeId) (i : TypeInfo) (ht : Pr.underlying t = some (.slice e)) (hi : Pr.info? e = some i)
    (v : Value) (n : Nat) (xs : List Value) (hown : w.ownsRow base e 1 v n xs) (c : Nat) : (Builtin.append_ #[t, t] ty #[v, .slice none 0 c]).run Pr w = .ok v w := by
  rcases hown.2 with ⟨rfl, rfl⟩ | ⟨g, cap, cur, rfl, _, _, hnc, _⟩
  · simp [Builtin.append_, run_underlying ht, sizeOf, typeInfo, hi, Builtin.lenOf, Builtin.firstCells]
  · simp [Builtin.append_, run_underlying ht, sizeOf, typeInfo, hi, Builtin.lenOf, Builtin.firstCells, hnc, storeCells]

/-- What append leaves: the row with the new cells behind, where it was or in a new block; nil only if it was nil and nothing came. -/
theorem append_run {Pr : Program} (w : World) (base : Nat) (t ty e : TypeId) (i : TypeInfo) (z : Value) (bytes : Nat) (ht : Pr.underlying t = some (.slice e)) (hi : Pr.info? e = some i) (hz : i.zero = some z)
    (hsize : i.size = 1) (hby : i.bytes = bytes) (hzs : z.cells.size = 1) (v : Value) (n : Nat) (xs : List Value) (hown : w.ownsRow base e 1 v n xs)
    (P : Nat → Prop) (A : Option Addr) (m c : Nat) (news : List Value) (hr : Rv P w A m news) (h1 : ∀ u ∈ news, u.oneCell' = true)
    (h63 : n + m ≤ maxLen) (hbytes : (n + m) * bytes ≤ 140737488355328) (hbase : base ≤ w.heap.size) :
    ∃ v' w', (Builtin.append_ #[t, t] ty #[v, .slice A m c]).run Pr w = .ok v' w' ∧ w'.ownsRow base e 1 v' (n + m) (xs ++ news) ∧ w.grownBy w' v.ownBlock ∧
      (v' = .slice none 0 0 ↔ v = .slice none 0 0 ∧ m = 0) ∧ (v'.ownBlock = v.ownBlock ∨ v'.ownBlock = some w.heap.size) := by
  rcases Nat.eq_zero_or_pos m with h0 | h0
  · subst h0
    have hn : news = [] := List.eq_nil_of_length_eq_zero hr.1
    subst hn
    cases A with
    | none => exact ⟨v, w, append_nothing w base t ty e i ht hi v n xs hown c, by simpa using hown, World.grownBy.refl w _, by simp, .inl rfl⟩
    | some a =>
      obtain ⟨v', w', h2, h3, h4, h5, h6⟩ := run_append_own_at (P := Pr) (ty := ty) w base t e i z 1 bytes ht hi hz hsize hby hzs (by omega) v n xs hown a 0 c [] rfl (fun j u hu => by simp at hu) (by simp) h63 hbytes hbase
      exact ⟨v', w', h2, h3, h4, h5, h6⟩
  · obtain ⟨b, o, rfl, _, hc⟩ := hr.2 h0
    obtain ⟨v', w', h2, h3, h4, h5, h6⟩ := run_append_own_at (P := Pr) (ty := ty) w base t e i z 1 bytes ht hi hz hsize hby hzs (by omega) v n xs hown ⟨b, o, none⟩ m c news (by rw [hr.1, Nat.mul_one]) (fun j u hu => by rw [Go.WideShapes.add_plain]; exact hc j u hu) h1 h63 hbytes hbase
    exact ⟨v', w', h2, h3, h4, h5, h6⟩

theorem wpl_append {Pr : Program} (w : World) {ops : Array Oper} {rest : List Oper} {o : Oper} {a : Act} {Q : Exit → Act → World → Prop} (hgd : o.guard = none) (s x : Operand) (t : TypeId)
    (ho : o.op = .call { callee := .builtin .append, args := #[s, x], argTypes := #[t, t] })
    (base : Nat) (e : TypeId) (i : TypeInfo) (z : Value) (bytes : Nat) (ht : Pr.underlying t = some (.slice e)) (hi : Pr.info? e = some i) (hz : i.zero = some z)
    (hsize : i.size = 1) (hby : i.bytes = bytes) (hzs : z.cells.size = 1)
    (v : Value) (n : Nat) (xs : List Value) (hs : a.eval s = v) (hown : w.ownsRow base e 1 v n xs)
    (P : Nat → Prop) (A : Option Addr) (m c : Nat) (news : List Value) (hx : a.eval x = .slice A m c) (hr : Rv P w A m news) (h1 : ∀ u ∈ news, u.oneCell' = true)
    (h63 : n + m ≤ maxLen) (hbytes : (n + m) * bytes ≤ 140737488355328) (hbase : base ≤ w.heap.size)
    (h : ∀ v' w', w'.ownsRow base e 1 v' (n + m) (xs ++ news) → w.grownBy w' v.ownBlock → (v' = .slice none 0 0 ↔ v = .slice none 0 0 ∧ m = 0) → (v'.ownBlock = v.ownBlock ∨ v'.ownBlock = some w.heap.size) → wpList Pr ops Q rest (a.put o.dst v') w') :
    wpList Pr ops Q (o :: rest) a w := by
  refine wpList_plain hgd fun K hK => ?_
  obtain ⟨v', w', hrun, h2, h3, h4, h5⟩ := append_run (Pr := Pr) w base t o.type e i z bytes ht hi hz hsize hby hzs v n xs hown P A m c news hr h1 h63 hbytes hbase
  unfold Oper.wp execOp
  simp only [ho, resolve, invoke, builtin, Sem.run_bind, Sem.run_pure, Result.andThen_ok, List.map_toArray, List.map_cons, List.map_nil, hs, hx, hrun]
  exact hK _ _ (h v' w' h2 h3 h4 h5)

theorem bytes_one {xs : List UInt8} : ∀ u ∈ xs.map bv, u.oneCell' = true := by
  intro u hu
  obtain ⟨x, _, rfl⟩ := List.mem_map.1 hu
  rfl

/-- The sum of the products of two lists, as far as both go. -/
def gdot : List UInt8 → List UInt8 → UInt8
  | a :: xs, b :: ys => gmul a b ^^^ gdot xs ys
  | _, _ => 0

theorem gdot_nil_left (ys : List UInt8) : gdot [] ys = 0 := by cases ys <;> rfl
theorem gdot_nil_right (xs : List UInt8) : gdot xs [] = 0 := by cases xs <;> rfl

set_option maxRecDepth 100000 in
set_option maxHeartbeats 1000000 in
theorem dot_lt (fb : Nat) (P : Nat → Prop) (ao bo : Option Addr) (n m cap cap' : Nat) (xs ys : List UInt8) (w : World) (hf : FieldAt w fb) (hr : Rb P w ao n xs) (hs : Rb P w bo m ys) (hP : ¬ P fb) (hq : m ≤ 9223372036854775807) (hmn : m < n) :
    Calls Try.prog 38 #[.pointer (some ⟨fb, 0, none⟩), .slice ao n cap, .slice bo m cap'] w fun e w' => e = .returned (bv (gdot xs ys)) ∧ Fp fb w w' := by
  go_enter Try.func38, Try.ntmps38
  go_wp2_with fail
  refine (made_fp fb w hf).mono ?_
  rintro e w1 ⟨rfl, hp⟩
  have hr1 := Lib.hid (hr.keep hp.keep (fun b _ hb e => hP (e ▸ hb)))
  have hs1 := Lib.hid (hs.keep hp.keep (fun b _ hb e => hP (e ▸ hb)))
  have hlen := Lib.hid hr.len
  have hlen' := Lib.hid hs.len
  have HP := Lib.hid hp
  clear hr hp hs
  go_wp2_with fail
  go_loopw [8, 9, 17] (fun s _ i wr => ∃ (k d : Nat) (y : UInt8), k ≤ m ∧ i = .int .i64 (k : Int) ∧ s = bv y ∧ Hid (y ^^^ gdot (xs.drop k) (ys.drop k) = gdot xs ys ∧ wr = w1.drewN d)) (fun _ _ i _ => m - (intOf i).toNat)
  case atStart => exact ⟨0, 0, 0, Nat.zero_le _, rfl, rfl, by rw [List.drop_zero, List.drop_zero, UInt8.zero_xor], rfl⟩
  case round =>
    obtain ⟨k, d, y, hk, rfl, rfl, HI⟩ := hrel
    by_cases hlt : k < m
    · obtain ⟨b, o, c, rfl, _, hx, hc⟩ := hr1.out.at_ (k := k) (by omega)
      obtain ⟨b', o', c', rfl, _, hx', hc'⟩ := hs1.out.at_ (k := k) (by omega)
      have hcr : wr.cell? ⟨b, o + k, none⟩ = some (bv c) := by rw [HI.out.2]; exact hc
      have hcr' : wr.cell? ⟨b', o' + k, none⟩ = some (bv c') := by rw [HI.out.2]; exact hc'
      have hbr : Hid (Blk wr fb 102 full) := by rw [HI.out.2]; exact HP.out.at_.drewN d
      have HX := Lib.hid hx
      have HX' := Lib.hid hx'
      have hj0 : (0 : Int) ≤ (k : Int) := by omega
      have hjn : (k : Int) < (n : Int) := by omega
      have hjm : (k : Int) < (m : Int) := by omega
      clear hx hc hx' hc'
      go_wp2_with fail
      go_quiet ((go_at_call 73; exact Calls.quiet_of (times_any fb c c' _ (hbr.out.drewN _))))
      go_wp2_with fail
      rw [bits_xor_u8]
      go_roundw
      case rel =>
        refine ⟨k + 1, d + nq, y ^^^ gmul c c', by omega, by go_num, rfl, ?_, ?_⟩
        · have h := HI.out.1
          rw [drop_eq HX.out, drop_eq HX'.out, gdot] at h
          rw [UInt8.xor_assoc]
          exact h
        · rw [HI.out.2, World.drewN_drewN]
      case measure => simp [intOf]; omega
    · have hkn : (m : Int) ≤ (k : Int) := by omega
      go_wp2_with fail
      go_ret
      have h := HI.out.1
      rw [List.drop_of_length_le (l := ys) (by have := hlen'.out; omega), gdot_nil_right, UInt8.xor_zero] at h
      refine ⟨by rw [← h]; rfl, ?_⟩
      rw [HI.out.2]
      exact HP.out.drewN d

set_option maxRecDepth 100000 in
set_option maxHeartbeats 1000000 in
theorem dot_ge (fb : Nat) (P : Nat → Prop) (ao bo : Option Addr) (n m cap cap' : Nat) (xs ys : List UInt8) (w : World) (hf : FieldAt w fb) (hr : Rb P w ao n xs) (hs : Rb P w bo m ys) (hP : ¬ P fb) (hq : n ≤ 9223372036854775807) (hmn : n ≤ m) :
    Calls Try.prog 38 #[.pointer (some ⟨fb, 0, none⟩), .slice ao n cap, .slice bo m cap'] w fun e w' => e = .returned (bv (gdot xs ys)) ∧ Fp fb w w' := by
  go_enter Try.func38, Try.ntmps38
  go_wp2_with fail
  refine (made_fp fb w hf).mono ?_
  rintro e w1 ⟨rfl, hp⟩
  have hr1 := Lib.hid (hr.keep hp.keep (fun b _ hb e => hP (e ▸ hb)))
  have hs1 := Lib.hid (hs.keep hp.keep (fun b _ hb e => hP (e ▸ hb)))
  have hlen := Lib.hid hr.len
  have hlen' := Lib.hid hs.len
  have HP := Lib.hid hp
  clear hr hp hs
  go_wp2_with fail
  go_loopw [8, 9, 17] (fun s _ i wr => ∃ (k d : Nat) (y : UInt8), k ≤ n ∧ i = .int .i64 (k : Int) ∧ s = bv y ∧ Hid (y ^^^ gdot (xs.drop k) (ys.drop k) = gdot xs ys ∧ wr = w1.drewN d)) (fun _ _ i _ => n - (intOf i).toNat)
  case atStart => exact ⟨0, 0, 0, Nat.zero_le _, rfl, rfl, by rw [List.drop_zero, List.drop_zero, UInt8.zero_xor], rfl⟩
  case round =>
    obtain ⟨k, d, y, hk, rfl, rfl, HI⟩ := hrel
    by_cases hlt : k < n
    · obtain ⟨b, o, c, rfl, _, hx, hc⟩ := hr1.out.at_ (k := k) (by omega)
      obtain ⟨b', o', c', rfl, _, hx', hc'⟩ := hs1.out.at_ (k := k) (by omega)
      have hcr : wr.cell? ⟨b, o + k, none⟩ = some (bv c) := by rw [HI.out.2]; exact hc
      have hcr' : wr.cell? ⟨b', o' + k, none⟩ = some (bv c') := by rw [HI.out.2]; exact hc'
      have hbr : Hid (Blk wr fb 102 full) := by rw [HI.out.2]; exact HP.out.at_.drewN d
      have HX := Lib.hid hx
      have HX' := Lib.hid hx'
      have hj0 : (0 : Int) ≤ (k : Int) := by omega
      have hjn : (k : Int) < (n : Int) := by omega
      have hjm : (k : Int) < (m : Int) := by omega
      clear hx hc hx' hc'
      go_wp2_with fail
      go_quiet ((go_at_call 73; exact Calls.quiet_of (times_any fb c c' _ (hbr.out.drewN _))))
      go_wp2_with fail
      rw [bits_xor_u8]
      go_roundw
      case rel =>
        refine ⟨k + 1, d + nq, y ^^^ gmul c c', by omega, by go_num, rfl, ?_, ?_⟩
        · have h := HI.out.1
          rw [drop_eq HX.out, drop_eq HX'.out, gdot] at h
          rw [UInt8.xor_assoc]
          exact h
        · rw [HI.out.2, World.drewN_drewN]
      case measure => simp [intOf]; omega
    · have hkn : (n : Int) ≤ (k : Int) := by omega
      go_wp2_with fail
      go_ret
      have h := HI.out.1
      rw [List.drop_of_length_le (l := xs) (by have := hlen.out; omega), gdot_nil_left, UInt8.xor_zero] at h
      refine ⟨by rw [← h]; rfl, ?_⟩
      rw [HI.out.2]
      exact HP.out.drewN d

theorem dot_any (fb : Nat) (P : Nat → Prop) (ao bo : Option Addr) (n m cap cap' : Nat) (xs ys : List UInt8) (w : World) (hf : FieldAt w fb) (hr : Rb P w ao n xs) (hs : Rb P w bo m ys) (hP : ¬ P fb) (hn : n ≤ 9223372036854775807) (hm : m ≤ 9223372036854775807) :
    Calls Try.prog 38 #[.pointer (some ⟨fb, 0, none⟩), .slice ao n cap, .slice bo m cap'] w fun e w' => e = .returned (bv (gdot xs ys)) ∧ Fp fb w w' := by
  rcases Nat.lt_or_ge m n with h | h
  · exact dot_lt fb P ao bo n m cap cap' xs ys w hf hr hs hP hm h
  · exact dot_ge fb P ao bo n m cap cap' xs ys w hf hr hs hP hn h
end Go.Proofs.Ytegecjilpmkamaa
