/-
  Matrices made of their numbers; and contracts whose answer is told outright.
-/
import Derived.Test.YtegecjilpmkamaaRmul
import Derived.Test.YtegecjilpmkamaaTurn
import Derived.Test.YtegecjilpmkamaaFew
import Derived.Test.YtegecjilpmkamaaOne5
namespace Go.Proofs.Ytegecjilpmkamaa
open Go.RowKit Sb

theorem Mv.rows_le {P : Nat → Prop} {w : World} {ao : Option Addr} {n : Nat} {us : List Value} {m : List (List UInt8)} (h : Mv P w ao n us m) : ∀ r ∈ m, r.length ≤ 9223372036854775807 := by
  intro r hr
  obtain ⟨i, hi, rfl⟩ := List.getElem_of_mem hr
  obtain ⟨b, o, ao', n', cap', r', _, _, _, hr', _, h1, h2, hrb⟩ := h.at_ (k := i) (by rw [← h.len]; exact hi)
  rw [List.getElem?_eq_getElem hi] at hr'
  cases hr'
  rw [hrb.len]
  unfold maxLen at h2
  omega

theorem Fl.mv {N : Nat} {w : World} {g : Nat} {G : Nat → Nat} {n c : Nat} {f : Nat → List UInt8} (h : Fl N w g G n c f) (hn : n ≤ 255) (hc : c ≤ 255) : ∃ us, Mv (fun b => N ≤ b) w (some ⟨g, 0, none⟩) n us ((List.range n).map f) := by
  obtain ⟨ao, n', cap, us, e, _, _, hmv⟩ := h.ms hn hc
  cases e
  exact ⟨us, hmv⟩

theorem few_no (P : Nat → Prop) (ao : Option Addr) (n cap K : Nat) (us : List Value) (m : List (List UInt8)) (w : World) (hr : Mv P w ao n us m) (hK : K ≤ 1000) (h : few m K = false) :
    Calls Try.prog 47 #[.slice ao n cap, .int .i64 (K : Int)] w fun e w' => e = .returned (.int .i64 0) ∧ Keep (fun _ => False) w w' :=
  (few_any P ao n cap K us m w hr hr.rows_le hK).mono fun _ _ ⟨he, hk⟩ => ⟨by rw [he, h]; rfl, hk⟩
theorem few_yes (P : Nat → Prop) (ao : Option Addr) (n cap K : Nat) (us : List Value) (m : List (List UInt8)) (w : World) (hr : Mv P w ao n us m) (hK : K ≤ 1000) (h : few m K = true) :
    Calls Try.prog 47 #[.slice ao n cap, .int .i64 (K : Int)] w fun e w' => e = .returned (.int .i64 1) ∧ Keep (fun _ => False) w w' :=
  (few_any P ao n cap K us m w hr hr.rows_le hK).mono fun _ _ ⟨he, hk⟩ => ⟨by rw [he, h]; rfl, hk⟩

theorem refright_is (P : Nat → Prop) (ao : Option Addr) (n cap : Nat) (us : List Value) (m : List (List UInt8)) (w : World) (b : Bool) (hr : Mv P w ao n us m) (hn : n ≤ 9223372036854775807) (hb : mright m = b) :
    Calls Try.prog 49 #[.slice ao n cap] w fun e w' => e = .returned (.bool b) ∧ Keep (fun _ => False) w w' :=
  (refright_any P ao n cap us m w hr hn).mono fun _ _ ⟨he, d, hw⟩ => ⟨by rw [he, hb], by rw [hw]; exact (Keep.refl _ _).drewN d⟩

theorem refsame_is (P Q : Nat → Prop) (a1 a2 : Option Addr) (n1 n2 c1 c2 : Nat) (us vs : List Value) (m o : List (List UInt8)) (w : World) (b : Bool) (h1 : Mv P w a1 n1 us m) (h2 : Mv Q w a2 n2 vs o) (hn1 : n1 ≤ 9223372036854775807) (hn2 : n2 ≤ 9223372036854775807) (hb : (m == o) = b) :
    Calls Try.prog 43 #[.slice a1 n1 c1, .slice a2 n2 c2] w fun e w' => e = .returned (.bool b) ∧ Keep (fun _ => False) w w' :=
  (refsame_any P Q a1 a2 n1 n2 c1 c2 us vs m o w h1 h2 hn1 hn2).mono fun _ _ ⟨he, hk⟩ => ⟨by rw [he, hb], hk⟩

/-- The matrix of so many rows and columns. -/
def mk (n c : Nat) (F : Nat → Nat → UInt8) : List (List UInt8) := (List.range n).map (fun i => rowOf c (F i))

theorem mk_len (n c : Nat) (F : Nat → Nat → UInt8) : (mk n c F).length = n := by simp [mk]
theorem mk_get {n i : Nat} (c : Nat) (F : Nat → Nat → UInt8) (h : i < n) : (mk n c F)[i]? = some (rowOf c (F i)) := by simp [mk, h]
theorem mk_cols {n : Nat} (c : Nat) (F : Nat → Nat → UInt8) (h : 0 < n) : mcols (mk n c F) = c := by rw [mcols_at (mk_get c F h), rowOf_len]
theorem mk_rows (n c : Nat) (F : Nat → Nat → UInt8) : ∀ r ∈ mk n c F, r.length = c := by
  intro r hr
  obtain ⟨i, _, rfl⟩ := List.mem_map.1 hr
  exact rowOf_len _ _
theorem mk_right {n c : Nat} (F : Nat → Nat → UInt8) (h1 : 1 ≤ n) (h2 : n ≤ 255) (h3 : 1 ≤ c) (h4 : c ≤ 255) : mright (mk n c F) = true := by
  refine mright_true ⟨?_, ?_, ?_⟩
  · rw [mk_len]; exact ⟨h1, h2⟩
  · rw [mk_cols c F h1]; exact ⟨h3, h4⟩
  · rw [mk_cols c F h1]; exact mk_rows n c F
theorem mk_ent (n c : Nat) (F : Nat → Nat → UInt8) : ∀ i j, i < n → j < c → ent (mk n c F) i j = F i j := fun _ _ hi hj => ent_map n c F hi hj
theorem mk_congr {n c : Nat} {F H : Nat → Nat → UInt8} (h : ∀ i j, i < n → j < c → F i j = H i j) : mk n c F = mk n c H := by
  unfold mk
  apply List.map_congr_left
  intro i hi
  exact rowOf_congr (fun j hj => h i j (List.mem_range.1 hi) hj)
theorem mk_of {m : List (List UInt8)} {n c : Nat} (hn : m.length = n) (hc : ∀ r ∈ m, r.length = c) : m = mk n c (ent m) := (ent_all hn hc).symm
theorem mk_right_of {m : List (List UInt8)} {n : Nat} (hn : m.length = n) (h : mright m = true) : m = mk n (mcols m) (ent m) := mk_of hn (of_mright h).2.2
theorem right_bounds {m : List (List UInt8)} {n : Nat} (hn : m.length = n) (h : mright m = true) : 1 ≤ n ∧ n ≤ 255 ∧ 1 ≤ mcols m ∧ mcols m ≤ 255 := by
  have := of_mright h
  have h1 := this.1
  rw [hn] at h1
  exact ⟨h1.1, h1.2, this.2.1⟩
theorem same_yes {a b : List (List UInt8)} (h : a = b) : (a == b) = true := by rw [beq_iff_eq]; exact h
end Go.Proofs.Ytegecjilpmkamaa
