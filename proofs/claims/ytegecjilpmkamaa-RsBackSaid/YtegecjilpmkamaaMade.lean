/-
  The walks of sync.Once's Do over gf's Field, and of (*Field).made: behind it the tables are there.
-/
import Derived.Test.YtegecjilpmkamaaOnce
namespace Go.Proofs.Ytegecjilpmkamaa
open Go.RowKit Sb

/-- What the Field's cells are behind the Once's slow way. -/
def onced (cs : Array Value) : Array Value := ((tabled (cs.setIfInBounds 1 (.int .i32 1))).setIfInBounds 0 (.int .u32 1)).setIfInBounds 1 (.int .i32 0)

theorem tabled_low (cs : Array Value) (i : Nat) (h : i < 3) : (tabled cs)[i]? = cs[i]? := by
  have h0 : ∀ n, (rounds cs n)[i]? = cs[i]? := by
    intro n
    induction n with
    | zero => rfl
    | succ n ih =>
      simp only [rounds]
      rw [Array.getElem?_setIfInBounds_ne (by omega), Array.getElem?_setIfInBounds_ne (by omega), Array.getElem?_setIfInBounds_ne (by omega), ih]
  unfold tabled
  rw [Array.getElem?_setIfInBounds_ne (by omega), h0]

set_option maxRecDepth 100000 in
set_option maxHeartbeats 1600000 in
theorem slow_any (fb vb : Nat) (cs : Array Value) (w : World) (hb : Blk w fb 102 cs) (hs : cs.size = 769) (hv : w.cell? ⟨vb, 0, none⟩ = some (.pointer (some ⟨fb, 0, none⟩))) (hne : vb ≠ fb)
    (h0 : cs[0]? = some (.int .u32 0)) (h1 : cs[1]? = some (.int .i32 0)) :
    Calls Try.prog 107 #[.pointer (some ⟨fb, 0, none⟩), .func (.func 101) #[] #[.pointer (some ⟨vb, 0, none⟩)]] w fun e w' => e = .returned (.tuple #[]) ∧ Blk w' fb 102 (onced cs) ∧ Keep (· = fb) w w' := by
  have hb1 := hb.set_ 1 (.int .i32 1)
  have hc0 : (cs.setIfInBounds 1 (.int .i32 1))[0]? = some (.int .u32 0) := by rw [Array.getElem?_setIfInBounds_ne (by omega), h0]
  have hl := run_call_load (P := Try.prog) Try.func108 (by kernel_rfl) (by kernel_rfl) (by kernel_rfl) .u32 (by kernel_rfl) (w := w.setCell ⟨fb, 1, none⟩ (.int .i32 1)) (a := ⟨fb, 0, none⟩) (x := 0) ((hb1.cell 0).trans hc0)
  have hv1 : (w.setCell ⟨fb, 1, none⟩ (.int .i32 1)).cell? ⟨vb, 0, none⟩ = some (.pointer (some ⟨fb, 0, none⟩)) := (World.cell?_setCell_other _ ⟨fb, 1, none⟩ ⟨vb, 0, none⟩ _ (fun h => hne (by injection h with h; exact h.symm))).trans hv
  have hnot : ∀ (x : Bool) (w : World), (Op.unary .not (.bool x)).run Try.prog w = .ok (.bool (!x)) w := fun _ _ => rfl
  have hcl : w.cell? ⟨fb, 1, none⟩ = some (.int .i32 0) := (hb.cell 1).trans h1
  have hzl : w.frozen? ⟨fb, 1, none⟩ = false := hb.frozen 1
  have hk1 : Keep (· = fb) w (w.setCell ⟨fb, 1, none⟩ (.int .i32 1)) := (Keep.refl (· = fb) w).setCell (p := ⟨fb, 1, none⟩) (fun _ => rfl) _
  have HB := Lib.hid hb1
  have HK := Lib.hid hk1
  clear hb1 hb h0 h1 hc0 hk1
  go_enter_defers Try.func107, Try.ntmps107
  go_wp2_with (first | (go_at_call 109; refine (lock_free ⟨fb, 1, none⟩ _ hcl hzl).mono ?_; rintro e w' ⟨rfl, rfl⟩) | (go_at_call 106; go_in))
  refine (tab_any fb vb _ _ HB.out (by simpa using hs) hv1 hne).mono ?_
  rintro e w2 ⟨rfl, hb2, hk2⟩
  have HB2 := Lib.hid hb2
  have HK2 := Lib.hid hk2
  clear hb2 hk2
  go_wp2
  have hsz : (tabled (cs.setIfInBounds 1 (.int .i32 1))).size = 769 := by simp [tabled, rounds_size, hs]
  obtain ⟨x0, hx0⟩ := some_of_lt (cs := tabled (cs.setIfInBounds 1 (.int .i32 1))) (i := 0) (by omega)
  refine leaves_cons (f := 111) (args := #[.pointer (some ⟨fb, 0, none⟩), .bool true]) (by simp) (by simp [go_sem]) ?_
  refine (store_deferred ⟨fb, 0, none⟩ x0 .returning _ ((HB2.out.cell 0).trans hx0) (HB2.out.frozen 0)).mono ?_
  rintro e u' w'' ⟨rfl, rfl, rfl⟩
  refine leaves_cons (f := 110) (args := #[.pointer (some ⟨fb, 1, none⟩)]) (by simp [settle]) (by simp [go_sem]) ?_
  have hb3 := HB2.out.drew.set_ 0 (.int .u32 1)
  refine (unlock_deferred ⟨fb, 1, none⟩ _ _ ?_ (hb3.frozen 1)).mono ?_
  · refine (hb3.cell 1).trans ?_
    rw [Array.getElem?_setIfInBounds_ne (by omega), tabled_low _ _ (by omega)]
    simp [hs]
  rintro e u' w'' ⟨rfl, rfl, rfl⟩
  have hb4 := hb3.set_ 1 (.int .i32 0)
  have hk4 : Keep (· = fb) w ((w2.drew.setCell ⟨fb, 0, none⟩ (.int .u32 1)).setCell ⟨fb, 1, none⟩ (.int .i32 0)) :=
    ((HK.out.trans HK2.out).drew.setCell (p := ⟨fb, 0, none⟩) (fun _ => rfl) _).setCell (p := ⟨fb, 1, none⟩) (fun _ => rfl) _
  simp [Leaves, settle, results, Try.results107]
  exact ⟨hb4, hk4⟩

theorem hmf (fn : Fn) (first cap : Array Value) (w : World) : (Instr.makeFunc fn first cap).run Try.prog w = .ok (.func fn first cap) w := rfl
theorem hnot (x : Bool) (w : World) : (Op.unary .not (.bool x)).run Try.prog w = .ok (.bool (!x)) w := rfl

theorem do_first (fb vb : Nat) (cs : Array Value) (w : World) (hb : Blk w fb 102 cs) (hs : cs.size = 769) (hv : w.cell? ⟨vb, 0, none⟩ = some (.pointer (some ⟨fb, 0, none⟩))) (hne : vb ≠ fb)
    (h0 : cs[0]? = some (.int .u32 0)) (h1 : cs[1]? = some (.int .i32 0)) :
    Calls Try.prog 100 #[.pointer (some ⟨fb, 0, none⟩), .func (.func 101) #[] #[.pointer (some ⟨vb, 0, none⟩)]] w fun e w' => e = .returned (.tuple #[]) ∧ Blk w' fb 102 (onced cs) ∧ Keep (· = fb) w w' := by
  have hl := run_call_load (P := Try.prog) Try.func108 (by kernel_rfl) (by kernel_rfl) (by kernel_rfl) .u32 (by kernel_rfl) (w := w) (a := ⟨fb, 0, none⟩) (x := 0) ((hb.cell 0).trans h0)
  have hn := hnot
  have hslow := Lib.hid (slow_any fb vb cs w hb hs hv hne h0 h1)
  clear hb h0 h1
  go_enter Try.func100, Try.ntmps100
  go_wp2_with (go_at_call 106; go_in)
  refine hslow.out.mono ?_
  rintro e w' ⟨rfl, hb, hk⟩
  have HB := Lib.hid hb
  clear hb
  go_wp2
  go_end0
  exact ⟨rfl, HB.out, hk⟩

theorem do_done (fb : Nat) (fv : Value) (w : World) (h0 : w.cell? ⟨fb, 0, none⟩ = some (.int .u32 1)) :
    Calls Try.prog 100 #[.pointer (some ⟨fb, 0, none⟩), fv] w fun e w' => e = .returned (.tuple #[]) ∧ w = w' := by
  have hl := run_call_load (P := Try.prog) Try.func108 (by kernel_rfl) (by kernel_rfl) (by kernel_rfl) .u32 (by kernel_rfl) h0
  have hn := hnot
  go_enter Try.func100, Try.ntmps100
  go_wp2
  go_end0
  exact ⟨rfl, rfl⟩

/-- The Field's cells, when its tables are there. -/
def full : Array Value := onced fresh

/-- What a place of the tables holds. -/
def logV (a : Nat) : Int := if a = 0 then -1 else logN a
theorem rounds_exp (cs : Array Value) (hs : cs.size = 769) (j : Nat) (hj : j < 510) (n : Nat) (hn : n ≤ 255) :
    (rounds cs n)[3 + j]? = if j % 255 < n then some (.int .u8 (powN (j % 255))) else cs[3 + j]? := by
  induction n with
  | zero => simp [rounds]
  | succ n ih =>
    have ih := ih (by omega)
    simp only [rounds]
    rw [Array.getElem?_setIfInBounds_ne (by omega)]
    by_cases h : j % 255 = n
    · rw [if_pos (by omega), h]
      by_cases h2 : j = n
      · subst h2
        rw [Array.getElem?_setIfInBounds_ne (by omega)]
        rw [Array.getElem?_setIfInBounds_self_of_lt (by rw [rounds_size, hs]; omega)]
      · have hj2 : j = n + 255 := by omega
        have hb : 3 + (n + 255) < ((rounds cs n).setIfInBounds (3 + n) (.int .u8 (powN n))).size := by
          rw [Array.size_setIfInBounds, rounds_size, hs]
          clear ih h hj2 h2
          omega
        rw [hj2, Array.getElem?_setIfInBounds_self_of_lt hb]
    · rw [Array.getElem?_setIfInBounds_ne (by omega), Array.getElem?_setIfInBounds_ne (by omega), ih]
      by_cases h3 : j % 255 < n
      · rw [if_pos h3, if_pos (by omega)]
      · rw [if_neg h3, if_neg (by omega)]

theorem rounds_log (cs : Array Value) (hs : cs.size = 769) (a : Nat) (ha : a < 256) (n : Nat) (hn : n ≤ 255) :
    (rounds cs n)[513 + a]? = if a ≠ 0 ∧ logN a < n then some (.int .i64 (logN a)) else cs[513 + a]? := by
  induction n with
  | zero => simp [rounds]
  | succ n ih =>
    have ih := ih (by omega)
    have hp := powN_lt n
    simp only [rounds]
    by_cases h : powN n = a
    · have h0 : a ≠ 0 := by rw [← h, ← expN_eq]; exact expN_ne n
      have hl : logN a = n := by rw [← h, ← expN_eq]; exact logN_exp (by omega)
      rw [h, Array.getElem?_setIfInBounds_self_of_lt (by rw [Array.size_setIfInBounds, Array.size_setIfInBounds, rounds_size, hs]; omega), if_pos ⟨h0, by omega⟩, hl]
    · rw [Array.getElem?_setIfInBounds_ne (by omega), Array.getElem?_setIfInBounds_ne (by omega), Array.getElem?_setIfInBounds_ne (by omega), ih]
      by_cases h0 : a = 0
      · rw [if_neg (by simp [h0]), if_neg (by simp [h0])]
      · have hne : logN a ≠ n := fun e => h (by rw [← expN_eq, ← e, expN_log ha h0])
        by_cases h3 : logN a < n
        · rw [if_pos ⟨h0, h3⟩, if_pos ⟨h0, by omega⟩]
        · rw [if_neg (by omega), if_neg (by omega)]

theorem fresh_size : fresh.size = 769 := by
  unfold fresh
  simp only [List.size_toArray, List.length_append, List.length_replicate, List.length_cons, List.length_nil]
theorem fresh_0 : fresh[0]? = some (.int .u32 0) := by
  unfold fresh
  rw [List.getElem?_toArray, List.getElem?_append_left (by decide)]
  rfl
theorem fresh_1 : fresh[1]? = some (.int .i32 0) := by
  unfold fresh
  rw [List.getElem?_toArray, List.getElem?_append_left (by decide)]
  rfl

theorem full_exp {n : Nat} (h : n < 510) : full[3 + n]? = some (.int .u8 (expN n)) := by
  have hs : (fresh.setIfInBounds 1 (.int .i32 1)).size = 769 := by rw [Array.size_setIfInBounds, fresh_size]
  unfold full onced tabled
  rw [Array.getElem?_setIfInBounds_ne (by omega), Array.getElem?_setIfInBounds_ne (by omega), Array.getElem?_setIfInBounds_ne (by omega), rounds_exp _ hs n h 255 (by omega), if_pos (by omega), powN_mod, expN_eq]

theorem full_log {a : Nat} (h : a < 256) : full[513 + a]? = some (.int .i64 (logV a)) := by
  have hs : (fresh.setIfInBounds 1 (.int .i32 1)).size = 769 := by rw [Array.size_setIfInBounds, fresh_size]
  unfold full onced tabled
  rw [Array.getElem?_setIfInBounds_ne (by omega), Array.getElem?_setIfInBounds_ne (by omega)]
  by_cases h0 : a = 0
  · subst h0
    rw [Array.getElem?_setIfInBounds_self_of_lt (by rw [rounds_size, hs]; omega)]
    rfl
  · have := logN_le h h0
    rw [Array.getElem?_setIfInBounds_ne (by omega), rounds_log _ hs a h 255 (by omega), if_pos ⟨h0, by omega⟩, logV, if_neg h0]

theorem full_0 : full[0]? = some (.int .u32 1) := by
  have hs : (fresh.setIfInBounds 1 (.int .i32 1)).size = 769 := by rw [Array.size_setIfInBounds, fresh_size]
  unfold full onced
  rw [Array.getElem?_setIfInBounds_ne (by omega), Array.getElem?_setIfInBounds_self_of_lt (by unfold tabled; rw [Array.size_setIfInBounds, rounds_size, hs]; omega)]

/-- A Field, with its tables or not yet. -/
def FieldAt (w : World) (fb : Nat) : Prop := Blk w fb 102 fresh ∨ Blk w fb 102 full

theorem FieldAt.lt {w : World} {fb : Nat} (h : FieldAt w fb) : fb < w.heap.size := h.elim Blk.lt Blk.lt

set_option maxRecDepth 100000 in
set_option maxHeartbeats 1000000 in
theorem made_fresh (fb : Nat) (w : World) (hf : Blk w fb 102 fresh) :
    Calls Try.prog 72 #[.pointer (some ⟨fb, 0, none⟩)] w fun e w' => e = .returned (.pointer (some ⟨fb, 0, none⟩)) ∧ Blk w' fb 102 full ∧ Keep (· = fb) w w' := by
  have hm := hmf
  have hlt := hf.lt
  have hne : w.heap.size ≠ fb := by omega
  have hd := Lib.hid (do_first fb w.heap.size fresh (w.alloc (.cells #[.pointer (some ⟨fb, 0, none⟩)] 22)) (hf.alloc _) fresh_size (by simp) hne fresh_0 fresh_1)
  clear hf
  go_enter Try.func72, Try.ntmps72
  go_wp2_with fail
  refine hd.out.mono ?_
  rintro e w1 ⟨rfl, hb1, hk1⟩
  have hc1 : w1.cell? ⟨w.heap.size, 0, none⟩ = some (.pointer (some ⟨fb, 0, none⟩)) := (hk1.cell (by simp) hne).trans (by simp)
  have HB := Lib.hid hb1
  have HK := Lib.hid hk1
  clear hb1 hk1
  go_wp2_with fail
  go_ret
  exact ⟨rfl, HB.out, ((Keep.refl _ _).alloc _).trans HK.out⟩

set_option maxRecDepth 100000 in
set_option maxHeartbeats 1000000 in
theorem made_full (fb : Nat) (w : World) (hf : Blk w fb 102 full) :
    Calls Try.prog 72 #[.pointer (some ⟨fb, 0, none⟩)] w fun e w' => e = .returned (.pointer (some ⟨fb, 0, none⟩)) ∧ Blk w' fb 102 full ∧ Keep (· = fb) w w' := by
  have hm := hmf
  have hlt := hf.lt
  have hd := Lib.hid (fun fv => do_done fb fv (w.alloc (.cells #[.pointer (some ⟨fb, 0, none⟩)] 22)) (((hf.alloc _).cell 0).trans full_0))
  have HB := Lib.hid (hf.alloc (.cells #[.pointer (some ⟨fb, 0, none⟩)] 22))
  clear hf
  go_enter Try.func72, Try.ntmps72
  go_wp2_with fail
  refine (hd.out _).mono ?_
  rintro e w1 ⟨rfl, rfl⟩
  go_wp2_with fail
  go_ret
  exact ⟨rfl, HB.out, (Keep.refl _ _).alloc _⟩

theorem made_any (fb : Nat) (w : World) (hf : FieldAt w fb) :
    Calls Try.prog 72 #[.pointer (some ⟨fb, 0, none⟩)] w fun e w' => e = .returned (.pointer (some ⟨fb, 0, none⟩)) ∧ Blk w' fb 102 full ∧ Keep (· = fb) w w' := by
  rcases hf with hf | hf
  · exact made_fresh fb w hf
  · exact made_full fb w hf

set_option maxRecDepth 100000 in
set_option maxHeartbeats 1000000 in
/-- Of nobody a new one is made. -/
theorem made_nil (w : World) :
    Calls Try.prog 72 #[.pointer none] w fun e w' => ∃ g, e = .returned (.pointer (some ⟨g, 0, none⟩)) ∧ Blk w' g 102 full ∧ w.heap.size ≤ g ∧ Keep (fun _ => False) w w' := by
  have hm := hmf
  go_enter Try.func72, Try.ntmps72
  go_wp2_with fail
  refine (new_any _).mono ?_
  rintro e w1 ⟨rfl, rfl⟩
  go_wp2_with fail
  rw [fresh_eq]
  have hb : Blk ((w.alloc (Obj.cells #[Value.pointer (some { block := w.heap.size + 1, off := 0 })] 22)).alloc (Obj.cells fresh 102)) (w.heap.size + 1) 102 fresh := by
    have := Blk.new (w.alloc (Obj.cells #[Value.pointer (some { block := w.heap.size + 1, off := 0 })] 22)) 102 fresh
    simpa using this
  have hv : ((w.alloc (Obj.cells #[Value.pointer (some { block := w.heap.size + 1, off := 0 })] 22)).alloc (Obj.cells fresh 102)).cell? ⟨w.heap.size, 0, none⟩ = some (.pointer (some ⟨w.heap.size + 1, 0, none⟩)) :=
    ((Blk.new w 22 #[Value.pointer (some { block := w.heap.size + 1, off := 0 })]).alloc _).cell 0
  refine (do_first (w.heap.size + 1) w.heap.size fresh _ hb fresh_size hv (by omega) fresh_0 fresh_1).mono ?_
  rintro e w1 ⟨rfl, hb1, hk1⟩
  have hc1 : w1.cell? ⟨w.heap.size, 0, none⟩ = some (.pointer (some ⟨w.heap.size + 1, 0, none⟩)) := (hk1.cell (by simp; omega) (by simp)).trans hv
  have HB := Lib.hid hb1
  have HK := Lib.hid hk1
  clear hb1 hk1 hb hv
  go_wp2_with fail
  go_ret
  exact ⟨_, rfl, HB.out, by omega, (((Keep.refl _ w).alloc _).alloc _).trans' HK.out (fun i hi h => by omega)⟩
end Go.Proofs.Ytegecjilpmkamaa
