/-
  The walks of gf's Scale and Dot.
-/
import Derived.Test.YtegecjilpmkamaaEval
import Derived.Deep.OwnRows
namespace Go.Proofs.Ytegecjilpmkamaa
open Go.RowKit Sb

theorem info5 : (Try.prog.info? 5).map (fun i => (i.zero, i.size, i.bytes)) = some (some (.int .u8 0), 1, 1) := by kernel_rfl

theorem make_bytes (n : Nat) (h : n ≤ 140737488355328) (w : World) :
    (Instr.makeSlice 33 (.int .i64 (n : Int)) (.int .i64 (n : Int))).run Try.prog w = .ok (.slice (some ⟨w.heap.size, 0, none⟩) n n) (w.alloc (.cells (madeCells #[.int .u8 0] n) 5)) :=
  run_make_row' (P := Try.prog) 33 5 (.int .u8 0) 1 Try.underlying33 info5 rfl .i64 .i64 n (by omega) (by omega) w

theorem made_at {n i : Nat} (h : i < n) : (madeCells #[.int .u8 0] n)[i]? = some (bv 0) := by
  simp [madeCells, h, Nat.mod_one]
theorem made_size (n : Nat) : (madeCells #[.int .u8 0] n).size = n := by simp [madeCells]

/-- What a call has made and hands back: a slice of bytes that reads as ys, in a block of its own. -/
def Nb (w w' : World) (v : Value) (ys : List UInt8) : Prop := ∃ g cap cs, v = .slice (some ⟨g, 0, none⟩) ys.length cap ∧ w.heap.size ≤ g ∧ ys.length ≤ cap ∧ cap ≤ maxLen ∧ cs.size = cap ∧ Blk w' g 5 cs ∧ ∀ (i : Nat) (x : UInt8), ys[i]? = some x → cs[i]? = some (bv x)

theorem Nb.bs {w w' : World} {v : Value} {ys : List UInt8} (h : Nb w w' v ys) : Bs (fun b => w.heap.size ≤ b) w' v ys := by
  obtain ⟨g, cap, cs, rfl, hg, h1, h2, h3, hb, hc⟩ := h
  refine ⟨_, _, _, rfl, h1, h2, by simp, fun hn => ⟨g, 0, rfl, hg, fun i u hu => ?_⟩⟩
  rw [List.getElem?_map] at hu
  rw [Nat.zero_add, hb.cell]
  cases hx : ys[i]? with
  | none => rw [hx] at hu; cases hu
  | some x =>
    rw [hx] at hu
    have : bv x = u := by simpa using hu
    rw [hc i x hx, this]

theorem Nb.keep {w w1 w2 : World} {S : Nat → Prop} {v : Value} {ys : List UInt8} (h : Nb w w1 v ys) (hk : Keep S w1 w2) (hs : ∀ b, w.heap.size ≤ b → b < w1.heap.size → ¬ S b) : Nb w w2 v ys := by
  obtain ⟨g, cap, cs, e, hg, h1, h2, h3, hb, hc⟩ := h
  exact ⟨g, cap, cs, e, hg, h1, h2, h3, hb.keep hk (hs g hg hb.lt), hc⟩

theorem Nb.older {w0 w w1 : World} {v : Value} {ys : List UInt8} (h : Nb w w1 v ys) (hw : w0.heap.size ≤ w.heap.size) : Nb w0 w1 v ys := by
  obtain ⟨g, cap, cs, e, hg, h1, h2, h3, hb, hc⟩ := h
  exact ⟨g, cap, cs, e, by omega, h1, h2, h3, hb, hc⟩

/-- Each number times by. -/
def gscale (xs : List UInt8) (y : UInt8) : List UInt8 := xs.map (fun x => gmul x y)

set_option maxRecDepth 100000 in
set_option maxHeartbeats 1000000 in
theorem scale_any (fb : Nat) (P : Nat → Prop) (ao : Option Addr) (n cap : Nat) (xs : List UInt8) (y : UInt8) (w : World) (hf : FieldAt w fb) (hr : Rb P w ao n xs) (hP : ¬ P fb) (hn : n ≤ 140737488355328) :
    Calls Try.prog 37 #[.pointer (some ⟨fb, 0, none⟩), .slice ao n cap, bv y] w fun e w' => ∃ v, e = .returned v ∧ Nb w w' v (gscale xs y) ∧ Fp fb w w' := by
  have hmk := make_bytes n hn
  go_enter Try.func37, Try.ntmps37
  go_wp2_with fail
  refine (made_fp fb w hf).mono ?_
  rintro e w1 ⟨rfl, hp⟩
  have hr1 := Lib.hid (hr.keep hp.keep (fun b _ hb e => hP (e ▸ hb)))
  have hlen := Lib.hid hr.len
  have HP := Lib.hid hp
  have hs1 := hp.keep.size
  have hfb := hp.at_.lt
  clear hr hp
  go_wp2_with fail
  clear hmk
  go_loopw [9, 10, 18] (fun _ _ i wr => ∃ (k : Nat) (cs : Array Value), k ≤ n ∧ i = .int .i64 (k : Int) ∧
      Hid (Blk wr w1.heap.size 5 cs ∧ cs.size = n ∧ (∀ j x, j < k → xs[j]? = some x → cs[j]? = some (bv (gmul x y))) ∧ Keep (fun _ => False) w1 wr)) (fun _ _ i _ => n - (intOf i).toNat)
  case atStart =>
    refine ⟨0, _, Nat.zero_le _, rfl, Blk.new _ _ _, made_size n, fun j x hj => by omega, (Keep.refl _ _).alloc _⟩
  case round =>
    obtain ⟨k, cs, hk, rfl, HI⟩ := hrel
    by_cases hlt : k < n
    · obtain ⟨b, o, c, rfl, _, hx, hc⟩ := hr1.out.at_ hlt
      have hcr : wr.cell? ⟨b, o + k, none⟩ = some (bv c) := (HI.out.2.2.2.cell (World.block_lt_of_cell? w1 _ hc) id).trans hc
      have hbr : Hid (Blk wr fb 102 full) := HP.out.at_.keep HI.out.2.2.2 id
      obtain ⟨u, hu⟩ := some_of_lt (cs := cs) (i := k) (by have := HI.out.2.1; omega)
      have HU : wr.cell? ⟨w1.heap.size, k, none⟩ = some u := (HI.out.1.cell k).trans hu
      have HZ : wr.frozen? ⟨w1.heap.size, k, none⟩ = false := HI.out.1.frozen k
      have HX := Lib.hid hx
      have hj0 : (0 : Int) ≤ (k : Int) := by omega
      have hjn : (k : Int) < (n : Int) := by omega
      clear hx hc hu
      go_wp2_with fail
      refine (times_any fb c y _ hbr.out).mono ?_
      rintro e w' ⟨rfl, q, rfl⟩
      go_wp2_with fail
      go_roundw
      case rel =>
        obtain ⟨i1, i2, i3, i4⟩ := HI.out
        refine ⟨k + 1, cs.setIfInBounds k (bv (gmul c y)), by omega, by go_num, (i1.drewN q).set_ k _, by simpa using i2, fun j x hj hxj => ?_, (i4.drewN q).setCell (p := ⟨w1.heap.size, k, none⟩) (fun h => absurd h (Nat.lt_irrefl _)) _⟩
        by_cases hjk : j = k
        · subst hjk
          rw [HX.out] at hxj
          cases hxj
          exact Array.getElem?_setIfInBounds_self_of_lt (by omega)
        · rw [Array.getElem?_setIfInBounds_ne (by omega)]
          exact i3 j x (by omega) hxj
      case measure => simp [intOf]; omega
    · have hkn : (n : Int) ≤ (k : Int) := by omega
      go_wp2_with fail
      go_ret
      have hke : k = n := by omega
      subst hke
      obtain ⟨i1, i2, i3, i4⟩ := HI.out
      have hl : (gscale xs y).length = k := by unfold gscale; rw [List.length_map]; exact hlen.out
      refine ⟨_, rfl, ⟨w1.heap.size, k, cs, by rw [hl]; rfl, hs1, by omega, by unfold maxLen; omega, i2, i1, fun i x hx => ?_⟩, HP.out.trans ⟨HP.out.at_.keep i4 id, i4.mono (fun _ _ h => absurd h id)⟩⟩
      unfold gscale at hx
      rw [List.getElem?_map] at hx
      cases hxi : xs[i]? with
      | none => rw [hxi] at hx; cases hx
      | some c =>
        rw [hxi] at hx
        have hi : i < k := by
          have := (List.getElem?_eq_some_iff.1 hxi).1
          have := hlen.out
          omega
        have : gmul c y = x := by simpa using hx
        rw [← this]
        exact i3 i c hi hxi
end Go.Proofs.Ytegecjilpmkamaa
