/-
  Plain law: the field of 256 numbers by its table of powers of 2. No program in sight.
-/
namespace Sb

/-- One step of the table: doubled, and taken back modulo 11d (hex). -/
def stepN (x : Nat) : Nat := if 2 * x < 256 then 2 * x else (2 * x) ^^^ 285

/-- The powers of 2, from 0 on. -/
def powN : Nat → Nat
  | 0 => 1
  | n + 1 => stepN (powN n)

/-- m, or nothing. -/
def sel (b : Bool) (m : Nat) : Nat := if b then m else 0

def mulBits (a b : Nat) : Nat → Nat → Nat
  | 0, p => p
  | k + 1, p => mulBits a b k (p ^^^ sel (b.testBit (7 - k)) (a <<< (7 - k)))

def redBits : Nat → Nat → Nat
  | 0, p => p
  | k + 1, p => redBits k (p ^^^ sel (p.testBit (k + 8)) (285 <<< k))

/-- The document's product, bit by bit. -/
def mulN (a b : Nat) : Nat := redBits 7 (mulBits a b 8 0)

/-- The table of powers as one number: byte n is the n-th power, n from 0 to 254. -/
def expT : Nat := 70160881166704368827218703435136616750530459438269794890424969378298545675077208731798828898087927652446353395360628748027273188182808436399538186061104243134188885576122562338679313492324190829158544377810568631194580132524405266702234305646236648896994794467054525044798919765581988418950285252905306116225263236585714808161311289784028762024137133735135393922581566890382566480334369299400480864790538739986285574563168380416343369614948461817839620668187777978661530364712890858126432457562886306102556561631759900551331094983229723298224611133722330829711659991602983068895685602467964643306841827719562658305

/-- The table of logarithms as one number: byte a is a's logarithm (0 of 0). -/
def logT : Nat := 22135253156888987530748098150270024343632497605293634117281264061560962248099620766229961468867162294233796152347975563017024165690400661622462404646302566225833645086064538892198543335321514950294300187779610338557442029018619797274438901674641748676613670242915365385819254959901651105240253464034662486586186382979728982817772067067513442677601938078891989292316012868233806586592927239821351197800766822366321181463280924672822998103315976779850880337712374790938628529953751181886374687897611504386983350015558142994211516619836411558782076806704747441947939324473761869443721989389604670425385080942269787340800

def expN (n : Nat) : Nat := (expT >>> (8 * (n % 255))) % 256
def logN (a : Nat) : Nat := (logT >>> (8 * a)) % 256

def mulT (a b : Nat) : Nat := if a = 0 then 0 else if b = 0 then 0 else expN (logN a + logN b)

def allBelow (p : Nat → Bool) : Nat → Bool
  | 0 => true
  | n + 1 => p n && allBelow p n

theorem allBelow_iff (p : Nat → Bool) (n : Nat) : allBelow p n = true ↔ ∀ k, k < n → p k = true := by
  induction n with
  | zero => simp [allBelow]
  | succ n ih =>
    simp only [allBelow, Bool.and_eq_true, ih]
    constructor
    · rintro ⟨h1, h2⟩ k hk
      rcases Nat.lt_or_eq_of_le (Nat.lt_succ_iff.1 hk) with h | h
      · exact h2 k h
      · exact h ▸ h1
    · intro h
      exact ⟨h n (by omega), fun k hk => h k (by omega)⟩

/-- Sums go through. -/
def Lin (f : Nat → Nat) : Prop := ∀ x y, f (x ^^^ y) = f x ^^^ f y

theorem Lin.zero {f : Nat → Nat} (h : Lin f) : f 0 = 0 := by
  have := h 0 0
  simpa using this

theorem xor4 (a b c d : Nat) : (a ^^^ b) ^^^ (c ^^^ d) = (a ^^^ c) ^^^ (b ^^^ d) := by
  rw [Nat.xor_assoc, Nat.xor_assoc, ← Nat.xor_assoc b c d, ← Nat.xor_assoc c b d, Nat.xor_comm b c]

theorem sel_xor (a b : Bool) (m : Nat) : sel (a ^^ b) m = sel a m ^^^ sel b m := by
  cases a <;> cases b <;> simp [sel]

theorem sel_xor' (a : Bool) (m n : Nat) : sel a (m ^^^ n) = sel a m ^^^ sel a n := by
  cases a <;> simp [sel]

theorem Lin.comp {f g : Nat → Nat} (hf : Lin f) (hg : Lin g) : Lin (fun x => f (g x)) := fun x y => by
  show f (g (x ^^^ y)) = _
  rw [hg, hf]

theorem mulBits_b (a : Nat) (k : Nat) : ∀ b b' p p', mulBits a (b ^^^ b') k (p ^^^ p') = mulBits a b k p ^^^ mulBits a b' k p' := by
  induction k with
  | zero => intros; rfl
  | succ k ih =>
    intro b b' p p'
    simp only [mulBits]
    rw [Nat.testBit_xor, sel_xor, xor4, ih]

theorem mulBits_a (b : Nat) (k : Nat) : ∀ a a' p p', mulBits (a ^^^ a') b k (p ^^^ p') = mulBits a b k p ^^^ mulBits a' b k p' := by
  induction k with
  | zero => intros; rfl
  | succ k ih =>
    intro a a' p p'
    simp only [mulBits]
    rw [Nat.shiftLeft_xor_distrib, sel_xor', xor4, ih]

theorem redBits_lin (k : Nat) : Lin (redBits k) := by
  induction k with
  | zero => intro x y; rfl
  | succ k ih =>
    intro x y
    simp only [redBits]
    rw [Nat.testBit_xor, sel_xor, xor4, ih]

theorem mulN_b (a : Nat) : Lin (mulN a) := fun x y => by
  have h := mulBits_b a 8 x y 0 0
  rw [Nat.xor_self] at h
  simp only [mulN]
  rw [h, redBits_lin]

theorem mulN_a (b : Nat) : Lin (fun a => mulN a b) := fun x y => by
  have h := mulBits_a b 8 x y 0 0
  rw [Nat.xor_self] at h
  simp only [mulN]
  rw [h, redBits_lin]

/-- A byte out of its bits. -/
def ofBits (x : Nat) : Nat := sel (x.testBit 0) 1 ^^^ (sel (x.testBit 1) 2 ^^^ (sel (x.testBit 2) 4 ^^^ (sel (x.testBit 3) 8 ^^^ (sel (x.testBit 4) 16 ^^^ (sel (x.testBit 5) 32 ^^^ (sel (x.testBit 6) 64 ^^^ sel (x.testBit 7) 128))))))

theorem chk_bits : (allBelow (fun a => ofBits a == a) 256) = true := by decide +kernel

theorem Lin.sel {f : Nat → Nat} (h : Lin f) (b : Bool) (m : Nat) : f (sel b m) = sel b (f m) := by
  cases b
  · exact h.zero
  · rfl

theorem Lin.bits {f : Nat → Nat} (h : Lin f) {x : Nat} (hx : x < 256) :
    f x = Sb.sel (x.testBit 0) (f 1) ^^^ (Sb.sel (x.testBit 1) (f 2) ^^^ (Sb.sel (x.testBit 2) (f 4) ^^^ (Sb.sel (x.testBit 3) (f 8) ^^^ (Sb.sel (x.testBit 4) (f 16) ^^^ (Sb.sel (x.testBit 5) (f 32) ^^^ (Sb.sel (x.testBit 6) (f 64) ^^^ Sb.sel (x.testBit 7) (f 128))))))) := by
  have e : ofBits x = x := by simpa using (allBelow_iff _ _).1 chk_bits x hx
  conv => lhs; rw [← e]
  simp only [ofBits]
  rw [h, h, h, h, h, h, h, h.sel, h.sel, h.sel, h.sel, h.sel, h.sel, h.sel, h.sel]

/-- Two that sums go through are alike on bytes, if they are on the eight. -/
theorem Lin.ext {f g : Nat → Nat} (hf : Lin f) (hg : Lin g) (h1 : f 1 = g 1) (h2 : f 2 = g 2) (h3 : f 4 = g 4) (h4 : f 8 = g 8) (h5 : f 16 = g 16) (h6 : f 32 = g 32) (h7 : f 64 = g 64) (h8 : f 128 = g 128)
    {x : Nat} (hx : x < 256) : f x = g x := by
  rw [hf.bits hx, hg.bits hx, h1, h2, h3, h4, h5, h6, h7, h8]

/-- The step, as a map that sums go through. -/
def stepL (x : Nat) : Nat := (x <<< 1) ^^^ sel (x.testBit 7) 285

theorem stepL_lin : Lin stepL := fun x y => by
  simp only [stepL]
  rw [Nat.testBit_xor, sel_xor, Nat.shiftLeft_xor_distrib, xor4]

theorem chk_step : (allBelow (fun a => stepL a == stepN a && Nat.blt (stepN a) 256 && mulN a 1 == a) 256) = true := by decide +kernel

theorem stepL_eq {x : Nat} (hx : x < 256) : stepL x = stepN x := by
  have := (allBelow_iff _ _).1 chk_step x hx
  simp at this; exact this.1.1

theorem stepN_lt {x : Nat} (hx : x < 256) : stepN x < 256 := by
  have := (allBelow_iff _ _).1 chk_step x hx
  simp [Nat.blt] at this; omega

theorem mulN_one {x : Nat} (hx : x < 256) : mulN x 1 = x := by
  have := (allBelow_iff _ _).1 chk_step x hx
  simp at this; exact this.2

theorem powN_lt (n : Nat) : powN n < 256 := by
  induction n with
  | zero => decide
  | succ n ih => exact stepN_lt ih

theorem mulN_stepL {a b : Nat} (ha : a < 256) (hb : b < 256) : mulN a (stepL b) = stepL (mulN a b) := by
  refine Lin.ext (f := fun b => mulN a (stepL b)) (g := fun b => stepL (mulN a b)) ((mulN_b a).comp stepL_lin) (stepL_lin.comp (mulN_b a)) ?_ ?_ ?_ ?_ ?_ ?_ ?_ ?_ hb
  all_goals
    refine Lin.ext (f := fun a => mulN a (stepL _)) (g := fun a => stepL (mulN a _)) (mulN_a _) (stepL_lin.comp (mulN_a _)) ?_ ?_ ?_ ?_ ?_ ?_ ?_ ?_ ha
    all_goals decide +kernel

theorem mulN_pow (j : Nat) : ∀ i, mulN (powN i) (powN j) = powN (i + j) := by
  induction j with
  | zero => intro i; exact mulN_one (powN_lt i)
  | succ j ih =>
    intro i
    show mulN (powN i) (stepN (powN j)) = stepN (powN (i + j))
    rw [← stepL_eq (powN_lt j), mulN_stepL (powN_lt i) (powN_lt j), ih, stepL_eq (powN_lt _)]

theorem chk_exp : (allBelow (fun n => expN n == powN n && logN (expN n) == n && !(expN n == 0)) 255) = true := by decide +kernel
theorem chk_log : (allBelow (fun a => a == 0 || (expN (logN a) == a && Nat.ble (logN a) 254)) 256) = true := by decide +kernel
theorem pow255 : powN 255 = 1 := by decide +kernel

theorem powN_255 (n : Nat) : powN (n + 255) = powN n := by
  induction n with
  | zero => exact pow255
  | succ n ih =>
    rw [show n + 1 + 255 = (n + 255) + 1 by omega]
    show stepN (powN (n + 255)) = stepN (powN n)
    rw [ih]

theorem powN_mul (q n : Nat) : powN (n + 255 * q) = powN n := by
  induction q with
  | zero => rfl
  | succ q ih => rw [show n + 255 * (q + 1) = (n + 255 * q) + 255 by omega, powN_255, ih]

theorem powN_mod (n : Nat) : powN (n % 255) = powN n := by
  rw [← powN_mul (n / 255) (n % 255), Nat.mod_add_div]

theorem expN_mod (n : Nat) : expN (n % 255) = expN n := by simp [expN]

theorem expN_eq (n : Nat) : expN n = powN n := by
  rw [← expN_mod, ← powN_mod]
  have := (allBelow_iff _ _).1 chk_exp (n % 255) (by omega)
  simp at this
  exact this.1.1

theorem logN_exp {n : Nat} (h : n < 255) : logN (expN n) = n := by
  have := (allBelow_iff _ _).1 chk_exp n h
  simp at this
  exact this.1.2

theorem expN_ne (n : Nat) : expN n ≠ 0 := by
  rw [← expN_mod]
  have := (allBelow_iff _ _).1 chk_exp (n % 255) (by omega)
  simp at this
  exact this.2

theorem expN_lt (n : Nat) : expN n < 256 := by unfold expN; omega

theorem logN_le {a : Nat} (h : a < 256) (h0 : a ≠ 0) : logN a ≤ 254 := by
  have := (allBelow_iff _ _).1 chk_log a h
  simp [h0] at this
  exact this.2

theorem expN_log {a : Nat} (h : a < 256) (h0 : a ≠ 0) : expN (logN a) = a := by
  have := (allBelow_iff _ _).1 chk_log a h
  simp [h0] at this
  exact this.1

theorem mulN_zero_left (b : Nat) : mulN 0 b = 0 := (mulN_a b).zero
theorem mulN_zero_right (a : Nat) : mulN a 0 = 0 := (mulN_b a).zero

/-- THE DOCUMENT's PRODUCT IS THE TABLE's. -/
theorem mulN_eq {a b : Nat} (ha : a < 256) (hb : b < 256) : mulN a b = mulT a b := by
  unfold mulT
  split
  · next h => rw [h, mulN_zero_left]
  · next h =>
    split
    · next h' => rw [h', mulN_zero_right]
    · next h' =>
      have := mulN_pow (logN b) (logN a)
      rw [← expN_eq, ← expN_eq, ← expN_eq, expN_log ha h, expN_log hb h'] at this
      exact this


theorem mulT_lt (a b : Nat) : mulT a b < 256 := by
  unfold mulT
  split
  · omega
  · split
    · omega
    · exact expN_lt _

theorem mulT_lin {a b c : Nat} (ha : a < 256) (hb : b < 256) (hc : c < 256) : mulT a (b ^^^ c) = mulT a b ^^^ mulT a c := by
  rw [← mulN_eq ha hb, ← mulN_eq ha hc, ← mulN_eq ha (Nat.xor_lt_two_pow (n := 8) hb hc), mulN_b]

/- THE FIELD ON BYTES. -/

def gmul (a b : UInt8) : UInt8 := UInt8.ofNat (mulT a.toNat b.toNat)
def gexp (n : Nat) : UInt8 := UInt8.ofNat (expN n)
def glog (a : UInt8) : Nat := logN a.toNat
def ginv (a : UInt8) : UInt8 := if a = 0 then 0 else gexp (255 - glog a)

theorem toNat_lt (a : UInt8) : a.toNat < 256 := a.toNat_lt

theorem ne_zero {a : UInt8} (h : a ≠ 0) : a.toNat ≠ 0 := fun e => h (UInt8.toNat_inj.1 e)

theorem toNat_gmul (a b : UInt8) : (gmul a b).toNat = mulT a.toNat b.toNat := by
  unfold gmul
  rw [UInt8.toNat_ofNat']
  exact Nat.mod_eq_of_lt (mulT_lt _ _)

theorem toNat_gexp (n : Nat) : (gexp n).toNat = expN n := by
  unfold gexp
  rw [UInt8.toNat_ofNat']
  exact Nat.mod_eq_of_lt (expN_lt _)

theorem gexp_ne (n : Nat) : gexp n ≠ 0 := fun h => expN_ne n (by rw [← toNat_gexp, h]; rfl)

theorem glog_exp {n : Nat} (h : n < 255) : glog (gexp n) = n := by
  unfold glog
  rw [toNat_gexp, logN_exp h]

theorem glog_le {a : UInt8} (h : a ≠ 0) : glog a ≤ 254 := logN_le (toNat_lt a) (ne_zero h)

theorem gexp_log {a : UInt8} (h : a ≠ 0) : gexp (glog a) = a := by
  apply UInt8.toNat_inj.1
  rw [toNat_gexp]
  exact expN_log (toNat_lt a) (ne_zero h)

theorem gexp_mod (n : Nat) : gexp (n % 255) = gexp n := by unfold gexp; rw [expN_mod]

theorem gexp_congr {m n : Nat} (h : m % 255 = n % 255) : gexp m = gexp n := by rw [← gexp_mod m, h, gexp_mod]

theorem gexp_zero : gexp 0 = 1 := by decide +kernel

theorem glog_mod (n : Nat) : glog (gexp n) = n % 255 := by
  rw [← gexp_mod]
  exact glog_exp (by omega)

theorem gmul_zero (a : UInt8) : gmul a 0 = 0 := by
  apply UInt8.toNat_inj.1
  rw [toNat_gmul]
  simp [mulT]

theorem zero_gmul (a : UInt8) : gmul 0 a = 0 := by
  apply UInt8.toNat_inj.1
  rw [toNat_gmul]
  simp [mulT]

theorem gmul_eq {a b : UInt8} (ha : a ≠ 0) (hb : b ≠ 0) : gmul a b = gexp (glog a + glog b) := by
  apply UInt8.toNat_inj.1
  rw [toNat_gmul, toNat_gexp]
  simp [mulT, ne_zero ha, ne_zero hb, glog]

theorem gmul_exp (m n : Nat) : gmul (gexp m) (gexp n) = gexp (m + n) := by
  rw [gmul_eq (gexp_ne _) (gexp_ne _), glog_mod, glog_mod]
  exact gexp_congr (by omega)

theorem gmul_comm (a b : UInt8) : gmul a b = gmul b a := by
  by_cases ha : a = 0
  · rw [ha, gmul_zero, zero_gmul]
  · by_cases hb : b = 0
    · rw [hb, gmul_zero, zero_gmul]
    · rw [gmul_eq ha hb, gmul_eq hb ha, Nat.add_comm]

theorem gmul_assoc (a b c : UInt8) : gmul (gmul a b) c = gmul a (gmul b c) := by
  by_cases ha : a = 0
  · rw [ha, zero_gmul, zero_gmul, zero_gmul]
  · by_cases hb : b = 0
    · rw [hb, gmul_zero, zero_gmul, gmul_zero]
    · by_cases hc : c = 0
      · rw [hc, gmul_zero, gmul_zero, gmul_zero]
      · rw [← gexp_log ha, ← gexp_log hb, ← gexp_log hc, gmul_exp, gmul_exp, gmul_exp, gmul_exp, Nat.add_assoc]

theorem gmul_one (a : UInt8) : gmul a 1 = a := by
  by_cases ha : a = 0
  · rw [ha, zero_gmul]
  · rw [← gexp_zero, ← gexp_log ha, gmul_exp, Nat.add_zero]

theorem one_gmul (a : UInt8) : gmul 1 a = a := by rw [gmul_comm, gmul_one]

theorem gmul_xor (a b c : UInt8) : gmul a (b ^^^ c) = gmul a b ^^^ gmul a c := by
  apply UInt8.toNat_inj.1
  rw [UInt8.toNat_xor, toNat_gmul, toNat_gmul, toNat_gmul, UInt8.toNat_xor]
  exact mulT_lin (toNat_lt a) (toNat_lt b) (toNat_lt c)

theorem xor_gmul (a b c : UInt8) : gmul (a ^^^ b) c = gmul a c ^^^ gmul b c := by
  rw [gmul_comm, gmul_xor, gmul_comm c a, gmul_comm c b]

theorem gmul_ne {a b : UInt8} (ha : a ≠ 0) (hb : b ≠ 0) : gmul a b ≠ 0 := by
  rw [gmul_eq ha hb]
  exact gexp_ne _

theorem gmul_inv {a : UInt8} (ha : a ≠ 0) : gmul a (ginv a) = 1 := by
  unfold ginv
  rw [if_neg ha, ← gexp_zero]
  conv => lhs; arg 1; rw [← gexp_log ha]
  rw [gmul_exp]
  have := glog_le ha
  exact gexp_congr (by omega)

theorem ginv_gmul {a : UInt8} (ha : a ≠ 0) : gmul (ginv a) a = 1 := by rw [gmul_comm, gmul_inv ha]

theorem ginv_zero : ginv 0 = 0 := rfl

theorem ginv_ne {a : UInt8} (ha : a ≠ 0) : ginv a ≠ 0 := by
  unfold ginv
  rw [if_neg ha]
  exact gexp_ne _

theorem gmul_cancel {a b c : UInt8} (ha : a ≠ 0) (h : gmul a b = gmul a c) : b = c := by
  have := congrArg (gmul (ginv a)) h
  rwa [← gmul_assoc, ← gmul_assoc, ginv_gmul ha, one_gmul, one_gmul] at this

theorem ginv_unique {a b : UInt8} (h : gmul a b = 1) : b = ginv a := by
  have ha : a ≠ 0 := fun e => by rw [e, zero_gmul] at h; exact absurd h (by decide)
  exact gmul_cancel ha (h.trans (gmul_inv ha).symm)

/-- The power of a number: the product of n times a; 1 of no time. -/
def gpow (a : UInt8) : Nat → UInt8
  | 0 => 1
  | n + 1 => gmul (gpow a n) a

theorem gpow_add (a : UInt8) (m n : Nat) : gpow a (m + n) = gmul (gpow a m) (gpow a n) := by
  induction n with
  | zero => rw [Nat.add_zero, gpow, gmul_one]
  | succ n ih => rw [← Nat.add_assoc, gpow, gpow, ih, gmul_assoc]

theorem gpow_exp (k n : Nat) : gpow (gexp k) n = gexp (k * n) := by
  induction n with
  | zero => rw [gpow, Nat.mul_zero, gexp_zero]
  | succ n ih => rw [gpow, ih, gmul_exp, Nat.mul_succ]

theorem gpow_eq {a : UInt8} (ha : a ≠ 0) (n : Nat) : gpow a n = gexp (glog a * n) := by
  conv => lhs; rw [← gexp_log ha]
  rw [gpow_exp]

theorem gpow_zero_pos {n : Nat} (h : 0 < n) : gpow 0 n = 0 := by
  cases n with
  | zero => omega
  | succ n => rw [gpow, gmul_zero]

theorem xor_self' (a : UInt8) : a ^^^ a = 0 := UInt8.xor_self
theorem xor_eq_zero {a b : UInt8} (h : a ^^^ b = 0) : a = b := by
  have : a ^^^ b ^^^ b = 0 ^^^ b := by rw [h]
  simpa [UInt8.xor_assoc] using this

end Sb
