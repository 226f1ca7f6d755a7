/-
  Blocks of 16 bytes as numbers, the highest byte first, and their product. No condition.
-/
import Derived.Test.YtngbaokcbecdfaaAeSp6
namespace Go.Proofs.Ytngbaokcbecdfaa
open Go Go.RowKit D
set_option linter.unusedVariables false
set_option linter.unusedSimpArgs false
set_option maxRecDepth 100000
set_option maxHeartbeats 1000000
/-! bytes as a number -/
def beK (l : List UInt8) : Nat → Nat
  | 0 => 0
  | i + 1 => 256 * beK l i + (l.getD i 0).toNat
theorem beK_zero (l : List UInt8) : beK l 0 = 0 := rfl
theorem beK_succ (l : List UInt8) (i : Nat) : beK l (i + 1) = 256 * beK l i + (l.getD i 0).toNat := rfl
theorem pow256 (k : Nat) : (256 : Nat) ^ (k + 1) = 256 * 256 ^ k := by rw [Nat.pow_succ, Nat.mul_comm]
theorem beK_lt (l : List UInt8) (i : Nat) : beK l i < 256 ^ i := by
  induction i with
  | zero => exact Nat.one_pos
  | succ i ih => rw [beK_succ, pow256]; have := (l.getD i 0).toNat_lt; omega
theorem beK_get (l : List UInt8) : ∀ k j, j < k → beK l k / 256 ^ (k - 1 - j) % 256 = (l.getD j 0).toNat := by
  intro k
  induction k with
  | zero => intro j h; omega
  | succ k ih =>
    intro j h
    have hb := (l.getD k 0).toNat_lt
    rw [beK_succ]
    by_cases hj : j = k
    · subst hj
      rw [show j + 1 - 1 - j = 0 from by omega, Nat.pow_zero, Nat.div_one]; omega
    · rw [show k + 1 - 1 - j = (k - 1 - j) + 1 from by omega, pow256, ← Nat.div_div_eq_div_mul, show (256 * beK l k + (l.getD k 0).toNat) / 256 = beK l k from by omega]
      exact ih j (by omega)
theorem beK_congr {l m : List UInt8} : ∀ k, (∀ j, j < k → l.getD j 0 = m.getD j 0) → beK l k = beK m k := by
  intro k
  induction k with
  | zero => intro _; rfl
  | succ k ih => intro h; rw [beK_succ, beK_succ, ih (fun j hj => h j (by omega)), h k (by omega)]
theorem beK_more (l : List UInt8) (a : Nat) : ∀ b, beK l (a + b) = 256 ^ b * beK l a + beK (l.drop a) b := by
  intro b
  induction b with
  | zero => simp [beK_zero]
  | succ b ih =>
    have e : (l.drop a).getD b 0 = l.getD (a + b) 0 := by simp [List.getD_eq_getElem?_getD, List.getElem?_drop]
    rw [← Nat.add_assoc, beK_succ, ih, beK_succ, pow256, e, Nat.mul_add, Nat.mul_assoc]; omega
def byL (X k : Nat) : List UInt8 := (List.range k).map fun j => UInt8.ofNat (X / 256 ^ (k - 1 - j))
theorem byL_length (X k : Nat) : (byL X k).length = k := by simp [byL]
theorem byL_get {X k j : Nat} (h : j < k) : ((byL X k).getD j 0).toNat = X / 256 ^ (k - 1 - j) % 256 := by
  simp [byL, h]
theorem byL_beK {l : List UInt8} {k : Nat} (h : l.length = k) : byL (beK l k) k = l := by
  apply getD_ext (by rw [byL_length, h])
  intro j hj
  rw [byL_length] at hj
  apply UInt8.toNat_inj.1
  rw [byL_get hj, beK_get l k j hj]
theorem beK_byL_at {X k : Nat} (hX : X < 256 ^ k) : ∀ i, i ≤ k → beK (byL X k) i = X / 256 ^ (k - i) := by
  intro i
  induction i with
  | zero => intro _; rw [beK_zero, Nat.sub_zero, Nat.div_eq_of_lt hX]
  | succ i ih =>
    intro h
    have e : X / 256 ^ (k - i) = X / 256 ^ (k - 1 - i) / 256 := by rw [show k - i = (k - 1 - i) + 1 from by omega, Nat.pow_succ, Nat.div_div_eq_div_mul]
    rw [beK_succ, ih (by omega), byL_get (by omega), e, show k - (i + 1) = k - 1 - i from by omega]
    generalize X / 256 ^ (k - 1 - i) = q
    omega
theorem beK_byL {X k : Nat} (hX : X < 256 ^ k) : beK (byL X k) k = X := by
  rw [beK_byL_at hX k (Nat.le_refl _), Nat.sub_self, Nat.pow_zero, Nat.div_one]
theorem beK_inj {l m : List UInt8} {k : Nat} (hl : l.length = k) (hm : m.length = k) (h : beK l k = beK m k) : l = m := by
  rw [← byL_beK hl, h, byL_beK hm]
/-! xor, part by part -/
theorem xor_split (k : Nat) {a b c d : Nat} (hb : b < 2 ^ k) (hd : d < 2 ^ k) : (2 ^ k * a + b) ^^^ (2 ^ k * c + d) = 2 ^ k * (a ^^^ c) + (b ^^^ d) := by
  apply Nat.eq_of_testBit_eq
  intro j
  rw [Nat.testBit_xor, Nat.testBit_two_pow_mul_add _ hb, Nat.testBit_two_pow_mul_add _ hd, Nat.testBit_two_pow_mul_add _ (Nat.xor_lt_two_pow hb hd)]
  split <;> rw [Nat.testBit_xor]
theorem beK_xor (s t : List UInt8) (n : Nat) : ∀ k, k ≤ n → beK (xorA s t n) k = beK s k ^^^ beK t k := by
  intro k
  induction k with
  | zero => intro _; simp [beK_zero]
  | succ k ih =>
    intro h
    rw [beK_succ, beK_succ, beK_succ, ih (by omega), xorA_get (by omega), UInt8.toNat_xor]
    exact (xor_split 8 (s.getD k 0).toNat_lt (t.getD k 0).toNat_lt).symm
/-! the product -/
def redR : Nat := 299076299051606071403356588563077529600
def sh (v : Nat) : Nat := (v / 2) ^^^ (v % 2 * redR)
def shI (v : Nat) : Nat → Nat
  | 0 => v
  | n + 1 => sh (shI v n)
theorem shI_zero (v : Nat) : shI v 0 = v := rfl
theorem shI_succ (v n : Nat) : shI v (n + 1) = sh (shI v n) := rfl
def gmK (b c : Nat) : Nat → Nat
  | 0 => 0
  | n + 1 => gmK b c n ^^^ (c / 2 ^ (127 - n) % 2 * shI b n)
theorem gmK_zero (b c : Nat) : gmK b c 0 = 0 := rfl
theorem gmK_succ (b c n : Nat) : gmK b c (n + 1) = gmK b c n ^^^ (c / 2 ^ (127 - n) % 2 * shI b n) := rfl
theorem gmK_yes {b c n : Nat} (h : c / 2 ^ (127 - n) % 2 = 1) : gmK b c (n + 1) = gmK b c n ^^^ shI b n := by rw [gmK_succ, h, Nat.one_mul]
theorem gmK_no {b c n : Nat} (h : c / 2 ^ (127 - n) % 2 = 0) : gmK b c (n + 1) = gmK b c n := by rw [gmK_succ, h, Nat.zero_mul, Nat.xor_zero]
def gm (b c : Nat) : Nat := gmK b c 128
theorem sh_lt {v : Nat} (h : v < 2 ^ 128) : sh v < 2 ^ 128 := by
  unfold sh
  apply Nat.xor_lt_two_pow
  · omega
  · unfold redR; rcases Nat.mod_two_eq_zero_or_one v with e | e <;> rw [e] <;> decide
theorem shI_lt {v : Nat} (h : v < 2 ^ 128) (n : Nat) : shI v n < 2 ^ 128 := by
  induction n with
  | zero => exact h
  | succ n ih => exact sh_lt ih
theorem bit_le {x y n : Nat} (h : x < 2 ^ n) : y % 2 * x < 2 ^ n := by
  rcases Nat.mod_two_eq_zero_or_one y with e | e <;> rw [e]
  · rw [Nat.zero_mul]; exact Nat.two_pow_pos n
  · rw [Nat.one_mul]; exact h
theorem gmK_lt {b : Nat} (h : b < 2 ^ 128) (c n : Nat) : gmK b c n < 2 ^ 128 := by
  induction n with
  | zero => exact Nat.two_pow_pos 128
  | succ n ih => exact Nat.xor_lt_two_pow ih (bit_le (shI_lt h n))
theorem gm_lt {b : Nat} (h : b < 2 ^ 128) (c : Nat) : gm b c < 2 ^ 128 := gmK_lt h c 128
/-! it adds -/
theorem xor_half (a b : Nat) : (a ^^^ b) / 2 = (a / 2) ^^^ (b / 2) := by
  apply Nat.eq_of_testBit_eq
  intro j
  simp only [Nat.testBit_div_two, Nat.testBit_xor]
theorem xor_mod2 (a b : Nat) : (a ^^^ b) % 2 = (a % 2) ^^^ (b % 2) := by
  have := @Nat.xor_mod_two_pow a b 1
  simpa using this
theorem bit_xor (x y r : Nat) : ((x % 2) ^^^ (y % 2)) * r = (x % 2 * r) ^^^ (y % 2 * r) := by
  rcases Nat.mod_two_eq_zero_or_one x with e | e <;> rcases Nat.mod_two_eq_zero_or_one y with f | f <;> rw [e, f] <;> simp
theorem xor4 (a b c d : Nat) : (a ^^^ b) ^^^ (c ^^^ d) = (a ^^^ c) ^^^ (b ^^^ d) := by
  rw [Nat.xor_assoc, ← Nat.xor_assoc b c d, Nat.xor_comm b c, Nat.xor_assoc c b d, ← Nat.xor_assoc]
theorem sh_xor (a b : Nat) : sh (a ^^^ b) = sh a ^^^ sh b := by
  unfold sh
  rw [xor_half, xor_mod2, bit_xor, xor4]
theorem shI_xor (a b n : Nat) : shI (a ^^^ b) n = shI a n ^^^ shI b n := by
  induction n with
  | zero => rfl
  | succ n ih => rw [shI_succ, ih, sh_xor]; rfl
theorem mul_xor (y a b : Nat) : y % 2 * (a ^^^ b) = (y % 2 * a) ^^^ (y % 2 * b) := by
  rcases Nat.mod_two_eq_zero_or_one y with e | e <;> rw [e] <;> simp
theorem gmK_xor (a b c n : Nat) : gmK (a ^^^ b) c n = gmK a c n ^^^ gmK b c n := by
  induction n with
  | zero => simp [gmK_zero]
  | succ n ih => rw [gmK_succ, gmK_succ, gmK_succ, ih, shI_xor, mul_xor, xor4]
theorem gm_xor (a b c : Nat) : gm (a ^^^ b) c = gm a c ^^^ gm b c := gmK_xor a b c 128
/-! it does not matter which is first -/
def xs (f : Nat → Nat) : Nat → Nat
  | 0 => 0
  | n + 1 => xs f n ^^^ f n
theorem xs_succ (f : Nat → Nat) (n : Nat) : xs f (n + 1) = xs f n ^^^ f n := rfl
theorem xs_congr {f g : Nat → Nat} : ∀ n, (∀ i, i < n → f i = g i) → xs f n = xs g n := by
  intro n
  induction n with
  | zero => intro _; rfl
  | succ n ih => intro h; rw [xs_succ, xs_succ, ih (fun i hi => h i (by omega)), h n (by omega)]
theorem xs_add (f g : Nat → Nat) (n : Nat) : xs (fun i => f i ^^^ g i) n = xs f n ^^^ xs g n := by
  induction n with
  | zero => simp [xs]
  | succ n ih => rw [xs_succ, xs_succ, xs_succ, ih, xor4]
theorem xs_zero (n : Nat) : xs (fun _ => 0) n = 0 := by
  induction n with
  | zero => rfl
  | succ n ih => rw [xs_succ, ih]; rfl
theorem xs_swap (f : Nat → Nat → Nat) (m : Nat) : ∀ n, xs (fun i => xs (fun j => f i j) m) n = xs (fun j => xs (fun i => f i j) n) m := by
  intro n
  induction n with
  | zero => exact (xs_zero m).symm
  | succ n ih => rw [xs_succ, ih, ← xs_add]; rfl
theorem xs_mul (y : Nat) (f : Nat → Nat) (n : Nat) : y % 2 * xs f n = xs (fun i => y % 2 * f i) n := by
  induction n with
  | zero => rfl
  | succ n ih => rw [xs_succ, xs_succ, mul_xor, ih]
def unitE (n : Nat) : Nat := shI (2 ^ 127) n
theorem sh_pow {m : Nat} (h : m < 127) : sh (2 ^ (127 - m)) = 2 ^ (127 - (m + 1)) := by
  unfold sh
  rw [show 127 - m = (127 - (m + 1)) + 1 from by omega, Nat.pow_succ, Nat.mul_mod_left, Nat.zero_mul, Nat.xor_zero, Nat.mul_div_cancel _ (by decide)]
theorem unitE_pow : ∀ m, m < 128 → unitE m = 2 ^ (127 - m) := by
  intro m
  induction m with
  | zero => intro _; rfl
  | succ m ih =>
    intro h
    unfold unitE at *
    rw [shI_succ, ih (by omega), sh_pow (by omega)]
theorem bits_of : ∀ k, k ≤ 128 → ∀ b, b < 2 ^ 128 → xs (fun m => b / 2 ^ (127 - m) % 2 * 2 ^ (127 - m)) k = b / 2 ^ (128 - k) * 2 ^ (128 - k) := by
  intro k
  induction k with
  | zero => intro _ b hb; rw [Nat.sub_zero, Nat.div_eq_of_lt hb, Nat.zero_mul]; rfl
  | succ k ih =>
    intro hk b hb
    rw [xs_succ, ih (by omega) b hb, show 128 - k = (127 - k) + 1 from by omega, show 128 - (k + 1) = 127 - k from by omega, Nat.pow_succ, ← Nat.div_div_eq_div_mul]
    generalize b / 2 ^ (127 - k) = q
    have h := xor_split (127 - k + 1) (a := q / 2) (b := 0) (c := 0) (d := q % 2 * 2 ^ (127 - k)) (Nat.two_pow_pos _) (by
      have : 0 < 2 ^ (127 - k) := Nat.two_pow_pos _
      rw [Nat.pow_succ]
      rcases Nat.mod_two_eq_zero_or_one q with e | e <;> rw [e] <;> omega)
    simp only [Nat.add_zero, Nat.mul_zero, Nat.zero_add, Nat.xor_zero, Nat.zero_xor] at h
    rw [Nat.pow_succ] at h
    rw [Nat.mul_comm (q / 2), h]
    generalize 2 ^ (127 - k) = p
    have hq : q = q / 2 * 2 + q % 2 := by omega
    conv => rhs; rw [hq]
    rw [Nat.add_mul]
    congr 1
    rw [Nat.mul_comm (p * 2), Nat.mul_comm p 2, Nat.mul_assoc]
theorem bits_all {b : Nat} (hb : b < 2 ^ 128) : xs (fun m => b / 2 ^ (127 - m) % 2 * unitE m) 128 = b := by
  rw [xs_congr 128 (g := fun m => b / 2 ^ (127 - m) % 2 * 2 ^ (127 - m)) (fun i hi => by rw [unitE_pow i hi]), bits_of 128 (Nat.le_refl _) b hb]
  simp
theorem shI_more (v m n : Nat) : shI (shI v m) n = shI v (m + n) := by
  induction n with
  | zero => rfl
  | succ n ih => rw [shI_succ, ih]; rfl
theorem shI_mul (y v n : Nat) : shI (y % 2 * v) n = y % 2 * shI v n := by
  rcases Nat.mod_two_eq_zero_or_one y with e | e <;> rw [e]
  · rw [Nat.zero_mul, Nat.zero_mul]
    induction n with
    | zero => rfl
    | succ n ih => rw [shI_succ, ih]; rfl
  · rw [Nat.one_mul, Nat.one_mul]
theorem shI_xs (f : Nat → Nat) (n : Nat) : ∀ k, shI (xs f k) n = xs (fun m => shI (f m) n) k := by
  intro k
  induction k with
  | zero =>
    show shI 0 n = 0
    have := shI_mul 0 0 n
    simpa using this
  | succ k ih => rw [xs_succ, shI_xor, ih]; rfl
theorem shI_bits {b : Nat} (hb : b < 2 ^ 128) (n : Nat) : shI b n = xs (fun m => b / 2 ^ (127 - m) % 2 * unitE (m + n)) 128 := by
  conv => lhs; rw [← bits_all hb]
  rw [shI_xs]
  exact xs_congr 128 (fun m _ => by rw [shI_mul]; unfold unitE; rw [shI_more])
theorem gmK_xs (b c : Nat) : ∀ n, gmK b c n = xs (fun i => c / 2 ^ (127 - i) % 2 * shI b i) n := by
  intro n
  induction n with
  | zero => rfl
  | succ n ih => rw [gmK_succ, ih]; rfl
theorem gm_xs {b c : Nat} (hb : b < 2 ^ 128) : gm b c = xs (fun i => xs (fun m => c / 2 ^ (127 - i) % 2 * (b / 2 ^ (127 - m) % 2 * unitE (m + i))) 128) 128 := by
  unfold gm
  rw [gmK_xs]
  exact xs_congr 128 (fun i _ => by rw [shI_bits hb, xs_mul])
theorem gm_comm {b c : Nat} (hb : b < 2 ^ 128) (hc : c < 2 ^ 128) : gm b c = gm c b := by
  rw [gm_xs hb, gm_xs hc, xs_swap]
  apply xs_congr 128
  intro j _
  apply xs_congr 128
  intro i _
  rw [Nat.mul_left_comm, Nat.add_comm j i]
theorem gm_zero (c : Nat) : gm 0 c = 0 := by
  have := gm_xor 0 0 c
  rw [Nat.xor_self, Nat.xor_self] at this
  exact this
attribute [irreducible] beK byL gm shI gmK sh redR
theorem redR_def : redR = 299076299051606071403356588563077529600 := by unfold redR; rfl
theorem sh_def (v : Nat) : sh v = (v / 2) ^^^ (v % 2 * redR) := by unfold sh; rfl
theorem shI_zero' (v : Nat) : shI v 0 = v := by unfold shI; rfl
theorem shI_succ' (v n : Nat) : shI v (n + 1) = sh (shI v n) := by conv => lhs; unfold shI
theorem gmK_zero' (b c : Nat) : gmK b c 0 = 0 := by unfold gmK; rfl
theorem gm_def (b c : Nat) : gm b c = gmK b c 128 := by unfold gm; rfl
end Go.Proofs.Ytngbaokcbecdfaa
