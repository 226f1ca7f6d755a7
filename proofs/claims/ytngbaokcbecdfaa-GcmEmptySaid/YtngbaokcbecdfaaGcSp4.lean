/-
  What the document computes on blocks, byte by byte, in plain Lean. No condition.
-/
import Derived.Test.YtngbaokcbecdfaaGcSp3
namespace Go.Proofs.Ytngbaokcbecdfaa
open Go Go.RowKit D
set_option linter.unusedVariables false
set_option linter.unusedSimpArgs false
set_option maxRecDepth 100000
set_option maxHeartbeats 1000000
theorem pow128 : (256 : Nat) ^ 16 = 2 ^ 128 := by decide
theorem byL_zero16 : byL 0 16 = zs 16 := by
  rw [zs_eq]
  apply getD_ext (by rw [byL_length, List.length_replicate])
  intro j hj
  rw [byL_length] at hj
  apply UInt8.toNat_inj.1
  have e : (List.replicate 16 (0 : UInt8)).getD j 0 = 0 := by rw [List.getD_eq_getElem?_getD, List.getElem?_replicate, if_pos hj]; rfl
  rw [byL_get hj, Nat.zero_div, e]; rfl
theorem byL_xor {X Y : Nat} (hX : X < 2 ^ 128) (hY : Y < 2 ^ 128) : xorA (byL X 16) (byL Y 16) 16 = byL (X ^^^ Y) 16 := by
  have h := beK_xor (byL X 16) (byL Y 16) 16 16 (Nat.le_refl _)
  rw [beK_byL (by rw [pow128]; exact hX), beK_byL (by rw [pow128]; exact hY)] at h
  rw [← h, byL_beK (xorA_length _ _ _)]
/-- A bit of a block. -/
theorem bit_eq (l : List UInt8) {n : Nat} (hn : n < 128) : iand .u8 ((((l.getD (n / 8) 0).toNat : Nat) : Int) / 2 ^ min (7 - (n : Int) % 8).toNat IntKind.u8.bits) 1 = ((beK l 16 / 2 ^ (127 - n) % 2 : Nat) : Int) := by
  rw [show IntKind.u8.bits = 8 from rfl, show min (7 - (n : Int) % 8).toNat 8 = 7 - n % 8 from by omega]
  have hg := beK_get l 16 (n / 8) (by omega)
  have hc := (l.getD (n / 8) 0).toNat_lt
  have e1 : 127 - n = 8 * (16 - 1 - n / 8) + (7 - n % 8) := by omega
  rw [e1, Nat.pow_add, ← Nat.div_div_eq_div_mul, show (2 : Nat) ^ (8 * (16 - 1 - n / 8)) = 256 ^ (16 - 1 - n / 8) from by rw [Nat.pow_mul]]
  generalize beK l 16 / 256 ^ (16 - 1 - n / 8) = q at *
  rw [← hg] at hc ⊢
  have h7 : 7 - n % 8 ≤ 7 := by omega
  generalize 7 - n % 8 = k at *
  have e2 : (((q % 256 : Nat) : Int) / 2 ^ k) = ((q % 256 / 2 ^ k : Nat) : Int) := by rw [Int.natCast_ediv, Int.natCast_pow]; rfl
  have hx : q % 256 / 2 ^ k < 256 := Nat.lt_of_le_of_lt (Nat.div_le_self _ _) hc
  rw [e2, mask_u8 1 (by decide) (Int.natCast_nonneg _) (Int.ofNat_lt.2 hx) 1 (by decide)]
  have e3 : (256 : Nat) = 2 ^ k * (2 * 2 ^ (7 - k)) := by rw [← Nat.mul_assoc, ← Nat.pow_succ, ← Nat.pow_add, show k + 1 + (7 - k) = 8 from by omega]
  have e4 : q % 256 / 2 ^ k % 2 = q / 2 ^ k % 2 := by
    conv => lhs; rw [e3]
    rw [Nat.mod_mul_right_div_self, Nat.mod_mul_right_mod]
  rw [← e4, show ((2 ^ 1 : Nat) : Int) = 2 from by decide]; omega
/-- Half of a byte, below the last bit of the one ahead. -/
def hbB (x y : UInt8) : UInt8 := UInt8.ofNat (x.toNat / 2 + y.toNat % 2 * 128)
theorem hbB_toNat (x y : UInt8) : (hbB x y).toNat = x.toNat / 2 + y.toNat % 2 * 128 := by
  have := x.toNat_lt
  rw [hbB, UInt8.toNat_ofNat', Nat.mod_eq_of_lt (by omega)]
theorem hb_eq (x y : UInt8) : ior .u8 (((x.toNat : Nat) : Int) / 2 ^ 1) (IntKind.u8.wrap (((y.toNat : Nat) : Int) * 2 ^ 7)) = (((hbB x y).toNat : Nat) : Int) := by
  have h1 := x.toNat_lt
  have h2 := y.toNat_lt
  have e1 : ((x.toNat : Nat) : Int) / 2 ^ 1 = ((x.toNat / 2 : Nat) : Int) := by omega
  have e2 : IntKind.u8.wrap (((y.toNat : Nat) : Int) * 2 ^ 7) = ((y.toNat % 2 * 2 ^ 7 : Nat) : Int) := by rw [wrap_u8]; omega
  rw [hbB_toNat, e1, e2, ior_u8 (by omega) (by omega), or_add (by omega)]
theorem hb_top (x : UInt8) : ((x.toNat : Nat) : Int) / 2 ^ 1 = (((hbB x 0).toNat : Nat) : Int) := by
  rw [hbB_toNat]; show _ = ((x.toNat / 2 + 0 % 2 * 128 : Nat) : Int); omega
def shD (l : List UInt8) : Nat → List UInt8
  | 0 => l
  | j + 1 => (shD l j).set (15 - j) (hbB ((shD l j).getD (15 - j) 0) ((shD l j).getD (14 - j) 0))
theorem shD_zero (l : List UInt8) : shD l 0 = l := rfl
theorem shD_succ (l : List UInt8) (j : Nat) : shD l (j + 1) = (shD l j).set (15 - j) (hbB ((shD l j).getD (15 - j) 0) ((shD l j).getD (14 - j) 0)) := rfl
theorem shD_length (l : List UInt8) (j : Nat) : (shD l j).length = l.length := by
  induction j with
  | zero => rfl
  | succ j ih => rw [shD_succ, List.length_set, ih]
theorem getD_set8 {l : List UInt8} {i j : Nat} {c : UInt8} : (l.set i c).getD j 0 = if i = j ∧ j < l.length then c else l.getD j 0 := by
  simp only [List.getD_eq_getElem?_getD, List.getElem?_set]
  by_cases h : i = j
  · subst h
    by_cases h2 : i < l.length
    · simp [h2]
    · simp [h2]
  · simp [h]
theorem shD_get {l : List UInt8} (hl : l.length = 16) : ∀ j, j ≤ 15 → ∀ i, i < 16 → (shD l j).getD i 0 = if 15 - j < i then hbB (l.getD i 0) (l.getD (i - 1) 0) else l.getD i 0 := by
  intro j
  induction j with
  | zero => intro _ i hi; rw [shD_zero, if_neg (by omega)]
  | succ j ih =>
    intro hj i hi
    rw [shD_succ, getD_set8, shD_length, hl]
    by_cases h : 15 - j = i
    · rw [if_pos ⟨h, hi⟩, ih (by omega) (15 - j) (by omega), ih (by omega) (14 - j) (by omega), if_neg (by omega), if_neg (by omega), if_pos (by omega), ← h, show 15 - j - 1 = 14 - j from by omega]
    · rw [if_neg (fun g => h g.1), ih (by omega) i hi]
      by_cases h2 : 15 - j < i
      · rw [if_pos h2, if_pos (by omega)]
      · rw [if_neg h2, if_neg (by omega)]
theorem xor_byte (a b k : Nat) : (a ^^^ b) / 256 ^ k % 256 = (a / 256 ^ k % 256) ^^^ (b / 256 ^ k % 256) := by
  have e : (256 : Nat) ^ k = 2 ^ (8 * k) := by rw [Nat.pow_mul]
  rw [e]
  have h := @Nat.shiftRight_xor_distrib (8 * k) a b
  rw [Nat.shiftRight_eq_div_pow, Nat.shiftRight_eq_div_pow, Nat.shiftRight_eq_div_pow] at h
  rw [h]
  exact Nat.xor_mod_two_pow (n := 8)
theorem red_byte {k : Nat} (hk : k < 16) (b : Nat) : b % 2 * redR / 256 ^ k % 256 = if k = 15 then b % 2 * 225 else 0 := by
  rw [redR_def]
  rcases Nat.mod_two_eq_zero_or_one b with e | e <;> rw [e]
  · rw [Nat.zero_mul, Nat.zero_div]; split <;> rfl
  · rw [Nat.one_mul]
    have : ∀ k : Nat, k < 16 → 299076299051606071403356588563077529600 / 256 ^ k % 256 = if k = 15 then 1 * 225 else 0 := by decide +kernel
    exact this k hk
def topB (l : List UInt8) : List UInt8 := (shD l 15).set 0 (hbB ((shD l 15).getD 0 0) 0)
theorem topB_length (l : List UInt8) : (topB l).length = l.length := by rw [topB, List.length_set, shD_length]
theorem topB_get {l : List UInt8} (hl : l.length = 16) {i : Nat} (hi : i < 16) : (topB l).getD i 0 = if i = 0 then hbB (l.getD 0 0) 0 else hbB (l.getD i 0) (l.getD (i - 1) 0) := by
  rw [topB, getD_set8, shD_length, hl]
  by_cases h : i = 0
  · subst h
    rw [if_pos ⟨rfl, hi⟩, if_pos rfl, shD_get hl 15 (by omega) 0 (by omega), if_neg (by omega)]
  · rw [if_neg (fun g => h g.1.symm), if_neg h, shD_get hl 15 (by omega) i hi, if_pos (by omega)]
theorem top_byte {V i : Nat} (hV : V < 2 ^ 128) (hi : i < 16) : ((topB (byL V 16)).getD i 0).toNat = V / 2 / 256 ^ (15 - i) % 256 := by
  rw [topB_get (byL_length V 16) hi]
  have hd : V / 2 / 256 ^ (15 - i) = V / 256 ^ (15 - i) / 2 := by rw [Nat.div_div_eq_div_mul, Nat.mul_comm, ← Nat.div_div_eq_div_mul]
  by_cases h : i = 0
  · subst h
    rw [if_pos rfl, hbB_toNat, byL_get (by omega), hd]
    show V / 256 ^ 15 % 256 / 2 + 0 % 2 * 128 = _
    have : V / 256 ^ 15 < 256 := Nat.div_lt_of_lt_mul (by rw [← Nat.pow_succ, pow128]; exact hV)
    generalize V / 256 ^ (15 - 0) = q at *
    omega
  · rw [if_neg h, hbB_toNat, byL_get hi, byL_get (by omega), hd, show 16 - 1 - i = 15 - i from by omega, show 16 - 1 - (i - 1) = (15 - i) + 1 from by omega, Nat.pow_succ, ← Nat.div_div_eq_div_mul]
    generalize V / 256 ^ (15 - i) = q
    omega
theorem sh_byte {V i : Nat} (hi : i < 16) : ((byL (sh V) 16).getD i 0).toNat = (V / 2 / 256 ^ (15 - i) % 256) ^^^ (if i = 0 then V % 2 * 225 else 0) := by
  rw [byL_get hi, show 16 - 1 - i = 15 - i from by omega, sh_def, xor_byte, red_byte (by omega)]
  by_cases h : i = 0
  · rw [if_pos h, if_pos (by omega)]
  · rw [if_neg h, if_neg (by omega)]
theorem last_bit {V : Nat} (hV : V < 2 ^ 128) : (((byL V 16).getD 15 0 &&& 1).toNat) = V % 2 := by
  rw [UInt8.toNat_and, byL_get (by decide)]
  show (V / 256 ^ 0 % 256) &&& 1 = _
  rw [Nat.pow_zero, Nat.div_one, Nat.and_one_is_mod]; omega
theorem sh_even {V : Nat} (hV : V < 2 ^ 128) (h : V % 2 = 0) : topB (byL V 16) = byL (sh V) 16 := by
  apply getD_ext (by rw [topB_length, byL_length, byL_length])
  intro i hi
  rw [topB_length, byL_length] at hi
  apply UInt8.toNat_inj.1
  rw [top_byte hV hi, sh_byte hi, h]
  split <;> simp
theorem sh_odd {V : Nat} (hV : V < 2 ^ 128) (h : V % 2 = 1) : (topB (byL V 16)).set 0 ((topB (byL V 16)).getD 0 0 ^^^ 225) = byL (sh V) 16 := by
  apply getD_ext (by rw [List.length_set, topB_length, byL_length, byL_length])
  intro i hi
  rw [List.length_set, topB_length, byL_length] at hi
  apply UInt8.toNat_inj.1
  rw [getD_set8, topB_length, byL_length, sh_byte hi, h]
  by_cases h0 : i = 0
  · subst h0
    rw [if_pos ⟨rfl, hi⟩, UInt8.toNat_xor, top_byte hV hi, if_pos rfl]; rfl
  · rw [if_neg (fun g => h0 g.1.symm), top_byte hV hi, if_neg h0, Nat.xor_zero]
/-! the document's stream, byte by byte -/
def curS (key nonce : List UInt8) (i : Nat) : List UInt8 := if i = 0 then [] else blkA key (ctrB nonce (2 + (i - 1) / 16))
theorem curS_zero (key nonce : List UInt8) : curS key nonce 0 = [] := rfl
theorem curS_succ (key nonce : List UInt8) (i : Nat) : curS key nonce (i + 1) = blkA key (ctrB nonce (2 + i / 16)) := by rw [curS, if_neg (by omega), Nat.add_sub_cancel]
theorem curS_same (key nonce : List UInt8) {i : Nat} (h : ¬ i % 16 = 0) : curS key nonce i = blkA key (ctrB nonce (2 + i / 16)) := by rw [curS, if_neg (by omega), show (i - 1) / 16 = i / 16 from by omega]
theorem strm_next (key nonce s : List UInt8) {i : Nat} (hi : i < s.length) : (strmB key nonce s).take (i + 1) = (strmB key nonce s).take i ++ [s.getD i 0 ^^^ (blkA key (ctrB nonce (2 + i / 16))).getD (i % 16) 0] := by
  have hl := strmB_length' key nonce s
  rw [List.take_succ_eq_append_getElem (by omega)]
  congr 2
  have e : (strmB key nonce s)[i]'(by omega) = (strmB key nonce s).getD i 0 := by rw [List.getD_eq_getElem?_getD, List.getElem?_eq_getElem (by omega)]; rfl
  rw [e, strmB_eq, laidB_eq, xorA_get hi, overK_get' key nonce _ i (by omega), show i / 16 + 2 = 2 + i / 16 from by omega]
theorem long_byte (n : Nat) {j : Nat} (hj : j < 8) : IntKind.u8.wrap ((8 * (n : Int)) / 2 ^ min (8 * (7 - (j : Int))).toNat IntKind.i64.bits) = ((((longB n).getD j 0).toNat : Nat) : Int) := by
  rw [longB_eq, byL_get hj, wrap_u8, show IntKind.i64.bits = 64 from rfl, show min (8 * (7 - (j : Int))).toNat 64 = 8 * (8 - 1 - j) from by omega, show (256 : Nat) ^ (8 - 1 - j) = 2 ^ (8 * (8 - 1 - j)) from by rw [Nat.pow_mul], Int.natCast_emod, Int.natCast_ediv, Int.natCast_pow, Int.natCast_mul]
  rfl
theorem ctr_part (n : Nat) (j : Nat) (hj : j < 4) : IntKind.u8.wrap ((n : Int) / 2 ^ (8 * (3 - j))) = ((((byL n 4).getD j 0).toNat : Nat) : Int) := by
  rw [byL_get hj, wrap_u8, show (256 : Nat) ^ (4 - 1 - j) = 2 ^ (8 * (3 - j)) from by rw [Nat.pow_mul], Int.natCast_emod, Int.natCast_ediv, Int.natCast_pow]
  rfl
theorem ctr_last (n : Nat) : IntKind.u8.wrap (n : Int) = ((((byL n 4).getD 3 0).toNat : Nat) : Int) := by
  have := ctr_part n 3 (by decide)
  rwa [show 8 * (3 - 3) = 0 from rfl, Int.pow_zero, Int.ediv_one] at this
theorem flB_eqn (s : List UInt8) : (flB s).length = s.length + (16 - s.length % 16) % 16 := by rw [flB_eq, List.length_append, zs_eq, List.length_replicate]
theorem zs_length16 : (zs 16).length = 16 := by rw [zs_eq]; rfl
attribute [irreducible] hbB shD topB curS
theorem shD_succ' (l : List UInt8) (j : Nat) : shD l (j + 1) = (shD l j).set (15 - j) (hbB ((shD l j).getD (15 - j) 0) ((shD l j).getD (14 - j) 0)) := by conv => lhs; unfold shD
theorem curS_zero' (key nonce : List UInt8) : curS key nonce 0 = [] := by unfold curS; rfl
theorem curS_succ' (key nonce : List UInt8) (i : Nat) : curS key nonce (i + 1) = blkA key (ctrB nonce (2 + i / 16)) := curS_succ key nonce i
theorem curS_same' (key nonce : List UInt8) {i : Nat} (h : ¬ i % 16 = 0) : curS key nonce i = blkA key (ctrB nonce (2 + i / 16)) := curS_same key nonce h
theorem ctrB_length' {nonce : List UInt8} (h : nonce.length = 12) (n : Nat) : (ctrB nonce n).length = 16 := by rw [ctrB_eq, List.length_append, byL_length, h]
theorem topB_eq (l : List UInt8) : topB l = (shD l 15).set 0 (hbB ((shD l 15).getD 0 0) 0) := by unfold topB; rfl
end Go.Proofs.Ytngbaokcbecdfaa
