/-
  The bytes of the tag, the digits of bytes, and what the loops of chapter 04 step through.
-/
import Derived.Test.YtoeholbdocmlnaaPoTag
namespace Go.Proofs.Ytoeholbdocmlnaa
open Go Go.RowKit D
set_option linter.unusedVariables false
set_option linter.unusedSimpArgs false
set_option maxHeartbeats 1000000
/-! the sum of two numbers, byte by byte -/
def cyK (V T i : Nat) : Nat := (V % 256 ^ i + T % 256 ^ i) / 256 ^ i
theorem cyK_zero (V T : Nat) : cyK V T 0 = 0 := by simp [cyK, Nat.mod_one]
theorem cyK_le (V T i : Nat) : cyK V T i ≤ 1 := by
  unfold cyK
  have h1 : V % 256 ^ i < 256 ^ i := Nat.mod_lt _ (Nat.pow_pos (by decide))
  have h2 : T % 256 ^ i < 256 ^ i := Nat.mod_lt _ (Nat.pow_pos (by decide))
  have : (V % 256 ^ i + T % 256 ^ i) / 256 ^ i < 2 := Nat.div_lt_of_lt_mul (by omega)
  omega
theorem cy_sum (V T i : Nat) : cyK V T i + V / 256 ^ i % 256 + T / 256 ^ i % 256 = (V % 256 ^ (i + 1) + T % 256 ^ (i + 1)) / 256 ^ i := by
  unfold cyK
  have hp : 0 < 256 ^ i := Nat.pow_pos (by decide)
  rw [Nat.pow_succ, Nat.mod_mul, Nat.mod_mul]
  have : V % 256 ^ i + 256 ^ i * (V / 256 ^ i % 256) + (T % 256 ^ i + 256 ^ i * (T / 256 ^ i % 256)) = (V % 256 ^ i + T % 256 ^ i) + 256 ^ i * (V / 256 ^ i % 256 + T / 256 ^ i % 256) := by grind
  rw [this, Nat.add_mul_div_left _ _ hp]
  omega
theorem cyK_succ (V T i : Nat) : cyK V T (i + 1) = (cyK V T i + V / 256 ^ i % 256 + T / 256 ^ i % 256) / 256 := by
  rw [cy_sum, Nat.div_div_eq_div_mul, ← Nat.pow_succ]; rfl
theorem cy_byte (V T i : Nat) : (cyK V T i + V / 256 ^ i % 256 + T / 256 ^ i % 256) % 256 = (V + T) / 256 ^ i % 256 := by
  rw [cy_sum]
  have hp : 0 < 256 ^ i := Nat.pow_pos (by decide)
  have e : ∀ x, x / 256 ^ i % 256 = x % 256 ^ (i + 1) / 256 ^ i := fun x => by
    rw [Nat.pow_succ, Nat.mod_mul_right_div_self]
  rw [e, e (V + T), ← Nat.add_mod]
/-- The first i bytes of a number. -/
def tagL (T i : Nat) : List Int := (List.range i).map fun t => ((T / 256 ^ t % 256 : Nat) : Int)
theorem tagL_length (T i : Nat) : (tagL T i).length = i := by simp [tagL]
theorem tagL_zero (T : Nat) : tagL T 0 = [] := rfl
theorem tagL_succ (T i : Nat) : tagL T (i + 1) = tagL T i ++ [((T / 256 ^ i % 256 : Nat) : Int)] := by simp [tagL, List.range_succ]
def tagB (T : Nat) : List UInt8 := toB (tagL T 16)
theorem tagB_length (T : Nat) : (tagB T).length = 16 := by simp [tagB, toB_length, tagL_length]
theorem grp8 {V i : Nat} (hi : i < 16) : grp 8 128 V i = V / 256 ^ i % 256 := by
  unfold grp
  apply Nat.eq_of_testBit_eq
  intro t
  rw [show (256 : Nat) = 2 ^ 8 from rfl, ← Nat.pow_mul, Nat.testBit_mod_two_pow, Nat.testBit_div_two_pow, Nat.testBit_mod_two_pow, Nat.testBit_mod_two_pow, Nat.testBit_div_two_pow]
  by_cases ht : t < 8
  · have : t + 8 * i < 128 := by omega
    simp [ht, this]
  · simp [ht]
/-- The state of package poly's last loop: i bytes are summed. -/
def outK (V T i : Nat) : List Int := (List.range 16).map fun t => if t < i then (((V + T) / 256 ^ t % 256 : Nat) : Int) else ((grp 8 128 V t : Nat) : Int)
theorem outK_length (V T i : Nat) : (outK V T i).length = 16 := by simp [outK]
theorem outK_zero (V T : Nat) : outK V T 0 = grps 8 16 128 V := by simp [outK, grps]
theorem outK_full (V T : Nat) : outK V T 16 = tagL (V + T) 16 := by
  unfold outK tagL
  apply List.map_congr_left
  intro t ht
  rw [if_pos (by simpa using ht)]
theorem outK_at {V T i : Nat} (hi : i < 16) : (outK V T i).getD i 0 = ((V / 256 ^ i % 256 : Nat) : Int) := by
  simp [outK, hi, grp8 hi]
theorem outK_set {V T i : Nat} (hi : i < 16) : (outK V T i).set i (((V + T) / 256 ^ i % 256 : Nat) : Int) = outK V T (i + 1) := by
  apply List.ext_getElem
  · simp [outK]
  · intro t h1 h2
    rw [List.getElem_set]
    simp only [outK, List.getElem_map, List.getElem_range]
    by_cases ht : i = t
    · subst ht; simp
    · rw [if_neg ht]
      by_cases hlt : t < i
      · rw [if_pos hlt, if_pos (by omega)]
      · rw [if_neg hlt, if_neg (by omega)]
theorem numL_byte (l : List UInt8) : ∀ i, numL l / 256 ^ i % 256 = (l.getD i 0).toNat := by
  induction l with
  | nil => intro i; simp [numL]
  | cons c l ih =>
    intro i
    have hc := c.toNat_lt
    cases i with
    | zero => simp only [numL, Nat.pow_zero, Nat.div_one, List.getD_cons_zero]; omega
    | succ i =>
      rw [List.getD_cons_succ, ← ih i, Nat.pow_succ, Nat.mul_comm, ← Nat.div_div_eq_div_mul]
      simp only [numL]
      congr 2
      omega
theorem bt_num (l : List UInt8) (i : Nat) : bt l i = ((numL l / 256 ^ i % 256 : Nat) : Int) := by rw [numL_byte]; rfl
/-! bits of bytes -/
theorem bit_bytes (l : List UInt8) {i k : Nat} (hk : k < 8) : (l.getD i 0).toNat / 2 ^ k % 2 = numL l / 2 ^ (8 * i + k) % 2 := by
  rw [← numL_byte, bit01, bit01, show (256 : Nat) = 2 ^ 8 from rfl, ← Nat.pow_mul, Nat.testBit_mod_two_pow, Nat.testBit_div_two_pow]
  simp [hk, Nat.add_comm]
theorem dig_test (l : List UInt8) {i k : Nat} (hk : k < 8) : iand .u8 (bt l i / 2 ^ min (k : Int).toNat IntKind.u8.bits) 1 = ((numL l / 2 ^ (8 * i + k) % 2 : Nat) : Int) := by
  rw [← bit_bytes l hk]
  unfold bt
  rw [show min (k : Int).toNat IntKind.u8.bits = k from by show min _ 8 = k; rw [Int.toNat_natCast]; omega]
  have hb := (l.getD i 0).toNat_lt
  generalize (l.getD i 0).toNat = c at *
  have h1 : ((c : Nat) : Int) / 2 ^ k = ((c / 2 ^ k : Nat) : Int) := by simp
  have h2 : c / 2 ^ k ≤ c := Nat.div_le_self _ _
  rw [h1]
  generalize c / 2 ^ k = q at *
  rw [mask_u8 1 (by decide) (by omega) (by omega) 1 (by decide)]
  simp
theorem grps_big {g n N M V : Nat} (h1 : V < 2 ^ N) (h2 : V < 2 ^ M) : grps g n N V = grps g n M V := by
  unfold grps grp
  rw [Nat.mod_eq_of_lt h1, Nat.mod_eq_of_lt h2]
theorem dig_small {V N : Nat} (hV : V < 2 ^ 130) (h : V / 2 ^ N % 2 = 1) : N < 130 := by
  rcases Nat.lt_or_ge N 130 with h1 | h1
  · exact h1
  · have : V < 2 ^ N := Nat.lt_of_lt_of_le hV (Nat.pow_le_pow_right (by decide) h1)
    rw [Nat.div_eq_of_lt this] at h; simp at h
theorem dig_step {V N : Nat} (hN : N < 130) (h : V / 2 ^ N % 2 = 1) :
    (grps 13 10 N V).set ((N : Int) / 13).toNat (ior .i64 ((grps 13 10 N V).getD ((N : Int) / 13).toNat 0) (IntKind.i64.wrap (1 * 2 ^ min ((N : Int) % 13).toNat IntKind.i64.bits))) = grps 13 10 (N + 1) V := by
  rw [← grps_succ 13 10 N V (by decide) (by omega), show ((N : Int) / 13).toNat = N / 13 from by omega]
  rw [show min ((N : Int) % 13).toNat IntKind.i64.bits = N % 13 from by show min _ 64 = _; omega, grps_getD (by omega : N / 13 < 10), h, Int.one_mul, Nat.one_mul]
  have hp : (2 : Nat) ^ (N % 13) ≤ 2 ^ 12 := Nat.pow_le_pow_right (by decide) (by omega)
  have hg := grp_lt 13 N V (N / 13)
  have e : (2 : Int) ^ (N % 13) = ((2 ^ (N % 13) : Nat) : Int) := by simp
  rw [e]
  generalize (2 : Nat) ^ (N % 13) = z at *
  rw [wrap_i64_in (by omega) (by omega), ior_i64 (by omega) (by omega)]
theorem grps_bit13 {V i : Nat} (hi : i < 130) : (grp 13 130 V (i / 13)) / 2 ^ (i % 13) % 2 = V / 2 ^ i % 2 := by
  rw [bit01, bit01, grp_bit, Nat.div_add_mod, decide_eq_true (Nat.mod_lt i (by decide : 0 < 13)), decide_eq_true hi]
  simp
theorem x_step {V i k : Nat} (hi : i < 16) (hk : k < 8) :
    ior .i64 ((V / 256 ^ i % 2 ^ k : Nat) : Int) (IntKind.i64.wrap (iand .i64 ((grps 13 10 130 V).getD (((8 * i + k : Nat) : Int) / 13).toNat 0 / 2 ^ min (((8 * i + k : Nat) : Int) % 13).toNat IntKind.i64.bits) 1 * 2 ^ min (k : Int).toNat IntKind.i64.bits)) = ((V / 256 ^ i % 2 ^ (k + 1) : Nat) : Int) := by
  rw [show (((8 * i + k : Nat) : Int) / 13).toNat = (8 * i + k) / 13 from by omega, show min (((8 * i + k : Nat) : Int) % 13).toNat IntKind.i64.bits = (8 * i + k) % 13 from by show min _ 64 = _; omega, show min (k : Int).toNat IntKind.i64.bits = k from by show min _ 64 = _; omega]
  rw [grps_getD (by omega : (8 * i + k) / 13 < 10)]
  have hq := grps_bit13 (V := V) (i := 8 * i + k) (by omega)
  have hlt : grp 13 130 V ((8 * i + k) / 13) / 2 ^ ((8 * i + k) % 13) < 2 ^ 13 := Nat.lt_of_le_of_lt (Nat.div_le_self _ _) (grp_lt 13 130 V _)
  have h1 : ((grp 13 130 V ((8 * i + k) / 13) : Nat) : Int) / 2 ^ ((8 * i + k) % 13) = ((grp 13 130 V ((8 * i + k) / 13) / 2 ^ ((8 * i + k) % 13) : Nat) : Int) := by simp
  rw [h1]
  generalize grp 13 130 V ((8 * i + k) / 13) / 2 ^ ((8 * i + k) % 13) = q at hlt hq
  rw [mask_i64 1 (by decide) (by omega) (by omega) 1 (by decide), ← Int.natCast_emod, show q % 2 ^ 1 = V / 2 ^ (8 * i + k) % 2 from hq]
  have e1 : V / 2 ^ (8 * i + k) % 2 = V / 256 ^ i / 2 ^ k % 2 := by rw [Nat.div_div_eq_div_mul, show (256 : Nat) = 2 ^ 8 from rfl, ← Nat.pow_mul, ← Nat.pow_add]
  rw [e1]
  generalize V / 256 ^ i = U
  have hb : U / 2 ^ k % 2 < 2 := Nat.mod_lt _ (by decide)
  have hp : (2 : Nat) ^ k ≤ 2 ^ 7 := Nat.pow_le_pow_right (by decide) (by omega)
  have hm : U % 2 ^ k < 2 ^ k := Nat.mod_lt _ (Nat.two_pow_pos k)
  have hmul : U / 2 ^ k % 2 * 2 ^ k ≤ 1 * 2 ^ 7 := Nat.mul_le_mul (by omega) hp
  have e2 : U % 2 ^ (k + 1) = U % 2 ^ k + U / 2 ^ k % 2 * 2 ^ k := by rw [Nat.pow_succ, Nat.mod_mul, Nat.mul_comm (2 ^ k) (U / 2 ^ k % 2)]
  rw [e2]
  generalize U / 2 ^ k % 2 = b at *
  have e : (((b : Nat) : Int) * 2 ^ k) = ((b * 2 ^ k : Nat) : Int) := by simp
  rw [e, wrap_i64_in (by omega) (by omega), ior_i64 (by omega) (by omega), or_add hm]
/-! the document's clamp -/
def cl1 (xs : List Int) : Nat → List Int
  | 0 => xs
  | j + 1 => (cl1 xs j).set (4 * j + 3) (iand .u8 ((cl1 xs j).getD (4 * j + 3) 0) 15)
def cl2 (xs : List Int) : Nat → List Int
  | 0 => xs
  | j + 1 => (cl2 xs j).set (4 * j + 4) (iand .u8 ((cl2 xs j).getD (4 * j + 4) 0) 252)
theorem cl1_zero (xs : List Int) : cl1 xs 0 = xs := rfl
theorem cl1_succ (xs : List Int) (j : Nat) : cl1 xs (j + 1) = (cl1 xs j).set (4 * j + 3) (iand .u8 ((cl1 xs j).getD (4 * j + 3) 0) 15) := rfl
theorem cl2_zero (xs : List Int) : cl2 xs 0 = xs := rfl
theorem cl2_succ (xs : List Int) (j : Nat) : cl2 xs (j + 1) = (cl2 xs j).set (4 * j + 4) (iand .u8 ((cl2 xs j).getD (4 * j + 4) 0) 252) := rfl
theorem cl1_length (xs : List Int) (j : Nat) : (cl1 xs j).length = xs.length := by induction j with
  | zero => rfl
  | succ j ih => rw [cl1_succ]; simp [ih]
theorem cl2_length (xs : List Int) (j : Nat) : (cl2 xs j).length = xs.length := by induction j with
  | zero => rfl
  | succ j ih => rw [cl2_succ]; simp [ih]
attribute [irreducible] cl1 cl2
theorem cl_eq {l : List UInt8} (h : l.length = 16) : toB (cl2 (cl1 (ofB l) 4) 3) = clL l := by
  obtain ⟨a0, a1, a2, a3, a4, a5, a6, a7, a8, a9, a10, a11, a12, a13, a14, a15, rfl⟩ := list16 h
  have m15 : ∀ a : UInt8, iand .u8 ((a.toNat : Nat) : Int) 15 = (((a &&& 15).toNat : Nat) : Int) := fun a => by rw [show (15 : Int) = ((15 : Nat) : Int) from rfl, and_byte a 15 (by decide), UInt8.toNat_and]; rfl
  have m252 : ∀ a : UInt8, iand .u8 ((a.toNat : Nat) : Int) 252 = (((a &&& 252).toNat : Nat) : Int) := fun a => by rw [show (252 : Int) = ((252 : Nat) : Int) from rfl, and_byte a 252 (by decide), UInt8.toNat_and]; rfl
  have : cl2 (cl1 (ofB [a0, a1, a2, a3, a4, a5, a6, a7, a8, a9, a10, a11, a12, a13, a14, a15]) 4) 3 = ofB (clL [a0, a1, a2, a3, a4, a5, a6, a7, a8, a9, a10, a11, a12, a13, a14, a15]) := by
    simp only [cl2_succ, cl2_zero, cl1_succ, cl1_zero]
    simp only [ofB, List.map_cons, List.map_nil, Nat.mul_zero, Nat.zero_add, Nat.mul_one, Nat.reduceMul, Nat.reduceAdd, List.set_cons_succ, List.set_cons_zero, List.getD_cons_succ, List.getD_cons_zero, m15, m252]
    rfl
  rw [this, toB_ofB]
/-! the document's rest -/
def grK (xs : List Int) : Nat → Bool
  | 0 => decide (8187 ≤ xs.getD 0 0)
  | i + 1 => grK xs i && decide (xs.getD (i + 1) 0 = 8191)
theorem grK_zero (xs : List Int) : grK xs 0 = decide (8187 ≤ xs.getD 0 0) := rfl
theorem grK_succ (xs : List Int) (i : Nat) : grK xs (i + 1) = (grK xs i && decide (xs.getD (i + 1) 0 = 8191)) := rfl
attribute [irreducible] grK
def restR (xs : List Int) : List Int := if grK xs 9 = true then (List.replicate 10 0).set 0 (IntKind.i64.wrap (xs.getD 0 0 - 8187)) else xs
theorem restR_yes {xs : List Int} (h : grK xs 9 = true) : restR xs = (List.replicate 10 0).set 0 (IntKind.i64.wrap (xs.getD 0 0 - 8187)) := if_pos h
theorem restR_no {xs : List Int} (h : grK xs 9 = false) : restR xs = xs := if_neg (by simp [h])
theorem list10 {α : Type} {l : List α} (h : l.length = 10) : ∃ a0 a1 a2 a3 a4 a5 a6 a7 a8 a9, l = [a0, a1, a2, a3, a4, a5, a6, a7, a8, a9] := by
  match l, h with
  | [a0, a1, a2, a3, a4, a5, a6, a7, a8, a9], _ => exact ⟨a0, a1, a2, a3, a4, a5, a6, a7, a8, a9, rfl⟩
theorem rest10 {xs : List Int} (hl : xs.length = 10) (h : ∀ t, 0 ≤ xs.getD t 0 ∧ xs.getD t 0 < 8192) :
    (restR xs).length = 10 ∧ (∀ t, 0 ≤ (restR xs).getD t 0 ∧ (restR xs).getD t 0 < 8192) ∧ Cg (val 8192 (restR xs)) (val 8192 xs) ∧ val 8192 (restR xs) < pp := by
  have hv : ∃ a0 a1 a2 a3 a4 a5 a6 a7 a8 a9, xs = [a0, a1, a2, a3, a4, a5, a6, a7, a8, a9] := list10 hl
  obtain ⟨a0, a1, a2, a3, a4, a5, a6, a7, a8, a9, rfl⟩ := hv
  have b0 := h 0; have b1 := h 1; have b2 := h 2; have b3 := h 3; have b4 := h 4; have b5 := h 5; have b6 := h 6; have b7 := h 7; have b8 := h 8; have b9 := h 9
  simp only [List.getD_cons_zero, List.getD_cons_succ] at b0 b1 b2 b3 b4 b5 b6 b7 b8 b9
  by_cases hg : grK [a0, a1, a2, a3, a4, a5, a6, a7, a8, a9] 9 = true
  · rw [restR_yes hg]
    simp only [grK_succ, grK_zero, List.getD_cons_zero, List.getD_cons_succ, Bool.and_eq_true, decide_eq_true_eq, Nat.reduceAdd, Nat.zero_add] at hg
    rw [List.getD_cons_zero, wrap_i64_in (by omega) (by omega)]
    refine ⟨rfl, ?_, ⟨-1, ?_⟩, ?_⟩
    · intro t
      by_cases ht : t = 0
      · subst ht; simp; omega
      · rw [getD_set_ne (Ne.symm ht)]
        simp only [List.getD_eq_getElem?_getD, List.getElem?_replicate]; split <;> simp
    · simp only [List.replicate, List.set_cons_zero, val]; unfold pp; omega
    · simp only [List.replicate, List.set_cons_zero, val]; unfold pp; omega
  · rw [restR_no (by simpa using hg)]
    refine ⟨hl, h, Cg.refl _, ?_⟩
    simp only [grK_succ, grK_zero, List.getD_cons_zero, List.getD_cons_succ, Bool.and_eq_true, decide_eq_true_eq, Nat.reduceAdd, Nat.zero_add] at hg
    simp only [val]; unfold pp; omega
theorem add10 {A B : Int} {xs ys : List Int} (hx : xs.length = 10) (hy : ys.length = 10) (hA : 0 ≤ A) (hB : 0 ≤ B) (hM : A + B < 9223372036854775808) (h1 : Ent A xs) (h2 : Ent B ys) :
    val 8192 (addK .i64 xs ys 10) = val 8192 xs + val 8192 ys ∧ Ent (A + B) (addK .i64 xs ys 10) ∧ (addK .i64 xs ys 10).length = 10 := by
  obtain ⟨a0, a1, a2, a3, a4, a5, a6, a7, a8, a9, rfl⟩ := list10 hx
  obtain ⟨c0, c1, c2, c3, c4, c5, c6, c7, c8, c9, rfl⟩ := list10 hy
  have p0 := h1 a0 (by simp); have p1 := h1 a1 (by simp); have p2 := h1 a2 (by simp); have p3 := h1 a3 (by simp); have p4 := h1 a4 (by simp)
  have p5 := h1 a5 (by simp); have p6 := h1 a6 (by simp); have p7 := h1 a7 (by simp); have p8 := h1 a8 (by simp); have p9 := h1 a9 (by simp)
  have q0 := h2 c0 (by simp); have q1 := h2 c1 (by simp); have q2 := h2 c2 (by simp); have q3 := h2 c3 (by simp); have q4 := h2 c4 (by simp)
  have q5 := h2 c5 (by simp); have q6 := h2 c6 (by simp); have q7 := h2 c7 (by simp); have q8 := h2 c8 (by simp); have q9 := h2 c9 (by simp)
  have e : addK .i64 [a0, a1, a2, a3, a4, a5, a6, a7, a8, a9] [c0, c1, c2, c3, c4, c5, c6, c7, c8, c9] 10 = [a0 + c0, a1 + c1, a2 + c2, a3 + c3, a4 + c4, a5 + c5, a6 + c6, a7 + c7, a8 + c8, a9 + c9] := by
    simp only [addK_succ, addK_zero, List.set_cons_zero, List.set_cons_succ, List.getD_cons_zero, List.getD_cons_succ]
    rw [wr10 (by omega) (by omega), wr10 (by omega) (by omega), wr10 (by omega) (by omega), wr10 (by omega) (by omega), wr10 (by omega) (by omega), wr10 (by omega) (by omega), wr10 (by omega) (by omega), wr10 (by omega) (by omega), wr10 (by omega) (by omega), wr10 (by omega) (by omega)]
  rw [e]
  refine ⟨by simp only [val]; omega, ?_, rfl⟩
  intro x hx
  simp only [List.mem_cons, List.not_mem_nil, or_false] at hx
  rcases hx with rfl | rfl | rfl | rfl | rfl | rfl | rfl | rfl | rfl | rfl <;> omega
structure I10 (xs : List Int) (a : Int) : Prop where
  len : xs.length = 10
  lo : 0 ≤ xs.getD 0 0 ∧ xs.getD 0 0 < 8192 + 10
  hi : ∀ t, 1 ≤ t → 0 ≤ xs.getD t 0 ∧ xs.getD t 0 < 8192
  v : Cg (val 8192 xs) a
theorem I10.zero : I10 (List.replicate 10 0) 0 :=
  ⟨by simp, by simp, fun t _ => by simp only [List.getD_eq_getElem?_getD, List.getElem?_replicate]; split <;> simp, by rw [val_zero]; exact Cg.refl _⟩
theorem I10.ent {xs : List Int} {a : Int} (h : I10 xs a) : Ent 8201 xs := Ent.of fun j _ => by
  rcases Nat.eq_zero_or_pos j with rfl | hj
  · have := h.lo; omega
  · have := h.hi j hj; omega
def carT (xs : List Int) : List Int := carR .i64 8192 8191 10 xs 3
theorem carT_length (xs : List Int) : (carT xs).length = xs.length := carR_length _ _ _ _ _ _
theorem ent_near {xs : List Int} {C : Int} (h0 : 0 ≤ xs.getD 0 0 ∧ xs.getD 0 0 < 8192 + 5 * C) (h : ∀ t, 1 ≤ t → 0 ≤ xs.getD t 0 ∧ xs.getD t 0 < 8192) (hC : 0 ≤ C) : Ent (8192 + 5 * C) xs := Ent.of fun j _ => by
  rcases Nat.eq_zero_or_pos j with rfl | hj
  · omega
  · have := h j hj; omega
theorem car10a {xs : List Int} {a : Int} (hl : xs.length = 10) (h : Ent 16392 xs) (hv : Cg (val 8192 xs) a) :
    (carT xs).length = 10 ∧ (∀ t, 0 ≤ (carT xs).getD t 0 ∧ (carT xs).getD t 0 < 8192) ∧ Cg (val 8192 (carT xs)) a := by
  unfold carT
  rw [carR_succ, carR_succ, carR_succ, carR_zero]
  obtain ⟨c1, c2, c3, c4⟩ := car110 (X := 16392) (C := 2) hl (by decide) h (by decide)
  obtain ⟨d1, d2, d3⟩ := near10 (dl := 10) c2 (by decide) (by omega) c3
  obtain ⟨e1, e2, e3⟩ := near10 (dl := 0) d2 (by decide) (by have := d3 0; omega) (fun t _ => d3 t)
  exact ⟨e2, e3, e1.trans (d1.trans (c1.trans hv))⟩
theorem step10 {xs rs : List Int} {a r : Int} (hx : xs.length = 10) (hxe : ∀ t, 0 ≤ xs.getD t 0 ∧ xs.getD t 0 < 8192) (hxv : Cg (val 8192 xs) a) (hr : rs.length = 10) (hre : Ent 8191 rs) (hrv : val 8192 rs = r) :
    I10 (carT (mulA .i64 10 xs rs 10)) ((a * r) % pp) := by
  have hE0 : Ent 8191 xs := Ent.of fun j _ => by have := hxe j; omega
  obtain ⟨m1, m2⟩ := mulA10 (A := 8191) (B := 8191) hx hr (by decide) (by decide) (by decide) (by decide) hE0 hre 10 (by decide)
  rw [List.take_of_length_le (by omega), hrv] at m2
  have hE : Ent 33546240500 (mulA .i64 10 xs rs 10) := m1.mono (by decide)
  unfold carT
  rw [carR_succ, carR_succ, carR_succ, carR_zero]
  obtain ⟨c1, c2, c3, c4⟩ := car110 (X := 33546240500) (C := 4095500) (mulA_length _ _ _ _ _) (by decide) hE (by decide)
  obtain ⟨d1, d2, d3, d4⟩ := car110 (X := 8192 + 5 * 4095500) (C := 2501) c2 (by decide) (ent_near c4 c3 (by decide)) (by decide)
  obtain ⟨e1, e2, e3, e4⟩ := car110 (X := 8192 + 5 * 2501) (C := 2) d2 (by decide) (ent_near d4 d3 (by decide)) (by decide)
  exact ⟨e2, ⟨e4.1, by omega⟩, e3, e1.trans (d1.trans (c1.trans (m2.trans ((Cg.mul hxv (Cg.refl _)).trans (Cg.mod _)))))⟩
theorem fin10 {xs : List Int} {a : Int} (h : I10 xs a) (ha : 0 ≤ a ∧ a < pp) : restR (carT xs) = grps 13 10 130 a.toNat := by
  obtain ⟨c1, c2, c3⟩ := car10a h.len (h.ent.mono (by decide)) h.v
  obtain ⟨e1, e2, e3, e4⟩ := rest10 c1 c2
  exact digits_of (by decide) e1 (by decide) e2 (e3.trans c3) e4 ha
/-! the sum over the pieces -/
def accN (r : Nat) (data : List UInt8) : Nat → Int
  | 0 => 0
  | j + 1 => ((accN r data j + (blkN (data.drop (16 * j)) : Int)) * (r : Int)) % pp
theorem accN_range (r : Nat) (data : List UInt8) (j : Nat) : 0 ≤ accN r data j ∧ accN r data j < pp := by
  cases j with
  | zero => exact ⟨Int.le_refl 0, by show (0 : Int) < pp; decide⟩
  | succ j => exact ⟨Int.emod_nonneg _ (by decide), Int.emod_lt_of_pos _ (by decide)⟩
def rN (key : List UInt8) : Nat := numL (clL (key.take 16))
def rL (key : List UInt8) : List Int := ofL (clK (ofB (key.take 16) ++ [0]) 4)
theorem clL_length (l : List UInt8) : (clL l).length = 16 := by simp [clL]
theorem rL_spec {key : List UInt8} (hk : key.length = 32) : (rL key).length = 5 ∧ Ent 67108863 (rL key) ∧ val 67108864 (rL key) = (rN key : Int) := by
  have h16 : (key.take 16).length = 16 := by rw [List.length_take, hk]; decide
  unfold rL
  rw [clK_eq h16]
  have hB := bytesL_app0 (clL (key.take 16))
  have hlast : (ofB (clL (key.take 16)) ++ [0]).getD 16 0 = 0 := by
    rw [List.getD_eq_getElem?_getD, List.getElem?_append_right (by rw [ofB_length, clL_length]; exact Nat.le_refl _), ofB_length, clL_length]; rfl
  obtain ⟨s1, s2, s3⟩ := of_spec (xs := ofB (clL (key.take 16)) ++ [0]) (by rw [List.length_append, ofB_length, clL_length]; rfl) hB (by rw [hlast]; decide)
  refine ⟨s3, s2, ?_⟩
  rw [s1, val_app, val_ofB]
  simp [val, rN]
def aP (key data : List UInt8) : Nat → List Int
  | 0 => List.replicate 5 0
  | j + 1 => timesP (addK .u64 (aP key data j) (ofL (ofB (padB (data.drop (16 * j))))) 5) (rL key)
theorem aP_zero (key data : List UInt8) : aP key data 0 = List.replicate 5 0 := rfl
theorem aP_succ (key data : List UInt8) (j : Nat) : aP key data (j + 1) = timesP (addK .u64 (aP key data j) (ofL (ofB (padB (data.drop (16 * j))))) 5) (rL key) := rfl
attribute [irreducible] aP rL rN accN
theorem accN_zero (r : Nat) (data : List UInt8) : accN r data 0 = 0 := by unfold accN; rfl
theorem accN_succ (r : Nat) (data : List UInt8) (j : Nat) : accN r data (j + 1) = ((accN r data j + (blkN (data.drop (16 * j)) : Int)) * (r : Int)) % pp := by conv => lhs; unfold accN
theorem aP_I5 {key data : List UInt8} (hk : key.length = 32) (j : Nat) : I5 (aP key data j) (accN (rN key) data j) := by
  induction j with
  | zero => rw [aP_zero, accN_zero]; exact I5.zero
  | succ j ih =>
    rw [aP_succ, accN_succ]
    obtain ⟨r1, r2, r3⟩ := rL_spec hk
    obtain ⟨s1, s2, s3⟩ := of_spec (xs := ofB (padB (data.drop (16 * j)))) (by rw [ofB_length, padB_length]) (bytesL_ofB _) (Int.le_trans (pad_last _) (by decide))
    exact step5 ih s3 s2 (by rw [s1, val_ofB, numL_pad]) r1 r2 r3
theorem aP_length {key data : List UInt8} (hk : key.length = 32) (j : Nat) : (aP key data j).length = 5 := (aP_I5 hk j).len
/-- The tag. -/
def accT (key data : List UInt8) : Nat := (accN (rN key) data ((data.length + 15) / 16)).toNat
def tagP (key data : List UInt8) : List UInt8 × Int := if key.length = 32 then (tagB (accT key data + numL (key.drop 16)), 0) else ([], 21)
theorem tagP_bad {key data : List UInt8} (h : ¬ key.length = 32) : tagP key data = ([], 21) := if_neg h
theorem tagP_ok {key data : List UInt8} (h : key.length = 32) : tagP key data = (tagB (accT key data + numL (key.drop 16)), 0) := if_pos h
theorem aP_fin {key data : List UInt8} (hk : key.length = 32) : restP (carR .u64 67108864 67108863 5 (aP key data ((data.length + 15) / 16)) 2) = grps 26 5 130 (accT key data) := fin5 (aP_I5 hk _) (accN_range _ _ _)
theorem drop_next (d : List UInt8) (n : Nat) (hn : n = min d.length 16) : d.drop n = d.drop 16 := by
  rcases Nat.lt_or_ge d.length 16 with h | h
  · rw [List.drop_of_length_le (by omega), List.drop_of_length_le (by omega)]
  · rw [hn, Nat.min_eq_right h]
theorem pad_list {d : List UInt8} {m : Nat} (hm : m = min d.length 16) : ((List.take 0 (List.replicate 17 (0 : Int)) ++ (ofB d).take m ++ List.drop (0 + ((ofB d).take m).length) (List.replicate 17 (0 : Int)))).set m 1 = ofB (padB d) := by
  have h16 : (d.take 16).length = m := by rw [List.length_take]; omega
  have e1 : (ofB d).take m = ofB (d.take 16) := by
    have : ofB (d.take 16) = (ofB d).take 16 := by simp [ofB, List.map_take]
    rw [this]
    rcases Nat.lt_or_ge d.length 16 with h | h
    · rw [List.take_of_length_le (by rw [ofB_length]; omega), List.take_of_length_le (by rw [ofB_length]; omega)]
    · rw [show m = 16 from by omega]
  have hlen : (ofB (d.take 16)).length = m := by rw [ofB_length, h16]
  rw [e1, hlen, List.take_zero, List.nil_append, Nat.zero_add, List.drop_replicate, List.set_append_right _ _ (by omega), hlen, Nat.sub_self]
  unfold padB
  rw [h16]
  have : 17 - m = (16 - m) + 1 := by omega
  rw [this, List.replicate_succ]
  simp [ofB]
/-! the document's sum -/
theorem blkN_lt (d : List UInt8) : blkN d < 2 ^ 130 := by
  unfold blkN
  rw [numL_app]
  have h1 := numL_lt (d.take 16)
  have h2 : (d.take 16).length ≤ 16 := List.length_take_le _ _
  have h3 : (256 : Nat) ^ (d.take 16).length ≤ 256 ^ 16 := Nat.pow_le_pow_right (by decide) h2
  have h4 : numL [1] = 1 := rfl
  rw [h4]
  omega
def bP (key data : List UInt8) : Nat → List Int
  | 0 => List.replicate 10 0
  | j + 1 => carT (mulA .i64 10 (carT (addK .i64 (bP key data j) (grps 13 10 130 (blkN (data.drop (16 * j)))) 10)) (grps 13 10 130 (rN key)) 10)
theorem bP_zero (key data : List UInt8) : bP key data 0 = List.replicate 10 0 := rfl
theorem bP_succ (key data : List UInt8) (j : Nat) : bP key data (j + 1) = carT (mulA .i64 10 (carT (addK .i64 (bP key data j) (grps 13 10 130 (blkN (data.drop (16 * j)))) 10)) (grps 13 10 130 (rN key)) 10) := rfl
attribute [irreducible] bP
theorem grps_ent (V : Nat) : Ent 8191 (grps 13 10 130 V) := fun x hx => by
  simp only [grps, List.mem_map] at hx
  obtain ⟨j, _, rfl⟩ := hx
  have := grp_lt 13 130 V j
  omega
theorem grps_val {V : Nat} (hV : V < 2 ^ 130) : val 8192 (grps 13 10 130 V) = (V : Int) := by
  have := val_grps 13 10 130 V (by decide)
  rw [Nat.mod_eq_of_lt hV] at this
  exact this
theorem rN_lt (key : List UInt8) : rN key < 2 ^ 130 := by
  unfold rN
  have := numL_lt (clL (key.take 16))
  rw [clL_length] at this
  omega
theorem bP_I10 (key data : List UInt8) (j : Nat) : I10 (bP key data j) (accN (rN key) data j) := by
  induction j with
  | zero => rw [bP_zero, accN_zero]; exact I10.zero
  | succ j ih =>
    rw [bP_succ, accN_succ]
    obtain ⟨s1, s2, s3⟩ := add10 ih.len (grps_length 13 10 130 (blkN (data.drop (16 * j)))) (by decide) (by decide) (by decide) ih.ent (grps_ent _)
    obtain ⟨c1, c2, c3⟩ := car10a (a := accN (rN key) data j + (blkN (data.drop (16 * j)) : Int)) s3 (s2.mono (by decide)) (by rw [s1, grps_val (blkN_lt _)]; exact ih.v.add (Cg.refl _))
    exact step10 c1 c2 c3 (grps_length _ _ _ _) (grps_ent _) (grps_val (rN_lt key))
theorem bP_length (key data : List UInt8) (j : Nat) : (bP key data j).length = 10 := (bP_I10 key data j).len
theorem bP_fin (key data : List UInt8) : restR (carT (bP key data ((data.length + 15) / 16))) = grps 13 10 130 (accT key data) := fin10 (bP_I10 key data _) (accN_range _ _ _)
theorem take_min (d : List UInt8) : d.take (min 16 (d.length : Int)).toNat = d.take 16 := by
  rcases Nat.lt_or_ge d.length 16 with h | h
  · rw [List.take_of_length_le (by omega), List.take_of_length_le (by omega)]
  · rw [show (min 16 (d.length : Int)).toNat = 16 from by omega]
end Go.Proofs.Ytoeholbdocmlnaa
