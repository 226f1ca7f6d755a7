/-
  What chapter 3 says of its lists, in plain Lean: no program is in sight here.
-/
import Derived.Test.YthdckldmlbeofaaRfSpec
namespace Go.Proofs.Ythdckldmlbeofaa
open Go Go.RowKit D
set_option linter.unusedVariables false
set_option linter.unusedSimpArgs false
set_option maxRecDepth 100000
/-! the example -/
def awakeK (i : Nat) : List Int := (List.range i).map fun (j : Nat) => IntKind.u8.wrap (j : Int)
theorem awakeK_zero : awakeK 0 = [] := rfl
theorem awakeK_succ (i : Nat) : awakeK (i + 1) = awakeK i ++ [IntKind.u8.wrap (i : Int)] := by simp [awakeK, List.range_succ]
theorem awakeK_length (i : Nat) : (awakeK i).length = i := by simp [awakeK]
theorem awake_ok : (blockP (toB (awakeK 32)) [0, 0, 0, 9, 0, 0, 0, 74, 0, 0, 0, 0] 1).2 = 0 ∧ (blockP (toB (awakeK 32)) [0, 0, 0, 9, 0, 0, 0, 74, 0, 0, 0, 0] 1).1.length = 64 ∧
    (blockP (toB (awakeK 32)) [0, 0, 0, 9, 0, 0, 0, 74, 0, 0, 0, 0] 1).1.take 4 = [16, 241, 231, 228] := by decide +kernel
/-! one of two bytes -/
theorem wrap8 (x : Int) : IntKind.u8.wrap x = x % 256 := by simp [IntKind.wrap, IntKind.bits, IntKind.signed]
theorem wrap32 (x : Int) : IntKind.u32.wrap x = x % 4294967296 := by simp [IntKind.wrap, IntKind.bits, IntKind.signed]
theorem ixor8 (a b : Int) : ixor .u8 a b = ((BitVec.ofInt 8 a ^^^ BitVec.ofInt 8 b).toNat : Int) := by
  unfold ixor
  rw [wrap8]
  have : (BitVec.ofInt IntKind.u8.bits a ^^^ BitVec.ofInt IntKind.u8.bits b).toNat < 256 := (BitVec.ofInt 8 a ^^^ BitVec.ofInt 8 b).isLt
  show (((BitVec.ofInt 8 a ^^^ BitVec.ofInt 8 b).toNat : Int)) % 256 = _
  have h2 : (BitVec.ofInt 8 a ^^^ BitVec.ofInt 8 b).toNat < 256 := this
  omega
theorem ixor8_range (a b : Int) : 0 ≤ ixor .u8 a b ∧ ixor .u8 a b ≤ 255 := by
  rw [ixor8]
  have h2 : (BitVec.ofInt 8 a ^^^ BitVec.ofInt 8 b).toNat < 256 := (BitVec.ofInt 8 a ^^^ BitVec.ofInt 8 b).isLt
  omega
theorem ofInt_toNat8 (x : BitVec 8) : BitVec.ofInt 8 (x.toNat : Int) = x := by
  apply BitVec.eq_of_toNat_eq
  have := x.isLt
  simp
theorem toNat_ofInt8 {a : Int} (h : 0 ≤ a ∧ a ≤ 255) : ((BitVec.ofInt 8 a).toNat : Int) = a := by
  rw [BitVec.toNat_ofInt]
  omega
theorem ixor8_twice {a b : Int} (h : 0 ≤ a ∧ a ≤ 255) : ixor .u8 (ixor .u8 a b) b = a := by
  rw [ixor8, ixor8, ofInt_toNat8, BitVec.xor_assoc, BitVec.xor_self, BitVec.xor_zero, toNat_ofInt8 h]
theorem ixor8_zero {a : Int} (h : 0 ≤ a ∧ a ≤ 255) : ixor .u8 0 a = a := by
  rw [ixor8]
  have : BitVec.ofInt 8 0 = 0#8 := rfl
  rw [this, BitVec.zero_xor, toNat_ofInt8 h]
/-! lists of bytes -/
theorem bt_toB {xs : List Int} {i : Nat} (hi : i < xs.length) (h : 0 ≤ xs.getD i 0 ∧ xs.getD i 0 ≤ 255) : bt (toB xs) i = xs.getD i 0 := by
  unfold bt toB
  simp only [List.getD_eq_getElem?_getD, List.getElem?_map, List.getElem?_eq_getElem hi, Option.map_some, Option.getD_some] at h ⊢
  rw [UInt8.toNat_ofNat']
  omega
theorem list_ext {α : Type} {d : α} {xs ys : List α} (hl : xs.length = ys.length) (h : ∀ i, i < xs.length → xs.getD i d = ys.getD i d) : xs = ys := by
  apply List.ext_getElem hl
  intro i h1 h2
  have := h i h1
  simpa [h1, h2] using this
theorem bytes_ext {xs ys : List UInt8} (hl : xs.length = ys.length) (h : ∀ i, i < xs.length → bt xs i = bt ys i) : xs = ys := by
  refine list_ext (d := 0) hl fun i hi => ?_
  have := h i hi
  unfold bt at this
  exact UInt8.toNat.inj (by omega)
theorem getD_map_range (f : Nat → Int) {m i : Nat} (h : i < m) : ((List.range m).map f).getD i 0 = f i := by
  simp [h]
/-! the stream -/
theorem stK_started (key nonce : List UInt8) (n : Int) (i : Nat) : stK key nonce n i = started key nonce (n + (i : Int)) := by
  induction i with
  | zero => rw [stK_zero]; simp
  | succ i ih =>
    rw [stK_succ, ih, started_eq, started_eq]
    have h8 := words_length key 8
    have hg : ([1634760805, 857760878, 2036477234, 1797285236] ++ words key 8 ++ [IntKind.u32.wrap (n + (i : Int))] ++ words nonce 3).getD 12 0 = IntKind.u32.wrap (n + (i : Int)) := by
      simp [List.getD_eq_getElem?_getD, List.getElem?_append, h8]
    rw [hg]
    have hs : ∀ x y : Int, ([1634760805, 857760878, 2036477234, 1797285236] ++ words key 8 ++ [x] ++ words nonce 3).set 12 y = [1634760805, 857760878, 2036477234, 1797285236] ++ words key 8 ++ [y] ++ words nonce 3 := by
      intro x y
      rw [List.append_assoc, List.set_append, if_neg (by simp [h8])]
      simp [h8]
    rw [hs]
    congr 2
    rw [wrap32, wrap32, wrap32]
    have : n + ((i + 1 : Nat) : Int) = n + (i : Int) + 1 := by omega
    rw [this]
    simp
/-- The stream's byte at place m. -/
def ks (key nonce : List UInt8) (n : Int) (m : Nat) : Int := outB (started key nonce (n + ((m / 64 : Nat) : Int))) (m % 64)
theorem outB_range (xs : List Int) (j : Nat) : 0 ≤ outB xs j ∧ outB xs j ≤ 255 := by unfold outB; rw [wrap8]; omega
theorem ks_range (key nonce : List UInt8) (n : Int) (m : Nat) : 0 ≤ ks key nonce n m ∧ ks key nonce n m ≤ 255 := outB_range _ _
theorem stirred_get (xs : List Int) {j : Nat} (h : j < 64) : (stirred xs).getD j 0 = outB xs j := by rw [stirred_range]; exact getD_map_range _ h
theorem stK_get (key nonce : List UInt8) (n : Int) (m : Nat) : (stirred (stK key nonce n (m / 64))).getD (m % 64) 0 = ks key nonce n m := by
  rw [stK_started, stirred_get _ (by omega)]; rfl
theorem xorI_get (base : Nat) (s xs : List Int) (j m : Nat) : (xorI base s xs j).getD m 0 = if base ≤ m ∧ m < base + j ∧ m < xs.length then ixor .u8 (xs.getD m 0) (s.getD (m - base) 0) else xs.getD m 0 := by
  induction j with
  | zero => rw [xorI_zero, if_neg (by omega)]
  | succ j ih =>
    by_cases hb : base + j < xs.length
    · rw [xorI_pos hb]
      by_cases hm : m = base + j
      · subst hm
        rw [if_pos (by omega)]
        have hl := xorI_length base s xs j
        rw [List.getD_eq_getElem?_getD, List.getElem?_set_self (by omega), Option.getD_some, ih, if_neg (by omega), show base + j - base = j from by omega]
      · rw [List.getD_eq_getElem?_getD, List.getElem?_set_ne (Ne.symm hm), ← List.getD_eq_getElem?_getD, ih]
        by_cases hc : base ≤ m ∧ m < base + j ∧ m < xs.length
        · rw [if_pos hc, if_pos (by omega)]
        · rw [if_neg hc, if_neg (by omega)]
    · rw [xorI_neg hb, ih]
      by_cases hc : base ≤ m ∧ m < base + j ∧ m < xs.length
      · rw [if_pos hc, if_pos (by omega)]
      · rw [if_neg hc, if_neg (by omega)]
theorem xorO_get (key nonce : List UInt8) (n : Int) (data : List UInt8) (i m : Nat) : (xorO key nonce n data i).getD m 0 = if m < 64 * i ∧ m < data.length then ixor .u8 (bt data m) (ks key nonce n m) else bt data m := by
  induction i with
  | zero => rw [xorO_zero, if_neg (by omega), ofB_getD]
  | succ i ih =>
    have hl := xorO_length key nonce n data i
    rw [xorO_succ, xorI_get, hl]
    by_cases hc : 64 * i ≤ m ∧ m < 64 * i + 64 ∧ m < data.length
    · rw [if_pos hc, if_pos (by omega), ih, if_neg (by omega)]
      rw [show m - 64 * i = m % 64 from by omega, show i = m / 64 from by omega, stK_get]
    · rw [if_neg hc, ih]
      by_cases h1 : m < 64 * i ∧ m < data.length
      · rw [if_pos h1, if_pos (by omega)]
      · rw [if_neg h1, if_neg (by omega)]
/-- Data with a stream. -/
def xorV (key nonce : List UInt8) (n : Int) (data : List UInt8) : List Int := (List.range data.length).map fun m => ixor .u8 (bt data m) (ks key nonce n m)
theorem xorV_length (key nonce : List UInt8) (n : Int) (data : List UInt8) : (xorV key nonce n data).length = data.length := by simp [xorV]
theorem xorO_all (key nonce : List UInt8) (n : Int) (data : List UInt8) : (xorO key nonce n data ((data.length + 63) / 64)).take data.length = xorV key nonce n data := by
  have hl := xorO_length key nonce n data ((data.length + 63) / 64)
  rw [List.take_of_length_le (by omega)]
  refine list_ext (d := 0) (by rw [hl, xorV_length]) fun i hi => ?_
  rw [xorO_get, if_pos (by omega), xorV, getD_map_range _ (by omega)]
theorem block_get {key nonce : List UInt8} {n : Int} (h : wrong key nonce n = 0) {j : Nat} (hj : j < 64) : bt (blockP key nonce n).1 j = outB (started key nonce n) j := by
  rw [blockP_ok h]
  show bt (toB _) j = _
  rw [List.take_of_length_le (by rw [stirred_length]; exact Nat.le_refl _), bt_toB (by rw [stirred_length]; exact hj) (by rw [stirred_get _ hj]; exact outB_range _ _), stirred_get _ hj]
theorem xorR_all {key nonce : List UInt8} {n : Int} {data : List UInt8} (h : wrong key nonce n = 0) (h1 : n + ((data.length : Int) + 63) / 64 ≤ 4294967296) : xorR key nonce n data data.length = xorV key nonce n data := by
  unfold xorR xorV
  apply List.map_congr_left
  intro m hm
  simp only [List.mem_range] at hm
  rw [block_get (wrong_shift h (by omega)) (by omega)]
  rfl
theorem xor_same (key nonce : List UInt8) (n : Int) (data : List UInt8) : xorRP key nonce n data = xorP key nonce n data := by
  by_cases h : wrong key nonce n = 0
  · by_cases h1 : n + ((data.length : Int) + 63) / 64 ≤ 4294967296
    · rw [xorRP_ok h h1, xorP_ok h (by omega), xorR_all h h1, xorO_all]
    · rw [xorRP_big h (by omega), xorP_big h (by omega)]
  · rw [xorRP_bad h, xorP_bad h]
/-! back -/
theorem xorV_get {key nonce : List UInt8} {n : Int} {data : List UInt8} {m : Nat} (hm : m < data.length) : bt (toB (xorV key nonce n data)) m = ixor .u8 (bt data m) (ks key nonce n m) := by
  have hg : (xorV key nonce n data).getD m 0 = ixor .u8 (bt data m) (ks key nonce n m) := by unfold xorV; exact getD_map_range _ hm
  rw [bt_toB (by rw [xorV_length]; exact hm) (by rw [hg]; exact ixor8_range _ _), hg]
theorem xorP_val {key nonce data : List UInt8} {n : Int} (h : wrong key nonce n = 0) (h1 : n + ((data.length : Int) + 63) / 64 ≤ 4294967296) : xorP key nonce n data = (toB (xorV key nonce n data), 0) := by
  rw [xorP_ok h (by omega), xorO_all]
theorem xorP_zero {key nonce data : List UInt8} {n : Int} (h : (xorP key nonce n data).2 = 0) : wrong key nonce n = 0 ∧ n + ((data.length : Int) + 63) / 64 ≤ 4294967296 := by
  by_cases hw : wrong key nonce n = 0
  · by_cases h1 : n + ((data.length : Int) + 63) / 64 ≤ 4294967296
    · exact ⟨hw, h1⟩
    · rw [xorP_big hw (by omega)] at h; cases h
  · rw [xorP_bad hw] at h; exact absurd h hw
theorem xorP_back {key nonce data : List UInt8} {n : Int} (h : (xorP key nonce n data).2 = 0) : xorP key nonce n (xorP key nonce n data).1 = (data, 0) := by
  obtain ⟨hw, h1⟩ := xorP_zero h
  rw [xorP_val hw h1]
  have hl : (toB (xorV key nonce n data)).length = data.length := by rw [toB_length, xorV_length]
  rw [xorP_val hw (by rw [hl]; exact h1)]
  congr 1
  refine bytes_ext (by rw [toB_length, xorV_length, hl]) fun i hi => ?_
  rw [toB_length, xorV_length] at hi
  have hi : i < data.length := by rw [← hl]; exact hi
  rw [xorV_get (by omega), xorV_get hi, ixor8_twice (bt_range _ _)]
theorem xorP_length {key nonce data : List UInt8} {n : Int} (h : (xorP key nonce n data).2 = 0) : (xorP key nonce n data).1.length = data.length := by
  obtain ⟨hw, h1⟩ := xorP_zero h
  rw [xorP_val hw h1, toB_length, xorV_length]
theorem xorP_part {key nonce data : List UInt8} {n : Int} (h : (xorP key nonce n data).2 = 0) {q : Nat} (hq : 64 * q < data.length) : xorP key nonce (n + (q : Int)) (data.drop (64 * q)) = ((xorP key nonce n data).1.drop (64 * q), 0) := by
  obtain ⟨hw, h1⟩ := xorP_zero h
  have hd : (data.drop (64 * q)).length = data.length - 64 * q := List.length_drop
  rw [xorP_val hw h1, xorP_val (wrong_shift hw (by omega)) (by rw [hd]; omega)]
  congr 1
  refine bytes_ext (by rw [toB_length, xorV_length, hd, List.length_drop, toB_length, xorV_length]) fun i hi => ?_
  rw [toB_length, xorV_length, hd] at hi
  rw [xorV_get (by omega), bt_drop, bt_drop, xorV_get (by omega)]
  congr 1
  unfold ks
  rw [show (64 * q + i) / 64 = q + i / 64 from by omega, show (64 * q + i) % 64 = i % 64 from by omega]
  congr 2
  omega
theorem xorP_key (key nonce data : List UInt8) (n : Int) : (xorP key nonce n data).2 = 21 ↔ (key.length ≠ 32 ∨ nonce.length ≠ 12) := by
  by_cases h : key.length ≠ 32 ∨ nonce.length ≠ 12
  · rw [xorP_bad (by rw [wrong_key h]; decide), wrong_key h]; simp [h]
  · have h1 : key.length = 32 := by omega
    have h2 : nonce.length = 12 := by omega
    by_cases h3 : 0 ≤ n ∧ n ≤ 4294967295
    · have hw := wrong_none h1 h2 h3
      by_cases h4 : n + ((data.length : Int) + 63) / 64 ≤ 4294967296
      · rw [xorP_val hw h4]; simp [h]
      · rw [xorP_big hw (by omega)]; simp [h]
    · have hw := wrong_arg (n := n) h1 h2 (by omega)
      rw [xorP_bad (by rw [hw]; decide), hw]; simp [h]
theorem xorP_none {key nonce data : List UInt8} {n : Int} (h : (xorP key nonce n data).2 ≠ 0) : (xorP key nonce n data).1 = [] := by
  by_cases hw : wrong key nonce n = 0
  · by_cases h1 : n + ((data.length : Int) + 63) / 64 ≤ 4294967296
    · rw [xorP_val hw h1] at h; exact absurd rfl h
    · rw [xorP_big hw (by omega)]
  · rw [xorP_bad hw]
/-! noughts -/
theorem bt_zeros (m i : Nat) : bt (List.replicate m 0) i = 0 := by
  unfold bt; rw [List.getD_eq_getElem?_getD, List.getElem?_replicate]; split <;> rfl
theorem xorP_noughts {key nonce : List UInt8} {n : Int} (h1 : key.length = 32) (h2 : nonce.length = 12) (h : 0 ≤ n ∧ n ≤ 1000000) :
    xorP key nonce n (List.replicate 128 0) = ((blockP key nonce n).1 ++ (blockP key nonce (n + 1)).1, 0) ∧ (blockP key nonce n).2 = 0 ∧ (blockP key nonce (n + 1)).2 = 0 ∧ (blockP key nonce n).1.length = 64 := by
  have hw := wrong_none (n := n) h1 h2 (by omega)
  have hw1 := wrong_none (n := n + 1) h1 h2 (by omega)
  have hl := blockP_len hw
  have hl1 := blockP_len hw1
  refine ⟨?_, by rw [blockP_snd, hw], by rw [blockP_snd, hw1], hl⟩
  rw [xorP_val hw (by rw [List.length_replicate]; omega)]
  congr 1
  refine bytes_ext (by rw [toB_length, xorV_length, List.length_append, hl, hl1, List.length_replicate]) fun i hi => ?_
  rw [toB_length, xorV_length, List.length_replicate] at hi
  rw [xorV_get (by rw [List.length_replicate]; exact hi)]
  have hz : bt (List.replicate 128 0) i = 0 := bt_zeros 128 i
  rw [hz, ixor8_zero (ks_range _ _ _ _)]
  unfold ks
  by_cases hc : i < 64
  · have : bt ((blockP key nonce n).1 ++ (blockP key nonce (n + 1)).1) i = bt (blockP key nonce n).1 i := by
      unfold bt; simp [List.getElem?_append, hl, hc]
    rw [this, block_get hw hc, show i / 64 = 0 from by omega, show i % 64 = i from by omega]
    simp
  · have : bt ((blockP key nonce n).1 ++ (blockP key nonce (n + 1)).1) i = bt (blockP key nonce (n + 1)).1 (i - 64) := by
      unfold bt; simp [List.getElem?_append, hl, hc]
    rw [this, block_get hw1 (by omega), show i / 64 = 1 from by omega, show i % 64 = i - 64 from by omega]
    rfl
end Go.Proofs.Ythdckldmlbeofaa
