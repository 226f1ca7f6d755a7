/-
  What package gcm computes on blocks, in plain Lean. No condition.
-/
import Derived.Test.YtngbaokcbecdfaaGcSpec
namespace Go.Proofs.Ytngbaokcbecdfaa
open Go Go.RowKit D
set_option linter.unusedVariables false
set_option linter.unusedSimpArgs false
set_option maxRecDepth 100000
set_option maxHeartbeats 1000000
/-! a number of 128 bits as two halves -/
def pair (X : Nat) : List Int := [((X / 2 ^ 64 : Nat) : Int), ((X % 2 ^ 64 : Nat) : Int)]
theorem pair_length (X : Nat) : (pair X).length = 2 := rfl
theorem pair_zero : pair 0 = [0, 0] := rfl
theorem pair_at (X : Nat) {i : Nat} (h : i < 2) : (pair X).getD i 0 = ((X / 2 ^ (64 * (1 - i)) % 2 ^ 64 : Nat) : Int) ∨ (2 ^ 128 ≤ X) := by
  by_cases hX : X < 2 ^ 128
  · refine .inl ?_
    obtain rfl | rfl : i = 0 ∨ i = 1 := by omega
    · show ((X / 2 ^ 64 : Nat) : Int) = _
      rw [show 64 * (1 - 0) = 64 from rfl, Nat.mod_eq_of_lt (a := X / 2 ^ 64) (by omega)]
    · show ((X % 2 ^ 64 : Nat) : Int) = _
      rw [show 64 * (1 - 1) = 0 from rfl, Nat.pow_zero, Nat.div_one]
  · exact .inr (by omega)
theorem pair_get {X : Nat} (hX : X < 2 ^ 128) {i : Nat} (h : i < 2) : (pair X).getD i 0 = ((X / 2 ^ (64 * (1 - i)) % 2 ^ 64 : Nat) : Int) := (pair_at X h).resolve_right (by omega)
/-- of, after i bytes. -/
def ofK (s : List UInt8) (i : Nat) : List Int := [((beK s (min i 8) : Nat) : Int), ((beK (s.drop 8) (i - 8) : Nat) : Int)]
theorem ofK_zero (s : List UInt8) : ofK s 0 = [0, 0] := by simp [ofK, beK_zero]
theorem ofK_length (s : List UInt8) (i : Nat) : (ofK s i).length = 2 := rfl
theorem or8 (a : Nat) (c : UInt8) (ha : a < 256 ^ 7) : ior .u64 (IntKind.u64.wrap ((a : Int) * 2 ^ 8)) (IntKind.u64.wrap ((c.toNat : Nat) : Int)) = ((256 * a + c.toNat : Nat) : Int) := by
  have hc := c.toNat_lt
  have e1 : IntKind.u64.wrap ((a : Int) * 2 ^ 8) = ((a * 2 ^ 8 : Nat) : Int) := by rw [wrap_u64_in (by omega) (by omega)]; omega
  have e2 : IntKind.u64.wrap ((c.toNat : Nat) : Int) = ((c.toNat : Nat) : Int) := wrap_u64_in (by omega) (by omega)
  rw [e1, e2, ior_u64 (by omega) (by omega), Nat.or_comm, or_add (by omega)]
  omega
theorem of_step (s : List UInt8) {i : Nat} (hi : i < 16) : (ofK s i).set (i / 8) (ior .u64 (IntKind.u64.wrap ((ofK s i).getD (i / 8) 0 * 2 ^ 8)) (IntKind.u64.wrap (bt s i))) = ofK s (i + 1) := by
  rcases Nat.lt_or_ge i 8 with h | h
  · have hd : i / 8 = 0 := by omega
    have hb := beK_lt s (min i 8)
    have hp : 256 ^ (min i 8) ≤ 256 ^ 7 := Nat.pow_le_pow_right (by decide) (by omega)
    rw [hd]
    show [ior .u64 (IntKind.u64.wrap (((beK s (min i 8) : Nat) : Int) * 2 ^ 8)) (IntKind.u64.wrap (((s.getD i 0).toNat : Nat) : Int)), ((beK (s.drop 8) (i - 8) : Nat) : Int)] = _
    rw [or8 _ _ (by omega)]
    unfold ofK
    rw [show min (i + 1) 8 = i + 1 from by omega, show min i 8 = i from by omega, show i - 8 = 0 from by omega, show i + 1 - 8 = 0 from by omega, beK_succ]
  · have hd : i / 8 = 1 := by omega
    have hb := beK_lt (s.drop 8) (i - 8)
    have hp : 256 ^ (i - 8) ≤ 256 ^ 7 := Nat.pow_le_pow_right (by decide) (by omega)
    rw [hd]
    show [((beK s (min i 8) : Nat) : Int), ior .u64 (IntKind.u64.wrap (((beK (s.drop 8) (i - 8) : Nat) : Int) * 2 ^ 8)) (IntKind.u64.wrap (((s.getD i 0).toNat : Nat) : Int))] = _
    rw [or8 _ _ (by omega)]
    unfold ofK
    rw [show min (i + 1) 8 = 8 from by omega, show min i 8 = 8 from by omega, show i + 1 - 8 = (i - 8) + 1 from by omega, beK_succ (s.drop 8)]
    have e : (s.drop 8).getD (i - 8) 0 = s.getD i 0 := by simp [List.getD_eq_getElem?_getD, List.getElem?_drop, show 8 + (i - 8) = i from by omega]
    rw [e]
theorem ofK_fin (s : List UInt8) : ofK s 16 = pair (beK s 16) := by
  have h := beK_more s 8 8
  have hb := beK_lt (s.drop 8) 8
  rw [show (8 : Nat) + 8 = 16 from rfl] at h
  have e : (256 : Nat) ^ 8 = 2 ^ 64 := by decide
  rw [e] at h hb
  unfold ofK pair
  rw [h, show min 16 8 = 8 from rfl, show 16 - 8 = 8 from rfl, Nat.mul_add_div (Nat.two_pow_pos 64), Nat.div_eq_of_lt hb, Nat.mul_add_mod, Nat.mod_eq_of_lt hb, Nat.add_zero]
theorem beK_lt128 (s : List UInt8) : beK s 16 < 2 ^ 128 := by
  have := beK_lt s 16
  rwa [show (256 : Nat) ^ 16 = 2 ^ 128 from by decide] at this
/-! with -/
theorem pair_xor (X Y : Nat) : [ixor .u64 ((pair X).getD 0 0) ((pair Y).getD 0 0), ixor .u64 ((pair X).getD 1 0) ((pair Y).getD 1 0)] = pair (X ^^^ Y) ∨ ¬ (X < 2 ^ 128 ∧ Y < 2 ^ 128) := by
  by_cases h : X < 2 ^ 128 ∧ Y < 2 ^ 128
  · refine .inl ?_
    show [ixor .u64 ((X / 2 ^ 64 : Nat) : Int) ((Y / 2 ^ 64 : Nat) : Int), ixor .u64 ((X % 2 ^ 64 : Nat) : Int) ((Y % 2 ^ 64 : Nat) : Int)] = _
    rw [ixor_u64 (by omega) (by omega), ixor_u64 (Nat.mod_lt _ (by decide)) (Nat.mod_lt _ (by decide))]
    unfold pair
    have e1 := @Nat.shiftRight_xor_distrib 64 X Y
    rw [Nat.shiftRight_eq_div_pow, Nat.shiftRight_eq_div_pow, Nat.shiftRight_eq_div_pow] at e1
    rw [e1, Nat.xor_mod_two_pow]
  · exact .inr h
theorem pair_with {X Y : Nat} (hX : X < 2 ^ 128) (hY : Y < 2 ^ 128) : [ixor .u64 ((pair X).getD 0 0) ((pair Y).getD 0 0), ixor .u64 ((pair X).getD 1 0) ((pair Y).getD 1 0)] = pair (X ^^^ Y) := (pair_xor X Y).resolve_right (fun h => h ⟨hX, hY⟩)
/-! String -/
def strK (X i : Nat) : List UInt8 := (byL X 16).take i ++ zs (16 - i)
theorem strK_zero (X : Nat) : strK X 0 = zs 16 := by simp [strK]
theorem strK_length (X : Nat) {i : Nat} (h : i ≤ 16) : (strK X i).length = 16 := by
  rw [strK, List.length_append, List.length_take, byL_length, zs_length]; omega
theorem strK_fin (X : Nat) : strK X 16 = byL X 16 := by
  rw [strK, List.take_of_length_le (by rw [byL_length]; decide), show 16 - 16 = 0 from rfl]; simp [zs]
theorem take_set_next {l : List UInt8} {n i : Nat} (hl : l.length = n) (hi : i < n) {c : UInt8} (hc : c = l.getD i 0) : (l.take i ++ zs (n - i)).set i c = l.take (i + 1) ++ zs (n - (i + 1)) := by
  have hz : zs (n - i) = 0 :: zs (n - (i + 1)) := by unfold zs; rw [show n - i = (n - (i + 1)) + 1 from by omega, List.replicate_succ]
  have hk : (l.take i).length = i := by rw [List.length_take]; omega
  rw [hz, List.set_append, if_neg (by rw [hk]; exact Nat.lt_irrefl _), hk, Nat.sub_self, List.set_cons_zero, List.take_succ_eq_append_getElem (by omega : i < l.length), List.append_assoc, hc, List.getD_eq_getElem?_getD, List.getElem?_eq_getElem (by omega : i < l.length)]
  rfl
theorem byte_at {X : Nat} (hX : X < 2 ^ 128) {i : Nat} (hi : i < 16) : (X / 2 ^ (64 * (1 - i / 8)) % 2 ^ 64) / 2 ^ (56 - 8 * (i % 8)) % 256 = X / 256 ^ (15 - i) % 256 := by
  have e : (256 : Nat) ^ (15 - i) = 2 ^ (8 * (15 - i)) := by rw [Nat.pow_mul]
  rw [e]
  have e2 : 8 * (15 - i) = 64 * (1 - i / 8) + (56 - 8 * (i % 8)) := by omega
  rw [e2, Nat.pow_add, ← Nat.div_div_eq_div_mul]
  generalize X / 2 ^ (64 * (1 - i / 8)) = q
  have h56 : 56 - 8 * (i % 8) ≤ 56 := by omega
  generalize 56 - 8 * (i % 8) = k at *
  have e64 : (2 : Nat) ^ 64 = 2 ^ k * 2 ^ (64 - k) := by rw [← Nat.pow_add]; congr 1; omega
  have e8 : (2 : Nat) ^ (64 - k) = 256 * 2 ^ (56 - k) := by rw [show (256 : Nat) = 2 ^ 8 from rfl, ← Nat.pow_add]; congr 1; omega
  rw [e64, Nat.mod_mul_right_div_self, e8, Nat.mod_mul_right_mod]
theorem str_byte {X : Nat} (hX : X < 2 ^ 128) {i : Nat} (hi : i < 16) : IntKind.u8.wrap ((pair X).getD (i / 8) 0 / 2 ^ min (56 - 8 * ((i : Int) % 8)).toNat IntKind.u64.bits) = ((((byL X 16).getD i 0).toNat : Nat) : Int) := by
  rw [pair_get hX (by omega), byL_get hi, wrap_u8, show min ((56 - 8 * ((i : Int) % 8)).toNat) IntKind.u64.bits = 56 - 8 * (i % 8) from by rw [show IntKind.u64.bits = 64 from rfl]; omega, show 16 - 1 - i = 15 - i from by omega, ← byte_at hX hi, Int.natCast_emod, Int.natCast_ediv, Int.natCast_pow]
  rfl
theorem str_step (X : Nat) {i : Nat} (hi : i < 16) : (strK X i).set i ((byL X 16).getD i 0) = strK X (i + 1) := take_set_next (byL_length X 16) hi rfl
/-! times -/
theorem c_bit {C : Nat} (hC : C < 2 ^ 128) {n : Nat} (hn : n < 128) : iand .u64 ((pair C).getD (n / 64) 0 / 2 ^ min (63 - (n : Int) % 64).toNat IntKind.u64.bits) 1 = ((C / 2 ^ (127 - n) % 2 : Nat) : Int) := by
  rw [pair_get hC (by omega), show min ((63 - (n : Int) % 64).toNat) IntKind.u64.bits = 63 - n % 64 from by rw [show IntKind.u64.bits = 64 from rfl]; omega]
  have e2 : 127 - n = 64 * (1 - n / 64) + (63 - n % 64) := by omega
  rw [e2, Nat.pow_add, ← Nat.div_div_eq_div_mul]
  generalize C / 2 ^ (64 * (1 - n / 64)) = q
  have h63 : 63 - n % 64 ≤ 63 := by omega
  generalize 63 - n % 64 = k at *
  have e64 : (2 : Nat) ^ 64 = 2 ^ k * 2 ^ (64 - k) := by rw [← Nat.pow_add]; congr 1; omega
  have e8 : (2 : Nat) ^ (64 - k) = 2 * 2 ^ (63 - k) := by rw [Nat.mul_comm, ← Nat.pow_succ]; congr 1; omega
  have hx : q % 2 ^ 64 / 2 ^ k < 2 ^ 64 := Nat.lt_of_le_of_lt (Nat.div_le_self _ _) (Nat.mod_lt _ (by decide))
  have e3 : (((q % 2 ^ 64 : Nat) : Int) / 2 ^ k) = ((q % 2 ^ 64 / 2 ^ k : Nat) : Int) := by rw [Int.natCast_ediv, Int.natCast_pow]; rfl
  rw [e3, mask_u64 1 (by decide) (Int.natCast_nonneg _) (Int.ofNat_lt.2 hx) 1 (by decide)]
  rw [show (((2 ^ 1 : Nat)) : Int) = 2 from by decide]
  have e4 : q % 2 ^ 64 / 2 ^ k % 2 = q / 2 ^ k % 2 := by rw [e64, Nat.mod_mul_right_div_self, e8, Nat.mod_mul_right_mod]
  rw [← e4]; omega
theorem redR_split : redR = 2 ^ 64 * 16212958658533785600 + 0 := by rw [redR_def]
theorem sh_hi {X : Nat} (hX : X < 2 ^ 128) : sh X = 2 ^ 64 * ((X / 2 ^ 64 / 2) ^^^ (X % 2 * 16212958658533785600)) + ((X % 2 ^ 64 / 2) + X / 2 ^ 64 % 2 * 2 ^ 63) := by
  rw [sh_def, redR_split, show X % 2 * (2 ^ 64 * 16212958658533785600 + 0) = 2 ^ 64 * (X % 2 * 16212958658533785600) + 0 from by rw [Nat.add_zero, Nat.add_zero, Nat.mul_left_comm]]
  rw [show X / 2 = 2 ^ 64 * (X / 2 ^ 64 / 2) + ((X % 2 ^ 64 / 2) + X / 2 ^ 64 % 2 * 2 ^ 63) from by omega, xor_split 64 (by omega) (by omega), Nat.xor_zero]
theorem sh_pair {X : Nat} (hX : X < 2 ^ 128) : [ixor .u64 ((pair X).getD 0 0 / 2 ^ 1) (IntKind.u64.wrap (iand .u64 ((pair X).getD 1 0) 1 * 16212958658533785600)), ior .u64 ((pair X).getD 1 0 / 2 ^ 1) (IntKind.u64.wrap ((pair X).getD 0 0 * 2 ^ 63))] = pair (sh X) := by
  have h1 : (pair X).getD 0 0 = ((X / 2 ^ 64 : Nat) : Int) := rfl
  have h2 : (pair X).getD 1 0 = ((X % 2 ^ 64 : Nat) : Int) := rfl
  have hm : iand .u64 ((X % 2 ^ 64 : Nat) : Int) 1 = ((X % 2 ^ 64 : Nat) : Int) % ((2 ^ 1 : Nat) : Int) := mask_u64 1 (by decide) (Int.natCast_nonneg _) (Int.ofNat_lt.2 (Nat.mod_lt _ (by decide))) 1 (by decide)
  rw [h1, h2, hm, wrap_u64, wrap_u64]
  have e0 : ((2 ^ 1 : Nat) : Int) = 2 := by decide
  have e1 : ((X % 2 ^ 64 : Nat) : Int) % ((2 ^ 1 : Nat) : Int) * 16212958658533785600 % 18446744073709551616 = ((X % 2 * 16212958658533785600 : Nat) : Int) := by
    rw [e0, ← Nat.mod_mod_of_dvd X (show 2 ∣ 2 ^ 64 by decide)]
    generalize X % 2 ^ 64 = y
    omega
  have e2 : ((X / 2 ^ 64 : Nat) : Int) * 2 ^ 63 % 18446744073709551616 = ((X / 2 ^ 64 % 2 * 2 ^ 63 : Nat) : Int) := by omega
  have e3 : ((X / 2 ^ 64 : Nat) : Int) / 2 ^ 1 = ((X / 2 ^ 64 / 2 : Nat) : Int) := by omega
  have e4 : ((X % 2 ^ 64 : Nat) : Int) / 2 ^ 1 = ((X % 2 ^ 64 / 2 : Nat) : Int) := by omega
  rw [e1, e2, e3, e4, ixor_u64 (by omega) (by omega), ior_u64 (by omega) (by omega), or_add (by omega)]
  have hlt : (X / 2 ^ 64 / 2) ^^^ (X % 2 * 16212958658533785600) < 2 ^ 64 := Nat.xor_lt_two_pow (by omega) (by omega)
  unfold pair
  rw [sh_hi hX]
  generalize (X / 2 ^ 64 / 2) ^^^ (X % 2 * 16212958658533785600) = q at *
  have f1 : (2 ^ 64 * q + (X % 2 ^ 64 / 2 + X / 2 ^ 64 % 2 * 2 ^ 63)) / 2 ^ 64 = q := by omega
  have f2 : (2 ^ 64 * q + (X % 2 ^ 64 / 2 + X / 2 ^ 64 % 2 * 2 ^ 63)) % 2 ^ 64 = X % 2 ^ 64 / 2 + X / 2 ^ 64 % 2 * 2 ^ 63 := by omega
  rw [f1, f2]
/-! Hash -/
def hashK (h : Nat) (bl : List UInt8) : Nat → Nat
  | 0 => 0
  | i + 1 => gm (hashK h bl i ^^^ beK (bl.drop (16 * i)) 16) h
theorem hashK_zero (h : Nat) (bl : List UInt8) : hashK h bl 0 = 0 := rfl
theorem hashK_succ (h : Nat) (bl : List UInt8) (i : Nat) : hashK h bl (i + 1) = gm (hashK h bl i ^^^ beK (bl.drop (16 * i)) 16) h := rfl
theorem hashK_lt (h : Nat) (bl : List UInt8) (i : Nat) : hashK h bl i < 2 ^ 128 := by
  induction i with
  | zero => exact Nat.two_pow_pos 128
  | succ i ih => exact gm_lt (Nat.xor_lt_two_pow ih (beK_lt128 _)) h
def hashB (key bl : List UInt8) : List UInt8 := byL (hashK (beK key 16) bl (bl.length / 16)) 16
theorem hashB_length (key bl : List UInt8) : (hashB key bl).length = 16 := byL_length _ _
def hashP (key bl : List UInt8) : List UInt8 × Int := if key.length = 16 then (if bl.length % 16 = 0 then (hashB key bl, 0) else ([], 1)) else ([], 21)
theorem hashP_key {key : List UInt8} (bl : List UInt8) (h : ¬ key.length = 16) : hashP key bl = ([], 21) := if_neg h
theorem hashP_arg {key bl : List UInt8} (h : key.length = 16) (h1 : ¬ bl.length % 16 = 0) : hashP key bl = ([], 1) := by rw [hashP, if_pos h, if_neg h1]
theorem hashP_ok {key bl : List UInt8} (h : key.length = 16) (h1 : bl.length % 16 = 0) : hashP key bl = (hashB key bl, 0) := by rw [hashP, if_pos h, if_pos h1]
attribute [irreducible] hashK hashB hashP pair ofK strK
theorem pair_eq (X : Nat) : pair X = [((X / 2 ^ 64 : Nat) : Int), ((X % 2 ^ 64 : Nat) : Int)] := by unfold pair; rfl
theorem hashK_zero' (h : Nat) (bl : List UInt8) : hashK h bl 0 = 0 := by unfold hashK; rfl
theorem hashK_succ' (h : Nat) (bl : List UInt8) (i : Nat) : hashK h bl (i + 1) = gm (hashK h bl i ^^^ beK (bl.drop (16 * i)) 16) h := by conv => lhs; unfold hashK
theorem hashB_def (key bl : List UInt8) : hashB key bl = byL (hashK (beK key 16) bl (bl.length / 16)) 16 := by unfold hashB; rfl
end Go.Proofs.Ytngbaokcbecdfaa
