/-
  What package gcm computes on bytes, in plain Lean. No condition.
-/
import Derived.Test.YtngbaokcbecdfaaGcSp2
namespace Go.Proofs.Ytngbaokcbecdfaa
open Go Go.RowKit D
set_option linter.unusedVariables false
set_option linter.unusedSimpArgs false
set_option maxRecDepth 100000
set_option maxHeartbeats 1000000
theorem zs_eq (n : Nat) : zs n = List.replicate n 0 := by unfold zs; rfl
/-! a counter's block -/
def ctrB (nonce : List UInt8) (n : Nat) : List UInt8 := nonce ++ byL n 4
theorem ctrB_length {nonce : List UInt8} (h : nonce.length = 12) (n : Nat) : (ctrB nonce n).length = 16 := by rw [ctrB, List.length_append, byL_length, h]
def ctrK (nonce : List UInt8) (n i : Nat) : List UInt8 := nonce ++ (zs (4 - i) ++ (byL n 4).drop (4 - i))
theorem ctrK_length {nonce : List UInt8} (h : nonce.length = 12) (n : Nat) {i : Nat} (hi : i ≤ 4) : (ctrK nonce n i).length = 16 := by
  rw [ctrK, List.length_append, List.length_append, List.length_drop, byL_length, zs_length, h]; omega
theorem ctr_start {nonce : List UInt8} (h : nonce.length = 12) (n : Nat) : (List.replicate 16 (0 : UInt8)).take 0 ++ nonce.take (min nonce.length 16) ++ (List.replicate 16 0).drop (0 + (nonce.take (min nonce.length 16)).length) = ctrK nonce n 0 := by
  have e : (byL n 4).drop (4 - 0) = [] := List.drop_eq_nil_of_le (by rw [byL_length]; exact Nat.le_refl _)
  rw [ctrK, e, h, List.take_of_length_le (by omega : nonce.length ≤ min 12 16), h]
  rw [zs_eq]
  show [] ++ nonce ++ List.replicate 4 0 = nonce ++ (List.replicate 4 0 ++ [])
  rw [List.nil_append, List.append_nil]
theorem ctr_step {nonce : List UInt8} (h : nonce.length = 12) (n : Nat) {i : Nat} (hi : i < 4) : (ctrK nonce n i).set (15 - i) ((byL n 4).getD (3 - i) 0) = ctrK nonce n (i + 1) := by
  have hb := byL_length n 4
  unfold ctrK
  rw [List.set_append, if_neg (by omega), h, List.set_append, if_pos (by rw [zs_length]; omega)]
  have e1 : zs (4 - i) = zs (3 - i) ++ [0] := by unfold zs; rw [show 4 - i = (3 - i) + 1 from by omega, List.replicate_succ']
  have e2 : (byL n 4).drop (4 - (i + 1)) = (byL n 4).getD (3 - i) 0 :: (byL n 4).drop (4 - i) := by
    rw [show 4 - (i + 1) = 3 - i from by omega, List.drop_eq_getElem_cons (by omega), List.getD_eq_getElem?_getD, List.getElem?_eq_getElem (by omega : 3 - i < _), show 3 - i + 1 = 4 - i from by omega]; rfl
  rw [e1, e2, show 15 - i - 12 = 3 - i from by omega, List.set_append, if_neg (by rw [zs_length]; omega), zs_length, Nat.sub_self, show 4 - (i + 1) = 3 - i from by omega]
  simp
theorem ctr_byte (n : Nat) {i : Nat} (hi : i < 4) : IntKind.u8.wrap ((n : Int) / 2 ^ min (8 * (i : Int)).toNat IntKind.i64.bits) = ((((byL n 4).getD (3 - i) 0).toNat : Nat) : Int) := by
  rw [byL_get (by omega), wrap_u8, show IntKind.i64.bits = 64 from rfl, show min (8 * (i : Int)).toNat 64 = 8 * i from by omega, show 4 - 1 - (3 - i) = i from by omega, show (256 : Nat) ^ i = 2 ^ (8 * i) from by rw [Nat.pow_mul], Int.natCast_emod, Int.natCast_ediv, Int.natCast_pow]
  rfl
theorem ctrK_fin (nonce : List UInt8) (n : Nat) : ctrK nonce n 4 = ctrB nonce n := by
  unfold ctrK ctrB
  rw [Nat.sub_self, List.drop_zero, zs_eq]; rfl
/-- As the document says it. -/
theorem ctrB_ref (nonce : List UInt8) (n : Nat) : ctrB nonce n = nonce ++ [(byL n 4).getD 0 0, (byL n 4).getD 1 0, (byL n 4).getD 2 0, (byL n 4).getD 3 0] := by
  unfold ctrB
  congr 1
  have hb := byL_length n 4
  apply getD_ext (by rw [hb]; rfl)
  intro j hj
  rw [hb] at hj
  obtain rfl | rfl | rfl | rfl : j = 0 ∨ j = 1 ∨ j = 2 ∨ j = 3 := by omega
  all_goals rfl
/-! up to a block -/
def flB (s : List UInt8) : List UInt8 := s ++ zs ((16 - s.length % 16) % 16)
theorem flB_mod (s : List UInt8) : (flB s).length % 16 = 0 := by rw [flB, List.length_append, zs_length]; omega
theorem flB_length (s : List UInt8) : (flB s).length ≤ s.length + 15 := by rw [flB, List.length_append, zs_length]; omega
theorem fl_none {s : List UInt8} (h : s.length % 16 = 0) : flB s = s := by
  rw [flB, h, show zs ((16 - 0) % 16) = [] from by rw [zs_eq]; rfl]; exact List.append_nil s
theorem fl_more {s : List UInt8} (h : ¬ s.length % 16 = 0) : flB (s ++ [0]) = flB s := by
  unfold flB
  rw [List.append_assoc]
  congr 1
  rw [List.length_append, List.length_singleton]
  unfold zs
  rw [show (16 - s.length % 16) % 16 = (16 - (s.length + 1) % 16) % 16 + 1 from by omega, List.replicate_succ]; rfl
/-! bytes over bytes -/
def laidB (s o : List UInt8) : List UInt8 := xorA s o s.length
theorem laidB_length (s o : List UInt8) : (laidB s o).length = s.length := xorA_length _ _ _
theorem withK_all (s o : List UInt8) : withK s o s.length = laidB s o := by
  apply getD_ext
  · rw [withK_length, laidB_length]
  · intro j hj
    rw [withK_length] at hj
    rw [withK_get _ _ _ _ hj, if_pos hj, laidB, xorA_get hj]
theorem laid_back (s o : List UInt8) : laidB (laidB s o) o = s := by
  apply getD_ext
  · rw [laidB_length, laidB_length]
  · intro j hj
    rw [laidB_length, laidB_length] at hj
    rw [laidB, xorA_get (by rw [laidB_length]; exact hj), laidB, xorA_get hj, UInt8.xor_assoc, UInt8.xor_self, UInt8.xor_zero]
/-! what lies over bytes -/
def padK (nonce : List UInt8) (i : Nat) : List (List UInt8) := zs 16 :: (List.range i).map fun j => ctrB nonce (j + 1)
theorem padK_zero (nonce : List UInt8) : padK nonce 0 = [zs 16] := rfl
theorem padK_succ (nonce : List UInt8) (i : Nat) : padK nonce (i + 1) = padK nonce i ++ [ctrB nonce (i + 1)] := by simp [padK, List.range_succ]
theorem padK_length (nonce : List UInt8) (i : Nat) : (padK nonce i).length = i + 1 := by simp [padK]
theorem padK_all {nonce : List UInt8} (h : nonce.length = 12) (i : Nat) : ∀ j, j < (padK nonce i).length → ((padK nonce i).getD j []).length = 16 := by
  intro j hj
  rw [List.getD_eq_getElem?_getD, List.getElem?_eq_getElem hj, Option.getD_some]
  have hm := List.getElem_mem hj
  generalize (padK nonce i)[j] = x at *
  simp only [padK, List.mem_cons, List.mem_map, List.mem_range] at hm
  rcases hm with rfl | ⟨q, _, rfl⟩
  · exact zs_length 16
  · exact ctrB_length h _
def padL (key nonce : List UInt8) (i : Nat) : List (List UInt8) := (padK nonce i).map (blkA key)
theorem padL_length (key nonce : List UInt8) (i : Nat) : (padL key nonce i).length = i + 1 := by rw [padL, List.length_map, padK_length]
theorem padL_blocks {key nonce : List UInt8} (hk : key.length = 16) (h : nonce.length = 12) (i : Nat) : blocksP key (padK nonce i) = (padL key nonce i, 0) := blocksP_ok hk (padK_all h i)
theorem padL_zero (key nonce : List UInt8) (i : Nat) : (padL key nonce i).getD 0 [] = blkA key (zs 16) := rfl
theorem padL_get (key nonce : List UInt8) {i j : Nat} (h : j < i) : (padL key nonce i).getD (j + 1) [] = blkA key (ctrB nonce (j + 1)) := by
  simp [padL, padK, h]
theorem padL_get2 (key nonce : List UInt8) {i m : Nat} (h : i < m) : ((padL key nonce (m + 1)).drop 2).getD i [] = blkA key (ctrB nonce (i + 2)) := by
  rw [List.getD_eq_getElem?_getD, List.getElem?_drop, ← List.getD_eq_getElem?_getD, show 2 + i = (i + 1) + 1 from by omega]
  exact padL_get key nonce (by omega)
def overK (key nonce : List UInt8) (i : Nat) : List UInt8 := (List.range i).flatMap fun j => blkA key (ctrB nonce (j + 2))
theorem overK_zero (key nonce : List UInt8) : overK key nonce 0 = [] := rfl
theorem overK_succ (key nonce : List UInt8) (i : Nat) : overK key nonce (i + 1) = overK key nonce i ++ blkA key (ctrB nonce (i + 2)) := by simp [overK, List.range_succ, List.flatMap_append]
theorem overK_length (key nonce : List UInt8) (i : Nat) : (overK key nonce i).length = 16 * i := by
  induction i with
  | zero => rfl
  | succ i ih => rw [overK_succ, List.length_append, ih, blkA_length]; omega
theorem overK_get (key nonce : List UInt8) : ∀ n i, i < 16 * n → (overK key nonce n).getD i 0 = (blkA key (ctrB nonce (i / 16 + 2))).getD (i % 16) 0 := by
  intro n
  induction n with
  | zero => intro i h; omega
  | succ n ih =>
    intro i h
    have hl := overK_length key nonce n
    rw [overK_succ]
    by_cases hi : i < 16 * n
    · rw [List.getD_eq_getElem?_getD, List.getElem?_append_left (by omega), ← List.getD_eq_getElem?_getD, ih i hi]
    · rw [List.getD_eq_getElem?_getD, List.getElem?_append_right (by omega), ← List.getD_eq_getElem?_getD, hl, show i / 16 = n from by omega, show i - 16 * n = i % 16 from by omega]
def strmB (key nonce s : List UInt8) : List UInt8 := laidB s (overK key nonce ((s.length + 15) / 16))
theorem strmB_length (key nonce s : List UInt8) : (strmB key nonce s).length = s.length := laidB_length _ _
theorem strm_back (key nonce s : List UInt8) : strmB key nonce (strmB key nonce s) = s := by
  have h := strmB_length key nonce s
  unfold strmB at *
  rw [h]; exact laid_back _ _
/-! the tag -/
theorem byL_split (a : Nat) {b : Nat} (hb : b < 2 ^ 64) : byL (2 ^ 64 * a + b) 16 = byL a 8 ++ byL b 8 := by
  have l1 := byL_length a 8
  have l2 := byL_length b 8
  have e64 : (256 : Nat) ^ 8 = 2 ^ 64 := by decide
  apply getD_ext (by rw [byL_length, List.length_append, l1, l2])
  intro j hj
  rw [byL_length] at hj
  apply UInt8.toNat_inj.1
  rw [byL_get hj]
  by_cases h : j < 8
  · rw [List.getD_eq_getElem?_getD, List.getElem?_append_left (by omega), ← List.getD_eq_getElem?_getD, byL_get h, show 16 - 1 - j = 8 + (8 - 1 - j) from by omega, Nat.pow_add, e64, ← Nat.div_div_eq_div_mul, Nat.mul_add_div (Nat.two_pow_pos 64), Nat.div_eq_of_lt hb, Nat.add_zero]
  · rw [List.getD_eq_getElem?_getD, List.getElem?_append_right (by omega), ← List.getD_eq_getElem?_getD, l1, byL_get (by omega), show 16 - 1 - j = 8 - 1 - (j - 8) from by omega]
    have h7 : 8 - 1 - (j - 8) ≤ 7 := by omega
    generalize 8 - 1 - (j - 8) = q at *
    have e : 2 ^ 64 = 256 ^ q * (256 * 256 ^ (7 - q)) := by
      rw [show (256 : Nat) * 256 ^ (7 - q) = 256 ^ (1 + (7 - q)) from by rw [Nat.pow_add], ← Nat.pow_add, show q + (1 + (7 - q)) = 8 from by omega]
    rw [e, Nat.mul_assoc, Nat.mul_add_div (Nat.pow_pos (by decide)), Nat.mul_assoc, Nat.mul_add_mod]
theorem long_pair (b s : List UInt8) (hb : b.length ≤ 4294967296) (hs : s.length ≤ 4294967296) : [IntKind.u64.wrap (8 * (b.length : Int)), IntKind.u64.wrap (8 * (s.length : Int))] = pair (2 ^ 64 * (8 * b.length) + 8 * s.length) := by
  rw [wrap_u64_in (by omega) (by omega), wrap_u64_in (by omega) (by omega), pair_eq, Nat.mul_add_div (Nat.two_pow_pos 64), Nat.div_eq_of_lt (by omega), Nat.mul_add_mod, Nat.mod_eq_of_lt (by omega), Nat.add_zero]
  rfl
def longB (n : Nat) : List UInt8 := byL (8 * n) 8
def tagB (h first beside sealed : List UInt8) : List UInt8 := xorA (hashB h (flB beside ++ flB sealed ++ (longB beside.length ++ longB sealed.length))) first 16
theorem tagB_length (h f b s : List UInt8) : (tagB h f b s).length = 16 := xorA_length _ _ _
theorem tag_fin {h first : List UInt8} (b s : List UInt8) (hf : first.length = 16) : byL (beK (hashB h (flB b ++ flB s ++ (longB b.length ++ longB s.length))) 16 ^^^ beK first 16) 16 = tagB h first b s := by
  rw [← beK_xor _ _ 16 16 (Nat.le_refl _), byL_beK (xorA_length _ _ _)]; rfl
def gtag (key nonce beside sealed : List UInt8) : List UInt8 := tagB (blkA key (zs 16)) (blkA key (ctrB nonce 1)) beside sealed
theorem gtag_length (k n b s : List UInt8) : (gtag k n b s).length = 16 := xorA_length _ _ _
def sealP (key nonce beside plain : List UInt8) : List UInt8 × Int :=
  if ¬ (key.length = 16 ∧ nonce.length = 12) then ([], 21) else if 1048576 < beside.length ∨ 1048576 < plain.length then ([], 13) else (strmB key nonce plain ++ gtag key nonce beside (strmB key nonce plain), 0)
theorem sealP_key {key nonce beside plain : List UInt8} (h : ¬ (key.length = 16 ∧ nonce.length = 12)) : sealP key nonce beside plain = ([], 21) := if_pos h
theorem sealP_big {key nonce beside plain : List UInt8} (h : key.length = 16 ∧ nonce.length = 12) (h1 : 1048576 < beside.length ∨ 1048576 < plain.length) : sealP key nonce beside plain = ([], 13) := by rw [sealP, if_neg (fun g => g h), if_pos h1]
theorem sealP_ok {key nonce beside plain : List UInt8} (h : key.length = 16 ∧ nonce.length = 12) (h1 : ¬ (1048576 < beside.length ∨ 1048576 < plain.length)) : sealP key nonce beside plain = (strmB key nonce plain ++ gtag key nonce beside (strmB key nonce plain), 0) := by rw [sealP, if_neg (fun g => g h), if_neg h1]
def openP (key nonce beside sealed : List UInt8) : List UInt8 × Int :=
  if ¬ (key.length = 16 ∧ nonce.length = 12) then ([], 21) else if sealed.length < 16 then ([], 20) else if 1048576 < beside.length ∨ 1048592 < sealed.length then ([], 13) else
  if gtag key nonce beside (sealed.take (sealed.length - 16)) = sealed.drop (sealed.length - 16) then (strmB key nonce (sealed.take (sealed.length - 16)), 0) else ([], 20)
theorem openP_key {key nonce beside sealed : List UInt8} (h : ¬ (key.length = 16 ∧ nonce.length = 12)) : openP key nonce beside sealed = ([], 21) := if_pos h
theorem openP_short {key nonce beside sealed : List UInt8} (h : key.length = 16 ∧ nonce.length = 12) (h0 : sealed.length < 16) : openP key nonce beside sealed = ([], 20) := by rw [openP, if_neg (fun g => g h), if_pos h0]
theorem openP_big {key nonce beside sealed : List UInt8} (h : key.length = 16 ∧ nonce.length = 12) (h0 : ¬ sealed.length < 16) (h1 : 1048576 < beside.length ∨ 1048592 < sealed.length) : openP key nonce beside sealed = ([], 13) := by rw [openP, if_neg (fun g => g h), if_neg h0, if_pos h1]
theorem openP_tag {key nonce beside sealed : List UInt8} (h : key.length = 16 ∧ nonce.length = 12) (h0 : ¬ sealed.length < 16) (h1 : ¬ (1048576 < beside.length ∨ 1048592 < sealed.length)) (h2 : ¬ gtag key nonce beside (sealed.take (sealed.length - 16)) = sealed.drop (sealed.length - 16)) : openP key nonce beside sealed = ([], 20) := by
  rw [openP, if_neg (fun g => g h), if_neg h0, if_neg h1, if_neg h2]
theorem openP_ok {key nonce beside sealed : List UInt8} (h : key.length = 16 ∧ nonce.length = 12) (h0 : ¬ sealed.length < 16) (h1 : ¬ (1048576 < beside.length ∨ 1048592 < sealed.length)) (h2 : gtag key nonce beside (sealed.take (sealed.length - 16)) = sealed.drop (sealed.length - 16)) : openP key nonce beside sealed = (strmB key nonce (sealed.take (sealed.length - 16)), 0) := by
  rw [openP, if_neg (fun g => g h), if_neg h0, if_neg h1, if_pos h2]
/-! are two texts the same? -/
def oddK (a b : List UInt8) : Nat → UInt8
  | 0 => 0
  | i + 1 => oddK a b i ||| (a.getD i 0 ^^^ b.getD i 0)
theorem oddK_zero (a b : List UInt8) : oddK a b 0 = 0 := rfl
theorem oddK_succ (a b : List UInt8) (i : Nat) : oddK a b (i + 1) = oddK a b i ||| (a.getD i 0 ^^^ b.getD i 0) := rfl
theorem or_zero8 : ∀ x y : UInt8, (x ||| y = 0) ↔ (x = 0 ∧ y = 0) := by
  intro x y
  constructor
  · intro h
    have hb : x.toBitVec ||| y.toBitVec = 0#8 := congrArg UInt8.toBitVec h
    have key : ∀ i, i < 8 → x.toBitVec.getLsbD i = false ∧ y.toBitVec.getLsbD i = false := by
      intro i hi
      have := congrArg (fun z : BitVec 8 => z.getLsbD i) hb
      simpa using this
    constructor
    · apply UInt8.toBitVec_inj.1; apply BitVec.eq_of_getLsbD_eq; intro i hi; rw [(key i hi).1]; simp
    · apply UInt8.toBitVec_inj.1; apply BitVec.eq_of_getLsbD_eq; intro i hi; rw [(key i hi).2]; simp
  · rintro ⟨rfl, rfl⟩; rfl
theorem xor_zero8 (x y : UInt8) : (x ^^^ y = 0) ↔ (x = y) := by
  constructor
  · intro h
    have := congrArg (· ^^^ y) h
    simpa [UInt8.xor_assoc] using this
  · rintro rfl; exact UInt8.xor_self
theorem oddK_iff (a b : List UInt8) : ∀ i, oddK a b i = 0 ↔ ∀ j, j < i → a.getD j 0 = b.getD j 0 := by
  intro i
  induction i with
  | zero => exact ⟨fun _ j h => by omega, fun _ => rfl⟩
  | succ i ih =>
    rw [oddK_succ, or_zero8, ih, xor_zero8]
    constructor
    · rintro ⟨h1, h2⟩ j hj
      by_cases h : j < i
      · exact h1 j h
      · obtain rfl : j = i := by omega
        exact h2
    · intro h; exact ⟨fun j hj => h j (by omega), h i (by omega)⟩
theorem same_iff {a b : List UInt8} (h : a.length = b.length) : oddK a b a.length = 0 ↔ a = b := by
  rw [oddK_iff]
  exact ⟨fun g => getD_ext h g, fun g j _ => by rw [g]⟩
attribute [irreducible] ctrB ctrK flB laidB padK padL overK strmB longB tagB gtag sealP openP oddK
theorem oddK_zero' (a b : List UInt8) : oddK a b 0 = 0 := by unfold oddK; rfl
theorem oddK_succ' (a b : List UInt8) (i : Nat) : oddK a b (i + 1) = oddK a b i ||| (a.getD i 0 ^^^ b.getD i 0) := by conv => lhs; unfold oddK
theorem padL_zero' (key nonce : List UInt8) (i : Nat) : (padL key nonce i).getD 0 [] = blkA key (zs 16) := by unfold padL padK; rfl
theorem padK_zero' (nonce : List UInt8) : padK nonce 0 = [zs 16] := padK_zero nonce
theorem padK_succ' (nonce : List UInt8) (i : Nat) : padK nonce (i + 1) = padK nonce i ++ [ctrB nonce (i + 1)] := padK_succ nonce i
theorem overK_zero' (key nonce : List UInt8) : overK key nonce 0 = [] := overK_zero key nonce
theorem overK_succ' (key nonce : List UInt8) (i : Nat) : overK key nonce (i + 1) = overK key nonce i ++ blkA key (ctrB nonce (i + 2)) := overK_succ key nonce i
theorem overK_length' (key nonce : List UInt8) (i : Nat) : (overK key nonce i).length = 16 * i := overK_length key nonce i
theorem flB_mod' (s : List UInt8) : (flB s).length % 16 = 0 := flB_mod s
theorem flB_length' (s : List UInt8) : (flB s).length ≤ s.length + 15 := flB_length s
theorem strmB_length' (key nonce s : List UInt8) : (strmB key nonce s).length = s.length := strmB_length key nonce s
theorem gtag_length' (k n b s : List UInt8) : (gtag k n b s).length = 16 := gtag_length k n b s
theorem laidB_length' (s o : List UInt8) : (laidB s o).length = s.length := laidB_length s o
theorem hashB_length' (key bl : List UInt8) : (hashB key bl).length = 16 := hashB_length key bl
theorem tag_fin' {h first : List UInt8} (b s : List UInt8) (hf : first.length = 16) : byL (beK (hashB h (flB b ++ flB s ++ (longB b.length ++ longB s.length))) 16 ^^^ beK first 16) 16 = tagB h first b s := tag_fin b s hf
theorem overK_get' (key nonce : List UInt8) : ∀ n i, i < 16 * n → (overK key nonce n).getD i 0 = (blkA key (ctrB nonce (i / 16 + 2))).getD (i % 16) 0 := overK_get key nonce
theorem fl_none' {s : List UInt8} (h : s.length % 16 = 0) : flB s = s := fl_none h
theorem fl_more' {s : List UInt8} (h : ¬ s.length % 16 = 0) : flB (s ++ [0]) = flB s := fl_more h
theorem ctrB_ref' (nonce : List UInt8) (n : Nat) : ctrB nonce n = nonce ++ [(byL n 4).getD 0 0, (byL n 4).getD 1 0, (byL n 4).getD 2 0, (byL n 4).getD 3 0] := ctrB_ref nonce n
theorem strm_back' (key nonce s : List UInt8) : strmB key nonce (strmB key nonce s) = s := strm_back key nonce s
theorem ctrB_eq (nonce : List UInt8) (n : Nat) : ctrB nonce n = nonce ++ byL n 4 := by unfold ctrB; rfl
theorem strmB_eq (key nonce s : List UInt8) : strmB key nonce s = laidB s (overK key nonce ((s.length + 15) / 16)) := by unfold strmB; rfl
theorem gtag_eq (key nonce beside sealed : List UInt8) : gtag key nonce beside sealed = tagB (blkA key (zs 16)) (blkA key (ctrB nonce 1)) beside sealed := by unfold gtag; rfl
theorem tagB_eq (h first beside sealed : List UInt8) : tagB h first beside sealed = xorA (hashB h (flB beside ++ flB sealed ++ (longB beside.length ++ longB sealed.length))) first 16 := by unfold tagB; rfl
theorem laidB_eq (s o : List UInt8) : laidB s o = xorA s o s.length := by unfold laidB; rfl
theorem longB_eq (n : Nat) : longB n = byL (8 * n) 8 := by unfold longB; rfl
theorem long_two (a : Nat) {b : Nat} (hb : 8 * b < 2 ^ 64) : byL (2 ^ 64 * (8 * a) + 8 * b) 16 = longB a ++ longB b := by rw [longB_eq, longB_eq, byL_split _ hb]
theorem longB_length (n : Nat) : (longB n).length = 8 := by rw [longB_eq, byL_length]
theorem flB_eq (s : List UInt8) : flB s = s ++ zs ((16 - s.length % 16) % 16) := by unfold flB; rfl
end Go.Proofs.Ytngbaokcbecdfaa
