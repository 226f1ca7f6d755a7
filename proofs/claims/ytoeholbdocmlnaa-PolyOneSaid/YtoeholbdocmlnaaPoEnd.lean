/-
  The plain laws of chapter 04.
-/
import Derived.Test.YtoeholbdocmlnaaPoFin
namespace Go.Proofs.Ytoeholbdocmlnaa
open Go Go.RowKit D
set_option linter.unusedVariables false
set_option linter.unusedSimpArgs false
set_option maxHeartbeats 1000000
theorem tagL_bytes (T i : Nat) : BytesL (tagL T i) := fun j => by
  unfold tagL
  by_cases hj : j < i
  · simp [hj]; omega
  · rw [List.getD_eq_getElem?_getD, List.getElem?_eq_none (by simp; omega)]; simp
theorem ofB_toB {xs : List Int} (h : BytesL xs) : ofB (toB xs) = xs := by
  apply List.ext_getElem
  · simp [ofB_length, toB_length]
  · intro i h1 h2
    have := h i
    rw [List.getD_eq_getElem?_getD, List.getElem?_eq_getElem h2] at this
    simp only [Option.getD_some] at this
    simp only [ofB, toB, List.getElem_map, UInt8.toNat_ofNat']
    omega
theorem numL_tagB (T : Nat) : numL (tagB T) = T % 2 ^ 128 := by
  have h1 : (numL (tagB T) : Int) = val 256 (ofB (tagB T)) := (val_ofB _).symm
  rw [tagB, ofB_toB (tagL_bytes T 16)] at h1
  have h2 : tagL T 16 = grps 8 16 128 T := by
    unfold tagL grps
    apply List.map_congr_left
    intro t ht
    rw [grp8 (by simpa using ht)]
  rw [h2] at h1
  have h3 := val_grps 8 16 128 T (by decide)
  have : (numL (toB (grps 8 16 128 T)) : Int) = ((T % 2 ^ 128 : Nat) : Int) := h1.trans h3
  rw [tagB, h2]
  omega
theorem numL_inj : ∀ {a b : List UInt8}, a.length = b.length → numL a = numL b → a = b := by
  intro a
  induction a with
  | nil => intro b h _; cases b with
    | nil => rfl
    | cons c b => simp at h
  | cons c a ih =>
    intro b h hn
    cases b with
    | nil => simp at h
    | cons e b =>
      simp only [numL] at hn
      have h1 := c.toNat_lt
      have h2 := e.toNat_lt
      have e1 : c.toNat = e.toNat := by omega
      have e2 : numL a = numL b := by omega
      rw [UInt8.toNat_inj.1 e1, ih (by simpa using h) e2]
theorem tagB_num {l : List UInt8} (h : l.length = 16) : tagB (numL l) = l := by
  refine numL_inj (by rw [tagB_length, h]) ?_
  rw [numL_tagB]
  have := numL_lt l
  rw [h] at this
  exact Nat.mod_eq_of_lt this
theorem acc_nil (key : List UInt8) : accT key [] = 0 := by unfold accT; rw [show (([] : List UInt8).length + 15) / 16 = 0 from rfl, accN_zero]; rfl
theorem acc_zero {key : List UInt8} (h : rN key = 0) (data : List UInt8) : accT key data = 0 := by
  unfold accT
  cases (data.length + 15) / 16 with
  | zero => rw [accN_zero]; rfl
  | succ j => rw [accN_succ, h]; simp
/-- What is asked of the example. -/
def exKey : List UInt8 := [133, 214, 190, 120, 87, 85, 109, 51, 127, 68, 82, 254, 66, 213, 6, 168, 1, 3, 128, 138, 251, 13, 178, 253, 74, 191, 246, 175, 65, 73, 245, 27]
def exData : List UInt8 := [67, 114, 121, 112, 116, 111, 103, 114, 97, 112, 104, 105, 99, 32, 70, 111, 114, 117, 109, 32, 82, 101, 115, 101, 97, 114, 99, 104, 32, 71, 114, 111, 117, 112]
theorem ex_tag : (tagP exKey exData).2 = 0 ∧ (tagP exKey exData).1.length = 16 ∧ (tagP exKey exData).1.take 4 = [168, 6, 29, 193] := by decide +kernel
theorem none_key {half : List UInt8} (h : half.length = 16) : rN (List.replicate 16 0 ++ half) = 0 := by
  unfold rN
  rw [List.take_left' (by simp)]
  decide +kernel
theorem none_one {half : List UInt8} (h : half.length = 16) : tagP (half ++ half) [] = (half, 0) := by
  rw [tagP_ok (by rw [List.length_append]; omega), acc_nil, List.drop_left' h, Nat.zero_add, tagB_num h]
theorem none_two {half : List UInt8} (h : half.length = 16) (data : List UInt8) : tagP (List.replicate 16 0 ++ half) data = (half, 0) := by
  rw [tagP_ok (by rw [List.length_append]; simp; omega), acc_zero (none_key h), List.drop_left' (by simp), Nat.zero_add, tagB_num h]
/-! bits that do not count -/
def pb1 (xs bs : List Int) : Nat → List Int
  | 0 => xs
  | i + 1 => (pb1 xs bs i).set (4 * i + 3) (ixor .u8 ((pb1 xs bs i).getD (4 * i + 3) 0) (iand .u8 (bs.getD i 0) 240))
def pb2 (xs bs : List Int) : Nat → List Int
  | 0 => xs
  | i + 1 => (pb2 xs bs i).set (4 * i + 4) (ixor .u8 ((pb2 xs bs i).getD (4 * i + 4) 0) (iand .u8 (bs.getD (4 + i) 0) 3))
theorem pb1_zero (xs bs : List Int) : pb1 xs bs 0 = xs := rfl
theorem pb2_zero (xs bs : List Int) : pb2 xs bs 0 = xs := rfl
theorem pb1_succ (xs bs : List Int) (i : Nat) : pb1 xs bs (i + 1) = (pb1 xs bs i).set (4 * i + 3) (ixor .u8 ((pb1 xs bs i).getD (4 * i + 3) 0) (iand .u8 (bs.getD i 0) 240)) := rfl
theorem pb2_succ (xs bs : List Int) (i : Nat) : pb2 xs bs (i + 1) = (pb2 xs bs i).set (4 * i + 4) (ixor .u8 ((pb2 xs bs i).getD (4 * i + 4) 0) (iand .u8 (bs.getD (4 + i) 0) 3)) := rfl
theorem pb1_length (xs bs : List Int) (i : Nat) : (pb1 xs bs i).length = xs.length := by induction i with
  | zero => rfl
  | succ i ih => rw [pb1_succ]; simp [ih]
theorem pb2_length (xs bs : List Int) (i : Nat) : (pb2 xs bs i).length = xs.length := by induction i with
  | zero => rfl
  | succ i ih => rw [pb2_succ]; simp [ih]
attribute [irreducible] pb1 pb2
theorem list7 {α : Type} {l : List α} (h : l.length = 7) : ∃ a0 a1 a2 a3 a4 a5 a6, l = [a0, a1, a2, a3, a4, a5, a6] := by
  match l, h with
  | [a0, a1, a2, a3, a4, a5, a6], _ => exact ⟨a0, a1, a2, a3, a4, a5, a6, rfl⟩
theorem xor_byte (a c : UInt8) : ixor .u8 ((a.toNat : Nat) : Int) ((c.toNat : Nat) : Int) = (((a ^^^ c).toNat : Nat) : Int) := by
  rw [ixor_u8 a.toNat_lt c.toNat_lt, UInt8.toNat_xor]
theorem and_m (a : UInt8) (m : UInt8) : iand .u8 ((a.toNat : Nat) : Int) ((m.toNat : Nat) : Int) = (((a &&& m).toNat : Nat) : Int) := by
  rw [iand_u8 a.toNat_lt m.toNat_lt, UInt8.toNat_and]
theorem u8_mask (x c : UInt8) (m k : UInt8) (h : m &&& k = 0) : (x ^^^ (c &&& m)) &&& k = x &&& k := by
  apply UInt8.toNat_inj.1
  have h0 : m.toNat &&& k.toNat = 0 := by rw [← UInt8.toNat_and, h]; rfl
  rw [UInt8.toNat_and, UInt8.toNat_xor, UInt8.toNat_and, UInt8.toNat_and, Nat.and_xor_distrib_right, Nat.and_assoc, h0, Nat.and_zero, Nat.xor_zero]
theorem bits_same {key bs : List UInt8} (hk : key.length = 32) (hb : bs.length = 7) :
    (toB (pb2 (pb1 (ofB key) (ofB bs) 4) (ofB bs) 3)).length = 32 ∧ rN (toB (pb2 (pb1 (ofB key) (ofB bs) 4) (ofB bs) 3)) = rN key ∧ (toB (pb2 (pb1 (ofB key) (ofB bs) 4) (ofB bs) 3)).drop 16 = key.drop 16 := by
  have hlen : (toB (pb2 (pb1 (ofB key) (ofB bs) 4) (ofB bs) 3)).length = 32 := by rw [toB_length, pb2_length, pb1_length, ofB_length, hk]
  refine ⟨hlen, ?_, ?_⟩
  all_goals
    have hsp : key = key.take 16 ++ key.drop 16 := (List.take_append_drop 16 key).symm
    have h1 : (key.take 16).length = 16 := by rw [List.length_take]; omega
    have h2 : (key.drop 16).length = 16 := by rw [List.length_drop]; omega
    generalize key.take 16 = p at *
    generalize key.drop 16 = q at *
    subst hsp
    obtain ⟨a0, a1, a2, a3, a4, a5, a6, a7, a8, a9, a10, a11, a12, a13, a14, a15, rfl⟩ := list16 h1
    obtain ⟨c0, c1, c2, c3, c4, c5, c6, c7, c8, c9, c10, c11, c12, c13, c14, c15, rfl⟩ := list16 h2
    obtain ⟨d0, d1, d2, d3, d4, d5, d6, rfl⟩ := list7 hb
    have e : pb2 (pb1 (ofB ([a0, a1, a2, a3, a4, a5, a6, a7, a8, a9, a10, a11, a12, a13, a14, a15] ++ [c0, c1, c2, c3, c4, c5, c6, c7, c8, c9, c10, c11, c12, c13, c14, c15])) (ofB [d0, d1, d2, d3, d4, d5, d6]) 4) (ofB [d0, d1, d2, d3, d4, d5, d6]) 3 =
        ofB [a0, a1, a2, a3 ^^^ (d0 &&& 240), a4 ^^^ (d4 &&& 3), a5, a6, a7 ^^^ (d1 &&& 240), a8 ^^^ (d5 &&& 3), a9, a10, a11 ^^^ (d2 &&& 240), a12 ^^^ (d6 &&& 3), a13, a14, a15 ^^^ (d3 &&& 240), c0, c1, c2, c3, c4, c5, c6, c7, c8, c9, c10, c11, c12, c13, c14, c15] := by
      simp only [pb2_succ, pb2_zero, pb1_succ, pb1_zero]
      simp only [ofB, List.map_cons, List.map_nil, List.cons_append, List.nil_append, Nat.mul_zero, Nat.zero_add, Nat.mul_one, Nat.reduceMul, Nat.reduceAdd, List.set_cons_succ, List.set_cons_zero, List.getD_cons_succ, List.getD_cons_zero,
        show ((240 : Int)) = (((240 : UInt8).toNat : Nat) : Int) from rfl, show ((3 : Int)) = (((3 : UInt8).toNat : Nat) : Int) from rfl, and_m, xor_byte]
    rw [e, toB_ofB]
  · unfold rN
    have e2 : clL (List.take 16 [a0, a1, a2, a3 ^^^ (d0 &&& 240), a4 ^^^ (d4 &&& 3), a5, a6, a7 ^^^ (d1 &&& 240), a8 ^^^ (d5 &&& 3), a9, a10, a11 ^^^ (d2 &&& 240), a12 ^^^ (d6 &&& 3), a13, a14, a15 ^^^ (d3 &&& 240), c0, c1, c2, c3, c4, c5, c6, c7, c8, c9, c10, c11, c12, c13, c14, c15]) = clL (List.take 16 ([a0, a1, a2, a3, a4, a5, a6, a7, a8, a9, a10, a11, a12, a13, a14, a15] ++ [c0, c1, c2, c3, c4, c5, c6, c7, c8, c9, c10, c11, c12, c13, c14, c15])) := by
      show [a0, a1, a2, (a3 ^^^ (d0 &&& 240)) &&& 15, (a4 ^^^ (d4 &&& 3)) &&& 252, a5, a6, (a7 ^^^ (d1 &&& 240)) &&& 15, (a8 ^^^ (d5 &&& 3)) &&& 252, a9, a10, (a11 ^^^ (d2 &&& 240)) &&& 15, (a12 ^^^ (d6 &&& 3)) &&& 252, a13, a14, (a15 ^^^ (d3 &&& 240)) &&& 15] =
        [a0, a1, a2, a3 &&& 15, a4 &&& 252, a5, a6, a7 &&& 15, a8 &&& 252, a9, a10, a11 &&& 15, a12 &&& 252, a13, a14, a15 &&& 15]
      simp only [u8_mask _ _ 240 15 (by decide), u8_mask _ _ 3 252 (by decide)]
    rw [e2]
  · rfl
theorem tag_same {k1 k2 : List UInt8} (h1 : k1.length = 32) (h2 : k2.length = 32) (hr : rN k1 = rN k2) (hd : k1.drop 16 = k2.drop 16) (data : List UInt8) : tagP k1 data = tagP k2 data := by
  rw [tagP_ok h1, tagP_ok h2, hd]; unfold accT; rw [hr]
/-! one changed byte -/
theorem one_key {half : List UInt8} : rN ([1] ++ List.replicate 15 0 ++ half) = 1 := by
  unfold rN
  rw [List.take_left' (by simp)]
  decide +kernel
theorem one_acc {key data : List UInt8} (h : rN key = 1) (h1 : 1 ≤ data.length ∧ data.length ≤ 16) : accT key data = numL data + 256 ^ data.length := by
  unfold accT
  rw [show (data.length + 15) / 16 = 0 + 1 from by omega, accN_succ, accN_zero, h, Nat.mul_zero, List.drop_zero]
  have e : blkN data = numL data + 256 ^ data.length := by
    unfold blkN; rw [List.take_of_length_le h1.2, numL_app]; simp [numL]
  have h2 := numL_lt data
  have h3 : (256 : Nat) ^ data.length ≤ 256 ^ 16 := Nat.pow_le_pow_right (by decide) h1.2
  have hz : numL data + 256 ^ data.length < 2 * 256 ^ 16 := by omega
  rw [e]
  generalize numL data + 256 ^ data.length = z at hz
  unfold pp
  omega
theorem one_ne {half d1 d2 : List UInt8} (hh : half.length = 16) (h1 : 1 ≤ d1.length ∧ d1.length ≤ 16) (hl : d2.length = d1.length) (hne : d1 ≠ d2) : (tagP ([1] ++ List.replicate 15 0 ++ half) d1).1 ≠ (tagP ([1] ++ List.replicate 15 0 ++ half) d2).1 := by
  have hk : ([1] ++ List.replicate 15 0 ++ half : List UInt8).length = 32 := by simp; omega
  rw [tagP_ok hk, tagP_ok hk]
  intro e
  have e2 := congrArg numL e
  simp only at e2
  rw [numL_tagB, numL_tagB, one_acc one_key h1, one_acc one_key (by omega), hl] at e2
  have b1 := numL_lt d1
  have b2 := numL_lt d2
  rw [hl] at b2
  have h3 : (256 : Nat) ^ d1.length ≤ 256 ^ 16 := Nat.pow_le_pow_right (by decide) h1.2
  refine hne (numL_inj hl.symm ?_)
  generalize (256 : Nat) ^ d1.length = z at *
  omega
theorem one_tmod (n : Int) {m : Nat} (h : 1 ≤ m) : -(m : Int) < n.tmod (m : Int) := by
  rcases Int.le_total 0 n with h0 | h0
  · have := Int.tmod_nonneg (m : Int) h0; omega
  · have h1 := Int.tmod_lt_of_pos (-n) (b := (m : Int)) (by omega)
    rw [Int.neg_tmod] at h1; omega
theorem one_set {data : List UInt8} {k : Nat} (h : k < data.length) : (ofB data).set k (IntKind.u8.wrap ((ofB data).getD k 0 + 1)) = ofB (data.set k (data.getD k 0 + 1)) := by
  have e : IntKind.u8.wrap ((ofB data).getD k 0 + 1) = (((data.getD k 0 + 1).toNat : Nat) : Int) := by
    rw [ofB_getD, wrap_u8, UInt8.toNat_add]; unfold bt; simp
  rw [e]
  simp [ofB, List.map_set]
theorem one_list {data : List UInt8} {k : Nat} (h : k < data.length) : ∃ d2, d2 = data.set k (data.getD k 0 + 1) ∧ d2.length = data.length ∧ data ≠ d2 := by
  refine ⟨_, rfl, by simp, fun e => ?_⟩
  have h1 := congrArg (fun l => l.getD k 0) e
  simp only [List.getD_eq_getElem?_getD, List.getElem?_set_self h, List.getElem?_eq_getElem h, Option.getD_some] at h1
  have h2 := congrArg UInt8.toNat h1
  rw [UInt8.toNat_add] at h2
  have := (data[k]).toNat_lt
  simp at h2
  omega
end Go.Proofs.Ytoeholbdocmlnaa
