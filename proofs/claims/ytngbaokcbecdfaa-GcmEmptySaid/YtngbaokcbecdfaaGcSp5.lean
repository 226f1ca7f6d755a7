/-
  What the statements of chapter 06 say of the plain functions. Printed by XGcSp5.gen.py.
-/
import Derived.Test.YtngbaokcbecdfaaGcSp4
namespace Go.Proofs.Ytngbaokcbecdfaa
open Go Go.RowKit D
set_option linter.unusedVariables false
set_option linter.unusedSimpArgs false
set_option maxRecDepth 100000
set_option maxHeartbeats 1000000
/-! the example -/
def ezK : List UInt8 := [0, 0, 0, 0, 0, 0, 0, 0, 0, 0, 0, 0, 0, 0, 0, 0]
def ezB : List UInt8 := [0, 0, 0, 0, 0, 0, 0, 0, 0, 0, 0, 0, 0, 0, 0, 2]
def ezL : List UInt8 := [0, 0, 0, 0, 0, 0, 0, 0, 0, 0, 0, 0, 0, 0, 0, 0, 98, 99, 99, 99, 98, 99, 99, 99, 98, 99, 99, 99, 98, 99, 99, 99, 155, 152, 152, 201, 249, 251, 251, 170, 155, 152, 152, 201, 249, 251, 251, 170, 144, 151, 52, 80, 105, 108, 207, 250, 242, 244, 87, 51, 11, 15, 172, 153, 238, 6, 218, 123, 135, 106, 21, 129, 117, 158, 66, 178, 126, 145, 238, 43, 127, 46, 43, 136, 248, 68, 62, 9, 141, 218, 124, 187, 243, 75, 146, 144, 236, 97, 75, 133, 20, 37, 117, 140, 153, 255, 9, 55, 106, 180, 155, 167, 33, 117, 23, 135, 53, 80, 98, 11, 172, 175, 107, 60, 198, 27, 240, 155, 14, 249, 3, 51, 59, 169, 97, 56, 151, 6, 10, 4, 81, 29, 250, 159, 177, 212, 216, 226, 138, 125, 185, 218, 29, 123, 179, 222, 76, 102, 73, 65, 180, 239, 91, 203, 62, 146, 226, 17, 35, 233, 81, 207, 111, 143, 24, 142]
theorem ez1 : expS ezK 4 = (ezL.take 32, 2) := by
  rw [expS_succ, expS_succ, expS_succ, expS_succ, expS_zero]; decide +kernel
theorem ez2 : expS ezK 8 = (ezL.take 48, 4) := by
  rw [expS_succ, expS_succ, expS_succ, expS_succ, ez1]; decide +kernel
theorem ez3 : expS ezK 12 = (ezL.take 64, 8) := by
  rw [expS_succ, expS_succ, expS_succ, expS_succ, ez2]; decide +kernel
theorem ez4 : expS ezK 16 = (ezL.take 80, 16) := by
  rw [expS_succ, expS_succ, expS_succ, expS_succ, ez3]; decide +kernel
theorem ez5 : expS ezK 20 = (ezL.take 96, 32) := by
  rw [expS_succ, expS_succ, expS_succ, expS_succ, ez4]; decide +kernel
theorem ez6 : expS ezK 24 = (ezL.take 112, 64) := by
  rw [expS_succ, expS_succ, expS_succ, expS_succ, ez5]; decide +kernel
theorem ez7 : expS ezK 28 = (ezL.take 128, 128) := by
  rw [expS_succ, expS_succ, expS_succ, expS_succ, ez6]; decide +kernel
theorem ez8 : expS ezK 32 = (ezL.take 144, 27) := by
  rw [expS_succ, expS_succ, expS_succ, expS_succ, ez7]; decide +kernel
theorem ez9 : expS ezK 36 = (ezL.take 160, 54) := by
  rw [expS_succ, expS_succ, expS_succ, expS_succ, ez8]; decide +kernel
theorem ez10 : expS ezK 40 = (ezL.take 176, 108) := by
  rw [expS_succ, expS_succ, expS_succ, expS_succ, ez9]; decide +kernel
theorem ezKeys : keysL ezK = ezL := by
  rw [keysL, ez10]; decide +kernel
theorem zt0 : stA ezL ezB 0 = [0, 0, 0, 0, 0, 0, 0, 0, 0, 0, 0, 0, 0, 0, 0, 2] := by
  rw [stA_zero]; decide +kernel
theorem zt1 : stA ezL ezB 1 = [21, 20, 60, 40, 1, 0, 0, 0, 1, 0, 0, 0, 1, 0, 0, 0] := by
  rw [stA_succ, zt0]; decide +kernel
theorem zt2 : stA ezL ezB 2 = [140, 193, 193, 228, 243, 208, 126, 70, 78, 103, 239, 3, 20, 174, 30, 113] := by
  rw [stA_succ, zt1]; decide +kernel
theorem zt3 : stA ezL ezB 3 = [180, 202, 123, 14, 252, 143, 24, 200, 185, 218, 130, 106, 228, 112, 94, 241] := by
  rw [stA_succ, zt2]; decide +kernel
theorem zt4 : stA ezL ezB 4 = [200, 249, 250, 206, 246, 55, 164, 8, 227, 225, 36, 243, 159, 254, 180, 77] := by
  rw [stA_succ, zt3]; decide +kernel
theorem zt5 : stA ezL ezB 5 = [212, 80, 11, 218, 105, 234, 3, 183, 100, 225, 220, 126, 170, 111, 85, 44] := by
  rw [stA_succ, zt4]; decide +kernel
theorem zt6 : stA ezL ezB 6 = [25, 220, 0, 190, 69, 127, 110, 54, 126, 35, 84, 56, 84, 192, 156, 157] := by
  rw [stA_succ, zt5]; decide +kernel
theorem zt7 : stA ezL ezB 7 = [129, 32, 179, 174, 243, 165, 100, 6, 226, 147, 235, 225, 143, 145, 122, 236] := by
  rw [stA_succ, zt6]; decide +kernel
theorem zt8 : stA ezL ezB 8 = [59, 23, 137, 79, 96, 150, 40, 250, 38, 95, 120, 133, 206, 38, 171, 21] := by
  rw [stA_succ, zt7]; decide +kernel
theorem zt9 : stA ezL ezB 9 = [32, 139, 34, 65, 157, 10, 245, 15, 96, 166, 145, 214, 233, 221, 248, 54] := by
  rw [stA_succ, zt8]; decide +kernel
theorem zt10 : stA ezL ezB 10 = [3, 136, 218, 206, 96, 182, 163, 146, 243, 40, 194, 185, 113, 178, 254, 120] := by
  rw [stA_succ, zt9]; decide +kernel
theorem ez_blk : blkA ezK ezB = [3, 136, 218, 206, 96, 182, 163, 146, 243, 40, 194, 185, 113, 178, 254, 120] := by
  rw [← blkA_eq, ezKeys, zt10]
theorem zs16 : zs 16 = ezK := by rw [zs_eq]; rfl
theorem zs12 : (zs 16).take 12 = zs 12 := by rw [zs_eq, zs_eq]; rfl
theorem by2 : byL 2 4 = [0, 0, 0, 2] := by unfold byL; decide +kernel
theorem by1 : byL 1 4 = [0, 0, 0, 1] := by unfold byL; decide +kernel
theorem ez_ctr : ctrB (zs 12) 2 = ezB := by rw [ctrB_eq, by2, zs_eq]; rfl
theorem over_one (key nonce : List UInt8) : overK key nonce 1 = blkA key (ctrB nonce 2) := by rw [show (1 : Nat) = 0 + 1 from rfl, overK_succ', overK_zero']; rfl
theorem strm_ex : strmB (zs 16) (zs 12) (zs 16) = xorA (zs 16) (blkA ezK ezB) 16 := by
  rw [strmB_eq, zs_length16, show (16 + 15) / 16 = 1 from rfl, over_one, ez_ctr, laidB_eq, zs_length16]
  rw [zs16]
theorem awake_seal : ∃ t : List UInt8, t.length = 28 ∧ sealP (zs 16) ((zs 16).take 12) [] (zs 16) = ([3, 136, 218, 206] ++ t, 0) := by
  have h : (zs 16).length = 16 ∧ (zs 12).length = 12 := ⟨zs_length16, by rw [zs_eq]; rfl⟩
  rw [zs12, sealP_ok h (by rw [zs_length16]; simp), strm_ex]
  have e : xorA (zs 16) (blkA ezK ezB) 16 = [3, 136, 218, 206] ++ (xorA (zs 16) (blkA ezK ezB) 16).drop 4 := by
    rw [zs16, ez_blk]; decide +kernel
  refine ⟨(xorA (zs 16) (blkA ezK ezB) 16).drop 4 ++ gtag (zs 16) (zs 12) [] (xorA (zs 16) (blkA ezK ezB) 16), ?_, ?_⟩
  · rw [List.length_append, gtag_length', List.length_drop, xorA_length]
  · conv => lhs; rw [e]
    rw [List.append_assoc, ← e]
theorem awake_open : openP (zs 16) ((zs 16).take 12) [] [120] = ([], 20) := by
  rw [zs12]
  exact openP_short ⟨zs_length16, by rw [zs_eq]; rfl⟩ (by decide)
/-! what is sealed is opened -/
theorem seal_len {key nonce b d : List UInt8} (h : key.length = 16 ∧ nonce.length = 12) (h1 : ¬ (1048576 < b.length ∨ 1048576 < d.length)) : (sealP key nonce b d).1.length = d.length + 16 := by
  rw [sealP_ok h h1, List.length_append, strmB_length', gtag_length']
theorem seal_open {key nonce b d : List UInt8} (h : key.length = 16 ∧ nonce.length = 12) (h1 : ¬ (1048576 < b.length ∨ 1048576 < d.length)) : openP key nonce b (sealP key nonce b d).1 = (d, 0) := by
  have hl := seal_len h h1
  have hs := strmB_length' key nonce d
  have e : (sealP key nonce b d).1 = strmB key nonce d ++ gtag key nonce b (strmB key nonce d) := by rw [sealP_ok h h1]
  have ht : (sealP key nonce b d).1.take ((sealP key nonce b d).1.length - 16) = strmB key nonce d := by
    rw [hl, e, Nat.add_sub_cancel, List.take_append_of_le_length (by omega), List.take_of_length_le (by omega)]
  have hd : (sealP key nonce b d).1.drop ((sealP key nonce b d).1.length - 16) = gtag key nonce b (strmB key nonce d) := by
    rw [hl, e, Nat.add_sub_cancel, List.drop_append_of_le_length (by omega), List.drop_eq_nil_of_le (by omega), List.nil_append]
  rw [openP_ok h (by omega) (by omega) (by rw [ht, hd]), ht, strm_back']
theorem seal_other {key nonce b d : List UInt8} (h : key.length = 16 ∧ nonce.length = 12) (h1 : ¬ (1048576 < b.length ∨ 1048576 < d.length)) {q : Nat} (hq : q < 16) (c : UInt8) (hc : c ≠ 0) :
    openP key nonce b ((sealP key nonce b d).1.set (d.length + 15 - q) ((sealP key nonce b d).1.getD (d.length + 15 - q) 0 ^^^ c)) = ([], 20) := by
  have hl := seal_len h h1
  have hs := strmB_length' key nonce d
  have hg := gtag_length' key nonce b (strmB key nonce d)
  have e : (sealP key nonce b d).1 = strmB key nonce d ++ gtag key nonce b (strmB key nonce d) := by rw [sealP_ok h h1]
  have hx : ∀ a : UInt8, a ^^^ c ≠ a := by
    intro a g
    apply hc
    have := congrArg (a ^^^ ·) g
    simpa [← UInt8.xor_assoc] using this
  have e2 : (sealP key nonce b d).1.set (d.length + 15 - q) ((sealP key nonce b d).1.getD (d.length + 15 - q) 0 ^^^ c) = strmB key nonce d ++ (gtag key nonce b (strmB key nonce d)).set (15 - q) ((gtag key nonce b (strmB key nonce d)).getD (15 - q) 0 ^^^ c) := by
    rw [e, List.set_append, if_neg (by omega), hs, show d.length + 15 - q - d.length = 15 - q from by omega, List.getD_eq_getElem?_getD, List.getElem?_append_right (by omega), hs, show d.length + 15 - q - d.length = 15 - q from by omega, ← List.getD_eq_getElem?_getD]
  rw [e2]
  obtain ⟨t, hgt⟩ : ∃ t, gtag key nonce b (strmB key nonce d) = t := ⟨_, rfl⟩
  rw [hgt] at hg e ⊢
  have hl2 : (strmB key nonce d ++ t.set (15 - q) (t.getD (15 - q) 0 ^^^ c)).length - 16 = (strmB key nonce d).length := by rw [List.length_append, List.length_set]; omega
  have ht : (strmB key nonce d ++ t.set (15 - q) (t.getD (15 - q) 0 ^^^ c)).take ((strmB key nonce d ++ t.set (15 - q) (t.getD (15 - q) 0 ^^^ c)).length - 16) = strmB key nonce d := by
    rw [hl2]; exact List.take_left
  have hd : (strmB key nonce d ++ t.set (15 - q) (t.getD (15 - q) 0 ^^^ c)).drop ((strmB key nonce d ++ t.set (15 - q) (t.getD (15 - q) 0 ^^^ c)).length - 16) = t.set (15 - q) (t.getD (15 - q) 0 ^^^ c) := by
    rw [hl2]; exact List.drop_left
  refine openP_tag h (by rw [List.length_append, List.length_set]; omega) (by rw [List.length_append, List.length_set]; omega) ?_
  rw [ht, hd]
  intro g
  rw [hgt] at g
  have := congrArg (fun l => l.getD (15 - q) 0) g
  have h5 : (t.set (15 - q) (t.getD (15 - q) 0 ^^^ c)).getD (15 - q) 0 = t.getD (15 - q) 0 ^^^ c := by rw [getD_set8, hg, if_pos ⟨rfl, by omega⟩]
  exact hx _ (h5.symm.trans this.symm)
/-! the digest of one block -/
theorem hash_one {key a : List UInt8} (hk : key.length = 16) (ha : a.length = 16) : hashP key a = (byL (gm (beK a 16) (beK key 16)) 16, 0) := by
  rw [hashP_ok hk (by rw [ha]), hashB_def, ha, show 16 / 16 = 0 + 1 from rfl, hashK_succ', hashK_zero', Nat.mul_zero, List.drop_zero, Nat.zero_xor]
theorem hash_swap {key a : List UInt8} (hk : key.length = 16) (ha : a.length = 16) : hashP a key = hashP key a := by
  rw [hash_one hk ha, hash_one ha hk, gm_comm (beK_lt128 _) (beK_lt128 _)]
theorem hash_len {key a : List UInt8} (hk : key.length = 16) (ha : a.length = 16) : (hashP key a).1.length = 16 := by rw [hash_one hk ha]; exact byL_length _ _
theorem hash_err {key a : List UInt8} (hk : key.length = 16) (ha : a.length = 16) : (hashP key a).2 = 0 := by rw [hash_one hk ha]
theorem hash_adds {key a b : List UInt8} (hk : key.length = 16) (ha : a.length = 16) (hb : b.length = 16) {i : Nat} (hi : i < 16) : (hashP key (xorA a b 16)).1.getD i 0 = (hashP key a).1.getD i 0 ^^^ (hashP key b).1.getD i 0 := by
  rw [hash_one hk ha, hash_one hk hb, hash_one hk (xorA_length _ _ _), beK_xor _ _ 16 16 (Nat.le_refl _), gm_xor, ← byL_xor (gm_lt (beK_lt128 _) _) (gm_lt (beK_lt128 _) _), xorA_get hi]
/-! nothing -/
theorem hash_none {key : List UInt8} (hk : key.length = 16) : hashP key [] = (zs 16, 0) := by
  rw [hashP_ok hk rfl, hashB_def, show ([] : List UInt8).length / 16 = 0 from rfl, hashK_zero', byL_zero16]
theorem xorA_zs {l : List UInt8} (h : l.length = 16) : xorA (zs 16) l 16 = l := by
  apply getD_ext (by rw [xorA_length, h])
  intro j hj
  rw [xorA_length] at hj
  have e : (zs 16).getD j 0 = 0 := by rw [zs_eq, List.getD_eq_getElem?_getD, List.getElem?_replicate, if_pos hj]; rfl
  rw [xorA_get hj, e, UInt8.zero_xor]
theorem tag_none (h : List UInt8) {f : List UInt8} (hf : f.length = 16) : tagB h f [] [] = f := by
  have e : flB [] ++ flB [] ++ (longB ([] : List UInt8).length ++ longB ([] : List UInt8).length) = zs 16 := by
    rw [fl_none' (by decide), longB_eq, zs_eq, show byL (8 * ([] : List UInt8).length) 8 = List.replicate 8 0 from by unfold byL; decide +kernel]; rfl
  have e2 : beK (zs 16) 16 = 0 := by rw [← byL_zero16, beK_byL (Nat.pow_pos (by decide))]
  rw [tagB_eq, e, hashB_def, zs_length16, show 16 / 16 = 0 + 1 from rfl, hashK_succ', hashK_zero', Nat.mul_zero, List.drop_zero, e2, Nat.xor_self, gm_zero, byL_zero16, xorA_zs hf]
theorem seal_none {key nonce : List UInt8} (h : key.length = 16 ∧ nonce.length = 12) : sealP key nonce [] [] = (blkA key (ctrB nonce 1), 0) := by
  have e : strmB key nonce [] = [] := List.length_eq_zero_iff.1 (strmB_length' key nonce [])
  rw [sealP_ok h (by simp), e, gtag_eq, tag_none _ (blkA_length _ _)]; rfl
theorem block_first {key nonce : List UInt8} (h : key.length = 16 ∧ nonce.length = 12) : blockP key (nonce ++ [0, 0, 0, 1]) = (blkA key (ctrB nonce 1), 0) := by
  rw [blockP_ok h.1 (by rw [List.length_append, h.2]; rfl), ctrB_eq, by1]
end Go.Proofs.Ytngbaokcbecdfaa
