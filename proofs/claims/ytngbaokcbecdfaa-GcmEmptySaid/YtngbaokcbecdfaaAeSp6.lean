/-
  What the statements of chapter 05 say of the plain functions. Printed by XAeSp6.gen.py.
-/
import Derived.Test.YtngbaokcbecdfaaAeSp5
namespace Go.Proofs.Ytngbaokcbecdfaa
open Go Go.RowKit D
set_option linter.unusedVariables false
set_option linter.unusedSimpArgs false
set_option maxRecDepth 100000
set_option maxHeartbeats 1000000
/-! no two bytes are swapped to one -/
def unS : List Nat := [82, 9, 106, 213, 48, 54, 165, 56, 191, 64, 163, 158, 129, 243, 215, 251, 124, 227, 57, 130, 155, 47, 255, 135, 52, 142, 67, 68, 196, 222, 233, 203, 84, 123, 148, 50, 166, 194, 35, 61, 238, 76, 149, 11, 66, 250, 195, 78, 8, 46, 161, 102, 40, 217, 36, 178, 118, 91, 162, 73, 109, 139, 209, 37, 114, 248, 246, 100, 134, 104, 152, 22, 212, 164, 92, 204, 93, 101, 182, 146, 108, 112, 72, 80, 253, 237, 185, 218, 94, 21, 70, 87, 167, 141, 157, 132, 144, 216, 171, 0, 140, 188, 211, 10, 247, 228, 88, 5, 184, 179, 69, 6, 208, 44, 30, 143, 202, 63, 15, 2, 193, 175, 189, 3, 1, 19, 138, 107, 58, 145, 17, 65, 79, 103, 220, 234, 151, 242, 207, 206, 240, 180, 230, 115, 150, 172, 116, 34, 231, 173, 53, 133, 226, 249, 55, 232, 28, 117, 223, 110, 71, 241, 26, 113, 29, 41, 197, 137, 111, 183, 98, 14, 170, 24, 190, 27, 252, 86, 62, 75, 198, 210, 121, 32, 154, 219, 192, 254, 120, 205, 90, 244, 31, 221, 168, 51, 136, 7, 199, 49, 177, 18, 16, 89, 39, 128, 236, 95, 96, 81, 127, 169, 25, 181, 74, 13, 45, 229, 122, 159, 147, 201, 156, 239, 160, 224, 59, 77, 174, 42, 245, 176, 200, 235, 187, 60, 131, 83, 153, 97, 23, 43, 4, 126, 186, 119, 214, 38, 225, 105, 20, 99, 85, 33, 12, 125]
theorem unS_sb : ∀ n : Nat, n < 256 → unS.getD (sboxN.getD n 0) 0 = n := by decide +kernel
theorem sb_num (c : UInt8) : (sb c).toNat = sboxN.getD c.toNat 0 := by
  have h : sbox.getD c.toNat 0 = UInt8.ofNat (sboxN.getD c.toNat 0) := by
    unfold sbox
    rw [List.getD_eq_getElem?_getD, List.getElem?_map, List.getD_eq_getElem?_getD]
    rcases sboxN[c.toNat]? with _ | v <;> rfl
  have h2 : ∀ n : Nat, n < 256 → sboxN.getD n 0 < 256 := by decide +kernel
  rw [← sb_get, h, UInt8.toNat_ofNat', Nat.mod_eq_of_lt (h2 _ c.toNat_lt)]
theorem sb_inj {a b : UInt8} (h : sb a = sb b) : a = b := by
  apply UInt8.toNat_inj.1
  rw [← unS_sb _ a.toNat_lt, ← unS_sb _ b.toNat_lt, ← sb_num, ← sb_num, h]
/-! a column can be unmixed -/
def um (u w : UInt8) : UInt8 := u ^^^ tw (tw (u ^^^ w))
theorem um_eq (a c : UInt8) : um (a ^^^ tw (tw (a ^^^ c))) (c ^^^ tw (tw (a ^^^ c))) = a := by
  unfold um
  generalize h : tw (tw (a ^^^ c)) = z
  rw [show a ^^^ z ^^^ (c ^^^ z) = (z ^^^ z) ^^^ (a ^^^ c) from by ac_rfl, UInt8.xor_self, UInt8.zero_xor, h, UInt8.xor_assoc, UInt8.xor_self, UInt8.xor_zero]
theorem sq0 (a b c d : UInt8) :
    (a ^^^ (a ^^^ b ^^^ c ^^^ d ^^^ tw (a ^^^ b))) ^^^ ((a ^^^ (a ^^^ b ^^^ c ^^^ d ^^^ tw (a ^^^ b))) ^^^ (b ^^^ (a ^^^ b ^^^ c ^^^ d ^^^ tw (b ^^^ c))) ^^^ (c ^^^ (a ^^^ b ^^^ c ^^^ d ^^^ tw (c ^^^ d))) ^^^ (d ^^^ (a ^^^ b ^^^ c ^^^ d ^^^ tw (d ^^^ a))) ^^^ tw ((a ^^^ (a ^^^ b ^^^ c ^^^ d ^^^ tw (a ^^^ b))) ^^^ (b ^^^ (a ^^^ b ^^^ c ^^^ d ^^^ tw (b ^^^ c)))))
      = a ^^^ tw (tw (a ^^^ c)) := by
  simp only [tw_xor]
  generalize tw (tw a) = aa
  generalize tw (tw b) = bb
  generalize tw (tw c) = cc
  generalize tw a = ta
  generalize tw b = tb
  generalize tw c = tc
  generalize tw d = td
  apply UInt8.toBitVec_inj.1
  simp only [UInt8.toBitVec_xor]
  apply BitVec.eq_of_getLsbD_eq
  intro i hi
  simp only [BitVec.getLsbD_xor]
  generalize a.toBitVec.getLsbD i = x0
  generalize b.toBitVec.getLsbD i = x1
  generalize c.toBitVec.getLsbD i = x2
  generalize d.toBitVec.getLsbD i = x3
  generalize ta.toBitVec.getLsbD i = x4
  generalize tb.toBitVec.getLsbD i = x5
  generalize tc.toBitVec.getLsbD i = x6
  generalize td.toBitVec.getLsbD i = x7
  generalize aa.toBitVec.getLsbD i = x8
  generalize bb.toBitVec.getLsbD i = x9
  generalize cc.toBitVec.getLsbD i = x10
  cases x0 <;> cases x1 <;> cases x2 <;> cases x3 <;> (revert x4 x5 x6 x7 x8 x9 x10; decide +kernel)
theorem mixC_inj {a b c d a' b' c' d' : UInt8} (h : mixC a b c d = mixC a' b' c' d') : a = a' ∧ b = b' ∧ c = c' ∧ d = d' := by
  unfold mixC at h
  simp only [List.cons.injEq, and_true] at h
  obtain ⟨h0, h1, h2, h3⟩ := h
  have s0 := sq0 a b c d
  have s1 := sq0 b c d a
  have s2 := sq0 c d a b
  have s3 := sq0 d a b c
  have t0 := sq0 a' b' c' d'
  have t1 := sq0 b' c' d' a'
  have t2 := sq0 c' d' a' b'
  have t3 := sq0 d' a' b' c'
  rw [show b ^^^ c ^^^ d ^^^ a = a ^^^ b ^^^ c ^^^ d from by ac_rfl] at s1
  rw [show c ^^^ d ^^^ a ^^^ b = a ^^^ b ^^^ c ^^^ d from by ac_rfl] at s2
  rw [show d ^^^ a ^^^ b ^^^ c = a ^^^ b ^^^ c ^^^ d from by ac_rfl] at s3
  rw [show b' ^^^ c' ^^^ d' ^^^ a' = a' ^^^ b' ^^^ c' ^^^ d' from by ac_rfl] at t1
  rw [show c' ^^^ d' ^^^ a' ^^^ b' = a' ^^^ b' ^^^ c' ^^^ d' from by ac_rfl] at t2
  rw [show d' ^^^ a' ^^^ b' ^^^ c' = a' ^^^ b' ^^^ c' ^^^ d' from by ac_rfl] at t3
  rw [h0, h1, h2, h3] at s0 s1 s2 s3
  have e0 := s0.symm.trans t0
  have e1 := s1.symm.trans t1
  have e2 := s2.symm.trans t2
  have e3 := s3.symm.trans t3
  refine ⟨?_, ?_, ?_, ?_⟩
  · rw [← um_eq a c, ← um_eq a' c', e0, show c ^^^ tw (tw (a ^^^ c)) = c' ^^^ tw (tw (a' ^^^ c')) from by rw [UInt8.xor_comm a c, UInt8.xor_comm a' c']; exact e2]
  · rw [← um_eq b d, ← um_eq b' d', e1, show d ^^^ tw (tw (b ^^^ d)) = d' ^^^ tw (tw (b' ^^^ d')) from by rw [UInt8.xor_comm b d, UInt8.xor_comm b' d']; exact e3]
  · rw [← um_eq c a, ← um_eq c' a', e2, show a ^^^ tw (tw (c ^^^ a)) = a' ^^^ tw (tw (c' ^^^ a')) from by rw [UInt8.xor_comm c a, UInt8.xor_comm c' a']; exact e0]
  · rw [← um_eq d b, ← um_eq d' b', e3, show b ^^^ tw (tw (d ^^^ b)) = b' ^^^ tw (tw (d' ^^^ b')) from by rw [UInt8.xor_comm d b, UInt8.xor_comm d' b']; exact e1]
/-! rounds keep blocks apart -/
theorem xorA_inj {s s' k : List UInt8} (hs : s.length = 16) (hs' : s'.length = 16) (h : xorA s k 16 = xorA s' k 16) : s = s' := by
  apply getD_ext (by rw [hs, hs'])
  intro i hi
  have e : (xorA s k 16).getD i 0 = (xorA s' k 16).getD i 0 := by rw [h]
  rw [xorA_get (by omega), xorA_get (by omega)] at e
  have e2 := congrArg (· ^^^ k.getD i 0) e
  simpa [UInt8.xor_assoc] using e2
theorem subA_get {s : List UInt8} {n i : Nat} (h : i < n) : (subA s n).getD i 0 = sb (s.getD (5 * i % 16) 0) := by simp [subA, h]
theorem subA_inj {s s' : List UInt8} (hs : s.length = 16) (hs' : s'.length = 16) (h : subA s 16 = subA s' 16) : s = s' := by
  apply getD_ext (by rw [hs, hs'])
  intro j hj
  have e : (subA s 16).getD (13 * j % 16) 0 = (subA s' 16).getD (13 * j % 16) 0 := by rw [h]
  rw [subA_get (by omega), subA_get (by omega), show 5 * (13 * j % 16) % 16 = j from by omega] at e
  exact sb_inj e
theorem mixK_inj {t t' : List UInt8} : ∀ n, mixK t n = mixK t' n → ∀ i, i < 4 * n → t.getD i 0 = t'.getD i 0 := by
  intro n
  induction n with
  | zero => intro _ i h; omega
  | succ n ih =>
    intro h i hi
    rw [mixK_succ, mixK_succ] at h
    obtain ⟨h1, h2⟩ := List.append_inj h (by rw [mixK_length, mixK_length])
    by_cases hn : i < 4 * n
    · exact ih h1 i hn
    · obtain ⟨e0, e1, e2, e3⟩ := mixC_inj h2
      obtain rfl | rfl | rfl | rfl : i = 4 * n ∨ i = 4 * n + 1 ∨ i = 4 * n + 2 ∨ i = 4 * n + 3 := by omega
      · exact e0
      · exact e1
      · exact e2
      · exact e3
theorem roundA_inj {t t' : List UInt8} {n : Nat} (ht : t.length = 16) (ht' : t'.length = 16) (h : roundA t n = roundA t' n) : t = t' := by
  unfold roundA at h
  split at h
  · exact getD_ext (by rw [ht, ht']) (fun i hi => mixK_inj 4 h i (by omega))
  · exact h
theorem stA_inj {ks s s' : List UInt8} (hs : s.length = 16) (hs' : s'.length = 16) : ∀ n, stA ks s n = stA ks s' n → s = s' := by
  intro n
  induction n with
  | zero => intro h; rw [stA_zero, stA_zero] at h; exact xorA_inj hs hs' h
  | succ n ih =>
    intro h
    rw [stA_succ, stA_succ] at h
    have l1 := subA_length (stA ks s n) 16
    have l2 := subA_length (stA ks s' n) 16
    have h1 := xorA_inj (roundA_length l1 _) (roundA_length l2 _) h
    exact ih (subA_inj (stA_length _ _ _) (stA_length _ _ _) (roundA_inj l1 l2 h1))
theorem blkA_inj {key s s' : List UInt8} (hs : s.length = 16) (hs' : s'.length = 16) (h : blkA key s = blkA key s') : s = s' := by
  rw [← blkA_eq, ← blkA_eq] at h
  exact stA_inj hs hs' 10 h
/-! many blocks -/
def wantL (key : List UInt8) (bs : List (List UInt8)) (i : Nat) : List (List UInt8) := (bs.take i).map fun b => (blockP key b).1
theorem wantL_zero (key : List UInt8) (bs : List (List UInt8)) : wantL key bs 0 = [] := rfl
theorem wantL_succ (key : List UInt8) {bs : List (List UInt8)} {i : Nat} (h : i < bs.length) : wantL key bs (i + 1) = wantL key bs i ++ [(blockP key (bs.getD i [])).1] := by
  unfold wantL
  rw [List.take_succ_eq_append_getElem h, List.map_append, List.getD_eq_getElem?_getD, List.getElem?_eq_getElem h]; rfl
theorem wantL_length (key : List UInt8) {bs : List (List UInt8)} {i : Nat} (h : i ≤ bs.length) : (wantL key bs i).length = i := by simp [wantL]; omega
def badK (key : List UInt8) (bs : List (List UInt8)) : Nat → Int
  | 0 => 0
  | i + 1 => if ¬ (blockP key (bs.getD i [])).2 = 0 ∧ badK key bs i = 0 then (blockP key (bs.getD i [])).2 else badK key bs i
theorem badK_zero (key : List UInt8) (bs : List (List UInt8)) : badK key bs 0 = 0 := rfl
theorem badK_yes {key : List UInt8} {bs : List (List UInt8)} {i : Nat} (h : ¬ (blockP key (bs.getD i [])).2 = 0 ∧ badK key bs i = 0) : badK key bs (i + 1) = (blockP key (bs.getD i [])).2 := if_pos h
theorem badK_no {key : List UInt8} {bs : List (List UInt8)} {i : Nat} (h : ¬ (¬ (blockP key (bs.getD i [])).2 = 0 ∧ badK key bs i = 0)) : badK key bs (i + 1) = badK key bs i := if_neg h
theorem badK_is {key : List UInt8} (hk : key.length = 16) (bs : List (List UInt8)) : ∀ i, i ≤ bs.length → (badK key bs i = 0 ∧ ∀ j, j < i → (bs.getD j []).length = 16) ∨ (badK key bs i = 1 ∧ ∃ j, j < i ∧ ¬ (bs.getD j []).length = 16) := by
  intro i
  induction i with
  | zero => intro _; exact .inl ⟨rfl, fun j h => by omega⟩
  | succ i ih =>
    intro h
    rcases ih (by omega) with ⟨h1, h2⟩ | ⟨h1, j, h2, h3⟩
    · by_cases hb : (bs.getD i []).length = 16
      · rw [badK_no (by rw [blockP_ok hk hb]; simp)]
        exact .inl ⟨h1, fun j hj => if h9 : j < i then h2 j h9 else (show j = i by omega) ▸ hb⟩
      · rw [badK_yes (by rw [blockP_bad hk hb]; exact ⟨by decide, h1⟩), blockP_bad hk hb]
        exact .inr ⟨rfl, i, by omega, hb⟩
    · rw [badK_no (by rw [h1]; simp)]
      exact .inr ⟨h1, j, by omega, h3⟩
theorem many_bad {key : List UInt8} (hk : key.length = 16) {bs : List (List UInt8)} (h : ¬ badK key bs bs.length = 0) : blocksP key bs = ([], badK key bs bs.length) := by
  rcases badK_is hk bs bs.length (Nat.le_refl _) with ⟨h1, _⟩ | ⟨h1, j, h2, h3⟩
  · exact absurd h1 h
  · rw [h1, blocksP_bad hk h2 h3]
theorem many_ok {key : List UInt8} (hk : key.length = 16) {bs : List (List UInt8)} (h : badK key bs bs.length = 0) : blocksP key bs = (wantL key bs bs.length, 0) := by
  rcases badK_is hk bs bs.length (Nat.le_refl _) with ⟨_, h1⟩ | ⟨h1, _⟩
  · rw [blocksP_ok hk h1, wantL, List.take_length]
    congr 1
    apply List.map_congr_left
    intro b hb
    obtain ⟨j, hj, rfl⟩ := List.getElem_of_mem hb
    have := h1 j hj
    rw [List.getD_eq_getElem?_getD, List.getElem?_eq_getElem hj, Option.getD_some] at this
    rw [blockP_ok hk this]
  · rw [h1] at h; exact absurd h (by decide)
theorem wantL_zero' (key : List UInt8) (bs : List (List UInt8)) : wantL key bs 0 = [] := rfl
theorem lists_ext {a b : List (List UInt8)} (hl : a.length = b.length) (h : ∀ j, j < a.length → a.getD j [] = b.getD j []) : a = b := by
  apply List.ext_getElem hl
  intro i h1 h2
  have := h i h1
  rwa [List.getD_eq_getElem?_getD, List.getD_eq_getElem?_getD, List.getElem?_eq_getElem h1, List.getElem?_eq_getElem h2] at this
theorem badK_zero' (key : List UInt8) (bs : List (List UInt8)) : badK key bs 0 = 0 := rfl
attribute [irreducible] wantL badK
/-! the example -/
def exK : List UInt8 := [0, 1, 2, 3, 4, 5, 6, 7, 8, 9, 10, 11, 12, 13, 14, 15]
def exB : List UInt8 := [0, 17, 34, 51, 68, 85, 102, 119, 136, 153, 170, 187, 204, 221, 238, 255]
def exL : List UInt8 := [0, 1, 2, 3, 4, 5, 6, 7, 8, 9, 10, 11, 12, 13, 14, 15, 214, 170, 116, 253, 210, 175, 114, 250, 218, 166, 120, 241, 214, 171, 118, 254, 182, 146, 207, 11, 100, 61, 189, 241, 190, 155, 197, 0, 104, 48, 179, 254, 182, 255, 116, 78, 210, 194, 201, 191, 108, 89, 12, 191, 4, 105, 191, 65, 71, 247, 247, 188, 149, 53, 62, 3, 249, 108, 50, 188, 253, 5, 141, 253, 60, 170, 163, 232, 169, 159, 157, 235, 80, 243, 175, 87, 173, 246, 34, 170, 94, 57, 15, 125, 247, 166, 146, 150, 167, 85, 61, 193, 10, 163, 31, 107, 20, 249, 112, 26, 227, 95, 226, 140, 68, 10, 223, 77, 78, 169, 192, 38, 71, 67, 135, 53, 164, 28, 101, 185, 224, 22, 186, 244, 174, 191, 122, 210, 84, 153, 50, 209, 240, 133, 87, 104, 16, 147, 237, 156, 190, 44, 151, 78, 19, 17, 29, 127, 227, 148, 74, 23, 243, 7, 167, 139, 77, 43, 48, 197]
theorem ex1 : expS exK 4 = (exL.take 32, 2) := by
  rw [expS_succ, expS_succ, expS_succ, expS_succ, expS_zero]; decide +kernel
theorem ex2 : expS exK 8 = (exL.take 48, 4) := by
  rw [expS_succ, expS_succ, expS_succ, expS_succ, ex1]; decide +kernel
theorem ex3 : expS exK 12 = (exL.take 64, 8) := by
  rw [expS_succ, expS_succ, expS_succ, expS_succ, ex2]; decide +kernel
theorem ex4 : expS exK 16 = (exL.take 80, 16) := by
  rw [expS_succ, expS_succ, expS_succ, expS_succ, ex3]; decide +kernel
theorem ex5 : expS exK 20 = (exL.take 96, 32) := by
  rw [expS_succ, expS_succ, expS_succ, expS_succ, ex4]; decide +kernel
theorem ex6 : expS exK 24 = (exL.take 112, 64) := by
  rw [expS_succ, expS_succ, expS_succ, expS_succ, ex5]; decide +kernel
theorem ex7 : expS exK 28 = (exL.take 128, 128) := by
  rw [expS_succ, expS_succ, expS_succ, expS_succ, ex6]; decide +kernel
theorem ex8 : expS exK 32 = (exL.take 144, 27) := by
  rw [expS_succ, expS_succ, expS_succ, expS_succ, ex7]; decide +kernel
theorem ex9 : expS exK 36 = (exL.take 160, 54) := by
  rw [expS_succ, expS_succ, expS_succ, expS_succ, ex8]; decide +kernel
theorem ex10 : expS exK 40 = (exL.take 176, 108) := by
  rw [expS_succ, expS_succ, expS_succ, expS_succ, ex9]; decide +kernel
theorem exKeys : keysL exK = exL := by
  rw [keysL, ex10]; decide +kernel
theorem st0 : stA exL exB 0 = [0, 16, 32, 48, 64, 80, 96, 112, 128, 144, 160, 176, 192, 208, 224, 240] := by
  rw [stA_zero]; decide +kernel
theorem st1 : stA exL exB 1 = [137, 216, 16, 232, 133, 90, 206, 104, 45, 24, 67, 216, 203, 18, 143, 228] := by
  rw [stA_succ, st0]; decide +kernel
theorem st2 : stA exL exB 2 = [73, 21, 89, 143, 85, 229, 215, 160, 218, 202, 148, 250, 31, 10, 99, 247] := by
  rw [stA_succ, st1]; decide +kernel
theorem st3 : stA exL exB 3 = [250, 99, 106, 40, 37, 179, 57, 201, 64, 102, 138, 49, 87, 36, 77, 23] := by
  rw [stA_succ, st2]; decide +kernel
theorem st4 : stA exL exB 4 = [36, 114, 64, 35, 105, 102, 179, 250, 110, 210, 117, 50, 136, 66, 91, 108] := by
  rw [stA_succ, st3]; decide +kernel
theorem st5 : stA exL exB 5 = [200, 22, 119, 188, 155, 122, 201, 59, 37, 2, 121, 146, 176, 38, 25, 150] := by
  rw [stA_succ, st4]; decide +kernel
theorem st6 : stA exL exB 6 = [198, 47, 225, 9, 247, 94, 237, 195, 204, 121, 57, 93, 132, 249, 207, 93] := by
  rw [stA_succ, st5]; decide +kernel
theorem st7 : stA exL exB 7 = [209, 135, 108, 15, 121, 196, 48, 10, 180, 85, 148, 173, 214, 111, 244, 31] := by
  rw [stA_succ, st6]; decide +kernel
theorem st8 : stA exL exB 8 = [253, 227, 186, 210, 5, 229, 208, 215, 53, 71, 150, 78, 241, 254, 55, 241] := by
  rw [stA_succ, st7]; decide +kernel
theorem st9 : stA exL exB 9 = [189, 110, 124, 61, 242, 181, 119, 158, 11, 97, 33, 110, 139, 16, 182, 137] := by
  rw [stA_succ, st8]; decide +kernel
theorem st10 : stA exL exB 10 = [105, 196, 224, 216, 106, 123, 4, 48, 216, 205, 183, 128, 112, 180, 197, 90] := by
  rw [stA_succ, st9]; decide +kernel
theorem awake_ok : blockP exK exB = ([105, 196, 224, 216, 106, 123, 4, 48, 216, 205, 183, 128, 112, 180, 197, 90], 0) := by
  rw [blockP_ok (by decide) (by decide), ← blkA_eq, exKeys, st10]
theorem sb_nought : sb 0 = 99 := by decide +kernel
end Go.Proofs.Ytngbaokcbecdfaa
