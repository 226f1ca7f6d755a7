/-
  What the rounds' walks step through.
-/
import Derived.Test.YtngbaokcbecdfaaAeSp2
namespace Go.Proofs.Ytngbaokcbecdfaa
open Go Go.RowKit D
set_option linter.unusedVariables false
set_option linter.unusedSimpArgs false
set_option maxRecDepth 100000
set_option maxHeartbeats 1000000
def put4 (l : List UInt8) (o : Nat) (a b c d : UInt8) : List UInt8 := (((l.set o a).set (o + 1) b).set (o + 2) c).set (o + 3) d
theorem put4_length (l : List UInt8) (o : Nat) (a b c d : UInt8) : (put4 l o a b c d).length = l.length := by simp [put4]
theorem getD_set_off {l : List UInt8} {i j : Nat} {c : UInt8} (h : i ≠ j) : (l.set i c).getD j 0 = l.getD j 0 := by
  rw [List.getD_eq_getElem?_getD, List.getElem?_set_ne h, ← List.getD_eq_getElem?_getD]
def mixP (l : List UInt8) (o : Nat) (a b c d : UInt8) : List UInt8 := put4 l o (a ^^^ (a ^^^ b ^^^ c ^^^ d ^^^ tw (a ^^^ b))) (b ^^^ (a ^^^ b ^^^ c ^^^ d ^^^ tw (b ^^^ c))) (c ^^^ (a ^^^ b ^^^ c ^^^ d ^^^ tw (c ^^^ d))) (d ^^^ (a ^^^ b ^^^ c ^^^ d ^^^ tw (d ^^^ a)))
def mixO (l : List UInt8) (o : Nat) : List UInt8 := mixP l o (l.getD o 0) (l.getD (o + 1) 0) (l.getD (o + 2) 0) (l.getD (o + 3) 0)
theorem mixO_length (l : List UInt8) (o : Nat) : (mixO l o).length = l.length := put4_length _ _ _ _ _ _
theorem mixO_eq {l : List UInt8} {o : Nat} {a b c d : UInt8} (ha : l.getD o 0 = a) (hb : l.getD (o + 1) 0 = b) (hc : l.getD (o + 2) 0 = c) (hd : l.getD (o + 3) 0 = d) :
    (((l.set o (l.getD o 0 ^^^ (a ^^^ b ^^^ c ^^^ d ^^^ tw (a ^^^ b)))).set (o + 1) ((l.set o (l.getD o 0 ^^^ (a ^^^ b ^^^ c ^^^ d ^^^ tw (a ^^^ b)))).getD (o + 1) 0 ^^^ (a ^^^ b ^^^ c ^^^ d ^^^ tw (b ^^^ c)))).set (o + 2) (((l.set o (l.getD o 0 ^^^ (a ^^^ b ^^^ c ^^^ d ^^^ tw (a ^^^ b)))).set (o + 1) ((l.set o (l.getD o 0 ^^^ (a ^^^ b ^^^ c ^^^ d ^^^ tw (a ^^^ b)))).getD (o + 1) 0 ^^^ (a ^^^ b ^^^ c ^^^ d ^^^ tw (b ^^^ c)))).getD (o + 2) 0 ^^^ (a ^^^ b ^^^ c ^^^ d ^^^ tw (c ^^^ d)))).set (o + 3) ((((l.set o (l.getD o 0 ^^^ (a ^^^ b ^^^ c ^^^ d ^^^ tw (a ^^^ b)))).set (o + 1) ((l.set o (l.getD o 0 ^^^ (a ^^^ b ^^^ c ^^^ d ^^^ tw (a ^^^ b)))).getD (o + 1) 0 ^^^ (a ^^^ b ^^^ c ^^^ d ^^^ tw (b ^^^ c)))).set (o + 2) (((l.set o (l.getD o 0 ^^^ (a ^^^ b ^^^ c ^^^ d ^^^ tw (a ^^^ b)))).set (o + 1) ((l.set o (l.getD o 0 ^^^ (a ^^^ b ^^^ c ^^^ d ^^^ tw (a ^^^ b)))).getD (o + 1) 0 ^^^ (a ^^^ b ^^^ c ^^^ d ^^^ tw (b ^^^ c)))).getD (o + 2) 0 ^^^ (a ^^^ b ^^^ c ^^^ d ^^^ tw (c ^^^ d)))).getD (o + 3) 0 ^^^ (a ^^^ b ^^^ c ^^^ d ^^^ tw (d ^^^ a))) = mixO l o := by
  simp only [getD_set_off (show o ≠ o + 1 by omega), getD_set_off (show o ≠ o + 2 by omega), getD_set_off (show o ≠ o + 3 by omega), getD_set_off (show o + 1 ≠ o + 2 by omega), getD_set_off (show o + 1 ≠ o + 3 by omega), getD_set_off (show o + 2 ≠ o + 3 by omega)]
  rw [ha, hb, hc, hd]; unfold mixO mixP put4; rw [ha, hb, hc, hd]
theorem drop4 {t : List UInt8} {o : Nat} (h : o + 4 ≤ t.length) : t.drop o = t.getD o 0 :: t.getD (o + 1) 0 :: t.getD (o + 2) 0 :: t.getD (o + 3) 0 :: t.drop (o + 4) := by
  have f : ∀ j, j < t.length → t.drop j = t.getD j 0 :: t.drop (j + 1) := by
    intro j hj
    rw [List.drop_eq_getElem_cons hj, List.getD_eq_getElem?_getD, List.getElem?_eq_getElem hj]; rfl
  rw [f o (by omega), f (o + 1) (by omega), f (o + 2) (by omega), f (o + 3) (by omega)]
theorem mix_step {t : List UInt8} {c : Nat} (ht : t.length = 16) (hc : c < 4) : mixO (mixK t c ++ t.drop (4 * c)) (4 * c) = mixK t (c + 1) ++ t.drop (4 * (c + 1)) := by
  have hl := mixK_length t c
  have e := drop4 (t := t) (o := 4 * c) (by omega)
  have g : ∀ k, k < 4 → (mixK t c ++ t.drop (4 * c)).getD (4 * c + k) 0 = t.getD (4 * c + k) 0 := by
    intro k hk
    rw [List.getD_eq_getElem?_getD, List.getElem?_append_right (by omega), List.getElem?_drop, hl, show 4 * c + (4 * c + k - 4 * c) = 4 * c + k from by omega, ← List.getD_eq_getElem?_getD]
  rw [mixO, show (mixK t c ++ t.drop (4 * c)).getD (4 * c) 0 = t.getD (4 * c) 0 from g 0 (by omega), g 1 (by omega), g 2 (by omega), g 3 (by omega), mixK_succ, colA, show 4 * (c + 1) = 4 * c + 4 from by omega]
  generalize t.getD (4 * c) 0 = w0 at *
  generalize t.getD (4 * c + 1) 0 = w1 at *
  generalize t.getD (4 * c + 2) 0 = w2 at *
  generalize t.getD (4 * c + 3) 0 = w3 at *
  rw [e]
  generalize mixK t c = m at *
  generalize t.drop (4 * c + 4) = q at *
  unfold mixP put4 mixC
  rw [← hl]
  simp [List.set_append_right]
theorem mix_none {t : List UInt8} : mixK t 0 ++ t.drop (4 * 0) = t := rfl
theorem mix_all {t : List UInt8} (ht : t.length = 16) : mixK t 4 ++ t.drop (4 * 4) = mixK t 4 := by
  rw [List.drop_eq_nil_of_le (by omega), List.append_nil]
theorem with_step {ks s : List UInt8} {r i : Nat} (hi : i < 16) : (withK s (rkey ks r) i).set i ((withK s (rkey ks r) i).getD i 0 ^^^ ks.getD (16 * r + i) 0) = withK s (rkey ks r) (i + 1) := by
  rw [withK_succ, rkey_get hi]
/-! the key's bytes, as far as they are -/
def zs (n : Nat) : List UInt8 := List.replicate n 0
theorem zs_length (n : Nat) : (zs n).length = n := List.length_replicate ..
theorem last4 {l : List UInt8} {o m : Nat} (h : o + 4 = l.length) : ((l ++ zs m).drop o).take 4 = [l.getD o 0, l.getD (o + 1) 0, l.getD (o + 2) 0, l.getD (o + 3) 0] := by
  rw [List.drop_append_of_le_length (by omega), drop4 (by omega), List.drop_eq_nil_of_le (by omega)]; rfl
theorem ext_step {l w : List UInt8} {m k : Nat} (hl : 16 ≤ l.length) (hk : k < 16) (hm : k < m) :
    (extK l w k ++ zs (m - k)).set (l.length + k) ((extK l w k ++ zs (m - k)).getD (l.length + k - 16) 0 ^^^ w.getD k 0) = extK l w (k + 1) ++ zs (m - (k + 1)) := by
  have hn := extK_length l w k
  rw [List.getD_eq_getElem?_getD, List.getElem?_append_left (by omega), ← List.getD_eq_getElem?_getD, extK_get _ _ _ _ (by omega), List.set_append_right _ _ (by omega), extK_succ, show l.length + k - (extK l w k).length = 0 from by omega, zs, show m - k = (m - (k + 1)) + 1 from by omega, List.replicate_succ]
  simp [zs]; congr 2; omega
theorem start_eq {key : List UInt8} (h : key.length = 16) : (zs 176).take (1 - 1) ++ key.take (min key.length 176) ++ (zs 176).drop (1 - 1 + (key.take (min key.length 176)).length) = (expS key 0).1 ++ zs (160 - 4 * 0) := by
  rw [expS_zero, h, show min 16 176 = 16 from rfl, show key.take 16 = key from List.take_of_length_le (by omega), h]
  simp [zs]
theorem expS_next (key : List UInt8) (j : Nat) : (expS key (j + 1)).1 = extK (expS key j).1 (lastW (expS key j).1 j (expS key j).2) 4 := by rw [expS_succ]
theorem expS_x_yes {key : List UInt8} {j : Nat} (h : j % 4 = 0) : (expS key (j + 1)).2 = tw (expS key j).2 := by rw [expS_succ]; exact if_pos h
theorem expS_x_no {key : List UInt8} {j : Nat} (h : ¬ j % 4 = 0) : (expS key (j + 1)).2 = (expS key j).2 := by rw [expS_succ]; exact if_neg h
theorem last_no {l : List UInt8} {o m j : Nat} {x : UInt8} (h : o + 4 = l.length) (hj : ¬ j % 4 = 0) : ((l ++ zs m).drop o).take 4 = lastW l j x := by
  rw [last4 h, lastW_no hj, ← h]; rfl
theorem last_yes {l : List UInt8} {o m j : Nat} {x : UInt8} (h : o + 4 = l.length) (hj : j % 4 = 0) :
    [sbox.getD ((((l ++ zs m).drop o).take 4).getD 1 0).toNat 0 ^^^ x, sbox.getD ((((l ++ zs m).drop o).take 4).getD 2 0).toNat 0, sbox.getD ((((l ++ zs m).drop o).take 4).getD 3 0).toNat 0, sbox.getD ((((l ++ zs m).drop o).take 4).getD 0 0).toNat 0] = lastW l j x := by
  rw [last4 h, lastW_yes hj, ← h, sb_get, sb_get, sb_get, sb_get]; rfl
theorem keys_fin (key : List UInt8) : (expS key 40).1 ++ zs (160 - 4 * 40) = keysL key := by
  rw [show zs (160 - 4 * 40) = [] from rfl, List.append_nil, keysL]
attribute [irreducible] zs mixO
end Go.Proofs.Ytngbaokcbecdfaa
