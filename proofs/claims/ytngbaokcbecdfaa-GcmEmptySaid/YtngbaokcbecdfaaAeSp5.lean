/-
  What the document's answer steps through.
-/
import Derived.Test.YtngbaokcbecdfaaAeSp4
namespace Go.Proofs.Ytngbaokcbecdfaa
open Go Go.RowKit D
set_option linter.unusedVariables false
set_option linter.unusedSimpArgs false
set_option maxRecDepth 100000
set_option maxHeartbeats 1000000
theorem invR_yes {b : UInt8} {k : Nat} (h : tmN (k + 1) b.toNat = 1) : invR b (k + 1) = k + 1 := if_pos h
theorem invR_no {b : UInt8} {k : Nat} (h : ¬ tmN (k + 1) b.toNat = 1) : invR b (k + 1) = invR b k := if_neg h
theorem p3L_zero' : p3L 0 = [] := by unfold p3L; rfl
theorem p3L_succ' (i : Nat) : p3L (i + 1) = p3L i ++ [(((p3 i).toNat : Nat) : Int)] := p3L_succ i
theorem p3L_length' (i : Nat) : (p3L i).length = i := p3L_length i
theorem p3L_get' {n i : Nat} (h : i < n) : (p3L n).getD i 0 = (((p3 i).toNat : Nat) : Int) := p3L_get h
theorem tabR_zero' : tabR 0 = (List.replicate 256 0).set 0 99 := tabR_zero
theorem tabR_succ' (i : Nat) : tabR (i + 1) = (tabR i).set (p3 i).toNat (stK (p3 ((255 - i) % 255)) 5) := tabR_succ i
/-! mixing, as a product with 2 and with 3 -/
theorem tm2 (x : UInt8) : tm x 2 = tw x := all_bytes (p := fun x => tm x 2 = tw x) (by decide +kernel) x
theorem tm3 (x : UInt8) : tm x 3 = tw x ^^^ x := all_bytes (p := fun x => tm x 3 = tw x ^^^ x) (by decide +kernel) x
theorem twN_xor : ∀ a : Nat, a < 256 → ∀ b : Nat, b < 256 → twN (Nat.xor a b) = Nat.xor (twN a) (twN b) := by decide +kernel
theorem tw_xor (a b : UInt8) : tw (a ^^^ b) = tw a ^^^ tw b := by
  apply UInt8.toNat_inj.1
  rw [tw_toNat, UInt8.toNat_xor, UInt8.toNat_xor, tw_toNat, tw_toNat]
  exact twN_xor _ a.toNat_lt _ b.toNat_lt
theorem tm2N (x : UInt8) : tmN x.toNat 2 = twN x.toNat := by
  have := congrArg UInt8.toNat (tm2 x)
  rwa [tm_toNat, tw_toNat] at this
theorem xx (a y : UInt8) : a ^^^ (a ^^^ y) = y := by rw [← UInt8.xor_assoc, UInt8.xor_self, UInt8.zero_xor]
theorem mix0 (a b c d : UInt8) : a ^^^ (a ^^^ b ^^^ c ^^^ d ^^^ tw (a ^^^ b)) = tm a 2 ^^^ tm b 3 ^^^ c ^^^ d := by
  rw [tm2, tm3, tw_xor, show a ^^^ b ^^^ c ^^^ d ^^^ (tw a ^^^ tw b) = a ^^^ (tw a ^^^ (tw b ^^^ b) ^^^ c ^^^ d) from by ac_rfl, xx]
theorem mix1 (a b c d : UInt8) : b ^^^ (a ^^^ b ^^^ c ^^^ d ^^^ tw (b ^^^ c)) = tm b 2 ^^^ tm c 3 ^^^ d ^^^ a := by
  rw [tm2, tm3, tw_xor, show a ^^^ b ^^^ c ^^^ d ^^^ (tw b ^^^ tw c) = b ^^^ (tw b ^^^ (tw c ^^^ c) ^^^ d ^^^ a) from by ac_rfl, xx]
theorem mix2 (a b c d : UInt8) : c ^^^ (a ^^^ b ^^^ c ^^^ d ^^^ tw (c ^^^ d)) = tm c 2 ^^^ tm d 3 ^^^ a ^^^ b := by
  rw [tm2, tm3, tw_xor, show a ^^^ b ^^^ c ^^^ d ^^^ (tw c ^^^ tw d) = c ^^^ (tw c ^^^ (tw d ^^^ d) ^^^ a ^^^ b) from by ac_rfl, xx]
theorem mix3 (a b c d : UInt8) : d ^^^ (a ^^^ b ^^^ c ^^^ d ^^^ tw (d ^^^ a)) = tm d 2 ^^^ tm a 3 ^^^ b ^^^ c := by
  rw [tm2, tm3, tw_xor, show a ^^^ b ^^^ c ^^^ d ^^^ (tw d ^^^ tw a) = d ^^^ (tw d ^^^ (tw a ^^^ a) ^^^ b ^^^ c) from by ac_rfl, xx]
theorem colA_get (t : List UInt8) (c : Nat) {r : Nat} (hr : r < 4) : (colA t c).getD r 0 = tm (t.getD (4 * c + r) 0) 2 ^^^ tm (t.getD (4 * c + (r + 1) % 4) 0) 3 ^^^ t.getD (4 * c + (r + 2) % 4) 0 ^^^ t.getD (4 * c + (r + 3) % 4) 0 := by
  rcases r with _ | _ | _ | _ | r
  · exact mix0 _ _ _ _
  · exact mix1 _ _ _ _
  · exact mix2 _ _ _ _
  · exact mix3 _ _ _ _
  · omega
theorem mix_int (a b c d : UInt8) : ixor .i64 (ixor .i64 (ixor .i64 ((tmN a.toNat 2 : Nat) : Int) ((tmN b.toNat 3 : Nat) : Int)) ((c.toNat : Nat) : Int)) ((d.toNat : Nat) : Int) = (((tm a 2 ^^^ tm b 3 ^^^ c ^^^ d).toNat : Nat) : Int) := by
  have ha := (tm a 2).toNat_lt; have hb := (tm b 3).toNat_lt; have hc := c.toNat_lt; have hd := d.toNat_lt
  have e1 : tmN a.toNat 2 = (tm a 2).toNat := (tm_toNat a 2).symm
  have e2 : tmN b.toNat 3 = (tm b 3).toNat := (tm_toNat b 3).symm
  have h1 := (tm a 2 ^^^ tm b 3).toNat_lt
  have h2 := (tm a 2 ^^^ tm b 3 ^^^ c).toNat_lt
  rw [e1, e2, ixor_i64 (by omega) (by omega), ← UInt8.toNat_xor, ixor_i64 (by omega) (by omega), ← UInt8.toNat_xor, ixor_i64 (by omega) (by omega), ← UInt8.toNat_xor]
def mixU (t : List UInt8) (c r : Nat) : List UInt8 := mixK t c ++ (colA t c).take r
theorem mixU_zero (t : List UInt8) (c : Nat) : mixU t c 0 = mixK t c := by rw [mixU, List.take_zero, List.append_nil]
theorem mixU_four (t : List UInt8) (c : Nat) : mixU t c 4 = mixK t (c + 1) := rfl
theorem mixU_succ (t : List UInt8) (c : Nat) {r : Nat} (hr : r < 4) : mixU t c (r + 1) = mixU t c r ++ [(colA t c).getD r 0] := by
  unfold mixU
  rw [List.append_assoc]
  congr 1
  rcases r with _ | _ | _ | _ | r <;> first | rfl | omega
theorem mixU_length (t : List UInt8) (c : Nat) {r : Nat} (hr : r ≤ 4) : (mixU t c r).length = 4 * c + r := by rw [mixU, List.length_append, mixK_length, List.length_take, colA_length]; omega
attribute [irreducible] mixU
end Go.Proofs.Ytngbaokcbecdfaa
