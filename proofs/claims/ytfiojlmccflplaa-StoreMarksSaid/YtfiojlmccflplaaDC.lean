/-
  Rules for a struct of one cell and bytes behind it, and for arrays out of slices of bytes. No condition.
-/
import Derived.Test.YtfiojlmccflplaaDB
namespace Go.Proofs.Ytfiojlmccflplaa.D
open Go Go.RowKit
set_option linter.unusedVariables false
set_option linter.unusedSimpArgs false
section
variable {P : Program} {w0 : World} {ρ : Operand → Value} {H H0 : Hp} {L : List Chunk} {F : Chunk → List Chunk} {d : Option Tmp} {ty : TypeId} {pos : String} {af : Array Edge} {g : Option (Nat × Bool)} {xt yt : TypeId} {x y : Operand}
theorem q_fieldTo {t : TypeId} {fs : Array Field} {f : Field} {m sz : Nat} {x : Operand} {b : Nat} (k : Nat) (ht : P.underlying t = some (.struct fs)) (hf : fs[m]? = some f) (hk : f.offset = k) (hs : sizeT P f.type = some (sz + 1))
    (hx : ρ x = .pointer (some ⟨b, 0, none⟩)) : QS P w0 ρ ⟨d, .fieldAddr t x m, ty, pos, af, g⟩ H (.pointer (some ⟨b, k, none⟩)) := by
  have := q_fieldAddr (w0 := w0) (H := H) (d := d) (ty := ty) (pos := pos) (af := af) (g := g) ht hf hs hx
  rwa [Nat.zero_add, hk] at this
theorem q_loadTB1 {t : TypeId} {b j sz : Nat} {el : TypeId} {v0 : Value} {l : List UInt8} (ht : scalT P t = true) (hx : ρ x = .pointer (some ⟨b, 1 + j * 1, none⟩)) (hb : H b = some ⟨v0 :: nums .u8 (ofB l), sz, el⟩) (hj : j < l.length) :
    QS P w0 ρ ⟨d, .load t x, ty, pos, af, g⟩ H (BV (l.getD j 0)) := by
  have := q_loadTB (P := P) (w0 := w0) (H := H) (d := d) (ty := ty) (pos := pos) (af := af) (g := g) ht hx hb (by omega) (by omega)
  rwa [show 1 + j * 1 - 1 = j from by omega] at this
theorem s_storeTB1 {t : TypeId} {b j sz : Nat} {el : TypeId} {v0 : Value} {l : List UInt8} {c : UInt8} (hS : Sep H0 L H) (hA : At L (.blk b ⟨v0 :: nums .u8 (ofB l), sz, el⟩) F) (ht : sizeT P t = some 1) (hx : ρ x = .pointer (some ⟨b, 1 + j * 1, none⟩)) (hy : ρ y = BV c) (hj : j < l.length) :
    OpR P w0 ρ ⟨d, .store t x y, ty, pos, af, g⟩ H (fun u H' => u = undef ∧ Sep H0 (F (.blk b ⟨v0 :: nums .u8 (ofB (l.set j c)), sz, el⟩)) H') := by
  have := s_storeTB (w0 := w0) (d := d) (ty := ty) (pos := pos) (af := af) (g := g) hS hA ht hx hy (by omega) (by omega)
  rwa [show 1 + j * 1 - 1 = j from by omega] at this
theorem q_loadTA1 {t : TypeId} {n b j sz : Nat} {el : TypeId} {v0 : Value} {l : List UInt8} (ht : aggT P t n = true) (hx : ρ x = .pointer (some ⟨b, 1 + j * 1, none⟩)) (hb : H b = some ⟨v0 :: nums .u8 (ofB l), sz, el⟩) (hj : j + n ≤ l.length) :
    QS P w0 ρ ⟨d, .load t x, ty, pos, af, g⟩ H (.agg (nums .u8 (ofB ((l.drop j).take n))).toArray) := by
  have := q_loadTA (P := P) (w0 := w0) (H := H) (d := d) (ty := ty) (pos := pos) (af := af) (g := g) ht hx hb (by omega) (by omega)
  rwa [show 1 + j * 1 - 1 = j from by omega] at this
theorem q_stringT1 {s t e : TypeId} {b j n c sz : Nat} {el : TypeId} {v0 : Value} {l : List UInt8} (hs : P.underlying s = some (.slice e)) (he : P.underlying e = some (.int .u8)) (ht : P.underlying t = some .string)
    (hx : ρ x = .slice (some ⟨b, 1 + j * 1, none⟩) n c) (hb : H b = some ⟨v0 :: nums .u8 (ofB l), sz, el⟩) (hn : j + n ≤ l.length) : QS P w0 ρ ⟨d, .convert s t x, ty, pos, af, g⟩ H (S ((l.drop j).take n)) := by
  have := q_stringT (P := P) (w0 := w0) (H := H) (d := d) (ty := ty) (pos := pos) (af := af) (g := g) hs he ht hx hb (by omega) (by omega)
  rwa [show 1 + j * 1 - 1 = j from by omega] at this
theorem q_arrayVec {t e el : TypeId} {m n : Nat} {v : Value} {cs : List Value} (hV : Vec H el 1 v n cs) (ht : P.underlying t = some (.array m e)) (hx : ρ x = v) (h : m ≤ n) (h0 : 0 < n) : QS P w0 ρ ⟨d, .sliceToArrayPointer t x, ty, pos, af, g⟩ H (vptr v 0) := by
  obtain ⟨b, cap, q, rfl, _⟩ := hV.opened h0
  exact q_arrayAt ht hx h
theorem q_loadVAB {t el : TypeId} {m n : Nat} {v : Value} {l : List UInt8} (hV : Vec H el 1 v n (nums .u8 (ofB l))) (ht : aggT P t m = true) (hx : ρ x = vptr v 0) (h : m ≤ l.length) (h0 : 0 < n) :
    QS P w0 ρ ⟨d, .load t x, ty, pos, af, g⟩ H (.agg (nums .u8 (ofB (l.take m))).toArray) := by
  obtain ⟨b, cap, q, rfl, hq, _, _, _, _, _, _, hc⟩ := hV.opened h0
  refine q_loadA (n := m) ht hx hq (by simp [nums_length, ofB_length]; omega) ?_
  intro i u hi
  have hi' : i < m := by
    rcases Nat.lt_or_ge i m with h | h
    · exact h
    · rw [List.getElem?_eq_none (by simp [nums_length, ofB_length]; omega)] at hi; exact absurd hi (by simp)
  refine hc (0 + i) u ?_
  rw [Nat.zero_add, ← hi]
  simp only [nums, ofB, List.map_take, List.getElem?_take, hi', if_true]
/-- A part of a slice. -/
def subV (v : Value) (a b : Nat) : Value := match v with
  | .slice (some ⟨k, o, r⟩) _ cp => .slice (some (if cp = a then ⟨k, o, r⟩ else ⟨k, o + a * 1, r⟩)) (b - a) (cp - a)
  | _ => v
theorem q_sliceVec {t e el : TypeId} {lo hi : Operand} {v : Value} {m : Nat} {cs : List Value} {k k' : IntKind} {a c : Int} (hV : Vec H el 1 v m cs) (ht : P.underlying t = some (.slice e)) (hs : sizeT P e = some 1) (hx : ρ x = v)
    (ha : ρ lo = .int k a) (hc : ρ hi = .int k' c) (h0 : 0 ≤ a) (h1 : a ≤ c) (h2 : c ≤ m) (h3 : 0 < m) : QS P w0 ρ ⟨d, .slice t x (some lo) (some hi) none, ty, pos, af, g⟩ H (subV v a.toNat c.toNat) := by
  obtain ⟨b, cap, q, rfl, _, _, _, _, h6, _, _, _⟩ := hV.opened h3
  exact q_sliceV (sz := 1) ht hs hx ha hc h0 h1 (by omega)
theorem q_stringSub {s t e el : TypeId} {v : Value} {m a c : Nat} {l : List UInt8} (hV : Vec H el 1 v m (nums .u8 (ofB l))) (hs : P.underlying s = some (.slice e)) (he : P.underlying e = some (.int .u8)) (ht : P.underlying t = some .string)
    (hx : ρ x = subV v a c) (h1 : a ≤ c) (h2 : c ≤ l.length) (h3 : 0 < m) : QS P w0 ρ ⟨d, .convert s t x, ty, pos, af, g⟩ H (S ((l.drop a).take (c - a))) := by
  obtain ⟨b, cap, q, rfl, hq, _, _, hl, h6, _, _, hcs⟩ := hV.opened h3
  have := q_string (P := P) (w0 := w0) (ρ := ρ) (x := x) (d := d) (ty := ty) (pos := pos) (af := af) (g := g) (b := b) (o := if cap = a then 0 else 0 + a * 1) (n := c - a) (c := cap - a) (xs := ofB ((l.drop a).take (c - a))) hs he ht (by rw [hx]; simp only [subV]; split <;> rfl) hq (by simp [ofB_length]; omega) (fun i u hi => by
    have hi' : i < c - a := by
      rcases Nat.lt_or_ge i (c - a) with h | h
      · exact h
      · rw [List.getElem?_eq_none (by simp [nums_length, ofB_length]; omega)] at hi; exact absurd hi (by simp)
    have hl' : m = l.length := by rw [nums_length, ofB_length] at hl; omega
    rw [if_neg (by omega)]
    refine hcs _ u ?_
    rw [← hi]
    simp only [nums, ofB, List.map_take, List.map_drop, List.getElem?_take, hi', if_true, List.getElem?_drop, Nat.zero_add, Nat.mul_one])
  rwa [toB_ofB] at this
end
end Go.Proofs.Ytfiojlmccflplaa.D
