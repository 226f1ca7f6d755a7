/-
  Bytes as bytes: rules for values that are known to be bytes. No condition.
-/
import Derived.Test.YtfiojlmccflplaaDI
namespace Go.Proofs.Ytfiojlmccflplaa.D
open Go Go.RowKit
set_option linter.unusedVariables false
set_option linter.unusedSimpArgs false
abbrev BV (c : UInt8) : Value := .int .u8 ((c.toNat : Nat) : Int)
theorem ofB_set (l : List UInt8) (j : Nat) (c : UInt8) : (ofB l).set j ((c.toNat : Nat) : Int) = ofB (l.set j c) := by simp [ofB, List.map_set]
theorem ofB_app (a b : List UInt8) : ofB (a ++ b) = ofB a ++ ofB b := by simp [ofB]
theorem ofB_take (a : List UInt8) (n : Nat) : (ofB a).take n = ofB (a.take n) := by simp [ofB, List.map_take]
theorem ofB_drop (a : List UInt8) (n : Nat) : (ofB a).drop n = ofB (a.drop n) := by simp [ofB, List.map_drop]
theorem ixor_B (a c : UInt8) : ixor .u8 ((a.toNat : Nat) : Int) ((c.toNat : Nat) : Int) = (((a ^^^ c).toNat : Nat) : Int) := by rw [ixor_u8 a.toNat_lt c.toNat_lt, UInt8.toNat_xor]
theorem iand_B (a c : UInt8) : iand .u8 ((a.toNat : Nat) : Int) ((c.toNat : Nat) : Int) = (((a &&& c).toNat : Nat) : Int) := by rw [iand_u8 a.toNat_lt c.toNat_lt, UInt8.toNat_and]
theorem ior_B (a c : UInt8) : ior .u8 ((a.toNat : Nat) : Int) ((c.toNat : Nat) : Int) = (((a ||| c).toNat : Nat) : Int) := by rw [ior_u8 a.toNat_lt c.toNat_lt, UInt8.toNat_or]
/-- What holds of 256 numbers holds of all bytes. -/
theorem all_bytes {p : UInt8 → Prop} (h : ∀ n : Nat, n < 256 → p (UInt8.ofNat n)) (c : UInt8) : p c := by
  have := h c.toNat c.toNat_lt
  rwa [UInt8.ofNat_toNat] at this
section
variable {P : Program} {w0 : World} {ρ : Operand → Value} {H H0 : Hp} {L : List Chunk} {F : Chunk → List Chunk} {d : Option Tmp} {ty : TypeId} {pos : String} {af : Array Edge} {g : Option (Nat × Bool)} {xt yt : TypeId} {x y : Operand}
theorem q_xorB {a b : UInt8} (hx : ρ x = BV a) (hy : ρ y = BV b) : QS P w0 ρ ⟨d, .binOp .xor xt x y yt, ty, pos, af, g⟩ H (BV (a ^^^ b)) := by
  have := q_xor (P := P) (w0 := w0) (H := H) (d := d) (ty := ty) (pos := pos) (af := af) (g := g) (xt := xt) (yt := yt) hx hy
  rwa [ixor_B] at this
theorem q_andB {a b : UInt8} (hx : ρ x = BV a) (hy : ρ y = BV b) : QS P w0 ρ ⟨d, .binOp .and xt x y yt, ty, pos, af, g⟩ H (BV (a &&& b)) := by
  have := q_and (P := P) (w0 := w0) (H := H) (d := d) (ty := ty) (pos := pos) (af := af) (g := g) (xt := xt) (yt := yt) hx hy
  rwa [iand_B] at this
theorem q_orB {a b : UInt8} (hx : ρ x = BV a) (hy : ρ y = BV b) : QS P w0 ρ ⟨d, .binOp .or xt x y yt, ty, pos, af, g⟩ H (BV (a ||| b)) := by
  have := q_or (P := P) (w0 := w0) (H := H) (d := d) (ty := ty) (pos := pos) (af := af) (g := g) (xt := xt) (yt := yt) hx hy
  rwa [ior_B] at this
theorem q_convBI {s t : TypeId} {a : UInt8} (hs : (P.underlying s).isSome = true) (ht : P.underlying t = some (.int .i64)) (hx : ρ x = BV a) : QS P w0 ρ ⟨d, .convert s t x, ty, pos, af, g⟩ H (.int .i64 ((a.toNat : Nat) : Int)) :=
  q_convI64 hs ht hx (by have := a.toNat_lt; omega)
theorem q_convIB {s t : TypeId} {k : IntKind} {a : UInt8} (hs : (P.underlying s).isSome = true) (ht : P.underlying t = some (.int .u8)) (hx : ρ x = .int k ((a.toNat : Nat) : Int)) : QS P w0 ρ ⟨d, .convert s t x, ty, pos, af, g⟩ H (BV a) := by
  have := q_convInt (w0 := w0) (H := H) (d := d) (ty := ty) (pos := pos) (af := af) (g := g) hs ht hx
  rwa [wrap_u8_in (by omega) (by have := a.toNat_lt; omega)] at this
theorem q_loadB {t : TypeId} {b j sz : Nat} {el : TypeId} {l : List UInt8} (ht : scalT P t = true) (hx : ρ x = .pointer (some ⟨b, j, none⟩)) (hb : H b = some ⟨nums .u8 (ofB l), sz, el⟩) (hj : j < l.length) :
    QS P w0 ρ ⟨d, .load t x, ty, pos, af, g⟩ H (BV (l.getD j 0)) := by
  have := q_loadN (P := P) (w0 := w0) (d := d) (ty := ty) (pos := pos) (af := af) (g := g) ht hx hb (by rw [ofB_length]; exact hj)
  rwa [ofB_getD] at this
theorem s_storeB {t : TypeId} {b j sz : Nat} {el : TypeId} {l : List UInt8} {c : UInt8} (hS : Sep H0 L H) (hA : At L (.blk b ⟨nums .u8 (ofB l), sz, el⟩) F) (ht : sizeT P t = some 1) (hx : ρ x = .pointer (some ⟨b, j, none⟩)) (hy : ρ y = BV c) (hj : j < l.length) :
    OpR P w0 ρ ⟨d, .store t x y, ty, pos, af, g⟩ H (fun u H' => u = undef ∧ Sep H0 (F (.blk b ⟨nums .u8 (ofB (l.set j c)), sz, el⟩)) H') := by
  have := s_storeN (w0 := w0) (d := d) (ty := ty) (pos := pos) (af := af) (g := g) hS hA ht hx hy (by rw [ofB_length]; exact hj)
  rwa [ofB_set] at this
theorem q_loadVB {t el : TypeId} {m j : Nat} {v : Value} {l : List UInt8} (hV : Vec H el 1 v m (nums .u8 (ofB l))) (ht : scalT P t = true) (hx : ρ x = vptr v j) (hj : j < l.length) :
    QS P w0 ρ ⟨d, .load t x, ty, pos, af, g⟩ H (BV (l.getD j 0)) := by
  have := q_loadVN (P := P) (w0 := w0) (d := d) (ty := ty) (pos := pos) (af := af) (g := g) hV ht hx (by rw [ofB_length]; exact hj)
  rwa [ofB_getD] at this
theorem s_storeVB {t el : TypeId} {m j : Nat} {v : Value} {l : List UInt8} {c : UInt8} (hS : Sep H0 L H) (hA : At L (.vec v el 1 m (nums .u8 (ofB l))) F) (ht : sizeT P t = some 1) (hx : ρ x = vptr v j) (hy : ρ y = BV c) (hj : j < l.length) :
    OpR P w0 ρ ⟨d, .store t x y, ty, pos, af, g⟩ H (fun r H' => r = undef ∧ Sep H0 (F (.vec v el 1 m (nums .u8 (ofB (l.set j c))))) H') := by
  have := s_storeVN (w0 := w0) (d := d) (ty := ty) (pos := pos) (af := af) (g := g) hS hA ht hx hy (by rw [ofB_length]; exact hj)
  rwa [ofB_set] at this
/-- A string out of bytes. -/
theorem q_stringB {s t e : TypeId} {v : Value} {n : Nat} {l : List UInt8} (hV : Vec H e 1 v n (nums .u8 (ofB l))) (hs : P.underlying s = some (.slice e)) (he : P.underlying e = some (.int .u8)) (ht : P.underlying t = some .string)
    (hx : ρ x = v) : QS P w0 ρ ⟨d, .convert s t x, ty, pos, af, g⟩ H (S l) := by
  have := q_stringVec (P := P) (w0 := w0) (d := d) (ty := ty) (pos := pos) (af := af) (g := g) hV hs he ht hx
  rwa [toB_ofB] at this
theorem q_stringB0 {s t e : TypeId} {b n c sz : Nat} {el : TypeId} {l : List UInt8} (hs : P.underlying s = some (.slice e)) (he : P.underlying e = some (.int .u8)) (ht : P.underlying t = some .string)
    (hx : ρ x = .slice (some ⟨b, 0, none⟩) n c) (hb : H b = some ⟨nums .u8 (ofB l), sz, el⟩) (hn : n ≤ l.length) : QS P w0 ρ ⟨d, .convert s t x, ty, pos, af, g⟩ H (S (l.take n)) := by
  have := q_string0 (P := P) (w0 := w0) (d := d) (ty := ty) (pos := pos) (af := af) (g := g) hs he ht hx hb (by rw [ofB_length]; exact hn)
  rwa [ofB_take, toB_ofB] at this
/-- Bytes behind one other cell. -/
theorem tail_get {v0 : Value} {k : IntKind} {xs : List Int} {o : Nat} (h1 : 1 ≤ o) (h2 : o - 1 < xs.length) : (v0 :: nums k xs)[o]? = some (.int k (xs.getD (o - 1) 0)) := by
  obtain ⟨p, rfl⟩ : ∃ p, o = p + 1 := ⟨o - 1, by omega⟩
  rw [List.getElem?_cons_succ]; exact nums_get k xs h2
theorem q_loadTB {t : TypeId} {b o sz : Nat} {el : TypeId} {v0 : Value} {l : List UInt8} (ht : scalT P t = true) (hx : ρ x = .pointer (some ⟨b, o, none⟩)) (hb : H b = some ⟨v0 :: nums .u8 (ofB l), sz, el⟩) (h1 : 1 ≤ o) (hj : o - 1 < l.length) :
    QS P w0 ρ ⟨d, .load t x, ty, pos, af, g⟩ H (BV (l.getD (o - 1) 0)) := by
  have := q_load (P := P) (w0 := w0) (H := H) (d := d) (ty := ty) (pos := pos) (af := af) (g := g) ht hx hb (tail_get h1 (by rw [ofB_length]; exact hj))
  rwa [ofB_getD] at this
theorem s_storeTB {t : TypeId} {b o sz : Nat} {el : TypeId} {v0 : Value} {l : List UInt8} {c : UInt8} (hS : Sep H0 L H) (hA : At L (.blk b ⟨v0 :: nums .u8 (ofB l), sz, el⟩) F) (ht : sizeT P t = some 1) (hx : ρ x = .pointer (some ⟨b, o, none⟩)) (hy : ρ y = BV c) (h1 : 1 ≤ o) (hj : o - 1 < l.length) :
    OpR P w0 ρ ⟨d, .store t x y, ty, pos, af, g⟩ H (fun u H' => u = undef ∧ Sep H0 (F (.blk b ⟨v0 :: nums .u8 (ofB (l.set (o - 1) c)), sz, el⟩)) H') := by
  have := s_storeC (w0 := w0) (d := d) (ty := ty) (pos := pos) (af := af) (g := g) hS hA ht hx hy rfl (by rw [List.length_cons, nums_length, ofB_length]; omega)
  obtain ⟨p, rfl⟩ : ∃ p, o = p + 1 := ⟨o - 1, by omega⟩
  rw [List.set_cons_succ, nums_set, ofB_set] at this
  exact this
theorem q_loadTA {t : TypeId} {n b o sz : Nat} {el : TypeId} {v0 : Value} {l : List UInt8} (ht : aggT P t n = true) (hx : ρ x = .pointer (some ⟨b, o, none⟩)) (hb : H b = some ⟨v0 :: nums .u8 (ofB l), sz, el⟩) (h1 : 1 ≤ o) (hj : o - 1 + n ≤ l.length) :
    QS P w0 ρ ⟨d, .load t x, ty, pos, af, g⟩ H (.agg (nums .u8 (ofB ((l.drop (o - 1)).take n))).toArray) := by
  refine q_loadA (n := n) ht hx hb (by simp [nums_length, ofB_length]; omega) ?_
  intro i v hi
  obtain ⟨p, rfl⟩ : ∃ p, o = p + 1 := ⟨o - 1, by omega⟩
  rw [show p + 1 + i = (p + i) + 1 from by omega, List.getElem?_cons_succ]
  rw [Nat.add_sub_cancel, ← ofB_take, ← nums_take, List.getElem?_take] at hi
  split at hi
  · rw [← ofB_drop, ← nums_drop, List.getElem?_drop] at hi; exact hi
  · cases hi
theorem q_stringT {s t e : TypeId} {b o n c sz : Nat} {el : TypeId} {v0 : Value} {l : List UInt8} (hs : P.underlying s = some (.slice e)) (he : P.underlying e = some (.int .u8)) (ht : P.underlying t = some .string)
    (hx : ρ x = .slice (some ⟨b, o, none⟩) n c) (hb : H b = some ⟨v0 :: nums .u8 (ofB l), sz, el⟩) (h1 : 1 ≤ o) (hn : o - 1 + n ≤ l.length) : QS P w0 ρ ⟨d, .convert s t x, ty, pos, af, g⟩ H (S ((l.drop (o - 1)).take n)) := by
  have := q_string (P := P) (w0 := w0) (d := d) (ty := ty) (pos := pos) (af := af) (g := g) (xs := ofB ((l.drop (o - 1)).take n)) hs he ht hx hb (by simp [ofB_length]; omega) (fun i v hi => by
    obtain ⟨p, rfl⟩ : ∃ p, o = p + 1 := ⟨o - 1, by omega⟩
    rw [show p + 1 + i = (p + i) + 1 from by omega, List.getElem?_cons_succ]
    rw [Nat.add_sub_cancel, ← ofB_take, ← nums_take, List.getElem?_take] at hi
    split at hi
    · rw [← ofB_drop, ← nums_drop, List.getElem?_drop] at hi; exact hi
    · cases hi)
  rwa [toB_ofB] at this
theorem rep_ofB (n : Nat) : List.replicate n (0 : Int) = ofB (List.replicate n 0) := by simp [ofB]
theorem s_allocB {t : TypeId} (m : Nat) (hS : Sep H0 L H) (hz : zeroT P t = some (.agg (nums .u8 (List.replicate m 0)).toArray)) :
    OpR P w0 ρ ⟨d, .alloc t, ty, pos, af, g⟩ H (fun u H' => ∃ b, u = .pointer (some ⟨b, 0, none⟩) ∧ Sep H0 (.blk b ⟨nums .u8 (ofB (List.replicate m 0)), m, t⟩ :: L) H') := by
  have := s_allocN (w0 := w0) (ρ := ρ) (d := d) (ty := ty) (pos := pos) (af := af) (g := g) hS hz
  rwa [rep_ofB] at this
theorem s_makeSliceB {t e : TypeId} {k k' : IntKind} {n c : Int} {by_ : Nat} (hS : Sep H0 L H) (ht : P.underlying t = some (.slice e)) (hs : sizeT P e = some 1) (hb : bytesT P e = some by_) (hz : zeroT P e = some (.int .u8 0))
    (hx : ρ x = .int k n) (hy : ρ y = .int k' c) (h0 : 0 ≤ n) (hnc : n ≤ c) (hc : by_ * c ≤ 2 ^ 48) (hc' : c ≤ 9223372036854775807) (hm : c.toNat ≤ maxLen) :
    OpR P w0 ρ ⟨d, .makeSlice t x y, ty, pos, af, g⟩ H (fun u H' => Sep H0 (.vec u e 1 n.toNat (nums .u8 (ofB (List.replicate n.toNat 0))) :: L) H') := by
  have := s_makeSliceN (w0 := w0) (d := d) (ty := ty) (pos := pos) (af := af) (g := g) hS ht hs hb hz hx hy h0 hnc hc hc' hm
  rwa [rep_ofB] at this
theorem s_copyB {t t2 e : TypeId} {b o n c m s : Nat} {el : TypeId} {l news : List UInt8} {u : Value} (hS : Sep H0 L H) (hA : At L (.blk b ⟨nums .u8 (ofB l), s, el⟩) F) (ht : P.underlying t = some (.slice e)) (hs : sizeT P e = some 1) (hx : ρ x = .slice (some ⟨b, o, none⟩) n c) (hy : ρ y = u)
    (hn : o + n ≤ l.length) (hu : Src P w0 H 1 u m (nums .u8 (ofB news))) :
    OpR P w0 ρ ⟨d, .call { callee := .builtin .copy, args := #[x, y], argTypes := #[t, t2] }, ty, pos, af, g⟩ H
      (fun v H' => v = .int .i64 ((min m n : Nat) : Int) ∧ Sep H0 (F (.blk b ⟨nums .u8 (ofB (l.take o ++ news.take (min m n) ++ l.drop (o + (news.take (min m n)).length))), s, el⟩)) H') :=
  (s_copyN (w0 := w0) hS hA ht hs hx hy (by rw [ofB_length]; exact hn) hu).mono (by
    rintro v H' ⟨h1, h2⟩
    rw [ofB_take, ofB_take, ofB_length, ofB_drop, ← ofB_app, ← ofB_app] at h2
    exact ⟨h1, h2⟩)
theorem put_tail (v0 : Value) (cs vs : List Value) : ∀ o, put (v0 :: cs) (o + 1) vs = v0 :: put cs o vs := by
  induction vs generalizing cs with
  | nil => intro o; rfl
  | cons v vs ih => intro o; simp only [put, List.set_cons_succ]; exact ih (cs.set o v) (o + 1)
theorem s_copyTB {t t2 e : TypeId} {b o n c m s : Nat} {el : TypeId} {v0 : Value} {l news : List UInt8} {u : Value} (hS : Sep H0 L H) (hA : At L (.blk b ⟨v0 :: nums .u8 (ofB l), s, el⟩) F) (ht : P.underlying t = some (.slice e)) (hs : sizeT P e = some 1) (hx : ρ x = .slice (some ⟨b, o, none⟩) n c) (hy : ρ y = u)
    (h1 : 1 ≤ o) (hn : o - 1 + n ≤ l.length) (hu : Src P w0 H 1 u m (nums .u8 (ofB news))) :
    OpR P w0 ρ ⟨d, .call { callee := .builtin .copy, args := #[x, y], argTypes := #[t, t2] }, ty, pos, af, g⟩ H
      (fun v H' => v = .int .i64 ((min m n : Nat) : Int) ∧ Sep H0 (F (.blk b ⟨v0 :: nums .u8 (ofB (l.take (o - 1) ++ news.take (min m n) ++ l.drop (o - 1 + (news.take (min m n)).length))), s, el⟩)) H') :=
  (s_copy (w0 := w0) hS hA ht hs hx hy (by rw [List.length_cons, nums_length, ofB_length]; omega) hu).mono (by
    rintro v H' ⟨h2, h3⟩
    obtain ⟨p, rfl⟩ : ∃ p, o = p + 1 := ⟨o - 1, by omega⟩
    rw [Nat.add_sub_cancel] at *
    rw [Nat.mul_one, nums_take, ofB_take, put_tail, putN _ _ _ _ (by rw [ofB_length, ofB_length]; have := List.length_take_le (min m n) news; omega), ofB_take, ofB_length, ofB_drop, ← ofB_app, ← ofB_app] at h3
    exact ⟨h2, h3⟩)
end
end Go.Proofs.Ytfiojlmccflplaa.D
