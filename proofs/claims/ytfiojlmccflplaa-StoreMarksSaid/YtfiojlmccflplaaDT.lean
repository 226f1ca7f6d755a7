/-
  Slices of bytes that are read only: parts of slices, parts of parts. No condition.
-/
import Derived.Test.YtfiojlmccflplaaDC
namespace Go.Proofs.Ytfiojlmccflplaa.D
open Go Go.RowKit
set_option linter.unusedVariables false
set_option linter.unusedSimpArgs false
/-- A slice that reads as these bytes. -/
def Rds (H : Hp) (v : Value) (l : List UInt8) : Prop := ∃ (a : Option Addr) (c : Nat), v = .slice a l.length c ∧ l.length ≤ c ∧
  ∀ j, j < l.length → ∃ (b o : Nat) (q : Blk), a = some ⟨b, o, none⟩ ∧ H b = some q ∧ q.cells[o + j]? = some (BV (l.getD j 0))
theorem Rds.mono {H H' : Hp} {v : Value} {l : List UInt8} (h : Rds H v l) (hl : H.le H') : Rds H' v l := by
  obtain ⟨a, c, h1, h2, h3⟩ := h
  refine ⟨a, c, h1, h2, fun j hj => ?_⟩
  obtain ⟨b, o, q, e1, e2, e3⟩ := h3 j hj
  exact ⟨b, o, q, e1, hl b q e2, e3⟩
theorem Vec.rds {H : Hp} {el : TypeId} {v : Value} {n : Nat} {l : List UInt8} (hV : Vec H el 1 v n (nums .u8 (ofB l))) : Rds H v l := by
  have hl : l.length = n := by have := hV.len; rw [nums_length, ofB_length] at this; omega
  rcases Nat.eq_zero_or_pos n with h | h
  · subst h
    rcases hV with ⟨rfl, _, _⟩ | ⟨b, cap, q, rfl, _, _, _, _, h6, _⟩
    · exact ⟨none, 0, by rw [hl], by omega, fun j hj => by omega⟩
    · exact ⟨_, cap, by rw [hl], by omega, fun j hj => by omega⟩
  · obtain ⟨b, cap, q, rfl, hq, _, _, _, h6, _, _, hcs⟩ := hV.opened h
    refine ⟨_, cap, by rw [hl], by omega, fun j hj => ⟨b, 0, q, rfl, hq, ?_⟩⟩
    rw [Nat.zero_add]
    refine hcs j _ ?_
    rw [nums_get .u8 _ (by rw [ofB_length]; exact hj), ofB_getD]; rfl
/-- A slice from a place on. -/
def sufV (v : Value) (k : Nat) : Value := match v with
  | .slice (some ad) n c => .slice (some (if c = k then ad else ad.add k)) (n - k) (c - k)
  | .slice none n c => .slice none (n - k) (c - k)
  | v => v
/-- A slice up to a place. -/
def preV (v : Value) (k : Nat) : Value := match v with
  | .slice a _ c => .slice a k c
  | v => v
theorem Rds.suf {H : Hp} {v : Value} {l : List UInt8} {k : Nat} (h : Rds H v l) (hk : k ≤ l.length) : Rds H (sufV v k) (l.drop k) := by
  obtain ⟨a, c, rfl, h2, h3⟩ := h
  rcases a with _ | ⟨b, o, r⟩
  · refine ⟨none, c - k, by simp [sufV], by simp; omega, fun j hj => ?_⟩
    obtain ⟨_, _, _, e, _⟩ := h3 (k + j) (by simp at hj; omega)
    cases e
  · refine ⟨_, c - k, by simp only [sufV, List.length_drop]; rfl, by simp; omega, fun j hj => ?_⟩
    have hj' : k + j < l.length := by simp at hj; omega
    obtain ⟨b', o', q, e, e2, e3⟩ := h3 (k + j) hj'
    cases e
    refine ⟨b, o + k, q, ?_, e2, ?_⟩
    · rw [if_neg (by omega)]; simp [Addr.add]
    · rw [show o + k + j = o + (k + j) from by omega, e3]; simp [List.getElem?_drop]
theorem Rds.pre {H : Hp} {v : Value} {l : List UInt8} {k : Nat} (h : Rds H v l) (hk : k ≤ l.length) : Rds H (preV v k) (l.take k) := by
  obtain ⟨a, c, rfl, h2, h3⟩ := h
  have hl : (l.take k).length = k := by simp; omega
  refine ⟨a, c, by rw [hl]; rfl, by omega, fun j hj => ?_⟩
  rw [hl] at hj
  obtain ⟨b, o, q, e1, e2, e3⟩ := h3 j (by omega)
  refine ⟨b, o, q, e1, e2, ?_⟩
  rw [e3]; simp [hj]
theorem RetP.mk4 {P : Program} {rs : Array ResultVar} {R : Value → Hp → Prop} {e : Env} {H H' : Hp} {t1 t2 t3 t4 : Tmp} {v1 v2 v3 v4 : Value} (hr : rs = #[.tmp t1, .tmp t2, .tmp t3, .tmp t4]) (h1 : e t1 = v1) (h1' : e t2 = v2) (h1'' : e t3 = v3) (h1''' : e t4 = v4) (h2 : H'.le H) (h3 : R (.tuple #[v1, v2, v3, v4]) H') : RetP P rs R .ret e H := by subst hr; exact RetP.mk [v1, v2, v3, v4] H' ⟨h1, h1', h1'', h1''', trivial⟩ h2 h3
section
variable {P : Program} {w0 : World} {ρ : Operand → Value} {H H0 : Hp} {d : Option Tmp} {ty : TypeId} {pos : String} {af : Array Edge} {g : Option (Nat × Bool)} {x y : Operand} {v : Value} {l : List UInt8}
theorem q_indexSL {t : TypeId} {x i : Operand} {k : IntKind} (n : Nat) (ht : P.underlying t = some .string) (hx : ρ x = S l) (hi : ρ i = .int k (n : Int)) (h1 : n < l.length) : QS P w0 ρ ⟨d, .index t x i, ty, pos, af, g⟩ H (.int .u8 (bt l n)) := by
  have := q_indexS (P := P) (w0 := w0) (H := H) (d := d) (ty := ty) (pos := pos) (af := af) (g := g) ht hx hi (by omega) (by omega)
  rwa [Int.toNat_natCast] at this
theorem q_sliceV_lo_some {t e : TypeId} {m cp : Nat} {x lo : Operand} {ad : Addr} {k : IntKind} {a : Int} (ht : P.underlying t = some (.slice e)) (hs : sizeT P e = some 1) (hx : ρ x = .slice (some ad) m cp)
    (ha : ρ lo = .int k a) (h0 : 0 ≤ a) (h1 : a ≤ m) : QS P w0 ρ ⟨d, .slice t x (some lo) none none, ty, pos, af, g⟩ H (.slice (some (if cp = a.toNat then ad else ad.add a.toNat)) (m - a.toNat) (cp - a.toNat)) :=
  QS.of_run fun w _ => by
    simp only [execOp, Instr.sliceAt, hx, ha, Sem.run_bind, run_underlying ht, Result.andThen_ok, Option.map_some, Option.map_none, Instr.slice, Instr.sliceBounds, Sem.run_pure,
      run_sliceBound' k a m _ w h0 (by omega), run_sizeT hs, Nat.mul_one]
    split <;> rfl
theorem q_sliceV_lo_none {t e : TypeId} {m cp : Nat} {x lo : Operand} {k : IntKind} {a : Int} (ht : P.underlying t = some (.slice e)) (hs : sizeT P e = some 1) (hx : ρ x = .slice none m cp)
    (ha : ρ lo = .int k a) (h0 : 0 ≤ a) (h1 : a ≤ m) : QS P w0 ρ ⟨d, .slice t x (some lo) none none, ty, pos, af, g⟩ H (.slice none (m - a.toNat) (cp - a.toNat)) :=
  QS.of_run fun w _ => by
    simp only [execOp, Instr.sliceAt, hx, ha, Sem.run_bind, run_underlying ht, Result.andThen_ok, Option.map_some, Option.map_none, Instr.slice, Instr.sliceBounds, Sem.run_pure,
      run_sliceBound' k a m _ w h0 (by omega), run_sizeT hs]
    split <;> rfl
theorem vptr_off {b o m c j : Nat} : vptr (.slice (some ⟨b, o, none⟩) m c) j = .pointer (some ⟨b, o + j, none⟩) := by simp [vptr, Addr.add]
theorem q_stringZero {s t e : TypeId} {x : Operand} {ad : Addr} {c : Nat} (hs : P.underlying s = some (.slice e)) (he : P.underlying e = some (.int .u8)) (ht : P.underlying t = some .string)
    (hx : ρ x = .slice (some ad) 0 c) : QS P w0 ρ ⟨d, .convert s t x, ty, pos, af, g⟩ H (S []) :=
  QS.of_run fun w ho => by
    have hl : (loadCells ad 0).run P w = .ok (nums .u8 []).toArray w := run_loadCells_list (P := P) w ad [] (fun i v hi => by simp at hi)
    simp only [execOp, hx, Sem.run_bind, run_bytes_own (xs := []) hs he ht hl, Result.andThen_ok, Sem.run_pure]
    rfl
theorem q_lenR {t e : TypeId} (ht : P.underlying t = some (.slice e)) (hx : ρ x = v) (hR : Rds H v l) : QS P w0 ρ ⟨d, .call { callee := .builtin .len, args := #[x], argTypes := #[t] }, ty, pos, af, g⟩ H (.int .i64 (l.length : Int)) := by
  obtain ⟨a, c, rfl, _, _⟩ := hR
  exact q_lenV ht hx
theorem q_indexR {t e : TypeId} {i : Operand} {k : IntKind} {n : Int} (hR : Rds H v l) (ht : P.underlying t = some (.slice e)) (hs : sizeT P e = some 1) (hx : ρ x = v) (hi : ρ i = .int k n) (h0 : 0 ≤ n) (h1 : n < l.length) :
    QS P w0 ρ ⟨d, .indexAddr t x i, ty, pos, af, g⟩ H (vptr v n.toNat) := by
  obtain ⟨a, c, rfl, _, h3⟩ := hR
  obtain ⟨b, o, q, rfl, _, _⟩ := h3 n.toNat (by omega)
  have := q_indexAddrV (P := P) (w0 := w0) (H := H) (d := d) (ty := ty) (pos := pos) (af := af) (g := g) ht hs hx hi h0 (by omega)
  rwa [Nat.mul_one, ← vptr_off (m := l.length) (c := c)] at this
theorem q_loadR8 {t : TypeId} {j : Nat} (hR : Rds H v l) (ht : scalT P t = true) (hx : ρ x = vptr v j) (hj : j < l.length) : QS P w0 ρ ⟨d, .load t x, ty, pos, af, g⟩ H (BV (l.getD j 0)) := by
  obtain ⟨a, c, rfl, _, h3⟩ := hR
  obtain ⟨b, o, q, rfl, e2, e3⟩ := h3 j hj
  rw [vptr_off] at hx
  exact q_load (j := o + j) ht hx e2 e3
theorem q_sufR {t e : TypeId} {lo : Operand} {k : IntKind} {a : Int} (hR : Rds H v l) (ht : P.underlying t = some (.slice e)) (hs : sizeT P e = some 1) (hx : ρ x = v) (ha : ρ lo = .int k a) (h0 : 0 ≤ a) (h1 : a ≤ l.length) :
    QS P w0 ρ ⟨d, .slice t x (some lo) none none, ty, pos, af, g⟩ H (sufV v a.toNat) := by
  obtain ⟨ad, c, rfl, h2, h3⟩ := hR
  rcases ad with _ | ⟨b, o, r⟩
  · exact q_sliceV_lo_none ht hs hx ha h0 h1
  · exact q_sliceV_lo_some ht hs hx ha h0 h1
theorem q_preR {t e : TypeId} {hi : Operand} {k : IntKind} {a : Int} (hR : Rds H v l) (ht : P.underlying t = some (.slice e)) (hs : sizeT P e = some 1) (hx : ρ x = v) (ha : ρ hi = .int k a) (h0 : 0 ≤ a) (h1 : a ≤ l.length) :
    QS P w0 ρ ⟨d, .slice t x none (some hi) none, ty, pos, af, g⟩ H (preV v a.toNat) := by
  obtain ⟨ad, c, rfl, h2, h3⟩ := hR
  exact q_sliceV_hi ht hs hx ha h0 (by omega)
theorem q_stringR {s t e : TypeId} (hR : Rds H v l) (hs : P.underlying s = some (.slice e)) (he : P.underlying e = some (.int .u8)) (ht : P.underlying t = some .string) (hx : ρ x = v) : QS P w0 ρ ⟨d, .convert s t x, ty, pos, af, g⟩ H (S l) := by
  obtain ⟨ad, c, rfl, h2, h3⟩ := hR
  rcases Nat.eq_zero_or_pos l.length with h | h
  · obtain rfl := List.length_eq_zero_iff.1 h
    rcases ad with _ | ad
    · exact q_stringNil hs he ht hx
    · exact q_stringZero hs he ht hx
  · obtain ⟨b, o, q, rfl, e2, e3⟩ := h3 0 h
    have := q_string (P := P) (w0 := w0) (ρ := ρ) (x := x) (d := d) (ty := ty) (pos := pos) (af := af) (g := g) (b := b) (o := o) (n := l.length) (c := c) (xs := ofB l) hs he ht hx e2 (ofB_length l) (fun i u hi => by
      have hi' : i < l.length := by
        rcases Nat.lt_or_ge i l.length with h | h
        · exact h
        · rw [List.getElem?_eq_none (by simp [nums_length, ofB_length]; omega)] at hi; exact absurd hi (by simp)
      rw [nums_get .u8 _ (by rw [ofB_length]; exact hi'), ofB_getD] at hi
      obtain ⟨b', o', q', e, e2', e3'⟩ := h3 i hi'
      cases e
      rw [e2] at e2'; cases e2'
      rw [e3', ← hi]; rfl)
    rwa [toB_ofB] at this
end
end Go.Proofs.Ytfiojlmccflplaa.D
