/-
  A walk's rules: conversions, slices, copies, stores of numbers. No condition.
-/
import Derived.Test.YtfiojlmccflplaaD6
namespace Go.Proofs.Ytfiojlmccflplaa.D
open Go Go.RowKit
set_option linter.unusedVariables false
set_option linter.unusedSimpArgs false
section
variable {P : Program} {w0 : World} {ρ : Operand → Value} {H : Hp} {d : Option Tmp} {ty : TypeId} {pos : String} {af : Array Edge} {g : Option (Nat × Bool)}

/-! ### bytes of a string, and back -/
theorem o_bytes {s t e : TypeId} {x : Operand} {l : List UInt8} (hs : (P.underlying s).isSome = true) (ht : P.underlying t = some (.slice e)) (he : P.underlying e = some (.int .u8)) (hx : ρ x = S l) (hl : l.length ≤ maxLen) :
    OpR P w0 ρ ⟨d, .convert s t x, ty, pos, af, g⟩ H (fun v H' => ∃ b cap, H b = none ∧ l.length ≤ cap ∧ cap ≤ maxLen ∧ v = .slice (some ⟨b, 0, none⟩) l.length cap ∧ H' = H.set b ⟨nums .u8 (ofB l), cap, e⟩) := by
  obtain ⟨u, hu⟩ := Option.isSome_iff_exists.1 hs
  intro w ho
  have hr := Lib.run_convert_string_bytes (P := P) w s t e (str l) hu ht he
  have : (execOp ρ ⟨d, .convert s t x, ty, pos, af, g⟩).run P w = .ok (.value (.slice (some ⟨w.heap.size, 0, none⟩) (str l).size (grownCap w (str l).size 0 e))) (Lib.bytesWorld w e (str l)) := by
    simp [execOp, hx, hr]
  rw [this]
  have hge : l.length ≤ grownCap w (str l).size 0 e := grownCap_ge w _ 0 e
  have hcm : grownCap w (str l).size 0 e ≤ maxLen := grownCap_le_maxLen w _ 0 e hl
  have hcells : (Lib.bytesCells w e (str l)).toList = nums .u8 (ofB l) ++ List.replicate (grownCap w (str l).size 0 e - l.length) (.int .u8 0) := by
    simp [Lib.bytesCells, str_size, nums, ofB, str]
    rfl
  have hsz : (Lib.bytesCells w e (str l)).size = grownCap w (str l).size 0 e := by
    rw [← Array.length_toList, hcells]; simp [nums_length, ofB_length]; omega
  refine ⟨H.set w.heap.size ⟨nums .u8 (ofB l), grownCap w (str l).size 0 e, e⟩, ⟨?_, fun b o hb => ?_⟩, w.heap.size, _, ho.fresh, hge, hcm, rfl, rfl⟩
  · refine ⟨ho.below.os, ho.below.tape, ho.below.output, ?_, fun k hk => ?_⟩
    · rw [Lib.bytesWorld_size]; have := ho.below.size; omega
    · have := ho.below.size
      rw [Lib.bytesWorld_at_old w e _ k (by omega)]; exact ho.below.block k hk
  · by_cases hbe : b = w.heap.size
    · subst hbe
      rw [Hp.set_self] at hb
      obtain rfl := Option.some.inj hb
      refine ⟨ho.below.size, .inl ⟨e, _, _, rfl, Lib.bytesWorld_at_new w e (str l), hsz, by simp [nums_length, ofB_length]; exact hge, ?_, ?_⟩⟩
      · intro j hj; simp only [hsz] at hj ⊢; omega
      · intro j v hv
        rw [← Array.getElem?_toList, hcells, List.getElem?_append_left]
        · exact hv
        · exact (List.getElem?_eq_some_iff.1 hv).1
    · rw [Hp.set_ne hbe] at hb
      have := ho.fits b o hb
      exact ⟨this.1, this.2.of_eq (Lib.bytesWorld_at_old w e _ b (ho.lt hb))⟩

theorem run_bytes_own {src dst e : TypeId} (hs : P.underlying src = some (.slice e)) (he : P.underlying e = some (.int .u8)) (hd : P.underlying dst = some .string) {w : World} {a : Addr} {n c : Nat} {xs : List Int}
    (h : (loadCells a n).run P w = .ok (nums .u8 xs).toArray w) : (convert src dst (.slice (some a) n c)).run P w = .ok (S (toB xs)) w := by
  rw [run_convert_bytes_string w src dst e _ n c hs he hd, run_bytesToString w _ n c xs h, foldl_push_bytes]
  simp only [ByteArray.empty, ByteArray.emptyWithCapacity, S, str, toB]
  simp
  rfl
theorem q_string {s t e : TypeId} {x : Operand} {b o n c : Nat} {q : Blk} {xs : List Int} (hs : P.underlying s = some (.slice e)) (he : P.underlying e = some (.int .u8)) (ht : P.underlying t = some .string)
    (hx : ρ x = .slice (some ⟨b, o, none⟩) n c) (hb : H b = some q) (hn : xs.length = n) (hv : ∀ (i : Nat) v, (nums .u8 xs)[i]? = some v → q.cells[o + i]? = some v) :
    QS P w0 ρ ⟨d, .convert s t x, ty, pos, af, g⟩ H (S (toB xs)) :=
  QS.of_run fun w ho => by
    have hl := run_loadCells_own (P := P) (n := n) (j := o) (cs := nums .u8 xs) ho hb (by rw [nums_length]; exact hn) hv
    simp only [execOp, hx, Sem.run_bind, run_bytes_own hs he ht hl, Result.andThen_ok, Sem.run_pure]
/-- The whole of a block, or its first n bytes. -/
theorem q_string0 {s t e : TypeId} {x : Operand} {b n c sz : Nat} {el : TypeId} {xs : List Int} (hs : P.underlying s = some (.slice e)) (he : P.underlying e = some (.int .u8)) (ht : P.underlying t = some .string)
    (hx : ρ x = .slice (some ⟨b, 0, none⟩) n c) (hb : H b = some ⟨nums .u8 xs, sz, el⟩) (hn : n ≤ xs.length) :
    QS P w0 ρ ⟨d, .convert s t x, ty, pos, af, g⟩ H (S (toB (xs.take n))) :=
  q_string hs he ht hx hb (by simp; omega) fun i v hi => by
    rw [← nums_take, List.getElem?_take] at hi
    split at hi
    · simpa using hi
    · cases hi
theorem q_stringNil {s t e : TypeId} {x : Operand} {n c : Nat} (hs : P.underlying s = some (.slice e)) (he : P.underlying e = some (.int .u8)) (ht : P.underlying t = some .string)
    (hx : ρ x = .slice none n c) : QS P w0 ρ ⟨d, .convert s t x, ty, pos, af, g⟩ H (S []) :=
  QS.of_run fun w ho => by
    simp only [execOp, hx, Sem.run_bind, run_convert_bytes_nil w s e hs he n c t ht, Result.andThen_ok, Sem.run_pure]
    rfl
/-- What a Vec of bytes is as a string. -/
theorem q_stringV {s t e : TypeId} {x : Operand} {v : Value} {n : Nat} {xs : List Int} (hs : P.underlying s = some (.slice e)) (he : P.underlying e = some (.int .u8)) (ht : P.underlying t = some .string)
    (hx : ρ x = v) (hv : Vec H e 1 v n (nums .u8 xs)) : QS P w0 ρ ⟨d, .convert s t x, ty, pos, af, g⟩ H (S (toB xs)) := by
  rcases hv with ⟨rfl, rfl, hc⟩ | ⟨b, cap, q, rfl, hb, he', htk, hcl, hnc, hcs, hcm⟩
  · have : xs = [] := by simpa [nums] using hc
    subst this
    exact q_stringNil hs he ht hx
  · refine q_string hs he ht hx hb (by rw [nums_length] at hcl; omega) fun i v hi => ?_
    rw [← htk, List.getElem?_take] at hi
    split at hi
    · simpa using hi
    · cases hi
theorem q_strStr {s t : TypeId} {x : Operand} {l : List UInt8} (hs : P.underlying s = some .string) (ht : P.underlying t = some .string) (hx : ρ x = S l) : QS P w0 ρ ⟨d, .convert s t x, ty, pos, af, g⟩ H (S l) :=
  QS.of_run fun w ho => by
    have : (convert s t (S l)).run P w = .ok (S l) w := by simp [convert, run_underlying hs, run_underlying ht]
    simp only [execOp, hx, Sem.run_bind, this, Result.andThen_ok, Sem.run_pure]

/-! ### new rows -/
theorem o_makeSlice {t e : TypeId} {x y : Operand} {k k' : IntKind} {n c : Int} {by_ : Nat} {z : Value} (ht : P.underlying t = some (.slice e)) (hs : sizeT P e = some 1) (hb : bytesT P e = some by_) (hz : zeroT P e = some z) (h1 : z.oneCell' = true)
    (hx : ρ x = .int k n) (hy : ρ y = .int k' c) (h0 : 0 ≤ n) (hnc : n ≤ c) (hc : by_ * c ≤ 2 ^ 48) (hc' : c ≤ 9223372036854775807) :
    OpR P w0 ρ ⟨d, .makeSlice t x y, ty, pos, af, g⟩ H (fun v H' => ∃ b, H b = none ∧ v = .slice (some ⟨b, 0, none⟩) n.toNat c.toNat ∧ H' = H.set b ⟨List.replicate c.toNat z, c.toNat, e⟩) := by
  obtain ⟨i, hi, his, rfl⟩ := info_of hs hb
  have hzi : i.zero = some z := by simpa [zeroT, hi] using hz
  have hzc : z.cells = #[z] := by cases z <;> simp_all [Value.oneCell', Value.cells]
  intro w ho
  have hwn : IntKind.i64.wrap n = n := IntWalk.i64_in n (by omega)
  have hwc : IntKind.i64.wrap c = c := IntWalk.i64_in c (by omega)
  have hrow : ((Array.range (c.toNat * 1)).map fun j => (if c.toNat * 1 = 0 then (#[] : Array Value) else #[z])[j % (if c.toNat * 1 = 0 then (#[] : Array Value) else #[z]).size]!).toList = List.replicate c.toNat z := by
    by_cases h : c.toNat = 0
    · simp [h]
    · simp only [Nat.mul_one, if_neg h]
      apply List.ext_getElem
      · simp
      · intro j h1 h2
        simp
        have : j % 1 = 0 := Nat.mod_one j
        simp [this]
  have hlarge : (decide (c < 0) || decide ((i.bytes : Int) * c > 2 ^ 48)) = false := by
    simp only [Bool.or_eq_false_iff, decide_eq_false_iff_not]; omega
  have : ∃ cs : Array Value, cs.toList = List.replicate c.toNat z ∧ (execOp ρ ⟨d, .makeSlice t x y, ty, pos, af, g⟩).run P w = .ok (.value (.slice (some ⟨w.heap.size, 0, none⟩) n.toNat c.toNat)) (w.alloc (.cells cs e (0, 0))) := by
    refine ⟨_, hrow, ?_⟩
    have h2 : (i.bytes : Int) * c ≤ 281474976710656 := by omega
    simp only [execOp, Instr.makeSlice, hx, hy, Sem.run_bind, run_underlying ht, Result.andThen_ok, asInt, asIntOf, Sem.run_pure, typeInfo, run_program, hi, hwn, hwc, hlarge]
    have ha : (false || decide (n < 0) || decide (n > c)) = false := by
      simp only [Bool.false_or, Bool.or_eq_false_iff, decide_eq_false_iff_not]; omega
    simp only [ha, Bool.false_eq_true, if_false, Sem.run_bind, run_askRoom, Result.andThen_ok, sizeOf, typeInfo, run_program, hi, his, Sem.run_pure]
    by_cases h : c.toNat * 1 = 0
    · simp only [h, if_true, Sem.run_pure, Result.andThen_ok, newRow, Sem.run_bind, run_newObj, World.alloc_eq]
    · simp only [h, if_false, Sem.run_bind, zeroValue, typeInfo, run_program, hi, hzi, hzc, Sem.run_pure, Result.andThen_ok, newRow, run_newObj, World.alloc_eq]
  obtain ⟨cs, hcs, hr⟩ := this
  rw [hr]
  refine ⟨_, ho.alloc (List.replicate c.toNat z) cs hcs e (0, 0) (.inl rfl), w.heap.size, ho.fresh, rfl, ?_⟩
  simp
/-- Parts in order, each of one cell. -/
def ordered : Nat → List (Nat × Operand) → Bool
  | _, [] => true
  | i, (j, _) :: r => j == i && ordered (i + 1) r
theorem fill_ordered (ρ : Operand → Value) : ∀ (ps : List (Nat × Operand)) (i : Nat) (pre : List Value) (rest : List Value), ordered i ps = true → pre.length = i → ps.length = rest.length → (∀ p ∈ ps, (ρ p.2).oneCell' = true) →
    Instr.fill (fun i => some (i * 1, 1)) (pre ++ rest).toArray (ps.map fun p => (p.1, ρ p.2)) = some (pre ++ ps.map fun p => ρ p.2).toArray := by
  intro ps
  induction ps with
  | nil => intro i pre rest _ _ hl _; have : rest = [] := List.eq_nil_of_length_eq_zero (by simpa using hl.symm); subst this; simp [Instr.fill]
  | cons p ps ih =>
    intro i pre rest ho hp hl h1
    obtain ⟨j, x⟩ := p
    simp only [ordered, Bool.and_eq_true, beq_iff_eq] at ho
    obtain ⟨rfl, ho⟩ := ho
    cases rest with
    | nil => simp at hl
    | cons r rest =>
      have hx : (ρ x).cells = #[ρ x] := by
        have := h1 (j, x) (List.mem_cons_self ..)
        cases hh : ρ x <;> simp_all [Value.oneCell', Value.cells]
      have := ih (j + 1) (pre ++ [ρ x]) rest ho (by simp [hp]) (by simpa using hl) (fun q hq => h1 q (List.mem_cons_of_mem _ hq))
      simp only [List.map_cons, Instr.fill, hx]
      have hset : ((pre ++ r :: rest).toArray.setIfInBounds j (ρ x)) = (pre ++ [ρ x] ++ rest).toArray := by
        subst hp
        simp
      simpa [hset, hp] using this
theorem o_buildSlice {t e : TypeId} {m : Nat} {ps : List (Nat × Operand)} {z : Value} (ht : P.underlying t = some (.slice e)) (hs : sizeT P e = some 1) (hz : zeroT P e = some z) (h1 : z.oneCell' = true) (hm : ps.length = m) (hp : ordered 0 ps = true) (hm2 : m ≤ 16777216)
    {vs : List Value} (hv : ps.map (fun p => ρ p.2) = vs) (h1v : ∀ v ∈ vs, v.oneCell' = true) :
    OpR P w0 ρ ⟨d, .buildSlice t m ps.toArray, ty, pos, af, g⟩ H (fun v H' => ∃ b, H b = none ∧ v = .slice (some ⟨b, 0, none⟩) m m ∧ H' = H.set b ⟨vs, m, e⟩) := by
  intro w ho
  have hzc : z.cells = #[z] := by cases z <;> simp_all [Value.oneCell', Value.cells]
  subst hv
  have hz' : ∃ zs : List Value, zs.length = m ∧ ((Array.range (m * 1)).map fun j => (if m * 1 = 0 then (#[] : Array Value) else #[z])[j % (if m * 1 = 0 then (#[] : Array Value) else #[z]).size]!) = zs.toArray := ⟨_, by simp, (Array.toArray_toList).symm⟩
  obtain ⟨zs, hzl, hzs⟩ := hz'
  have hf := fill_ordered ρ ps 0 [] zs hp rfl (by omega) (fun p hp => h1v _ (List.mem_map.2 ⟨p, hp, rfl⟩))
  simp only [List.nil_append] at hf
  have : (execOp ρ ⟨d, .buildSlice t m ps.toArray, ty, pos, af, g⟩).run P w = .ok (.value (.slice (some ⟨w.heap.size, 0, none⟩) m m)) (w.alloc (.cells (ps.map fun p => ρ p.2).toArray e (0, 0))) := by
    have h24 : ¬ m * 1 > 2 ^ 24 := by omega
    simp only [execOp, Instr.buildSlice, Sem.run_bind, run_underlying ht, Result.andThen_ok, run_sizeT hs, h24, if_false, Sem.run_pure]
    have hparts : (ps.toArray.map fun (p : Nat × Operand) => (p.1, ρ p.2)).toList = ps.map fun p => (p.1, ρ p.2) := by simp
    by_cases h : m * 1 = 0
    · simp only [h, if_true] at hzs
      simp only [h, if_true, Sem.run_pure, Result.andThen_ok]
      simp only [pure_bind, hzs, hparts, hf, newRow, Sem.run_bind, run_newObj, World.alloc_eq, Result.andThen_ok, Sem.run_pure]
    · simp only [h, if_false] at hzs
      simp only [h, if_false, Sem.run_bind, run_zeroT hz, hzc, Result.andThen_ok, Sem.run_pure]
      simp only [pure_bind, hzs, hparts, hf, newRow, Sem.run_bind, run_newObj, World.alloc_eq, Result.andThen_ok, Sem.run_pure]
  rw [this]
  refine ⟨_, ho.alloc (ps.map fun p => ρ p.2) _ rfl e (0, 0) (.inl rfl), w.heap.size, ho.fresh, rfl, ?_⟩
  simp [hm]

/-! ### other operations -/
theorem q_not {t : TypeId} {x : Operand} {b : Bool} (hx : ρ x = .bool b) : QS P w0 ρ ⟨d, .unOp .not t x, ty, pos, af, g⟩ H (.bool !b) :=
  QS.of_run fun w ho => by simp [execOp, hx, Op.unary]
theorem q_neg {t : TypeId} {x : Operand} {k : IntKind} {n : Int} (hx : ρ x = .int k n) : QS P w0 ρ ⟨d, .unOp .neg t x, ty, pos, af, g⟩ H (.int k (k.wrap (0 - n))) :=
  QS.of_run fun w ho => by simp [execOp, hx, Op.unary, Op.intArith]
theorem equal_bool {t : TypeId} (ht : P.underlying t = some .bool) (a b : Bool) (w : World) : (Op.equal t (.bool a) (.bool b)).run P w = .ok (a == b) w := by
  have : ∀ dd, (Op.equalIn (dd + 1) t (.bool a) (.bool b)).run P w = .ok (a == b) w := fun dd => by
    simp only [Op.equalIn, Sem.run_bind, run_underlying ht, Result.andThen_ok, Sem.run_pure]
  exact this 9999
theorem equal_ptr {t e : TypeId} (ht : P.underlying t = some (.pointer e)) (a : Option Addr) (w : World) : (Op.equal t (.pointer a) (.pointer none)).run P w = .ok a.isNone w := by
  have : ∀ dd, (Op.equalIn (dd + 1) t (.pointer a) (.pointer none)).run P w = .ok a.isNone w := fun dd => by
    cases a <;> simp only [Op.equalIn, Sem.run_bind, run_underlying ht, Result.andThen_ok, Sem.run_pure] <;> rfl
  exact this 9999
theorem q_eqlB {xt yt : TypeId} {x y : Operand} {a b : Bool} (ht : P.underlying xt = some .bool) (hx : ρ x = .bool a) (hy : ρ y = .bool b) : QS P w0 ρ ⟨d, .binOp .eql xt x y yt, ty, pos, af, g⟩ H (.bool (a == b)) :=
  QS.of_run fun w ho => by
    have h1 : (eqGuard .eql xt x y (.bool a) (.bool b)).run P w = .ok () w := rfl
    have h2 : (binOp .eql xt (.bool a) (.bool b)).run P w = .ok (.bool (a == b)) w := by
      simp only [binOp, Sem.run_bind, equal_bool ht, Result.andThen_ok, Sem.run_pure]
    simp only [execOp, hx, hy, Sem.run_bind, h1, h2, Result.andThen_ok, Sem.run_pure]
theorem q_neqB {xt yt : TypeId} {x y : Operand} {a b : Bool} (ht : P.underlying xt = some .bool) (hx : ρ x = .bool a) (hy : ρ y = .bool b) : QS P w0 ρ ⟨d, .binOp .neq xt x y yt, ty, pos, af, g⟩ H (.bool (!(a == b))) :=
  QS.of_run fun w ho => by
    have h1 : (eqGuard .neq xt x y (.bool a) (.bool b)).run P w = .ok () w := rfl
    have h2 : (binOp .neq xt (.bool a) (.bool b)).run P w = .ok (.bool (!(a == b))) w := by
      simp only [binOp, Sem.run_bind, equal_bool ht, Result.andThen_ok, Sem.run_pure]
    simp only [execOp, hx, hy, Sem.run_bind, h1, h2, Result.andThen_ok, Sem.run_pure]
/-- A pointer held against nil. -/
theorem q_eqlP {xt yt e : TypeId} {x y : Operand} {a : Option Addr} (ht : P.underlying xt = some (.pointer e)) (hx : ρ x = .pointer a) (hy : ρ y = .pointer none) : QS P w0 ρ ⟨d, .binOp .eql xt x y yt, ty, pos, af, g⟩ H (.bool a.isNone) :=
  QS.of_run fun w ho => by
    have h1 : (eqGuard .eql xt x y (.pointer a) (.pointer none)).run P w = .ok () w := rfl
    have h2 : (binOp .eql xt (.pointer a) (.pointer none)).run P w = .ok (.bool a.isNone) w := by
      simp only [binOp, Sem.run_bind, equal_ptr ht, Result.andThen_ok, Sem.run_pure]
    simp only [execOp, hx, hy, Sem.run_bind, h1, h2, Result.andThen_ok, Sem.run_pure]
theorem q_neqP {xt yt e : TypeId} {x y : Operand} {a : Option Addr} (ht : P.underlying xt = some (.pointer e)) (hx : ρ x = .pointer a) (hy : ρ y = .pointer none) : QS P w0 ρ ⟨d, .binOp .neq xt x y yt, ty, pos, af, g⟩ H (.bool !a.isNone) :=
  QS.of_run fun w ho => by
    have h1 : (eqGuard .neq xt x y (.pointer a) (.pointer none)).run P w = .ok () w := rfl
    have h2 : (binOp .neq xt (.pointer a) (.pointer none)).run P w = .ok (.bool !a.isNone) w := by
      simp only [binOp, Sem.run_bind, equal_ptr ht, Result.andThen_ok, Sem.run_pure]
    simp only [execOp, hx, hy, Sem.run_bind, h1, h2, Result.andThen_ok, Sem.run_pure]
theorem q_sliceV {t e : TypeId} {m cp sz : Nat} {x lo hi : Operand} {b o : Nat} {k k' : IntKind} {a c : Int} (ht : P.underlying t = some (.slice e)) (hs : sizeT P e = some sz) (hx : ρ x = .slice (some ⟨b, o, none⟩) m cp)
    (ha : ρ lo = .int k a) (hc : ρ hi = .int k' c) (h0 : 0 ≤ a) (h1 : a ≤ c) (h2 : c ≤ cp) :
    QS P w0 ρ ⟨d, .slice t x (some lo) (some hi) none, ty, pos, af, g⟩ H (.slice (some (if cp = a.toNat then ⟨b, o, none⟩ else ⟨b, o + a.toNat * sz, none⟩)) (c.toNat - a.toNat) (cp - a.toNat)) :=
  QS.of_run fun w _ => by
    simp only [execOp, Instr.sliceAt, hx, ha, hc, Sem.run_bind, run_underlying ht, Result.andThen_ok, Option.map_some, Option.map_none, Instr.slice, Instr.sliceBounds, Sem.run_pure,
      run_sliceBound' k' c cp _ w (by omega) h2, run_sliceBound' k a c.toNat _ w h0 (by omega), run_sizeT hs, Addr.add0]
    split <;> rfl
theorem q_sliceV_hi {t e : TypeId} {m cp sz : Nat} {x hi : Operand} {ad : Option Addr} {k' : IntKind} {c : Int} (ht : P.underlying t = some (.slice e)) (hs : sizeT P e = some sz) (hx : ρ x = .slice ad m cp)
    (hc : ρ hi = .int k' c) (h1 : 0 ≤ c) (h2 : c ≤ cp) :
    QS P w0 ρ ⟨d, .slice t x none (some hi) none, ty, pos, af, g⟩ H (.slice ad c.toNat cp) :=
  QS.of_run fun w _ => by
    simp only [execOp, Instr.sliceAt, hx, hc, Sem.run_bind, run_underlying ht, Result.andThen_ok, Option.map_some, Option.map_none, Instr.slice, Instr.sliceBounds, Sem.run_pure,
      run_sliceBound' k' c cp _ w (by omega) h2, run_sizeT hs]
    cases ad <;> simp [Addr.add]
theorem q_sliceV_lo {t e : TypeId} {m cp sz : Nat} {x lo : Operand} {b o : Nat} {k : IntKind} {a : Int} (ht : P.underlying t = some (.slice e)) (hs : sizeT P e = some sz) (hx : ρ x = .slice (some ⟨b, o, none⟩) m cp)
    (ha : ρ lo = .int k a) (h0 : 0 ≤ a) (h1 : a ≤ m) :
    QS P w0 ρ ⟨d, .slice t x (some lo) none none, ty, pos, af, g⟩ H (.slice (some (if cp = a.toNat then ⟨b, o, none⟩ else ⟨b, o + a.toNat * sz, none⟩)) (m - a.toNat) (cp - a.toNat)) :=
  QS.of_run fun w _ => by
    simp only [execOp, Instr.sliceAt, hx, ha, Sem.run_bind, run_underlying ht, Result.andThen_ok, Option.map_some, Option.map_none, Instr.slice, Instr.sliceBounds, Sem.run_pure,
      run_sliceBound' k a m _ w h0 (by omega), run_sizeT hs, Addr.add0]
    split <;> rfl
theorem q_min {ats : Array TypeId} {x y : Operand} {k : IntKind} {a b : Int} (hx : ρ x = .int k a) (hy : ρ y = .int k b) :
    QS P w0 ρ ⟨d, .call { callee := .builtin .min, args := #[x, y], argTypes := ats }, ty, pos, af, g⟩ H (.int k (min a b)) :=
  QS.of_run fun w _ => by
    have : (if b < a then b else a) = min a b := by rw [Int.min_def]; split <;> split <;> omega
    simp [execOp, resolve, invoke, builtin, hx, hy, Builtin.min_, Builtin.min2, this]
theorem q_max {ats : Array TypeId} {x y : Operand} {k : IntKind} {a b : Int} (hx : ρ x = .int k a) (hy : ρ y = .int k b) :
    QS P w0 ρ ⟨d, .call { callee := .builtin .max, args := #[x, y], argTypes := ats }, ty, pos, af, g⟩ H (.int k (max a b)) :=
  QS.of_run fun w _ => by
    have : (if a < b then b else a) = max a b := by rw [Int.max_def]; split <;> split <;> omega
    simp [execOp, resolve, invoke, builtin, hx, hy, Builtin.max_, Builtin.max2, this]
theorem q_arrayAt {t e : TypeId} {m n c : Nat} {x : Operand} {a : Option Addr} (ht : P.underlying t = some (.array m e)) (hx : ρ x = .slice a n c) (h : m ≤ n) : QS P w0 ρ ⟨d, .sliceToArrayPointer t x, ty, pos, af, g⟩ H (.pointer a) :=
  QS.of_run fun w _ => by simp [execOp, Instr.arrayAt, hx, run_underlying ht, Nat.not_lt.2 h]
theorem q_func {fn : Fn} {fs cs : List Operand} {fv cv : List Value} (h1 : fs.map ρ = fv) (h2 : cs.map ρ = cv) : QS P w0 ρ ⟨d, .makeFunc fn fs.toArray cs.toArray, ty, pos, af, g⟩ H (.func fn fv.toArray cv.toArray) :=
  QS.of_run fun w _ => by subst h1; subst h2; simp [execOp, Instr.makeFunc]
theorem put_eq (vs : List Value) : ∀ (cs : List Value) (j : Nat), j + vs.length ≤ cs.length → put cs j vs = cs.take j ++ vs ++ cs.drop (j + vs.length) := by
  induction vs with
  | nil => intro cs j _; simp [put]
  | cons v vs ih =>
    intro cs j h
    simp only [List.length_cons] at h
    rw [put, ih (cs.set j v) (j + 1) (by simp; omega)]
    have h1 : (cs.set j v).take (j + 1) = cs.take j ++ [v] := by
      rw [List.take_succ_eq_append_getElem (by simp; omega)]
      simp [List.take_set_of_le]
    have h2 : (cs.set j v).drop (j + 1 + vs.length) = cs.drop (j + (v :: vs).length) := by
      rw [List.drop_set_of_lt (by omega)]
      congr 1
      simp; omega
    rw [h1, h2]
    simp
theorem o_copy {t t2 e : TypeId} {x y : Operand} {sz b o n c m : Nat} {q : Blk} {u : Value} {news : List Value} (ht : P.underlying t = some (.slice e)) (hs : sizeT P e = some sz) (hx : ρ x = .slice (some ⟨b, o, none⟩) n c) (hy : ρ y = u)
    (hb : H b = some q) (hn : o + n * sz ≤ q.cells.length) (hu : Src P w0 H sz u m news) :
    OpR P w0 ρ ⟨d, .call { callee := .builtin .copy, args := #[x, y], argTypes := #[t, t2] }, ty, pos, af, g⟩ H
      (fun v H' => v = .int .i64 ((min m n : Nat) : Int) ∧ H' = H.set b { q with cells := put q.cells o (news.take (min m n * sz)) }) := by
  obtain ⟨hnl, hn1, hu⟩ := hu
  intro w ho
  obtain ⟨hl, hf⟩ := hu w ho
  have hnew := hf (min m n) (Nat.min_le_left _ _)
  have hle : min m n * sz ≤ n * sz := Nat.mul_le_mul_right _ (Nat.min_le_right _ _)
  have hlen : (news.take (min m n * sz)).length ≤ n * sz := by rw [List.length_take]; omega
  obtain ⟨w', hr, ho'⟩ := ho.storeCells (P := P) (j := o) (i := 0) (news.take (min m n * sz)) hb (by omega) (fun v hv => hn1 v (List.mem_of_mem_take hv))
  have hmin : Nat.min m n = min m n := rfl
  have : (execOp ρ ⟨d, .call { callee := .builtin .copy, args := #[x, y], argTypes := #[t, t2] }, ty, pos, af, g⟩).run P w = .ok (.value (.int .i64 ((min m n : Nat) : Int))) w' := by
    simp [execOp, resolve, invoke, builtin, hx, hy, Builtin.copy_, run_underlying ht, hl, run_sizeT hs, hmin, hnew, hr, goInt]
  rw [this]
  exact ⟨_, ho', rfl, rfl⟩

/-! ### rows of whole numbers -/
theorem q_loadN {t : TypeId} {x : Operand} {b j sz : Nat} {el : TypeId} {k : IntKind} {xs : List Int} (ht : scalT P t = true) (hx : ρ x = .pointer (some ⟨b, j, none⟩)) (hb : H b = some ⟨nums k xs, sz, el⟩) (hj : j < xs.length) :
    QS P w0 ρ ⟨d, .load t x, ty, pos, af, g⟩ H (.int k (xs.getD j 0)) := q_load ht hx hb (nums_get k xs hj)
theorem o_storeN {t : TypeId} {x y : Operand} {b j sz : Nat} {el : TypeId} {k : IntKind} {xs : List Int} {n : Int} (ht : sizeT P t = some 1) (hx : ρ x = .pointer (some ⟨b, j, none⟩)) (hy : ρ y = .int k n) (hb : H b = some ⟨nums k xs, sz, el⟩) (hj : j < xs.length) :
    OpR P w0 ρ ⟨d, .store t x y, ty, pos, af, g⟩ H (fun u H' => u = undef ∧ H' = H.set b ⟨nums k (xs.set j n), sz, el⟩) := by
  have := o_store (P := P) (w0 := w0) (d := d) (ty := ty) (pos := pos) (af := af) (g := g) ht hx hy rfl hb (by simpa [nums_length] using hj)
  simpa only [nums_set] using this
/-- A store into the block that was written last. -/
theorem o_storeN1 {H0 : Hp} {t : TypeId} {x y : Operand} {b j sz : Nat} {el : TypeId} {k : IntKind} {xs : List Int} {n : Int} (ht : sizeT P t = some 1) (hx : ρ x = .pointer (some ⟨b, j, none⟩)) (hy : ρ y = .int k n) (hj : j < xs.length) :
    OpR P w0 ρ ⟨d, .store t x y, ty, pos, af, g⟩ (H0.set b ⟨nums k xs, sz, el⟩) (fun u H' => u = undef ∧ H' = H0.set b ⟨nums k (xs.set j n), sz, el⟩) := by
  have := o_storeN (P := P) (w0 := w0) (d := d) (ty := ty) (pos := pos) (af := af) (g := g) (H := H0.set b ⟨nums k xs, sz, el⟩) ht hx hy Hp.set_self hj
  simpa only [Hp.set_set] using this
theorem Hp.set_comm {H : Hp} {b c : Nat} {o q : Blk} (h : b ≠ c) : (H.set b o).set c q = (H.set c q).set b o := by
  funext x; simp only [Hp.set]; split <;> split <;> simp_all
theorem Hp.set_id {H : Hp} {b : Nat} {o : Blk} (h : H b = some o) : H.set b o = H := by
  funext x; simp only [Hp.set]; split
  · rename_i e; rw [e, h]
  · rfl
/-- A store into the block that was written last but one. -/
theorem o_storeN2 {H0 : Hp} {q : Blk} {t : TypeId} {x y : Operand} {b c j sz : Nat} {el : TypeId} {k : IntKind} {xs : List Int} {n : Int} (ht : sizeT P t = some 1) (hx : ρ x = .pointer (some ⟨b, j, none⟩)) (hy : ρ y = .int k n) (hj : j < xs.length) (hbc : b ≠ c) :
    OpR P w0 ρ ⟨d, .store t x y, ty, pos, af, g⟩ ((H0.set b ⟨nums k xs, sz, el⟩).set c q) (fun u H' => u = undef ∧ H' = (H0.set b ⟨nums k (xs.set j n), sz, el⟩).set c q) := by
  have := o_storeN1 (P := P) (w0 := w0) (d := d) (ty := ty) (pos := pos) (af := af) (g := g) (H0 := H0.set c q) (sz := sz) (el := el) (xs := xs) ht hx hy hj
  simpa only [Hp.set_comm hbc] using this

theorem Hp.none_set {H : Hp} {b c : Nat} {o : Blk} (h : (H.set c o) b = none) : H b = none ∧ b ≠ c := by
  have hne : b ≠ c := by
    rintro rfl
    rw [Hp.set_self] at h
    cases h
  exact ⟨by rw [Hp.set_ne hne] at h; exact h, hne⟩
theorem Hp.set_none {H : Hp} {b c : Nat} {o : Blk} (h : H b = none) (hne : b ≠ c) : (H.set c o) b = none := by rw [Hp.set_ne hne]; exact h
theorem Hp.ne_of {H : Hp} {b c : Nat} {o : Blk} (h : H b = none) (hc : H c = some o) : b ≠ c := by rintro rfl; rw [h] at hc; cases hc

/-! ### whole arrays of numbers -/
theorem put_all {cs old : List Value} (h : cs.length = old.length) : put old 0 cs = cs := by
  rw [put_eq cs old 0 (by omega)]; simp [h]
theorem o_storeA0 {H0 : Hp} {t : TypeId} {n sz : Nat} {el : TypeId} {x y : Operand} {b : Nat} {old : List Value} {k : IntKind} {xs : List Int} (ht : sizeT P t = some n) (hx : ρ x = .pointer (some ⟨b, 0, none⟩)) (hy : ρ y = .agg (nums k xs).toArray) (hn : xs.length = n) (ho : old.length = n) :
    OpR P w0 ρ ⟨d, .store t x y, ty, pos, af, g⟩ (H0.set b ⟨old, sz, el⟩) (fun u H' => u = undef ∧ H' = H0.set b ⟨nums k xs, sz, el⟩) := by
  have := o_storeA (P := P) (w0 := w0) (d := d) (ty := ty) (pos := pos) (af := af) (g := g) (H := H0.set b ⟨old, sz, el⟩) (o := ⟨old, sz, el⟩) ht hx hy (by rw [nums_length, hn]) (nums_one k xs) Hp.set_self (by simp; omega)
  simpa only [Hp.set_set, put_all (by rw [nums_length, hn, ho] : (nums k xs).length = old.length)] using this
theorem o_storeA02 {H0 : Hp} {q : Blk} {t : TypeId} {n sz : Nat} {el : TypeId} {x y : Operand} {b c : Nat} {old : List Value} {k : IntKind} {xs : List Int} (ht : sizeT P t = some n) (hx : ρ x = .pointer (some ⟨b, 0, none⟩)) (hy : ρ y = .agg (nums k xs).toArray) (hn : xs.length = n) (ho : old.length = n) (hbc : b ≠ c) :
    OpR P w0 ρ ⟨d, .store t x y, ty, pos, af, g⟩ ((H0.set b ⟨old, sz, el⟩).set c q) (fun u H' => u = undef ∧ H' = (H0.set b ⟨nums k xs, sz, el⟩).set c q) := by
  have := o_storeA0 (P := P) (w0 := w0) (d := d) (ty := ty) (pos := pos) (af := af) (g := g) (H0 := H0.set c q) (sz := sz) (el := el) (old := old) ht hx hy hn ho
  simpa only [Hp.set_comm hbc] using this
theorem o_storeA03 {H0 : Hp} {q q2 : Blk} {t : TypeId} {n sz : Nat} {el : TypeId} {x y : Operand} {b c c2 : Nat} {old : List Value} {k : IntKind} {xs : List Int} (ht : sizeT P t = some n) (hx : ρ x = .pointer (some ⟨b, 0, none⟩)) (hy : ρ y = .agg (nums k xs).toArray) (hn : xs.length = n) (ho : old.length = n) (hbc : b ≠ c) (hbc2 : b ≠ c2) :
    OpR P w0 ρ ⟨d, .store t x y, ty, pos, af, g⟩ (((H0.set b ⟨old, sz, el⟩).set c q).set c2 q2) (fun u H' => u = undef ∧ H' = ((H0.set b ⟨nums k xs, sz, el⟩).set c q).set c2 q2) := by
  have := o_storeA02 (P := P) (w0 := w0) (d := d) (ty := ty) (pos := pos) (af := af) (g := g) (H0 := H0.set c q) (q := q2) (c := c2) (sz := sz) (el := el) (old := old) ht hx hy hn ho hbc2
  simpa only [Hp.set_comm hbc] using this
theorem o_storeA04 {H0 : Hp} {q q2 q3 : Blk} {t : TypeId} {n sz : Nat} {el : TypeId} {x y : Operand} {b c c2 c3 : Nat} {old : List Value} {k : IntKind} {xs : List Int} (ht : sizeT P t = some n) (hx : ρ x = .pointer (some ⟨b, 0, none⟩)) (hy : ρ y = .agg (nums k xs).toArray) (hn : xs.length = n) (ho : old.length = n) (hbc : b ≠ c) (hbc2 : b ≠ c2) (hbc3 : b ≠ c3) :
    OpR P w0 ρ ⟨d, .store t x y, ty, pos, af, g⟩ ((((H0.set b ⟨old, sz, el⟩).set c q).set c2 q2).set c3 q3) (fun u H' => u = undef ∧ H' = (((H0.set b ⟨nums k xs, sz, el⟩).set c q).set c2 q2).set c3 q3) := by
  have := o_storeA03 (P := P) (w0 := w0) (d := d) (ty := ty) (pos := pos) (af := af) (g := g) (H0 := H0.set c q) (q := q2) (q2 := q3) (c := c2) (c2 := c3) (sz := sz) (el := el) (old := old) ht hx hy hn ho hbc2 hbc3
  simpa only [Hp.set_comm hbc] using this
theorem o_storeN3 {H0 : Hp} {q q2 : Blk} {t : TypeId} {x y : Operand} {b c c2 j sz : Nat} {el : TypeId} {k : IntKind} {xs : List Int} {n : Int} (ht : sizeT P t = some 1) (hx : ρ x = .pointer (some ⟨b, j, none⟩)) (hy : ρ y = .int k n) (hj : j < xs.length) (hbc : b ≠ c) (hbc2 : b ≠ c2) :
    OpR P w0 ρ ⟨d, .store t x y, ty, pos, af, g⟩ (((H0.set b ⟨nums k xs, sz, el⟩).set c q).set c2 q2) (fun u H' => u = undef ∧ H' = ((H0.set b ⟨nums k (xs.set j n), sz, el⟩).set c q).set c2 q2) := by
  have := o_storeN2 (P := P) (w0 := w0) (d := d) (ty := ty) (pos := pos) (af := af) (g := g) (H0 := H0.set c q) (q := q2) (c := c2) (sz := sz) (el := el) (xs := xs) ht hx hy hj hbc2
  simpa only [Hp.set_comm hbc] using this
theorem o_storeN4 {H0 : Hp} {q q2 q3 : Blk} {t : TypeId} {x y : Operand} {b c c2 c3 j sz : Nat} {el : TypeId} {k : IntKind} {xs : List Int} {n : Int} (ht : sizeT P t = some 1) (hx : ρ x = .pointer (some ⟨b, j, none⟩)) (hy : ρ y = .int k n) (hj : j < xs.length) (hbc : b ≠ c) (hbc2 : b ≠ c2) (hbc3 : b ≠ c3) :
    OpR P w0 ρ ⟨d, .store t x y, ty, pos, af, g⟩ ((((H0.set b ⟨nums k xs, sz, el⟩).set c q).set c2 q2).set c3 q3) (fun u H' => u = undef ∧ H' = (((H0.set b ⟨nums k (xs.set j n), sz, el⟩).set c q).set c2 q2).set c3 q3) := by
  have := o_storeN3 (P := P) (w0 := w0) (d := d) (ty := ty) (pos := pos) (af := af) (g := g) (H0 := H0.set c q) (q := q2) (q2 := q3) (c := c2) (c2 := c3) (sz := sz) (el := el) (xs := xs) ht hx hy hj hbc2 hbc3
  simpa only [Hp.set_comm hbc] using this
theorem q_loadAN {t : TypeId} {n sz : Nat} {el : TypeId} {x : Operand} {b : Nat} {k : IntKind} {xs : List Int} (ht : aggT P t n = true) (hx : ρ x = .pointer (some ⟨b, 0, none⟩)) (hb : H b = some ⟨nums k xs, sz, el⟩) (hl : xs.length = n) :
    QS P w0 ρ ⟨d, .load t x, ty, pos, af, g⟩ H (.agg (nums k xs).toArray) := q_loadA0 ht hx hb (by rw [nums_length]; exact hl)
theorem o_allocN {t : TypeId} {k : IntKind} {m : Nat} (hz : zeroT P t = some (.agg (nums k (List.replicate m 0)).toArray)) :
    OpR P w0 ρ ⟨d, .alloc t, ty, pos, af, g⟩ H (fun u H' => ∃ b, H b = none ∧ u = .pointer (some ⟨b, 0, none⟩) ∧ H' = H.set b ⟨nums k (List.replicate m 0), m, t⟩) := by
  have := o_alloc (P := P) (w0 := w0) (ρ := ρ) (H := H) (d := d) (ty := ty) (pos := pos) (af := af) (g := g) (t := t) (cs := nums k (List.replicate m 0)) hz rfl
  exact this.mono (by rintro _ _ ⟨b, h1, h2, h3⟩; exact ⟨b, h1, h2, by simpa [nums_length] using h3⟩)
theorem o_boxN {t : TypeId} {x : Operand} {k : IntKind} {xs : List Int} (hx : ρ x = .agg (nums k xs).toArray) :
    OpR P w0 ρ ⟨d, .box t x, ty, pos, af, g⟩ H (fun u H' => ∃ b, H b = none ∧ u = .pointer (some ⟨b, 0, none⟩) ∧ H' = H.set b ⟨nums k xs, xs.length, t⟩) := by
  have := o_box (P := P) (w0 := w0) (ρ := ρ) (H := H) (d := d) (ty := ty) (pos := pos) (af := af) (g := g) (t := t) (cs := nums k xs) hx rfl
  exact this.mono (by rintro _ _ ⟨b, h1, h2, h3⟩; exact ⟨b, h1, h2, by simpa [nums_length] using h3⟩)
theorem q_build {t : TypeId} {ps : List (Nat × Operand)} {vs : List (Nat × Value)} {cells : Array Value} (hp : (ps.map fun p => (p.1, ρ p.2)) = vs) (h : P.built t vs = some cells) : QS P w0 ρ ⟨d, .build t ps.toArray, ty, pos, af, g⟩ H (.agg cells) :=
  QS.of_run fun w _ => by
    have h2 : P.built t (ps.toArray.map fun (p : Nat × Operand) => (p.1, ρ p.2)).toList = some cells := by simpa [hp] using h
    have := run_build (P := P) w t (ps.toArray.map fun (p : Nat × Operand) => (p.1, ρ p.2)) cells h2
    simp only [execOp, Sem.run_bind]
    rw [show (ps.toArray.map fun (x : Nat × Operand) => match x with | (i, x) => (i, ρ x)) = (ps.toArray.map fun (p : Nat × Operand) => (p.1, ρ p.2)) from rfl]
    rw [this]; rfl
theorem q_indexAN {t e : TypeId} {m : Nat} {x i : Operand} {k k' : IntKind} {xs : List Int} {n : Int} (ht : P.underlying t = some (.array m e)) (hs : scalT P e = true) (hz : sizeT P e = some 1)
    (hx : ρ x = .agg (nums k xs).toArray) (hi : ρ i = .int k' n) (h0 : 0 ≤ n) (h1 : n < m) (hl : xs.length = m) : QS P w0 ρ ⟨d, .index t x i, ty, pos, af, g⟩ H (.int k (xs.getD n.toNat 0)) :=
  q_indexA ht hs hz hx hi h0 h1 (by rw [List.getElem?_toArray]; exact nums_get k xs (by omega))

/-! ### slots at a loop's head -/
def upds (e : Env) : List (Nat × Value) → Env
  | [] => e
  | (t, v) :: r => upd (upds e r) t v
def Slots (e : Env) : List (Nat × Value) → Prop
  | [] => True
  | (t, v) :: r => e t = v ∧ Slots e r
theorem upd_id {e : Env} {t : Nat} {v : Value} (h : e t = v) : upd e t v = e := by
  funext u; simp only [upd]; split
  · rename_i hu; rw [hu, h]
  · rfl
theorem Slots.eq {e : Env} : ∀ {l : List (Nat × Value)}, Slots e l → e = upds e l := by
  intro l
  induction l with
  | nil => intro _; rfl
  | cons p l ih =>
    obtain ⟨t, v⟩ := p
    rintro ⟨h1, h2⟩
    rw [upds, ← ih h2, upd_id h1]
theorem AW.slots {n : Nat} {c : Code} {Q : Post} {e : Env} (l : List (Nat × Value)) (h : Slots e l) (hk : AW P w0 n c Q (upds e l) H) : AW P w0 n c Q e H := by rw [h.eq]; exact hk
theorem i64_int {a b : Int} (h : a = b) (h1 : -9223372036854775808 ≤ b) (h2 : b ≤ 9223372036854775807) : Value.int .i64 (IntKind.i64.wrap a) = .int .i64 b := by subst h; rw [IntWalk.i64_in _ ⟨h1, h2⟩]
end
end Go.Proofs.Ytfiojlmccflplaa.D
