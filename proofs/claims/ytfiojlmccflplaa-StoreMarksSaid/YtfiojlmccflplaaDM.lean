/-
  A walk's rules: maps that the call made. No condition.
-/
import Derived.Test.YtfiojlmccflplaaDU
import Derived.MapKept
namespace Go.Proofs.Ytfiojlmccflplaa.D
open Go Go.RowKit
set_option linter.unusedVariables false
set_option linter.unusedSimpArgs false
/-- A map's block: its entries. -/
abbrev mpB (es : List (Value × Value)) : Blk := ⟨[], 0, .map es⟩
section
variable {α : Type} [DecidableEq α]
def ents (kv : α → Value) (m : List (α × Value)) : List (Value × Value) := m.map fun p => (kv p.1, p.2)
def mgt : List (α × Value) → α → Option Value
  | [], _ => none
  | p :: m, a => if p.1 = a then some p.2 else mgt m a
def mst : List (α × Value) → α → Value → List (α × Value)
  | [], a, v => [(a, v)]
  | p :: m, a, v => if p.1 = a then (a, v) :: m else p :: mst m a v
def mix : List (α × Value) → α → Nat
  | [], _ => 0
  | p :: m, a => if p.1 = a then 0 else mix m a + 1
theorem mgt_nil (a : α) : mgt [] a = none := rfl
theorem mgt_mst_self (m : List (α × Value)) (a : α) (v : Value) : mgt (mst m a v) a = some v := by
  induction m with
  | nil => simp [mst, mgt]
  | cons p m ih =>
    by_cases h : p.1 = a
    · simp [mst, mgt, h]
    · simp [mst, mgt, h, ih]
theorem mgt_mst_ne (m : List (α × Value)) {a b : α} (h : b ≠ a) (v : Value) : mgt (mst m a v) b = mgt m b := by
  induction m with
  | nil => simp [mst, mgt, Ne.symm h]
  | cons p m ih =>
    by_cases h1 : p.1 = a
    · by_cases h2 : p.1 = b
      · exact absurd (h2.symm.trans h1) h
      · simp [mst, mgt, h1, Ne.symm h, h2]
    · by_cases h2 : p.1 = b
      · subst h2; simp [mst, mgt, h1]
      · simp [mst, mgt, h1, h2, ih]
/-- What a key of a type is, and that unlike keys have unlike values. -/
structure KeyK (P : Program) (kt : TypeId) (kv : α → Value) : Prop where
  key : ∃ d, P.underlying kt = some d ∧ ∀ a, MapKept.IsKey d (kv a)
  inj : ∀ a b, kv a = kv b → a = b
end
theorem S_inj {a b : List UInt8} (h : S a = S b) : a = b := by
  have h1 : str a = str b := by injection h
  have h2 : (str a).data.toList = (str b).data.toList := by rw [h1]
  simpa [str] using h2
theorem key_str {P : Program} {kt : TypeId} (h : P.underlying kt = some .string) : KeyK P kt S := ⟨⟨_, h, fun _ => trivial⟩, fun _ _ => S_inj⟩
theorem key_i64 {P : Program} {kt : TypeId} (h : P.underlying kt = some (.int .i64)) : KeyK P kt (Value.int .i64) := ⟨⟨_, h, fun _ => rfl⟩, fun _ _ h => by injection h⟩
section
variable {P : Program} {w0 : World} {ρ : Operand → Value} {d : Option Tmp} {ty : TypeId} {pos : String} {af : Array Edge} {g : Option (Nat × Bool)} {H H0 : Hp} {L : List Chunk} {F : Chunk → List Chunk}
variable {α : Type} [DecidableEq α] {kv : α → Value}
theorem find_ents {td : TypeDesc} (hk : ∀ a, MapKept.IsKey td (kv a)) (hi : ∀ a b, kv a = kv b → a = b) (a : α) : ∀ (m : List (α × Value)) (l : List MapEntry) (i : Nat), l.map (fun x => (x.key, x.val)) = ents kv m →
    Instr.findNow td (kv a) l i = some ((mgt m a).map fun v => (i + mix m a, v)) := by
  intro m
  induction m with
  | nil =>
    intro l i h
    cases l with
    | nil => rfl
    | cons => simp [ents] at h
  | cons p m ih =>
    intro l i h
    cases l with
    | nil => simp [ents] at h
    | cons x l =>
      simp only [ents, List.map_cons, List.cons.injEq, Prod.mk.injEq] at h
      obtain ⟨⟨h1, h2⟩, h3⟩ := h
      obtain ⟨r, hr, hiff⟩ := MapKept.sameNow_of_keys (hk a) (by rw [h1]; exact hk p.1 : MapKept.IsKey td x.key)
      by_cases he : p.1 = a
      · have : r = true := hiff.2 (by rw [h1, he])
        subst this
        simp [Instr.findNow, hr, mgt, mix, he, h2]
      · have : r = false := by
          cases r with
          | false => rfl
          | true => exact absurd (hi _ _ ((hiff.1 rfl).trans h1)).symm he
        subst this
        rw [Instr.findNow, hr]
        show Instr.findNow td (kv a) l (i + 1) = _
        rw [ih l (i + 1) h3]
        simp only [mgt, mix, if_neg he]
        cases mgt m a with
        | none => rfl
        | some v => simp only [Option.map_some, Option.some.injEq, Prod.mk.injEq, and_true]; omega
theorem mix_get {m : List (α × Value)} {a : α} {v : Value} (h : mgt m a = some v) : m[mix m a]? = some (a, v) := by
  induction m with
  | nil => simp [mgt] at h
  | cons p m ih =>
    by_cases he : p.1 = a
    · simp only [mgt, if_pos he, Option.some.injEq] at h
      rw [mix, if_pos he, List.getElem?_cons_zero, ← he, ← h]
    · simp only [mgt, if_neg he] at h
      simp only [mix, if_neg he, List.getElem?_cons_succ]
      exact ih h
theorem mst_old {m : List (α × Value)} {a : α} {v : Value} (h : mgt m a = some v) (u : Value) : mst m a u = m.set (mix m a) (a, u) := by
  induction m with
  | nil => simp [mgt] at h
  | cons p m ih =>
    by_cases he : p.1 = a
    · simp [mst, mix, he]
    · simp only [mgt, if_neg he] at h
      simp [mst, mix, he, ih h]
theorem mst_new {m : List (α × Value)} {a : α} (h : mgt m a = none) (u : Value) : mst m a u = m ++ [(a, u)] := by
  induction m with
  | nil => rfl
  | cons p m ih =>
    by_cases he : p.1 = a
    · simp [mgt, he] at h
    · simp only [mgt, if_neg he] at h
      simp [mst, he, ih h]
theorem Own.mapAt {w : World} {b : Nat} {es : List (Value × Value)} (h : Own w0 H w) (hb : H b = some (mpB es)) : ∃ l k, w.heap[b]? = some (.map l k) ∧ l.toList.map (fun x => (x.key, x.val)) = es := by
  rcases (h.fits b _ hb).2 with ⟨e, c, fr, he, _⟩ | ⟨_, _, es', l, k, h1, h2, h3⟩
  · cases he
  · cases h1; exact ⟨l, k, h2, h3⟩
theorem q_lookup {t kt et : TypeId} {x i : Operand} {b : Nat} {m : List (α × Value)} {a : α} {z : Value} (ht : P.underlying t = some (.map kt et)) (hk : KeyK P kt kv) (hz : zeroT P et = some z) (hx : ρ x = .map (some b)) (hi : ρ i = kv a) (hb : H b = some (mpB (ents kv m))) :
    QS P w0 ρ ⟨d, .lookup t x i false, ty, pos, af, g⟩ H ((mgt m a).getD z) :=
  QS.of_run fun w ho => by
    obtain ⟨l, k, h1, h2⟩ := ho.mapAt hb
    obtain ⟨td, hd, hk1⟩ := hk.key
    have hf := find_ents hk1 hk.inj a m l.toList 0 h2
    have hz' := run_zeroT hz w
    cases hm : mgt m a with
    | none =>
      rw [hm] at hf
      simp [execOp, hx, hi, Instr.lookup, run_underlying ht, MapKept.run_getObj_map h1, MapKept.run_checkKey hd (hk1 a), MapKept.run_findKey hd hf, hz', Result.andThen]
    | some v =>
      rw [hm] at hf
      simp [execOp, hx, hi, Instr.lookup, run_underlying ht, MapKept.run_getObj_map h1, MapKept.run_checkKey hd (hk1 a), MapKept.run_findKey hd hf, Result.andThen]
theorem q_lookupOk {t kt et : TypeId} {x i : Operand} {b : Nat} {m : List (α × Value)} {a : α} {z : Value} (ht : P.underlying t = some (.map kt et)) (hk : KeyK P kt kv) (hz : zeroT P et = some z) (hx : ρ x = .map (some b)) (hi : ρ i = kv a) (hb : H b = some (mpB (ents kv m))) :
    QS P w0 ρ ⟨d, .lookup t x i true, ty, pos, af, g⟩ H (.tuple #[(mgt m a).getD z, .bool (mgt m a).isSome]) :=
  QS.of_run fun w ho => by
    obtain ⟨l, k, h1, h2⟩ := ho.mapAt hb
    obtain ⟨td, hd, hk1⟩ := hk.key
    have hf := find_ents hk1 hk.inj a m l.toList 0 h2
    have hz' := run_zeroT hz w
    cases hm : mgt m a with
    | none =>
      rw [hm] at hf
      simp [execOp, hx, hi, Instr.lookup, run_underlying ht, MapKept.run_getObj_map h1, MapKept.run_checkKey hd (hk1 a), MapKept.run_findKey hd hf, hz', Result.andThen]
    | some v =>
      rw [hm] at hf
      simp [execOp, hx, hi, Instr.lookup, run_underlying ht, MapKept.run_getObj_map h1, MapKept.run_checkKey hd (hk1 a), MapKept.run_findKey hd hf, Result.andThen]
theorem o_makeMap {t : TypeId} : OpR P w0 ρ ⟨d, .makeMap t none, ty, pos, af, g⟩ H (fun v H' => ∃ b, H b = none ∧ v = .map (some b) ∧ H' = H.set b (mpB [])) := by
  intro w ho
  have : (execOp ρ ⟨d, .makeMap t none, ty, pos, af, g⟩).run P w = .ok (.value (.map (some w.heap.size))) (w.alloc (.map #[] 0)) := by
    simp [execOp, Instr.makeMap]
  rw [this]
  refine ⟨H.set w.heap.size (mpB []), ⟨ho.below.alloc ho.below.size _, fun b o hb => ?_⟩, w.heap.size, ho.fresh, rfl, rfl⟩
  by_cases hbe : b = w.heap.size
  · subst hbe
    rw [Hp.set_self] at hb
    obtain rfl := Option.some.inj hb
    exact ⟨ho.below.size, .inr ⟨rfl, rfl, [], #[], 0, rfl, (MapKept.heap_alloc w _).1, rfl⟩⟩
  · rw [Hp.set_ne hbe] at hb
    have := ho.fits b o hb
    exact ⟨this.1, this.2.of_eq (Below.heap_alloc w _ b (ho.lt hb))⟩
theorem Own.setMap {w : World} {b : Nat} {es es' : List (Value × Value)} (h : Own w0 H w) (hb : H b = some (mpB es)) {l' : Array MapEntry} {k' : Nat} (he : l'.toList.map (fun x => (x.key, x.val)) = es') :
    Own w0 (H.set b (mpB es')) { w with heap := w.heap.setIfInBounds b (.map l' k') } := by
  have hbb := h.fits b _ hb
  obtain ⟨l, k, h1, h2⟩ := h.mapAt hb
  have hs := MapKept.heap_set (o' := .map l' k') h1
  refine ⟨⟨h.below.os, h.below.tape, h.below.output, by simpa using h.below.size, fun i hi => ?_⟩, fun b' o' hb' => ?_⟩
  · have hne : i ≠ b := by have := hbb.1; omega
    exact (hs.2 i hne).trans (h.below.block i hi)
  · by_cases e : b' = b
    · subst e
      rw [Hp.set_self] at hb'
      obtain rfl := Option.some.inj hb'
      exact ⟨hbb.1, .inr ⟨rfl, rfl, es', l', k', rfl, hs.1, he⟩⟩
    · rw [Hp.set_ne e] at hb'
      have := h.fits b' o' hb'
      exact ⟨this.1, this.2.of_eq (hs.2 b' e)⟩
theorem o_mapUpdate {t kt et : TypeId} {x i y : Operand} {b : Nat} {m : List (α × Value)} {a : α} {u : Value} (ht : P.underlying t = some (.map kt et)) (hk : KeyK P kt kv) (hx : ρ x = .map (some b)) (hi : ρ i = kv a) (hy : ρ y = u) (hb : H b = some (mpB (ents kv m))) :
    OpR P w0 ρ ⟨d, .mapUpdate t x i y, ty, pos, af, g⟩ H (fun v H' => v = undef ∧ H' = H.set b (mpB (ents kv (mst m a u)))) := by
  intro w ho
  obtain ⟨l, k, h1, h2⟩ := ho.mapAt hb
  obtain ⟨td, hd, hk1⟩ := hk.key
  have hf := find_ents hk1 hk.inj a m l.toList 0 h2
  cases hm : mgt m a with
  | none =>
    rw [hm] at hf
    have : (execOp ρ ⟨d, .mapUpdate t x i y, ty, pos, af, g⟩).run P w = .ok .skip { w with heap := w.heap.setIfInBounds b (.map (l.push { key := kv a, val := u, born := k }) (k + 1)) } := by
      simp [execOp, hx, hi, hy, Instr.mapUpdate, run_underlying ht, MapKept.run_getObj_map h1, MapKept.run_checkKey hd (hk1 a), MapKept.run_findKey hd hf, MapKept.run_setObj_map _ h1, Result.andThen]
    rw [this]
    refine ⟨_, ho.setMap hb ?_, rfl, rfl⟩
    rw [mst_new hm]
    simp [ents, h2]
  | some v =>
    rw [hm] at hf
    have hg := mix_get hm
    have hl : l.toList[mix m a]?.map (fun x => (x.key, x.val)) = some (kv a, v) := by
      rw [← List.getElem?_map, h2]; simp [ents, hg]
    obtain ⟨e0, he0, he1⟩ := Option.map_eq_some_iff.1 hl
    have hj : l[mix m a]? = some e0 := by simpa using he0
    have hkey : e0.key = kv a := congrArg Prod.fst he1
    have : (execOp ρ ⟨d, .mapUpdate t x i y, ty, pos, af, g⟩).run P w = .ok .skip { w with heap := w.heap.setIfInBounds b (.map (l.modify (mix m a) fun e => { e with key := kv a, val := u }) k) } := by
      simp [execOp, hx, hi, hy, Instr.mapUpdate, run_underlying ht, MapKept.run_getObj_map h1, MapKept.run_checkKey hd (hk1 a), MapKept.run_findKey hd hf, MapKept.run_setObj_map _ h1, MapKept.run_keyThatStays (hk1 a), hj, hkey, Result.andThen]
    rw [this]
    refine ⟨_, ho.setMap hb ?_, rfl, rfl⟩
    rw [mst_old hm]
    apply List.ext_getElem?
    intro j
    have h2j : (l.toList.map fun x => (x.key, x.val))[j]? = (ents kv m)[j]? := by rw [h2]
    simp only [ents, List.getElem?_map, Array.toList_modify, List.getElem?_modify, List.getElem?_set] at h2j ⊢
    by_cases e : mix m a = j
    · subst e
      have hlt := (List.getElem?_eq_some_iff.1 hg).1
      simp [he0, hlt]
    · simp only [e, if_false]
      simpa using h2j
/-! over pieces -/
theorem s_makeMap {t : TypeId} (hS : Sep H0 L H) : OpR P w0 ρ ⟨d, .makeMap t none, ty, pos, af, g⟩ H (fun v H' => ∃ b, v = .map (some b) ∧ Sep H0 (.blk b (mpB []) :: L) H') :=
  o_makeMap.mono (by rintro _ _ ⟨b, h1, h2, rfl⟩; exact ⟨b, h2, hS.new h1⟩)
theorem s_mapUpdate {t kt et : TypeId} {x i y : Operand} {b : Nat} {m : List (α × Value)} {a : α} {u : Value} (hS : Sep H0 L H) (hA : At L (.blk b (mpB (ents kv m))) F) (ht : P.underlying t = some (.map kt et)) (hk : KeyK P kt kv) (hx : ρ x = .map (some b)) (hi : ρ i = kv a) (hy : ρ y = u) :
    OpR P w0 ρ ⟨d, .mapUpdate t x i y, ty, pos, af, g⟩ H (fun v H' => v = undef ∧ Sep H0 (F (.blk b (mpB (ents kv (mst m a u))))) H') :=
  (o_mapUpdate ht hk hx hi hy (hS.blk hA)).mono (by rintro _ _ ⟨h1, rfl⟩; exact ⟨h1, hS.set hA⟩)
end
end Go.Proofs.Ytfiojlmccflplaa.D
