/-
  A walk's rules: slices of structs. No condition.
-/
import Derived.Test.YtfiojlmccflplaaDW
import Derived.Test.YtfiojlmccflplaaDT
namespace Go.Proofs.Ytfiojlmccflplaa.D
open Go Go.RowKit
set_option linter.unusedVariables false
set_option linter.unusedSimpArgs false
section
variable {α : Type} {cells : α → List Value} {sz : Nat}
/-- The cells of a row of structs. -/
def rowsV (cells : α → List Value) (l : List α) : List Value := l.flatMap cells
theorem rowsV_nil : rowsV cells [] = [] := rfl
theorem rowsV_cons (r : α) (l : List α) : rowsV cells (r :: l) = cells r ++ rowsV cells l := rfl
theorem rowsV_one (r : α) : rowsV cells [r] = cells r := by simp [rowsV]
theorem rowsV_append (a b : List α) : rowsV cells (a ++ b) = rowsV cells a ++ rowsV cells b := by simp [rowsV]
theorem rowsV_length (hc : ∀ r, (cells r).length = sz) (l : List α) : (rowsV cells l).length = l.length * sz := by
  induction l with
  | nil => simp [rowsV_nil]
  | cons r l ih => rw [rowsV_cons, List.length_append, hc, ih, List.length_cons, Nat.succ_mul, Nat.add_comm]
theorem rowsV_take (hc : ∀ r, (cells r).length = sz) : ∀ (l : List α) (n : Nat), (rowsV cells l).take (n * sz) = rowsV cells (l.take n) := by
  intro l
  induction l with
  | nil => intro n; simp [rowsV_nil]
  | cons r l ih =>
    intro n
    cases n with
    | zero => simp [rowsV_nil]
    | succ n =>
      rw [rowsV_cons, List.take_succ_cons, rowsV_cons, Nat.succ_mul, Nat.add_comm, List.take_append, hc, List.take_of_length_le (by rw [hc]; omega), show sz + n * sz - sz = n * sz from by omega, ih]
theorem rowsV_drop (hc : ∀ r, (cells r).length = sz) : ∀ (l : List α) (n : Nat), (rowsV cells l).drop (n * sz) = rowsV cells (l.drop n) := by
  intro l
  induction l with
  | nil => intro n; simp [rowsV_nil]
  | cons r l ih =>
    intro n
    cases n with
    | zero => simp
    | succ n =>
      rw [rowsV_cons, List.drop_succ_cons, Nat.succ_mul, Nat.add_comm, List.drop_append, hc, List.drop_eq_nil_of_le (by rw [hc]; omega), show sz + n * sz - sz = n * sz from by omega, ih, List.nil_append]
theorem rowsV_get (hc : ∀ r, (cells r).length = sz) {l : List α} {j : Nat} {r : α} (h : l[j]? = some r) {i : Nat} {v : Value} (hv : (cells r)[i]? = some v) : (rowsV cells l)[j * sz + i]? = some v := by
  have hi : i < sz := by rw [← hc r]; exact (List.getElem?_eq_some_iff.1 hv).1
  have e : (rowsV cells l)[j * sz + i]? = (rowsV cells (l.drop j))[i]? := by rw [← rowsV_drop hc, List.getElem?_drop]
  obtain ⟨hj, hr⟩ := List.getElem?_eq_some_iff.1 h
  rw [e, List.drop_eq_getElem_cons hj, hr, rowsV_cons, List.getElem?_append_left (by rw [hc]; exact hi)]
  exact hv
theorem put_at (pre vs old post : List Value) (h : vs.length = old.length) : put (pre ++ old ++ post) pre.length vs = pre ++ vs ++ post := by
  induction vs generalizing pre old with
  | nil => have : old = [] := List.eq_nil_of_length_eq_zero (by simpa using h.symm); subst this; rfl
  | cons v vs ih =>
    cases old with
    | nil => simp at h
    | cons o old =>
      have := ih (pre ++ [v]) old (by simpa using h)
      rw [put]
      have e : (pre ++ o :: old ++ post).set pre.length v = (pre ++ [v]) ++ old ++ post := by
        rw [List.append_assoc, List.set_append_right _ _ (Nat.le_refl _), Nat.sub_self]; simp
      rw [e]
      rw [List.length_append, List.length_singleton] at this
      rw [this]; simp
theorem rowsV_put (hc : ∀ r, (cells r).length = sz) {l : List α} {j : Nat} (hj : j < l.length) (r : α) : put (rowsV cells l) (j * sz) (cells r) = rowsV cells (l.set j r) := by
  obtain ⟨o, ho⟩ : ∃ o, l[j]? = some o := ⟨l[j], List.getElem?_eq_getElem hj⟩
  have e : l = l.take j ++ [o] ++ l.drop (j + 1) := by
    obtain ⟨_, h2⟩ := List.getElem?_eq_some_iff.1 ho
    rw [List.append_assoc, ← h2, List.singleton_append, ← List.drop_eq_getElem_cons hj, List.take_append_drop]
  have el : (rowsV cells (l.take j)).length = j * sz := by rw [rowsV_length hc, List.length_take, Nat.min_eq_left (Nat.le_of_lt hj)]
  have e2 : l.set j r = l.take j ++ [r] ++ l.drop (j + 1) := by
    rw [List.set_eq_take_append_cons_drop, if_pos hj]; simp
  rw [e2]
  conv => lhs; rw [e]
  rw [rowsV_append, rowsV_append, rowsV_append, rowsV_append, rowsV_one, rowsV_one, ← el]
  exact put_at _ _ _ _ (by rw [hc, hc])
end
section
variable {P : Program} {w0 : World} {ρ : Operand → Value} {d : Option Tmp} {ty : TypeId} {pos : String} {af : Array Edge} {g : Option (Nat × Bool)} {H H0 : Hp} {L : List Chunk} {F : Chunk → List Chunk} {α : Type} {cells : α → List Value} {sz : Nat}
/-- A struct out of a slice of structs. -/
theorem q_loadVR {t el : TypeId} {m j : Nat} {x : Operand} {v : Value} {l : List α} {r : α} (hV : Vec H el sz v m (rowsV cells l)) (hc : ∀ r, (cells r).length = sz) (ht : aggT P t sz = true) (hx : ρ x = vptr v (j * sz)) (hr : l[j]? = some r) (hm : 0 < m) :
    QS P w0 ρ ⟨d, .load t x, ty, pos, af, g⟩ H (.agg (cells r).toArray) := by
  obtain ⟨b, cap, q, rfl, hq, _, _, _, _, _, _, hcs⟩ := hV.opened hm
  rw [vptr_at] at hx
  exact q_loadA ht hx hq (hc r) (fun i u hu => hcs _ _ (rowsV_get hc hr hu))
theorem Sep.vput {v : Value} {el : TypeId} {sz n j : Nat} {cs us : List Value} {b cap : Nat} {q : Blk} (h : Sep H0 L H) (hA : At L (.vec v el sz n cs) F) (hv : v = .slice (some ⟨b, 0, none⟩) n cap) (hq : H b = some q) (hl : (put cs j us).length = cs.length)
    (hp : (put q.cells j us).take (n * sz) = put cs j us) : Sep H0 (F (.vec v el sz n (put cs j us))) (H.set b { q with cells := put q.cells j us }) := by
  obtain ⟨h1, h2, a, hb, d, e, f, g⟩ := Sep.frame hA h
  have hv1 : Vec h1 el sz v n cs := e
  rcases hv1 with ⟨k, _⟩ | ⟨b', cap', q', k1, k2, k3, k4, k5, k6, k7, k8⟩
  · rw [hv] at k; cases k
  · rw [hv] at k1
    cases k1
    have hqq := hb b q' k2
    rw [hq] at hqq
    cases hqq
    have h2b : h2 b = none := (a b).resolve_left (by rw [k2]; simp)
    refine g (.vec v el sz n (put cs j us)) (single b { q with cells := put q.cells j us }) _ ?_ ?_ ?_ ?_
    · intro x
      by_cases hx : x = b
      · subst hx; exact .inr h2b
      · exact .inl (by simp [single, hx])
    · intro x q' hq
      by_cases hx : x = b
      · subst hx; simp [single] at hq; subst hq; exact Hp.set_self
      · simp [single, hx] at hq
    · intro x q' hq9
      have hx : x ≠ b := by rintro rfl; rw [h2b] at hq9; cases hq9
      rw [Hp.set_ne hx]; exact d x q' hq9
    · exact .inr ⟨b, cap, _, hv, if_pos rfl, k3, hp, by rw [hl]; exact k5, k6, k7, k8⟩
theorem put_take {us : List Value} : ∀ {cs : List Value} {j N : Nat}, j + us.length ≤ N → (put cs j us).take N = put (cs.take N) j us := by
  induction us with
  | nil => intro cs j N _; rfl
  | cons u us ih =>
    intro cs j N h
    rw [List.length_cons] at h
    rw [put, put, ih (by omega), List.take_set]
/-- A struct into a slice of structs. -/
theorem s_storeVR {t el : TypeId} {m j : Nat} {x y : Operand} {v : Value} {l : List α} {r : α} (hS : Sep H0 L H) (hA : At L (.vec v el sz m (rowsV cells l)) F) (hc : ∀ r, (cells r).length = sz) (hl : l.length = m) (ht : sizeT P t = some sz) (hx : ρ x = vptr v (j * sz)) (hy : ρ y = .agg (cells r).toArray)
    (h1 : ∀ u ∈ cells r, u.oneCell' = true) (hj : j < m) : OpR P w0 ρ ⟨d, .store t x y, ty, pos, af, g⟩ H (fun u H' => u = undef ∧ Sep H0 (F (.vec v el sz m (rowsV cells (l.set j r)))) H') := by
  have hV := hS.vec hA
  obtain ⟨b, cap, q, hv, hq, _, k4, k5, _, _, _, _⟩ := hV.opened (by omega)
  have hx' := hx
  rw [hv, vptr_at] at hx'
  have hN : j * sz + (cells r).length ≤ m * sz := by rw [hc, ← Nat.succ_mul]; exact Nat.mul_le_mul_right _ hj
  have hlen : m * sz ≤ q.cells.length := by rw [← k4, List.length_take] at k5; omega
  refine (o_storeA ht hx' hy (hc r) h1 hq (by rw [hc] at hN; omega)).mono ?_
  rintro _ _ ⟨h1, rfl⟩
  refine ⟨h1, ?_⟩
  rw [← rowsV_put hc (by omega) r]
  exact hS.vput hA hv hq (put_length _ _ _) (by rw [put_take hN, k4])
/-- The head of a slice. -/
theorem Sep.vpre {v : Value} {el : TypeId} {sz n k : Nat} {cs : List Value} (h : Sep H0 L H) (hA : At L (.vec v el sz n cs) F) (hk : k ≤ n) : Sep H0 (F (.vec (preV v k) el sz k (cs.take (k * sz)))) H := by
  obtain ⟨h1, h2, a, hb, d, e, f, g⟩ := Sep.frame hA h
  refine g (.vec (preV v k) el sz k (cs.take (k * sz))) h1 H a hb d ?_
  have hv1 : Vec h1 el sz v n cs := e
  have hm : k * sz ≤ n * sz := Nat.mul_le_mul_right _ hk
  rcases hv1 with ⟨rfl, rfl, rfl⟩ | ⟨b, cap, q, rfl, k2, k3, k4, k5, k6, k7, k8⟩
  · obtain rfl : k = 0 := by omega
    exact .inl ⟨rfl, rfl, by simp⟩
  · refine .inr ⟨b, cap, q, rfl, k2, k3, ?_, by rw [List.length_take, k5, Nat.min_eq_left hm], by omega, k7, k8⟩
    rw [← k4, List.take_take, Nat.min_eq_left hm]
/-- A slice of one struct of two cells. -/
theorem o_buildSlice2 {t e : TypeId} {x : Operand} {z u0 u1 : Value} (ht : P.underlying t = some (.slice e)) (hs : sizeT P e = some 2) (hz : zeroT P e = some z) (hx : ρ x = .agg #[u0, u1]) :
    OpR P w0 ρ ⟨d, .buildSlice t 1 #[(0, x)], ty, pos, af, g⟩ H (fun v H' => ∃ b, H b = none ∧ v = .slice (some ⟨b, 0, none⟩) 1 1 ∧ H' = H.set b ⟨[u0, u1], 2, e⟩) := by
  intro w ho
  have hf : ∀ a : Array Value, a.size = 2 → Instr.fill (fun i => some (i * 2, 2)) a [(0, Value.agg #[u0, u1])] = some #[u0, u1] := by
    intro a ha
    obtain ⟨l⟩ := a
    match l, ha with
    | [a0, a1], _ => rfl
  have : (execOp ρ ⟨d, .buildSlice t 1 #[(0, x)], ty, pos, af, g⟩).run P w = .ok (.value (.slice (some ⟨w.heap.size, 0, none⟩) 1 1)) (w.alloc (.cells #[u0, u1] e (0, 0))) := by
    have h24 : ¬ 1 * 2 > 2 ^ 24 := by omega
    have h0 : ¬ 1 * 2 = 0 := by omega
    simp only [execOp, Instr.buildSlice, Sem.run_bind, run_underlying ht, Result.andThen_ok, run_sizeT hs, h24, h0, if_false, Sem.run_pure, run_zeroT hz]
    have hp : (#[(0, x)].map fun (p : Nat × Operand) => (p.1, ρ p.2)).toList = [(0, Value.agg #[u0, u1])] := by simp [hx]
    simp only [pure_bind, hp, hf _ (show (Array.map (fun x => z.cells[x % z.cells.size]!) (Array.range (1 * 2))).size = 2 by rw [Array.size_map, Array.size_range]), newRow, Sem.run_bind, run_newObj, World.alloc_eq, Result.andThen_ok, Sem.run_pure]
  rw [this]
  exact ⟨_, ho.alloc [u0, u1] _ rfl e (0, 0) (.inl rfl), w.heap.size, ho.fresh, rfl, rfl⟩
theorem s_buildSlice2 {t e : TypeId} {x : Operand} {z u0 u1 : Value} (hS : Sep H0 L H) (ht : P.underlying t = some (.slice e)) (hs : sizeT P e = some 2) (hz : zeroT P e = some z) (hx : ρ x = .agg #[u0, u1]) :
    OpR P w0 ρ ⟨d, .buildSlice t 1 #[(0, x)], ty, pos, af, g⟩ H (fun u H' => Sep H0 (.vec u e 2 1 [u0, u1] :: L) H') :=
  (o_buildSlice2 ht hs hz hx).mono (by
    rintro _ _ ⟨b, hb, rfl, rfl⟩
    exact (hS.new hb).asVec rfl rfl (Nat.le_refl _) (by omega) (by unfold maxLen; omega))
/-- A slice from a place on, its elements of sz cells. -/
def sufM (v : Value) (sz k : Nat) : Value := match v with
  | .slice (some a) n c => .slice (some (if c = k then ⟨a.block, a.off, none⟩ else ⟨a.block, a.off + k * sz, none⟩)) (n - k) (c - k)
  | v => v
theorem q_sufM {t e el : TypeId} {m : Nat} {x lo : Operand} {k : IntKind} {a : Int} {v : Value} {cs : List Value} (hV : Vec H el sz v m cs) (hm : 0 < m) (ht : P.underlying t = some (.slice e)) (hs : sizeT P e = some sz) (hx : ρ x = v) (ha : ρ lo = .int k a) (h0 : 0 ≤ a) (h1 : a ≤ m) :
    QS P w0 ρ ⟨d, .slice t x (some lo) none none, ty, pos, af, g⟩ H (sufM v sz a.toNat) := by
  obtain ⟨b, cap, q, rfl, _⟩ := hV.opened hm
  exact q_sliceV_lo ht hs hx ha h0 h1
theorem q_preM {t e el : TypeId} {m : Nat} {x hi : Operand} {k : IntKind} {a : Int} {v : Value} {cs : List Value} (hV : Vec H el sz v m cs) (ht : P.underlying t = some (.slice e)) (hs : sizeT P e = some sz) (hx : ρ x = v) (ha : ρ hi = .int k a) (h0 : 0 ≤ a) (h1 : a ≤ m) :
    QS P w0 ρ ⟨d, .slice t x none (some hi) none, ty, pos, af, g⟩ H (preV v a.toNat) := by
  rcases hV with ⟨rfl, rfl, rfl⟩ | ⟨b, cap, q, rfl, _, _, _, _, k6, _⟩
  · exact q_sliceV_hi ht hs hx ha h0 (by omega)
  · exact q_sliceV_hi ht hs hx ha h0 (by omega)
theorem zeros_rows (hc : ∀ r, (cells r).length = sz) (hsz : 0 < sz) (r0 : α) (n : Nat) : (Builtin.zeroCells (cells r0).toArray n).toList = rowsV cells (List.replicate n r0) := by
  apply List.ext_getElem?
  intro i
  have hl : (rowsV cells (List.replicate n r0)).length = n * sz := by rw [rowsV_length hc, List.length_replicate]
  by_cases hi : i < n * sz
  · have hj : i / sz < n := Nat.div_lt_of_lt_mul (by rw [Nat.mul_comm]; exact hi)
    have hm : i % sz < (cells r0).length := by rw [hc]; exact Nat.mod_lt _ hsz
    have h1 := rowsV_get (cells := cells) hc (l := List.replicate n r0) (j := i / sz) (r := r0) (by simp [hj]) (i := i % sz) (v := (cells r0)[i % sz]) (List.getElem?_eq_getElem hm)
    rw [Nat.mul_comm, Nat.div_add_mod] at h1
    rw [h1]
    simp only [Builtin.zeroCells, List.size_toArray, hc, Array.toList_map, Array.toList_range, List.getElem?_map]
    rw [List.getElem?_range hi]
    simp [hm]
  · rw [List.getElem?_eq_none (by simp [Builtin.zeroCells, hc]; omega), List.getElem?_eq_none (by rw [hl]; omega)]
/-- The rest of a slice of structs is cleared. -/
theorem s_clearVR {t e el : TypeId} {m k : Nat} {x : Operand} {v z : Value} {l : List α} {r0 : α} (hS : Sep H0 L H) (hA : At L (.vec v el sz m (rowsV cells l)) F) (hc : ∀ r, (cells r).length = sz) (hsz : 0 < sz) (hl : l.length = m) (ht : P.underlying t = some (.slice e)) (hz : zeroT P e = some z) (hzc : z.cells = (cells r0).toArray)
    (h1 : ∀ r, ∀ u ∈ cells r, u.oneCell' = true) (hx : ρ x = sufM v sz k) (hk : k ≤ m) (hm : 0 < m) :
    OpR P w0 ρ ⟨d, .call { callee := .builtin .clear, args := #[x], argTypes := #[t] }, ty, pos, af, g⟩ H (fun u H' => u = .tuple #[] ∧ Sep H0 (F (.vec v el sz m (rowsV cells (l.take k ++ List.replicate (m - k) r0)))) H') := by
  have hV := hS.vec hA
  obtain ⟨b, cap, q, hv, hq, _, k4, k5, k6, _, _, _⟩ := hV.opened hm
  subst hv
  by_cases hkm : k = m
  · subst hkm
    intro w ho
    have : (execOp ρ ⟨d, .call { callee := .builtin .clear, args := #[x], argTypes := #[t] }, ty, pos, af, g⟩).run P w = .ok (.value (.tuple #[])) w := by
      simp [execOp, resolve, invoke, builtin, hx, sufM, Builtin.clear_, run_underlying ht]
    rw [this]
    refine ⟨_, ho, rfl, ?_⟩
    rw [Nat.sub_self, List.replicate_zero, List.append_nil, List.take_of_length_le (by omega)]
    obtain ⟨Hf, _, hA1, hB1⟩ := hS.framed hA
    exact hB1 _ _ hA1
  · have hzl : (rowsV cells (List.replicate (m - k) r0)).length = (m - k) * sz := by rw [rowsV_length hc, List.length_replicate]
    have hlen : m * sz ≤ q.cells.length := by rw [← k4, List.length_take] at k5; omega
    have hks : k * sz + (m - k) * sz = m * sz := by rw [← Nat.add_mul]; congr 1; omega
    have hcs : rowsV cells l = rowsV cells (l.take k) ++ rowsV cells (l.drop k) ++ [] := by rw [List.append_nil, ← rowsV_append, List.take_append_drop]
    have hput : put (rowsV cells l) (k * sz) (rowsV cells (List.replicate (m - k) r0)) = rowsV cells (l.take k ++ List.replicate (m - k) r0) := by
      have := put_at (rowsV cells (l.take k)) (rowsV cells (List.replicate (m - k) r0)) (rowsV cells (l.drop k)) [] (by rw [hzl, rowsV_length hc, List.length_drop, hl])
      rw [← hcs, rowsV_length hc, List.length_take, hl, Nat.min_eq_left hk] at this
      rw [this, List.append_nil, rowsV_append]
    intro w ho
    obtain ⟨w', hr, ho'⟩ := ho.storeCells (P := P) (j := k * sz) (i := 0) (rowsV cells (List.replicate (m - k) r0)) hq (by omega) (fun u hu => by
      obtain ⟨r, _, hr⟩ := List.mem_flatMap.1 hu
      exact h1 r u hr)
    have hne : ¬ cap = k := by omega
    obtain ⟨p, hp⟩ : ∃ p, m - k = p + 1 := ⟨m - k - 1, by omega⟩
    have hzr := zeros_rows hc hsz r0 (m - k)
    have : (execOp ρ ⟨d, .call { callee := .builtin .clear, args := #[x], argTypes := #[t] }, ty, pos, af, g⟩).run P w = .ok (.value (.tuple #[])) w' := by
      rw [hp] at hr hzr
      simp [execOp, resolve, invoke, builtin, hx, sufM, hne, hp, Builtin.clear_, run_underlying ht, run_zeroT hz, hzc, hzr, hr]
    rw [this]
    refine ⟨_, ho', rfl, ?_⟩
    rw [← hput]
    exact hS.vput hA rfl hq (put_length _ _ _) (by rw [put_take (by omega), k4])
/-- A slice of no elements that is not nil. -/
theorem o_buildSlice0 {t e : TypeId} (ht : P.underlying t = some (.slice e)) (hs : sizeT P e = some sz) :
    OpR P w0 ρ ⟨d, .buildSlice t 0 #[], ty, pos, af, g⟩ H (fun v H' => ∃ b, H b = none ∧ v = .slice (some ⟨b, 0, none⟩) 0 0 ∧ H' = H.set b ⟨[], 0, e⟩) := by
  intro w ho
  have : (execOp ρ ⟨d, .buildSlice t 0 #[], ty, pos, af, g⟩).run P w = .ok (.value (.slice (some ⟨w.heap.size, 0, none⟩) 0 0)) (w.alloc (.cells #[] e (0, 0))) := by
    simp [execOp, Instr.buildSlice, run_underlying ht, run_sizeT hs, Instr.fill, newRow]
    rw [show (Array.map (fun _ => (default : Value)) (Array.range 0)) = #[] from Array.eq_empty_of_size_eq_zero (by rw [Array.size_map, Array.size_range])]
  rw [this]
  exact ⟨_, ho.alloc [] _ rfl e (0, 0) (.inl rfl), w.heap.size, ho.fresh, rfl, rfl⟩
theorem s_buildSlice0 {t e : TypeId} (hS : Sep H0 L H) (ht : P.underlying t = some (.slice e)) (hs : sizeT P e = some sz) :
    OpR P w0 ρ ⟨d, .buildSlice t 0 #[], ty, pos, af, g⟩ H (fun u H' => Sep H0 (.vec u e sz 0 [] :: L) H') :=
  (o_buildSlice0 ht hs).mono (by
    rintro _ _ ⟨b, hb, rfl, rfl⟩
    exact (hS.new hb).asVec (by simp) (by simp) (Nat.le_refl _) (by simp) (by unfold maxLen; omega))
/-- A slice held against nil. -/
theorem equal_sliceN {t e : TypeId} (ht : P.underlying t = some (.slice e)) (a : Option Addr) (n c : Nat) (w : World) : (Op.equal t (.slice a n c) (.slice none 0 0)).run P w = .ok a.isNone w := by
  have : ∀ dd, (Op.equalIn (dd + 1) t (.slice a n c) (.slice none 0 0)).run P w = .ok a.isNone w := fun dd => by
    cases a <;> simp only [Op.equalIn, Sem.run_bind, run_underlying ht, Result.andThen_ok, Sem.run_pure] <;> rfl
  exact this 9999
theorem q_eqlSN {xt yt e : TypeId} {x y : Operand} {a : Option Addr} {n c : Nat} (ht : P.underlying xt = some (.slice e)) (hx : ρ x = .slice a n c) (hy : ρ y = .slice none 0 0) : QS P w0 ρ ⟨d, .binOp .eql xt x y yt, ty, pos, af, g⟩ H (.bool a.isNone) :=
  QS.of_run fun w ho => by
    have h1 : (eqGuard .eql xt x y (.slice a n c) (.slice none 0 0)).run P w = .ok () w := rfl
    have h2 : (binOp .eql xt (.slice a n c) (.slice none 0 0)).run P w = .ok (.bool a.isNone) w := by
      simp only [binOp, Sem.run_bind, equal_sliceN ht, Result.andThen_ok, Sem.run_pure]
    simp only [execOp, hx, hy, Sem.run_bind, h1, h2, Result.andThen_ok, Sem.run_pure]
theorem q_eqlSV {xt yt e el : TypeId} {x y : Operand} {v : Value} {n : Nat} {cs : List Value} (hV : Vec H el sz v n cs) (hn : 0 < n) (ht : P.underlying xt = some (.slice e)) (hx : ρ x = v) (hy : ρ y = .slice none 0 0) : QS P w0 ρ ⟨d, .binOp .eql xt x y yt, ty, pos, af, g⟩ H (.bool false) := by
  obtain ⟨b, cap, q, rfl, _⟩ := hV.opened hn
  exact q_eqlSN ht hx hy
/-- The first piece alone; the others are known of the rest. -/
theorem Sep.framed0 {c : Chunk} (h : Sep H0 (c :: L) H) : ∃ Hf : Hp, Sep H0 L Hf ∧ Sep Hf [c] H ∧ ∀ (c' : Chunk) (H' : Hp), Sep Hf [c'] H' → Sep H0 (c' :: L) H' := by
  obtain ⟨h1, h2, a, l1, l2, d, r⟩ := h
  refine ⟨h2, r, ⟨h1, h2, a, l1, l2, d, Hp.le_refl _⟩, fun c' H' ⟨g1, g2, ga, m1, m2, gd, gr⟩ => ⟨g1, g2, ga, m1, m2, gd, ?_⟩⟩
  exact Sep.mono r gr
end
end Go.Proofs.Ytfiojlmccflplaa.D
