/-
  A walk's rules: lists of numbers in memory, slices, append. No condition.
-/
import Derived.Test.YtfiojlmccflplaaD5
namespace Go.Proofs.Ytfiojlmccflplaa.D
open Go Go.RowKit
set_option linter.unusedVariables false
set_option linter.unusedSimpArgs false

/-- Cells that hold whole numbers of a kind. -/
def nums (k : IntKind) (xs : List Int) : List Value := xs.map fun x => .int k x
theorem nums_length (k : IntKind) (xs : List Int) : (nums k xs).length = xs.length := by simp [nums]
theorem nums_append (k : IntKind) (xs ys : List Int) : nums k (xs ++ ys) = nums k xs ++ nums k ys := by simp [nums]
theorem nums_take (k : IntKind) (xs : List Int) (n : Nat) : (nums k xs).take n = nums k (xs.take n) := by simp [nums, List.map_take]
theorem nums_drop (k : IntKind) (xs : List Int) (n : Nat) : (nums k xs).drop n = nums k (xs.drop n) := by simp [nums, List.map_drop]
theorem nums_get (k : IntKind) (xs : List Int) {n : Nat} (h : n < xs.length) : (nums k xs)[n]? = some (.int k (xs.getD n 0)) := by
  simp [nums, List.getElem?_eq_getElem h]
theorem nums_set (k : IntKind) (xs : List Int) (n : Nat) (x : Int) : (nums k xs).set n (.int k x) = nums k (xs.set n x) := by simp [nums, List.map_set]
theorem nums_one (k : IntKind) (xs : List Int) : ∀ v ∈ nums k xs, v.oneCell' = true := by
  intro v hv
  simp only [nums, List.mem_map] at hv
  obtain ⟨x, _, rfl⟩ := hv
  rfl
def ofB (l : List UInt8) : List Int := l.map fun c => (c.toNat : Int)
def toB (xs : List Int) : List UInt8 := xs.map fun n => UInt8.ofNat n.toNat
theorem ofB_length (l : List UInt8) : (ofB l).length = l.length := by simp [ofB]
theorem toB_length (l : List Int) : (toB l).length = l.length := by simp [toB]
theorem toB_ofB (l : List UInt8) : toB (ofB l) = l := by
  simp only [toB, ofB, List.map_map]
  conv => rhs; rw [← List.map_id l]
  refine List.map_congr_left fun c _ => ?_
  simp
theorem ofB_getD (l : List UInt8) (i : Nat) : (ofB l).getD i 0 = bt l i := by
  simp only [ofB, bt, List.getD_eq_getElem?_getD, List.getElem?_map]
  cases l[i]? <;> simp

section
variable {P : Program} {w0 : World} {ρ : Operand → Value} {H : Hp} {d : Option Tmp} {ty : TypeId} {pos : String} {af : Array Edge} {g : Option (Nat × Bool)}

/-! ### storing behind the known cells -/
theorem Own.forget {w : World} {b : Nat} {o : Blk} (h : Own w0 H w) (hb : H b = some o) (m : Nat) : Own w0 (H.set b { o with cells := o.cells.take m }) w :=
  ⟨h.below, fun b' o' hb' => by
    by_cases e : b' = b
    · subst e
      rw [Hp.set_self] at hb'
      obtain rfl := Option.some.inj hb'
      obtain ⟨h1, ⟨e, c, fr, he, h2, h3, h4, h5, h6⟩ | ⟨m1, m2⟩⟩ := h.fits b' o hb
      · refine ⟨h1, .inl ⟨e, c, fr, he, h2, h3, by simp; omega, h5, fun j v hv => h6 j v ?_⟩⟩
        simp only [List.getElem?_take] at hv
        split at hv
        · exact hv
        · cases hv
      · exact ⟨h1, .inr ⟨by simp [m1], m2⟩⟩
    · rw [Hp.set_ne e] at hb'
      exact h.fits b' o' hb'⟩
theorem Hp.set_set {H : Hp} {b : Nat} {o o' : Blk} : (H.set b o).set b o' = H.set b o' := by
  funext c; simp only [Hp.set]; split <;> rfl
theorem Own.at {w : World} {b j : Nat} {o : Blk} (h : Own w0 H w) (hb : H b = some o) (hj : j < o.size) : ∃ v, w.cell? ⟨b, j, none⟩ = some v := by
  obtain ⟨_, ⟨e, c, fr, he, hc, hs, _⟩ | ⟨_, m2, _⟩⟩ := h.fits b o hb
  · have : j < c.size := by omega
    exact ⟨c[j], by simp [World.cell?, hc, this]⟩
  · omega
theorem Own.pushCell {w : World} {b : Nat} {o : Blk} (h : Own w0 H w) (hb : H b = some o) (hl : o.cells.length < o.size) (v : Value) :
    Own w0 (H.set b { o with cells := o.cells ++ [v] }) (w.setCell ⟨b, o.cells.length, none⟩ v) := by
  have hbb := h.fits b o hb
  refine ⟨h.below.setCell hbb.1 v, fun b' o' hb' => ?_⟩
  by_cases hbe : b' = b
  · subst hbe
    rw [Hp.set_self] at hb'
    obtain rfl := Option.some.inj hb'
    obtain ⟨hle, ⟨e, c, fr, he, hc, hs, hl', hfr, hcs⟩ | ⟨_, m2, _⟩⟩ := hbb
    rotate_left
    · omega
    refine ⟨hle, .inl ⟨e, c.setIfInBounds o.cells.length v, fr, he, setCell_at w b' _ v hc, by simpa using hs, by simp; omega, hfr, ?_⟩⟩
    intro i u hu
    simp only at hu
    by_cases hij : i = o.cells.length
    · subst hij
      have : o.cells.length < c.size := by omega
      simp at hu; subst hu
      simp [this]
    · have hlt : i < o.cells.length := by
        have := (List.getElem?_eq_some_iff.1 hu).1
        simp at this; omega
      rw [List.getElem?_append_left hlt] at hu
      rw [Array.getElem?_setIfInBounds_ne (Ne.symm hij)]
      exact hcs i u hu
  · rw [Hp.set_ne hbe] at hb'
    have := h.fits b' o' hb'
    exact ⟨this.1, this.2.of_eq (heap_setCell_other w ⟨b, _, none⟩ b' v hbe)⟩
theorem Own.cong {H H' : Hp} {w : World} (h : Own w0 H w) (e : ∀ b, H' b = H b) : Own w0 H' w := ⟨h.below, fun b o hb => h.fits b o ((e b).symm.trans hb)⟩
theorem Own.pushCells (vs : List Value) : ∀ {w : World} {H : Hp} {b j i : Nat} {o : Blk} (h : Own w0 H w) (hb : H b = some o) (hj : j + i = o.cells.length) (hl : o.cells.length + vs.length ≤ o.size) (h1 : ∀ v ∈ vs, v.oneCell' = true),
    ∃ w', (Go.storeCells ⟨b, j, none⟩ vs i).run P w = .ok () w' ∧ Own w0 (H.set b { o with cells := o.cells ++ vs }) w' := by
  induction vs with
  | nil =>
    intro w H b j i o h hb _ _ _
    refine ⟨w, rfl, h.cong fun c => ?_⟩
    by_cases e : c = b
    · subst e; rw [Hp.set_self, hb]; simp
    · rw [Hp.set_ne e]
  | cons v vs ih =>
    intro w H b j i o h hb hj hl h1
    simp only [List.length_cons] at hl
    obtain ⟨u, hc⟩ := h.at (j := o.cells.length) hb (by omega)
    have hf := h.frozen (j := o.cells.length) hb (by omega)
    have h2 := h.pushCell hb (by omega) v
    have hl2 : ({ o with cells := o.cells ++ [v] } : Blk).cells.length + vs.length ≤ ({ o with cells := o.cells ++ [v] } : Blk).size := by simp; omega
    obtain ⟨w', hr, ho⟩ := ih (j := j) (i := i + 1) h2 Hp.set_self (by simp; omega) hl2 (fun u hu => h1 u (List.mem_cons_of_mem _ hu))
    refine ⟨w', ?_, ?_⟩
    · simp only [Go.storeCells, Sem.run_bind, Addr.add0, hj, run_store P w _ v .plain (h1 v (List.mem_cons_self ..)), hc, hf]
      simpa using hr
    · rw [Hp.set_set] at ho
      simpa using ho

/-! ### what is appended or copied -/
def Src (P : Program) (w0 : World) (H : Hp) (size : Nat) (x : Value) (m : Nat) (news : List Value) : Prop :=
  news.length = m * size ∧ (∀ v ∈ news, v.oneCell' = true) ∧ ∀ w, Own w0 H w → (Builtin.lenOf x).run P w = .ok m w ∧ ∀ k, k ≤ m → (Builtin.firstCells size k x).run P w = .ok (news.take (k * size)).toArray w
theorem src_nil {size : Nat} : Src P w0 H size (.slice none 0 0) 0 [] := ⟨by simp, by simp, fun w _ => ⟨rfl, fun k hk => by
  obtain rfl : k = 0 := by omega
  simp [Builtin.firstCells]⟩⟩
theorem src_str {l : List UInt8} : Src P w0 H 1 (S l) l.length (nums .u8 (ofB l)) := by
  refine ⟨by simp [nums_length, ofB_length], nums_one _ _, fun w _ => ⟨rfl, fun k hk => ?_⟩⟩
  simp only [Builtin.firstCells, Sem.run_pure, str_extract, List.drop_zero, Nat.mul_one]
  simp [str, nums, ofB, List.map_take]
  rfl
theorem src_blk {size : Nat} {b o n c : Nat} {q : Blk} {news : List Value} (hb : H b = some q) (hn : news.length = n * size) (h1 : ∀ v ∈ news, v.oneCell' = true) (hv : ∀ (i : Nat) v, news[i]? = some v → q.cells[o + i]? = some v) :
    Src P w0 H size (.slice (some ⟨b, o, none⟩) n c) n news := by
  refine ⟨hn, h1, fun w ho => ⟨rfl, fun k hk => ?_⟩⟩
  have hle : k * size ≤ n * size := Nat.mul_le_mul_right _ hk
  refine run_loadCells_own ho hb (by rw [List.length_take, hn]; omega) fun i v hi => ?_
  rw [List.getElem?_take] at hi
  split at hi
  · exact hv i v hi
  · cases hi
theorem src_out {size : Nat} {ad : Addr} {n c : Nat} {news : List Value} (hn : news.length = n * size) (h1 : ∀ v ∈ news, v.oneCell' = true) (hv : ∀ (i : Nat) v, news[i]? = some v → w0.cell? (ad.add i) = some v) :
    Src P w0 H size (.slice (some ad) n c) n news := by
  refine ⟨hn, h1, fun w ho => ⟨rfl, fun k hk => ?_⟩⟩
  have hle : k * size ≤ n * size := Nat.mul_le_mul_right _ hk
  have hlen : (news.take (k * size)).length = k * size := by rw [List.length_take, hn]; omega
  have := run_loadCells_list (P := P) w ad (news.take (k * size)) fun i v hi => by
    rw [List.getElem?_take] at hi
    split at hi
    · have h := hv i v hi; exact (ho.below.cell (World.block_lt_of_cell? w0 _ h)).trans h
    · cases hi
  simp only [Builtin.firstCells]
  rw [hlen] at this
  exact this

def srcT (P : Program) (t : TypeId) : Bool := match P.underlying t with
  | some .string | some (.slice _) => true
  | _ => false
theorem srcT_or {t : TypeId} (h : srcT P t = true) : P.underlying t = some .string ∨ ∃ e, P.underlying t = some (.slice e) := by
  unfold srcT at h
  split at h
  · exact .inl ‹_›
  · exact .inr ⟨_, ‹_›⟩
  · cases h
def bytesT (P : Program) (t : TypeId) : Option Nat := (P.info? t).map (·.bytes)
theorem info_of {e : TypeId} {sz by_ : Nat} (hs : sizeT P e = some sz) (hb : bytesT P e = some by_) : ∃ i, P.info? e = some i ∧ i.size = sz ∧ i.bytes = by_ := by
  unfold sizeT at hs; unfold bytesT at hb
  cases hi : P.info? e with
  | none => simp [hi] at hs
  | some i => simp [hi] at hs hb; exact ⟨i, rfl, hs, hb⟩

/-- A slice of the call's own that may grow: nil, or at the head of a block. -/
def Vec (H : Hp) (e : TypeId) (sz : Nat) (v : Value) (n : Nat) (cs : List Value) : Prop :=
  (v = .slice none 0 0 ∧ n = 0 ∧ cs = []) ∨ ∃ b cap q, v = .slice (some ⟨b, 0, none⟩) n cap ∧ H b = some q ∧ q.elem = e ∧ q.cells.take (n * sz) = cs ∧ cs.length = n * sz ∧ n ≤ cap ∧ cap * sz ≤ q.size ∧ cap ≤ maxLen
def vblock : Value → Option Nat
  | .slice (some a) _ _ => some a.block
  | _ => none
/-- v' is where v grew to, from what H owned. -/
def Grew (H : Hp) (e : TypeId) (sz : Nat) (v : Value) (n : Nat) (cs : List Value) (v' : Value) (H' : Hp) : Prop :=
  (v' = .slice none 0 0 ∧ v = v' ∧ n = 0 ∧ cs = [] ∧ H' = H) ∨
  ∃ b cap q, v' = .slice (some ⟨b, 0, none⟩) n cap ∧ (vblock v = some b ∨ H b = none) ∧ H' = H.set b q ∧ q = ⟨cs, q.size, e⟩ ∧ cs.length = n * sz ∧ n ≤ cap ∧ cap * sz ≤ q.size ∧ cap ≤ maxLen
theorem Grew.vec {H : Hp} {e : TypeId} {sz : Nat} {v : Value} {n : Nat} {cs : List Value} {v' : Value} {H' : Hp} (h : Grew H e sz v n cs v' H') : Vec H' e sz v' n cs := by
  rcases h with ⟨h1, h2, h3, h4, h5⟩ | ⟨b, cap, q, h1, h2, h3, h4, h5, h6, h7, h8⟩
  · exact .inl ⟨h1, h3, h4⟩
  · refine .inr ⟨b, cap, q, h1, by rw [h3, Hp.set_self], by rw [h4], ?_, h5, h6, h7, h8⟩
    rw [h4, ← h5]; exact List.take_length
theorem Grew.old {H : Hp} {e : TypeId} {sz : Nat} {v : Value} {n : Nat} {cs : List Value} {v' : Value} {H' : Hp} (h : Grew H e sz v n cs v' H') {c : Nat} {o : Blk} (hc : H c = some o) (hv : vblock v ≠ some c) : H' c = some o := by
  rcases h with ⟨h1, h2, h3, h4, h5⟩ | ⟨b, cap, q, h1, h2, h3, h4, h5, h6, h7, h8⟩
  · rw [h5]; exact hc
  · rw [h3, Hp.set_ne]
    · exact hc
    · rintro rfl
      rcases h2 with h2 | h2
      · exact hv h2
      · rw [h2] at hc; cases hc

theorem o_append {t t2 e : TypeId} {sz by_ : Nat} {z : Value} {x y : Operand} {v u : Value} {n m : Nat} {cs news : List Value} (ht : P.underlying t = some (.slice e)) (hs : sizeT P e = some sz) (hb : bytesT P e = some by_)
    (hz : zeroT P e = some z) (hzs : z.cells.size = sz) (ht2 : srcT P t2 = true) (hx : ρ x = v) (hy : ρ y = u) (hv : Vec H e sz v n cs) (hu : Src P w0 H sz u m news)
    (h63 : n + m ≤ maxLen) (hbytes : (n + m) * by_ ≤ 140737488355328) :
    OpR P w0 ρ ⟨d, .call { callee := .builtin .append, args := #[x, y], argTypes := #[t, t2] }, ty, pos, af, g⟩ H (Grew H e sz v (n + m) (cs ++ news)) := by
  obtain ⟨i, hi, rfl, rfl⟩ := info_of hs hb
  have hzi : i.zero = some z := by simpa [zeroT, hi] using hz
  obtain ⟨hnl, hn1, hu⟩ := hu
  have hsmall : n + m ≤ 9223372036854775807 := by simp only [maxLen] at h63; omega
  have hor := srcT_or ht2
  -- growing into a new block
  have grow : ∀ (old : Nat) (w : World), Own w0 H w → old < n + m → v = .slice none 0 0 ∧ old = 0 ∨ (∃ a, v = .slice (some a) n old) → (Builtin.firstCells i.size n v).run P w.drew = .ok cs.toArray w.drew → (∃ a, v = .slice a n old) → cs.length = n * i.size →
      ∃ v' w' H', (Builtin.append_ #[t, t2] ty #[v, u]).run P w = .ok v' w' ∧ Own w0 H' w' ∧ Grew H e i.size v (n + m) (cs ++ news) v' H' := by
    intro old w ho hold _ hfc ⟨a, hva⟩ hcl
    have hge := grownCap_ge w (n + m) old e
    have hcm : grownCap w (n + m) old e ≤ maxLen := grownCap_le_maxLen w (n + m) old e h63
    have hfit := growslice_fits hold hbytes
    obtain ⟨hl, hf⟩ := hu w ho
    obtain ⟨hl', hf'⟩ := hu w.drew ho.drew
    have hnew := hf' m (Nat.le_refl _)
    rw [List.take_of_length_le (by omega)] at hnew
    let cells : Array Value := cs.toArray ++ news.toArray ++ Builtin.zeroCells z.cells (grownCap w (n + m) old e - (n + m))
    have hsz : cells.size = grownCap w (n + m) old e * i.size := by
      simp only [cells, Array.size_append, List.size_toArray, size_zeroCells, hzs, hcl, hnl, ← Nat.add_mul]
      congr 1; omega
    refine ⟨.slice (some ⟨w.heap.size, 0, none⟩) (n + m) (grownCap w (n + m) old e), w.drew.alloc (.cells cells e), H.set w.heap.size ⟨cs ++ news, grownCap w (n + m) old e * i.size, e⟩, ?_, ?_, ?_⟩
    · have hno : ¬ (n + m ≤ old) := by omega
      have h64 : ¬ ((n + m : Nat) : Int) > IntKind.i64.max := by simp only [IntKind.max, IntKind.signed, IntKind.bits, if_true]; omega
      have h48 : ¬ Builtin.nextslicecap (n + m) old * i.bytes > 2 ^ 48 := by omega
      subst hva
      have h63' : ¬ (9223372036854775807 < ((n : Int) + (m : Int))) := by omega
      have h48' : ¬ (281474976710656 < Builtin.nextslicecap (n + m) old * i.bytes) := by omega
      rcases hor with hu2 | ⟨e2, hu2⟩ <;>
        simp [Builtin.append_, run_underlying ht, run_underlying hu2, sizeOf, typeInfo, zeroValue, hi, hzi, hl, hno, h63', h48', Question.forced, hfc, hnew, newRow, grownCap, cells]
    · have ha := ho.drew.alloc cells.toList cells (by simp) e (0, 0) (.inl rfl)
      have hsz' : w.drew.heap.size = w.heap.size := rfl
      rw [hsz'] at ha
      have hlen : cells.toList.length = grownCap w (n + m) old e * i.size := by simpa using hsz
      have hf := ha.forget (b := w.heap.size) (m := (n + m) * i.size) (by rw [Hp.set_self])
      rw [Hp.set_set] at hf
      have htake : cells.toList.take ((n + m) * i.size) = cs ++ news := by
        simp only [cells, Array.toList_append]
        exact List.take_left' (by simp [hcl, hnl, Nat.add_mul])
      simp only [htake, hlen] at hf
      exact hf
    · refine .inr ⟨w.heap.size, grownCap w (n + m) old e, ⟨cs ++ news, grownCap w (n + m) old e * i.size, e⟩, rfl, .inr ho.fresh, rfl, rfl, by simp [hcl, hnl, Nat.add_mul], hge, Nat.le_refl _, hcm⟩
  refine fun w ho => ?_
  have fin : (∃ v' w' H', (Builtin.append_ #[t, t2] ty #[v, u]).run P w = .ok v' w' ∧ Own w0 H' w' ∧ Grew H e i.size v (n + m) (cs ++ news) v' H') →
      Res P w0 (Grew H e i.size v (n + m) (cs ++ news)) ((execOp ρ ⟨d, .call { callee := .builtin .append, args := #[x, y], argTypes := #[t, t2] }, ty, pos, af, g⟩).run P w) := by
    rintro ⟨v', w', H', h1, h2, h3⟩
    have : (execOp ρ ⟨d, .call { callee := .builtin .append, args := #[x, y], argTypes := #[t, t2] }, ty, pos, af, g⟩).run P w = .ok (.value v') w' := by
      simp [execOp, resolve, invoke, builtin, hx, hy, h1]
    rw [this]
    exact ⟨H', h2, h3⟩
  refine fin ?_
  rcases hv with ⟨rfl, rfl, rfl⟩ | ⟨b, cap, q, rfl, hbq, hqe, htake, hcl, hnc, hcs, hcm⟩
  · by_cases hm : m = 0
    · subst hm
      obtain rfl : news = [] := List.eq_nil_of_length_eq_zero (by simpa using hnl)
      obtain ⟨hl, hf⟩ := hu w ho
      have hnew := hf 0 (Nat.le_refl _)
      refine ⟨.slice none 0 0, w, H, ?_, ho, .inl ⟨rfl, rfl, rfl, rfl, rfl⟩⟩
      rcases hor with hu2 | ⟨e2, hu2⟩ <;>
        simp [Builtin.append_, run_underlying ht, run_underlying hu2, sizeOf, typeInfo, hi, hl, hnew]
    · exact grow 0 w ho (by omega) (.inl ⟨rfl, rfl⟩) (by simp [Builtin.firstCells]) ⟨none, rfl⟩ (by simp)
  · by_cases hroom : n + m ≤ cap
    · obtain ⟨hl, hf⟩ := hu w ho
      have hnew := hf m (Nat.le_refl _)
      rw [List.take_of_length_le (by omega)] at hnew
      have hfg := ho.forget hbq (n * i.size)
      simp only [htake] at hfg
      have hle : (n + m) * i.size ≤ cap * i.size := Nat.mul_le_mul_right _ hroom
      have hadd : (n + m) * i.size = n * i.size + m * i.size := Nat.add_mul ..
      obtain ⟨w', hr, ho'⟩ := hfg.pushCells (P := P) (j := n * i.size) (i := 0) news Hp.set_self (by simp [hcl]) (by simp only [hcl, hnl]; omega) hn1
      rw [Hp.set_set] at ho'
      refine ⟨.slice (some ⟨b, 0, none⟩) (n + m) cap, w', _, ?_, ho', .inr ⟨b, cap, _, rfl, .inl rfl, rfl, by rw [← hqe], by simp [hcl, hnl, Nat.add_mul], hroom, hcs, hcm⟩⟩
      rcases hor with hu2 | ⟨e2, hu2⟩ <;>
        simp [Builtin.append_, run_underlying ht, run_underlying hu2, sizeOf, typeInfo, hi, hl, hroom, hnew, Addr.add0, hr]
    · refine grow cap w ho (by omega) (.inr ⟨_, rfl⟩) ?_ ⟨_, rfl⟩ hcl
      refine run_loadCells_own ho.drew hbq hcl fun j u hj => ?_
      rw [← htake, List.getElem?_take] at hj
      split at hj
      · simpa using hj
      · cases hj
end
end Go.Proofs.Ytfiojlmccflplaa.D
