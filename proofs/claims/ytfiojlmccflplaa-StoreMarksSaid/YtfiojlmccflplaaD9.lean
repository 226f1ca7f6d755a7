/-
  A walk's rules: slices that grow beside other blocks. No condition.
-/
import Derived.Test.YtfiojlmccflplaaD8
/-! Slices that grow, beside other blocks. -/
namespace Go.Proofs.Ytfiojlmccflplaa.D
open Go Go.RowKit
set_option linter.unusedVariables false
set_option linter.unusedSimpArgs false
abbrev nilV : Value := .slice none 0 0
section
variable {P : Program} {w0 : World} {n : Nat} {H H0 : Hp} {ops : Array Oper} {Q : Post} {e : Env} {l : List Oper} {el : TypeId} {sz : Nat}

theorem Hp.le_trans {H H1 H2 : Hp} (h : H.le H1) (k : H1.le H2) : H.le H2 := fun b o hb => k b o (h b o hb)
theorem OpsW.forget {H2 : Hp} (hl : H.le H2) (h : OpsW P w0 n ops Q l e H) : OpsW P w0 n ops Q l e H2 := fun a w hf ho => h a w hf (ho.drop hl)
theorem AW.forget {c : Code} {H2 : Hp} (hl : H.le H2) (h : AW P w0 n c Q e H) : AW P w0 n c Q e H2 := fun a w hf ho => h a w hf (ho.drop hl)
theorem Vec.le {v : Value} {m : Nat} {cs : List Value} {H2 : Hp} (h : Vec H el sz v m cs) (hl : H.le H2) : Vec H2 el sz v m cs := by
  rcases h with h | ⟨b, cap, q, h1, h2, h3⟩
  · exact .inl h
  · exact .inr ⟨b, cap, q, h1, hl b q h2, h3⟩
theorem Grew.nil : Grew H el sz nilV 0 [] nilV H := .inl ⟨rfl, rfl, rfl, rfl, rfl⟩
theorem Grew.le {v : Value} {m : Nat} {cs : List Value} (h : Grew H0 el sz nilV m cs v H) : H0.le H := by
  rcases h with ⟨_, _, _, _, h⟩ | ⟨b, cap, q, h1, h2, h3, _⟩
  · rw [h]; exact Hp.le_refl _
  · rw [h3]; exact Hp.le_set (h2.resolve_left (by simp [vblock])) (Hp.le_refl _)
theorem Grew.step {v v' : Value} {m m' : Nat} {cs cs' : List Value} {Hc H2 : Hp} (hG : Grew H0 el sz nilV m cs v H) (hle : H.le Hc) (h2 : Grew Hc el sz v m' cs' v' H2) :
    ∃ H3 : Hp, H3.le H2 ∧ Grew H0 el sz nilV m' cs' v' H3 := by
  have h0c : H0.le Hc := Hp.le_trans hG.le hle
  rcases h2 with ⟨g1, g2, g3, g4, g5⟩ | ⟨b', cap', q', g1, g2, g3, g4⟩
  · subst g5
    exact ⟨H0, h0c, .inl ⟨g1, g1.symm, g3, g4, rfl⟩⟩
  · have hb' : H0 b' = none := by
      rcases g2 with g2 | g2
      · rcases hG with ⟨k1, _⟩ | ⟨b, cap, q, k1, k2, k3, _⟩
        · rw [k1] at g2; simp [vblock] at g2
        · rw [k1] at g2
          simp [vblock] at g2
          subst g2
          exact k2.resolve_left (by simp [vblock])
      · exact Hp.le_none h0c g2
    refine ⟨H0.set b' q', ?_, .inr ⟨b', cap', q', g1, .inr hb', rfl, g4⟩⟩
    rw [g3]
    intro c o hc
    by_cases e : c = b'
    · subst e; rw [Hp.set_self] at hc ⊢; exact hc
    · rw [Hp.set_ne e] at hc ⊢; exact h0c c o hc
theorem Grew.old0 {v : Value} {m : Nat} {cs : List Value} (h : Grew H0 el sz nilV m cs v H) {c : Nat} {o : Blk} (hc : H0 c = some o) : H c = some o := h.le c o hc
/-- A block of the state below is written while the slice stands. -/
theorem Grew.set {v : Value} {m : Nat} {cs : List Value} (h : Grew H0 el sz nilV m cs v H) {c : Nat} {o o' : Blk} (hc : H0 c = some o) : Grew (H0.set c o') el sz nilV m cs v (H.set c o') := by
  rcases h with ⟨h1, h2, h3, h4, rfl⟩ | ⟨b, cap, q, h1, h2, rfl, h4⟩
  · exact .inl ⟨h1, h2, h3, h4, rfl⟩
  · have hb : H0 b = none := h2.resolve_left (by simp [vblock])
    have hne : b ≠ c := Hp.ne_of hb hc
    exact .inr ⟨b, cap, q, h1, .inr (by rw [Hp.set_ne hne]; exact hb), Hp.set_comm hne, h4⟩
theorem Grew.cast {v v0 : Value} {m m' : Nat} {cs cs' : List Value} (h : Grew H0 el sz v0 m cs v H) (hm : m = m') (hc : cs = cs') : Grew H0 el sz v0 m' cs' v H := by subst hm; subst hc; exact h
/-- A slice that is not nil lies in one block. -/
theorem Grew.block {v : Value} {m : Nat} {cs : List Value} (h : Grew H0 el sz nilV m cs v H) (hm : 0 < m) : ∃ b cap s, v = .slice (some ⟨b, 0, none⟩) m cap ∧ H0 b = none ∧ H = H0.set b ⟨cs, s, el⟩ := by
  rcases h with ⟨h1, h2, h3, h4, rfl⟩ | ⟨b, cap, q, h1, h2, h3, h4, _⟩
  · omega
  · exact ⟨b, cap, q.size, h1, h2.resolve_left (by simp [vblock]), by rw [h3, h4]⟩

theorem Grew.made {b m : Nat} {cs : List Value} (hb : H b = none) (hl : cs.length = m) (hm : m ≤ 16777216) : Grew H el 1 nilV m cs (.slice (some ⟨b, 0, none⟩) m m) (H.set b ⟨cs, m, el⟩) :=
  .inr ⟨b, m, _, rfl, .inr hb, rfl, rfl, by omega, Nat.le_refl _, by show m * 1 ≤ m; omega, by unfold maxLen; omega⟩
theorem nums_snoc (k : IntKind) (xs : List Int) (x : Int) : nums k xs ++ [.int k x] = nums k (xs ++ [x]) := by simp [nums]
theorem bt_drop (l : List UInt8) (m j : Nat) : bt (l.drop m) j = bt l (m + j) := by simp [bt, List.getElem?_drop]
def ones (vs : List Value) : Bool := vs.all Value.oneCell'
theorem ones_all {vs : List Value} (h : ones vs = true) : ∀ v ∈ vs, v.oneCell' = true := fun v hv => by
  simp only [ones, List.all_eq_true] at h; exact h v hv
theorem src_lit {b m c s : Nat} {vs : List Value} {el : TypeId} (hb : H b = some ⟨vs, s, el⟩) (hm : vs.length = m) (h1 : ∀ v ∈ vs, v.oneCell' = true) : Src P w0 H 1 (.slice (some ⟨b, 0, none⟩) m c) m vs :=
  src_blk hb (by omega) h1 (by simp)
theorem src_vec {v : Value} {m : Nat} {cs : List Value} (h : Vec H el sz v m cs) (h1 : ∀ v ∈ cs, v.oneCell' = true) : Src P w0 H sz v m cs := by
  rcases h with ⟨rfl, rfl, rfl⟩ | ⟨b, cap, q, rfl, hb, he, ht, hl, _⟩
  · exact src_nil
  · refine src_blk hb hl h1 fun i v hi => ?_
    rw [← ht, List.getElem?_take] at hi
    split at hi
    · simpa using hi
    · cases hi
theorem Vec.len {v : Value} {m : Nat} {cs : List Value} (h : Vec H el sz v m cs) : cs.length = m * sz := by
  rcases h with ⟨_, rfl, rfl⟩ | ⟨b, cap, q, _, _, _, _, hl, _⟩
  · simp
  · exact hl
theorem Vec.slice {v : Value} {m : Nat} {cs : List Value} (h : Vec H el sz v m cs) : ∃ a cap, v = .slice a m cap := by
  rcases h with ⟨rfl, rfl, _⟩ | ⟨b, cap, q, rfl, _⟩
  · exact ⟨_, _, rfl⟩
  · exact ⟨_, _, rfl⟩
theorem Hp.set_swap {H : Hp} {a b : Nat} {x x' y : Blk} (h : a ≠ b) : ((H.set a x).set b y).set a x' = (H.set a x').set b y := by
  funext c
  by_cases ha : c = a
  · subst ha; rw [Hp.set_self, Hp.set_ne h, Hp.set_self]
  · by_cases hb : c = b
    · subst hb; rw [Hp.set_ne ha, Hp.set_self, Hp.set_self]
    · rw [Hp.set_ne ha, Hp.set_ne hb, Hp.set_ne ha, Hp.set_ne hb, Hp.set_ne ha]
/-! Cells that were there before the call. -/
def adr (pa : Option Addr) (j : Nat) : Addr := (pa.getD ⟨0, 0, none⟩).add j
def CellsAt (w0 : World) (pa : Option Addr) (m : Nat) (f : Nat → Value) : Prop := (m = 0 ∨ ∃ a, pa = some a) ∧ ∀ j, j < m → w0.cell? (adr pa j) = some (f j)
variable {ρ : Operand → Value} {d : Option Tmp} {ty : TypeId} {pos : String} {af : Array Edge} {g : Option (Nat × Bool)}
theorem q_indexAddrO {t e : TypeId} {m c : Nat} {x i : Operand} {pa : Option Addr} {k : IntKind} {n : Int} {f : Nat → Value} (ht : P.underlying t = some (.slice e)) (hs : sizeT P e = some 1)
    (hx : ρ x = .slice pa m c) (hi : ρ i = .int k n) (h0 : 0 ≤ n) (h1 : n < m) (hA : CellsAt w0 pa m f) : QS P w0 ρ ⟨d, .indexAddr t x i, ty, pos, af, g⟩ H (.pointer (some (adr pa n.toNat))) := by
  obtain ⟨a, rfl⟩ := hA.1.resolve_left (by omega)
  exact QS.of_run fun w _ => by simp [execOp, Instr.indexAt, asIntOf, hx, hi, run_underlying ht, h0, h1, run_sizeT hs, adr]
theorem q_loadO {t : TypeId} {x : Operand} {pa : Option Addr} {m j : Nat} {f : Nat → Value} (ht : scalT P t = true) (hx : ρ x = .pointer (some (adr pa j))) (hA : CellsAt w0 pa m f) (hj : j < m) :
    QS P w0 ρ ⟨d, .load t x, ty, pos, af, g⟩ H (f j) :=
  QS.of_run fun w ho => by
    have hv := hA.2 j hj
    have : w.cell? (adr pa j) = some (f j) := (ho.below.cell (World.block_lt_of_cell? w0 _ hv)).trans hv
    simp [execOp, Instr.loadAt, Instr.sureAddr, hx, loadVar, run_isAgg_scal ht, this]
theorem bt_take (l : List UInt8) {k i : Nat} (h : i < k) : bt (l.take k) i = bt l i := by simp [bt, List.getElem?_take, h]
end
end Go.Proofs.Ytfiojlmccflplaa.D
