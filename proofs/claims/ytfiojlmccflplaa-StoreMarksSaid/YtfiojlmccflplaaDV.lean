/-
  A walk's rules: slices that lie beside other blocks, by what is known of them, not by where they lie. No condition.
-/
import Derived.Test.YtfiojlmccflplaaD9
namespace Go.Proofs.Ytfiojlmccflplaa.D
open Go Go.RowKit
set_option linter.unusedVariables false
set_option linter.unusedSimpArgs false
section
variable {P : Program} {w0 : World} {n : Nat} {H H' H0 : Hp} {ops : Array Oper} {Q : Post} {el : TypeId} {sz : Nat}

theorem Vec.keep {v : Value} {m : Nat} {cs : List Value} (h : Vec H el sz v m cs) (hk : ∀ c o, vblock v = some c → H c = some o → H' c = some o) : Vec H' el sz v m cs := by
  rcases h with h | ⟨b, cap, q, rfl, h2, h3⟩
  · exact .inl h
  · exact .inr ⟨b, cap, q, rfl, hk b q rfl h2, h3⟩
theorem Vec.set {v : Value} {m : Nat} {cs : List Value} (h : Vec H el sz v m cs) {b : Nat} {o : Blk} (hb : vblock v ≠ some b) : Vec (H.set b o) el sz v m cs :=
  h.keep fun c q hv hc => by
    have : c ≠ b := fun e => hb (e ▸ hv)
    rw [Hp.set_ne this]; exact hc
theorem Vec.owned {v : Value} {m : Nat} {cs : List Value} (h : Vec H el sz v m cs) {b : Nat} (hb : H b = none) : vblock v ≠ some b := by
  rcases h with ⟨rfl, _⟩ | ⟨b', cap, q, rfl, h2, _⟩
  · simp [vblock]
  · intro e
    simp [vblock] at e
    subst e
    rw [hb] at h2; cases h2
theorem Grew.keep {v v' : Value} {m : Nat} {cs : List Value} (h : Grew H el sz v m cs v' H') {c : Nat} {o : Blk} (hv : vblock v ≠ some c) (ho : H c = some o) : H' c = some o := by
  rcases h with ⟨_, _, _, _, rfl⟩ | ⟨b, cap, q, _, h2, rfl, _⟩
  · exact ho
  · have : c ≠ b := by
      rintro rfl
      rcases h2 with h2 | h2
      · exact hv h2
      · rw [h2] at ho; cases ho
    rw [Hp.set_ne this]; exact ho
theorem Grew.other {v v' : Value} {m : Nat} {cs : List Value} (h : Grew H el sz v m cs v' H') {u : Value} {k : Nat} {ds : List Value} {el2 : TypeId} {sz2 : Nat} (hu : Vec H el2 sz2 u k ds) (hv : ∀ c, vblock u = some c → vblock v ≠ some c) : Vec H' el2 sz2 u k ds :=
  hu.keep fun c o h1 h2 => h.keep (hv c h1) h2
theorem Grew.blk {v v' : Value} {m : Nat} {cs : List Value} (h : Grew H el sz v m cs v' H') {c : Nat} (hc : vblock v' = some c) : vblock v = some c ∨ H c = none := by
  rcases h with ⟨h1, h2, _⟩ | ⟨b, cap, q, h1, h2, _⟩
  · rw [h1] at hc; simp [vblock] at hc
  · rw [h1] at hc
    simp [vblock] at hc
    subst hc
    exact h2
theorem Grew.frame {v v' : Value} {m : Nat} {cs : List Value} (h : Grew H el sz v m cs v' H') (hle : H0.le H) (hv : ∀ c, vblock v = some c → H0 c = none) : H0.le H' ∧ ∀ c, vblock v' = some c → H0 c = none := by
  refine ⟨fun c o hc => h.keep (fun e => by rw [hv c e] at hc; cases hc) (hle c o hc), fun c hc => ?_⟩
  rcases h.blk hc with h1 | h1
  · exact hv c h1
  · cases h0 : H0 c with
    | none => rfl
    | some o => rw [hle c o h0] at h1; cases h1
theorem Grew.apart {v v' : Value} {m : Nat} {cs : List Value} (h : Grew H el sz v m cs v' H') {c : Nat} (hv : vblock v ≠ some c) {o : Blk} (ho : H c = some o) : vblock v' ≠ some c := by
  intro e
  rcases h.blk e with h1 | h1
  · exact hv h1
  · rw [ho] at h1; cases h1
theorem Hp.le_set_of {b : Nat} {o : Blk} (h : H0.le H) (hb : H0 b = none) : H0.le (H.set b o) := fun c q hc => by
  have : c ≠ b := by rintro rfl; rw [hb] at hc; cases hc
  rw [Hp.set_ne this]; exact h c q hc

/-- The first a elements. -/
def takeV (v : Value) (a : Nat) : Value := match v with
  | .slice p _ c => .slice p a c
  | v => v
theorem takeV_block (v : Value) (a : Nat) : vblock (takeV v a) = vblock v := by
  cases v <;> try rfl
  rename_i p m c
  cases p <;> rfl
theorem takeV_id {v : Value} {m : Nat} {cs : List Value} (h : Vec H el sz v m cs) : takeV v m = v := by
  rcases h with ⟨rfl, rfl, _⟩ | ⟨_, _, _, rfl, _⟩ <;> rfl
theorem Vec.take {v : Value} {m : Nat} {cs : List Value} (h : Vec H el sz v m cs) {a : Nat} (ha : a ≤ m) : Vec H el sz (takeV v a) a (cs.take (a * sz)) := by
  rcases h with ⟨rfl, rfl, rfl⟩ | ⟨b, cap, q, rfl, h2, h3, h4, h5, h6, h7⟩
  · obtain rfl : a = 0 := by omega
    exact .inl ⟨rfl, rfl, by simp⟩
  · refine .inr ⟨b, cap, q, rfl, h2, h3, ?_, ?_, by omega, h7⟩
    · rw [← h4, List.take_take]
      congr 1
      exact (Nat.min_eq_left (Nat.mul_le_mul_right _ ha)).symm
    · rw [List.length_take, h5]
      exact Nat.min_eq_left (Nat.mul_le_mul_right _ ha)
theorem Vec.one {m : Nat} {v : Value} {cs : List Value} (h : Vec H el sz v m cs) : v.oneCell' = true := by
  rcases h with ⟨rfl, _⟩ | ⟨_, _, _, rfl, _⟩ <;> rfl
theorem Vec.takeOne {m k : Nat} {v : Value} {cs : List Value} (h : Vec H el sz v m cs) : (takeV v k).oneCell' = true := by
  rcases h with ⟨rfl, _⟩ | ⟨_, _, _, rfl, _⟩ <;> rfl
/-- One element of a slice is written. -/
theorem Vec.put {bk cap k j : Nat} {q : Blk} {cs : List Value} {x : Value} (hv : Vec H el 1 (.slice (some ⟨bk, 0, none⟩) k cap) k cs) (hb : H bk = some q) (hj : j < k) :
    Vec (H.set bk { q with cells := q.cells.set j x }) el 1 (.slice (some ⟨bk, 0, none⟩) k cap) k (cs.set j x) := by
  rcases hv with ⟨h, _⟩ | ⟨b', cap', q', h1, h2, h3, h4, h5, h6, h7, h8⟩
  · cases h
  · cases h1
    rw [hb] at h2
    cases h2
    refine .inr ⟨bk, cap, _, rfl, Hp.set_self, h3, ?_, by rw [List.length_set]; exact h5, h6, h7, h8⟩
    show (q.cells.set j x).take (k * 1) = cs.set j x
    rw [← h4, List.take_set]
variable {ρ : Operand → Value} {d : Option Tmp} {ty : TypeId} {pos : String} {af : Array Edge} {g : Option (Nat × Bool)}
theorem q_lenVec {t e : TypeId} {x : Operand} {v : Value} {m : Nat} {cs : List Value} (ht : P.underlying t = some (.slice e)) (hx : ρ x = v) (hv : Vec H el sz v m cs) :
    QS P w0 ρ ⟨d, .call { callee := .builtin .len, args := #[x], argTypes := #[t] }, ty, pos, af, g⟩ H (.int .i64 (m : Int)) := by
  rcases hv with ⟨rfl, rfl, rfl⟩ | ⟨b, cap, q, rfl, _⟩
  · exact q_lenV ht hx
  · exact q_lenV ht hx
theorem q_sliceVec_hi {t e : TypeId} {x hi : Operand} {v : Value} {m : Nat} {cs : List Value} {k : IntKind} {a : Int} (ht : P.underlying t = some (.slice e)) (hs : sizeT P e = some sz) (hx : ρ x = v) (hv : Vec H el sz v m cs)
    (hc : ρ hi = .int k a) (h0 : 0 ≤ a) (h1 : a ≤ m) : QS P w0 ρ ⟨d, .slice t x none (some hi) none, ty, pos, af, g⟩ H (takeV v a.toNat) := by
  rcases hv with ⟨rfl, rfl, rfl⟩ | ⟨b, cap, q, rfl, _, _, _, _, h6, _⟩
  · obtain rfl : a = 0 := by omega
    exact q_sliceV_hi ht hs hx hc (by decide) (by decide)
  · exact q_sliceV_hi ht hs hx hc h0 (by omega)
end
end Go.Proofs.Ytfiojlmccflplaa.D
