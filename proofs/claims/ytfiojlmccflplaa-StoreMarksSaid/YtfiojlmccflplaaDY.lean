/-
  A walk's rules: more ways out of a function, and a list of strings that is only read. No condition.
-/
import Derived.Test.YtfiojlmccflplaaDW
namespace Go.Proofs.Ytfiojlmccflplaa.D
open Go Go.RowKit
set_option linter.unusedVariables false
set_option linter.unusedSimpArgs false
section
variable {P : Program} {rs : Array ResultVar} {R : Value → Hp → Prop} {e : Env} {H H' : Hp} {t1 t2 t3 : Tmp} {v1 v2 v3 : Value}
theorem RetP.mktct {ct : TypeId} {b m sz : Nat} {el : TypeId} {cs : List Value} (hr : rs = #[.tmp t1, .cell t2 ct, .tmp t3]) (h1 : e t1 = v1) (hp : e t2 = .pointer (some ⟨b, 0, none⟩)) (h1' : e t3 = v3) (hb : H b = some ⟨cs, sz, el⟩) (hl : cs.length = m) (ht : aggT P ct m = true)
    (h2 : H'.le H) (h3 : R (.tuple #[v1, .agg cs.toArray, v3]) H') : RetP P rs R .ret e H := by
  subst hr; subst hl; exact RetP.mk [v1, .agg cs.toArray, v3] H' ⟨h1, ⟨b, _, hp, hb, .inl ⟨ht, rfl⟩⟩, h1', trivial⟩ h2 h3
end
theorem strs_drop (ss : List (List UInt8)) (n : Nat) : (strs ss).drop n = strs (ss.drop n) := by simp [strs, List.map_drop]
theorem RdW.sufS {w0 : World} {H : Hp} {v : Value} {ss : List (List UInt8)} {n : Nat} (h : RdW w0 H v (strs ss)) (hk : n ≤ ss.length) : RdW w0 H (sufV v n) (strs (ss.drop n)) := by
  have := h.suf (k := n) (by rw [strs_length]; exact hk)
  rwa [strs_drop] at this
section
variable {P : Program} {w0 : World} {ρ : Operand → Value} {H : Hp} {d : Option Tmp} {ty : TypeId} {pos : String} {af : Array Edge} {g : Option (Nat × Bool)} {x : Operand} {v : Value}
theorem q_lenWS {t e : TypeId} {ss : List (List UInt8)} (hR : RdW w0 H v (strs ss)) (ht : P.underlying t = some (.slice e)) (hx : ρ x = v) : QS P w0 ρ ⟨d, .call { callee := .builtin .len, args := #[x], argTypes := #[t] }, ty, pos, af, g⟩ H (.int .i64 (ss.length : Int)) := by
  have := q_lenW (d := d) (ty := ty) (pos := pos) (af := af) (g := g) hR ht hx
  rwa [strs_length] at this
theorem q_sufWS {t e : TypeId} {lo : Operand} {k : IntKind} {a : Int} {ss : List (List UInt8)} (hR : RdW w0 H v (strs ss)) (ht : P.underlying t = some (.slice e)) (hs : sizeT P e = some 1) (hx : ρ x = v) (ha : ρ lo = .int k a) (h0 : 0 ≤ a) (h1 : a ≤ ss.length) :
    QS P w0 ρ ⟨d, .slice t x (some lo) none none, ty, pos, af, g⟩ H (sufV v a.toNat) := q_sufW hR ht hs hx ha h0 (by rw [strs_length]; exact h1)
theorem q_indexWS {t e : TypeId} {i : Operand} {k : IntKind} {n : Int} {ss : List (List UInt8)} (hR : RdW w0 H v (strs ss)) (ht : P.underlying t = some (.slice e)) (hs : sizeT P e = some 1) (hx : ρ x = v) (hi : ρ i = .int k n) (h0 : 0 ≤ n) (h1 : n < ss.length) :
    QS P w0 ρ ⟨d, .indexAddr t x i, ty, pos, af, g⟩ H (vptr v n.toNat) := q_indexW hR ht hs hx hi h0 (by rw [strs_length]; exact h1)
end
end Go.Proofs.Ytfiojlmccflplaa.D
