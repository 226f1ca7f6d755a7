/-
  A walk's rules: operations under a guard. No condition.
-/
import Derived.Test.YtfiojlmccflplaaD7
/-! Operations that are carried out only where a test says so. -/
namespace Go.Proofs.Ytfiojlmccflplaa.D
open Go Go.RowKit
set_option linter.unusedVariables false
set_option linter.unusedSimpArgs false
/-- What a slot holds behind an operation that is carried out where B is true. -/
def gv (B : Bool) (v : Value) : Value := match B with
  | true => v
  | false => undef
section
variable {P : Program} {w0 : World} {n : Nat} {H : Hp} {ops : Array Oper} {Q : Post} {e : Env} {t j : Nat} {op : Op} {ty : TypeId} {pos : String} {af : Array Edge} {l : List Oper} {v : Value} {b c B : Bool} {k s : Nat} {ρ : Operand → Value} {d : Option Tmp} {gd : Option (Nat × Bool)}

/-- A test that others hang on: its outcome gets a name. -/
theorem OpsW.qb (hd : Nat.blt t n = true) (h : QS P w0 (ev e) ⟨some t, op, ty, pos, af, none⟩ H (.bool c)) (hk : ∀ b, b = c → OpsW P w0 n ops Q l (upd e t (.bool b)) H) :
    OpsW P w0 n ops Q (⟨some t, op, ty, pos, af, none⟩ :: l) e H := OpsW.q hd h (hk c rfl)
theorem SeqK.qb (hd : Nat.blt t n = true) (h : QS P w0 (ev e) ⟨some t, op, ty, pos, af, none⟩ H (.bool c)) (hk : ∀ b, b = c → SeqK P w0 n ops Q H k l (upd e t (.bool b))) :
    SeqK P w0 n ops Q H (k + 1) (⟨some t, op, ty, pos, af, none⟩ :: l) e := SeqK.q hd h (hk c rfl)

theorem yieldE_plain (ht : dstAt ops j = some s) (hs : e s = .bool c) : yieldE ops e j = some c := by
  unfold yieldE; unfold dstAt at ht; rw [ht]; simp [hs]
theorem yieldE_gv (ht : dstAt ops j = some s) (hs : e s = gv B (.bool c)) : yieldE ops e j = if B then some c else none := by
  unfold yieldE; unfold dstAt at ht; rw [ht]
  cases B <;> simp [hs, gv, undef]
theorem qg_gv {o : Oper} (hd : dstOk n o.dst = true) (hw : Region.wanted o (yieldE ops e) = B) (h : B = true → QS P w0 (ev e) o H v) : QG P w0 n ops H e o (gv B v) := by
  refine ⟨hd, ?_⟩
  cases B with
  | true => exact .inl ⟨hw, h rfl⟩
  | false => exact .inr ⟨hw, rfl⟩
theorem wanted_plain (ht : dstAt ops j = some s) (hs : e s = .bool c) : Region.wanted ⟨some t, op, ty, pos, af, some (j, b)⟩ (yieldE ops e) = (c == b) := by
  simp only [Region.wanted, yieldE_plain ht hs]; cases c <;> cases b <;> rfl
theorem wanted_gv (ht : dstAt ops j = some s) (hs : e s = gv B (.bool c)) : Region.wanted ⟨some t, op, ty, pos, af, some (j, b)⟩ (yieldE ops e) = (B && c == b) := by
  simp only [Region.wanted, yieldE_gv ht hs]; cases B <;> cases c <;> cases b <;> rfl

theorem OpsW.ofQG {o : Oper} (h : QG P w0 n ops H e o v) (hk : OpsW P w0 n ops Q l (putE e o.dst v) H) : OpsW P w0 n ops Q (o :: l) e H := by
  obtain ⟨hd, ⟨hw, hq⟩ | ⟨hw, rfl⟩⟩ := h
  · exact OpsW.op0 hw hd hq (by rintro _ _ ⟨rfl, rfl⟩; exact hk)
  · exact OpsW.pass0 hw hd hk
/-- g: guarded by a plain test; gg: by one that is itself guarded; b behind: its outcome gets a name. -/
theorem OpsW.g (ht : dstAt ops j = some s) (hs : e s = .bool c) (hd : Nat.blt t n = true) (h : (c == b) = true → QS P w0 (ev e) ⟨some t, op, ty, pos, af, some (j, b)⟩ H v) (hk : OpsW P w0 n ops Q l (upd e t (gv (c == b) v)) H) :
    OpsW P w0 n ops Q (⟨some t, op, ty, pos, af, some (j, b)⟩ :: l) e H := OpsW.ofQG (qg_gv (dst_lt hd) (wanted_plain ht hs) h) hk
theorem OpsW.gg (ht : dstAt ops j = some s) (hs : e s = gv B (.bool c)) (hd : Nat.blt t n = true) (h : (B && c == b) = true → QS P w0 (ev e) ⟨some t, op, ty, pos, af, some (j, b)⟩ H v) (hk : OpsW P w0 n ops Q l (upd e t (gv (B && c == b) v)) H) :
    OpsW P w0 n ops Q (⟨some t, op, ty, pos, af, some (j, b)⟩ :: l) e H := OpsW.ofQG (qg_gv (dst_lt hd) (wanted_gv ht hs) h) hk
theorem OpsW.gb {c0 : Bool} (ht : dstAt ops j = some s) (hs : e s = .bool c) (hd : Nat.blt t n = true) (h : (c == b) = true → QS P w0 (ev e) ⟨some t, op, ty, pos, af, some (j, b)⟩ H (.bool c0)) (hk : ∀ x, x = c0 → OpsW P w0 n ops Q l (upd e t (gv (c == b) (.bool x))) H) :
    OpsW P w0 n ops Q (⟨some t, op, ty, pos, af, some (j, b)⟩ :: l) e H := OpsW.g ht hs hd h (hk c0 rfl)
theorem OpsW.ggb {c0 : Bool} (ht : dstAt ops j = some s) (hs : e s = gv B (.bool c)) (hd : Nat.blt t n = true) (h : (B && c == b) = true → QS P w0 (ev e) ⟨some t, op, ty, pos, af, some (j, b)⟩ H (.bool c0)) (hk : ∀ x, x = c0 → OpsW P w0 n ops Q l (upd e t (gv (B && c == b) (.bool x))) H) :
    OpsW P w0 n ops Q (⟨some t, op, ty, pos, af, some (j, b)⟩ :: l) e H := OpsW.gg ht hs hd h (hk c0 rfl)
theorem SeqK.g (ht : dstAt ops j = some s) (hs : e s = .bool c) (hd : Nat.blt t n = true) (h : (c == b) = true → QS P w0 (ev e) ⟨some t, op, ty, pos, af, some (j, b)⟩ H v) (hk : SeqK P w0 n ops Q H k l (upd e t (gv (c == b) v))) :
    SeqK P w0 n ops Q H (k + 1) (⟨some t, op, ty, pos, af, some (j, b)⟩ :: l) e := ⟨_, qg_gv (dst_lt hd) (wanted_plain ht hs) h, hk⟩
theorem SeqK.gg (ht : dstAt ops j = some s) (hs : e s = gv B (.bool c)) (hd : Nat.blt t n = true) (h : (B && c == b) = true → QS P w0 (ev e) ⟨some t, op, ty, pos, af, some (j, b)⟩ H v) (hk : SeqK P w0 n ops Q H k l (upd e t (gv (B && c == b) v))) :
    SeqK P w0 n ops Q H (k + 1) (⟨some t, op, ty, pos, af, some (j, b)⟩ :: l) e := ⟨_, qg_gv (dst_lt hd) (wanted_gv ht hs) h, hk⟩
theorem SeqK.gb {c0 : Bool} (ht : dstAt ops j = some s) (hs : e s = .bool c) (hd : Nat.blt t n = true) (h : (c == b) = true → QS P w0 (ev e) ⟨some t, op, ty, pos, af, some (j, b)⟩ H (.bool c0)) (hk : ∀ x, x = c0 → SeqK P w0 n ops Q H k l (upd e t (gv (c == b) (.bool x)))) :
    SeqK P w0 n ops Q H (k + 1) (⟨some t, op, ty, pos, af, some (j, b)⟩ :: l) e := SeqK.g ht hs hd h (hk c0 rfl)
theorem SeqK.ggb {c0 : Bool} (ht : dstAt ops j = some s) (hs : e s = gv B (.bool c)) (hd : Nat.blt t n = true) (h : (B && c == b) = true → QS P w0 (ev e) ⟨some t, op, ty, pos, af, some (j, b)⟩ H (.bool c0)) (hk : ∀ x, x = c0 → SeqK P w0 n ops Q H k l (upd e t (gv (B && c == b) (.bool x)))) :
    SeqK P w0 n ops Q H (k + 1) (⟨some t, op, ty, pos, af, some (j, b)⟩ :: l) e := SeqK.gg ht hs hd h (hk c0 rfl)

theorem q_and2 {x y z : Operand} {A : Bool} (hc : ρ x = .bool A) (hy : ρ y = gv (A == true) (.bool B)) (hz : ρ z = .bool false) : QS P w0 ρ ⟨d, .pick x y z, ty, pos, af, gd⟩ H (.bool (A && B)) := by
  cases A
  · exact q_pickF hc hz
  · exact q_pickT hc hy
theorem q_or2 {x y z : Operand} {A : Bool} (hc : ρ x = .bool A) (hy : ρ y = .bool true) (hz : ρ z = gv (A == false) (.bool B)) : QS P w0 ρ ⟨d, .pick x y z, ty, pos, af, gd⟩ H (.bool (A || B)) := by
  cases A
  · exact q_pickF hc hz
  · exact q_pickT hc hy
end
end Go.Proofs.Ytfiojlmccflplaa.D
