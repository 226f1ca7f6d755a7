/-
  The proof's texts, joined, without what the statements do not reach: part 1 of 5. No condition.
-/
import Derived.WalkKit
import Derived.KernelRfl
import Derived.Lib.ConvBytes
import Derived.WalkSpells
import Derived.WalkLawsBesides
import Derived.ProofKit
import Derived.ChangeMaps5
import Derived.ChangeSlices
import Derived.Deep.Strs
import Derived.DataElems
import Derived.OpenShut
import Derived.Test.YtfiojlmccflplaaProg
import Derived.MapKept
import Derived.Laws.StructEq
section
namespace Go.Proofs.Ytfiojlmccflplaa.D
open Go Go.RowKit
set_option linter.unusedVariables false
set_option linter.unusedSimpArgs false
abbrev Env := Nat → Value
def upd (e : Env) (t : Nat) (v : Value) : Env := fun u => if u = t then v else e u
def putE (e : Env) (d : Option Tmp) (v : Value) : Env := match d with
  | some t => upd e t v
  | none => e
def ev (e : Env) : Operand → Value
  | .tmp t => e t
  | .const v => v
  | .global g => .pointer (some ⟨g, 0, none⟩)
  | .func f => .func (.func f) #[] #[]
/-- What a block is: cells of a type, or a map's entries. -/
inductive Tag
  | ty (t : TypeId)
  | map (es : List (Value × Value))
instance : Coe Nat Tag := ⟨Tag.ty⟩
instance (n : Nat) : OfNat Tag n := ⟨Tag.ty n⟩
structure Blk where
  cells : List Value
  size : Nat
  elem : Tag
abbrev Hp := Nat → Option Blk
def Hp.set (H : Hp) (b : Nat) (o : Blk) : Hp := fun c => if c = b then some o else H c
def Hp.le (H H' : Hp) : Prop := ∀ b o, H b = some o → H' b = some o
def Fits (w : World) (b : Nat) (o : Blk) : Prop :=
  (∃ (e : TypeId) (c : Array Value) (fr : Nat × Nat), o.elem = .ty e ∧ w.heap[b]? = some (.cells c e fr) ∧ c.size = o.size ∧ o.cells.length ≤ o.size ∧
    (∀ j, j < o.size → ¬ (fr.1 ≤ j ∧ j < fr.2)) ∧ (∀ (j : Nat) (v : Value), o.cells[j]? = some v → c[j]? = some v)) ∨
  (o.cells = [] ∧ o.size = 0 ∧ ∃ (es : List (Value × Value)) (l : Array MapEntry) (k : Nat), o.elem = .map es ∧ w.heap[b]? = some (.map l k) ∧ l.toList.map (fun x => (x.key, x.val)) = es)
structure Own (w0 : World) (H : Hp) (w : World) : Prop where
  below : Below w0.heap.size w0 w
  fits : ∀ b o, H b = some o → w0.heap.size ≤ b ∧ Fits w b o
structure Fr (n : Nat) (e : Env) (a : Act) : Prop where
  size : a.tmps.size = n
  get : ∀ t, a.tmps.getD t undef = e t
  defers : a.defers = []
theorem Fr.ev {n : Nat} {e : Env} {a : Act} (h : Fr n e a) (x : Operand) : a.eval x = ev e x := by
  cases x <;> simp [Act.eval, D.ev, ← h.get]
def dstOk (n : Nat) (d : Option Tmp) : Bool := match d with
  | some t => decide (t < n)
  | none => true
theorem Fr.put {n : Nat} {e : Env} {a : Act} (h : Fr n e a) {d : Option Tmp} (hd : dstOk n d = true) (v : Value) : Fr n (putE e d v) (a.put d v) := by
  cases d with
  | none => exact h
  | some t =>
    have ht : t < a.tmps.size := by rw [h.size]; simpa [dstOk] using hd
    refine ⟨by simp [Act.put, h.size], fun u => ?_, h.defers⟩
    have hg := h.get u
    by_cases hu : u = t
    · subst hu; simp [Act.put, putE, upd, ht]
    · simp only [Act.put, putE, upd, if_neg hu, ← hg]
      simp [Array.getElem?_setIfInBounds_ne (Ne.symm hu)]
def yieldE (ops : Array Oper) (e : Env) (j : Nat) : Option Bool :=
  match (ops[j]?).bind (·.dst) with
  | some t => match e t with
    | .bool b => some b
    | _ => none
  | none => none
theorem Fr.yielded {n : Nat} {e : Env} {a : Act} (h : Fr n e a) (ops : Array Oper) (j : Nat) : yielded ops a.tmps j = yieldE ops e j := by
  unfold Go.yielded yieldE
  cases (ops[j]?).bind (·.dst) with
  | none => rfl
  | some t =>
    simp only [Option.bind_some, ← h.get t, Array.getD_eq_getD_getElem?]
    cases a.tmps[t]? with
    | none => simp [undef]
    | some v => cases v <;> rfl
theorem wanted_congr (o : Oper) {f g : Nat → Option Bool} (h : ∀ j, f j = g j) : Region.wanted o f = Region.wanted o g := by
  have : f = g := funext h
  rw [this]
abbrev Post := Exit → Env → Hp → Prop
def calm : Exit → Prop
  | .panic _ | .outgrown => False
  | _ => True
def lift (w0 : World) (n : Nat) (Q : Post) : Exit → Act → World → Prop :=
  fun x a w => calm x ∧ ∃ e H, Fr n e a ∧ Own w0 H w ∧ Q x e H
section
variable {P : Program} {w0 : World} {n : Nat}
def AW (P : Program) (w0 : World) (n : Nat) (c : Code) (Q : Post) (e : Env) (H : Hp) : Prop :=
  ∀ a w, Fr n e a → Own w0 H w → c.wp P (lift w0 n Q) a w
def SeqP (P : Program) (w0 : World) (n : Nat) (y : Code) (Q : Post) : Post
  | .normal, e, H => AW P w0 n y Q e H
  | x, e, H => Q x e H
def BlockP (id : Nat) (Q : Post) : Post
  | .exit i, e, H => if i = id then Q .normal e H else Q (.exit i) e H
  | x, e, H => Q x e H
theorem AW.mono {c : Code} {Q Q' : Post} {e : Env} {H : Hp} (h : AW P w0 n c Q e H) (hq : ∀ x e H, Q x e H → Q' x e H) : AW P w0 n c Q' e H :=
  fun a w hf ho => wp_mono (h a w hf ho) fun _ _ _ ⟨hc, e, H, h1, h2, h3⟩ => ⟨hc, e, H, h1, h2, hq _ _ _ h3⟩
theorem AW.seq {x y : Code} {Q : Post} {e : Env} {H : Hp} (h : AW P w0 n x (SeqP P w0 n y Q) e H) : AW P w0 n (.seq x y) Q e H := by
  intro a w hf ho
  refine wp_seq (wp_mono (h a w hf ho) ?_)
  rintro ex a w ⟨hc, e, H, h1, h2, h3⟩
  cases ex <;> first | exact h3 a w h1 h2 | exact ⟨hc, e, H, h1, h2, h3⟩
theorem SeqP.go {y : Code} {Q : Post} {e : Env} {H : Hp} (h : AW P w0 n y Q e H) : SeqP P w0 n y Q .normal e H := h
theorem SeqP.ret {y : Code} {Q : Post} {e : Env} {H : Hp} (h : Q .ret e H) : SeqP P w0 n y Q .ret e H := h
theorem SeqP.exit {y : Code} {Q : Post} {e : Env} {H : Hp} {i : Nat} (h : Q (.exit i) e H) : SeqP P w0 n y Q (.exit i) e H := h
theorem BlockP.go {id : Nat} {Q : Post} {e : Env} {H : Hp} (h : Q .normal e H) : BlockP id Q .normal e H := h
theorem BlockP.ret {id : Nat} {Q : Post} {e : Env} {H : Hp} (h : Q .ret e H) : BlockP id Q .ret e H := h
theorem BlockP.here {id : Nat} {Q : Post} {e : Env} {H : Hp} (h : Q .normal e H) : BlockP id Q (.exit id) e H := by simp [BlockP, h]
theorem BlockP.far {id i : Nat} {Q : Post} {e : Env} {H : Hp} (hi : Nat.beq i id = false) (h : Q (.exit i) e H) : BlockP id Q (.exit i) e H := by
  have : i ≠ id := Nat.ne_of_beq_eq_false hi
  simp [BlockP, this, h]
theorem AW.block {id : Nat} {c : Code} {Q : Post} {e : Env} {H : Hp} (h : AW P w0 n c (BlockP id Q) e H) : AW P w0 n (.block id c) Q e H := by
  intro a w hf ho
  refine wp_block (wp_mono (h a w hf ho) ?_)
  rintro ex a w ⟨hc, e, H, h1, h2, h3⟩
  cases ex with
  | exit i =>
    simp only [BlockP] at h3
    simp only [Exit.inBlock]
    split <;> rename_i hi
    · rw [if_pos hi] at h3; exact ⟨trivial, e, H, h1, h2, h3⟩
    · rw [if_neg hi] at h3; exact ⟨trivial, e, H, h1, h2, h3⟩
  | _ => exact ⟨hc, e, H, h1, h2, h3⟩
theorem AW.skip {Q : Post} {e : Env} {H : Hp} (h : Q .normal e H) : AW P w0 n .skip Q e H := fun a w hf ho => wp_skip ⟨trivial, e, H, hf, ho, h⟩
theorem AW.exit {i : Nat} {Q : Post} {e : Env} {H : Hp} (h : Q (.exit i) e H) : AW P w0 n (.exit i) Q e H := fun a w hf ho => wp_exit ⟨trivial, e, H, hf, ho, h⟩
theorem AW.ret {Q : Post} {e : Env} {H : Hp} (h : Q .ret e H) : AW P w0 n .ret Q e H := fun a w hf ho => wp_ret ⟨trivial, e, H, hf, ho, h⟩
theorem AW.cond {c : Operand} {x y : Code} {Q : Post} {e : Env} {H : Hp} {t : Bool} (hc : D.ev e c = .bool t)
    (h1 : t = true → AW P w0 n x Q e H) (h2 : t = false → AW P w0 n y Q e H) : AW P w0 n (.cond c x y) Q e H := by
  intro a w hf ho
  refine wp_cond_split (t := t) (by rw [hf.ev, hc]) (fun h => h1 h a w hf ho) (fun h => h2 h a w hf ho)
theorem AW.cond2 {c : Operand} {x y : Code} {Q : Post} {e : Env} {H : Hp} {t : Bool} (hc : D.ev e c = .bool t)
    (h2 : t = false → AW P w0 n y Q e H) (h1 : t = true → AW P w0 n x Q e H) : AW P w0 n (.cond c x y) Q e H := AW.cond hc h1 h2
/-- Where two ways meet: what is known there. -/
def CutP (J : Env → Hp → Prop) (Q : Post) : Post
  | .normal, e, H => J e H
  | x, e, H => Q x e H
theorem CutP.go {J : Env → Hp → Prop} {Q : Post} {e : Env} {H : Hp} (h : J e H) : CutP J Q .normal e H := h
theorem CutP.ret {J : Env → Hp → Prop} {Q : Post} {e : Env} {H : Hp} (h : Q .ret e H) : CutP J Q .ret e H := h
theorem CutP.exit {J : Env → Hp → Prop} {Q : Post} {e : Env} {H : Hp} {i : Nat} (h : Q (.exit i) e H) : CutP J Q (.exit i) e H := h
theorem AW.cut {x y : Code} {Q : Post} {e : Env} {H : Hp} (J : Env → Hp → Prop) (h : AW P w0 n x (CutP J Q) e H) (hk : ∀ e H, J e H → AW P w0 n y Q e H) : AW P w0 n (.seq x y) Q e H :=
  AW.seq (h.mono fun ex e1 H1 hx => by cases ex <;> first | exact hk _ _ hx | exact hx)
/-- A loop: what holds at each round's head, and a number that each round lowers. -/
def LoopP (I : Nat → Env → Hp → Prop) (m : Nat) (Q : Post) : Post
  | .normal, e, H => ∃ m', m' < m ∧ I m' e H
  | x, e, H => Q x e H
theorem LoopP.ret {I : Nat → Env → Hp → Prop} {m : Nat} {Q : Post} {e : Env} {H : Hp} (h : Q .ret e H) : LoopP I m Q .ret e H := h
theorem LoopP.exit {I : Nat → Env → Hp → Prop} {m : Nat} {Q : Post} {e : Env} {H : Hp} {i : Nat} (h : Q (.exit i) e H) : LoopP I m Q (.exit i) e H := h
theorem LoopP.go {I : Nat → Env → Hp → Prop} {m : Nat} {Q : Post} {e : Env} {H : Hp} (m' : Nat) (hm : m' < m) (h : I m' e H) : LoopP I m Q .normal e H := ⟨m', hm, h⟩
theorem AW.loop {c : Code} {Q : Post} {e : Env} {H : Hp} (I : Nat → Env → Hp → Prop) (m : Nat) (h0 : I m e H)
    (round : ∀ m e H, I m e H → AW P w0 n c (LoopP I m Q) e H) : AW P w0 n (.loop c) Q e H := by
  intro a w hf ho
  intro b k cs
  have key : ∀ m e H a w, I m e H → Fr n e a → Own w0 H w →
      ∃ x a' w', lift w0 n Q x a' w' ∧ Arrives P (lone (b.at a (.code c :: .inLoop c :: k)) cs w) b k cs x a' w' := by
    intro m
    induction m using Nat.strongRecOn with
    | _ m ih =>
      intro e H a w hI hf ho
      obtain ⟨x, a1, w1, ⟨hc, e1, H1, f1, o1, q1⟩, harr⟩ := round m e H hI a w hf ho b (.inLoop c :: k) cs
      cases x with
      | normal =>
        obtain ⟨m', hm, hI1⟩ := q1
        obtain ⟨x2, a2, w2, q2, harr2⟩ := ih m' hm e1 H1 a1 w1 hI1 f1 o1
        exact ⟨x2, a2, w2, q2, .of_steps (Steps.trans harr (.one step_inLoop)) harr2⟩
      | exit id => exact ⟨_, a1, w1, ⟨hc, e1, H1, f1, o1, q1⟩, .pass (x := .inLoop c) rfl (fun _ _ => .inl (by simp)) harr⟩
      | goto l => exact ⟨_, a1, w1, ⟨hc, e1, H1, f1, o1, q1⟩, .pass (x := .inLoop c) rfl (fun _ _ => .inl (by simp)) harr⟩
      | ret => exact ⟨_, a1, w1, ⟨hc, e1, H1, f1, o1, q1⟩, .pass (x := .inLoop c) rfl (fun _ _ => .inl (by simp)) harr⟩
      | panic ch => exact ⟨_, a1, w1, ⟨hc, e1, H1, f1, o1, q1⟩, .pass (x := .inLoop c) rfl (fun _ _ => .inl (by simp)) harr⟩
      | outgrown => exact ⟨_, a1, w1, ⟨hc, e1, H1, f1, o1, q1⟩, .pass (x := .inLoop c) rfl (fun _ _ => .inl (by simp)) harr⟩
  obtain ⟨x, a', w', q, harr⟩ := key m e H a w h0 hf ho
  exact ⟨x, a', w', q, .of_steps (.one step_loop) harr⟩
/-- What one operation comes to, over whatever world owns H. -/
def Res (P : Program) (w0 : World) (R : Value → Hp → Prop) : Result Next → Prop
  | .ok (.value v) w' => ∃ H', Own w0 H' w' ∧ R v H'
  | .ok .skip w' => ∃ H', Own w0 H' w' ∧ R undef H'
  | .ok (.enter f args) w' => Calls P f args w' fun x w'' => ∃ v H', x = .returned v ∧ Own w0 H' w'' ∧ R v H'
  | _ => False
def OpR (P : Program) (w0 : World) (ρ : Operand → Value) (o : Oper) (H : Hp) (R : Value → Hp → Prop) : Prop :=
  ∀ w, Own w0 H w → Res P w0 R ((execOp ρ o).run P w)
theorem OpR.mono {ρ : Operand → Value} {o : Oper} {H : Hp} {R R' : Value → Hp → Prop} (h : OpR P w0 ρ o H R) (hr : ∀ v H', R v H' → R' v H') : OpR P w0 ρ o H R' := by
  intro w ho
  have h1 := h w ho
  generalize (execOp ρ o).run P w = r at h1
  cases r with
  | halt => exact h1.elim
  | ok nx w' =>
    cases nx <;> simp only [Res] at h1 ⊢
    case value v => obtain ⟨H', ho', hr'⟩ := h1; exact ⟨H', ho', hr _ _ hr'⟩
    case skip => obtain ⟨H', ho', hr'⟩ := h1; exact ⟨H', ho', hr _ _ hr'⟩
    case enter f args => exact Calls.mono h1 fun x w'' ⟨v, H', h2, h3, h4⟩ => ⟨v, H', h2, h3, hr _ _ h4⟩
def OpsW (P : Program) (w0 : World) (n : Nat) (ops : Array Oper) (Q : Post) (l : List Oper) (e : Env) (H : Hp) : Prop :=
  ∀ a w, Fr n e a → Own w0 H w → wpList P ops (lift w0 n Q) l a w
theorem AW.region {id : Nat} {l : List Oper} {Q : Post} {e : Env} {H : Hp} (h : OpsW P w0 n l.toArray Q l e H) : AW P w0 n (.region id l.toArray false) Q e H :=
  fun a w hf ho => wp_region_lit (h a w hf ho)
theorem OpsW.nil {ops : Array Oper} {Q : Post} {e : Env} {H : Hp} (h : Q .normal e H) : OpsW P w0 n ops Q [] e H := fun a w hf ho => wpList_nil ⟨trivial, e, H, hf, ho, h⟩
theorem Res.wp {ops : Array Oper} {Q : Post} {e : Env} {H : Hp} {o : Oper} {R : Value → Hp → Prop} {a : Act} {w : World} {K : Act → World → Prop}
    (hf : Fr n e a) (ho : Own w0 H w) (h : OpR P w0 (D.ev e) o H R) (hk : ∀ v H' w', R v H' → Own w0 H' w' → K (a.put o.dst v) w') {Q' : Exit → Act → World → Prop} : o.wp P a w K Q' := by
  have he : a.eval = D.ev e := funext hf.ev
  have h1 := h w ho
  unfold Oper.wp
  rw [he]
  generalize (execOp (D.ev e) o).run P w = r at h1
  cases r with
  | halt => exact h1.elim
  | ok nx w' =>
    cases nx <;> simp only [Res] at h1
    case value v => obtain ⟨H', ho', hr⟩ := h1; exact hk v H' w' hr ho'
    case skip => obtain ⟨H', ho', hr⟩ := h1; exact hk undef H' w' hr ho'
    case enter f args =>
      refine Calls.mono h1 fun x w'' hx => ?_
      obtain ⟨v, H', rfl, ho', hr⟩ := hx
      exact hk v H' w'' hr ho'
theorem OpsW.op0 {ops : Array Oper} {Q : Post} {e : Env} {H : Hp} {o : Oper} {l : List Oper} {R : Value → Hp → Prop} (hg : Region.wanted o (yieldE ops e) = true)
    (hd : dstOk n o.dst = true) (h : OpR P w0 (D.ev e) o H R) (hk : ∀ v H', R v H' → OpsW P w0 n ops Q l (putE e o.dst v) H') : OpsW P w0 n ops Q (o :: l) e H := by
  intro a w hf ho
  refine wpList_step fun K hK => ?_
  rw [wanted_congr o (hf.yielded ops), hg, if_pos rfl]
  exact Res.wp (ops := ops) (Q := Q) hf ho h fun v H' w' hr ho' => hK _ _ (hk v H' hr _ _ (hf.put hd v) ho')
theorem OpsW.pass0 {ops : Array Oper} {Q : Post} {e : Env} {H : Hp} {o : Oper} {l : List Oper} (hg : Region.wanted o (yieldE ops e) = false)
    (hd : dstOk n o.dst = true) (hk : OpsW P w0 n ops Q l (putE e o.dst undef) H) : OpsW P w0 n ops Q (o :: l) e H := by
  intro a w hf ho
  refine wpList_step fun K hK => ?_
  rw [wanted_congr o (hf.yielded ops), hg, if_neg (by simp)]
  exact hK _ _ (hk _ _ (hf.put hd undef) ho)
/-- An operation that yields v, and leaves what is owned as it is. -/
abbrev QS (P : Program) (w0 : World) (ρ : Operand → Value) (o : Oper) (H : Hp) (v : Value) : Prop := OpR P w0 ρ o H fun u H' => u = v ∧ H' = H
section
variable {ops : Array Oper} {Q : Post} {e : Env} {H : Hp} {t : Tmp} {op : Op} {ty : TypeId} {pos : String} {af : Array Edge} {l : List Oper} {v : Value} {R : Value → Hp → Prop} {j : Nat} {b : Bool} {H1 : Hp}
theorem dst_lt (h : Nat.blt t n = true) : dstOk n (some t) = true := by simpa [dstOk, Nat.blt, Nat.succ_le_iff] using h
/-- q: yields; s: stores (no slot); n: yields something of which R is known; qw, sw, nw: likewise, its guard says yes; p: its guard says no. -/
theorem OpsW.m (hd : Nat.blt t n = true) (h : OpR P w0 (D.ev e) ⟨some t, op, ty, pos, af, none⟩ H R) (hk : ∀ v H', R v H' → OpsW P w0 n ops Q l (upd e t v) H') :
    OpsW P w0 n ops Q (⟨some t, op, ty, pos, af, none⟩ :: l) e H := OpsW.op0 rfl (dst_lt hd) h hk
theorem OpsW.q (hd : Nat.blt t n = true) (h : QS P w0 (D.ev e) ⟨some t, op, ty, pos, af, none⟩ H v) (hk : OpsW P w0 n ops Q l (upd e t v) H) :
    OpsW P w0 n ops Q (⟨some t, op, ty, pos, af, none⟩ :: l) e H := OpsW.op0 rfl (dst_lt hd) h (by rintro _ _ ⟨rfl, rfl⟩; exact hk)
/-- x: something with a known yield and a known state behind it. -/
theorem OpsW.x (hd : Nat.blt t n = true) (h : OpR P w0 (D.ev e) ⟨some t, op, ty, pos, af, none⟩ H fun u H' => u = v ∧ H' = H1) (hk : OpsW P w0 n ops Q l (upd e t v) H1) :
    OpsW P w0 n ops Q (⟨some t, op, ty, pos, af, none⟩ :: l) e H := OpsW.op0 rfl (dst_lt hd) h (by rintro _ _ ⟨rfl, rfl⟩; exact hk)
theorem OpsW.s (h : OpR P w0 (D.ev e) ⟨none, op, ty, pos, af, none⟩ H fun u H' => u = undef ∧ H' = H1) (hk : OpsW P w0 n ops Q l e H1) :
    OpsW P w0 n ops Q (⟨none, op, ty, pos, af, none⟩ :: l) e H := OpsW.op0 rfl rfl h (by rintro _ _ ⟨rfl, rfl⟩; exact hk)
theorem OpsW.ms (h : OpR P w0 (D.ev e) ⟨none, op, ty, pos, af, none⟩ H R) (hk : ∀ v H', R v H' → OpsW P w0 n ops Q l e H') :
    OpsW P w0 n ops Q (⟨none, op, ty, pos, af, none⟩ :: l) e H := OpsW.op0 rfl rfl h hk
theorem OpsW.mw (hg : yieldE ops e j = some b) (hd : Nat.blt t n = true) (h : OpR P w0 (D.ev e) ⟨some t, op, ty, pos, af, some (j, b)⟩ H R) (hk : ∀ v H', R v H' → OpsW P w0 n ops Q l (upd e t v) H') :
    OpsW P w0 n ops Q (⟨some t, op, ty, pos, af, some (j, b)⟩ :: l) e H := OpsW.op0 (by simp [Region.wanted, hg]) (dst_lt hd) h hk
theorem OpsW.qw (hg : yieldE ops e j = some b) (hd : Nat.blt t n = true) (h : QS P w0 (D.ev e) ⟨some t, op, ty, pos, af, some (j, b)⟩ H v) (hk : OpsW P w0 n ops Q l (upd e t v) H) :
    OpsW P w0 n ops Q (⟨some t, op, ty, pos, af, some (j, b)⟩ :: l) e H := OpsW.op0 (by simp [Region.wanted, hg]) (dst_lt hd) h (by rintro _ _ ⟨rfl, rfl⟩; exact hk)
theorem OpsW.p (hg : yieldE ops e j = some !b) (hd : Nat.blt t n = true) (hk : OpsW P w0 n ops Q l (upd e t undef) H) :
    OpsW P w0 n ops Q (⟨some t, op, ty, pos, af, some (j, b)⟩ :: l) e H := OpsW.pass0 (by simp [Region.wanted, hg]) (dst_lt hd) hk
/-- The guarding operation was itself passed over. -/
theorem OpsW.pu (hg : yieldE ops e j = none) (hd : Nat.blt t n = true) (hk : OpsW P w0 n ops Q l (upd e t undef) H) :
    OpsW P w0 n ops Q (⟨some t, op, ty, pos, af, some (j, b)⟩ :: l) e H := OpsW.pass0 (by simp [Region.wanted, hg]) (dst_lt hd) hk
end
def Con (P : Program) (w0 : World) (f : FuncId) (args : Array Value) (H : Hp) (R : Value → Hp → Prop) : Prop :=
  ∀ w, Own w0 H w → Calls P f args w fun x w' => ∃ v H', x = .returned v ∧ Own w0 H' w' ∧ R v H'
theorem Con.mono {f : FuncId} {args : Array Value} {H : Hp} {R R' : Value → Hp → Prop} (h : Con P w0 f args H R) (hr : ∀ v H', R v H' → R' v H') : Con P w0 f args H R' :=
  fun w ho => Calls.mono (h w ho) fun _ _ ⟨v, H', h1, h2, h3⟩ => ⟨v, H', h1, h2, hr _ _ h3⟩
theorem Own.drop {H H' : Hp} {w : World} (h : Own w0 H' w) (hl : H.le H') : Own w0 H w := ⟨h.below, fun b o hb => h.fits b o (hl b o hb)⟩
end
end Go.Proofs.Ytfiojlmccflplaa.D
end
section
namespace Go.Proofs.Ytfiojlmccflplaa.D
open Go Go.RowKit
set_option linter.unusedVariables false
set_option linter.unusedSimpArgs false
section
variable {P : Program} {w0 : World} {ρ : Operand → Value} {H : Hp} {d : Option Tmp} {ty : TypeId} {pos : String} {af : Array Edge} {g : Option (Nat × Bool)}
theorem QS.of_run {o : Oper} {v : Value} (h : ∀ w, Own w0 H w → (execOp ρ o).run P w = .ok (.value v) w) : QS P w0 ρ o H v :=
  fun w ho => by rw [h w ho]; exact ⟨H, ho, rfl, rfl⟩
theorem OpR.of_run {o : Oper} {R : Value → Hp → Prop} (h : ∀ w, Own w0 H w → ∃ v w' H', (execOp ρ o).run P w = .ok (.value v) w' ∧ Own w0 H' w' ∧ R v H') : OpR P w0 ρ o H R :=
  fun w ho => by obtain ⟨v, w', H', h1, h2, h3⟩ := h w ho; rw [h1]; exact ⟨H', h2, h3⟩
theorem q_move {x : Operand} {v : Value} (hx : ρ x = v) : QS P w0 ρ ⟨d, .move x, ty, pos, af, g⟩ H v := QS.of_run fun w _ => by subst hx; rfl
theorem q_assign {x : Operand} {v : Value} (hx : ρ x = v) : QS P w0 ρ ⟨d, .assign x, ty, pos, af, g⟩ H v := QS.of_run fun w _ => by subst hx; rfl
theorem q_pickT {c a b : Operand} {v : Value} (hc : ρ c = .bool true) (hv : ρ a = v) : QS P w0 ρ ⟨d, .pick c a b, ty, pos, af, g⟩ H v :=
  QS.of_run fun w _ => by subst hv; simp [execOp, hc, asBool]
theorem q_pickF {c a b : Operand} {v : Value} (hc : ρ c = .bool false) (hv : ρ b = v) : QS P w0 ρ ⟨d, .pick c a b, ty, pos, af, g⟩ H v :=
  QS.of_run fun w _ => by subst hv; simp [execOp, hc, asBool]
section ints
variable {xt yt : TypeId} {x y : Operand} {k k' : IntKind} {a b : Int}
theorem eqGuard_int (op : BinOp) (w : World) : (eqGuard op xt x y (.int k a) (.int k' b)).run P w = .ok () w := by
  unfold eqGuard; split <;> rfl
theorem q_int {op : BinOp} {v : Value} (hx : ρ x = .int k a) (hy : ρ y = .int k' b) (hv : ∀ w, (binOp op xt (.int k a) (.int k' b)).run P w = .ok v w) :
    QS P w0 ρ ⟨d, .binOp op xt x y yt, ty, pos, af, g⟩ H v :=
  QS.of_run fun w _ => by simp only [execOp, hx, hy, Sem.run_bind, eqGuard_int, Result.andThen_ok, hv, Sem.run_pure]
theorem q_add (hx : ρ x = .int k a) (hy : ρ y = .int k b) : QS P w0 ρ ⟨d, .binOp .add xt x y yt, ty, pos, af, g⟩ H (.int k (k.wrap (a + b))) :=
  q_int hx hy fun w => by simp [binOp, Op.intArith]
theorem q_sub (hx : ρ x = .int k a) (hy : ρ y = .int k b) : QS P w0 ρ ⟨d, .binOp .sub xt x y yt, ty, pos, af, g⟩ H (.int k (k.wrap (a - b))) :=
  q_int hx hy fun w => by simp [binOp, Op.intArith]
theorem q_mul (hx : ρ x = .int k a) (hy : ρ y = .int k b) : QS P w0 ρ ⟨d, .binOp .mul xt x y yt, ty, pos, af, g⟩ H (.int k (k.wrap (a * b))) :=
  q_int hx hy fun w => by simp [binOp, Op.intArith]
theorem q_addI {a b : Int} (hx : ρ x = .int .i64 a) (hy : ρ y = .int .i64 b) (h : -9223372036854775808 ≤ a + b ∧ a + b ≤ 9223372036854775807) : QS P w0 ρ ⟨d, .binOp .add xt x y yt, ty, pos, af, g⟩ H (.int .i64 (a + b)) := by
  have := q_add (P := P) (w0 := w0) (H := H) (d := d) (ty := ty) (pos := pos) (af := af) (g := g) (xt := xt) (yt := yt) hx hy
  rwa [IntWalk.i64_in _ h] at this
theorem q_subI {a b : Int} (hx : ρ x = .int .i64 a) (hy : ρ y = .int .i64 b) (h : -9223372036854775808 ≤ a - b ∧ a - b ≤ 9223372036854775807) : QS P w0 ρ ⟨d, .binOp .sub xt x y yt, ty, pos, af, g⟩ H (.int .i64 (a - b)) := by
  have := q_sub (P := P) (w0 := w0) (H := H) (d := d) (ty := ty) (pos := pos) (af := af) (g := g) (xt := xt) (yt := yt) hx hy
  rwa [IntWalk.i64_in _ h] at this
theorem q_mulI {a b : Int} (hx : ρ x = .int .i64 a) (hy : ρ y = .int .i64 b) (h : -9223372036854775808 ≤ a * b ∧ a * b ≤ 9223372036854775807) : QS P w0 ρ ⟨d, .binOp .mul xt x y yt, ty, pos, af, g⟩ H (.int .i64 (a * b)) := by
  have := q_mul (P := P) (w0 := w0) (H := H) (d := d) (ty := ty) (pos := pos) (af := af) (g := g) (xt := xt) (yt := yt) hx hy
  rwa [IntWalk.i64_in _ h] at this
/-- Division and rest of what is not below nought. -/
theorem q_quoI {a b : Int} (hx : ρ x = .int .i64 a) (hy : ρ y = .int .i64 b) (h : 0 ≤ a ∧ a ≤ 9223372036854775807 ∧ 1 ≤ b) : QS P w0 ρ ⟨d, .binOp .quo xt x y yt, ty, pos, af, g⟩ H (.int .i64 (a / b)) :=
  q_int hx hy fun w => by
    have hb : b ≠ 0 := by omega
    simp [binOp, Op.intDiv, hb, IntWalk.i64_quo a b h]
theorem q_remI {a b : Int} (hx : ρ x = .int .i64 a) (hy : ρ y = .int .i64 b) (h : 0 ≤ a ∧ 1 ≤ b) : QS P w0 ρ ⟨d, .binOp .rem xt x y yt, ty, pos, af, g⟩ H (.int .i64 (a % b)) :=
  q_int hx hy fun w => by
    have hb : b ≠ 0 := by omega
    simp [binOp, Op.intDiv, hb, IntWalk.rem_in a b h.1]
def iand (k : IntKind) (a b : Int) : Int := k.wrap ((BitVec.ofInt k.bits a &&& BitVec.ofInt k.bits b).toNat : Int)
def ior (k : IntKind) (a b : Int) : Int := k.wrap ((BitVec.ofInt k.bits a ||| BitVec.ofInt k.bits b).toNat : Int)
def ixor (k : IntKind) (a b : Int) : Int := k.wrap ((BitVec.ofInt k.bits a ^^^ BitVec.ofInt k.bits b).toNat : Int)
theorem q_and (hx : ρ x = .int k a) (hy : ρ y = .int k b) : QS P w0 ρ ⟨d, .binOp .and xt x y yt, ty, pos, af, g⟩ H (.int k (iand k a b)) :=
  q_int hx hy fun w => by simp [binOp, Op.intBits, iand]
theorem q_or (hx : ρ x = .int k a) (hy : ρ y = .int k b) : QS P w0 ρ ⟨d, .binOp .or xt x y yt, ty, pos, af, g⟩ H (.int k (ior k a b)) :=
  q_int hx hy fun w => by simp [binOp, Op.intBits, ior]
theorem q_xor (hx : ρ x = .int k a) (hy : ρ y = .int k b) : QS P w0 ρ ⟨d, .binOp .xor xt x y yt, ty, pos, af, g⟩ H (.int k (ixor k a b)) :=
  q_int hx hy fun w => by simp [binOp, Op.intBits, ixor]
theorem q_shl (hx : ρ x = .int k a) (hy : ρ y = .int k' b) (hb : 0 ≤ b) : QS P w0 ρ ⟨d, .binOp .shl xt x y yt, ty, pos, af, g⟩ H (.int k (k.wrap (a * 2 ^ min b.toNat k.bits))) :=
  q_int hx hy fun w => by simp [binOp, Op.shift, Int.not_lt.2 hb]
theorem q_shr (hx : ρ x = .int k a) (hy : ρ y = .int k' b) (hb : 0 ≤ b) : QS P w0 ρ ⟨d, .binOp .shr xt x y yt, ty, pos, af, g⟩ H (.int k (a / 2 ^ min b.toNat k.bits)) :=
  q_int hx hy fun w => by
    simp only [binOp, Op.shift, if_neg (Int.not_lt.2 hb)]
    rw [Int.fdiv_eq_ediv_of_nonneg _ (Int.le_of_lt (Int.pow_pos (by decide)))]; rfl
theorem q_rem (hx : ρ x = .int k a) (hy : ρ y = .int k b) (hb : b ≠ 0) : QS P w0 ρ ⟨d, .binOp .rem xt x y yt, ty, pos, af, g⟩ H (.int k (a.tmod b)) :=
  q_int hx hy fun w => by simp [binOp, Op.intDiv, hb]
theorem q_eql (hx : ρ x = .int k a) (hy : ρ y = .int k b) : QS P w0 ρ ⟨d, .binOp .eql xt x y yt, ty, pos, af, g⟩ H (.bool (decide (a = b))) :=
  q_int hx hy fun w => by simp [binOp, Op.intCmp]; rfl
theorem q_neq (hx : ρ x = .int k a) (hy : ρ y = .int k b) : QS P w0 ρ ⟨d, .binOp .neq xt x y yt, ty, pos, af, g⟩ H (.bool (decide (a ≠ b))) :=
  q_int hx hy fun w => by simp [binOp, Op.intCmp, bne]; rfl
theorem q_lss (hx : ρ x = .int k a) (hy : ρ y = .int k b) : QS P w0 ρ ⟨d, .binOp .lss xt x y yt, ty, pos, af, g⟩ H (.bool (decide (a < b))) :=
  q_int hx hy fun w => by simp [binOp, Op.intCmp]
theorem q_leq (hx : ρ x = .int k a) (hy : ρ y = .int k b) : QS P w0 ρ ⟨d, .binOp .leq xt x y yt, ty, pos, af, g⟩ H (.bool (decide (a ≤ b))) :=
  q_int hx hy fun w => by simp [binOp, Op.intCmp]
theorem q_gtr (hx : ρ x = .int k a) (hy : ρ y = .int k b) : QS P w0 ρ ⟨d, .binOp .gtr xt x y yt, ty, pos, af, g⟩ H (.bool (decide (b < a))) :=
  q_int hx hy fun w => by simp [binOp, Op.intCmp]
theorem q_geq (hx : ρ x = .int k a) (hy : ρ y = .int k b) : QS P w0 ρ ⟨d, .binOp .geq xt x y yt, ty, pos, af, g⟩ H (.bool (decide (b ≤ a))) :=
  q_int hx hy fun w => by simp [binOp, Op.intCmp]
end ints
end
end Go.Proofs.Ytfiojlmccflplaa.D
end
section
namespace Go.Proofs.Ytfiojlmccflplaa.D
open Go Go.RowKit
set_option linter.unusedVariables false
set_option linter.unusedSimpArgs false
section
variable {P : Program} {w0 : World} {ρ : Operand → Value} {H : Hp} {d : Option Tmp} {ty : TypeId} {pos : String} {af : Array Edge} {g : Option (Nat × Bool)}
theorem Own.cell {w : World} {b j : Nat} {o : Blk} {v : Value} (h : Own w0 H w) (hb : H b = some o) (hv : o.cells[j]? = some v) : w.cell? ⟨b, j, none⟩ = some v := by
  rcases (h.fits b o hb).2 with ⟨e, c, fr, he, hc, _, _, _, hcs⟩ | ⟨h1, _⟩
  · simp [World.cell?, hc, hcs j v hv]
  · rw [h1] at hv; simp at hv
theorem Own.frozen {w : World} {b j : Nat} {o : Blk} (h : Own w0 H w) (hb : H b = some o) (hj : j < o.size) : w.frozen? ⟨b, j, none⟩ = false := by
  rcases (h.fits b o hb).2 with ⟨e, c, fr, he, hc, _, _, hfr, _⟩ | ⟨_, h1, _⟩
  · have := hfr j hj
    simp only [World.frozen?, hc]
    simpa using this
  · omega
theorem Own.len {w : World} {b : Nat} {o : Blk} (h : Own w0 H w) (hb : H b = some o) : o.cells.length ≤ o.size := by
  rcases (h.fits b o hb).2 with ⟨e, c, fr, _, _, _, hl, _⟩ | ⟨h1, h2, _⟩
  · exact hl
  · rw [h1, h2]; exact Nat.le_refl _
theorem Own.lt {w : World} {b : Nat} {o : Blk} (h : Own w0 H w) (hb : H b = some o) : b < w.heap.size := by
  rcases (h.fits b o hb).2 with ⟨e, c, fr, _, hc, _⟩ | ⟨_, _, es, l, k, _, hc, _⟩
  · exact (Array.getElem?_eq_some_iff.1 hc).1
  · exact (Array.getElem?_eq_some_iff.1 hc).1
theorem Own.fresh {w : World} (h : Own w0 H w) : H w.heap.size = none := by
  cases hb : H w.heap.size with
  | none => rfl
  | some o => exact absurd (h.lt hb) (Nat.lt_irrefl _)
theorem Own.drew {w : World} (h : Own w0 H w) : Own w0 H w.drew := ⟨h.below.drew, fun b o hb => h.fits b o hb⟩
theorem Hp.set_self {H : Hp} {b : Nat} {o : Blk} : (H.set b o) b = some o := by simp [Hp.set]
theorem Hp.set_ne {H : Hp} {b c : Nat} {o : Blk} (h : c ≠ b) : (H.set b o) c = H c := by simp [Hp.set, h]
theorem Hp.le_refl (H : Hp) : H.le H := fun _ _ h => h
theorem Hp.le_set {H H' : Hp} {b : Nat} {o : Blk} (hb : H b = none) (h : H.le H') : H.le (H'.set b o) := fun c q hc => by
  by_cases e : c = b
  · subst e; rw [hb] at hc; cases hc
  · rw [Hp.set_ne e]; exact h c q hc
theorem Hp.le_none {H H' : Hp} {b : Nat} (h : H.le H') (hb : H' b = none) : H b = none := by
  cases e : H b with
  | none => rfl
  | some o => rw [h b o e] at hb; cases hb
theorem Fits.of_eq {w w' : World} {b : Nat} {o : Blk} (h : Fits w b o) (hw : w'.heap[b]? = w.heap[b]?) : Fits w' b o := by
  unfold Fits at *; rw [hw]; exact h
theorem Own.alloc {w : World} (h : Own w0 H w) (cs : List Value) (cs' : Array Value) (hcs : cs'.toList = cs) (e : TypeId) (fr : Nat × Nat) (hfr : fr = (0, 0) ∨ cs.length ≤ fr.1) :
    Own w0 (H.set w.heap.size ⟨cs, cs.length, e⟩) (w.alloc (.cells cs' e fr)) := by
  subst hcs
  refine ⟨h.below.alloc h.below.size _, fun b o hb => ?_⟩
  by_cases hbe : b = w.heap.size
  · subst hbe
    rw [Hp.set_self] at hb
    obtain rfl := Option.some.inj hb
    refine ⟨h.below.size, .inl ⟨e, cs', fr, rfl, heap_alloc_new w _, by simp, by simp, ?_, ?_⟩⟩
    · intro j hj
      simp at hj hfr
      rcases hfr with rfl | hfr
      · simp
      · omega
    · intro j v hv; simpa using hv
  · rw [Hp.set_ne hbe] at hb
    have := h.fits b o hb
    exact ⟨this.1, this.2.of_eq (Below.heap_alloc w _ b (h.lt hb))⟩
theorem setCell_at (w : World) (b j : Nat) (v : Value) {c : Array Value} {e : TypeId} {fr : Nat × Nat} (h : w.heap[b]? = some (.cells c e fr)) :
    (w.setCell ⟨b, j, none⟩ v).heap[b]? = some (.cells (c.setIfInBounds j v) e fr) := by
  simp [World.setCell, Array.getElem?_modify, h]
theorem Own.setCell {w : World} {b j : Nat} {o : Blk} (h : Own w0 H w) (hb : H b = some o) (v : Value) :
    Own w0 (H.set b { o with cells := o.cells.set j v }) (w.setCell ⟨b, j, none⟩ v) := by
  have hbb := h.fits b o hb
  refine ⟨h.below.setCell hbb.1 v, fun b' o' hb' => ?_⟩
  by_cases hbe : b' = b
  · subst hbe
    rw [Hp.set_self] at hb'
    obtain rfl := Option.some.inj hb'
    obtain ⟨hle, ⟨e, c, fr, he, hc, hs, hl, hfr, hcs⟩ | ⟨m1, m2, es, l, k, m3, m4, m5⟩⟩ := hbb
    rotate_left
    · exact ⟨hle, .inr ⟨by simp [m1], m2, es, l, k, m3, by simp [World.setCell, Array.getElem?_modify, m4], m5⟩⟩
    refine ⟨hle, .inl ⟨e, c.setIfInBounds j v, fr, he, setCell_at w b' j v hc, by simpa using hs, by simpa using hl, hfr, ?_⟩⟩
    intro i u hu
    simp only [List.getElem?_set] at hu
    by_cases hij : j = i
    · subst hij
      simp at hu
      obtain ⟨hlt, rfl⟩ := hu
      have : j < c.size := by omega
      simp [this]
    · simp [hij] at hu
      rw [Array.getElem?_setIfInBounds_ne hij]
      exact hcs i u hu
  · rw [Hp.set_ne hbe] at hb'
    have := h.fits b' o' hb'
    exact ⟨this.1, this.2.of_eq (heap_setCell_other w ⟨b, j, none⟩ b' v hbe)⟩
/-- Cells o.cells[j ..] := vs. -/
def put (cs : List Value) (j : Nat) : List Value → List Value
  | [] => cs
  | v :: vs => put (cs.set j v) (j + 1) vs
theorem Addr.add0 (b o j : Nat) : (⟨b, o, none⟩ : Addr).add j = ⟨b, o + j, none⟩ := by unfold Addr.add; split <;> simp_all
theorem Own.storeCells (vs : List Value) : ∀ {w : World} {H : Hp} {b j i : Nat} {o : Blk} (h : Own w0 H w) (hb : H b = some o) (hl : j + i + vs.length ≤ o.cells.length) (h1 : ∀ v ∈ vs, v.oneCell' = true),
    ∃ w', (storeCells ⟨b, j, none⟩ vs i).run P w = .ok () w' ∧ Own w0 (H.set b { o with cells := put o.cells (j + i) vs }) w' := by
  induction vs with
  | nil =>
    intro w H b j i o h hb _ _
    refine ⟨w, rfl, ⟨h.below, fun b' o' hb' => ?_⟩⟩
    by_cases e : b' = b
    · subst e
      rw [Hp.set_self] at hb'
      obtain rfl := Option.some.inj hb'
      exact h.fits b' o hb
    · rw [Hp.set_ne e] at hb'
      exact h.fits b' o' hb'
  | cons v vs ih =>
    intro w H b j i o h hb hl h1
    simp only [List.length_cons] at hl
    have hlt : j + i < o.cells.length := by omega
    have hc := h.cell (j := j + i) hb (List.getElem?_eq_getElem hlt)
    have hsz := h.len hb
    have hf := h.frozen (j := j + i) hb (by omega)
    have h2 := h.setCell (j := j + i) hb v
    have hl2 : j + (i + 1) + vs.length ≤ (o.cells.set (j + i) v).length := by simp; omega
    obtain ⟨w', hr, ho⟩ := ih (i := i + 1) (o := { o with cells := o.cells.set (j + i) v }) h2 Hp.set_self hl2 (fun u hu => h1 u (List.mem_cons_of_mem _ hu))
    refine ⟨w', ?_, ?_⟩
    · simp only [Go.storeCells, Sem.run_bind, Addr.add0, run_store P w _ v .plain (h1 v (List.mem_cons_self ..)), hc, hf]
      simpa using hr
    · refine ⟨ho.below, fun b' o' hb' => ?_⟩
      refine ho.fits b' o' ?_
      by_cases e : b' = b
      · subst e; rw [Hp.set_self] at hb' ⊢; simpa [put, Nat.add_assoc] using hb'
      · rw [Hp.set_ne e] at hb' ⊢; rw [Hp.set_ne e]; exact hb'
def scalT (P : Program) (t : TypeId) : Bool := match P.underlying t with
  | some (.struct _) | some (.array _ _) | none => false
  | some _ => true
def aggT (P : Program) (t : TypeId) (n : Nat) : Bool := (match P.underlying t with
  | some (.struct _) | some (.array _ _) => true
  | _ => false) && ((P.info? t).map (·.size) == some n)
theorem run_isAgg_scal {t : TypeId} (h : scalT P t = true) (w : World) : (isAgg t).run P w = .ok false w := by
  unfold scalT at h
  cases hu : P.underlying t with
  | none => simp [hu] at h
  | some u => cases u <;> simp [hu] at h <;> simp [isAgg, run_underlying hu]
theorem aggT_size {t : TypeId} {n : Nat} (h : aggT P t n = true) (w : World) : (sizeOf t).run P w = .ok n w := by
  unfold aggT at h
  simp only [Bool.and_eq_true, beq_iff_eq] at h
  cases hi : P.info? t with
  | none => simp [hi] at h
  | some i => simp [hi] at h; simp [sizeOf, typeInfo, hi, h.2]
theorem run_isAgg_agg {t : TypeId} {n : Nat} (h : aggT P t n = true) (w : World) : (isAgg t).run P w = .ok true w := by
  unfold aggT at h
  simp only [Bool.and_eq_true] at h
  cases hu : P.underlying t with
  | none => simp [hu] at h
  | some u => cases u <;> simp [hu] at h <;> simp [isAgg, run_underlying hu]
def sizeT (P : Program) (t : TypeId) : Option Nat := (P.info? t).map (·.size)
theorem run_sizeT {t : TypeId} {n : Nat} (h : sizeT P t = some n) (w : World) : (sizeOf t).run P w = .ok n w := by
  unfold sizeT at h
  cases hi : P.info? t with
  | none => simp [hi] at h
  | some i => simp [hi] at h; simp [sizeOf, typeInfo, hi, h]
theorem q_load {t : TypeId} {x : Operand} {b j : Nat} {o : Blk} {v : Value} (ht : scalT P t = true) (hx : ρ x = .pointer (some ⟨b, j, none⟩)) (hb : H b = some o) (hv : o.cells[j]? = some v) :
    QS P w0 ρ ⟨d, .load t x, ty, pos, af, g⟩ H v :=
  QS.of_run fun w ho => by simp [execOp, Instr.loadAt, Instr.sureAddr, hx, loadVar, run_isAgg_scal ht, ho.cell hb hv]
theorem run_loadCells_own {w : World} {b j n : Nat} {o : Blk} {cs : List Value} (h : Own w0 H w) (hb : H b = some o) (hcs : cs.length = n) (hv : ∀ (i : Nat) v, cs[i]? = some v → o.cells[j + i]? = some v) :
    (loadCells ⟨b, j, none⟩ n).run P w = .ok cs.toArray w := by
  subst hcs
  exact run_loadCells_list w ⟨b, j, none⟩ cs fun i v hi => by rw [Addr.add0]; exact h.cell hb (hv i v hi)
theorem q_loadA {t : TypeId} {n : Nat} {x : Operand} {b j : Nat} {o : Blk} {cs : List Value} (ht : aggT P t n = true) (hx : ρ x = .pointer (some ⟨b, j, none⟩)) (hb : H b = some o)
    (hcs : cs.length = n) (hv : ∀ (i : Nat) v, cs[i]? = some v → o.cells[j + i]? = some v) : QS P w0 ρ ⟨d, .load t x, ty, pos, af, g⟩ H (.agg cs.toArray) :=
  QS.of_run fun w ho => by simp [execOp, Instr.loadAt, Instr.sureAddr, hx, loadVar, run_isAgg_agg ht, aggT_size ht, run_loadCells_own ho hb hcs hv]
theorem q_loadA0 {t : TypeId} {n : Nat} {x : Operand} {b : Nat} {o : Blk} (ht : aggT P t n = true) (hx : ρ x = .pointer (some ⟨b, 0, none⟩)) (hb : H b = some o)
    (hcs : o.cells.length = n) : QS P w0 ρ ⟨d, .load t x, ty, pos, af, g⟩ H (.agg o.cells.toArray) :=
  q_loadA ht hx hb hcs (by simp)
theorem o_store {t : TypeId} {x y : Operand} {b j : Nat} {o : Blk} {v : Value} (ht : sizeT P t = some 1) (hx : ρ x = .pointer (some ⟨b, j, none⟩)) (hy : ρ y = v) (hv : v.oneCell' = true) (hb : H b = some o) (hj : j < o.cells.length) :
    OpR P w0 ρ ⟨d, .store t x y, ty, pos, af, g⟩ H (fun u H' => u = undef ∧ H' = H.set b { o with cells := o.cells.set j v }) := by
  intro w ho
  have hc := ho.cell (j := j) hb (List.getElem?_eq_getElem hj)
  have hsz := ho.len hb
  have hf := ho.frozen (j := j) hb (by omega)
  have hcells : v.cells = #[v] := by cases v <;> simp_all [Value.oneCell', Value.cells]
  have hst := run_store P w ⟨b, j, none⟩ v .plain hv
  have : (execOp ρ ⟨d, .store t x y, ty, pos, af, g⟩).run P w = .ok .skip (w.setCell ⟨b, j, none⟩ v) := by
    simp [execOp, Instr.storeAt, Instr.sureAddr, hx, hy, storeVar, hcells, run_sizeT ht, Go.storeCells, Addr.add0, hst, hc, hf]
  rw [this]
  exact ⟨_, ho.setCell hb v, rfl, rfl⟩
theorem o_storeA {t : TypeId} {n : Nat} {x y : Operand} {b j : Nat} {o : Blk} {cs : List Value} (ht : sizeT P t = some n) (hx : ρ x = .pointer (some ⟨b, j, none⟩)) (hy : ρ y = .agg cs.toArray) (hn : cs.length = n)
    (h1 : ∀ v ∈ cs, v.oneCell' = true) (hb : H b = some o) (hj : j + n ≤ o.cells.length) :
    OpR P w0 ρ ⟨d, .store t x y, ty, pos, af, g⟩ H (fun u H' => u = undef ∧ H' = H.set b { o with cells := put o.cells j cs }) := by
  intro w ho
  obtain ⟨w', hr, ho'⟩ := ho.storeCells (P := P) (i := 0) (j := j) cs hb (by omega) h1
  have : (execOp ρ ⟨d, .store t x y, ty, pos, af, g⟩).run P w = .ok .skip w' := by
    simp [execOp, Instr.storeAt, Instr.sureAddr, hx, hy, storeVar, Value.cells, run_sizeT ht, hn, hr]
  rw [this]
  exact ⟨_, ho', rfl, rfl⟩
abbrev Made (H : Hp) (cs : List Value) (e : TypeId) (u : Value) (H' : Hp) : Prop := ∃ b, H b = none ∧ u = .pointer (some ⟨b, 0, none⟩) ∧ H' = H.set b ⟨cs, cs.length, e⟩
theorem o_box {t : TypeId} {x : Operand} {v : Value} {cs : List Value} (hx : ρ x = v) (hc : v.cells.toList = cs) :
    OpR P w0 ρ ⟨d, .box t x, ty, pos, af, g⟩ H (Made H cs t) := by
  intro w ho
  have : (execOp ρ ⟨d, .box t x, ty, pos, af, g⟩).run P w = .ok (.value (.pointer (some ⟨w.heap.size, 0, none⟩))) (w.alloc (.cells v.cells t (0, 0))) := by
    simp [execOp, Instr.box, hx, newVar, newRow]
  rw [this]
  exact ⟨_, ho.alloc cs _ hc t (0, 0) (.inl rfl), w.heap.size, ho.fresh, rfl, rfl⟩
def zeroT (P : Program) (t : TypeId) : Option Value := (P.info? t).bind (·.zero)
theorem run_zeroT {t : TypeId} {z : Value} (h : zeroT P t = some z) (w : World) : (zeroValue t).run P w = .ok z w := by
  unfold zeroT at h
  cases hi : P.info? t with
  | none => simp [hi] at h
  | some i => simp [hi] at h; simp [zeroValue, typeInfo, hi, h]
theorem o_alloc {t : TypeId} {z : Value} {cs : List Value} (hz : zeroT P t = some z) (hc : z.cells.toList = cs) :
    OpR P w0 ρ ⟨d, .alloc t, ty, pos, af, g⟩ H (Made H cs t) := by
  intro w ho
  have : (execOp ρ ⟨d, .alloc t, ty, pos, af, g⟩).run P w = .ok (.value (.pointer (some ⟨w.heap.size, 0, none⟩))) (w.alloc (.cells z.cells t (0, 0))) := by
    simp [execOp, Instr.alloc, run_zeroT hz, newVar, newRow]
  rw [this]
  exact ⟨_, ho.alloc cs _ hc t (0, 0) (.inl rfl), w.heap.size, ho.fresh, rfl, rfl⟩
end
end Go.Proofs.Ytfiojlmccflplaa.D
end
section
namespace Go.Proofs.Ytfiojlmccflplaa.D
open Go Go.RowKit
set_option linter.unusedVariables false
set_option linter.unusedSimpArgs false
section
variable {P : Program} {w0 : World} {n : Nat} {H : Hp}
/-- In the text's order, operation by operation. -/
def QG (P : Program) (w0 : World) (n : Nat) (ops : Array Oper) (H : Hp) (e : Env) (o : Oper) (v : Value) : Prop :=
  dstOk n o.dst = true ∧ ((Region.wanted o (yieldE ops e) = true ∧ QS P w0 (ev e) o H v) ∨ (Region.wanted o (yieldE ops e) = false ∧ v = undef))
def SeqQ (P : Program) (w0 : World) (n : Nat) (ops : Array Oper) (H : Hp) : List Oper → Env → (Env → Prop) → Prop
  | [], e, K => K e
  | o :: l, e, K => ∃ v, QG P w0 n ops H e o v ∧ SeqQ P w0 n ops H l (putE e o.dst v) K
theorem SeqQ.nil {ops : Array Oper} {e : Env} {K : Env → Prop} (h : K e) : SeqQ P w0 n ops H [] e K := h
def envAt (l : List Oper) (vals : Nat → Value) (e : Env) : Nat → Env
  | 0 => e
  | i + 1 => putE (envAt l vals e i) ((l[i]?).bind (·.dst)) (vals i)
theorem envAt_shift (o : Oper) (l : List Oper) (vals : Nat → Value) (e : Env) (i : Nat) :
    envAt (o :: l) vals e (i + 1) = envAt l (fun j => vals (j + 1)) (putE e o.dst (vals 0)) i := by
  induction i with
  | zero => rfl
  | succ i ih => rw [envAt, ih]; simp [envAt]
theorem SeqQ.vals {ops : Array Oper} : ∀ {l : List Oper} {e : Env} {K : Env → Prop}, SeqQ P w0 n ops H l e K →
    ∃ vals : Nat → Value, (∀ i o, l[i]? = some o → QG P w0 n ops H (envAt l vals e i) o (vals i)) ∧ K (envAt l vals e l.length) := by
  intro l
  induction l with
  | nil => intro e K h; exact ⟨fun _ => undef, by simp, h⟩
  | cons o l ih =>
    intro e K ⟨v, hq, h⟩
    obtain ⟨vals, h1, h2⟩ := ih h
    refine ⟨fun i => match i with | 0 => v | i + 1 => vals i, ?_, ?_⟩
    · intro i o' hi
      cases i with
      | zero => simp at hi; subst hi; exact hq
      | succ i => simp at hi; rw [envAt_shift]; exact h1 i o' hi
    · rw [List.length_cons, envAt_shift]; exact h2
def edge (ops : Array Oper) (i j : Nat) : Bool := match ops[i]? with
  | some o => o.after.any fun e => e.on == j && Region.binds .any e
  | none => false
def reach (ops : Array Oper) : Nat → Nat → Nat → Bool
  | 0, _, _ => false
  | f + 1, i, j => edge ops i j || (match ops[i]? with
    | some o => o.after.any fun e => Region.binds .any e && (decide (j < e.on) && reach ops f e.on j)
    | none => false)
def dstAt (ops : Array Oper) (i : Nat) : Option Tmp := (ops[i]?).bind (·.dst)
def looks (ops : Array Oper) (i : Nat) : List Tmp := match ops[i]? with
  | some o => o.looksAt ops
  | none => []
def isSelect : Op → Bool
  | .select _ _ => true
  | _ => false
def isMove (o : Oper) : Bool := match o.op with
  | .move _ => o.guard.isNone
  | _ => false
/-- Moves that may be carried out first. -/
def takeOk (ops : Array Oper) : List Nat → Array Bool → Bool
  | [], _ => true
  | i :: F, listed => (Region.ready .any ops listed).contains i && Region.free .any ops listed i && (match ops[i]? with | some o => isMove o | none => false) && takeOk ops F (listed.setIfInBounds i true)
/-- A plain move that stands behind, and may be carried out first; none, if there are not so many operations. -/
def isConst (o : Oper) : Bool := match o.op with
  | .move _ => o.guard.isNone
  | _ => false
def floatOk (ops : Array Oper) (k f : Nat) : Bool := match ops[f]? with
  | none => true
  | some o => decide (k ≤ f) && isConst o && (match o.dst with
    | some t => (List.range k).all fun i => dstAt ops i != some t && !(looks ops i).contains t
    | none => false)
def firsts (ops : Array Oper) (F : List Nat) (f : Nat) : List Nat := bif Nat.blt f ops.size then f :: F else F
def drawOk (ops : Array Oper) (F : List Nat) (k f : Nat) : Bool :=
  decide (k ≤ ops.size) && Region.noSelect ops && takeOk ops (firsts ops F f) (Array.replicate ops.size false) && (F.all fun i => decide (i < k)) && floatOk ops k f &&
  ((List.range ops.size).all fun i => match ops[i]? with
    | some o => (o.after.all fun e => !Region.binds .any e || decide (e.on < i)) && !isSelect o.op
    | none => false) &&
  ((List.range k).all fun i => ((looks ops i).all fun t => (List.range k).all fun j => dstAt ops j != some t || (j != i && edge ops i j)) &&
    (List.range k).all fun j => j == i || dstAt ops j == none || dstAt ops j != dstAt ops i) &&
  ((List.range ops.size).all fun i => decide (i < k) || i == f || (List.range i).all fun j => j == f || F.contains j || reach ops 16 i j)
def Shut (ops : Array Oper) (listed : Array Bool) : Prop :=
  ∀ i o, ops[i]? = some o → listed.getD i true = true → ∀ e ∈ o.after.toList, Region.binds .any e = true → listed.getD e.on false = true
theorem Shut.edge {ops : Array Oper} {listed : Array Bool} (h : Shut ops listed) {i j : Nat} (hi : listed.getD i true = true) (he : edge ops i j = true) : listed.getD j false = true := by
  unfold D.edge at he
  cases ho : ops[i]? with
  | none => simp [ho] at he
  | some o =>
    simp only [ho, Array.any_eq_true, Bool.and_eq_true, beq_iff_eq] at he
    obtain ⟨m, hm, rfl, hb⟩ := he
    exact h i o ho hi _ (by simp) hb
/-- All that a ready operation waits for is listed. -/
def Waits (ops : Array Oper) (listed : Array Bool) (i : Nat) : Prop := ∀ o, ops[i]? = some o → ∀ e ∈ o.after.toList, Region.binds .any e = true → listed.getD e.on false = true
theorem Waits.edge {ops : Array Oper} {listed : Array Bool} {i j : Nat} (h : Waits ops listed i) (he : edge ops i j = true) : listed.getD j false = true := by
  unfold D.edge at he
  cases ho : ops[i]? with
  | none => simp [ho] at he
  | some o =>
    simp only [ho, Array.any_eq_true, Bool.and_eq_true, beq_iff_eq] at he
    obtain ⟨m, hm, rfl, hb⟩ := he
    exact h o ho _ (by simp) hb
theorem getD_true {listed : Array Bool} {j : Nat} (h : listed.getD j false = true) : listed.getD j true = true := by
  simp only [Array.getD_eq_getD_getElem?] at *
  cases hj : listed[j]? with
  | none => simp [hj] at h
  | some b => simp [hj] at h ⊢; exact h
theorem Shut.reach {ops : Array Oper} {listed : Array Bool} (hs : Shut ops listed) : ∀ f i j, Waits ops listed i → reach ops f i j = true → listed.getD j false = true := by
  intro f
  induction f with
  | zero => intro i j _ h; simp [D.reach] at h
  | succ f ih =>
    intro i j hw h
    simp only [D.reach, Bool.or_eq_true] at h
    rcases h with h | h
    · exact hw.edge h
    · cases ho : ops[i]? with
      | none => simp [ho] at h
      | some o =>
        simp only [ho, Array.any_eq_true, Bool.and_eq_true] at h
        obtain ⟨m, hm, hb, _, hr⟩ := h
        have hl := hw o ho o.after[m] (by simp) hb
        exact ih _ j (fun o' ho' e he hb' => hs _ o' ho' (getD_true hl) e he hb') hr
/-- The operations from place i on, but for the one at f. -/
def tl (f : Nat) : Nat → List Oper → List Oper
  | _, [] => []
  | i, o :: l => bif Nat.beq i f then tl f (i + 1) l else o :: tl f (i + 1) l
theorem tl_none {f : Nat} : ∀ {l : List Oper} {i : Nat}, i + l.length ≤ f → tl f i l = l := by
  intro l
  induction l with
  | nil => intro i _; rfl
  | cons o l ih =>
    intro i h
    simp only [List.length_cons] at h
    have : Nat.beq i f = false := by
      cases hh : Nat.beq i f with
      | false => rfl
      | true => have := Nat.eq_of_beq_eq_true hh; omega
    rw [tl, this, cond_false, ih (by omega)]
theorem mem_ready {ops : Array Oper} {listed : Array Bool} {i : Nat} : i ∈ Region.ready .any ops listed ↔ i < ops.size ∧ listed.getD i true = false ∧ Waits ops listed i := by
  unfold Region.ready Waits
  simp only [List.mem_filter, List.mem_range, Bool.and_eq_true, Bool.not_eq_true']
  constructor
  · rintro ⟨hi, hl, hw⟩
    refine ⟨hi, hl, ?_⟩
    intro o ho e he hb
    simp only [ho, Option.map_some, Option.getD_some, Array.all_eq_true] at hw
    obtain ⟨m, hm, rfl⟩ := Array.getElem_of_mem (Array.mem_toList_iff.1 he)
    have := hw m hm
    simpa [hb] using this
  · rintro ⟨hi, hl, hw⟩
    refine ⟨hi, hl, ?_⟩
    have ho : ops[i]? = some ops[i] := Array.getElem?_eq_getElem hi
    simp only [ho, Option.map_some, Option.getD_some, Array.all_eq_true]
    intro m hm
    cases hb : Region.binds .any ops[i].after[m] with
    | false => simp
    | true => simp [hw _ ho ops[i].after[m] (by simp) hb]
end
end Go.Proofs.Ytfiojlmccflplaa.D
end
section
namespace Go.Proofs.Ytfiojlmccflplaa.D
open Go Go.RowKit
set_option linter.unusedVariables false
set_option linter.unusedSimpArgs false
section
variable {P : Program} {w0 : World} {n : Nat} {H : Hp}
theorem upd_same (e : Env) (t : Nat) (v : Value) : upd e t v t = v := by simp [upd]
theorem upd_ne (e : Env) {t u : Nat} (v : Value) (h : u ≠ t) : upd e t v u = e u := by simp [upd, h]
theorem putE_some (e : Env) (t : Nat) (v : Value) : putE e (some t) v t = v := upd_same ..
theorem putE_ne (e : Env) {d : Option Tmp} {u : Nat} (v : Value) (h : d ≠ some u) : putE e d v u = e u := by
  cases d with
  | none => rfl
  | some t => exact upd_ne e v (fun x => h (x ▸ rfl))
theorem envAt_not {l : List Oper} {vals : Nat → Value} {e : Env} {t : Nat} : ∀ i, (∀ j, j < i → (l[j]?).bind (·.dst) ≠ some t) → envAt l vals e i t = e t := by
  intro i
  induction i with
  | zero => intro _; rfl
  | succ i ih => intro h; rw [envAt, putE_ne _ _ (h i (by omega))]; exact ih fun j hj => h j (by omega)
theorem envAt_got {l : List Oper} {vals : Nat → Value} {e : Env} {t : Nat} {j : Nat} (hj : (l[j]?).bind (·.dst) = some t) : ∀ i, j < i → (∀ m, j < m → m < i → (l[m]?).bind (·.dst) ≠ some t) → envAt l vals e i t = vals j := by
  intro i
  induction i with
  | zero => intro h; omega
  | succ i ih =>
    intro h hm
    by_cases e : j = i
    · subst e; rw [envAt, hj, putE_some]
    · rw [envAt, putE_ne _ _ (hm i (by omega) (by omega))]
      exact ih (by omega) fun m h1 h2 => hm m h1 (by omega)
def unl (ops : Array Oper) (listed : Array Bool) : List Nat := (List.range ops.size).filter fun i => !listed.getD i true
theorem getD_set {listed : Array Bool} {i j : Nat} (hi : i < listed.size) : (listed.setIfInBounds i true).getD j true = (if j = i then true else listed.getD j true) := by
  by_cases h : j = i
  · subst h; simp [hi]
  · rw [if_neg h]; simp [Array.getElem?_setIfInBounds_ne (Ne.symm h)]
theorem getDf_set {listed : Array Bool} {i j : Nat} (hi : i < listed.size) : (listed.setIfInBounds i true).getD j false = (if j = i then true else listed.getD j false) := by
  by_cases h : j = i
  · subst h; simp [hi]
  · rw [if_neg h]; simp [Array.getElem?_setIfInBounds_ne (Ne.symm h)]
theorem unl_set {ops : Array Oper} {listed : Array Bool} {i : Nat} (hi : i < ops.size) (hs : listed.size = ops.size) (hl : listed.getD i true = false) :
    (unl ops (listed.setIfInBounds i true)).length < (unl ops listed).length := by
  have : unl ops (listed.setIfInBounds i true) = (unl ops listed).filter fun j => decide (j ≠ i) := by
    unfold unl
    rw [List.filter_filter]
    refine List.filter_congr fun j hj => ?_
    rw [getD_set (by omega)]
    by_cases h : j = i
    · subst h; simp
    · simp [h]
  rw [this, List.length_filter_lt_length_iff_exists]
  exact ⟨i, by simp only [unl, List.mem_filter, List.mem_range, hl]; exact ⟨hi, rfl⟩, by simp⟩
structure DrawOk (ops : Array Oper) (F : List Nat) (k f : Nat) : Prop where
  le : k ≤ ops.size
  nosel : Region.noSelect ops = true
  take : takeOk ops (firsts ops F f) (Array.replicate ops.size false) = true
  flo : floatOk ops k f = true
  fle : ∀ i ∈ F, i < k
  back : ∀ (i : Nat) (o : Oper), ops[i]? = some o → ∀ e ∈ o.after.toList, Region.binds .any e = true → e.on < i
  sel : ∀ (i : Nat) (o : Oper), ops[i]? = some o → isSelect o.op = false
  look : ∀ i, i < k → ∀ t ∈ looks ops i, ∀ j, j < k → dstAt ops j = some t → j ≠ i ∧ edge ops i j = true
  dist : ∀ i j t, i < k → j < k → dstAt ops i = some t → dstAt ops j = some t → i = j
  tail : ∀ i j, k ≤ i → i < ops.size → i ≠ f → j < i → j = f ∨ j ∈ F ∨ reach ops 16 i j = true
theorem DrawOk.of {ops : Array Oper} {F : List Nat} {k f : Nat} (h : drawOk ops F k f = true) : DrawOk ops F k f := by
  unfold drawOk at h
  simp only [Bool.and_eq_true, decide_eq_true_eq, List.all_eq_true, List.mem_range] at h
  obtain ⟨⟨⟨⟨⟨⟨⟨h1, hns⟩, htk⟩, hfl⟩, hflo⟩, h2⟩, h3⟩, h4⟩ := h
  refine ⟨h1, hns, htk, hflo, hfl, ?_, ?_, ?_, ?_, ?_⟩
  · intro i o ho e he hb
    have hi : i < ops.size := (Array.getElem?_eq_some_iff.1 ho).1
    have := h2 i hi
    simp only [ho, Bool.and_eq_true, Array.all_eq_true] at this
    obtain ⟨m, hm, rfl⟩ := Array.getElem_of_mem (Array.mem_toList_iff.1 he)
    have := this.1 m hm
    simpa [hb] using this
  · intro i o ho
    have hi : i < ops.size := (Array.getElem?_eq_some_iff.1 ho).1
    have := h2 i hi
    simp only [ho, Bool.and_eq_true] at this
    simpa using this.2
  · intro i hi t ht j hj hd
    have := (h3 i hi).1 t ht j hj
    simpa [hd] using this
  · intro i j t hi hj hdi hdj
    have := (h3 i hi).2 j hj
    simp [hdi, hdj] at this
    exact this.symm
  · intro i j hk hi hif hj
    have := h4 i hi
    simp only [Bool.or_eq_true, decide_eq_true_eq, List.all_eq_true, List.mem_range, beq_iff_eq] at this
    rcases this with (h | h) | h
    · omega
    · exact absurd h hif
    · have := h j hj
      rcases this with (h | h) | h
      · exact .inl h
      · exact .inr (.inl (by simpa [List.contains_iff_mem] using h))
      · exact .inr (.inr h)
theorem mem_looks_op {ops : Array Oper} {i : Nat} {o : Oper} (ho : ops[i]? = some o) {t : Tmp} (h : .tmp t ∈ o.op.operands) : t ∈ looks ops i := by
  simp only [looks, ho, Oper.looksAt, List.mem_append, List.mem_filterMap]
  exact .inl ⟨.tmp t, by simpa using h, rfl⟩
theorem mem_looks_guard {ops : Array Oper} {i j : Nat} {o : Oper} {b : Bool} (ho : ops[i]? = some o) (hg : o.guard = some (j, b)) {t : Tmp} (h : dstAt ops j = some t) : t ∈ looks ops i := by
  simp only [looks, ho, Oper.looksAt, List.mem_append, hg]
  right
  simp only [dstAt] at h
  simp [h]
theorem QG.congr {ops : Array Oper} {i : Nat} {o : Oper} {e e' : Env} {v : Value} (ho : ops[i]? = some o) (hs : isSelect o.op = false) (h : ∀ t ∈ looks ops i, e t = e' t) (hq : QG P w0 n ops H e o v) : QG P w0 n ops H e' o v := by
  have h1 : Region.wanted o (yieldE ops e) = Region.wanted o (yieldE ops e') := by
    unfold Region.wanted
    cases hg : o.guard with
    | none => rfl
    | some gj =>
      obtain ⟨j, b⟩ := gj
      have : yieldE ops e j = yieldE ops e' j := by
        unfold yieldE
        cases hd : (ops[j]?).bind (·.dst) with
        | none => rfl
        | some t => simp only [h t (mem_looks_guard ho hg hd)]
      simp only [this]
  have h2 : execOp (ev e) o = execOp (ev e') o := by
    refine execOp_congr o ?_ ?_
    · intro cs b hh; rw [hh] at hs; cases hs
    · intro x hx
      cases x with
      | tmp t => exact h t (mem_looks_op ho hx)
      | _ => rfl
  obtain ⟨hd, hq⟩ := hq
  refine ⟨hd, ?_⟩
  rw [← h1]
  refine hq.imp (fun ⟨a, b⟩ => ⟨a, ?_⟩) id
  unfold QS OpR at *
  rw [← h2]
  exact b
/-- The one operation of the first k that changes what is owned. -/
def QE (P : Program) (w0 : World) (n : Nat) (ops : Array Oper) (H H1 : Hp) (e : Env) (o : Oper) (v : Value) : Prop :=
  dstOk n o.dst = true ∧ Region.wanted o (yieldE ops e) = true ∧ OpR P w0 (ev e) o H fun u H' => u = v ∧ H' = H1
theorem looks_congr {ops : Array Oper} {i : Nat} {o : Oper} {e e' : Env} (ho : ops[i]? = some o) (hs : isSelect o.op = false) (h : ∀ t ∈ looks ops i, e t = e' t) :
    Region.wanted o (yieldE ops e) = Region.wanted o (yieldE ops e') ∧ execOp (ev e) o = execOp (ev e') o := by
  constructor
  · unfold Region.wanted
    cases hg : o.guard with
    | none => rfl
    | some gj =>
      obtain ⟨j, b⟩ := gj
      have : yieldE ops e j = yieldE ops e' j := by
        unfold yieldE
        cases hd : (ops[j]?).bind (·.dst) with
        | none => rfl
        | some t => simp only [h t (mem_looks_guard ho hg hd)]
      simp only [this]
  · refine execOp_congr o ?_ ?_
    · intro cs b hh; rw [hh] at hs; cases hs
    · intro x hx
      cases x with
      | tmp t => exact h t (mem_looks_op ho hx)
      | _ => rfl
theorem QE.congr {ops : Array Oper} {H1 : Hp} {i : Nat} {o : Oper} {e e' : Env} {v : Value} (ho : ops[i]? = some o) (hs : isSelect o.op = false) (h : ∀ t ∈ looks ops i, e t = e' t) (hq : QE P w0 n ops H H1 e o v) : QE P w0 n ops H H1 e' o v := by
  obtain ⟨h1, h2⟩ := looks_congr ho hs h
  obtain ⟨hd, hw, hr⟩ := hq
  refine ⟨hd, by rw [← h1]; exact hw, ?_⟩
  unfold OpR at *
  rw [← h2]
  exact hr
def hpAt (H H1 : Hp) (c : Nat) (listed : Array Bool) : Hp := bif listed.getD c false then H1 else H
theorem wpAny_tail {ops : Array Oper} {F : List Nat} {k f : Nat} (hok : DrawOk ops F k f) {Q : Exit → Act → World → Prop} :
    ∀ (d fuel i : Nat) (listed : Array Bool) (a : Act) (w : World), i + d = ops.size → k ≤ i → listed.size = ops.size → (∀ j, j < i → listed.getD j true = true) → (∀ j, i ≤ j → j < ops.size → j ≠ f → listed.getD j true = false) → listed.getD f true = true →
      (unl ops listed).length ≤ fuel → wpList P ops Q (tl f i (ops.toList.drop i)) a w → wpAny P .any ops Q fuel listed a w := by
  intro d
  induction d with
  | zero =>
    intro fuel i listed a w hid hk hs h1 h2 h3 hf hw
    obtain rfl : i = ops.size := by omega
    refine wpAny_done ?_ (by simpa [List.drop_of_length_le, tl, wpList] using hw) fuel
    rw [List.eq_nil_iff_forall_not_mem]
    intro j hj
    obtain ⟨hj1, hj2, _⟩ := mem_ready.1 hj
    rw [h1 j hj1] at hj2; cases hj2
  | succ d ih =>
    intro fuel i listed a w hid hk hs h1 h2 h3 hf hw
    have hi1 : i < ops.size := by omega
    have hdrop : ops.toList.drop i = ops[i] :: ops.toList.drop (i + 1) := by
      rw [List.drop_eq_getElem_cons (by simpa using hi1)]; simp
    by_cases hif : i = f
    · subst hif
      rw [hdrop, tl, Nat.beq_refl, cond_true] at hw
      exact ih fuel (i + 1) listed a w (by omega) (by omega) hs (fun j hj => by
        by_cases e : j = i
        · rw [e]; exact h3
        · exact h1 j (by omega)) (fun j hj hj2 hjf => h2 j (by omega) hj2 hjf) h3 hf hw
    have hbe : Nat.beq i f = false := by
      cases hh : Nat.beq i f with
      | false => rfl
      | true => exact absurd (Nat.eq_of_beq_eq_true hh) hif
    rw [hdrop, tl, hbe, cond_false] at hw
    have hunl : listed.getD i true = false := h2 i (Nat.le_refl _) hi1 hif
    cases fuel with
    | zero =>
      have hnil : unl ops listed = [] := List.eq_nil_of_length_eq_zero (by omega)
      have : i ∈ unl ops listed := by simp only [unl, List.mem_filter, List.mem_range, hunl]; exact ⟨hi1, rfl⟩
      rw [hnil] at this; cases this
    | succ fuel =>
    have todf : ∀ m, m < ops.size → listed.getD m true = true → listed.getD m false = true := by
      intro m hm h3
      simp only [Array.getD_eq_getD_getElem?] at h3 ⊢
      have : m < listed.size := by rw [hs]; exact hm
      simpa [this] using h3
    have hready : ∀ j ∈ Region.ready .any ops listed, j = i := by
      intro j hj
      obtain ⟨hj1, hj2, hj3⟩ := mem_ready.1 hj
      rcases Nat.lt_trichotomy j i with h | h | h
      · rw [h1 j h] at hj2; cases hj2
      · exact h
      · have hjf : j ≠ f := fun e => by rw [e, h3] at hj2; cases hj2
        have hsh : Shut ops listed := by
          intro m o hm hl e he hb
          have hms : m < ops.size := (Array.getElem?_eq_some_iff.1 hm).1
          by_cases hmf : m = f
          · subst hmf
            have hflo := hok.flo
            have hb2 := hok.back m o hm e he hb
            have htk := hok.take
            unfold firsts at htk
            rw [show Nat.blt m ops.size = true from by simpa [Nat.blt, Nat.succ_le_iff] using hms, cond_true] at htk
            simp only [takeOk, Bool.and_eq_true] at htk
            obtain ⟨_, _, hwt⟩ := mem_ready.1 (by simpa using htk.1.1.1 : m ∈ Region.ready .any ops (Array.replicate ops.size false))
            have := hwt o hm e he hb
            have h5 : e.on < ops.size := by omega
            simp [h5] at this
          · have hmi : m < i := by
              rcases Nat.lt_or_ge m i with h | h
              · exact h
              · have := h2 m h hms hmf
                rw [this] at hl; cases hl
            have := hok.back m o hm e he hb
            exact todf _ (by omega) (h1 e.on (by omega))
        have hF : ¬ i ∈ F := fun hF => by have := hok.fle i hF; omega
        have := hsh.reach 16 j i hj3 (((hok.tail j i (by omega) hj1 hjf h).resolve_left hif).resolve_left hF)
        have := getD_true this
        rw [hunl] at this; cases this
    refine ⟨fun hnil => ?_, fun j hj => ?_⟩
    · have : i ∈ Region.ready .any ops listed := by
        refine mem_ready.2 ⟨hi1, hunl, ?_⟩
        intro o ho e he hb
        have hb := hok.back i o ho e he hb
        exact todf _ (by omega) (h1 _ hb)
      rw [hnil] at this; cases this
    · obtain rfl := hready j hj
      unfold wpOp
      simp only [Array.getElem?_eq_getElem hi1]
      have next : ∀ a w, wpList P ops Q (tl f (j + 1) (ops.toList.drop (j + 1))) a w → wpAny P .any ops Q fuel (listed.setIfInBounds j true) a w := by
        intro a w h
        refine ih fuel (j + 1) _ a w (by omega) (by omega) (by simpa using hs) ?_ ?_ ?_ ?_ h
        · intro m hm; rw [getD_set (by omega)]; split
          · rfl
          · exact h1 m (by omega)
        · intro m hm hm2 hmf; rw [getD_set (by omega), if_neg (by omega)]; exact h2 m (by omega) hm2 hmf
        · rw [getD_set (by omega)]; split
          · rfl
          · exact h3
        · have := unl_set hi1 hs hunl; omega
      unfold wpList at hw
      split
      · rename_i hwant
        rw [if_pos hwant] at hw
        exact hw.imp (Oper.wp_mono next) id
      · rename_i hwant
        rw [if_neg hwant] at hw
        exact next _ _ hw
structure Inv (ops : Array Oper) (F : List Nat) (k f : Nat) (vals : Nat → Value) (e0 : Env) (listed : Array Bool) (e : Env) : Prop where
  size : listed.size = ops.size
  shut : Shut ops listed
  rest : ∀ j, k ≤ j → j < ops.size → j ≠ f → listed.getD j true = false
  got : ∀ j, j < k → listed.getD j true = true → ∀ t, dstAt ops j = some t → e t = vals j
  not : ∀ t, (∀ j, j < k → listed.getD j true = true → dstAt ops j ≠ some t) → e t = e0 t
  fl : ∀ j ∈ F, listed.getD j true = true
theorem envAt_hit {ops : Array Oper} {F : List Nat} {k f : Nat} (hok : DrawOk ops F k f) {vals : Nat → Value} {e0 : Env} {i j : Nat} {t : Tmp} (hj : j < k) (hi : i ≤ k) (hji : j < i) (hd : dstAt ops j = some t) :
    envAt ops.toList vals e0 i t = vals j := by
  have hdst : ∀ j, (ops.toList[j]?).bind (·.dst) = dstAt ops j := fun j => by simp [dstAt]
  refine envAt_got (by rw [hdst]; exact hd) i hji fun m h1 h2 hm => ?_
  rw [hdst] at hm
  have := hok.dist j m t hj (by omega) hd hm
  omega
theorem envAt_miss {ops : Array Oper} {vals : Nat → Value} {e0 : Env} {i : Nat} {t : Tmp} (h : ∀ j, j < i → dstAt ops j ≠ some t) : envAt ops.toList vals e0 i t = e0 t := by
  have hdst : ∀ j, (ops.toList[j]?).bind (·.dst) = dstAt ops j := fun j => by simp [dstAt]
  exact envAt_not i fun j hj => by rw [hdst]; exact h j hj
/-- A ready operation sees what it would see in the text's order. -/
theorem Inv.sees {ops : Array Oper} {F G : List Nat} {k f : Nat} (hok : DrawOk ops F k f) {vals : Nat → Value} {e0 e : Env} {listed : Array Bool} (hi : Inv ops G k f vals e0 listed e)
    {i : Nat} (hi1 : i < ops.size) (hik : i < k) (hi3 : Waits ops listed i) : ∀ t ∈ looks ops i, envAt ops.toList vals e0 i t = e t := by
  intro t ht
  have hoi : ops[i]? = some ops[i] := Array.getElem?_eq_getElem hi1
  by_cases hex : ∃ j, j < k ∧ dstAt ops j = some t
  · obtain ⟨j, hj, hd⟩ := hex
    obtain ⟨hne, hed⟩ := hok.look i hik t ht j hj hd
    have hlj := hi3.edge hed
    have hji : j < i := by
      unfold D.edge at hed
      simp only [hoi, Array.any_eq_true, Bool.and_eq_true, beq_iff_eq] at hed
      obtain ⟨m, hm, rfl, hb⟩ := hed
      exact hok.back i _ hoi _ (by simp) hb
    rw [hi.got j hj (getD_true hlj) t hd, envAt_hit hok hj (by omega) hji hd]
  · have hne : ∀ j, j < k → dstAt ops j ≠ some t := fun j hj hd => hex ⟨j, hj, hd⟩
    rw [hi.not t fun j hj _ => hne j hj, envAt_miss fun j hj => hne j (by omega)]
theorem Inv.step {ops : Array Oper} {F G : List Nat} {k f : Nat} (hok : DrawOk ops F k f) {vals : Nat → Value} {e0 e : Env} {listed : Array Bool} (hi : Inv ops G k f vals e0 listed e)
    {i : Nat} (hi1 : i < ops.size) (hik : i < k) (hi3 : Waits ops listed i) : Inv ops G k f vals e0 (listed.setIfInBounds i true) (putE e ops[i].dst (vals i)) := by
  have hoi : ops[i]? = some ops[i] := Array.getElem?_eq_getElem hi1
  have hlt : i < listed.size := by rw [hi.size]; exact hi1
  refine ⟨by simpa using hi.size, ?_, ?_, ?_, ?_, ?_⟩
  · intro m o hm hl ed he hb
    rw [getDf_set hlt]
    split
    · rfl
    · rw [getD_set hlt] at hl
      by_cases hmi : m = i
      · subst hmi
        exact hi3 o hm ed he hb
      · rw [if_neg hmi] at hl
        exact hi.shut m o hm hl ed he hb
  · intro j hj1 hj2 hjf
    rw [getD_set hlt, if_neg (by omega)]
    exact hi.rest j hj1 hj2 hjf
  · intro j hj hl t hd
    by_cases hji : j = i
    · subst hji
      have : ops[j].dst = some t := by simpa [dstAt, hoi] using hd
      rw [this, putE_some]
    · rw [getD_set hlt, if_neg hji] at hl
      rw [putE_ne _ _ ?_]
      · exact hi.got j hj hl t hd
      · intro hh
        exact hji (hok.dist j i t hj hik hd (by simpa [dstAt, hoi] using hh))
  · intro t hh
    have hne : ops[i].dst ≠ some t := by
      have := hh i hik (by rw [getD_set hlt, if_pos rfl])
      simpa [dstAt, hoi] using this
    rw [putE_ne _ _ hne]
    refine hi.not t fun j hj hl => ?_
    refine hh j hj ?_
    rw [getD_set hlt]; split
    · rfl
    · exact hl
  · intro j hj
    rw [getD_set hlt]; split
    · rfl
    · exact hi.fl j hj
theorem wpAny_draw {ops : Array Oper} {F : List Nat} {k f : Nat} (hok : DrawOk ops F k f) {vals : Nat → Value} {e0 : Env}
    {H1 : Hp} {c : Nat} {C : Prop} (hck : c < k ∨ ops.size ≤ c)
    (hq : ∀ i o, i < k → i ≠ c → ops[i]? = some o → (C → reach ops 16 i c = false → QG P w0 n ops H (envAt ops.toList vals e0 i) o (vals i)) ∧ (c < k → reach ops 16 c i = false → QG P w0 n ops H1 (envAt ops.toList vals e0 i) o (vals i)))
    (hc : C → ∀ o, c < k → ops[c]? = some o → QE P w0 n ops H H1 (envAt ops.toList vals e0 c) o (vals c)) {Q : Exit → Act → World → Prop}
    (hK : ∀ a w, Fr n (envAt ops.toList vals e0 k) a → Own w0 (bif Nat.blt c k then H1 else H) w → wpList P ops Q (tl f k (ops.toList.drop k)) a w) :
    ∀ (fuel : Nat) (listed : Array Bool) (e : Env) (a : Act) (w : World), Inv ops F k f vals e0 listed e → listed.getD f true = true → (listed.getD c false = false → C) → Fr n e a → Own w0 (hpAt H H1 c listed) w → (unl ops listed).length ≤ fuel → wpAny P .any ops Q fuel listed a w := by
  have done : ∀ (fuel : Nat) (listed : Array Bool) (e : Env) (a : Act) (w : World), Inv ops F k f vals e0 listed e → listed.getD f true = true → (listed.getD c false = false → C) → Fr n e a → Own w0 (hpAt H H1 c listed) w → (unl ops listed).length ≤ fuel →
      (∀ j, j < k → listed.getD j true = true) → wpAny P .any ops Q fuel listed a w := by
    intro fuel listed e a w hi hlf hC hf ho hfuel hall
    have he : e = envAt ops.toList vals e0 k := by
      funext t
      by_cases hex : ∃ j, j < k ∧ dstAt ops j = some t
      · obtain ⟨j, hj, hd⟩ := hex
        rw [hi.got j hj (hall j hj) t hd, envAt_hit hok hj (Nat.le_refl _) hj hd]
      · have hne : ∀ j, j < k → dstAt ops j ≠ some t := fun j hj hd => hex ⟨j, hj, hd⟩
        rw [hi.not t fun j hj _ => hne j hj, envAt_miss hne]
    have hle := hok.le
    have hhp : hpAt H H1 c listed = bif Nat.blt c k then H1 else H := by
      rcases hck with h | h
      · have h1 : listed.getD c false = true := by
          have := hall c h
          simp only [Array.getD_eq_getD_getElem?] at this ⊢
          have h3 : c < listed.size := by rw [hi.size]; omega
          simpa [h3] using this
        have h2 : Nat.blt c k = true := by simpa [Nat.blt, Nat.succ_le_iff] using h
        rw [hpAt, h1, h2]
      · have h1 : listed.getD c false = false := by
          rw [Array.getD_eq_getD_getElem?, Array.getElem?_eq_none (by rw [hi.size]; exact h)]; rfl
        have h2 : Nat.blt c k = false := by
          cases hh : Nat.blt c k with
          | false => rfl
          | true => exfalso; simp [Nat.blt] at hh; omega
        rw [hpAt, h1, h2]
    rw [hhp] at ho
    exact wpAny_tail hok (ops.size - k) fuel k listed a w (by omega) (Nat.le_refl _) hi.size hall hi.rest hlf hfuel (hK a w (he ▸ hf) ho)
  intro fuel
  induction fuel with
  | zero =>
    intro listed e a w hi hlf hC hf ho hfuel
    refine done 0 listed e a w hi hlf hC hf ho hfuel fun j hj => ?_
    cases hl : listed.getD j true with
    | true => rfl
    | false =>
      have hnil : unl ops listed = [] := List.eq_nil_of_length_eq_zero (by omega)
      have hle := hok.le
      have : j ∈ unl ops listed := by simp only [unl, List.mem_filter, List.mem_range, hl]; exact ⟨by omega, rfl⟩
      rw [hnil] at this; cases this
  | succ fuel ih =>
    intro listed e a w hi hlf hC hf ho hfuel
    by_cases hall : ∀ j, j < k → listed.getD j true = true
    · exact done (fuel + 1) listed e a w hi hlf hC hf ho hfuel hall
    have hle := hok.le
    -- the least that is not listed
    have hleast : ∃ j, j < k ∧ listed.getD j true = false ∧ ∀ m, m < j → listed.getD m true = true := by
      have : ∃ j, j < k ∧ listed.getD j true = false := by
        refine Classical.byContradiction fun hno => hall fun j hj => ?_
        cases hl : listed.getD j true with
        | true => rfl
        | false => exact (hno ⟨j, hj, hl⟩).elim
      obtain ⟨j, hj, hl⟩ := this
      induction j using Nat.strongRecOn with
      | _ j ihj =>
        by_cases hm : ∃ m, m < j ∧ listed.getD m true = false
        · obtain ⟨m, hm1, hm2⟩ := hm
          exact ihj m hm1 (by omega) hm2
        · refine ⟨j, hj, hl, fun m hmj => ?_⟩
          cases hl' : listed.getD m true with
          | true => rfl
          | false => exact (hm ⟨m, hmj, hl'⟩).elim
    have todf : ∀ m, m < ops.size → listed.getD m true = true → listed.getD m false = true := by
      intro m hm h3
      simp only [Array.getD_eq_getD_getElem?] at h3 ⊢
      have : m < listed.size := by rw [hi.size]; exact hm
      simpa [this] using h3
    refine ⟨fun hnil => ?_, fun i hir => ?_⟩
    · obtain ⟨j, hj, hl, hm⟩ := hleast
      have : j ∈ Region.ready .any ops listed := by
        refine mem_ready.2 ⟨by omega, hl, ?_⟩
        intro o hoo ed he hb
        have hb := hok.back j o hoo ed he hb
        exact todf _ (by omega) (hm _ hb)
      rw [hnil] at this; cases this
    · obtain ⟨hi1, hi2, hi3⟩ := mem_ready.1 hir
      have hik : i < k := by
        rcases Nat.lt_or_ge i k with h | h
        · exact h
        · obtain ⟨j, hj, hl, _⟩ := hleast
          have hif : i ≠ f := fun e => by rw [e, hlf] at hi2; cases hi2
          have hjf : j ≠ f := fun e => by rw [e, hlf] at hl; cases hl
          have := hi.shut.reach 16 i j hi3 (((hok.tail i j h hi1 hif (by omega)).resolve_left hjf).resolve_left fun hF => by have := hi.fl j hF; rw [hl] at this; cases this)
          have := getD_true this
          rw [hl] at this; cases this
      have hoi : ops[i]? = some ops[i] := Array.getElem?_eq_getElem hi1
      have hsees := hi.sees hok hi1 hik hi3
      have hsz : i < listed.size := by rw [hi.size]; exact hi1
      by_cases hic : i = c
      · subst hic
        obtain ⟨hd, hw, hr⟩ := (hc (hC (by
          simp only [Array.getD_eq_getD_getElem?] at hi2 ⊢
          simpa [hsz] using hi2)) _ hik hoi).congr hoi (hok.sel i _ hoi) hsees
        have hcf : hpAt H H1 i listed = H := by
          have : listed.getD i false = false := by
            simp only [Array.getD_eq_getD_getElem?] at hi2 ⊢
            simpa [hsz] using hi2
          rw [hpAt, this]; rfl
        rw [hcf] at ho
        unfold wpOp
        simp only [hoi]
        rw [wanted_congr _ (hf.yielded ops), if_pos hw]
        exact .inl (Res.wp (ops := ops) (Q := fun _ _ _ => False) hf ho hr fun v H' w' hr ho' => by
          obtain ⟨rfl, rfl⟩ := hr
          refine ih _ _ _ w' (hi.step hok hi1 hik hi3) (by
            rw [getD_set hsz]; split
            · rfl
            · exact hlf) (fun h => by rw [getDf_set hsz, if_pos rfl] at h; cases h) (hf.put hd _) ?_ (by have := unl_set hi1 hi.size hi2; omega)
          have : hpAt H H' i (listed.setIfInBounds i true) = H' := by
            rw [hpAt, getDf_set hsz, if_pos rfl]; rfl
          rw [this]; exact ho')
      · have hqe : QG P w0 n ops (hpAt H H1 c listed) e ops[i] (vals i) := by
          cases hcl : listed.getD c false with
          | false =>
            rw [hpAt, hcl, cond_false]
            refine ((hq i _ hik hic hoi).1 (hC hcl) ?_).congr hoi (hok.sel i _ hoi) hsees
            cases hre : reach ops 16 i c with
            | false => rfl
            | true => have := hi.shut.reach 16 i c hi3 hre; rw [hcl] at this; cases this
          | true =>
            rw [hpAt, hcl, cond_true]
            have hck' : c < k := by
              rcases hck with h | h
              · exact h
              · rw [Array.getD_eq_getD_getElem?, Array.getElem?_eq_none (by rw [hi.size]; exact h)] at hcl; cases hcl
            refine ((hq i _ hik hic hoi).2 hck' ?_).congr hoi (hok.sel i _ hoi) hsees
            cases hre : reach ops 16 c i with
            | false => rfl
            | true =>
              have hw : Waits ops listed c := fun o ho' ed he hb => hi.shut c o ho' (getD_true hcl) ed he hb
              have := hi.shut.reach 16 c i hw hre
              have := getD_true this
              rw [hi2] at this; cases this
        have hsame : hpAt H H1 c (listed.setIfInBounds i true) = hpAt H H1 c listed := by
          rw [hpAt, hpAt, getDf_set hsz, if_neg (Ne.symm hic)]
        have next : ∀ a' w', Fr n (putE e ops[i].dst (vals i)) a' → Own w0 (hpAt H H1 c listed) w' → wpAny P .any ops Q fuel (listed.setIfInBounds i true) a' w' := fun a' w' hf' ho' =>
          ih _ _ a' w' (hi.step hok hi1 hik hi3) (by
            rw [getD_set hsz]; split
            · rfl
            · exact hlf) (fun h => hC (by rw [getDf_set hsz, if_neg (Ne.symm hic)] at h; exact h)) hf' (by rw [hsame]; exact ho') (by have := unl_set hi1 hi.size hi2; omega)
        unfold wpOp
        simp only [hoi]
        rw [wanted_congr _ (hf.yielded ops)]
        obtain ⟨hd, hqq⟩ := hqe
        rcases hqq with ⟨hw, hs⟩ | ⟨hw, hv⟩
        · rw [if_pos hw]
          exact .inl (Res.wp (ops := ops) (Q := fun _ _ _ => False) hf ho hs fun v H' w' hr ho' => by
            obtain ⟨rfl, rfl⟩ := hr
            exact next _ _ (hf.put hd _) ho')
        · rw [if_neg (by simp [hw]), ← hv]
          exact next _ _ (hf.put hd _) ho
theorem wpAny_takes {ops : Array Oper} {F : List Nat} {k f : Nat} (hok : DrawOk ops F k f) {vals : Nat → Value} {e0 : Env}
    {c : Nat} (hq : ∀ i o, i < k → i ≠ c → ops[i]? = some o → reach ops 16 i c = false → QG P w0 n ops H (envAt ops.toList vals e0 i) o (vals i)) {Q : Post} {T : Array Bool → Prop}
    (hK : ∀ fuel listed e a w, T listed → Inv ops [] k f vals e0 listed e → listed.getD c false = false → Fr n e a → Own w0 H w → (unl ops listed).length ≤ fuel → wpAny P .any ops (lift w0 n Q) fuel listed a w) :
    ∀ (G : List Nat) (fuel : Nat) (listed : Array Bool) (e : Env) (a : Act) (w : World), (∀ i ∈ G, i < k ∧ i ≠ c) → takeOk ops G listed = true → T (G.foldl (fun l i => l.setIfInBounds i true) listed) →
      Inv ops [] k f vals e0 listed e → listed.getD c false = false → Fr n e a → Own w0 H w → (unl ops listed).length ≤ fuel → wpAny P .any ops (lift w0 n Q) fuel listed a w := by
  intro G
  induction G with
  | nil => intro fuel listed e a w _ _ hT hi hcl hf ho hfu; exact hK fuel listed e a w hT hi hcl hf ho hfu
  | cons i G ih =>
    intro fuel listed e a w hlt htk hT hi hcl hf ho hfu
    simp only [takeOk, Bool.and_eq_true] at htk
    obtain ⟨⟨⟨hr, hfree⟩, hmv⟩, htk⟩ := htk
    obtain ⟨hi1, hi2, hi3⟩ := mem_ready.1 (by simpa using hr : i ∈ Region.ready .any ops listed)
    have hik := (hlt i (by simp)).1
    have hic := (hlt i (by simp)).2
    have hre : reach ops 16 i c = false := by
      cases hre : reach ops 16 i c with
      | false => rfl
      | true => have := hi.shut.reach 16 i c hi3 hre; rw [hcl] at this; cases this
    have hoi : ops[i]? = some ops[i] := Array.getElem?_eq_getElem hi1
    have hqe := (hq i _ hik hic hoi hre).congr hoi (hok.sel i _ hoi) (hi.sees hok hi1 hik hi3)
    have hun := unl_set hi1 hi.size hi2
    cases fuel with
    | zero => omega
    | succ fuel =>
      simp only [hoi] at hmv
      obtain ⟨hd, hqq⟩ := hqe
      refine wpAny_take (i := i) (oi := ops[i]) (v := vals i) hoi hok.nosel hfree hr (fun _ _ _ h => h.1.elim) ?_ ?_
      · generalize hoe : ops[i] = o at hmv hqq
        obtain ⟨dst, op, ty, pos, af, g⟩ := o
        cases op <;> simp only [isMove] at hmv <;> try cases hmv
        rename_i x
        cases g with
        | some _ => cases hmv
        | none =>
          rcases hqq with ⟨_, hs⟩ | ⟨hw, _⟩
          · have h1 := hs w ho
            have h2 : (execOp (D.ev e) ⟨dst, .move x, ty, pos, af, none⟩).run P w = .ok (.value (D.ev e x)) w := rfl
            rw [h2] at h1
            obtain ⟨H', ho', hv, _⟩ := h1
            refine .inl ⟨rfl, fun w => ?_⟩
            have h3 : (execOp a.eval ⟨dst, .move x, ty, pos, af, none⟩).run P w = .ok (.value (a.eval x)) w := rfl
            rw [h3, hf.ev, hv]
          · cases hw
      · exact ih fuel _ _ _ w (fun j hj => hlt j (by simp [hj])) htk hT (hi.step hok hi1 hik hi3) (by rw [getDf_set (by rw [hi.size]; exact hi1), if_neg (Ne.symm hic)]; exact hcl) (hf.put hd _) ho (by omega)
theorem taken {G : List Nat} : ∀ {listed : Array Bool}, (∀ i ∈ G, i < listed.size) → ∀ j, (j ∈ G ∨ listed.getD j true = true) → (G.foldl (fun l i => l.setIfInBounds i true) listed).getD j true = true := by
  induction G with
  | nil => intro listed _ j h; exact h.resolve_left (by simp)
  | cons i G ih =>
    intro listed hG j h
    refine ih (fun m hm => by simpa using hG m (by simp [hm])) j ?_
    rw [getD_set (hG i (by simp))]
    by_cases hj : j = i
    · exact .inr (by simp [hj])
    · rw [if_neg hj]
      rcases h with h | h
      · exact .inl ((List.mem_cons.1 h).resolve_left hj)
      · exact .inr h
theorem SeqQ.take {ops : Array Oper} {l : List Oper} {e : Env} {K : Env → Prop} (h : SeqQ P w0 n ops H l e K) : ∃ vals : Nat → Value, (∀ i o, l[i]? = some o → QG P w0 n ops H (envAt l vals e i) o (vals i)) ∧ K (envAt l vals e l.length) := h.vals
theorem envAt_take {l : List Oper} {k : Nat} {vals : Nat → Value} {e : Env} : ∀ i, i ≤ k → envAt (l.take k) vals e i = envAt l vals e i := by
  intro i
  induction i with
  | zero => intro _; rfl
  | succ i ih => intro h; rw [envAt, envAt, ih (by omega), List.getElem?_take_of_lt (by omega)]
/-- The constant's move, first of all. -/
theorem AW.drawE {id : Nat} {l : List Oper} {Q : Post} {e : Env} (F : List Nat) (k f c : Nat) {H1 : Hp} {t : Tmp} {x : Operand} {cv : Value} {ty : TypeId} {pos : String} {af : Array Edge} (hm : P.follows .mixedOrders = true) (hok : drawOk l.toArray F k f = true)
    (hf : f < l.length → l[f]? = some ⟨some t, .move x, ty, pos, af, none⟩ ∧ dstOk n (some t) = true ∧ D.ev e x = cv)
    (hck : c < k ∨ l.length ≤ c) (hcF : ∀ i ∈ F, i ≠ c) (hcf : c ≠ f ∨ l.length ≤ c) {vals : Nat → Value}
    (hq : ∀ i o, i < k → i ≠ c → l[i]? = some o → (reach l.toArray 16 i c = false → QG P w0 n l.toArray H (envAt l vals e i) o (vals i)) ∧ (c < k → reach l.toArray 16 c i = false → QG P w0 n l.toArray H1 (envAt l vals e i) o (vals i)))
    (hc : ∀ o, c < k → l[c]? = some o → QE P w0 n l.toArray H H1 (envAt l vals e c) o (vals c))
    (h2 : OpsW P w0 n l.toArray Q (tl f k (l.drop k)) (bif Nat.blt f l.length then upd (envAt l vals e k) t cv else envAt l vals e k) (bif Nat.blt c k then H1 else H)) : AW P w0 n (.region id l.toArray true) Q e H := by
  have hok' := DrawOk.of hok
  have hk : k ≤ l.length := by simpa using hok'.le
  intro a w hfr ho
  refine wp_region_any hm ?_
  have inv0 : Inv l.toArray [] k f vals e (Array.replicate l.toArray.size false) e := by
    refine ⟨by simp, ?_, ?_, ?_, ?_, by simp⟩
    · intro i o hoo hl ed he hb
      have hi : i < l.toArray.size := (Array.getElem?_eq_some_iff.1 hoo).1
      have hi2 : i < l.length := by simpa using hi
      simp [hi2] at hl
    · intro j _ hj _
      have hj2 : j < l.length := by simpa using hj
      simp [hj2]
    · intro j hj hl
      have hj2 : j < l.length := by omega
      simp [hj2] at hl
    · intro t _; rfl
  have unl0 : (unl l.toArray (Array.replicate l.toArray.size false)).length ≤ l.toArray.size := by
    unfold unl
    have := List.length_filter_le (fun i => !(Array.replicate l.toArray.size false).getD i true) (List.range l.toArray.size)
    simpa using this
  have rest : ∀ (e' : Env) (L0 : Array Bool), (∀ i o, i < k → i ≠ c → l.toArray[i]? = some o → (reach l.toArray 16 i c = false → QG P w0 n l.toArray H (envAt l.toArray.toList vals e' i) o (vals i)) ∧ (c < k → reach l.toArray 16 c i = false → QG P w0 n l.toArray H1 (envAt l.toArray.toList vals e' i) o (vals i))) →
      (∀ o, c < k → l.toArray[c]? = some o → QE P w0 n l.toArray H H1 (envAt l.toArray.toList vals e' c) o (vals c)) → takeOk l.toArray F L0 = true → Inv l.toArray [] k f vals e' L0 e' → L0.getD f true = true → L0.getD c false = false →
      (∀ a w, Fr n (envAt l vals e' k) a → Own w0 (bif Nat.blt c k then H1 else H) w → wpList P l.toArray (lift w0 n Q) (tl f k (l.drop k)) a w) →
      ∀ fuel a w, Fr n e' a → Own w0 H w → (unl l.toArray L0).length ≤ fuel → wpAny P .any l.toArray (lift w0 n Q) fuel L0 a w := by
    intro e' L0 hq' hc' htk hinv hlf hcl hK fuel a w hfr ho hfu
    refine wpAny_takes (F := F) (k := k) (f := f) hok' (vals := vals) (e0 := e') (H := H) (c := c) (fun i o h1 h2 h3 h4 => (hq' i o h1 h2 h3).1 h4) (T := fun listed => ∀ j, j ∈ F ∨ L0.getD j true = true → listed.getD j true = true) (Q := Q) ?_ F fuel L0 e' a w (fun i hi => ⟨hok'.fle i hi, hcF i hi⟩) htk ?_ hinv hcl hfr ho hfu
    · intro fuel listed e1 a w hT hi hcl1 hf ho hfu
      refine wpAny_draw (k := k) hok' (vals := vals) (e0 := e') (H := H) (H1 := H1) (c := c) (C := True) (by simpa using hck) (fun i o h1 h2 h3 => ⟨fun _ => (hq' i o h1 h2 h3).1, (hq' i o h1 h2 h3).2⟩) (fun _ => hc') ?_ fuel listed e1 a w ⟨hi.size, hi.shut, hi.rest, hi.got, hi.not, fun j hj => hT j (.inl hj)⟩ (hT f (.inr hlf)) (fun _ => trivial) hf (by rw [hpAt, hcl1]; exact ho) hfu
      intro a w hf ho
      simpa using hK a w (by simpa using hf) ho
    · intro j hj
      exact taken (fun i hi => by have := hok'.fle i hi; rw [hinv.size]; simp; omega) j hj
  have rep0 : (Array.replicate l.toArray.size false).getD c false = false := by
    rw [Array.getD_eq_getD_getElem?, Array.getElem?_replicate]; split <;> rfl
  have htk := hok'.take
  unfold firsts at htk
  cases hb : Nat.blt f l.length with
  | false =>
    have hge : l.length ≤ f := by
      rcases Nat.lt_or_ge f l.length with h | h
      · have : Nat.blt f l.length = true := by simpa [Nat.blt, Nat.succ_le_iff] using h
        rw [this] at hb; cases hb
      · exact h
    rw [show Nat.blt f l.toArray.size = false from by simpa using hb, cond_false] at htk
    rw [hb, cond_false] at h2
    exact rest e _ (by simpa using hq) (by simpa using hc) htk inv0 (by rw [Array.getD_eq_getD_getElem?, Array.getElem?_eq_none (by simp; omega)]; rfl) rep0 h2 _ a _ hfr ho.drew unl0
  | true =>
    have hlt : f < l.length := by simpa [Nat.blt, Nat.succ_le_iff] using hb
    rw [show Nat.blt f l.toArray.size = true from by simpa using hb, cond_true] at htk
    rw [hb, cond_true] at h2
    obtain ⟨hof, hd, hx⟩ := hf hlt
    have hof' : l.toArray[f]? = some ⟨some t, .move x, ty, pos, af, none⟩ := by simpa using hof
    have hflo := hok'.flo
    unfold floatOk at hflo
    simp only [hof', Bool.and_eq_true, decide_eq_true_eq, List.all_eq_true, List.mem_range, bne_iff_ne, ne_eq, Bool.not_eq_true'] at hflo
    obtain ⟨⟨hkf, _⟩, hno⟩ := hflo
    simp only [takeOk, Bool.and_eq_true] at htk
    obtain ⟨⟨⟨hr, hfree⟩, _⟩, htk⟩ := htk
    obtain ⟨hf1, hf2, hf3⟩ := mem_ready.1 (by simpa using hr : f ∈ Region.ready .any l.toArray (Array.replicate l.toArray.size false))
    have hun := unl_set hf1 (by simp) hf2
    have hev : ∀ i, i ≤ k → envAt l.toArray.toList vals (upd e t cv) i = upd (envAt l.toArray.toList vals e i) t cv := by
      intro i
      induction i with
      | zero => intro _; rfl
      | succ i ih =>
        intro hi
        rw [envAt, envAt, ih (by omega)]
        have hne : (l.toArray.toList[i]?).bind (·.dst) ≠ some t := by
          have := (hno i (by omega)).1
          simpa [dstAt] using this
        cases hdi : (l.toArray.toList[i]?).bind (·.dst) with
        | none => rfl
        | some u =>
          rw [hdi] at hne
          have hut : u ≠ t := fun h => hne (by rw [h])
          funext x
          simp only [putE, upd]
          by_cases hxu : x = u
          · subst hxu; simp [hut]
          · by_cases hxt : x = t
            · subst hxt; simp [hxu]
            · simp [hxu, hxt]
    suffices hall : ∀ fuel, (unl l.toArray (Array.replicate l.toArray.size false)).length ≤ fuel → wpAny P .any l.toArray (lift w0 n Q) fuel (Array.replicate l.toArray.size false) a w.drew from hall _ unl0
    intro fuel hfu
    cases fuel with
    | zero => omega
    | succ fuel =>
    refine wpAny_take (i := f) (oi := ⟨some t, .move x, ty, pos, af, none⟩) (v := cv) hof' hok'.nosel hfree hr (fun _ _ _ h => h.1.elim) (.inl ⟨rfl, fun w => by
      have h3 : (execOp a.eval ⟨some t, .move x, ty, pos, af, none⟩).run P w = .ok (.value (a.eval x)) w := rfl
      rw [h3, hfr.ev, hx]⟩) ?_
    refine rest (upd e t cv) _ ?_ ?_ htk ?_ ?_ ?_ ?_ fuel _ _ (hfr.put hd _) ho.drew (by omega)
    · intro i o hi hic hoo
      have hsm : ∀ u ∈ looks l.toArray i, envAt l vals e i u = upd (envAt l vals e i) t cv u := by
        intro u hu
        have := (hno i hi).2
        have hut : u ≠ t := fun h => by
          subst h
          have : (looks l.toArray i).contains u = true := by simpa using hu
          simp_all
        exact (upd_ne _ _ hut).symm
      rw [hev i (by omega)]
      obtain ⟨q1, q2⟩ := hq i o hi hic (by simpa using hoo)
      exact ⟨fun hr => (q1 hr).congr hoo (hok'.sel i o hoo) hsm, fun hck hr => (q2 hck hr).congr hoo (hok'.sel i o hoo) hsm⟩
    · intro o hck' hoo
      have hsm : ∀ u ∈ looks l.toArray c, envAt l vals e c u = upd (envAt l vals e c) t cv u := by
        intro u hu
        have := (hno c hck').2
        have hut : u ≠ t := fun h => by
          subst h
          have : (looks l.toArray c).contains u = true := by simpa using hu
          simp_all
        exact (upd_ne _ _ hut).symm
      rw [hev c (by omega)]
      exact (hc o hck' (by simpa using hoo)).congr hoo (hok'.sel c o hoo) hsm
    · refine ⟨by simp, ?_, ?_, ?_, fun _ _ => rfl, by simp⟩
      · intro m o hm hl ed he hbd
        rw [getDf_set (by simpa using hf1)]
        split
        · rfl
        · rw [getD_set (by simpa using hf1)] at hl
          by_cases hmi : m = f
          · subst hmi; exact hf3 o hm ed he hbd
          · rw [if_neg hmi] at hl; exact inv0.shut m o hm hl ed he hbd
      · intro j hj1 hj2 hjf
        rw [getD_set (by simpa using hf1), if_neg hjf]
        exact inv0.rest j hj1 hj2 hjf
      · intro j hj hl u hdu
        rw [getD_set (by simpa using hf1), if_neg (by omega)] at hl
        have hj2 : j < l.length := by omega
        simp [hj2] at hl
    · rw [getD_set (by simpa using hf1), if_pos rfl]
    · rw [getDf_set (by simpa using hf1), if_neg (by rcases hcf with h | h <;> omega)]
      exact rep0
    · have := hev k (Nat.le_refl _)
      simp only [] at this
      rw [show envAt l vals (upd e t cv) k = upd (envAt l vals e k) t cv from this]
      exact h2
theorem AW.drawC {id : Nat} {l : List Oper} {Q : Post} {e : Env} (F : List Nat) (k f : Nat) {t : Tmp} {x : Operand} {cv : Value} {ty : TypeId} {pos : String} {af : Array Edge} (hm : P.follows .mixedOrders = true) (hok : drawOk l.toArray F k f = true)
    (hf : f < l.length → l[f]? = some ⟨some t, .move x, ty, pos, af, none⟩ ∧ dstOk n (some t) = true ∧ D.ev e x = cv)
    (h : SeqQ P w0 n l.toArray H (l.take k) e fun e' => OpsW P w0 n l.toArray Q (tl f k (l.drop k)) (bif Nat.blt f l.length then upd e' t cv else e') H) : AW P w0 n (.region id l.toArray true) Q e H := by
  have hok' := DrawOk.of hok
  obtain ⟨vals, h1, h2⟩ := h.vals
  have hk : k ≤ l.length := by simpa using hok'.le
  have hlen : (l.take k).length = k := by simp; omega
  rw [hlen, envAt_take k (Nat.le_refl _)] at h2
  have hb : Nat.blt l.length k = false := by
    cases hh : Nat.blt l.length k with
    | false => rfl
    | true => exfalso; simp [Nat.blt] at hh; omega
  refine AW.drawE F k f l.length (H1 := H) hm hok hf (.inr (Nat.le_refl _)) (fun i hi => by have := hok'.fle i hi; omega) (.inr (Nat.le_refl _)) (vals := vals) ?_ (fun o h => by omega) (by rw [hb]; exact h2)
  intro i o hi _ hoo
  have := h1 i o (by rw [List.getElem?_take_of_lt hi]; exact hoo)
  rw [envAt_take i (by omega)] at this
  exact ⟨fun _ => this, fun _ _ => this⟩
theorem AW.draw {id : Nat} {l : List Oper} {Q : Post} {e : Env} (F : List Nat) (k : Nat) (hm : P.follows .mixedOrders = true) (hok : drawOk l.toArray F k l.length = true)
    (h : SeqQ P w0 n l.toArray H (l.take k) e fun e' => OpsW P w0 n l.toArray Q (l.drop k) e' H) : AW P w0 n (.region id l.toArray true) Q e H := by
  have hok' := DrawOk.of hok
  have hk : k ≤ l.length := by simpa using hok'.le
  refine AW.drawC F k l.length (t := 0) (x := .const undef) (cv := undef) (ty := 0) (pos := "") (af := #[]) hm hok (fun h => by omega) ?_
  have hb : Nat.blt l.length l.length = false := by
    cases hh : Nat.blt l.length l.length with
    | false => rfl
    | true => exfalso; simp [Nat.blt] at hh; omega
  rw [hb, tl_none (by simp; omega)]
  simpa using h
end
end Go.Proofs.Ytfiojlmccflplaa.D
end
section
namespace Go.Proofs.Ytfiojlmccflplaa.D
open Go Go.RowKit
set_option linter.unusedVariables false
set_option linter.unusedSimpArgs false
def str (l : List UInt8) : ByteArray := ⟨⟨l⟩⟩
abbrev S (l : List UInt8) : Value := .string (str l)
theorem str_size (l : List UInt8) : (str l).size = l.length := rfl
theorem str_of (s : ByteArray) : str s.data.toList = s := rfl
theorem str_append (a b : List UInt8) : str a ++ str b = str (a ++ b) := by
  apply ByteArray.ext
  simp [str, ByteArray.data_append]
theorem str_extract (l : List UInt8) (a b : Nat) : (str l).extract a b = str ((l.take b).drop a) := by
  apply ByteArray.ext
  simp [str, ByteArray.data_extract]
  rw [List.drop_take]
theorem str_toList (l : List UInt8) : (str l).toList = l := by
  rw [ByteArray.toList_eq]; rfl
theorem beq_dec (a b : List UInt8) : (a == b) = decide (a = b) := by
  by_cases h : a = b <;> simp [h]
/-- A byte as the number that Go reads. -/
def bt (l : List UInt8) (i : Nat) : Int := ((l.getD i 0).toNat : Int)
theorem bt_range (l : List UInt8) (i : Nat) : 0 ≤ bt l i ∧ bt l i ≤ 255 := by
  unfold bt
  have := (l.getD i 0).toNat_lt
  omega
section
variable {P : Program} {w0 : World} {ρ : Operand → Value} {H : Hp} {d : Option Tmp} {ty : TypeId} {pos : String} {af : Array Edge} {g : Option (Nat × Bool)}
theorem eqGuard_str (op : BinOp) (t : TypeId) (x y : Operand) (a b : ByteArray) (w : World) : (eqGuard op t x y (.string a) (.string b)).run P w = .ok () w := by
  unfold eqGuard; split <;> rfl
theorem q_str {op : BinOp} {xt yt : TypeId} {x y : Operand} {a b : List UInt8} {v : Value} (hx : ρ x = S a) (hy : ρ y = S b) (hv : ∀ w, (Op.stringOp op (str a) (str b)).run P w = .ok v w) (ho : op ≠ .shl ∧ op ≠ .shr) :
    QS P w0 ρ ⟨d, .binOp op xt x y yt, ty, pos, af, g⟩ H v :=
  QS.of_run fun w _ => by
    have : binOp op xt (S a) (S b) = Op.stringOp op (str a) (str b) := by cases op <;> rfl
    simp only [execOp, hx, hy, Sem.run_bind, eqGuard_str, Result.andThen_ok, this, hv, Sem.run_pure]
theorem q_cat {xt yt : TypeId} {x y : Operand} {a b : List UInt8} (hx : ρ x = S a) (hy : ρ y = S b) (hl : a.length + b.length ≤ 9223372036854775807) :
    QS P w0 ρ ⟨d, .binOp .add xt x y yt, ty, pos, af, g⟩ H (S (a ++ b)) :=
  q_str hx hy (fun w => by
    have : ¬ (((str a).size + (str b).size : Nat) : Int) > IntKind.i64.max := by
      rw [str_size, str_size]; simp only [IntKind.max, IntKind.signed, IntKind.bits, if_true]; omega
    simp only [Op.stringOp, if_neg this, Sem.run_pure, str_append]) ⟨by simp, by simp⟩
theorem q_eqS {xt yt : TypeId} {x y : Operand} {a b : List UInt8} (hx : ρ x = S a) (hy : ρ y = S b) :
    QS P w0 ρ ⟨d, .binOp .eql xt x y yt, ty, pos, af, g⟩ H (.bool (decide (a = b))) :=
  q_str hx hy (fun w => by simp only [Op.stringOp, Sem.run_pure, str_toList, beq_dec]) ⟨by simp, by simp⟩
theorem q_neS {xt yt : TypeId} {x y : Operand} {a b : List UInt8} (hx : ρ x = S a) (hy : ρ y = S b) :
    QS P w0 ρ ⟨d, .binOp .neq xt x y yt, ty, pos, af, g⟩ H (.bool (decide (a ≠ b))) :=
  q_str hx hy (fun w => by simp only [Op.stringOp, Sem.run_pure, str_toList, decide_not, beq_dec]) ⟨by simp, by simp⟩
theorem q_indexS {t : TypeId} {x i : Operand} {l : List UInt8} {k : IntKind} {n : Int} (ht : P.underlying t = some .string) (hx : ρ x = S l) (hi : ρ i = .int k n) (h0 : 0 ≤ n) (h1 : n < l.length) :
    QS P w0 ρ ⟨d, .index t x i, ty, pos, af, g⟩ H (.int .u8 (bt l n.toNat)) :=
  QS.of_run fun w _ => by
    have hlt : n.toNat < l.length := by omega
    simp only [execOp, hx, hi, Sem.run_bind, run_index_string w t (str l) k n ht]
    rw [dif_pos ⟨h0, by rw [str_size]; exact h1⟩]
    simp only [Result.andThen_ok, Sem.run_pure, bt]
    have : (str l)[n.toNat]'(by rw [str_size]; exact hlt) = l.getD n.toNat 0 := by
      simp only [List.getD_eq_getElem?_getD, List.getElem?_eq_getElem hlt, Option.getD_some]; rfl
    rw [this]
theorem run_sliceBound' (k : IntKind) (i : Int) (y : Nat) (code : BoundsCode) (w : World) (h0 : 0 ≤ i) (h1 : i ≤ y) : (Instr.sliceBound (.int k i) y code).run P w = .ok i.toNat w := by
  simp [Instr.sliceBound, asIntOf, h0, h1]
theorem q_sliceS {t : TypeId} {x lo hi : Operand} {l : List UInt8} {k k' : IntKind} {a b : Int} (ht : P.underlying t = some .string) (hx : ρ x = S l) (ha : ρ lo = .int k a) (hb : ρ hi = .int k' b)
    (h0 : 0 ≤ a) (h1 : a ≤ b) (h2 : b ≤ l.length) : QS P w0 ρ ⟨d, .slice t x (some lo) (some hi) none, ty, pos, af, g⟩ H (S ((l.take b.toNat).drop a.toNat)) :=
  QS.of_run fun w _ => by
    simp [execOp, Instr.sliceAt, run_underlying ht, hx, ha, hb, Instr.slice, Instr.sliceBounds,
      run_sliceBound' k' b (str l).size _ w (by omega) (by rw [str_size]; omega), run_sliceBound' k a b.toNat _ w h0 (by omega), str_extract]
theorem q_sliceS_hi {t : TypeId} {x hi : Operand} {l : List UInt8} {k' : IntKind} {b : Int} (ht : P.underlying t = some .string) (hx : ρ x = S l) (hb : ρ hi = .int k' b)
    (h0 : 0 ≤ b) (h2 : b ≤ l.length) : QS P w0 ρ ⟨d, .slice t x none (some hi) none, ty, pos, af, g⟩ H (S (l.take b.toNat)) :=
  QS.of_run fun w _ => by
    simp [execOp, Instr.sliceAt, run_underlying ht, hx, hb, Instr.slice, Instr.sliceBounds,
      run_sliceBound' k' b (str l).size _ w h0 (by rw [str_size]; omega), str_extract]
theorem q_sliceS_lo {t : TypeId} {x lo : Operand} {l : List UInt8} {k : IntKind} {a : Int} (ht : P.underlying t = some .string) (hx : ρ x = S l) (ha : ρ lo = .int k a)
    (h0 : 0 ≤ a) (h1 : a ≤ l.length) : QS P w0 ρ ⟨d, .slice t x (some lo) none none, ty, pos, af, g⟩ H (S (l.drop a.toNat)) :=
  QS.of_run fun w _ => by
    have : l.take (str l).size = l := by rw [str_size]; exact List.take_length
    simp [execOp, Instr.sliceAt, run_underlying ht, hx, ha, Instr.slice, Instr.sliceBounds,
      run_sliceBound' k a (str l).size _ w h0 (by rw [str_size]; omega), str_extract, this]
theorem q_lenS {t : TypeId} {x : Operand} {l : List UInt8} (ht : P.underlying t = some .string) (hx : ρ x = S l) :
    QS P w0 ρ ⟨d, .call { callee := .builtin .len, args := #[x], argTypes := #[t] }, ty, pos, af, g⟩ H (.int .i64 l.length) :=
  QS.of_run fun w _ => by simp [execOp, resolve, invoke, builtin, hx, Builtin.len_, run_underlying ht, goInt, str_size]
theorem q_lenV {t e : TypeId} {x : Operand} {a : Option Addr} {n c : Nat} (ht : P.underlying t = some (.slice e)) (hx : ρ x = .slice a n c) :
    QS P w0 ρ ⟨d, .call { callee := .builtin .len, args := #[x], argTypes := #[t] }, ty, pos, af, g⟩ H (.int .i64 n) :=
  QS.of_run fun w _ => by simp [execOp, resolve, invoke, builtin, hx, Builtin.len_, run_underlying ht, goInt]
theorem q_convInt {s t : TypeId} {x : Operand} {k k' : IntKind} {n : Int} (hs : (P.underlying s).isSome = true) (ht : P.underlying t = some (.int k')) (hx : ρ x = .int k n) :
    QS P w0 ρ ⟨d, .convert s t x, ty, pos, af, g⟩ H (.int k' (k'.wrap n)) :=
  QS.of_run fun w _ => by
    obtain ⟨u, hu⟩ := Option.isSome_iff_exists.1 hs
    have : (convert s t (.int k n)).run P w = .ok (.int k' (k'.wrap n)) w := by
      unfold convert
      simp only [Sem.run_bind, run_underlying hu, run_underlying ht, Result.andThen_ok]
      cases u <;> rfl
    simp [execOp, hx, this]
theorem q_nilCheck {x : Operand} {a : Addr} (hx : ρ x = .pointer (some a)) : QS P w0 ρ ⟨d, .nilCheck x, ty, pos, af, g⟩ H (.pointer (some a)) :=
  QS.of_run fun w _ => by simp [execOp, hx]
theorem q_indexAddrA {t e : TypeId} {m sz : Nat} {x i : Operand} {b o : Nat} {k : IntKind} {n : Int} (ht : P.underlying t = some (.array m e)) (hs : sizeT P e = some sz)
    (hx : ρ x = .pointer (some ⟨b, o, none⟩)) (hi : ρ i = .int k n) (h0 : 0 ≤ n) (h1 : n < m) : QS P w0 ρ ⟨d, .indexAddr t x i, ty, pos, af, g⟩ H (.pointer (some ⟨b, o + n.toNat * sz, none⟩)) :=
  QS.of_run fun w _ => by simp [execOp, Instr.indexAt, asIntOf, Instr.sureAddr, hx, hi, run_underlying ht, h0, h1, run_sizeT hs, Addr.add0]
theorem q_indexAddrV {t e : TypeId} {m c sz : Nat} {x i : Operand} {b o : Nat} {k : IntKind} {n : Int} (ht : P.underlying t = some (.slice e)) (hs : sizeT P e = some sz)
    (hx : ρ x = .slice (some ⟨b, o, none⟩) m c) (hi : ρ i = .int k n) (h0 : 0 ≤ n) (h1 : n < m) : QS P w0 ρ ⟨d, .indexAddr t x i, ty, pos, af, g⟩ H (.pointer (some ⟨b, o + n.toNat * sz, none⟩)) :=
  QS.of_run fun w _ => by simp [execOp, Instr.indexAt, asIntOf, hx, hi, run_underlying ht, h0, h1, run_sizeT hs, Addr.add0]
theorem q_indexAddrA0 {t e : TypeId} {m : Nat} {x i : Operand} {b : Nat} {k : IntKind} {n : Int} (ht : P.underlying t = some (.array m e)) (hs : sizeT P e = some 1)
    (hx : ρ x = .pointer (some ⟨b, 0, none⟩)) (hi : ρ i = .int k n) (h0 : 0 ≤ n) (h1 : n < m) : QS P w0 ρ ⟨d, .indexAddr t x i, ty, pos, af, g⟩ H (.pointer (some ⟨b, n.toNat, none⟩)) := by
  have := q_indexAddrA (P := P) (w0 := w0) (H := H) (d := d) (ty := ty) (pos := pos) (af := af) (g := g) ht hs hx hi h0 h1
  simpa using this
theorem q_indexAddrV0 {t e : TypeId} {m c : Nat} {x i : Operand} {b : Nat} {k : IntKind} {n : Int} (ht : P.underlying t = some (.slice e)) (hs : sizeT P e = some 1)
    (hx : ρ x = .slice (some ⟨b, 0, none⟩) m c) (hi : ρ i = .int k n) (h0 : 0 ≤ n) (h1 : n < m) : QS P w0 ρ ⟨d, .indexAddr t x i, ty, pos, af, g⟩ H (.pointer (some ⟨b, n.toNat, none⟩)) := by
  have := q_indexAddrV (P := P) (w0 := w0) (H := H) (d := d) (ty := ty) (pos := pos) (af := af) (g := g) ht hs hx hi h0 h1
  simpa using this
theorem q_fieldAddr {t : TypeId} {fs : Array Field} {f : Field} {m sz : Nat} {x : Operand} {b o : Nat} (ht : P.underlying t = some (.struct fs)) (hf : fs[m]? = some f) (hs : sizeT P f.type = some (sz + 1))
    (hx : ρ x = .pointer (some ⟨b, o, none⟩)) : QS P w0 ρ ⟨d, .fieldAddr t x m, ty, pos, af, g⟩ H (.pointer (some ⟨b, o + f.offset, none⟩)) :=
  QS.of_run fun w _ => by simp [execOp, Instr.fieldAt, hx, run_underlying ht, hf, Instr.sureAddr, fieldPlace, run_sizeT hs, Addr.add0]
theorem q_extract {x : Operand} {vs : Array Value} {m : Nat} {v : Value} (hx : ρ x = .tuple vs) (hv : vs[m]? = some v) : QS P w0 ρ ⟨d, .extract x m, ty, pos, af, g⟩ H v :=
  QS.of_run fun w _ => by simp [execOp, Instr.extract, hx, hv]
theorem q_indexA {t e : TypeId} {m : Nat} {x i : Operand} {cs : Array Value} {k : IntKind} {n : Int} {v : Value} (ht : P.underlying t = some (.array m e)) (hs : scalT P e = true) (hz : sizeT P e = some 1)
    (hx : ρ x = .agg cs) (hi : ρ i = .int k n) (h0 : 0 ≤ n) (h1 : n < m) (hv : cs[n.toNat]? = some v) : QS P w0 ρ ⟨d, .index t x i, ty, pos, af, g⟩ H v :=
  QS.of_run fun w _ => by simp [execOp, Instr.index, asIntOf, run_underlying ht, hx, hi, h0, h1, run_sizeT hz, part, run_isAgg_scal hs, hv]
def bodied (fn : Func) : Bool := fn.body.isSome && !(fn.name == "runtime.NumGoroutine")
theorem o_callV {f : FuncId} {fn : Func} {x : Operand} {xs : List Operand} {ats : Array TypeId} {first cap : Array Value} {args : List Value} {as_ : Array Value} {R : Value → Hp → Prop} (hf : P.funcs[f]? = some fn) (hb : bodied fn = true)
    (hx : ρ x = .func (.func f) first cap) (ha : xs.map ρ = args) (has : first ++ args.toArray ++ cap = as_) (h : Con P w0 f as_ H R) : OpR P w0 ρ ⟨d, .call { callee := .value x, args := xs.toArray, argTypes := ats }, ty, pos, af, g⟩ H R := by
  intro w ho
  have hb' : fn.body.isSome = true ∧ (fn.name == "runtime.NumGoroutine") = false := by simpa [bodied] using hb
  have : (execOp ρ ⟨d, .call { callee := .value x, args := xs.toArray, argTypes := ats }, ty, pos, af, g⟩).run P w = .ok (.enter f as_) w := by
    subst ha; subst has
    simp only [execOp, resolve, hx, Deferred.ofValue, Sem.run_bind, Sem.run_pure, Result.andThen_ok, invoke, callFunc, run_program, hf, hb'.2, List.map_toArray]
    cases hbd : fn.body with
    | none => rw [hbd] at hb'; simp at hb'
    | some c => simp
  rw [this]
  exact Calls.mono (h w ho) fun _ _ hh => hh
theorem o_call {f : FuncId} {fn : Func} {xs : List Operand} {ats : Array TypeId} {args : List Value} {R : Value → Hp → Prop} (hρ : ρ (.func f) = .func (.func f) #[] #[]) (hf : P.funcs[f]? = some fn) (hb : bodied fn = true)
    (ha : xs.map ρ = args) (h : Con P w0 f args.toArray H R) : OpR P w0 ρ ⟨d, .call { callee := .value (.func f), args := xs.toArray, argTypes := ats }, ty, pos, af, g⟩ H R :=
  o_callV hf hb hρ ha (by simp) h
def initE (args : Array Value) : Env := fun t => args.getD t undef
/-- The values of the results: a slot's, or what lies in a block. -/
def ResL (P : Program) (e : Env) (H : Hp) : List ResultVar → List Value → Prop
  | [], [] => True
  | .tmp t :: r, v :: vs => e t = v ∧ ResL P e H r vs
  | .cell p t :: r, v :: vs => (∃ b o, e p = .pointer (some ⟨b, 0, none⟩) ∧ H b = some o ∧ ((aggT P t o.cells.length = true ∧ v = .agg o.cells.toArray) ∨ (scalT P t = true ∧ o.cells[0]? = some v))) ∧ ResL P e H r vs
  | _, _ => False
def tupV : List Value → Value
  | [v] => v
  | vs => .tuple vs.toArray
/-- At the end: the results, and what is owned then, of which some may be forgotten. -/
def RetP (P : Program) (rs : Array ResultVar) (R : Value → Hp → Prop) : Post
  | .normal, e, H | .ret, e, H => ∃ vs H', ResL P e H rs.toList vs ∧ H'.le H ∧ R (tupV vs) H'
  | _, _, _ => False
theorem RetP.mk {rs : Array ResultVar} {R : Value → Hp → Prop} {e : Env} {H : Hp} (vs : List Value) (H' : Hp) (h1 : ResL P e H rs.toList vs) (h2 : H'.le H) (h3 : R (tupV vs) H') : RetP P rs R .ret e H := ⟨vs, H', h1, h2, h3⟩
section
variable {rs : Array ResultVar} {R : Value → Hp → Prop} {e : Env} {H H' : Hp} {t1 t2 t3 : Tmp} {v1 v2 v3 : Value}
theorem RetP.end0 (hr : rs = #[]) (h2 : H'.le H) (h3 : R (.tuple #[]) H') : RetP P rs R .normal e H := by subst hr; exact ⟨[], H', trivial, h2, h3⟩
theorem RetP.mk1 (hr : rs = #[.tmp t1]) (h1 : e t1 = v1) (h2 : H'.le H) (h3 : R v1 H') : RetP P rs R .ret e H := by subst hr; exact RetP.mk [v1] H' ⟨h1, trivial⟩ h2 h3
theorem RetP.mk2 (hr : rs = #[.tmp t1, .tmp t2]) (h1 : e t1 = v1) (h1' : e t2 = v2) (h2 : H'.le H) (h3 : R (.tuple #[v1, v2]) H') : RetP P rs R .ret e H := by subst hr; exact RetP.mk [v1, v2] H' ⟨h1, h1', trivial⟩ h2 h3
theorem RetP.mkc {ct : TypeId} {b m sz : Nat} {el : TypeId} {cs : List Value} (hr : rs = #[.cell t1 ct]) (h1 : e t1 = .pointer (some ⟨b, 0, none⟩)) (hb : H b = some ⟨cs, sz, el⟩) (hl : cs.length = m) (ht : aggT P ct m = true) (h2 : H'.le H) (h3 : R (.agg cs.toArray) H') : RetP P rs R .ret e H := by
  subst hr; subst hl; exact RetP.mk [.agg cs.toArray] H' ⟨⟨b, _, h1, hb, .inl ⟨ht, rfl⟩⟩, trivial⟩ h2 h3
end
theorem RetP.end {rs : Array ResultVar} {R : Value → Hp → Prop} {e : Env} {H : Hp} (vs : List Value) (H' : Hp) (h1 : ResL P e H rs.toList vs) (h2 : H'.le H) (h3 : R (tupV vs) H') : RetP P rs R .normal e H := ⟨vs, H', h1, h2, h3⟩
theorem ResL.run {n : Nat} {e : Env} {a : Act} (hf : Fr n e a) {w : World} (ho : Own w0 H w) : ∀ {rs : List ResultVar} {vs : List Value}, ResL P e H rs vs →
      (rs.mapM (m := Sem) fun | .tmp t => pure (a.tmps.getD t undef) | .cell b t => do loadVar t (← asAddr (a.tmps.getD b undef))).run P w = .ok vs w := by
  intro rs
  induction rs with
  | nil => intro vs h; cases vs with
    | nil => simp
    | cons => exact h.elim
  | cons r rs ih =>
    intro vs h
    cases vs with
    | nil => cases r <;> exact h.elim
    | cons v vs =>
      cases r with
      | tmp t =>
        obtain ⟨h1, h2⟩ := h
        simp only [List.mapM_cons, Sem.run_bind, Sem.run_pure, Result.andThen_ok, ih h2]
        rw [hf.get, h1]
      | cell p t =>
        obtain ⟨⟨b, o, hp, hb, hv⟩, h2⟩ := h
        have hp' : a.tmps.getD p undef = .pointer (some ⟨b, 0, none⟩) := by rw [hf.get, hp]
        have hl : (do loadVar t (← asAddr (a.tmps.getD p undef)) : Sem Value).run P w = .ok v w := by
          rw [hp']
          rcases hv with ⟨ht, rfl⟩ | ⟨ht, hv⟩
          · simp [asAddr, loadVar, run_isAgg_agg ht, aggT_size ht, run_loadCells_own (j := 0) (cs := o.cells) ho hb rfl (fun i v h => by simpa using h)]
          · simp [asAddr, loadVar, run_isAgg_scal ht, ho.cell hb hv]
        simp only [List.mapM_cons]
        rw [Sem.run_bind, hl, Result.andThen_ok, Sem.run_bind, ih h2]
        rfl
theorem ResL.results {n : Nat} {e : Env} {a : Act} (hf : Fr n e a) {w : World} (ho : Own w0 H w) {fn : Func} {vs : List Value} (h : ResL P e H fn.results.toList vs) : (results fn a.tmps).run P w = .ok (tupV vs) w := by
  have hk := h.run hf ho
  have hm : (fn.results.mapM (m := Sem) fun | .tmp t => pure (a.tmps.getD t undef) | .cell b t => do loadVar t (← asAddr (a.tmps.getD b undef))).run P w = .ok vs.toArray w := by
    rw [Array.mapM_eq_mapM_toList]
    simp only [Sem.run_map, hk, Result.andThen_ok]
  unfold Go.results
  simp only [Sem.run_bind]
  refine Eq.trans (congrArg (fun r => Result.andThen r fun (vs : Array Value) w' => (pure (if h : vs.size = 1 then vs[0] else Value.tuple vs) : Sem Value).run P w') hm) ?_
  simp only [Result.andThen_ok, Sem.run_pure]
  match vs with
  | [] => simp [tupV]
  | [u] => simp [tupV]
  | u :: u' :: vs => simp [tupV]
theorem Con.intro {f : FuncId} {fn : Func} {c : Code} {args : Array Value} {R : Value → Hp → Prop} (hf : P.funcs[f]? = some fn) (hb : fn.body = some c) (hl : Nat.ble args.size fn.ntmps = true)
    (h : AW P w0 fn.ntmps c (RetP P fn.results R) (initE args) H) : Con P w0 f args H R := by
  have hl := Nat.le_of_ble_eq_true hl
  intro w ho
  refine calls_of_wp hf hb (wp_mono (h ⟨args ++ Array.replicate (fn.ntmps - args.size) undef, []⟩ w ⟨by simp; omega, fun t => ?_, rfl⟩ ho) ?_)
  · simp only [initE, Array.getD_eq_getD_getElem?, Array.getElem?_append]
    split
    · rfl
    · rename_i hh
      simp only [Array.getElem?_replicate]
      rw [Array.getElem?_eq_none (by omega)]
      split <;> rfl
  · rintro x a w ⟨_, e, H', h1, h2, h3⟩
    cases x with
    | normal => obtain ⟨vs, H'', hv, hle, hr⟩ := h3; exact ⟨h1.defers, _, hv.results h1 h2, _, H'', rfl, h2.drop hle, hr⟩
    | ret => obtain ⟨vs, H'', hv, hle, hr⟩ := h3; exact ⟨h1.defers, _, hv.results h1 h2, _, H'', rfl, h2.drop hle, hr⟩
    | _ => exact h3.elim
def SeqK (P : Program) (w0 : World) (n : Nat) (ops : Array Oper) (Q : Post) (H : Hp) : Nat → List Oper → Env → Prop
  | 0, l, e => OpsW P w0 n ops Q l e H
  | k + 1, o :: l, e => ∃ v, QG P w0 n ops H e o v ∧ SeqK P w0 n ops Q H k l (putE e o.dst v)
  | _ + 1, [], _ => False
variable {n : Nat} {ops : Array Oper} {Q : Post} {e : Env}
theorem SeqK.seqQ : ∀ (k : Nat) (l : List Oper) (e : Env), SeqK P w0 n ops Q H k l e → SeqQ P w0 n ops H (l.take k) e fun e' => OpsW P w0 n ops Q (l.drop k) e' H := by
  intro k
  induction k with
  | zero => intro l e h; simp only [List.take_zero, List.drop_zero]; exact h
  | succ k ih =>
    intro l e h
    cases l with
    | nil => exact h.elim
    | cons o l => obtain ⟨v, h1, h2⟩ := h; exact ⟨v, h1, ih l _ h2⟩
theorem AW.drawK {id : Nat} {l : List Oper} {Q : Post} {e : Env} (F : List Nat) (k : Nat) (hm : P.follows .mixedOrders = true) (hok : drawOk l.toArray F k l.length = true) (h : SeqK P w0 n l.toArray Q H k l e) : AW P w0 n (.region id l.toArray true) Q e H :=
  AW.draw F k hm hok (SeqK.seqQ k l e h)
/-- Likewise, with a constant's move from behind carried out first. -/
def SeqC (P : Program) (w0 : World) (n : Nat) (ops : Array Oper) (Q : Post) (H : Hp) (k0 f : Nat) (t : Tmp) (c : Value) : Nat → List Oper → Env → Prop
  | 0, l, e => OpsW P w0 n ops Q (tl f k0 l) (upd e t c) H
  | k + 1, o :: l, e => ∃ v, QG P w0 n ops H e o v ∧ SeqC P w0 n ops Q H k0 f t c k l (putE e o.dst v)
  | _ + 1, [], _ => False
theorem SeqC.seqQ {k0 f : Nat} {t : Tmp} {c : Value} : ∀ (k : Nat) (l : List Oper) (e : Env), SeqC P w0 n ops Q H k0 f t c k l e → SeqQ P w0 n ops H (l.take k) e fun e' => OpsW P w0 n ops Q (tl f k0 (l.drop k)) (upd e' t c) H := by
  intro k
  induction k with
  | zero => intro l e h; simp only [List.take_zero, List.drop_zero]; exact h
  | succ k ih =>
    intro l e h
    cases l with
    | nil => exact h.elim
    | cons o l => obtain ⟨v, h1, h2⟩ := h; exact ⟨v, h1, ih l _ h2⟩
theorem AW.drawF {id : Nat} {l : List Oper} {Q : Post} {e : Env} (F : List Nat) (k f : Nat) (t : Tmp) (c : Value) {x : Operand} {ty : TypeId} {pos : String} {af : Array Edge} (hm : P.follows .mixedOrders = true) (hok : drawOk l.toArray F k f = true)
    (hf : l[f]? = some ⟨some t, .move x, ty, pos, af, none⟩) (hx : D.ev e x = c) (hd : Nat.blt t n = true) (hfl : Nat.blt f l.length = true) (h : SeqC P w0 n l.toArray Q H k f t c k l e) : AW P w0 n (.region id l.toArray true) Q e H :=
  AW.drawC F k f hm hok (fun _ => ⟨hf, dst_lt hd, hx⟩) (by rw [hfl]; exact SeqC.seqQ k l e h)
def StepE (P : Program) (w0 : World) (n : Nat) (ops : Array Oper) (H H1 : Hp) (c i : Nat) (e : Env) (o : Oper) (v : Value) : Prop :=
  bif Nat.beq i c then QE P w0 n ops H H1 e o v else (reach ops 16 i c = false → QG P w0 n ops H e o v) ∧ (reach ops 16 c i = false → QG P w0 n ops H1 e o v)
def SeqE (P : Program) (w0 : World) (n : Nat) (ops : Array Oper) (Q : Post) (H H1 : Hp) (c : Nat) : Nat → Nat → List Oper → Env → Prop
  | _, 0, l, e => OpsW P w0 n ops Q l e H1
  | i, k + 1, o :: l, e => ∃ v, StepE P w0 n ops H H1 c i e o v ∧ SeqE P w0 n ops Q H H1 c (i + 1) k l (putE e o.dst v)
  | _, _ + 1, [], _ => False
theorem SeqE.vals {H1 : Hp} {c : Nat} : ∀ (k i : Nat) (l : List Oper) (e : Env), SeqE P w0 n ops Q H H1 c i k l e →
    ∃ vals : Nat → Value, (∀ j o, j < k → l[j]? = some o → StepE P w0 n ops H H1 c (i + j) (envAt l vals e j) o (vals j)) ∧ OpsW P w0 n ops Q (l.drop k) (envAt l vals e k) H1 := by
  intro k
  induction k with
  | zero => intro i l e h; exact ⟨fun _ => undef, fun j o hj => by omega, by simpa [envAt, SeqE] using h⟩
  | succ k ih =>
    intro i l e h
    cases l with
    | nil => exact h.elim
    | cons o l =>
      obtain ⟨v, h1, h2⟩ := h
      obtain ⟨vals, h3, h4⟩ := ih (i + 1) l _ h2
      refine ⟨fun j => match j with | 0 => v | j + 1 => vals j, ?_, ?_⟩
      · intro j o' hj ho
        cases j with
        | zero => simp at ho; subst ho; exact h1
        | succ j =>
          simp at ho
          rw [envAt_shift]
          have := h3 j o' (by omega) ho
          rw [show i + 1 + j = i + (j + 1) from by omega] at this
          exact this
      · rw [envAt_shift]; simpa using h4
section
variable {H1 : Hp} {c i : Nat} {t : Tmp} {op : Op} {l : List Oper} {v : Value} {k : Nat}
theorem SeqE.done (h : OpsW P w0 n ops Q l e H1) : SeqE P w0 n ops Q H H1 c i 0 l e := h
theorem SeqE.q (hi : Nat.beq i c = false) (hd : Nat.blt t n = true) (h : QS P w0 (ev e) ⟨some t, op, ty, pos, af, none⟩ H v) (h1 : QS P w0 (ev e) ⟨some t, op, ty, pos, af, none⟩ H1 v) (hk : SeqE P w0 n ops Q H H1 c (i + 1) k l (upd e t v)) :
    SeqE P w0 n ops Q H H1 c i (k + 1) (⟨some t, op, ty, pos, af, none⟩ :: l) e := ⟨v, by rw [StepE, hi, cond_false]; exact ⟨fun _ => ⟨dst_lt hd, .inl ⟨rfl, h⟩⟩, fun _ => ⟨dst_lt hd, .inl ⟨rfl, h1⟩⟩⟩, hk⟩
theorem SeqE.b (hi : Nat.beq i c = false) (hr : reach ops 16 c i = true) (hd : Nat.blt t n = true) (h : QS P w0 (ev e) ⟨some t, op, ty, pos, af, none⟩ H v) (hk : SeqE P w0 n ops Q H H1 c (i + 1) k l (upd e t v)) :
    SeqE P w0 n ops Q H H1 c i (k + 1) (⟨some t, op, ty, pos, af, none⟩ :: l) e := ⟨v, by rw [StepE, hi, cond_false]; exact ⟨fun _ => ⟨dst_lt hd, .inl ⟨rfl, h⟩⟩, fun h => by rw [hr] at h; cases h⟩, hk⟩
theorem SeqE.a (hi : Nat.beq i c = false) (hr : reach ops 16 i c = true) (hd : Nat.blt t n = true) (h1 : QS P w0 (ev e) ⟨some t, op, ty, pos, af, none⟩ H1 v) (hk : SeqE P w0 n ops Q H H1 c (i + 1) k l (upd e t v)) :
    SeqE P w0 n ops Q H H1 c i (k + 1) (⟨some t, op, ty, pos, af, none⟩ :: l) e := ⟨v, by rw [StepE, hi, cond_false]; exact ⟨fun h => (by rw [hr] at h; cases h), fun _ => ⟨dst_lt hd, .inl ⟨rfl, h1⟩⟩⟩, hk⟩
theorem SeqE.x (hi : Nat.beq i c = true) (hd : Nat.blt t n = true) (h : OpR P w0 (ev e) ⟨some t, op, ty, pos, af, none⟩ H fun u H' => u = v ∧ H' = H1) (hk : SeqE P w0 n ops Q H H1 c (i + 1) k l (upd e t v)) :
    SeqE P w0 n ops Q H H1 c i (k + 1) (⟨some t, op, ty, pos, af, none⟩ :: l) e := ⟨v, by rw [StepE, hi, cond_true]; exact ⟨dst_lt hd, rfl, h⟩, hk⟩
end
theorem SeqC.done {k0 f : Nat} {t : Tmp} {c : Value} {l : List Oper} (h : OpsW P w0 n ops Q (tl f k0 l) (upd e t c) H) : SeqC P w0 n ops Q H k0 f t c 0 l e := h
theorem SeqC.q {k0 f : Nat} {t0 : Tmp} {c : Value} {t : Tmp} {op : Op} {l : List Oper} {v : Value} {k : Nat} (hd : Nat.blt t n = true) (h : QS P w0 (ev e) ⟨some t, op, ty, pos, af, none⟩ H v) (hk : SeqC P w0 n ops Q H k0 f t0 c k l (upd e t v)) :
    SeqC P w0 n ops Q H k0 f t0 c (k + 1) (⟨some t, op, ty, pos, af, none⟩ :: l) e := ⟨v, ⟨dst_lt hd, .inl ⟨rfl, h⟩⟩, hk⟩
theorem SeqK.done {l : List Oper} (h : OpsW P w0 n ops Q l e H) : SeqK P w0 n ops Q H 0 l e := h
variable {t : Tmp} {op : Op} {l : List Oper} {v : Value} {j k : Nat} {b : Bool}
theorem SeqK.q (hd : Nat.blt t n = true) (h : QS P w0 (ev e) ⟨some t, op, ty, pos, af, none⟩ H v) (hk : SeqK P w0 n ops Q H k l (upd e t v)) :
    SeqK P w0 n ops Q H (k + 1) (⟨some t, op, ty, pos, af, none⟩ :: l) e := ⟨v, ⟨dst_lt hd, .inl ⟨rfl, h⟩⟩, hk⟩
theorem SeqK.qw (hg : yieldE ops e j = some b) (hd : Nat.blt t n = true) (h : QS P w0 (ev e) ⟨some t, op, ty, pos, af, some (j, b)⟩ H v) (hk : SeqK P w0 n ops Q H k l (upd e t v)) :
    SeqK P w0 n ops Q H (k + 1) (⟨some t, op, ty, pos, af, some (j, b)⟩ :: l) e := ⟨v, ⟨dst_lt hd, .inl ⟨by simp [Region.wanted, hg], h⟩⟩, hk⟩
theorem SeqK.p (hg : yieldE ops e j = some !b) (hd : Nat.blt t n = true) (hk : SeqK P w0 n ops Q H k l (upd e t undef)) :
    SeqK P w0 n ops Q H (k + 1) (⟨some t, op, ty, pos, af, some (j, b)⟩ :: l) e := ⟨undef, ⟨dst_lt hd, .inr ⟨by simp [Region.wanted, hg], rfl⟩⟩, hk⟩
theorem SeqK.pu (hg : yieldE ops e j = none) (hd : Nat.blt t n = true) (hk : SeqK P w0 n ops Q H k l (upd e t undef)) :
    SeqK P w0 n ops Q H (k + 1) (⟨some t, op, ty, pos, af, some (j, b)⟩ :: l) e := ⟨undef, ⟨dst_lt hd, .inr ⟨by simp [Region.wanted, hg], rfl⟩⟩, hk⟩
end
end Go.Proofs.Ytfiojlmccflplaa.D
end
section
namespace Go.Proofs.Ytfiojlmccflplaa.D
open Go Go.RowKit
set_option linter.unusedVariables false
set_option linter.unusedSimpArgs false
/-- Cells that hold whole numbers of a kind. -/
def nums (k : IntKind) (xs : List Int) : List Value := xs.map fun x => .int k x
theorem nums_length (k : IntKind) (xs : List Int) : (nums k xs).length = xs.length := by simp [nums]
theorem nums_append (k : IntKind) (xs ys : List Int) : nums k (xs ++ ys) = nums k xs ++ nums k ys := by simp [nums]
theorem nums_take (k : IntKind) (xs : List Int) (n : Nat) : (nums k xs).take n = nums k (xs.take n) := by simp [nums, List.map_take]
theorem nums_get (k : IntKind) (xs : List Int) {n : Nat} (h : n < xs.length) : (nums k xs)[n]? = some (.int k (xs.getD n 0)) := by
  simp [nums, List.getElem?_eq_getElem h]
theorem nums_set (k : IntKind) (xs : List Int) (n : Nat) (x : Int) : (nums k xs).set n (.int k x) = nums k (xs.set n x) := by simp [nums, List.map_set]
theorem nums_one (k : IntKind) (xs : List Int) : ∀ v ∈ nums k xs, v.oneCell' = true := by
  intro v hv
  simp only [nums, List.mem_map] at hv
  obtain ⟨x, _, rfl⟩ := hv
  rfl
def ofB (l : List UInt8) : List Int := l.map fun c => (c.toNat : Int)
def toB (xs : List Int) : List UInt8 := xs.map fun n => UInt8.ofNat n.toNat
theorem ofB_length (l : List UInt8) : (ofB l).length = l.length := by simp [ofB]
theorem toB_length (l : List Int) : (toB l).length = l.length := by simp [toB]
theorem toB_ofB (l : List UInt8) : toB (ofB l) = l := by
  simp only [toB, ofB, List.map_map]
  conv => rhs; rw [← List.map_id l]
  refine List.map_congr_left fun c _ => ?_
  simp
theorem ofB_getD (l : List UInt8) (i : Nat) : (ofB l).getD i 0 = bt l i := by
  simp only [ofB, bt, List.getD_eq_getElem?_getD, List.getElem?_map]
  cases l[i]? <;> simp
section
variable {P : Program} {w0 : World} {ρ : Operand → Value} {H : Hp} {d : Option Tmp} {ty : TypeId} {pos : String} {af : Array Edge} {g : Option (Nat × Bool)}
theorem Own.forget {w : World} {b : Nat} {o : Blk} (h : Own w0 H w) (hb : H b = some o) (m : Nat) : Own w0 (H.set b { o with cells := o.cells.take m }) w :=
  ⟨h.below, fun b' o' hb' => by
    by_cases e : b' = b
    · subst e
      rw [Hp.set_self] at hb'
      obtain rfl := Option.some.inj hb'
      obtain ⟨h1, ⟨e, c, fr, he, h2, h3, h4, h5, h6⟩ | ⟨m1, m2⟩⟩ := h.fits b' o hb
      · refine ⟨h1, .inl ⟨e, c, fr, he, h2, h3, by simp; omega, h5, fun j v hv => h6 j v ?_⟩⟩
        simp only [List.getElem?_take] at hv
        split at hv
        · exact hv
        · cases hv
      · exact ⟨h1, .inr ⟨by simp [m1], m2⟩⟩
    · rw [Hp.set_ne e] at hb'
      exact h.fits b' o' hb'⟩
theorem Hp.set_set {H : Hp} {b : Nat} {o o' : Blk} : (H.set b o).set b o' = H.set b o' := by
  funext c; simp only [Hp.set]; split <;> rfl
theorem Own.at {w : World} {b j : Nat} {o : Blk} (h : Own w0 H w) (hb : H b = some o) (hj : j < o.size) : ∃ v, w.cell? ⟨b, j, none⟩ = some v := by
  obtain ⟨_, ⟨e, c, fr, he, hc, hs, _⟩ | ⟨_, m2, _⟩⟩ := h.fits b o hb
  · have : j < c.size := by omega
    exact ⟨c[j], by simp [World.cell?, hc, this]⟩
  · omega
theorem Own.pushCell {w : World} {b : Nat} {o : Blk} (h : Own w0 H w) (hb : H b = some o) (hl : o.cells.length < o.size) (v : Value) :
    Own w0 (H.set b { o with cells := o.cells ++ [v] }) (w.setCell ⟨b, o.cells.length, none⟩ v) := by
  have hbb := h.fits b o hb
  refine ⟨h.below.setCell hbb.1 v, fun b' o' hb' => ?_⟩
  by_cases hbe : b' = b
  · subst hbe
    rw [Hp.set_self] at hb'
    obtain rfl := Option.some.inj hb'
    obtain ⟨hle, ⟨e, c, fr, he, hc, hs, hl', hfr, hcs⟩ | ⟨_, m2, _⟩⟩ := hbb
    rotate_left
    · omega
    refine ⟨hle, .inl ⟨e, c.setIfInBounds o.cells.length v, fr, he, setCell_at w b' _ v hc, by simpa using hs, by simp; omega, hfr, ?_⟩⟩
    intro i u hu
    simp only at hu
    by_cases hij : i = o.cells.length
    · subst hij
      have : o.cells.length < c.size := by omega
      simp at hu; subst hu
      simp [this]
    · have hlt : i < o.cells.length := by
        have := (List.getElem?_eq_some_iff.1 hu).1
        simp at this; omega
      rw [List.getElem?_append_left hlt] at hu
      rw [Array.getElem?_setIfInBounds_ne (Ne.symm hij)]
      exact hcs i u hu
  · rw [Hp.set_ne hbe] at hb'
    have := h.fits b' o' hb'
    exact ⟨this.1, this.2.of_eq (heap_setCell_other w ⟨b, _, none⟩ b' v hbe)⟩
theorem Own.cong {H H' : Hp} {w : World} (h : Own w0 H w) (e : ∀ b, H' b = H b) : Own w0 H' w := ⟨h.below, fun b o hb => h.fits b o ((e b).symm.trans hb)⟩
theorem Own.pushCells (vs : List Value) : ∀ {w : World} {H : Hp} {b j i : Nat} {o : Blk} (h : Own w0 H w) (hb : H b = some o) (hj : j + i = o.cells.length) (hl : o.cells.length + vs.length ≤ o.size) (h1 : ∀ v ∈ vs, v.oneCell' = true),
    ∃ w', (Go.storeCells ⟨b, j, none⟩ vs i).run P w = .ok () w' ∧ Own w0 (H.set b { o with cells := o.cells ++ vs }) w' := by
  induction vs with
  | nil =>
    intro w H b j i o h hb _ _ _
    refine ⟨w, rfl, h.cong fun c => ?_⟩
    by_cases e : c = b
    · subst e; rw [Hp.set_self, hb]; simp
    · rw [Hp.set_ne e]
  | cons v vs ih =>
    intro w H b j i o h hb hj hl h1
    simp only [List.length_cons] at hl
    obtain ⟨u, hc⟩ := h.at (j := o.cells.length) hb (by omega)
    have hf := h.frozen (j := o.cells.length) hb (by omega)
    have h2 := h.pushCell hb (by omega) v
    have hl2 : ({ o with cells := o.cells ++ [v] } : Blk).cells.length + vs.length ≤ ({ o with cells := o.cells ++ [v] } : Blk).size := by simp; omega
    obtain ⟨w', hr, ho⟩ := ih (j := j) (i := i + 1) h2 Hp.set_self (by simp; omega) hl2 (fun u hu => h1 u (List.mem_cons_of_mem _ hu))
    refine ⟨w', ?_, ?_⟩
    · simp only [Go.storeCells, Sem.run_bind, Addr.add0, hj, run_store P w _ v .plain (h1 v (List.mem_cons_self ..)), hc, hf]
      simpa using hr
    · rw [Hp.set_set] at ho
      simpa using ho
def Src (P : Program) (w0 : World) (H : Hp) (size : Nat) (x : Value) (m : Nat) (news : List Value) : Prop :=
  news.length = m * size ∧ (∀ v ∈ news, v.oneCell' = true) ∧ ∀ w, Own w0 H w → (Builtin.lenOf x).run P w = .ok m w ∧ ∀ k, k ≤ m → (Builtin.firstCells size k x).run P w = .ok (news.take (k * size)).toArray w
theorem src_nil {size : Nat} : Src P w0 H size (.slice none 0 0) 0 [] := ⟨by simp, by simp, fun w _ => ⟨rfl, fun k hk => by
  obtain rfl : k = 0 := by omega
  simp [Builtin.firstCells]⟩⟩
theorem src_str {l : List UInt8} : Src P w0 H 1 (S l) l.length (nums .u8 (ofB l)) := by
  refine ⟨by simp [nums_length, ofB_length], nums_one _ _, fun w _ => ⟨rfl, fun k hk => ?_⟩⟩
  simp only [Builtin.firstCells, Sem.run_pure, str_extract, List.drop_zero, Nat.mul_one]
  simp [str, nums, ofB, List.map_take]
  rfl
theorem src_blk {size : Nat} {b o n c : Nat} {q : Blk} {news : List Value} (hb : H b = some q) (hn : news.length = n * size) (h1 : ∀ v ∈ news, v.oneCell' = true) (hv : ∀ (i : Nat) v, news[i]? = some v → q.cells[o + i]? = some v) :
    Src P w0 H size (.slice (some ⟨b, o, none⟩) n c) n news := by
  refine ⟨hn, h1, fun w ho => ⟨rfl, fun k hk => ?_⟩⟩
  have hle : k * size ≤ n * size := Nat.mul_le_mul_right _ hk
  refine run_loadCells_own ho hb (by rw [List.length_take, hn]; omega) fun i v hi => ?_
  rw [List.getElem?_take] at hi
  split at hi
  · exact hv i v hi
  · cases hi
def srcT (P : Program) (t : TypeId) : Bool := match P.underlying t with
  | some .string | some (.slice _) => true
  | _ => false
theorem srcT_or {t : TypeId} (h : srcT P t = true) : P.underlying t = some .string ∨ ∃ e, P.underlying t = some (.slice e) := by
  unfold srcT at h
  split at h
  · exact .inl ‹_›
  · exact .inr ⟨_, ‹_›⟩
  · cases h
def bytesT (P : Program) (t : TypeId) : Option Nat := (P.info? t).map (·.bytes)
theorem info_of {e : TypeId} {sz by_ : Nat} (hs : sizeT P e = some sz) (hb : bytesT P e = some by_) : ∃ i, P.info? e = some i ∧ i.size = sz ∧ i.bytes = by_ := by
  unfold sizeT at hs; unfold bytesT at hb
  cases hi : P.info? e with
  | none => simp [hi] at hs
  | some i => simp [hi] at hs hb; exact ⟨i, rfl, hs, hb⟩
/-- A slice of the call's own that may grow: nil, or at the head of a block. -/
def Vec (H : Hp) (e : TypeId) (sz : Nat) (v : Value) (n : Nat) (cs : List Value) : Prop :=
  (v = .slice none 0 0 ∧ n = 0 ∧ cs = []) ∨ ∃ b cap q, v = .slice (some ⟨b, 0, none⟩) n cap ∧ H b = some q ∧ q.elem = e ∧ q.cells.take (n * sz) = cs ∧ cs.length = n * sz ∧ n ≤ cap ∧ cap * sz ≤ q.size ∧ cap ≤ maxLen
def vblock : Value → Option Nat
  | .slice (some a) _ _ => some a.block
  | _ => none
/-- v' is where v grew to, from what H owned. -/
def Grew (H : Hp) (e : TypeId) (sz : Nat) (v : Value) (n : Nat) (cs : List Value) (v' : Value) (H' : Hp) : Prop :=
  (v' = .slice none 0 0 ∧ v = v' ∧ n = 0 ∧ cs = [] ∧ H' = H) ∨
  ∃ b cap q, v' = .slice (some ⟨b, 0, none⟩) n cap ∧ (vblock v = some b ∨ H b = none) ∧ H' = H.set b q ∧ q = ⟨cs, q.size, e⟩ ∧ cs.length = n * sz ∧ n ≤ cap ∧ cap * sz ≤ q.size ∧ cap ≤ maxLen
theorem Grew.vec {H : Hp} {e : TypeId} {sz : Nat} {v : Value} {n : Nat} {cs : List Value} {v' : Value} {H' : Hp} (h : Grew H e sz v n cs v' H') : Vec H' e sz v' n cs := by
  rcases h with ⟨h1, h2, h3, h4, h5⟩ | ⟨b, cap, q, h1, h2, h3, h4, h5, h6, h7, h8⟩
  · exact .inl ⟨h1, h3, h4⟩
  · refine .inr ⟨b, cap, q, h1, by rw [h3, Hp.set_self], by rw [h4], ?_, h5, h6, h7, h8⟩
    rw [h4, ← h5]; exact List.take_length
theorem Grew.old {H : Hp} {e : TypeId} {sz : Nat} {v : Value} {n : Nat} {cs : List Value} {v' : Value} {H' : Hp} (h : Grew H e sz v n cs v' H') {c : Nat} {o : Blk} (hc : H c = some o) (hv : vblock v ≠ some c) : H' c = some o := by
  rcases h with ⟨h1, h2, h3, h4, h5⟩ | ⟨b, cap, q, h1, h2, h3, h4, h5, h6, h7, h8⟩
  · rw [h5]; exact hc
  · rw [h3, Hp.set_ne]
    · exact hc
    · rintro rfl
      rcases h2 with h2 | h2
      · exact hv h2
      · rw [h2] at hc; cases hc
theorem o_append {t t2 e : TypeId} {sz by_ : Nat} {z : Value} {x y : Operand} {v u : Value} {n m : Nat} {cs news : List Value} (ht : P.underlying t = some (.slice e)) (hs : sizeT P e = some sz) (hb : bytesT P e = some by_)
    (hz : zeroT P e = some z) (hzs : z.cells.size = sz) (ht2 : srcT P t2 = true) (hx : ρ x = v) (hy : ρ y = u) (hv : Vec H e sz v n cs) (hu : Src P w0 H sz u m news)
    (h63 : n + m ≤ maxLen) (hbytes : (n + m) * by_ ≤ 140737488355328) :
    OpR P w0 ρ ⟨d, .call { callee := .builtin .append, args := #[x, y], argTypes := #[t, t2] }, ty, pos, af, g⟩ H (Grew H e sz v (n + m) (cs ++ news)) := by
  obtain ⟨i, hi, rfl, rfl⟩ := info_of hs hb
  have hzi : i.zero = some z := by simpa [zeroT, hi] using hz
  obtain ⟨hnl, hn1, hu⟩ := hu
  have hsmall : n + m ≤ 9223372036854775807 := by simp only [maxLen] at h63; omega
  have hor := srcT_or ht2
  -- growing into a new block
  have grow : ∀ (old : Nat) (w : World), Own w0 H w → old < n + m → v = .slice none 0 0 ∧ old = 0 ∨ (∃ a, v = .slice (some a) n old) → (Builtin.firstCells i.size n v).run P w.drew = .ok cs.toArray w.drew → (∃ a, v = .slice a n old) → cs.length = n * i.size →
      ∃ v' w' H', (Builtin.append_ #[t, t2] ty #[v, u]).run P w = .ok v' w' ∧ Own w0 H' w' ∧ Grew H e i.size v (n + m) (cs ++ news) v' H' := by
    intro old w ho hold _ hfc ⟨a, hva⟩ hcl
    have hge := grownCap_ge w (n + m) old e
    have hcm : grownCap w (n + m) old e ≤ maxLen := grownCap_le_maxLen w (n + m) old e h63
    have hfit := growslice_fits hold hbytes
    obtain ⟨hl, hf⟩ := hu w ho
    obtain ⟨hl', hf'⟩ := hu w.drew ho.drew
    have hnew := hf' m (Nat.le_refl _)
    rw [List.take_of_length_le (by omega)] at hnew
    let cells : Array Value := cs.toArray ++ news.toArray ++ Builtin.zeroCells z.cells (grownCap w (n + m) old e - (n + m))
    have hsz : cells.size = grownCap w (n + m) old e * i.size := by
      simp only [cells, Array.size_append, List.size_toArray, size_zeroCells, hzs, hcl, hnl, ← Nat.add_mul]
      congr 1; omega
    refine ⟨.slice (some ⟨w.heap.size, 0, none⟩) (n + m) (grownCap w (n + m) old e), w.drew.alloc (.cells cells e), H.set w.heap.size ⟨cs ++ news, grownCap w (n + m) old e * i.size, e⟩, ?_, ?_, ?_⟩
    · have hno : ¬ (n + m ≤ old) := by omega
      have h64 : ¬ ((n + m : Nat) : Int) > IntKind.i64.max := by simp only [IntKind.max, IntKind.signed, IntKind.bits, if_true]; omega
      have h48 : ¬ Builtin.nextslicecap (n + m) old * i.bytes > 2 ^ 48 := by omega
      subst hva
      have h63' : ¬ (9223372036854775807 < ((n : Int) + (m : Int))) := by omega
      have h48' : ¬ (281474976710656 < Builtin.nextslicecap (n + m) old * i.bytes) := by omega
      rcases hor with hu2 | ⟨e2, hu2⟩ <;>
        simp [Builtin.append_, run_underlying ht, run_underlying hu2, sizeOf, typeInfo, zeroValue, hi, hzi, hl, hno, h63', h48', Question.forced, hfc, hnew, newRow, grownCap, cells]
    · have ha := ho.drew.alloc cells.toList cells (by simp) e (0, 0) (.inl rfl)
      have hsz' : w.drew.heap.size = w.heap.size := rfl
      rw [hsz'] at ha
      have hlen : cells.toList.length = grownCap w (n + m) old e * i.size := by simpa using hsz
      have hf := ha.forget (b := w.heap.size) (m := (n + m) * i.size) (by rw [Hp.set_self])
      rw [Hp.set_set] at hf
      have htake : cells.toList.take ((n + m) * i.size) = cs ++ news := by
        simp only [cells, Array.toList_append]
        exact List.take_left' (by simp [hcl, hnl, Nat.add_mul])
      simp only [htake, hlen] at hf
      exact hf
    · refine .inr ⟨w.heap.size, grownCap w (n + m) old e, ⟨cs ++ news, grownCap w (n + m) old e * i.size, e⟩, rfl, .inr ho.fresh, rfl, rfl, by simp [hcl, hnl, Nat.add_mul], hge, Nat.le_refl _, hcm⟩
  refine fun w ho => ?_
  have fin : (∃ v' w' H', (Builtin.append_ #[t, t2] ty #[v, u]).run P w = .ok v' w' ∧ Own w0 H' w' ∧ Grew H e i.size v (n + m) (cs ++ news) v' H') →
      Res P w0 (Grew H e i.size v (n + m) (cs ++ news)) ((execOp ρ ⟨d, .call { callee := .builtin .append, args := #[x, y], argTypes := #[t, t2] }, ty, pos, af, g⟩).run P w) := by
    rintro ⟨v', w', H', h1, h2, h3⟩
    have : (execOp ρ ⟨d, .call { callee := .builtin .append, args := #[x, y], argTypes := #[t, t2] }, ty, pos, af, g⟩).run P w = .ok (.value v') w' := by
      simp [execOp, resolve, invoke, builtin, hx, hy, h1]
    rw [this]
    exact ⟨H', h2, h3⟩
  refine fin ?_
  rcases hv with ⟨rfl, rfl, rfl⟩ | ⟨b, cap, q, rfl, hbq, hqe, htake, hcl, hnc, hcs, hcm⟩
  · by_cases hm : m = 0
    · subst hm
      obtain rfl : news = [] := List.eq_nil_of_length_eq_zero (by simpa using hnl)
      obtain ⟨hl, hf⟩ := hu w ho
      have hnew := hf 0 (Nat.le_refl _)
      refine ⟨.slice none 0 0, w, H, ?_, ho, .inl ⟨rfl, rfl, rfl, rfl, rfl⟩⟩
      rcases hor with hu2 | ⟨e2, hu2⟩ <;>
        simp [Builtin.append_, run_underlying ht, run_underlying hu2, sizeOf, typeInfo, hi, hl, hnew]
    · exact grow 0 w ho (by omega) (.inl ⟨rfl, rfl⟩) (by simp [Builtin.firstCells]) ⟨none, rfl⟩ (by simp)
  · by_cases hroom : n + m ≤ cap
    · obtain ⟨hl, hf⟩ := hu w ho
      have hnew := hf m (Nat.le_refl _)
      rw [List.take_of_length_le (by omega)] at hnew
      have hfg := ho.forget hbq (n * i.size)
      simp only [htake] at hfg
      have hle : (n + m) * i.size ≤ cap * i.size := Nat.mul_le_mul_right _ hroom
      have hadd : (n + m) * i.size = n * i.size + m * i.size := Nat.add_mul ..
      obtain ⟨w', hr, ho'⟩ := hfg.pushCells (P := P) (j := n * i.size) (i := 0) news Hp.set_self (by simp [hcl]) (by simp only [hcl, hnl]; omega) hn1
      rw [Hp.set_set] at ho'
      refine ⟨.slice (some ⟨b, 0, none⟩) (n + m) cap, w', _, ?_, ho', .inr ⟨b, cap, _, rfl, .inl rfl, rfl, by rw [← hqe], by simp [hcl, hnl, Nat.add_mul], hroom, hcs, hcm⟩⟩
      rcases hor with hu2 | ⟨e2, hu2⟩ <;>
        simp [Builtin.append_, run_underlying ht, run_underlying hu2, sizeOf, typeInfo, hi, hl, hroom, hnew, Addr.add0, hr]
    · refine grow cap w ho (by omega) (.inr ⟨_, rfl⟩) ?_ ⟨_, rfl⟩ hcl
      refine run_loadCells_own ho.drew hbq hcl fun j u hj => ?_
      rw [← htake, List.getElem?_take] at hj
      split at hj
      · simpa using hj
      · cases hj
end
end Go.Proofs.Ytfiojlmccflplaa.D
end
section
namespace Go.Proofs.Ytfiojlmccflplaa.D
open Go Go.RowKit
set_option linter.unusedVariables false
set_option linter.unusedSimpArgs false
section
variable {P : Program} {w0 : World} {ρ : Operand → Value} {H : Hp} {d : Option Tmp} {ty : TypeId} {pos : String} {af : Array Edge} {g : Option (Nat × Bool)}
theorem o_bytes {s t e : TypeId} {x : Operand} {l : List UInt8} (hs : (P.underlying s).isSome = true) (ht : P.underlying t = some (.slice e)) (he : P.underlying e = some (.int .u8)) (hx : ρ x = S l) (hl : l.length ≤ maxLen) :
    OpR P w0 ρ ⟨d, .convert s t x, ty, pos, af, g⟩ H (fun v H' => ∃ b cap, H b = none ∧ l.length ≤ cap ∧ cap ≤ maxLen ∧ v = .slice (some ⟨b, 0, none⟩) l.length cap ∧ H' = H.set b ⟨nums .u8 (ofB l), cap, e⟩) := by
  obtain ⟨u, hu⟩ := Option.isSome_iff_exists.1 hs
  intro w ho
  have hr := Lib.run_convert_string_bytes (P := P) w s t e (str l) hu ht he
  have : (execOp ρ ⟨d, .convert s t x, ty, pos, af, g⟩).run P w = .ok (.value (.slice (some ⟨w.heap.size, 0, none⟩) (str l).size (grownCap w (str l).size 0 e))) (Lib.bytesWorld w e (str l)) := by
    simp [execOp, hx, hr]
  rw [this]
  have hge : l.length ≤ grownCap w (str l).size 0 e := grownCap_ge w _ 0 e
  have hcm : grownCap w (str l).size 0 e ≤ maxLen := grownCap_le_maxLen w _ 0 e hl
  have hcells : (Lib.bytesCells w e (str l)).toList = nums .u8 (ofB l) ++ List.replicate (grownCap w (str l).size 0 e - l.length) (.int .u8 0) := by
    simp [Lib.bytesCells, str_size, nums, ofB, str]
    rfl
  have hsz : (Lib.bytesCells w e (str l)).size = grownCap w (str l).size 0 e := by
    rw [← Array.length_toList, hcells]; simp [nums_length, ofB_length]; omega
  refine ⟨H.set w.heap.size ⟨nums .u8 (ofB l), grownCap w (str l).size 0 e, e⟩, ⟨?_, fun b o hb => ?_⟩, w.heap.size, _, ho.fresh, hge, hcm, rfl, rfl⟩
  · refine ⟨ho.below.os, ho.below.tape, ho.below.output, ?_, fun k hk => ?_⟩
    · rw [Lib.bytesWorld_size]; have := ho.below.size; omega
    · have := ho.below.size
      rw [Lib.bytesWorld_at_old w e _ k (by omega)]; exact ho.below.block k hk
  · by_cases hbe : b = w.heap.size
    · subst hbe
      rw [Hp.set_self] at hb
      obtain rfl := Option.some.inj hb
      refine ⟨ho.below.size, .inl ⟨e, _, _, rfl, Lib.bytesWorld_at_new w e (str l), hsz, by simp [nums_length, ofB_length]; exact hge, ?_, ?_⟩⟩
      · intro j hj; simp only [hsz] at hj ⊢; omega
      · intro j v hv
        rw [← Array.getElem?_toList, hcells, List.getElem?_append_left]
        · exact hv
        · exact (List.getElem?_eq_some_iff.1 hv).1
    · rw [Hp.set_ne hbe] at hb
      have := ho.fits b o hb
      exact ⟨this.1, this.2.of_eq (Lib.bytesWorld_at_old w e _ b (ho.lt hb))⟩
theorem run_bytes_own {src dst e : TypeId} (hs : P.underlying src = some (.slice e)) (he : P.underlying e = some (.int .u8)) (hd : P.underlying dst = some .string) {w : World} {a : Addr} {n c : Nat} {xs : List Int}
    (h : (loadCells a n).run P w = .ok (nums .u8 xs).toArray w) : (convert src dst (.slice (some a) n c)).run P w = .ok (S (toB xs)) w := by
  rw [run_convert_bytes_string w src dst e _ n c hs he hd, run_bytesToString w _ n c xs h, foldl_push_bytes]
  simp only [ByteArray.empty, ByteArray.emptyWithCapacity, S, str, toB]
  simp
  rfl
theorem q_string {s t e : TypeId} {x : Operand} {b o n c : Nat} {q : Blk} {xs : List Int} (hs : P.underlying s = some (.slice e)) (he : P.underlying e = some (.int .u8)) (ht : P.underlying t = some .string)
    (hx : ρ x = .slice (some ⟨b, o, none⟩) n c) (hb : H b = some q) (hn : xs.length = n) (hv : ∀ (i : Nat) v, (nums .u8 xs)[i]? = some v → q.cells[o + i]? = some v) :
    QS P w0 ρ ⟨d, .convert s t x, ty, pos, af, g⟩ H (S (toB xs)) :=
  QS.of_run fun w ho => by
    have hl := run_loadCells_own (P := P) (n := n) (j := o) (cs := nums .u8 xs) ho hb (by rw [nums_length]; exact hn) hv
    simp only [execOp, hx, Sem.run_bind, run_bytes_own hs he ht hl, Result.andThen_ok, Sem.run_pure]
theorem q_stringNil {s t e : TypeId} {x : Operand} {n c : Nat} (hs : P.underlying s = some (.slice e)) (he : P.underlying e = some (.int .u8)) (ht : P.underlying t = some .string)
    (hx : ρ x = .slice none n c) : QS P w0 ρ ⟨d, .convert s t x, ty, pos, af, g⟩ H (S []) :=
  QS.of_run fun w ho => by
    simp only [execOp, hx, Sem.run_bind, run_convert_bytes_nil w s e hs he n c t ht, Result.andThen_ok, Sem.run_pure]
    rfl
/-- What a Vec of bytes is as a string. -/
theorem q_stringV {s t e : TypeId} {x : Operand} {v : Value} {n : Nat} {xs : List Int} (hs : P.underlying s = some (.slice e)) (he : P.underlying e = some (.int .u8)) (ht : P.underlying t = some .string)
    (hx : ρ x = v) (hv : Vec H e 1 v n (nums .u8 xs)) : QS P w0 ρ ⟨d, .convert s t x, ty, pos, af, g⟩ H (S (toB xs)) := by
  rcases hv with ⟨rfl, rfl, hc⟩ | ⟨b, cap, q, rfl, hb, he', htk, hcl, hnc, hcs, hcm⟩
  · have : xs = [] := by simpa [nums] using hc
    subst this
    exact q_stringNil hs he ht hx
  · refine q_string hs he ht hx hb (by rw [nums_length] at hcl; omega) fun i v hi => ?_
    rw [← htk, List.getElem?_take] at hi
    split at hi
    · simpa using hi
    · cases hi
theorem o_makeSlice {t e : TypeId} {x y : Operand} {k k' : IntKind} {n c : Int} {by_ : Nat} {z : Value} (ht : P.underlying t = some (.slice e)) (hs : sizeT P e = some 1) (hb : bytesT P e = some by_) (hz : zeroT P e = some z) (h1 : z.oneCell' = true)
    (hx : ρ x = .int k n) (hy : ρ y = .int k' c) (h0 : 0 ≤ n) (hnc : n ≤ c) (hc : by_ * c ≤ 2 ^ 48) (hc' : c ≤ 9223372036854775807) :
    OpR P w0 ρ ⟨d, .makeSlice t x y, ty, pos, af, g⟩ H (fun v H' => ∃ b, H b = none ∧ v = .slice (some ⟨b, 0, none⟩) n.toNat c.toNat ∧ H' = H.set b ⟨List.replicate c.toNat z, c.toNat, e⟩) := by
  obtain ⟨i, hi, his, rfl⟩ := info_of hs hb
  have hzi : i.zero = some z := by simpa [zeroT, hi] using hz
  have hzc : z.cells = #[z] := by cases z <;> simp_all [Value.oneCell', Value.cells]
  intro w ho
  have hwn : IntKind.i64.wrap n = n := IntWalk.i64_in n (by omega)
  have hwc : IntKind.i64.wrap c = c := IntWalk.i64_in c (by omega)
  have hrow : ((Array.range (c.toNat * 1)).map fun j => (if c.toNat * 1 = 0 then (#[] : Array Value) else #[z])[j % (if c.toNat * 1 = 0 then (#[] : Array Value) else #[z]).size]!).toList = List.replicate c.toNat z := by
    by_cases h : c.toNat = 0
    · simp [h]
    · simp only [Nat.mul_one, if_neg h]
      apply List.ext_getElem
      · simp
      · intro j h1 h2
        simp
        have : j % 1 = 0 := Nat.mod_one j
        simp [this]
  have hlarge : (decide (c < 0) || decide ((i.bytes : Int) * c > 2 ^ 48)) = false := by
    simp only [Bool.or_eq_false_iff, decide_eq_false_iff_not]; omega
  have : ∃ cs : Array Value, cs.toList = List.replicate c.toNat z ∧ (execOp ρ ⟨d, .makeSlice t x y, ty, pos, af, g⟩).run P w = .ok (.value (.slice (some ⟨w.heap.size, 0, none⟩) n.toNat c.toNat)) (w.alloc (.cells cs e (0, 0))) := by
    refine ⟨_, hrow, ?_⟩
    have h2 : (i.bytes : Int) * c ≤ 281474976710656 := by omega
    simp only [execOp, Instr.makeSlice, hx, hy, Sem.run_bind, run_underlying ht, Result.andThen_ok, asInt, asIntOf, Sem.run_pure, typeInfo, run_program, hi, hwn, hwc, hlarge]
    have ha : (false || decide (n < 0) || decide (n > c)) = false := by
      simp only [Bool.false_or, Bool.or_eq_false_iff, decide_eq_false_iff_not]; omega
    simp only [ha, Bool.false_eq_true, if_false, Sem.run_bind, run_askRoom, Result.andThen_ok, sizeOf, typeInfo, run_program, hi, his, Sem.run_pure]
    by_cases h : c.toNat * 1 = 0
    · simp only [h, if_true, Sem.run_pure, Result.andThen_ok, newRow, Sem.run_bind, run_newObj, World.alloc_eq]
    · simp only [h, if_false, Sem.run_bind, zeroValue, typeInfo, run_program, hi, hzi, hzc, Sem.run_pure, Result.andThen_ok, newRow, run_newObj, World.alloc_eq]
  obtain ⟨cs, hcs, hr⟩ := this
  rw [hr]
  refine ⟨_, ho.alloc (List.replicate c.toNat z) cs hcs e (0, 0) (.inl rfl), w.heap.size, ho.fresh, rfl, ?_⟩
  simp
/-- Parts in order, each of one cell. -/
def ordered : Nat → List (Nat × Operand) → Bool
  | _, [] => true
  | i, (j, _) :: r => j == i && ordered (i + 1) r
theorem fill_ordered (ρ : Operand → Value) : ∀ (ps : List (Nat × Operand)) (i : Nat) (pre : List Value) (rest : List Value), ordered i ps = true → pre.length = i → ps.length = rest.length → (∀ p ∈ ps, (ρ p.2).oneCell' = true) →
    Instr.fill (fun i => some (i * 1, 1)) (pre ++ rest).toArray (ps.map fun p => (p.1, ρ p.2)) = some (pre ++ ps.map fun p => ρ p.2).toArray := by
  intro ps
  induction ps with
  | nil => intro i pre rest _ _ hl _; have : rest = [] := List.eq_nil_of_length_eq_zero (by simpa using hl.symm); subst this; simp [Instr.fill]
  | cons p ps ih =>
    intro i pre rest ho hp hl h1
    obtain ⟨j, x⟩ := p
    simp only [ordered, Bool.and_eq_true, beq_iff_eq] at ho
    obtain ⟨rfl, ho⟩ := ho
    cases rest with
    | nil => simp at hl
    | cons r rest =>
      have hx : (ρ x).cells = #[ρ x] := by
        have := h1 (j, x) (List.mem_cons_self ..)
        cases hh : ρ x <;> simp_all [Value.oneCell', Value.cells]
      have := ih (j + 1) (pre ++ [ρ x]) rest ho (by simp [hp]) (by simpa using hl) (fun q hq => h1 q (List.mem_cons_of_mem _ hq))
      simp only [List.map_cons, Instr.fill, hx]
      have hset : ((pre ++ r :: rest).toArray.setIfInBounds j (ρ x)) = (pre ++ [ρ x] ++ rest).toArray := by
        subst hp
        simp
      simpa [hset, hp] using this
theorem o_buildSlice {t e : TypeId} {m : Nat} {ps : List (Nat × Operand)} {z : Value} (ht : P.underlying t = some (.slice e)) (hs : sizeT P e = some 1) (hz : zeroT P e = some z) (h1 : z.oneCell' = true) (hm : ps.length = m) (hp : ordered 0 ps = true) (hm2 : m ≤ 16777216)
    {vs : List Value} (hv : ps.map (fun p => ρ p.2) = vs) (h1v : ∀ v ∈ vs, v.oneCell' = true) :
    OpR P w0 ρ ⟨d, .buildSlice t m ps.toArray, ty, pos, af, g⟩ H (fun v H' => ∃ b, H b = none ∧ v = .slice (some ⟨b, 0, none⟩) m m ∧ H' = H.set b ⟨vs, m, e⟩) := by
  intro w ho
  have hzc : z.cells = #[z] := by cases z <;> simp_all [Value.oneCell', Value.cells]
  subst hv
  have hz' : ∃ zs : List Value, zs.length = m ∧ ((Array.range (m * 1)).map fun j => (if m * 1 = 0 then (#[] : Array Value) else #[z])[j % (if m * 1 = 0 then (#[] : Array Value) else #[z]).size]!) = zs.toArray := ⟨_, by simp, (Array.toArray_toList).symm⟩
  obtain ⟨zs, hzl, hzs⟩ := hz'
  have hf := fill_ordered ρ ps 0 [] zs hp rfl (by omega) (fun p hp => h1v _ (List.mem_map.2 ⟨p, hp, rfl⟩))
  simp only [List.nil_append] at hf
  have : (execOp ρ ⟨d, .buildSlice t m ps.toArray, ty, pos, af, g⟩).run P w = .ok (.value (.slice (some ⟨w.heap.size, 0, none⟩) m m)) (w.alloc (.cells (ps.map fun p => ρ p.2).toArray e (0, 0))) := by
    have h24 : ¬ m * 1 > 2 ^ 24 := by omega
    simp only [execOp, Instr.buildSlice, Sem.run_bind, run_underlying ht, Result.andThen_ok, run_sizeT hs, h24, if_false, Sem.run_pure]
    have hparts : (ps.toArray.map fun (p : Nat × Operand) => (p.1, ρ p.2)).toList = ps.map fun p => (p.1, ρ p.2) := by simp
    by_cases h : m * 1 = 0
    · simp only [h, if_true] at hzs
      simp only [h, if_true, Sem.run_pure, Result.andThen_ok]
      simp only [pure_bind, hzs, hparts, hf, newRow, Sem.run_bind, run_newObj, World.alloc_eq, Result.andThen_ok, Sem.run_pure]
    · simp only [h, if_false] at hzs
      simp only [h, if_false, Sem.run_bind, run_zeroT hz, hzc, Result.andThen_ok, Sem.run_pure]
      simp only [pure_bind, hzs, hparts, hf, newRow, Sem.run_bind, run_newObj, World.alloc_eq, Result.andThen_ok, Sem.run_pure]
  rw [this]
  refine ⟨_, ho.alloc (ps.map fun p => ρ p.2) _ rfl e (0, 0) (.inl rfl), w.heap.size, ho.fresh, rfl, ?_⟩
  simp [hm]
theorem q_not {t : TypeId} {x : Operand} {b : Bool} (hx : ρ x = .bool b) : QS P w0 ρ ⟨d, .unOp .not t x, ty, pos, af, g⟩ H (.bool !b) :=
  QS.of_run fun w ho => by simp [execOp, hx, Op.unary]
theorem equal_ptr {t e : TypeId} (ht : P.underlying t = some (.pointer e)) (a : Option Addr) (w : World) : (Op.equal t (.pointer a) (.pointer none)).run P w = .ok a.isNone w := by
  have : ∀ dd, (Op.equalIn (dd + 1) t (.pointer a) (.pointer none)).run P w = .ok a.isNone w := fun dd => by
    cases a <;> simp only [Op.equalIn, Sem.run_bind, run_underlying ht, Result.andThen_ok, Sem.run_pure] <;> rfl
  exact this 9999
/-- A pointer held against nil. -/
theorem q_eqlP {xt yt e : TypeId} {x y : Operand} {a : Option Addr} (ht : P.underlying xt = some (.pointer e)) (hx : ρ x = .pointer a) (hy : ρ y = .pointer none) : QS P w0 ρ ⟨d, .binOp .eql xt x y yt, ty, pos, af, g⟩ H (.bool a.isNone) :=
  QS.of_run fun w ho => by
    have h1 : (eqGuard .eql xt x y (.pointer a) (.pointer none)).run P w = .ok () w := rfl
    have h2 : (binOp .eql xt (.pointer a) (.pointer none)).run P w = .ok (.bool a.isNone) w := by
      simp only [binOp, Sem.run_bind, equal_ptr ht, Result.andThen_ok, Sem.run_pure]
    simp only [execOp, hx, hy, Sem.run_bind, h1, h2, Result.andThen_ok, Sem.run_pure]
theorem q_neqP {xt yt e : TypeId} {x y : Operand} {a : Option Addr} (ht : P.underlying xt = some (.pointer e)) (hx : ρ x = .pointer a) (hy : ρ y = .pointer none) : QS P w0 ρ ⟨d, .binOp .neq xt x y yt, ty, pos, af, g⟩ H (.bool !a.isNone) :=
  QS.of_run fun w ho => by
    have h1 : (eqGuard .neq xt x y (.pointer a) (.pointer none)).run P w = .ok () w := rfl
    have h2 : (binOp .neq xt (.pointer a) (.pointer none)).run P w = .ok (.bool !a.isNone) w := by
      simp only [binOp, Sem.run_bind, equal_ptr ht, Result.andThen_ok, Sem.run_pure]
    simp only [execOp, hx, hy, Sem.run_bind, h1, h2, Result.andThen_ok, Sem.run_pure]
theorem q_sliceV {t e : TypeId} {m cp sz : Nat} {x lo hi : Operand} {b o : Nat} {k k' : IntKind} {a c : Int} (ht : P.underlying t = some (.slice e)) (hs : sizeT P e = some sz) (hx : ρ x = .slice (some ⟨b, o, none⟩) m cp)
    (ha : ρ lo = .int k a) (hc : ρ hi = .int k' c) (h0 : 0 ≤ a) (h1 : a ≤ c) (h2 : c ≤ cp) :
    QS P w0 ρ ⟨d, .slice t x (some lo) (some hi) none, ty, pos, af, g⟩ H (.slice (some (if cp = a.toNat then ⟨b, o, none⟩ else ⟨b, o + a.toNat * sz, none⟩)) (c.toNat - a.toNat) (cp - a.toNat)) :=
  QS.of_run fun w _ => by
    simp only [execOp, Instr.sliceAt, hx, ha, hc, Sem.run_bind, run_underlying ht, Result.andThen_ok, Option.map_some, Option.map_none, Instr.slice, Instr.sliceBounds, Sem.run_pure,
      run_sliceBound' k' c cp _ w (by omega) h2, run_sliceBound' k a c.toNat _ w h0 (by omega), run_sizeT hs, Addr.add0]
    split <;> rfl
theorem q_sliceV_hi {t e : TypeId} {m cp sz : Nat} {x hi : Operand} {ad : Option Addr} {k' : IntKind} {c : Int} (ht : P.underlying t = some (.slice e)) (hs : sizeT P e = some sz) (hx : ρ x = .slice ad m cp)
    (hc : ρ hi = .int k' c) (h1 : 0 ≤ c) (h2 : c ≤ cp) :
    QS P w0 ρ ⟨d, .slice t x none (some hi) none, ty, pos, af, g⟩ H (.slice ad c.toNat cp) :=
  QS.of_run fun w _ => by
    simp only [execOp, Instr.sliceAt, hx, hc, Sem.run_bind, run_underlying ht, Result.andThen_ok, Option.map_some, Option.map_none, Instr.slice, Instr.sliceBounds, Sem.run_pure,
      run_sliceBound' k' c cp _ w (by omega) h2, run_sizeT hs]
    cases ad <;> simp [Addr.add]
theorem q_min {ats : Array TypeId} {x y : Operand} {k : IntKind} {a b : Int} (hx : ρ x = .int k a) (hy : ρ y = .int k b) :
    QS P w0 ρ ⟨d, .call { callee := .builtin .min, args := #[x, y], argTypes := ats }, ty, pos, af, g⟩ H (.int k (min a b)) :=
  QS.of_run fun w _ => by
    have : (if b < a then b else a) = min a b := by rw [Int.min_def]; split <;> split <;> omega
    simp [execOp, resolve, invoke, builtin, hx, hy, Builtin.min_, Builtin.min2, this]
theorem q_max {ats : Array TypeId} {x y : Operand} {k : IntKind} {a b : Int} (hx : ρ x = .int k a) (hy : ρ y = .int k b) :
    QS P w0 ρ ⟨d, .call { callee := .builtin .max, args := #[x, y], argTypes := ats }, ty, pos, af, g⟩ H (.int k (max a b)) :=
  QS.of_run fun w _ => by
    have : (if a < b then b else a) = max a b := by rw [Int.max_def]; split <;> split <;> omega
    simp [execOp, resolve, invoke, builtin, hx, hy, Builtin.max_, Builtin.max2, this]
theorem q_func {fn : Fn} {fs cs : List Operand} {fv cv : List Value} (h1 : fs.map ρ = fv) (h2 : cs.map ρ = cv) : QS P w0 ρ ⟨d, .makeFunc fn fs.toArray cs.toArray, ty, pos, af, g⟩ H (.func fn fv.toArray cv.toArray) :=
  QS.of_run fun w _ => by subst h1; subst h2; simp [execOp, Instr.makeFunc]
theorem put_eq (vs : List Value) : ∀ (cs : List Value) (j : Nat), j + vs.length ≤ cs.length → put cs j vs = cs.take j ++ vs ++ cs.drop (j + vs.length) := by
  induction vs with
  | nil => intro cs j _; simp [put]
  | cons v vs ih =>
    intro cs j h
    simp only [List.length_cons] at h
    rw [put, ih (cs.set j v) (j + 1) (by simp; omega)]
    have h1 : (cs.set j v).take (j + 1) = cs.take j ++ [v] := by
      rw [List.take_succ_eq_append_getElem (by simp; omega)]
      simp [List.take_set_of_le]
    have h2 : (cs.set j v).drop (j + 1 + vs.length) = cs.drop (j + (v :: vs).length) := by
      rw [List.drop_set_of_lt (by omega)]
      congr 1
      simp; omega
    rw [h1, h2]
    simp
theorem q_loadN {t : TypeId} {x : Operand} {b j sz : Nat} {el : TypeId} {k : IntKind} {xs : List Int} (ht : scalT P t = true) (hx : ρ x = .pointer (some ⟨b, j, none⟩)) (hb : H b = some ⟨nums k xs, sz, el⟩) (hj : j < xs.length) :
    QS P w0 ρ ⟨d, .load t x, ty, pos, af, g⟩ H (.int k (xs.getD j 0)) := q_load ht hx hb (nums_get k xs hj)
theorem o_storeN {t : TypeId} {x y : Operand} {b j sz : Nat} {el : TypeId} {k : IntKind} {xs : List Int} {n : Int} (ht : sizeT P t = some 1) (hx : ρ x = .pointer (some ⟨b, j, none⟩)) (hy : ρ y = .int k n) (hb : H b = some ⟨nums k xs, sz, el⟩) (hj : j < xs.length) :
    OpR P w0 ρ ⟨d, .store t x y, ty, pos, af, g⟩ H (fun u H' => u = undef ∧ H' = H.set b ⟨nums k (xs.set j n), sz, el⟩) := by
  have := o_store (P := P) (w0 := w0) (d := d) (ty := ty) (pos := pos) (af := af) (g := g) ht hx hy rfl hb (by simpa [nums_length] using hj)
  simpa only [nums_set] using this
theorem Hp.set_comm {H : Hp} {b c : Nat} {o q : Blk} (h : b ≠ c) : (H.set b o).set c q = (H.set c q).set b o := by
  funext x; simp only [Hp.set]; split <;> split <;> simp_all
theorem Hp.set_none {H : Hp} {b c : Nat} {o : Blk} (h : H b = none) (hne : b ≠ c) : (H.set c o) b = none := by rw [Hp.set_ne hne]; exact h
theorem Hp.ne_of {H : Hp} {b c : Nat} {o : Blk} (h : H b = none) (hc : H c = some o) : b ≠ c := by rintro rfl; rw [h] at hc; cases hc
theorem put_all {cs old : List Value} (h : cs.length = old.length) : put old 0 cs = cs := by
  rw [put_eq cs old 0 (by omega)]; simp [h]
theorem q_loadAN {t : TypeId} {n sz : Nat} {el : TypeId} {x : Operand} {b : Nat} {k : IntKind} {xs : List Int} (ht : aggT P t n = true) (hx : ρ x = .pointer (some ⟨b, 0, none⟩)) (hb : H b = some ⟨nums k xs, sz, el⟩) (hl : xs.length = n) :
    QS P w0 ρ ⟨d, .load t x, ty, pos, af, g⟩ H (.agg (nums k xs).toArray) := q_loadA0 ht hx hb (by rw [nums_length]; exact hl)
theorem o_allocN {t : TypeId} {k : IntKind} {m : Nat} (hz : zeroT P t = some (.agg (nums k (List.replicate m 0)).toArray)) :
    OpR P w0 ρ ⟨d, .alloc t, ty, pos, af, g⟩ H (fun u H' => ∃ b, H b = none ∧ u = .pointer (some ⟨b, 0, none⟩) ∧ H' = H.set b ⟨nums k (List.replicate m 0), m, t⟩) := by
  have := o_alloc (P := P) (w0 := w0) (ρ := ρ) (H := H) (d := d) (ty := ty) (pos := pos) (af := af) (g := g) (t := t) (cs := nums k (List.replicate m 0)) hz rfl
  exact this.mono (by rintro _ _ ⟨b, h1, h2, h3⟩; exact ⟨b, h1, h2, by simpa [nums_length] using h3⟩)
theorem o_boxN {t : TypeId} {x : Operand} {k : IntKind} {xs : List Int} (hx : ρ x = .agg (nums k xs).toArray) :
    OpR P w0 ρ ⟨d, .box t x, ty, pos, af, g⟩ H (fun u H' => ∃ b, H b = none ∧ u = .pointer (some ⟨b, 0, none⟩) ∧ H' = H.set b ⟨nums k xs, xs.length, t⟩) := by
  have := o_box (P := P) (w0 := w0) (ρ := ρ) (H := H) (d := d) (ty := ty) (pos := pos) (af := af) (g := g) (t := t) (cs := nums k xs) hx rfl
  exact this.mono (by rintro _ _ ⟨b, h1, h2, h3⟩; exact ⟨b, h1, h2, by simpa [nums_length] using h3⟩)
theorem q_build {t : TypeId} {ps : List (Nat × Operand)} {vs : List (Nat × Value)} {cells : Array Value} (hp : (ps.map fun p => (p.1, ρ p.2)) = vs) (h : P.built t vs = some cells) : QS P w0 ρ ⟨d, .build t ps.toArray, ty, pos, af, g⟩ H (.agg cells) :=
  QS.of_run fun w _ => by
    have h2 : P.built t (ps.toArray.map fun (p : Nat × Operand) => (p.1, ρ p.2)).toList = some cells := by simpa [hp] using h
    have := run_build (P := P) w t (ps.toArray.map fun (p : Nat × Operand) => (p.1, ρ p.2)) cells h2
    simp only [execOp, Sem.run_bind]
    rw [show (ps.toArray.map fun (x : Nat × Operand) => match x with | (i, x) => (i, ρ x)) = (ps.toArray.map fun (p : Nat × Operand) => (p.1, ρ p.2)) from rfl]
    rw [this]; rfl
theorem q_indexAN {t e : TypeId} {m : Nat} {x i : Operand} {k k' : IntKind} {xs : List Int} {n : Int} (ht : P.underlying t = some (.array m e)) (hs : scalT P e = true) (hz : sizeT P e = some 1)
    (hx : ρ x = .agg (nums k xs).toArray) (hi : ρ i = .int k' n) (h0 : 0 ≤ n) (h1 : n < m) (hl : xs.length = m) : QS P w0 ρ ⟨d, .index t x i, ty, pos, af, g⟩ H (.int k (xs.getD n.toNat 0)) :=
  q_indexA ht hs hz hx hi h0 h1 (by rw [List.getElem?_toArray]; exact nums_get k xs (by omega))
def upds (e : Env) : List (Nat × Value) → Env
  | [] => e
  | (t, v) :: r => upd (upds e r) t v
def Slots (e : Env) : List (Nat × Value) → Prop
  | [] => True
  | (t, v) :: r => e t = v ∧ Slots e r
theorem upd_id {e : Env} {t : Nat} {v : Value} (h : e t = v) : upd e t v = e := by
  funext u; simp only [upd]; split
  · rename_i hu; rw [hu, h]
  · rfl
theorem Slots.eq {e : Env} : ∀ {l : List (Nat × Value)}, Slots e l → e = upds e l := by
  intro l
  induction l with
  | nil => intro _; rfl
  | cons p l ih =>
    obtain ⟨t, v⟩ := p
    rintro ⟨h1, h2⟩
    rw [upds, ← ih h2, upd_id h1]
theorem i64_int {a b : Int} (h : a = b) (h1 : -9223372036854775808 ≤ b) (h2 : b ≤ 9223372036854775807) : Value.int .i64 (IntKind.i64.wrap a) = .int .i64 b := by subst h; rw [IntWalk.i64_in _ ⟨h1, h2⟩]
end
end Go.Proofs.Ytfiojlmccflplaa.D
end
section
namespace Go.Proofs.Ytfiojlmccflplaa.D
open Go Go.RowKit
set_option linter.unusedVariables false
set_option linter.unusedSimpArgs false
/-- What a slot holds behind an operation that is carried out where B is true. -/
def gv (B : Bool) (v : Value) : Value := match B with
  | true => v
  | false => undef
section
variable {P : Program} {w0 : World} {n : Nat} {H : Hp} {ops : Array Oper} {Q : Post} {e : Env} {t j : Nat} {op : Op} {ty : TypeId} {pos : String} {af : Array Edge} {l : List Oper} {v : Value} {b c B : Bool} {k s : Nat} {ρ : Operand → Value} {d : Option Tmp} {gd : Option (Nat × Bool)}
/-- A test that others hang on: its outcome gets a name. -/
theorem OpsW.qb (hd : Nat.blt t n = true) (h : QS P w0 (ev e) ⟨some t, op, ty, pos, af, none⟩ H (.bool c)) (hk : ∀ b, b = c → OpsW P w0 n ops Q l (upd e t (.bool b)) H) :
    OpsW P w0 n ops Q (⟨some t, op, ty, pos, af, none⟩ :: l) e H := OpsW.q hd h (hk c rfl)
theorem SeqK.qb (hd : Nat.blt t n = true) (h : QS P w0 (ev e) ⟨some t, op, ty, pos, af, none⟩ H (.bool c)) (hk : ∀ b, b = c → SeqK P w0 n ops Q H k l (upd e t (.bool b))) :
    SeqK P w0 n ops Q H (k + 1) (⟨some t, op, ty, pos, af, none⟩ :: l) e := SeqK.q hd h (hk c rfl)
theorem yieldE_plain (ht : dstAt ops j = some s) (hs : e s = .bool c) : yieldE ops e j = some c := by
  unfold yieldE; unfold dstAt at ht; rw [ht]; simp [hs]
theorem yieldE_gv (ht : dstAt ops j = some s) (hs : e s = gv B (.bool c)) : yieldE ops e j = if B then some c else none := by
  unfold yieldE; unfold dstAt at ht; rw [ht]
  cases B <;> simp [hs, gv, undef]
theorem qg_gv {o : Oper} (hd : dstOk n o.dst = true) (hw : Region.wanted o (yieldE ops e) = B) (h : B = true → QS P w0 (ev e) o H v) : QG P w0 n ops H e o (gv B v) := by
  refine ⟨hd, ?_⟩
  cases B with
  | true => exact .inl ⟨hw, h rfl⟩
  | false => exact .inr ⟨hw, rfl⟩
theorem wanted_plain (ht : dstAt ops j = some s) (hs : e s = .bool c) : Region.wanted ⟨some t, op, ty, pos, af, some (j, b)⟩ (yieldE ops e) = (c == b) := by
  simp only [Region.wanted, yieldE_plain ht hs]; cases c <;> cases b <;> rfl
theorem wanted_gv (ht : dstAt ops j = some s) (hs : e s = gv B (.bool c)) : Region.wanted ⟨some t, op, ty, pos, af, some (j, b)⟩ (yieldE ops e) = (B && c == b) := by
  simp only [Region.wanted, yieldE_gv ht hs]; cases B <;> cases c <;> cases b <;> rfl
theorem OpsW.ofQG {o : Oper} (h : QG P w0 n ops H e o v) (hk : OpsW P w0 n ops Q l (putE e o.dst v) H) : OpsW P w0 n ops Q (o :: l) e H := by
  obtain ⟨hd, ⟨hw, hq⟩ | ⟨hw, rfl⟩⟩ := h
  · exact OpsW.op0 hw hd hq (by rintro _ _ ⟨rfl, rfl⟩; exact hk)
  · exact OpsW.pass0 hw hd hk
/-- g: guarded by a plain test; gg: by one that is itself guarded; b behind: its outcome gets a name. -/
theorem OpsW.g (ht : dstAt ops j = some s) (hs : e s = .bool c) (hd : Nat.blt t n = true) (h : (c == b) = true → QS P w0 (ev e) ⟨some t, op, ty, pos, af, some (j, b)⟩ H v) (hk : OpsW P w0 n ops Q l (upd e t (gv (c == b) v)) H) :
    OpsW P w0 n ops Q (⟨some t, op, ty, pos, af, some (j, b)⟩ :: l) e H := OpsW.ofQG (qg_gv (dst_lt hd) (wanted_plain ht hs) h) hk
theorem OpsW.gg (ht : dstAt ops j = some s) (hs : e s = gv B (.bool c)) (hd : Nat.blt t n = true) (h : (B && c == b) = true → QS P w0 (ev e) ⟨some t, op, ty, pos, af, some (j, b)⟩ H v) (hk : OpsW P w0 n ops Q l (upd e t (gv (B && c == b) v)) H) :
    OpsW P w0 n ops Q (⟨some t, op, ty, pos, af, some (j, b)⟩ :: l) e H := OpsW.ofQG (qg_gv (dst_lt hd) (wanted_gv ht hs) h) hk
theorem OpsW.gb {c0 : Bool} (ht : dstAt ops j = some s) (hs : e s = .bool c) (hd : Nat.blt t n = true) (h : (c == b) = true → QS P w0 (ev e) ⟨some t, op, ty, pos, af, some (j, b)⟩ H (.bool c0)) (hk : ∀ x, x = c0 → OpsW P w0 n ops Q l (upd e t (gv (c == b) (.bool x))) H) :
    OpsW P w0 n ops Q (⟨some t, op, ty, pos, af, some (j, b)⟩ :: l) e H := OpsW.g ht hs hd h (hk c0 rfl)
theorem SeqK.g (ht : dstAt ops j = some s) (hs : e s = .bool c) (hd : Nat.blt t n = true) (h : (c == b) = true → QS P w0 (ev e) ⟨some t, op, ty, pos, af, some (j, b)⟩ H v) (hk : SeqK P w0 n ops Q H k l (upd e t (gv (c == b) v))) :
    SeqK P w0 n ops Q H (k + 1) (⟨some t, op, ty, pos, af, some (j, b)⟩ :: l) e := ⟨_, qg_gv (dst_lt hd) (wanted_plain ht hs) h, hk⟩
theorem SeqK.gg (ht : dstAt ops j = some s) (hs : e s = gv B (.bool c)) (hd : Nat.blt t n = true) (h : (B && c == b) = true → QS P w0 (ev e) ⟨some t, op, ty, pos, af, some (j, b)⟩ H v) (hk : SeqK P w0 n ops Q H k l (upd e t (gv (B && c == b) v))) :
    SeqK P w0 n ops Q H (k + 1) (⟨some t, op, ty, pos, af, some (j, b)⟩ :: l) e := ⟨_, qg_gv (dst_lt hd) (wanted_gv ht hs) h, hk⟩
theorem SeqK.gb {c0 : Bool} (ht : dstAt ops j = some s) (hs : e s = .bool c) (hd : Nat.blt t n = true) (h : (c == b) = true → QS P w0 (ev e) ⟨some t, op, ty, pos, af, some (j, b)⟩ H (.bool c0)) (hk : ∀ x, x = c0 → SeqK P w0 n ops Q H k l (upd e t (gv (c == b) (.bool x)))) :
    SeqK P w0 n ops Q H (k + 1) (⟨some t, op, ty, pos, af, some (j, b)⟩ :: l) e := SeqK.g ht hs hd h (hk c0 rfl)
theorem q_and2 {x y z : Operand} {A : Bool} (hc : ρ x = .bool A) (hy : ρ y = gv (A == true) (.bool B)) (hz : ρ z = .bool false) : QS P w0 ρ ⟨d, .pick x y z, ty, pos, af, gd⟩ H (.bool (A && B)) := by
  cases A
  · exact q_pickF hc hz
  · exact q_pickT hc hy
theorem q_or2 {x y z : Operand} {A : Bool} (hc : ρ x = .bool A) (hy : ρ y = .bool true) (hz : ρ z = gv (A == false) (.bool B)) : QS P w0 ρ ⟨d, .pick x y z, ty, pos, af, gd⟩ H (.bool (A || B)) := by
  cases A
  · exact q_pickF hc hz
  · exact q_pickT hc hy
end
end Go.Proofs.Ytfiojlmccflplaa.D
end
section
namespace Go.Proofs.Ytfiojlmccflplaa.D
open Go Go.RowKit
set_option linter.unusedVariables false
set_option linter.unusedSimpArgs false
abbrev nilV : Value := .slice none 0 0
section
variable {P : Program} {w0 : World} {n : Nat} {H H0 : Hp} {ops : Array Oper} {Q : Post} {e : Env} {l : List Oper} {el : TypeId} {sz : Nat}
theorem Hp.le_trans {H H1 H2 : Hp} (h : H.le H1) (k : H1.le H2) : H.le H2 := fun b o hb => k b o (h b o hb)
theorem OpsW.forget {H2 : Hp} (hl : H.le H2) (h : OpsW P w0 n ops Q l e H) : OpsW P w0 n ops Q l e H2 := fun a w hf ho => h a w hf (ho.drop hl)
theorem AW.forget {c : Code} {H2 : Hp} (hl : H.le H2) (h : AW P w0 n c Q e H) : AW P w0 n c Q e H2 := fun a w hf ho => h a w hf (ho.drop hl)
theorem Vec.le {v : Value} {m : Nat} {cs : List Value} {H2 : Hp} (h : Vec H el sz v m cs) (hl : H.le H2) : Vec H2 el sz v m cs := by
  rcases h with h | ⟨b, cap, q, h1, h2, h3⟩
  · exact .inl h
  · exact .inr ⟨b, cap, q, h1, hl b q h2, h3⟩
theorem Grew.nil : Grew H el sz nilV 0 [] nilV H := .inl ⟨rfl, rfl, rfl, rfl, rfl⟩
theorem Grew.le {v : Value} {m : Nat} {cs : List Value} (h : Grew H0 el sz nilV m cs v H) : H0.le H := by
  rcases h with ⟨_, _, _, _, h⟩ | ⟨b, cap, q, h1, h2, h3, _⟩
  · rw [h]; exact Hp.le_refl _
  · rw [h3]; exact Hp.le_set (h2.resolve_left (by simp [vblock])) (Hp.le_refl _)
theorem Grew.step {v v' : Value} {m m' : Nat} {cs cs' : List Value} {Hc H2 : Hp} (hG : Grew H0 el sz nilV m cs v H) (hle : H.le Hc) (h2 : Grew Hc el sz v m' cs' v' H2) :
    ∃ H3 : Hp, H3.le H2 ∧ Grew H0 el sz nilV m' cs' v' H3 := by
  have h0c : H0.le Hc := Hp.le_trans hG.le hle
  rcases h2 with ⟨g1, g2, g3, g4, g5⟩ | ⟨b', cap', q', g1, g2, g3, g4⟩
  · subst g5
    exact ⟨H0, h0c, .inl ⟨g1, g1.symm, g3, g4, rfl⟩⟩
  · have hb' : H0 b' = none := by
      rcases g2 with g2 | g2
      · rcases hG with ⟨k1, _⟩ | ⟨b, cap, q, k1, k2, k3, _⟩
        · rw [k1] at g2; simp [vblock] at g2
        · rw [k1] at g2
          simp [vblock] at g2
          subst g2
          exact k2.resolve_left (by simp [vblock])
      · exact Hp.le_none h0c g2
    refine ⟨H0.set b' q', ?_, .inr ⟨b', cap', q', g1, .inr hb', rfl, g4⟩⟩
    rw [g3]
    intro c o hc
    by_cases e : c = b'
    · subst e; rw [Hp.set_self] at hc ⊢; exact hc
    · rw [Hp.set_ne e] at hc ⊢; exact h0c c o hc
/-- A block of the state below is written while the slice stands. -/
theorem Grew.set {v : Value} {m : Nat} {cs : List Value} (h : Grew H0 el sz nilV m cs v H) {c : Nat} {o o' : Blk} (hc : H0 c = some o) : Grew (H0.set c o') el sz nilV m cs v (H.set c o') := by
  rcases h with ⟨h1, h2, h3, h4, rfl⟩ | ⟨b, cap, q, h1, h2, rfl, h4⟩
  · exact .inl ⟨h1, h2, h3, h4, rfl⟩
  · have hb : H0 b = none := h2.resolve_left (by simp [vblock])
    have hne : b ≠ c := Hp.ne_of hb hc
    exact .inr ⟨b, cap, q, h1, .inr (by rw [Hp.set_ne hne]; exact hb), Hp.set_comm hne, h4⟩
theorem Grew.cast {v v0 : Value} {m m' : Nat} {cs cs' : List Value} (h : Grew H0 el sz v0 m cs v H) (hm : m = m') (hc : cs = cs') : Grew H0 el sz v0 m' cs' v H := by subst hm; subst hc; exact h
/-- A slice that is not nil lies in one block. -/
theorem Grew.block {v : Value} {m : Nat} {cs : List Value} (h : Grew H0 el sz nilV m cs v H) (hm : 0 < m) : ∃ b cap s, v = .slice (some ⟨b, 0, none⟩) m cap ∧ H0 b = none ∧ H = H0.set b ⟨cs, s, el⟩ := by
  rcases h with ⟨h1, h2, h3, h4, rfl⟩ | ⟨b, cap, q, h1, h2, h3, h4, _⟩
  · omega
  · exact ⟨b, cap, q.size, h1, h2.resolve_left (by simp [vblock]), by rw [h3, h4]⟩
theorem bt_drop (l : List UInt8) (m j : Nat) : bt (l.drop m) j = bt l (m + j) := by simp [bt, List.getElem?_drop]
def ones (vs : List Value) : Bool := vs.all Value.oneCell'
theorem ones_all {vs : List Value} (h : ones vs = true) : ∀ v ∈ vs, v.oneCell' = true := fun v hv => by
  simp only [ones, List.all_eq_true] at h; exact h v hv
theorem src_vec {v : Value} {m : Nat} {cs : List Value} (h : Vec H el sz v m cs) (h1 : ∀ v ∈ cs, v.oneCell' = true) : Src P w0 H sz v m cs := by
  rcases h with ⟨rfl, rfl, rfl⟩ | ⟨b, cap, q, rfl, hb, he, ht, hl, _⟩
  · exact src_nil
  · refine src_blk hb hl h1 fun i v hi => ?_
    rw [← ht, List.getElem?_take] at hi
    split at hi
    · simpa using hi
    · cases hi
theorem Vec.len {v : Value} {m : Nat} {cs : List Value} (h : Vec H el sz v m cs) : cs.length = m * sz := by
  rcases h with ⟨_, rfl, rfl⟩ | ⟨b, cap, q, _, _, _, _, hl, _⟩
  · simp
  · exact hl
theorem Vec.slice {v : Value} {m : Nat} {cs : List Value} (h : Vec H el sz v m cs) : ∃ a cap, v = .slice a m cap := by
  rcases h with ⟨rfl, rfl, _⟩ | ⟨b, cap, q, rfl, _⟩
  · exact ⟨_, _, rfl⟩
  · exact ⟨_, _, rfl⟩
def adr (pa : Option Addr) (j : Nat) : Addr := (pa.getD ⟨0, 0, none⟩).add j
def CellsAt (w0 : World) (pa : Option Addr) (m : Nat) (f : Nat → Value) : Prop := (m = 0 ∨ ∃ a, pa = some a) ∧ ∀ j, j < m → w0.cell? (adr pa j) = some (f j)
variable {ρ : Operand → Value} {d : Option Tmp} {ty : TypeId} {pos : String} {af : Array Edge} {g : Option (Nat × Bool)}
theorem bt_take (l : List UInt8) {k i : Nat} (h : i < k) : bt (l.take k) i = bt l i := by simp [bt, List.getElem?_take, h]
end
end Go.Proofs.Ytfiojlmccflplaa.D
end
section
namespace Go.Proofs.Ytfiojlmccflplaa.D
open Go Go.RowKit Go.ChangeShapes Go.WideShapes Go.ChangeAt Go.ChangeMaps
set_option linter.unusedVariables false
set_option linter.unusedSimpArgs false
section
variable {H : Type} {enc : TypeId × Value → H} {P : Program} {W W' : World}
def rowed (P : Program) (ts : List TypeId) : Bool := ts.all fun t => P.readableRec t && decide (t < P.types.size)
theorem trodAll_length {b : Nat} {sp : Nat → Bool} {hd : Bool} : ∀ {ts : List TypeId} {vs : List Value} {ds : List (DataW H)} {ps : List MemPlace}, DataW.TrodAll enc P W b sp hd ts vs ds ps → ds.length = ts.length := by
  intro ts
  induction ts with
  | nil => intro vs ds ps h; obtain ⟨_, rfl, _⟩ := trodAll_nil h; rfl
  | cons t ts ih =>
    intro vs ds ps h
    obtain ⟨v, vs', d, ds', p, q, rfl, rfl, rfl, h1, h2⟩ := trodAll_cons h
    simp [ih h2]
theorem trodAll_below (hl : laidOutB P = true) (hb : Below W.heap.size W W') : ∀ {ts : List TypeId} {vs : List Value} {ds : List (DataW H)} {ps : List MemPlace}, rowed P ts = true →
    DataW.TrodAll enc P W 0 (fun _ => true) true ts vs ds ps → (∀ x ∈ ps, x.block < W.heap.size) → DataW.TrodAll enc P W' 0 (fun b => decide (b < W.heap.size)) true ts vs ds ps := by
  intro ts
  induction ts with
  | nil =>
    intro vs ds ps _ h _
    obtain ⟨rfl, rfl, rfl⟩ := trodAll_nil h
    exact rfl
  | cons t ts ih =>
    intro vs ds ps hr h hlt
    obtain ⟨v, vs', d, ds', p, q, rfl, rfl, rfl, h1, h2⟩ := trodAll_cons h
    simp only [rowed, List.all_cons, Bool.and_eq_true, decide_eq_true_eq] at hr
    refine ⟨p, q, Below.trod hl hr.1.1 hr.1.2 h1 hb (fun x hx => hlt x (by simp [hx])), ih ?_ h2 (fun x hx => hlt x (by simp [hx])), rfl⟩
    simpa [rowed] using hr.2
theorem trod_true {t : TypeId} {b : Nat} {sp : Nat → Bool} {hd : Bool} (ht : P.underlying t = some .bool) : DataW.Trod enc P W b sp hd t (.bool true) (.lit (.bool true)) [] :=
  ⟨1, by simp [DataW.trod, Value.cells, ht]⟩
theorem post_true {fn : Func} {s : ChangeSpec} {args : Array Value} {ds gs : List (DataW H)} {before : List MemPlace} {tb : TypeId} (hl : laidOutB P = true) (hp : rowed P fn.params.toList = true)
    (hv : s.vars = []) (hr : fn.resultTypes = #[tb]) (htb : P.underlying tb = some .bool)
    (hs : (s.fn H (ds ++ gs)).results = [.lit (.bool true)] ∧ (s.fn H (ds ++ gs)).args = ds ∧ (s.fn H (ds ++ gs)).vars = gs)
    (hW : DataW.Whole enc P fn.params.toList s.vars false W args.toList ds gs before) (hb : Below W.heap.size W W') : s.post enc P fn false true false false W args (.bool true) W' := by
  have hW' := hW
  obtain ⟨p, q, hA, hV, rfl, _, _⟩ := hW
  obtain ⟨s1, s2, s3⟩ := hs
  refine ⟨ds, gs, p ++ q, [], p, q, hW', ?_, ?_, ?_, hb.frame _, fun h => by cases h⟩
  · rw [s1, hr]
    exact trodAll_mk1 (trod_true htb)
  · rw [s2]
    exact trodAll_below hl hb hp hA fun x hx => by simpa using hW'.lt x (by simp [hx])
  · rw [s3, hv]
    rw [hv] at hV
    obtain ⟨rfl, rfl⟩ := trodVars_none hV
    exact rfl
theorem own_start (W : World) : Own W (fun _ => none) W := ⟨Below.refl _ _, by simp⟩
theorem lifted {C : Checked} {os : Os} {f : FuncId} {fn : Func} {s : ChangeSpec} {conds : List PathCond} {tb : TypeId}
    (own : ownKnob C.prog.godebug = none) (started : os.Started) (noInit : C.prog.inits.idxOf? f = none) (hfn : C.prog.funcs[f]? = some fn)
    (witness : ∃ (w : World) (tape : Tape) (i : Input), w.os = os ∧ (w.forCall tape i).Shaped C.prog ∧ i.vars = [] ∧ Input.okWide C.prog (w.forCall tape i) .any w.heap.size f i ∧
      s.pre6 enc C.prog fn conds false (w.forCall tape i).memory i.args ∧ Assume.holds {} C.prog (lone (Frame.enter C.prog f i.args .normal) [] (w.forCall tape i)))
    (hl : laidOutB C.prog = true) (hp : rowed C.prog fn.params.toList = true) (hv : s.vars = []) (hr : fn.resultTypes = #[tb]) (htb : C.prog.underlying tb = some .bool)
    (hs : ∀ ds : List (DataW H), ds.length = fn.params.toList.length → (s.fn H ds).results = [.lit (.bool true)] ∧ (s.fn H ds).args = ds ∧ (s.fn H ds).vars = [])
    (contract : ∀ (W : World) (base : Nat) (args : Array Value) (ds gs : List (DataW H)) (before : List MemPlace),
      (∀ (j : Nat) t v, fn.params[j]? = some t → args[j]? = some v → Value.okWide C.prog W .any base t v) →
      DataW.Whole enc C.prog fn.params.toList s.vars false W args.toList ds gs before →
      conds.all (PathCond.test C.prog ⟨fn.params.toList, ds, s.plain.varTypes C.prog, gs⟩) = true →
      Con C.prog W f args (fun _ => none) fun v _ => v = .bool true) :
    ReturnsInHanded {} C os f .any (s.pre6 enc C.prog fn conds false) (s.post enc C.prog fn false true false false) := by
  refine returnsInHanded_of_change (C := C) own started noInit hfn witness ?_
  intro W base args ds gs before hval hW hcnd _
  refine (contract W base args ds gs before hval hW hcnd W (own_start W)).mono fun e W' ⟨v, H', he, ho, hvt⟩ => ?_
  subst hvt
  have hlen : ds.length = fn.params.toList.length ∧ gs = [] := by
    obtain ⟨p, q, hA, hV, _⟩ := hW
    rw [hv] at hV
    exact ⟨trodAll_length hA, (trodVars_none hV).1⟩
  refine ⟨_, he, post_true hl hp hv hr htb ?_ hW ho.below⟩
  rw [hlen.2, List.append_nil]
  exact hs ds hlen.1
theorem len3 {α : Type} {l : List α} (h : l.length = 3) : ∃ a b c, l = [a, b, c] := by
  match l, h with
  | [a, b, c], _ => exact ⟨a, b, c, rfl⟩
theorem wf_i64 {n : Int} (h : (Lit.int .i64 n).wf = true) : -9223372036854775808 ≤ n ∧ n ≤ 9223372036854775807 := by
  simp only [Lit.wf, Bool.and_eq_true, decide_eq_true_eq, IntKind.min, IntKind.max, IntKind.signed, IntKind.bits] at h
  simpa using h
theorem wf_u8 {n : Int} (h : (Lit.int .u8 n).wf = true) : 0 ≤ n ∧ n ≤ 255 := by
  simp only [Lit.wf, Bool.and_eq_true, decide_eq_true_eq, IntKind.min, IntKind.max, IntKind.signed, IntKind.bits] at h
  simpa using h
end
end Go.Proofs.Ytfiojlmccflplaa.D
end
section
namespace Go.Proofs.Ytfiojlmccflplaa.D
open Go Go.RowKit
set_option linter.unusedVariables false
set_option linter.unusedSimpArgs false
section
variable {P : Program} {w0 : World} {n : Nat} {H H' H0 : Hp} {ops : Array Oper} {Q : Post} {el : TypeId} {sz : Nat}
theorem Vec.keep {v : Value} {m : Nat} {cs : List Value} (h : Vec H el sz v m cs) (hk : ∀ c o, vblock v = some c → H c = some o → H' c = some o) : Vec H' el sz v m cs := by
  rcases h with h | ⟨b, cap, q, rfl, h2, h3⟩
  · exact .inl h
  · exact .inr ⟨b, cap, q, rfl, hk b q rfl h2, h3⟩
theorem Vec.set {v : Value} {m : Nat} {cs : List Value} (h : Vec H el sz v m cs) {b : Nat} {o : Blk} (hb : vblock v ≠ some b) : Vec (H.set b o) el sz v m cs :=
  h.keep fun c q hv hc => by
    have : c ≠ b := fun e => hb (e ▸ hv)
    rw [Hp.set_ne this]; exact hc
theorem Vec.owned {v : Value} {m : Nat} {cs : List Value} (h : Vec H el sz v m cs) {b : Nat} (hb : H b = none) : vblock v ≠ some b := by
  rcases h with ⟨rfl, _⟩ | ⟨b', cap, q, rfl, h2, _⟩
  · simp [vblock]
  · intro e
    simp [vblock] at e
    subst e
    rw [hb] at h2; cases h2
theorem Grew.keep {v v' : Value} {m : Nat} {cs : List Value} (h : Grew H el sz v m cs v' H') {c : Nat} {o : Blk} (hv : vblock v ≠ some c) (ho : H c = some o) : H' c = some o := by
  rcases h with ⟨_, _, _, _, rfl⟩ | ⟨b, cap, q, _, h2, rfl, _⟩
  · exact ho
  · have : c ≠ b := by
      rintro rfl
      rcases h2 with h2 | h2
      · exact hv h2
      · rw [h2] at ho; cases ho
    rw [Hp.set_ne this]; exact ho
theorem Grew.other {v v' : Value} {m : Nat} {cs : List Value} (h : Grew H el sz v m cs v' H') {u : Value} {k : Nat} {ds : List Value} {el2 : TypeId} {sz2 : Nat} (hu : Vec H el2 sz2 u k ds) (hv : ∀ c, vblock u = some c → vblock v ≠ some c) : Vec H' el2 sz2 u k ds :=
  hu.keep fun c o h1 h2 => h.keep (hv c h1) h2
theorem Grew.blk {v v' : Value} {m : Nat} {cs : List Value} (h : Grew H el sz v m cs v' H') {c : Nat} (hc : vblock v' = some c) : vblock v = some c ∨ H c = none := by
  rcases h with ⟨h1, h2, _⟩ | ⟨b, cap, q, h1, h2, _⟩
  · rw [h1] at hc; simp [vblock] at hc
  · rw [h1] at hc
    simp [vblock] at hc
    subst hc
    exact h2
theorem Grew.frame {v v' : Value} {m : Nat} {cs : List Value} (h : Grew H el sz v m cs v' H') (hle : H0.le H) (hv : ∀ c, vblock v = some c → H0 c = none) : H0.le H' ∧ ∀ c, vblock v' = some c → H0 c = none := by
  refine ⟨fun c o hc => h.keep (fun e => by rw [hv c e] at hc; cases hc) (hle c o hc), fun c hc => ?_⟩
  rcases h.blk hc with h1 | h1
  · exact hv c h1
  · cases h0 : H0 c with
    | none => rfl
    | some o => rw [hle c o h0] at h1; cases h1
theorem Grew.apart {v v' : Value} {m : Nat} {cs : List Value} (h : Grew H el sz v m cs v' H') {c : Nat} (hv : vblock v ≠ some c) {o : Blk} (ho : H c = some o) : vblock v' ≠ some c := by
  intro e
  rcases h.blk e with h1 | h1
  · exact hv h1
  · rw [ho] at h1; cases h1
theorem Hp.le_set_of {b : Nat} {o : Blk} (h : H0.le H) (hb : H0 b = none) : H0.le (H.set b o) := fun c q hc => by
  have : c ≠ b := by rintro rfl; rw [hb] at hc; cases hc
  rw [Hp.set_ne this]; exact h c q hc
/-- The first a elements. -/
def takeV (v : Value) (a : Nat) : Value := match v with
  | .slice p _ c => .slice p a c
  | v => v
theorem takeV_block (v : Value) (a : Nat) : vblock (takeV v a) = vblock v := by
  cases v <;> try rfl
  rename_i p m c
  cases p <;> rfl
theorem takeV_id {v : Value} {m : Nat} {cs : List Value} (h : Vec H el sz v m cs) : takeV v m = v := by
  rcases h with ⟨rfl, rfl, _⟩ | ⟨_, _, _, rfl, _⟩ <;> rfl
theorem Vec.take {v : Value} {m : Nat} {cs : List Value} (h : Vec H el sz v m cs) {a : Nat} (ha : a ≤ m) : Vec H el sz (takeV v a) a (cs.take (a * sz)) := by
  rcases h with ⟨rfl, rfl, rfl⟩ | ⟨b, cap, q, rfl, h2, h3, h4, h5, h6, h7⟩
  · obtain rfl : a = 0 := by omega
    exact .inl ⟨rfl, rfl, by simp⟩
  · refine .inr ⟨b, cap, q, rfl, h2, h3, ?_, ?_, by omega, h7⟩
    · rw [← h4, List.take_take]
      congr 1
      exact (Nat.min_eq_left (Nat.mul_le_mul_right _ ha)).symm
    · rw [List.length_take, h5]
      exact Nat.min_eq_left (Nat.mul_le_mul_right _ ha)
theorem Vec.one {m : Nat} {v : Value} {cs : List Value} (h : Vec H el sz v m cs) : v.oneCell' = true := by
  rcases h with ⟨rfl, _⟩ | ⟨_, _, _, rfl, _⟩ <;> rfl
theorem Vec.takeOne {m k : Nat} {v : Value} {cs : List Value} (h : Vec H el sz v m cs) : (takeV v k).oneCell' = true := by
  rcases h with ⟨rfl, _⟩ | ⟨_, _, _, rfl, _⟩ <;> rfl
/-- One element of a slice is written. -/
theorem Vec.put {bk cap k j : Nat} {q : Blk} {cs : List Value} {x : Value} (hv : Vec H el 1 (.slice (some ⟨bk, 0, none⟩) k cap) k cs) (hb : H bk = some q) (hj : j < k) :
    Vec (H.set bk { q with cells := q.cells.set j x }) el 1 (.slice (some ⟨bk, 0, none⟩) k cap) k (cs.set j x) := by
  rcases hv with ⟨h, _⟩ | ⟨b', cap', q', h1, h2, h3, h4, h5, h6, h7, h8⟩
  · cases h
  · cases h1
    rw [hb] at h2
    cases h2
    refine .inr ⟨bk, cap, _, rfl, Hp.set_self, h3, ?_, by rw [List.length_set]; exact h5, h6, h7, h8⟩
    show (q.cells.set j x).take (k * 1) = cs.set j x
    rw [← h4, List.take_set]
variable {ρ : Operand → Value} {d : Option Tmp} {ty : TypeId} {pos : String} {af : Array Edge} {g : Option (Nat × Bool)}
theorem q_lenVec {t e : TypeId} {x : Operand} {v : Value} {m : Nat} {cs : List Value} (ht : P.underlying t = some (.slice e)) (hx : ρ x = v) (hv : Vec H el sz v m cs) :
    QS P w0 ρ ⟨d, .call { callee := .builtin .len, args := #[x], argTypes := #[t] }, ty, pos, af, g⟩ H (.int .i64 (m : Int)) := by
  rcases hv with ⟨rfl, rfl, rfl⟩ | ⟨b, cap, q, rfl, _⟩
  · exact q_lenV ht hx
  · exact q_lenV ht hx
theorem q_sliceVec_hi {t e : TypeId} {x hi : Operand} {v : Value} {m : Nat} {cs : List Value} {k : IntKind} {a : Int} (ht : P.underlying t = some (.slice e)) (hs : sizeT P e = some sz) (hx : ρ x = v) (hv : Vec H el sz v m cs)
    (hc : ρ hi = .int k a) (h0 : 0 ≤ a) (h1 : a ≤ m) : QS P w0 ρ ⟨d, .slice t x none (some hi) none, ty, pos, af, g⟩ H (takeV v a.toNat) := by
  rcases hv with ⟨rfl, rfl, rfl⟩ | ⟨b, cap, q, rfl, _, _, _, _, h6, _⟩
  · obtain rfl : a = 0 := by omega
    exact q_sliceV_hi ht hs hx hc (by decide) (by decide)
  · exact q_sliceV_hi ht hs hx hc h0 (by omega)
end
end Go.Proofs.Ytfiojlmccflplaa.D
end
section
namespace Go.Proofs.Ytfiojlmccflplaa.D
open Go Go.RowKit
set_option linter.unusedVariables false
set_option linter.unusedSimpArgs false
section
variable {P : Program} {w0 : World} {n : Nat} {H : Hp}
theorem wpAny_drawR {ops : Array Oper} {F : List Nat} {k f c : Nat} (hok : DrawOk ops F k f) (hck : c < k) {R : Value → Hp → Prop} {vals : Value → Hp → Nat → Value} {e0 : Env}
    (hv : ∀ v H1 v' H1' i, i < k → i ≠ c → reach ops 16 i c = false → vals v H1 i = vals v' H1' i) (hvc : ∀ v H1, vals v H1 c = v)
    (hq : ∀ v H1, R v H1 → ∀ i o, i < k → i ≠ c → ops[i]? = some o → (reach ops 16 i c = false → QG P w0 n ops H (envAt ops.toList (vals v H1) e0 i) o (vals v H1 i)) ∧ (reach ops 16 c i = false → QG P w0 n ops H1 (envAt ops.toList (vals v H1) e0 i) o (vals v H1 i)))
    (hc : ∀ v H1, R v H1 → ∀ o, ops[c]? = some o → dstOk n o.dst = true ∧ Region.wanted o (yieldE ops (envAt ops.toList (vals v H1) e0 c)) = true ∧ OpR P w0 (ev (envAt ops.toList (vals v H1) e0 c)) o H R)
    {Q : Exit → Act → World → Prop}
    (hK : ∀ v H1, R v H1 → ∀ a w, Fr n (envAt ops.toList (vals v H1) e0 k) a → Own w0 H1 w → wpList P ops Q (tl f k (ops.toList.drop k)) a w) :
    ∀ (fuel : Nat) (listed : Array Bool) (e : Env) (a : Act) (w : World), listed.getD c false = false → (∀ v H1, R v H1 → Inv ops F k f (vals v H1) e0 listed e) → (∃ v H1, R v H1) → listed.getD f true = true → Fr n e a → Own w0 H w → (unl ops listed).length ≤ fuel →
      wpAny P .any ops Q fuel listed a w := by
  intro fuel
  have hle := hok.le
  induction fuel with
  | zero =>
    intro listed e a w hcl hi hne hlf hf ho hfu
    obtain ⟨v0, H10, hR0⟩ := hne
    have hsz := (hi v0 H10 hR0).size
    have hnil : unl ops listed = [] := List.eq_nil_of_length_eq_zero (by omega)
    have hcu : listed.getD c true = false := by
      simp only [Array.getD_eq_getD_getElem?] at hcl ⊢
      have : c < listed.size := by omega
      simpa [this] using hcl
    have : c ∈ unl ops listed := by simp only [unl, List.mem_filter, List.mem_range, hcu]; exact ⟨by omega, rfl⟩
    rw [hnil] at this; cases this
  | succ fuel ih =>
    intro listed e a w hcl hi hne hlf hf ho hfu
    obtain ⟨v0, H10, hR0⟩ := hne
    have hi0 := hi v0 H10 hR0
    have hsz0 := hi0.size
    have hcu : listed.getD c true = false := by
      simp only [Array.getD_eq_getD_getElem?] at hcl ⊢
      have : c < listed.size := by omega
      simpa [this] using hcl
    have hleast : ∃ j, j < k ∧ listed.getD j true = false ∧ ∀ m, m < j → listed.getD m true = true := by
      have : ∃ j, j < k ∧ listed.getD j true = false := ⟨c, hck, hcu⟩
      obtain ⟨j, hj, hl⟩ := this
      induction j using Nat.strongRecOn with
      | _ j ihj =>
        by_cases hm : ∃ m, m < j ∧ listed.getD m true = false
        · obtain ⟨m, hm1, hm2⟩ := hm
          exact ihj m hm1 (by omega) hm2
        · refine ⟨j, hj, hl, fun m hmj => ?_⟩
          cases hl' : listed.getD m true with
          | true => rfl
          | false => exact (hm ⟨m, hmj, hl'⟩).elim
    have todf : ∀ m, m < ops.size → listed.getD m true = true → listed.getD m false = true := by
      intro m hm h3
      simp only [Array.getD_eq_getD_getElem?] at h3 ⊢
      have : m < listed.size := by rw [hsz0]; exact hm
      simpa [this] using h3
    refine ⟨fun hnil => ?_, fun i hir => ?_⟩
    · obtain ⟨j, hj, hl, hm⟩ := hleast
      have : j ∈ Region.ready .any ops listed := by
        refine mem_ready.2 ⟨by omega, hl, ?_⟩
        intro o hoo ed he hb
        have hb := hok.back j o hoo ed he hb
        exact todf _ (by omega) (hm _ hb)
      rw [hnil] at this; cases this
    · obtain ⟨hi1, hi2, hi3⟩ := mem_ready.1 hir
      have hik : i < k := by
        rcases Nat.lt_or_ge i k with h | h
        · exact h
        · obtain ⟨j, hj, hl, _⟩ := hleast
          have hif : i ≠ f := fun e => by rw [e, hlf] at hi2; cases hi2
          have hjf : j ≠ f := fun e => by rw [e, hlf] at hl; cases hl
          have := hi0.shut.reach 16 i j hi3 (((hok.tail i j h hi1 hif (by omega)).resolve_left hjf).resolve_left fun hF => by have := hi0.fl j hF; rw [hl] at this; cases this)
          have := getD_true this
          rw [hl] at this; cases this
      have hoi : ops[i]? = some ops[i] := Array.getElem?_eq_getElem hi1
      have hsz : i < listed.size := by rw [hsz0]; exact hi1
      have hlf' : (listed.setIfInBounds i true).getD f true = true := by
        rw [getD_set hsz]; split
        · rfl
        · exact hlf
      by_cases hic : i = c
      · subst hic
        obtain ⟨hd, hw, hr⟩ := hc v0 H10 hR0 _ hoi
        obtain ⟨g1, g2⟩ := looks_congr hoi (hok.sel i _ hoi) (hi0.sees hok hi1 hik hi3)
        have hr' : OpR P w0 (ev e) ops[i] H R := by
          unfold OpR at *
          rw [← g2]; exact hr
        unfold wpOp
        simp only [hoi]
        rw [wanted_congr _ (hf.yielded ops), ← g1, if_pos hw]
        exact .inl (Res.wp (ops := ops) (Q := fun _ _ _ => False) hf ho hr' fun v H' w' hrv ho' => by
          have hst := (hi v H' hrv).step hok hi1 hik hi3
          rw [hvc] at hst
          refine wpAny_draw (H := H') (H1 := H') (c := i) (C := False) hok (.inl hik) (fun j o h1 h2 h3 => ⟨fun hF => hF.elim, fun _ hre => (hq v H' hrv j o h1 h2 h3).2 hre⟩) (fun hF => hF.elim) ?_ fuel _ _ _ w' hst hlf' (fun h => by rw [getDf_set hsz, if_pos rfl] at h; cases h) (hf.put hd _) ?_ (by have := unl_set hi1 hsz0 hi2; omega)
          · intro a w h1 h2
            have hb : Nat.blt i k = true := by simpa [Nat.blt, Nat.succ_le_iff] using hik
            rw [hb] at h2
            exact hK v H' hrv a w h1 h2
          · have : hpAt H' H' i (listed.setIfInBounds i true) = H' := by unfold hpAt; cases (listed.setIfInBounds i true).getD i false <;> rfl
            rw [this]; exact ho')
      · have hre : reach ops 16 i c = false := by
          cases hre : reach ops 16 i c with
          | false => rfl
          | true => have := hi0.shut.reach 16 i c hi3 hre; rw [hcl] at this; cases this
        have hqe := ((hq v0 H10 hR0 i _ hik hic hoi).1 hre).congr hoi (hok.sel i _ hoi) (hi0.sees hok hi1 hik hi3)
        have hcl' : (listed.setIfInBounds i true).getD c false = false := by rw [getDf_set hsz, if_neg (Ne.symm hic)]; exact hcl
        have next : ∀ a' w', Fr n (putE e ops[i].dst (vals v0 H10 i)) a' → Own w0 H w' → wpAny P .any ops Q fuel (listed.setIfInBounds i true) a' w' := fun a' w' hf' ho' =>
          ih _ _ a' w' hcl' (fun v H1 hR => by rw [hv v0 H10 v H1 i hik hic hre]; exact (hi v H1 hR).step hok hi1 hik hi3) ⟨v0, H10, hR0⟩ hlf' hf' ho' (by have := unl_set hi1 hsz0 hi2; omega)
        unfold wpOp
        simp only [hoi]
        rw [wanted_congr _ (hf.yielded ops)]
        obtain ⟨hd, hqq⟩ := hqe
        rcases hqq with ⟨hw, hs⟩ | ⟨hw, hvv⟩
        · rw [if_pos hw]
          exact .inl (Res.wp (ops := ops) (Q := fun _ _ _ => False) hf ho hs fun v H' w' hr ho' => by
            obtain ⟨rfl, rfl⟩ := hr
            exact next _ _ (hf.put hd _) ho')
        · rw [if_neg (by simp [hw]), ← hvv]
          exact next _ _ (hf.put hd _) ho
/-- Behind the effect: all wait for it. -/
def SeqR2 (P : Program) (w0 : World) (n : Nat) (ops : Array Oper) (Q : Post) (H1 : Hp) : Nat → List Oper → Env → Prop
  | 0, l, e => OpsW P w0 n ops Q l e H1
  | k + 1, o :: l, e => ∃ v, QG P w0 n ops H1 e o v ∧ SeqR2 P w0 n ops Q H1 k l (putE e o.dst v)
  | _ + 1, [], _ => False
/-- c operations ahead of the effect, the effect itself, k behind it, then the tail. -/
def SeqR (P : Program) (w0 : World) (n : Nat) (ops : Array Oper) (Q : Post) (H : Hp) (R : Value → Hp → Prop) (c0 k : Nat) : Nat → Nat → List Oper → Env → Prop
  | _, 0, o :: l, e => dstOk n o.dst = true ∧ Region.wanted o (yieldE ops e) = true ∧ OpR P w0 (ev e) o H R ∧ ∀ v H1, R v H1 → SeqR2 P w0 n ops Q H1 k l (putE e o.dst v)
  | i, c + 1, o :: l, e => ∃ v, QG P w0 n ops H e o v ∧ (reach ops 16 c0 i = false → ∀ u H1, R u H1 → QG P w0 n ops H1 e o v) ∧ SeqR P w0 n ops Q H R c0 k (i + 1) c l (putE e o.dst v)
  | _, _, [], _ => False
theorem SeqR2.vals {ops : Array Oper} {Q : Post} {H1 : Hp} : ∀ (k : Nat) (l : List Oper) (e : Env), SeqR2 P w0 n ops Q H1 k l e →
    ∃ vals : Nat → Value, (∀ j o, j < k → l[j]? = some o → QG P w0 n ops H1 (envAt l vals e j) o (vals j)) ∧ OpsW P w0 n ops Q (l.drop k) (envAt l vals e k) H1 := by
  intro k
  induction k with
  | zero => intro l e h; exact ⟨fun _ => undef, fun j o hj => by omega, by simpa [envAt, SeqR2] using h⟩
  | succ k ih =>
    intro l e h
    cases l with
    | nil => exact h.elim
    | cons o l =>
      obtain ⟨v, h1, h2⟩ := h
      obtain ⟨vals, h3, h4⟩ := ih l _ h2
      refine ⟨fun j => match j with | 0 => v | j + 1 => vals j, ?_, ?_⟩
      · intro j o' hj ho
        cases j with
        | zero => simp at ho; subst ho; exact h1
        | succ j =>
          simp at ho
          rw [envAt_shift]
          exact h3 j o' (by omega) ho
      · rw [envAt_shift]; simpa using h4
structure ValsR (P : Program) (w0 : World) (n : Nat) (ops : Array Oper) (Q : Post) (H : Hp) (R : Value → Hp → Prop) (c0 k i c : Nat) (l : List Oper) (e : Env) (vals : Value → Hp → Nat → Value) : Prop where
  lt : c < l.length
  same : ∀ v H1 v' H1' j, j < c → vals v H1 j = vals v' H1' j
  at' : ∀ v H1, vals v H1 c = v
  ahead : ∀ v H1 j o, j < c → l[j]? = some o → QG P w0 n ops H (envAt l (vals v H1) e j) o (vals v H1 j) ∧ (reach ops 16 c0 (i + j) = false → ∀ u H2, R u H2 → QG P w0 n ops H2 (envAt l (vals v H1) e j) o (vals v H1 j))
  eff : ∀ v H1 o, l[c]? = some o → dstOk n o.dst = true ∧ Region.wanted o (yieldE ops (envAt l (vals v H1) e c)) = true ∧ OpR P w0 (ev (envAt l (vals v H1) e c)) o H R
  behind : ∀ v H1, R v H1 → (∀ j o, c < j → j < c + 1 + k → l[j]? = some o → QG P w0 n ops H1 (envAt l (vals v H1) e j) o (vals v H1 j)) ∧ OpsW P w0 n ops Q (l.drop (c + 1 + k)) (envAt l (vals v H1) e (c + 1 + k)) H1
theorem SeqR.vals {ops : Array Oper} {Q : Post} {R : Value → Hp → Prop} {c0 k : Nat} : ∀ (c i : Nat) (l : List Oper) (e : Env), SeqR P w0 n ops Q H R c0 k i c l e → ∃ vals, ValsR P w0 n ops Q H R c0 k i c l e vals := by
  intro c
  induction c with
  | zero =>
    intro i l e h
    cases l with
    | nil => exact h.elim
    | cons o l =>
      obtain ⟨h1, h2, h3, h4⟩ := h
      have hch : ∀ v H1, ∃ vs : Nat → Value, R v H1 → (∀ j o', j < k → l[j]? = some o' → QG P w0 n ops H1 (envAt l vs (putE e o.dst v) j) o' (vs j)) ∧ OpsW P w0 n ops Q (l.drop k) (envAt l vs (putE e o.dst v) k) H1 := by
        intro v H1
        by_cases hR : R v H1
        · obtain ⟨vs, q1, q2⟩ := SeqR2.vals k l _ (h4 v H1 hR)
          exact ⟨vs, fun _ => ⟨q1, q2⟩⟩
        · exact ⟨fun _ => undef, fun h => absurd h hR⟩
      refine ⟨fun v H1 j => match j with | 0 => v | j + 1 => Classical.choose (hch v H1) j, by simp, fun _ _ _ _ j hj => by omega, fun _ _ => rfl, fun _ _ j _ hj => by omega, ?_, ?_⟩
      · intro v H1 o' ho
        simp at ho
        subst ho
        exact ⟨h1, h2, h3⟩
      · intro v H1 hR
        obtain ⟨q1, q2⟩ := Classical.choose_spec (hch v H1) hR
        refine ⟨?_, ?_⟩
        · intro j o' hj hj2 ho
          obtain ⟨j', rfl⟩ : ∃ j', j = j' + 1 := ⟨j - 1, by omega⟩
          simp at ho
          rw [envAt_shift]
          exact q1 j' o' (by omega) ho
        · rw [show 0 + 1 + k = k + 1 from by omega, envAt_shift]
          simpa using q2
  | succ c ih =>
    intro i l e h
    cases l with
    | nil => exact h.elim
    | cons o l =>
      obtain ⟨v0, h1, h2, h3⟩ := h
      obtain ⟨vals, hV⟩ := ih (i + 1) l _ h3
      refine ⟨fun v H1 j => match j with | 0 => v0 | j + 1 => vals v H1 j, ?_, ?_, ?_, ?_, ?_, ?_⟩
      · have := hV.lt; simp; omega
      · intro v H1 v' H1' j hj
        cases j with
        | zero => rfl
        | succ j => exact hV.same v H1 v' H1' j (by omega)
      · exact fun v H1 => hV.at' v H1
      · intro v H1 j o' hj ho
        cases j with
        | zero => simp at ho; subst ho; exact ⟨h1, h2⟩
        | succ j =>
          simp at ho
          rw [envAt_shift]
          have := hV.ahead v H1 j o' (by omega) ho
          rw [show i + 1 + j = i + (j + 1) from by omega] at this
          exact this
      · intro v H1 o' ho
        simp at ho
        rw [envAt_shift]
        exact hV.eff v H1 o' ho
      · intro v H1 hR
        obtain ⟨q1, q2⟩ := hV.behind v H1 hR
        refine ⟨?_, ?_⟩
        · intro j o' hj hj2 ho
          obtain ⟨j', rfl⟩ : ∃ j', j = j' + 1 := ⟨j - 1, by omega⟩
          simp at ho
          rw [envAt_shift]
          exact q1 j' o' (by omega) (by omega) ho
        · rw [show c + 1 + 1 + k = (c + 1 + k) + 1 from by omega, envAt_shift]
          simpa using q2
theorem AW.drawR {id : Nat} {l : List Oper} {Q : Post} {e : Env} (c k : Nat) {R : Value → Hp → Prop} (hm : P.follows .mixedOrders = true) (hok : drawOk l.toArray [] (c + 1 + k) l.length = true)
    (hall : ((List.range (c + 1 + k)).all fun i => Nat.ble i c || reach l.toArray 16 i c) = true) (h : SeqR P w0 n l.toArray Q H R c k 0 c l e) : AW P w0 n (.region id l.toArray true) Q e H := by
  obtain ⟨vals, hV⟩ := SeqR.vals c 0 l e h
  have hok' := DrawOk.of hok
  have hk : c + 1 + k ≤ l.length := by simpa using hok'.le
  have hdep : ∀ i, c < i → i < c + 1 + k → reach l.toArray 16 i c = true := by
    intro i h1 h2
    have := (List.all_eq_true.1 hall) i (by simpa using h2)
    simp only [Bool.or_eq_true] at this
    rcases this with h3 | h3
    · have := Nat.le_of_ble_eq_true h3; omega
    · exact h3
  intro a w hf ho
  refine wp_region_any hm ?_
  have hcl : l[c]? = some l[c] := List.getElem?_eq_getElem hV.lt
  have hne : ∃ v H1, R v H1 := by
    obtain ⟨_, _, hr⟩ := hV.eff undef H _ hcl
    have h1 := hr w ho
    generalize (execOp (ev (envAt l (vals undef H) e c)) l[c]).run P w = q at h1
    cases q with
    | halt => exact h1.elim
    | ok nx w' =>
      cases nx <;> simp only [Res] at h1
      case value v => obtain ⟨H', _, h3⟩ := h1; exact ⟨v, H', h3⟩
      case skip => obtain ⟨H', _, h3⟩ := h1; exact ⟨undef, H', h3⟩
      case enter f args => obtain ⟨x, w2, fr, ⟨v, H', _, _, h3⟩, _⟩ := h1 []; exact ⟨v, H', h3⟩
  have hfl : Nat.blt l.length l.length = false := by
    cases hh : Nat.blt l.length l.length with
    | false => rfl
    | true => exfalso; simp [Nat.blt] at hh; omega
  refine wpAny_drawR (F := []) (k := c + 1 + k) (f := l.length) (c := c) hok' (by omega) (R := R) (vals := vals) (e0 := e) (H := H) ?_ hV.at' ?_ ?_ ?_ _ _ e a _ (by rw [Array.getD_eq_getD_getElem?, Array.getElem?_replicate]; split <;> rfl) ?_ hne (by rw [Array.getD_eq_getD_getElem?, Array.getElem?_eq_none (by simp)]; rfl) hf ho.drew ?_
  · intro v H1 v' H1' i hi hic hre
    by_cases hlt : i < c
    · exact hV.same v H1 v' H1' i hlt
    · rw [hdep i (by omega) hi] at hre; cases hre
  · intro v H1 hR i o hi hic hoo
    have hoo' : l[i]? = some o := by simpa using hoo
    by_cases hlt : i < c
    · obtain ⟨q1, q2⟩ := hV.ahead v H1 i o hlt hoo'
      rw [Nat.zero_add] at q2
      exact ⟨fun _ => by simpa using q1, fun hre => by simpa using q2 hre v H1 hR⟩
    · have q := (hV.behind v H1 hR).1 i o (by omega) hi hoo'
      exact ⟨(fun hre => by rw [hdep i (by omega) hi] at hre; cases hre), fun _ => by simpa using q⟩
  · intro v H1 _ o hoo
    have := hV.eff v H1 o (by simpa using hoo)
    simpa using this
  · intro v H1 hR a w h1 h2
    have q := (hV.behind v H1 hR).2
    have h3 : tl l.length (c + 1 + k) (l.toArray.toList.drop (c + 1 + k)) = l.drop (c + 1 + k) := by
      rw [tl_none (by simp; omega)]
    rw [h3]
    exact q a w (by simpa using h1) h2
  · intro v H1 _
    refine ⟨by simp, ?_, ?_, ?_, ?_, by simp⟩
    · intro i o hoo hl ed he hb
      have hi : i < l.toArray.size := (Array.getElem?_eq_some_iff.1 hoo).1
      have hi2 : i < l.length := by simpa using hi
      simp [hi2] at hl
    · intro j _ hj _
      have hj2 : j < l.length := by simpa using hj
      simp [hj2]
    · intro j hj hl
      have hj2 : j < l.length := by omega
      simp [hj2] at hl
    · intro t _; rfl
  · unfold unl
    have := List.length_filter_le (fun i => !(Array.replicate l.toArray.size false).getD i true) (List.range l.toArray.size)
    simpa using this
section
variable {ops : Array Oper} {Q : Post} {e : Env} {R : Value → Hp → Prop} {c0 c k i : Nat} {t : Tmp} {op : Op} {ty : TypeId} {pos : String} {af : Array Edge} {l : List Oper} {v : Value} {H1 : Hp}
theorem SeqR2.done (h : OpsW P w0 n ops Q l e H1) : SeqR2 P w0 n ops Q H1 0 l e := h
theorem SeqR2.q (hd : Nat.blt t n = true) (h : QS P w0 (ev e) ⟨some t, op, ty, pos, af, none⟩ H1 v) (hk : SeqR2 P w0 n ops Q H1 k l (upd e t v)) : SeqR2 P w0 n ops Q H1 (k + 1) (⟨some t, op, ty, pos, af, none⟩ :: l) e := ⟨v, ⟨dst_lt hd, .inl ⟨rfl, h⟩⟩, hk⟩
theorem SeqR.b (hr : reach ops 16 c0 i = true) (hd : Nat.blt t n = true) (h : QS P w0 (ev e) ⟨some t, op, ty, pos, af, none⟩ H v) (hk : SeqR P w0 n ops Q H R c0 k (i + 1) c l (upd e t v)) :
    SeqR P w0 n ops Q H R c0 k i (c + 1) (⟨some t, op, ty, pos, af, none⟩ :: l) e := ⟨v, ⟨dst_lt hd, .inl ⟨rfl, h⟩⟩, (fun h => by rw [hr] at h; cases h), hk⟩
theorem SeqR.q (hd : Nat.blt t n = true) (h : QS P w0 (ev e) ⟨some t, op, ty, pos, af, none⟩ H v) (h1 : ∀ u H1, R u H1 → QS P w0 (ev e) ⟨some t, op, ty, pos, af, none⟩ H1 v) (hk : SeqR P w0 n ops Q H R c0 k (i + 1) c l (upd e t v)) :
    SeqR P w0 n ops Q H R c0 k i (c + 1) (⟨some t, op, ty, pos, af, none⟩ :: l) e := ⟨v, ⟨dst_lt hd, .inl ⟨rfl, h⟩⟩, fun _ u H1 hu => ⟨dst_lt hd, .inl ⟨rfl, h1 u H1 hu⟩⟩, hk⟩
theorem SeqR.x (hd : Nat.blt t n = true) (h : OpR P w0 (ev e) ⟨some t, op, ty, pos, af, none⟩ H R) (hk : ∀ v H1, R v H1 → SeqR2 P w0 n ops Q H1 k l (upd e t v)) :
    SeqR P w0 n ops Q H R c0 k i 0 (⟨some t, op, ty, pos, af, none⟩ :: l) e := ⟨dst_lt hd, rfl, h, hk⟩
end
/-- Likewise; what is owed behind the effect is kept in D. -/
def SeqD (P : Program) (w0 : World) (n : Nat) (ops : Array Oper) (Q : Post) (H : Hp) (c0 k : Nat) : Nat → Nat → List Oper → Env → (Hp → Prop) → Prop
  | _, 0, o :: l, e, D => dstOk n o.dst = true ∧ Region.wanted o (yieldE ops e) = true ∧ ∃ R : Value → Hp → Prop, OpR P w0 (ev e) o H R ∧ ∀ v H1, R v H1 → D H1 ∧ SeqR2 P w0 n ops Q H1 k l (putE e o.dst v)
  | i, c + 1, o :: l, e, D => ∃ v, QG P w0 n ops H e o v ∧ SeqD P w0 n ops Q H c0 k (i + 1) c l (putE e o.dst v) (fun H1 => D H1 ∧ (reach ops 16 c0 i = false → QG P w0 n ops H1 e o v))
  | _, _, [], _, _ => False
theorem SeqD.mono {ops : Array Oper} {Q : Post} {c0 k : Nat} : ∀ (c i : Nat) (l : List Oper) (e : Env) (D D' : Hp → Prop), (∀ H1, D H1 → D' H1) → SeqD P w0 n ops Q H c0 k i c l e D → SeqD P w0 n ops Q H c0 k i c l e D' := by
  intro c
  induction c with
  | zero =>
    intro i l e D D' hD h
    cases l with
    | nil => exact h.elim
    | cons o l => obtain ⟨h1, h2, R, h3, h4⟩ := h; exact ⟨h1, h2, R, h3, fun v H1 hR => ⟨hD _ (h4 v H1 hR).1, (h4 v H1 hR).2⟩⟩
  | succ c ih =>
    intro i l e D D' hD h
    cases l with
    | nil => exact h.elim
    | cons o l => obtain ⟨v, h1, h2⟩ := h; exact ⟨v, h1, ih _ _ _ _ _ (fun H1 h => ⟨hD _ h.1, h.2⟩) h2⟩
theorem SeqD.seqR {ops : Array Oper} {Q : Post} {c0 k : Nat} : ∀ (c i : Nat) (l : List Oper) (e : Env) (D : Hp → Prop), SeqD P w0 n ops Q H c0 k i c l e D → ∃ R : Value → Hp → Prop, (∀ v H1, R v H1 → D H1) ∧ SeqR P w0 n ops Q H R c0 k i c l e := by
  intro c
  induction c with
  | zero =>
    intro i l e D h
    cases l with
    | nil => exact h.elim
    | cons o l => obtain ⟨h1, h2, R, h3, h4⟩ := h; exact ⟨R, fun v H1 hR => (h4 v H1 hR).1, h1, h2, h3, fun v H1 hR => (h4 v H1 hR).2⟩
  | succ c ih =>
    intro i l e D h
    cases l with
    | nil => exact h.elim
    | cons o l =>
      obtain ⟨v, h1, h2⟩ := h
      obtain ⟨R, h3, h4⟩ := ih _ _ _ _ h2
      exact ⟨R, fun v H1 hR => (h3 v H1 hR).1, v, h1, fun hr u H1 hR => (h3 u H1 hR).2 hr, h4⟩
theorem AW.drawD {id : Nat} {l : List Oper} {Q : Post} {e : Env} (c k : Nat) (hm : P.follows .mixedOrders = true) (hok : drawOk l.toArray [] (c + 1 + k) l.length = true)
    (hall : ((List.range (c + 1 + k)).all fun i => Nat.ble i c || reach l.toArray 16 i c) = true) (h : SeqD P w0 n l.toArray Q H c k 0 c l e (fun _ => True)) : AW P w0 n (.region id l.toArray true) Q e H := by
  obtain ⟨R, _, h2⟩ := SeqD.seqR _ _ _ _ _ h
  exact AW.drawR c k hm hok hall h2
section
variable {ops : Array Oper} {Q : Post} {e : Env} {R : Value → Hp → Prop} {c0 c k i : Nat} {t : Tmp} {op : Op} {ty : TypeId} {pos : String} {af : Array Edge} {l : List Oper} {v : Value} {H1 : Hp} {D : Hp → Prop}
theorem SeqD.b (hr : reach ops 16 c0 i = true) (hd : Nat.blt t n = true) (h : QS P w0 (ev e) ⟨some t, op, ty, pos, af, none⟩ H v) (hk : SeqD P w0 n ops Q H c0 k (i + 1) c l (upd e t v) D) :
    SeqD P w0 n ops Q H c0 k i (c + 1) (⟨some t, op, ty, pos, af, none⟩ :: l) e D := ⟨v, ⟨dst_lt hd, .inl ⟨rfl, h⟩⟩, SeqD.mono _ _ _ _ _ _ (fun H1 hD => ⟨hD, fun h => by rw [hr] at h; cases h⟩) hk⟩
theorem SeqD.q (hd : Nat.blt t n = true) (h : QS P w0 (ev e) ⟨some t, op, ty, pos, af, none⟩ H v) (hk : SeqD P w0 n ops Q H c0 k (i + 1) c l (upd e t v) (fun H1 => D H1 ∧ QS P w0 (ev e) ⟨some t, op, ty, pos, af, none⟩ H1 v)) :
    SeqD P w0 n ops Q H c0 k i (c + 1) (⟨some t, op, ty, pos, af, none⟩ :: l) e D := ⟨v, ⟨dst_lt hd, .inl ⟨rfl, h⟩⟩, SeqD.mono _ _ _ _ _ _ (fun H1 hD => ⟨hD.1, fun _ => ⟨dst_lt hd, .inl ⟨rfl, hD.2⟩⟩⟩) hk⟩
theorem SeqD.a (hd : Nat.blt t n = true) (h : ∀ H, QS P w0 (ev e) ⟨some t, op, ty, pos, af, none⟩ H v) (hk : SeqD P w0 n ops Q H c0 k (i + 1) c l (upd e t v) D) :
    SeqD P w0 n ops Q H c0 k i (c + 1) (⟨some t, op, ty, pos, af, none⟩ :: l) e D := ⟨v, ⟨dst_lt hd, .inl ⟨rfl, h H⟩⟩, SeqD.mono _ _ _ _ _ _ (fun H1 hD => ⟨hD, fun _ => ⟨dst_lt hd, .inl ⟨rfl, h H1⟩⟩⟩) hk⟩
theorem SeqD.x (hd : Nat.blt t n = true) (h : OpR P w0 (ev e) ⟨some t, op, ty, pos, af, none⟩ H R) (hk : ∀ v H1, R v H1 → D H1 ∧ SeqR2 P w0 n ops Q H1 k l (upd e t v)) :
    SeqD P w0 n ops Q H c0 k i 0 (⟨some t, op, ty, pos, af, none⟩ :: l) e D := ⟨dst_lt hd, rfl, R, h, hk⟩
end
end
end Go.Proofs.Ytfiojlmccflplaa.D
end
section
namespace Go.Proofs.Ytfiojlmccflplaa.D
open Go Go.RowKit
set_option linter.unusedVariables false
set_option linter.unusedSimpArgs false
abbrev emp : Hp := fun _ => none
def single (b : Nat) (o : Blk) : Hp := fun c => if c = b then some o else none
def hor (h1 h2 : Hp) : Hp := fun b => match h1 b with
  | some o => some o
  | none => h2 b
def Apart (h1 h2 : Hp) : Prop := ∀ b, h1 b = none ∨ h2 b = none
theorem Apart.symm {h1 h2 : Hp} (h : Apart h1 h2) : Apart h2 h1 := fun b => (h b).symm
theorem Apart.le {h1 h2 g1 g2 : Hp} (h : Apart h1 h2) (k1 : g1.le h1) (k2 : g2.le h2) : Apart g1 g2 := fun b =>
  (h b).imp (fun e => Hp.le_none k1 e) (fun e => Hp.le_none k2 e)
theorem le_hor_l {h1 h2 : Hp} : h1.le (hor h1 h2) := fun b o h => by simp [hor, h]
theorem le_hor_r {h1 h2 : Hp} (ha : Apart h1 h2) : h2.le (hor h1 h2) := fun b o h => by
  rcases ha b with e | e
  · simp [hor, e, h]
  · rw [e] at h; cases h
theorem hor_le {h1 h2 H : Hp} (k1 : h1.le H) (k2 : h2.le H) : (hor h1 h2).le H := fun b o h => by
  unfold hor at h
  cases e : h1 b with
  | none => simp [e] at h; exact k2 b o h
  | some q => simp [e] at h; subst h; exact k1 b q e
theorem Apart.hor_l {h1 h2 g : Hp} (k1 : Apart h1 g) (k2 : Apart h2 g) : Apart (hor h1 h2) g := fun b => by
  rcases k1 b with e | e
  · rcases k2 b with e' | e'
    · exact .inl (by simp [hor, e, e'])
    · exact .inr e'
  · exact .inr e
theorem Apart.of_hor {h1 h2 g : Hp} (k : Apart g (hor h1 h2)) (ha : Apart h1 h2) : Apart g h1 ∧ Apart g h2 :=
  ⟨k.le (Hp.le_refl _) le_hor_l, k.le (Hp.le_refl _) (le_hor_r ha)⟩
inductive Chunk
  | blk (b : Nat) (o : Blk)
  | vec (v : Value) (el : TypeId) (sz n : Nat) (cs : List Value)
  | pred (A : Hp → Prop)
def Chunk.den : Chunk → Hp → Prop
  | .blk b o, h => h b = some o
  | .vec v el sz n cs, h => Vec h el sz v n cs
  | .pred A, h => ∃ g : Hp, g.le h ∧ A g
theorem Chunk.den_mono {c : Chunk} {h h' : Hp} (hc : c.den h) (hl : h.le h') : c.den h' := by
  cases c with
  | blk b o => exact hl b o hc
  | vec v el sz n cs => exact Vec.le hc hl
  | pred A => obtain ⟨g, h1, h2⟩ := hc; exact ⟨g, Hp.le_trans h1 hl, h2⟩
/-- H owns H0 and, apart from it and from each other, the pieces of L (and perhaps more). -/
def Sep (H0 : Hp) : List Chunk → Hp → Prop
  | [], H => H0.le H
  | c :: L, H => ∃ h1 h2 : Hp, Apart h1 h2 ∧ h1.le H ∧ h2.le H ∧ c.den h1 ∧ Sep H0 L h2
/-- L has c at a place, and F c' is L with c' there. -/
inductive At : List Chunk → Chunk → (Chunk → List Chunk) → Prop
  | z {c : Chunk} {L : List Chunk} : At (c :: L) c (fun c' => c' :: L)
  | s {c d : Chunk} {L : List Chunk} {F : Chunk → List Chunk} : At L c F → At (d :: L) c (fun c' => d :: F c')
inductive Del : List Chunk → Chunk → List Chunk → Prop
  | z {c : Chunk} {L : List Chunk} : Del (c :: L) c L
  | s {c d : Chunk} {L L' : List Chunk} : Del L c L' → Del (d :: L) c (d :: L')
section
variable {c0 c1 c2 c3 c4 c5 c6 c7 c8 c9 c : Chunk} {L : List Chunk}
theorem at0 : At (c :: L) c (fun d => d :: L) := .z
theorem at1 : At (c0 :: c :: L) c (fun d => c0 :: d :: L) := .s .z
theorem at2 : At (c0 :: c1 :: c :: L) c (fun d => c0 :: c1 :: d :: L) := .s (.s .z)
theorem at3 : At (c0 :: c1 :: c2 :: c :: L) c (fun d => c0 :: c1 :: c2 :: d :: L) := .s at2
theorem at4 : At (c0 :: c1 :: c2 :: c3 :: c :: L) c (fun d => c0 :: c1 :: c2 :: c3 :: d :: L) := .s at3
theorem at5 : At (c0 :: c1 :: c2 :: c3 :: c4 :: c :: L) c (fun d => c0 :: c1 :: c2 :: c3 :: c4 :: d :: L) := .s at4
theorem del0 : Del (c :: L) c L := .z
theorem del1 : Del (c0 :: c :: L) c (c0 :: L) := .s .z
theorem del2 : Del (c0 :: c1 :: c :: L) c (c0 :: c1 :: L) := .s del1
theorem del3 : Del (c0 :: c1 :: c2 :: c :: L) c (c0 :: c1 :: c2 :: L) := .s del2
theorem del4 : Del (c0 :: c1 :: c2 :: c3 :: c :: L) c (c0 :: c1 :: c2 :: c3 :: L) := .s del3
end
section
variable {H0 H H' : Hp} {L L' K : List Chunk} {c : Chunk} {F : Chunk → List Chunk}
theorem Sep.refl : Sep H [] H := Hp.le_refl _
theorem Sep.le : ∀ {L : List Chunk} {H : Hp}, Sep H0 L H → H0.le H := by
  intro L
  induction L with
  | nil => intro H h; exact h
  | cons c L ih => intro H ⟨h1, h2, _, _, hl, _, h⟩; exact Hp.le_trans (ih h) hl
theorem Sep.mono (h : Sep H0 L H) (hl : H.le H') : Sep H0 L H' := by
  cases L with
  | nil => exact Hp.le_trans h hl
  | cons c L => obtain ⟨h1, h2, a, b, d, e⟩ := h; exact ⟨h1, h2, a, Hp.le_trans b hl, Hp.le_trans d hl, e⟩
theorem Sep.frame (hA : At L c F) : ∀ {H : Hp}, Sep H0 L H → ∃ h1 h2 : Hp, Apart h1 h2 ∧ h1.le H ∧ h2.le H ∧ c.den h1 ∧ H0.le h2 ∧
    ∀ (c' : Chunk) (h1' H' : Hp), Apart h1' h2 → h1'.le H' → h2.le H' → c'.den h1' → Sep H0 (F c') H' := by
  induction hA with
  | z =>
    intro H ⟨h1, h2, a, b, d, e, f⟩
    exact ⟨h1, h2, a, b, d, e, f.le, fun c' h1' H' q1 q2 q3 q4 => ⟨h1', h2, q1, q2, q3, q4, f⟩⟩
  | s _ ih =>
    intro H ⟨g1, g2, a, b, d, e, f⟩
    obtain ⟨h1, h2, i1, i2, i3, i4, i5, i6⟩ := ih f
    have ag1 : Apart g1 h1 := a.le (Hp.le_refl _) i2
    have ag2 : Apart g1 h2 := a.le (Hp.le_refl _) i3
    refine ⟨h1, hor g1 h2, (Apart.hor_l ag1 i1.symm).symm, Hp.le_trans i2 d, hor_le b (Hp.le_trans i3 d), i4, Hp.le_trans i5 (le_hor_r ag2), ?_⟩
    intro c' h1' H' q1 q2 q3 q4
    obtain ⟨r1, r2⟩ := q1.of_hor ag2
    have hg : Apart g1 (hor h1' h2) := (Apart.hor_l r1 ag2.symm).symm
    exact ⟨g1, hor h1' h2, hg, Hp.le_trans le_hor_l q3, hor_le q2 (Hp.le_trans (le_hor_r ag2) q3), e, i6 c' h1' _ r2 le_hor_l (le_hor_r r2) q4⟩
theorem Sep.get (h : Sep H0 L H) (hA : At L c F) : c.den H := by
  obtain ⟨h1, h2, _, b, _, e, _⟩ := Sep.frame hA h
  exact Chunk.den_mono e b
theorem Sep.blk {b : Nat} {o : Blk} (h : Sep H0 L H) (hA : At L (.blk b o) F) : H b = some o := h.get hA
theorem Sep.vec {v : Value} {el : TypeId} {sz n : Nat} {cs : List Value} (h : Sep H0 L H) (hA : At L (.vec v el sz n cs) F) : Vec H el sz v n cs := h.get hA
theorem Sep.old {b : Nat} {o : Blk} (h : Sep H0 L H) (hb : H0 b = some o) : H b = some o := h.le b o hb
/-- One piece alone, all others in the frame. -/
theorem Sep.framed (h : Sep H0 L H) (hA : At L c F) : ∃ Hf : Hp, H0.le Hf ∧ Sep Hf [c] H ∧ ∀ (c' : Chunk) (H' : Hp), Sep Hf [c'] H' → Sep H0 (F c') H' := by
  obtain ⟨h1, h2, a, b, d, e, f, g⟩ := Sep.frame hA h
  exact ⟨h2, f, ⟨h1, h2, a, b, d, e, Hp.le_refl _⟩, fun c' H' ⟨g1, g2, q1, q2, q3, q4, q5⟩ => g c' g1 H' (q1.le (Hp.le_refl _) q5) q2 (Hp.le_trans q5 q3) q4⟩
theorem Sep.set {b : Nat} {o o' : Blk} (h : Sep H0 L H) (hA : At L (.blk b o) F) : Sep H0 (F (.blk b o')) (H.set b o') := by
  obtain ⟨h1, h2, a, hb, d, e, f, g⟩ := Sep.frame hA h
  have h2b : h2 b = none := (a b).resolve_left (by rw [show h1 b = some o from e]; simp)
  refine g (.blk b o') (single b o') _ ?_ ?_ ?_ ?_
  · intro x
    by_cases hx : x = b
    · subst hx; exact .inr h2b
    · exact .inl (by simp [single, hx])
  · intro x q hq
    by_cases hx : x = b
    · subst hx; simp [single] at hq; subst hq; exact Hp.set_self
    · simp [single, hx] at hq
  · intro x q hq
    have hx : x ≠ b := by rintro rfl; rw [h2b] at hq; cases hq
    rw [Hp.set_ne hx]; exact d x q hq
  · exact if_pos rfl
theorem Sep.new {b : Nat} {o : Blk} (h : Sep H0 L H) (hb : H b = none) : Sep H0 (.blk b o :: L) (H.set b o) := by
  refine ⟨single b o, H, ?_, ?_, Hp.le_set hb (Hp.le_refl _), if_pos rfl, h⟩
  · intro x
    by_cases hx : x = b
    · subst hx; exact .inr hb
    · exact .inl (by simp [single, hx])
  · intro x q hq
    by_cases hx : x = b
    · subst hx; simp [single] at hq; subst hq; exact Hp.set_self
    · simp [single, hx] at hq
theorem Sep.nil {el : TypeId} {sz : Nat} (h : Sep H0 L H) : Sep H0 (.vec nilV el sz 0 [] :: L) H :=
  ⟨emp, H, fun _ => .inl rfl, fun _ _ e => by simp [emp] at e, Hp.le_refl _, .inl ⟨rfl, rfl, rfl⟩, h⟩
theorem Sep.asVec {b n cap s : Nat} {el : TypeId} {sz : Nat} {cs cs' : List Value} (h : Sep H0 (.blk b ⟨cs', s, el⟩ :: L) H) (h1 : cs'.take (n * sz) = cs) (h2 : cs.length = n * sz) (h3 : n ≤ cap) (h4 : cap * sz ≤ s) (h5 : cap ≤ maxLen) :
    Sep H0 (.vec (.slice (some ⟨b, 0, none⟩) n cap) el sz n cs :: L) H := by
  obtain ⟨g1, g2, a, b', d, e, f⟩ := h
  exact ⟨g1, g2, a, b', d, .inr ⟨b, cap, _, rfl, e, rfl, h1, h2, h3, h4, h5⟩, f⟩
theorem Sep.bring (hD : Del L c L') : ∀ {H : Hp}, Sep H0 L H → Sep H0 (c :: L') H := by
  induction hD with
  | z => intro H h; exact h
  | s _ ih =>
    intro H ⟨g1, g2, a, b, d, e, f⟩
    obtain ⟨h1, h2, i1, i2, i3, i4, i5⟩ := ih f
    have ag1 : Apart g1 h1 := a.le (Hp.le_refl _) i2
    have ag2 : Apart g1 h2 := a.le (Hp.le_refl _) i3
    exact ⟨h1, hor g1 h2, (Apart.hor_l ag1 i1.symm).symm, Hp.le_trans i2 d, hor_le b (Hp.le_trans i3 d), i4, g1, h2, ag2, le_hor_l, le_hor_r ag2, e, i5⟩
theorem Sep.tail (h : Sep H0 (c :: L) H) : Sep H0 L H := by
  obtain ⟨h1, h2, _, _, d, _, f⟩ := h
  exact f.mono d
theorem Sep.del (h : Sep H0 L H) (hD : Del L c L') : Sep H0 L' H := (Sep.bring hD h).tail
/-- Pieces that are apart from others lie beside them. -/
theorem Sep.beside : ∀ {K : List Chunk} {h1 h2 H : Hp}, Sep emp K h1 → Apart h1 h2 → h1.le H → h2.le H → Sep H0 L h2 → Sep H0 (K ++ L) H := by
  intro K
  induction K with
  | nil => intro h1 h2 H _ _ _ b h; exact h.mono b
  | cons k K ih =>
    intro h1 h2 H ⟨g1, g2, a, b, d, e, f⟩ q1 q2 q3 q4
    have r1 : Apart g1 h2 := q1.le b (Hp.le_refl _)
    have r2 : Apart g2 h2 := q1.le d (Hp.le_refl _)
    exact ⟨g1, hor g2 h2, (Apart.hor_l a.symm r1.symm).symm, Hp.le_trans b q2, hor_le (Hp.le_trans d q2) q3, e, ih f r2 le_hor_l (le_hor_r r2) q4⟩
theorem Sep.split : ∀ {K : List Chunk} {H : Hp}, Sep H0 (K ++ L) H → ∃ h1 h2 : Hp, Apart h1 h2 ∧ h1.le H ∧ h2.le H ∧ Sep emp K h1 ∧ Sep H0 L h2 := by
  intro K
  induction K with
  | nil => intro H h; exact ⟨emp, H, fun _ => .inl rfl, fun _ _ e => by simp [emp] at e, Hp.le_refl _, Hp.le_refl _, h⟩
  | cons k K ih =>
    intro H ⟨g1, g2, a, b, d, e, f⟩
    obtain ⟨h1, h2, i1, i2, i3, i4, i5⟩ := ih f
    have ag1 : Apart g1 h1 := a.le (Hp.le_refl _) i2
    have ag2 : Apart g1 h2 := a.le (Hp.le_refl _) i3
    exact ⟨hor g1 h1, h2, Apart.hor_l ag2 i1, hor_le b (Hp.le_trans i2 d), Hp.le_trans i3 d, ⟨g1, h1, ag1, le_hor_l, le_hor_r ag1, e, i4⟩, i5⟩
theorem Sep.join (h : Sep H0 L H) (hK : Sep H K H') : Sep H0 (K ++ L) H' := by
  obtain ⟨h1, h2, a, b, d, e, f⟩ := Sep.split (K := K) (L := []) (by rw [List.append_nil]; exact hK)
  exact Sep.beside e a b d (h.mono f)
/-- A piece is what other pieces are. -/
theorem Sep.opened (h : Sep H0 (c :: L) H) : ∃ h1 : Hp, c.den h1 ∧ ∀ K, Sep emp K h1 → Sep H0 (K ++ L) H := by
  obtain ⟨h1, h2, a, b, d, e, f⟩ := h
  exact ⟨h1, e, fun K hK => Sep.beside hK a b d f⟩
theorem Sep.close {K : List Chunk} (c : Chunk) (h : Sep H0 (K ++ L) H) (hc : ∀ h1, Sep emp K h1 → c.den h1) : Sep H0 (c :: L) H := by
  obtain ⟨h1, h2, a, b, d, e, f⟩ := Sep.split h
  exact ⟨h1, h2, a, b, d, hc h1 e, f⟩
/-- What is not to change any more is kept with what was there before. -/
theorem Sep.keep : ∀ {L : List Chunk} {h1 h2 H : Hp}, Sep H0 L h2 → Apart h1 h2 → h1.le H → h2.le H → Sep (hor h1 H0) L H := by
  intro L
  induction L with
  | nil => intro h1 h2 H h _ b d; exact hor_le b (Hp.le_trans h d)
  | cons k L ih =>
    intro h1 h2 H ⟨g1, g2, a, b, d, e, f⟩ q1 q2 q3
    have r1 : Apart h1 g1 := q1.le (Hp.le_refl _) b
    have r2 : Apart h1 g2 := q1.le (Hp.le_refl _) d
    exact ⟨g1, hor h1 g2, (Apart.hor_l r1 a.symm).symm, Hp.le_trans b q3, hor_le q2 (Hp.le_trans d q3), e, ih f r2 le_hor_l (le_hor_r r2)⟩
/-- A slice grew. -/
theorem Sep.grew {v v' : Value} {el : TypeId} {sz n n' : Nat} {cs cs' : List Value} (h : Sep H0 L H) (hA : At L (.vec v el sz n cs) F) (hg : Grew H el sz v n' cs' v' H') : Sep H0 (F (.vec v' el sz n' cs')) H' := by
  obtain ⟨h1, h2, a, hb, d, e, f, g⟩ := Sep.frame hA h
  have key : ∀ b q, H' = H.set b q → h2 b = none → Vec (single b q) el sz v' n' cs' → Sep H0 (F (.vec v' el sz n' cs')) H' := by
    intro b q hH h2b hv
    subst hH
    refine g (.vec v' el sz n' cs') (single b q) _ ?_ ?_ ?_ hv
    · intro x
      by_cases hx : x = b
      · subst hx; exact .inr h2b
      · exact .inl (by simp [single, hx])
    · intro x q' hq
      by_cases hx : x = b
      · subst hx; simp [single] at hq; subst hq; exact Hp.set_self
      · simp [single, hx] at hq
    · intro x q' hq
      have hx : x ≠ b := by rintro rfl; rw [h2b] at hq; cases hq
      rw [Hp.set_ne hx]; exact d x q' hq
  rcases hg with ⟨rfl, rfl, rfl, rfl, rfl⟩ | ⟨b, cap, q, k1, k2, k3, k4, k5⟩
  · exact g (.vec nilV el sz 0 []) h1 H' a hb d (.inl ⟨rfl, rfl, rfl⟩)
  · refine key b q k3 ?_ (.inr ⟨b, cap, q, k1, if_pos rfl, by rw [k4], ?_, k5⟩)
    · rcases k2 with k2 | k2
      · have hv : Vec h1 el sz v n cs := e
        rcases hv with ⟨rfl, _⟩ | ⟨b', cap', q', rfl, h3, _⟩
        · simp [vblock] at k2
        · simp [vblock] at k2
          subst k2
          exact (a b').resolve_left (by rw [h3]; simp)
      · exact Hp.le_none d k2
    · rw [k4]; exact List.take_of_length_le (by rw [k5.1]; exact Nat.le_refl _)
/-- Of a slice that grew out of none. -/
theorem Sep.grew0 {v' : Value} {el : TypeId} {sz n' : Nat} {cs' : List Value} (h : Sep H0 L H) (hg : Grew H el sz nilV n' cs' v' H') : Sep H0 (.vec v' el sz n' cs' :: L) H' := Sep.grew (h.nil (el := el) (sz := sz)) at0 hg
/-- Where an element of a slice lies. -/
def vptr (v : Value) (j : Nat) : Value := match v with
  | .slice (some a) _ _ => .pointer (some (a.add j))
  | _ => undef
theorem Vec.opened {el : TypeId} {sz n : Nat} {v : Value} {cs : List Value} (h : Vec H el sz v n cs) (hn : 0 < n) :
    ∃ b cap q, v = .slice (some ⟨b, 0, none⟩) n cap ∧ H b = some q ∧ q.elem = el ∧ q.cells.take (n * sz) = cs ∧ cs.length = n * sz ∧ n ≤ cap ∧ cap * sz ≤ q.size ∧ cap ≤ maxLen ∧ ∀ (j : Nat) (u : Value), cs[j]? = some u → q.cells[j]? = some u := by
  rcases h with ⟨_, h, _⟩ | ⟨b, cap, q, h1, h2, h3, h4, h5, h6, h7, h8⟩
  · omega
  · refine ⟨b, cap, q, h1, h2, h3, h4, h5, h6, h7, h8, fun j u hj => ?_⟩
    have hlt := (List.getElem?_eq_some_iff.1 hj).1
    rw [← h4] at hj
    rw [List.getElem?_take] at hj
    split at hj
    · exact hj
    · cases hj
theorem vptr_at {b j m cap : Nat} : vptr (.slice (some ⟨b, 0, none⟩) m cap) j = .pointer (some ⟨b, j, none⟩) := by
  simp [vptr, Addr.add0]
theorem Sep.vset {v : Value} {el : TypeId} {sz n j : Nat} {cs : List Value} {u : Value} {b cap : Nat} {q : Blk} (h : Sep H0 L H) (hA : At L (.vec v el sz n cs) F) (hv : v = .slice (some ⟨b, 0, none⟩) n cap) (hq : H b = some q) :
    Sep H0 (F (.vec v el sz n (cs.set j u))) (H.set b { q with cells := q.cells.set j u }) := by
  obtain ⟨h1, h2, a, hb, d, e, f, g⟩ := Sep.frame hA h
  have hv1 : Vec h1 el sz v n cs := e
  rcases hv1 with ⟨k, _⟩ | ⟨b', cap', q', k1, k2, k3, k4, k5, k6, k7, k8⟩
  · rw [hv] at k; cases k
  · rw [hv] at k1
    cases k1
    have hqq := hb b q' k2
    rw [hq] at hqq
    cases hqq
    have h2b : h2 b = none := (a b).resolve_left (by rw [k2]; simp)
    refine g (.vec v el sz n (cs.set j u)) (single b { q with cells := q.cells.set j u }) _ ?_ ?_ ?_ ?_
    · intro x
      by_cases hx : x = b
      · subst hx; exact .inr h2b
      · exact .inl (by simp [single, hx])
    · intro x q' hq
      by_cases hx : x = b
      · subst hx; simp [single] at hq; subst hq; exact Hp.set_self
      · simp [single, hx] at hq
    · intro x q' hq9
      have hx : x ≠ b := by rintro rfl; rw [h2b] at hq9; cases hq9
      rw [Hp.set_ne hx]; exact d x q' hq9
    · refine .inr ⟨b, cap, _, hv, if_pos rfl, k3, ?_, by rw [List.length_set]; exact k5, k6, k7, k8⟩
      show (q.cells.set j u).take (n * sz) = cs.set j u
      rw [List.take_set, k4]
end
def strs (ss : List (List UInt8)) : List Value := ss.map S
theorem strs_get (ss : List (List UInt8)) {j : Nat} (h : j < ss.length) : (strs ss)[j]? = some (S (ss.getD j [])) := by
  simp [strs, h]
theorem strs_one (ss : List (List UInt8)) : ∀ v ∈ strs ss, v.oneCell' = true := by
  intro v hv
  simp only [strs, List.mem_map] at hv
  obtain ⟨x, _, rfl⟩ := hv
  rfl
section
variable {P : Program} {w0 : World} {ρ : Operand → Value} {H H0 : Hp} {L : List Chunk} {F : Chunk → List Chunk} {d : Option Tmp} {ty : TypeId} {pos : String} {af : Array Edge} {g : Option (Nat × Bool)}
theorem s_store {t : TypeId} {x y : Operand} {b j : Nat} {o : Blk} {v : Value} (hS : Sep H0 L H) (hA : At L (.blk b o) F) (ht : sizeT P t = some 1) (hx : ρ x = .pointer (some ⟨b, j, none⟩)) (hy : ρ y = v) (hv : v.oneCell' = true) (hj : j < o.cells.length) :
    OpR P w0 ρ ⟨d, .store t x y, ty, pos, af, g⟩ H (fun u H' => u = undef ∧ Sep H0 (F (.blk b { o with cells := o.cells.set j v })) H') :=
  (o_store ht hx hy hv (hS.blk hA) hj).mono (by rintro _ _ ⟨h1, rfl⟩; exact ⟨h1, hS.set hA⟩)
theorem s_storeC {t : TypeId} {x y : Operand} {b j sz : Nat} {el : TypeId} {cs : List Value} {v : Value} (hS : Sep H0 L H) (hA : At L (.blk b ⟨cs, sz, el⟩) F) (ht : sizeT P t = some 1) (hx : ρ x = .pointer (some ⟨b, j, none⟩)) (hy : ρ y = v) (hv : v.oneCell' = true) (hj : j < cs.length) :
    OpR P w0 ρ ⟨d, .store t x y, ty, pos, af, g⟩ H (fun u H' => u = undef ∧ Sep H0 (F (.blk b ⟨cs.set j v, sz, el⟩)) H') := s_store hS hA ht hx hy hv hj
theorem s_storeN {t : TypeId} {x y : Operand} {b j sz : Nat} {el : TypeId} {k : IntKind} {xs : List Int} {n : Int} (hS : Sep H0 L H) (hA : At L (.blk b ⟨nums k xs, sz, el⟩) F) (ht : sizeT P t = some 1) (hx : ρ x = .pointer (some ⟨b, j, none⟩)) (hy : ρ y = .int k n) (hj : j < xs.length) :
    OpR P w0 ρ ⟨d, .store t x y, ty, pos, af, g⟩ H (fun u H' => u = undef ∧ Sep H0 (F (.blk b ⟨nums k (xs.set j n), sz, el⟩)) H') :=
  (o_storeN ht hx hy (hS.blk hA) hj).mono (by rintro _ _ ⟨h1, rfl⟩; exact ⟨h1, hS.set hA⟩)
theorem s_storeA {t : TypeId} {n sz : Nat} {el : TypeId} {x y : Operand} {b : Nat} {old : List Value} {k : IntKind} {xs : List Int} (hS : Sep H0 L H) (hA : At L (.blk b ⟨old, sz, el⟩) F) (ht : sizeT P t = some n) (hx : ρ x = .pointer (some ⟨b, 0, none⟩)) (hy : ρ y = .agg (nums k xs).toArray) (hn : xs.length = n) (ho : old.length = n) :
    OpR P w0 ρ ⟨d, .store t x y, ty, pos, af, g⟩ H (fun u H' => u = undef ∧ Sep H0 (F (.blk b ⟨nums k xs, sz, el⟩)) H') :=
  (o_storeA ht hx hy (by rw [nums_length, hn]) (nums_one k xs) (hS.blk hA) (by show 0 + n ≤ old.length; omega)).mono (by
    rintro _ _ ⟨h1, rfl⟩
    have e : put old 0 (nums k xs) = nums k xs := put_all (by rw [nums_length, hn, ho])
    refine ⟨h1, ?_⟩
    simp only [e]
    exact hS.set hA)
/-- A whole struct of one-cell parts is stored. -/
theorem s_storeS {t : TypeId} {n sz : Nat} {el : TypeId} {x y : Operand} {b : Nat} {old cs : List Value} (hS : Sep H0 L H) (hA : At L (.blk b ⟨old, sz, el⟩) F) (ht : sizeT P t = some n) (hx : ρ x = .pointer (some ⟨b, 0, none⟩)) (hy : ρ y = .agg cs.toArray) (hn : cs.length = n) (h1 : ∀ v ∈ cs, v.oneCell' = true) (ho : old.length = n) :
    OpR P w0 ρ ⟨d, .store t x y, ty, pos, af, g⟩ H (fun u H' => u = undef ∧ Sep H0 (F (.blk b ⟨cs, sz, el⟩)) H') :=
  (o_storeA ht hx hy hn h1 (hS.blk hA) (by show 0 + n ≤ old.length; omega)).mono (by
    rintro _ _ ⟨h1, rfl⟩
    have e : put old 0 cs = cs := put_all (by rw [hn, ho])
    refine ⟨h1, ?_⟩
    simp only [e]
    exact hS.set hA)
theorem s_box {t : TypeId} {x : Operand} {v : Value} {cs : List Value} (hS : Sep H0 L H) (hx : ρ x = v) (hc : v.cells.toList = cs) :
    OpR P w0 ρ ⟨d, .box t x, ty, pos, af, g⟩ H (fun u H' => ∃ b, u = .pointer (some ⟨b, 0, none⟩) ∧ Sep H0 (.blk b ⟨cs, cs.length, t⟩ :: L) H') :=
  (o_box hx hc).mono (by rintro _ _ ⟨b, hb, rfl, rfl⟩; exact ⟨b, rfl, hS.new hb⟩)
theorem s_boxN {t : TypeId} {x : Operand} {k : IntKind} {xs : List Int} (hS : Sep H0 L H) (hx : ρ x = .agg (nums k xs).toArray) :
    OpR P w0 ρ ⟨d, .box t x, ty, pos, af, g⟩ H (fun u H' => ∃ b, u = .pointer (some ⟨b, 0, none⟩) ∧ Sep H0 (.blk b ⟨nums k xs, xs.length, t⟩ :: L) H') :=
  (o_boxN hx).mono (by rintro _ _ ⟨b, hb, rfl, rfl⟩; exact ⟨b, rfl, hS.new hb⟩)
theorem s_alloc {t : TypeId} {z : Value} {cs : List Value} (hS : Sep H0 L H) (hz : zeroT P t = some z) (hc : z.cells.toList = cs) :
    OpR P w0 ρ ⟨d, .alloc t, ty, pos, af, g⟩ H (fun u H' => ∃ b, u = .pointer (some ⟨b, 0, none⟩) ∧ Sep H0 (.blk b ⟨cs, cs.length, t⟩ :: L) H') :=
  (o_alloc hz hc).mono (by rintro _ _ ⟨b, hb, rfl, rfl⟩; exact ⟨b, rfl, hS.new hb⟩)
theorem s_allocN {t : TypeId} {k : IntKind} {m : Nat} (hS : Sep H0 L H) (hz : zeroT P t = some (.agg (nums k (List.replicate m 0)).toArray)) :
    OpR P w0 ρ ⟨d, .alloc t, ty, pos, af, g⟩ H (fun u H' => ∃ b, u = .pointer (some ⟨b, 0, none⟩) ∧ Sep H0 (.blk b ⟨nums k (List.replicate m 0), m, t⟩ :: L) H') :=
  (o_allocN hz).mono (by rintro _ _ ⟨b, hb, rfl, rfl⟩; exact ⟨b, rfl, hS.new hb⟩)
theorem s_bytes {s t e : TypeId} {x : Operand} {l : List UInt8} (hS : Sep H0 L H) (hs : (P.underlying s).isSome = true) (ht : P.underlying t = some (.slice e)) (he : P.underlying e = some (.int .u8)) (hx : ρ x = S l) (hl : l.length ≤ maxLen) :
    OpR P w0 ρ ⟨d, .convert s t x, ty, pos, af, g⟩ H (fun u H' => Sep H0 (.vec u e 1 l.length (nums .u8 (ofB l)) :: L) H') :=
  (o_bytes hs ht he hx hl).mono (by
    rintro _ _ ⟨b, cap, hb, h1, h2, rfl, rfl⟩
    exact (hS.new hb).asVec (by rw [List.take_of_length_le]; simp [nums_length, ofB_length]) (by simp [nums_length, ofB_length]) h1 (by omega) h2)
theorem s_makeSlice {t e : TypeId} {x y : Operand} {k k' : IntKind} {n c : Int} {by_ : Nat} {z : Value} (hS : Sep H0 L H) (ht : P.underlying t = some (.slice e)) (hs : sizeT P e = some 1) (hb : bytesT P e = some by_) (hz : zeroT P e = some z) (h1 : z.oneCell' = true)
    (hx : ρ x = .int k n) (hy : ρ y = .int k' c) (h0 : 0 ≤ n) (hnc : n ≤ c) (hc : by_ * c ≤ 2 ^ 48) (hc' : c ≤ 9223372036854775807) (hm : c.toNat ≤ maxLen) :
    OpR P w0 ρ ⟨d, .makeSlice t x y, ty, pos, af, g⟩ H (fun u H' => Sep H0 (.vec u e 1 n.toNat (List.replicate n.toNat z) :: L) H') :=
  (o_makeSlice ht hs hb hz h1 hx hy h0 hnc hc hc').mono (by
    rintro _ _ ⟨b, hb, rfl, rfl⟩
    exact (hS.new hb).asVec (by simp; omega) (by simp) (by omega) (by simp) hm)
theorem s_makeSliceN {t e : TypeId} {x y : Operand} {k k' kk : IntKind} {n c : Int} {by_ : Nat} (hS : Sep H0 L H) (ht : P.underlying t = some (.slice e)) (hs : sizeT P e = some 1) (hb : bytesT P e = some by_) (hz : zeroT P e = some (.int kk 0))
    (hx : ρ x = .int k n) (hy : ρ y = .int k' c) (h0 : 0 ≤ n) (hnc : n ≤ c) (hc : by_ * c ≤ 2 ^ 48) (hc' : c ≤ 9223372036854775807) (hm : c.toNat ≤ maxLen) :
    OpR P w0 ρ ⟨d, .makeSlice t x y, ty, pos, af, g⟩ H (fun u H' => Sep H0 (.vec u e 1 n.toNat (nums kk (List.replicate n.toNat 0)) :: L) H') := by
  have := s_makeSlice (w0 := w0) (d := d) (ty := ty) (pos := pos) (af := af) (g := g) hS ht hs hb hz rfl hx hy h0 hnc hc hc' hm
  simpa only [nums, List.map_replicate] using this
theorem s_buildSlice {t e : TypeId} {m : Nat} {ps : List (Nat × Operand)} {z : Value} (hS : Sep H0 L H) (ht : P.underlying t = some (.slice e)) (hs : sizeT P e = some 1) (hz : zeroT P e = some z) (h1 : z.oneCell' = true) (hm : ps.length = m) (hp : ordered 0 ps = true) (hm2 : m ≤ 16777216)
    {vs : List Value} (hv : ps.map (fun p => ρ p.2) = vs) (h1v : ∀ v ∈ vs, v.oneCell' = true) (hl : vs.length = m) :
    OpR P w0 ρ ⟨d, .buildSlice t m ps.toArray, ty, pos, af, g⟩ H (fun u H' => Sep H0 (.vec u e 1 m vs :: L) H') :=
  (o_buildSlice ht hs hz h1 hm hp hm2 hv h1v).mono (by
    rintro _ _ ⟨b, hb, rfl, rfl⟩
    exact (hS.new hb).asVec (by rw [List.take_of_length_le]; omega) (by omega) (Nat.le_refl _) (by omega) (by unfold maxLen; omega))
theorem s_append {t t2 e : TypeId} {sz by_ : Nat} {z : Value} {x y : Operand} {v u : Value} {n m : Nat} {cs news : List Value} (hS : Sep H0 L H) (hA : At L (.vec v e sz n cs) F) (ht : P.underlying t = some (.slice e)) (hs : sizeT P e = some sz) (hb : bytesT P e = some by_)
    (hz : zeroT P e = some z) (hzs : z.cells.size = sz) (ht2 : srcT P t2 = true) (hx : ρ x = v) (hy : ρ y = u) (hu : Src P w0 H sz u m news)
    (h63 : n + m ≤ maxLen) (hbytes : (n + m) * by_ ≤ 140737488355328) :
    OpR P w0 ρ ⟨d, .call { callee := .builtin .append, args := #[x, y], argTypes := #[t, t2] }, ty, pos, af, g⟩ H (fun v' H' => Sep H0 (F (.vec v' e sz (n + m) (cs ++ news))) H') :=
  (o_append ht hs hb hz hzs ht2 hx hy (hS.vec hA) hu h63 hbytes).mono (fun _ _ hg => hS.grew hA hg)
theorem s_append0 {t t2 e : TypeId} {sz by_ : Nat} {z : Value} {x y : Operand} {u : Value} {m : Nat} {news : List Value} (hS : Sep H0 L H) (ht : P.underlying t = some (.slice e)) (hs : sizeT P e = some sz) (hb : bytesT P e = some by_)
    (hz : zeroT P e = some z) (hzs : z.cells.size = sz) (ht2 : srcT P t2 = true) (hx : ρ x = nilV) (hy : ρ y = u) (hu : Src P w0 H sz u m news)
    (h63 : m ≤ maxLen) (hbytes : m * by_ ≤ 140737488355328) :
    OpR P w0 ρ ⟨d, .call { callee := .builtin .append, args := #[x, y], argTypes := #[t, t2] }, ty, pos, af, g⟩ H (fun v' H' => Sep H0 (.vec v' e sz m news :: L) H') :=
  (o_append (n := 0) (cs := []) ht hs hb hz hzs ht2 hx hy (.inl ⟨rfl, rfl, rfl⟩) hu (by omega) (by rw [Nat.zero_add]; exact hbytes)).mono (fun v' H' hg => by
    have := hS.grew0 hg
    simpa only [Nat.zero_add, List.nil_append] using this)
theorem q_indexV {t e : TypeId} {sz m : Nat} {x i : Operand} {v : Value} {cs : List Value} {k : IntKind} {n : Int} (hV : Vec H e sz v m cs) (ht : P.underlying t = some (.slice e)) (hs : sizeT P e = some sz) (hx : ρ x = v) (hi : ρ i = .int k n) (h0 : 0 ≤ n) (h1 : n < m) :
    QS P w0 ρ ⟨d, .indexAddr t x i, ty, pos, af, g⟩ H (vptr v (n.toNat * sz)) := by
  obtain ⟨b, cap, q, rfl, _⟩ := hV.opened (by omega)
  have := q_indexAddrV (P := P) (w0 := w0) (H := H) (d := d) (ty := ty) (pos := pos) (af := af) (g := g) ht hs hx hi h0 h1
  rwa [vptr_at, ← Nat.zero_add (n.toNat * sz)]
theorem q_indexV1 {t e : TypeId} {m : Nat} {x i : Operand} {v : Value} {cs : List Value} {k : IntKind} {n : Int} (hV : Vec H e 1 v m cs) (ht : P.underlying t = some (.slice e)) (hs : sizeT P e = some 1) (hx : ρ x = v) (hi : ρ i = .int k n) (h0 : 0 ≤ n) (h1 : n < m) :
    QS P w0 ρ ⟨d, .indexAddr t x i, ty, pos, af, g⟩ H (vptr v n.toNat) := by
  have := q_indexV (w0 := w0) (d := d) (ty := ty) (pos := pos) (af := af) (g := g) hV ht hs hx hi h0 h1
  rwa [Nat.mul_one] at this
theorem q_fieldV {t : TypeId} {fs : Array Field} {f : Field} {m s2 j n sz : Nat} {el : TypeId} {x : Operand} {v : Value} {cs : List Value} (hV : Vec H el sz v n cs) (hn : 0 < n) (ht : P.underlying t = some (.struct fs)) (hf : fs[m]? = some f) (hs : sizeT P f.type = some (s2 + 1))
    (hx : ρ x = vptr v j) : QS P w0 ρ ⟨d, .fieldAddr t x m, ty, pos, af, g⟩ H (vptr v (j + f.offset)) := by
  obtain ⟨b, cap, q, rfl, _⟩ := hV.opened hn
  rw [vptr_at] at hx ⊢
  exact q_fieldAddr ht hf hs hx
theorem q_loadV {t el : TypeId} {sz m j : Nat} {x : Operand} {v u : Value} {cs : List Value} (hV : Vec H el sz v m cs) (ht : scalT P t = true) (hx : ρ x = vptr v j) (hu : cs[j]? = some u) :
    QS P w0 ρ ⟨d, .load t x, ty, pos, af, g⟩ H u := by
  have hlt := (List.getElem?_eq_some_iff.1 hu).1
  have hm : 0 < m := by
    have := hV.len
    rcases Nat.eq_zero_or_pos m with h | h
    · subst h; omega
    · exact h
  obtain ⟨b, cap, q, rfl, hq, _, _, _, _, _, _, hcs⟩ := hV.opened hm
  rw [vptr_at] at hx
  exact q_load ht hx hq (hcs j u hu)
theorem q_loadVN {t el : TypeId} {m j : Nat} {x : Operand} {v : Value} {k : IntKind} {xs : List Int} (hV : Vec H el 1 v m (nums k xs)) (ht : scalT P t = true) (hx : ρ x = vptr v j) (hj : j < xs.length) :
    QS P w0 ρ ⟨d, .load t x, ty, pos, af, g⟩ H (.int k (xs.getD j 0)) := q_loadV hV ht hx (nums_get k xs hj)
theorem s_storeV {t el : TypeId} {sz m j : Nat} {x y : Operand} {v u : Value} {cs : List Value} (hS : Sep H0 L H) (hA : At L (.vec v el sz m cs) F) (ht : sizeT P t = some 1) (hx : ρ x = vptr v j) (hy : ρ y = u) (h1 : u.oneCell' = true) (hj : j < cs.length) :
    OpR P w0 ρ ⟨d, .store t x y, ty, pos, af, g⟩ H (fun r H' => r = undef ∧ Sep H0 (F (.vec v el sz m (cs.set j u))) H') := by
  have hV := hS.vec hA
  have hm : 0 < m := by
    have := hV.len
    rcases Nat.eq_zero_or_pos m with h | h
    · subst h; omega
    · exact h
  obtain ⟨b, cap, q, hv, hq, _, k4, k5, _, _, _, _⟩ := hV.opened hm
  have hx' := hx
  rw [hv, vptr_at] at hx'
  have hjq : j < q.cells.length := by rw [← k4, List.length_take] at hj; omega
  exact (o_store ht hx' hy h1 hq hjq).mono (by rintro _ _ ⟨h1, rfl⟩; exact ⟨h1, hS.vset hA hv hq⟩)
theorem s_storeVN {t el : TypeId} {m j : Nat} {x y : Operand} {v : Value} {k : IntKind} {xs : List Int} {n : Int} (hS : Sep H0 L H) (hA : At L (.vec v el 1 m (nums k xs)) F) (ht : sizeT P t = some 1) (hx : ρ x = vptr v j) (hy : ρ y = .int k n) (hj : j < xs.length) :
    OpR P w0 ρ ⟨d, .store t x y, ty, pos, af, g⟩ H (fun r H' => r = undef ∧ Sep H0 (F (.vec v el 1 m (nums k (xs.set j n)))) H') := by
  have := s_storeV (w0 := w0) (d := d) (ty := ty) (pos := pos) (af := af) (g := g) hS hA ht hx hy rfl (by simpa [nums_length] using hj)
  simpa only [nums_set] using this
theorem q_loadVS {t el : TypeId} {m j : Nat} {x : Operand} {v : Value} {ss : List (List UInt8)} (hV : Vec H el 1 v m (strs ss)) (ht : scalT P t = true) (hx : ρ x = vptr v j) (hj : j < ss.length) :
    QS P w0 ρ ⟨d, .load t x, ty, pos, af, g⟩ H (S (ss.getD j [])) := q_loadV hV ht hx (strs_get ss hj)
/-- Bytes as a string, of a slice of its own. -/
theorem q_stringVec {s t e : TypeId} {x : Operand} {v : Value} {n : Nat} {xs : List Int} (hV : Vec H e 1 v n (nums .u8 xs)) (hs : P.underlying s = some (.slice e)) (he : P.underlying e = some (.int .u8)) (ht : P.underlying t = some .string)
    (hx : ρ x = v) : QS P w0 ρ ⟨d, .convert s t x, ty, pos, af, g⟩ H (S (toB xs)) := q_stringV hs he ht hx hV
end
end Go.Proofs.Ytfiojlmccflplaa.D
end
section
namespace Go.Proofs.Ytfiojlmccflplaa.D
open Go Go.RowKit Go.ChangeShapes Go.WideShapes Go.ChangeAt Go.ChangeMaps
set_option linter.unusedVariables false
set_option linter.unusedSimpArgs false
/-- Elements of sz cells each, that were there before the call. -/
def RowsAt (w0 : World) (pa : Option Addr) (m sz : Nat) (g : Nat → List Value) : Prop :=
  (m = 0 ∨ ∃ a, pa = some a) ∧ ∀ j, j < m → (g j).length = sz ∧ ∀ (i : Nat) v, (g j)[i]? = some v → w0.cell? (adr pa (j * sz + i)) = some v
theorem adr_add (a : Addr) (m n : Nat) : (adr (some a) m).add n = adr (some a) (m + n) := Addr.add_add a m n
section
variable {H : Type} {enc : TypeId × Value → H} {P : Program} {W : World}
/-- Cells read as a value of a type. -/
def Trd (enc : TypeId × Value → H) (P : Program) (W : World) (base : Nat) (sp : Nat → Bool) (hd : Bool) (t : TypeId) (cs : List Value) : Prop := ∃ n y, DataW.trod enc P W base sp hd n t cs = some y
variable {base : Nat} {sp : Nat → Bool} {hd : Bool} {t e : TypeId} {cs : List Value}
theorem Trd.str (h : Trd enc P W base sp hd t cs) (ht : P.underlying t = some .string) : ∃ l : List UInt8, cs = [S l] ∧ l.length ≤ maxLen := by
  obtain ⟨n, y, h⟩ := h
  obtain ⟨s, rfl, _, hs⟩ := DataW.trod_string ht h
  exact ⟨s.data.toList, by rw [S, str_of], hs⟩
theorem Trd.i64 (h : Trd enc P W base sp hd t cs) (ht : P.underlying t = some (.int .i64)) : ∃ n : Int, cs = [.int .i64 n] ∧ -9223372036854775808 ≤ n ∧ n ≤ 9223372036854775807 := by
  obtain ⟨n, y, h⟩ := h
  obtain ⟨z, rfl, _, hz⟩ := DataW.trod_int ht h
  exact ⟨z, rfl, wf_i64 hz⟩
theorem Trd.u8 (h : Trd enc P W base sp hd t cs) (ht : P.underlying t = some (.int .u8)) : ∃ n : Int, cs = [.int .u8 n] ∧ 0 ≤ n ∧ n ≤ 255 := by
  obtain ⟨n, y, h⟩ := h
  obtain ⟨z, rfl, _, hz⟩ := DataW.trod_int ht h
  exact ⟨z, rfl, wf_u8 hz⟩
theorem Trd.bool (h : Trd enc P W base sp hd t cs) (ht : P.underlying t = some .bool) : ∃ b : Bool, cs = [.bool b] := by
  obtain ⟨n, y, h⟩ := h
  obtain ⟨b, rfl, _⟩ := DataW.trod_bool ht h
  exact ⟨b, rfl⟩
theorem Trd.struct {fs : Array Field} (h : Trd enc P W base sp hd t cs) (ht : P.underlying t = some (.struct fs)) :
    cs.length = P.cellsOf t ∧ ∀ (i : Nat) (f : Field), fs[i]? = some f → Trd enc P W base sp hd f.type ((cs.drop f.offset).take (P.cellsOf f.type)) := by
  obtain ⟨n, y, h⟩ := h
  obtain ⟨xs, m, _, _, hl, hlen, hff⟩ := DataW.trod_struct ht h
  refine ⟨hl, fun i f hi => ?_⟩
  have hi' : i < xs.length := by
    have := (Array.getElem?_eq_some_iff.1 hi).1
    simpa [hlen] using this
  exact ⟨m, _, (hff i f (by simpa using hi)).trans (List.getElem?_eq_getElem hi')⟩
theorem Trd.part {fs : Array Field} (h : Trd enc P W base sp hd t cs) (ht : P.underlying t = some (.struct fs)) (i o sz : Nat) (ft : TypeId) (hf : (fs[i]?).map (fun f => (f.offset, f.type)) = some (o, ft)) (hc : P.cellsOf ft = sz) :
    Trd enc P W base sp hd ft ((cs.drop o).take sz) := by
  cases hi : fs[i]? with
  | none => rw [hi] at hf; cases hf
  | some f =>
    rw [hi] at hf
    simp at hf
    obtain ⟨rfl, rfl⟩ := hf
    subst hc
    exact (h.struct ht).2 i f hi
theorem Trd.array {n : Nat} (h : Trd enc P W base sp hd t cs) (ht : P.underlying t = some (.array n e)) :
    cs.length = P.cellsOf t ∧ ∀ i, i < n → Trd enc P W base sp hd e ((cs.drop (i * P.cellsOf e)).take (P.cellsOf e)) := by
  obtain ⟨k, y, h⟩ := h
  obtain ⟨xs, m, _, _, hl, hlen, hff⟩ := DataW.trod_array ht h
  exact ⟨hl, fun i hi => ⟨m, _, (hff i hi).trans (List.getElem?_eq_getElem (by omega))⟩⟩
theorem Trd.slice (h : Trd enc P W base sp hd t cs) (ht : P.underlying t = some (.slice e)) :
    ∃ (pa : Option Addr) (len cap : Nat) (g : Nat → List Value), cs = [.slice pa len cap] ∧ len ≤ maxLen ∧ RowsAt W pa len (P.cellsOf e) g ∧ ∀ j, j < len → Trd enc P W base sp hd e (g j) := by
  obtain ⟨n, y, h⟩ := h
  rcases DataW.trod_slice ht h with ⟨rfl, _⟩ | ⟨a, len, cap, elems, rest, m, _, rfl, _, _, hlc, hcm, hel, hx, _⟩
  · exact ⟨none, 0, 0, fun _ => [], rfl, by simp, ⟨.inl rfl, fun j hj => by omega⟩, fun j hj => by omega⟩
  · have each : ∀ i, i < len → ∃ ec, W.cells? base (a.add (i * P.cellsOf e)) (P.cellsOf e) = some ec ∧ Trd enc P W base sp hd e ec := fun i hi => by
      have h1 := hx i hi
      rw [List.getElem?_eq_getElem (by omega)] at h1
      obtain ⟨ec, h2, h3⟩ := Option.bind_eq_some_iff.1 h1
      exact ⟨ec, h2, m, _, h3⟩
    have hch : ∀ i, ∃ ec, i < len → W.cells? base (a.add (i * P.cellsOf e)) (P.cellsOf e) = some ec ∧ Trd enc P W base sp hd e ec := fun i => by
      by_cases hi : i < len
      · obtain ⟨ec, h⟩ := each i hi; exact ⟨ec, fun _ => h⟩
      · exact ⟨[], fun h => absurd h hi⟩
    refine ⟨some a, len, cap, fun i => Classical.choose (hch i), rfl, by omega, ⟨.inr ⟨a, rfl⟩, fun j hj => ?_⟩, fun j hj => (Classical.choose_spec (hch j) hj).2⟩
    have hc := (Classical.choose_spec (hch j) hj).1
    have hs := World.cells?_some hc
    refine ⟨hs.2.1, fun i v hi => ?_⟩
    show W.cell? ((some a).getD ⟨0, 0, none⟩ |>.add (j * P.cellsOf e + i)) = some v
    rw [← hi, Option.getD_some, ← Addr.add_add]
    exact hs.2.2 i (Nat.lt_of_lt_of_eq (List.getElem?_eq_some_iff.1 hi).1 hs.2.1)
theorem Trd.of {v : Value} {d : DataW H} {ps : List MemPlace} (h : DataW.Trod enc P W base sp hd t v d ps) : Trd enc P W base sp hd t v.cells.toList := by
  obtain ⟨n, h⟩ := h
  exact ⟨n, _, h⟩
theorem open_sliceT {r : Reach} {b0 : Nat} {v : Value} {d : DataW H} {ps : List MemPlace} (ht : P.underlying t = some (.slice e)) (hval : Value.okWide P W r b0 t v) (h : DataW.Trod enc P W base sp hd t v d ps) :
    ∃ (pa : Option Addr) (len cap : Nat) (g : Nat → List Value), v = .slice pa len cap ∧ len ≤ maxLen ∧ RowsAt W pa len (P.cellsOf e) g ∧ ∀ j, j < len → Trd enc P W base sp hd e (g j) := by
  obtain ⟨a, len, cap, rfl⟩ := okWide_slice ht hval
  obtain ⟨pa, l, c, g, h1, h2, h3, h4⟩ := (Trd.of h).slice ht
  simp [Value.cells] at h1
  obtain ⟨rfl, rfl, rfl⟩ := h1
  exact ⟨a, len, cap, g, rfl, h2, h3, h4⟩
theorem Trd.ints {n : Nat} {k : IntKind} (h : Trd enc P W base sp hd t cs) (ht : P.underlying t = some (.array n e)) (he : P.underlying e = some (.int k)) (hc : P.cellsOf e = 1) (hs : P.cellsOf t = n) :
    ∃ xs : List Int, cs = nums k xs ∧ xs.length = n ∧ ∀ x ∈ xs, (Lit.int k x).wf = true := by
  obtain ⟨hl, hx⟩ := h.array ht
  rw [hs] at hl
  have each : ∀ i, ∃ x, i < n → cs[i]? = some (.int k x) ∧ (Lit.int k x).wf = true := fun i => by
    by_cases hi : i < n
    · obtain ⟨m, y, h1⟩ := hx i hi
      obtain ⟨x, h2, _, h3⟩ := DataW.trod_int he h1
      rw [hc, Nat.mul_one] at h2
      refine ⟨x, fun _ => ⟨?_, h3⟩⟩
      have := congrArg (·[0]?) h2
      simpa [List.getElem?_take] using this
    · exact ⟨0, fun h => absurd h hi⟩
  refine ⟨(List.range n).map fun i => Classical.choose (each i), ?_, by simp, ?_⟩
  · apply List.ext_getElem?
    intro i
    by_cases hi : i < n
    · rw [((Classical.choose_spec (each i)) hi).1]; simp [nums, hi]
    · rw [List.getElem?_eq_none (by omega), List.getElem?_eq_none (by simp [nums_length]; omega)]
  · intro x hx
    simp only [List.mem_map, List.mem_range] at hx
    obtain ⟨i, hi, rfl⟩ := hx
    exact ((Classical.choose_spec (each i)) hi).2
theorem RowsAt.congr {pa : Option Addr} {m sz : Nat} {g g' : Nat → List Value} (h : RowsAt W pa m sz g) (he : ∀ j, j < m → g j = g' j) : RowsAt W pa m sz g' :=
  ⟨h.1, fun j hj => by rw [← he j hj]; exact h.2 j hj⟩
/-- Rows of a struct, element by element. -/
theorem rows_of {α : Type} {pa : Option Addr} {m sz : Nat} {g : Nat → List Value} (cells : α → List Value) (ok : α → Prop) (hR : RowsAt W pa m sz g) (x0 : α) (h : ∀ j, j < m → ∃ x : α, g j = cells x ∧ ok x) :
    ∃ o : Nat → α, RowsAt W pa m sz (fun j => cells (o j)) ∧ ∀ j, j < m → ok (o j) := by
  have hch : ∀ j, ∃ x : α, j < m → g j = cells x ∧ ok x := fun j => by
    by_cases hj : j < m
    · obtain ⟨x, hx⟩ := h j hj; exact ⟨x, fun _ => hx⟩
    · exact ⟨x0, fun h => absurd h hj⟩
  refine ⟨fun j => Classical.choose (hch j), RowsAt.congr hR (fun j hj => ((Classical.choose_spec (hch j)) hj).1), fun j hj => ((Classical.choose_spec (hch j)) hj).2⟩
end
section
variable {P : Program} {w0 : World} {ρ : Operand → Value} {H : Hp} {d : Option Tmp} {ty : TypeId} {pos : String} {af : Array Edge} {g : Option (Nat × Bool)}
theorem q_indexAddrR {t e : TypeId} {m c sz : Nat} {x i : Operand} {pa : Option Addr} {k : IntKind} {n : Int} {f : Nat → List Value} (ht : P.underlying t = some (.slice e)) (hs : sizeT P e = some sz)
    (hx : ρ x = .slice pa m c) (hi : ρ i = .int k n) (h0 : 0 ≤ n) (h1 : n < m) (hA : RowsAt w0 pa m sz f) : QS P w0 ρ ⟨d, .indexAddr t x i, ty, pos, af, g⟩ H (.pointer (some (adr pa (n.toNat * sz)))) := by
  obtain ⟨a, rfl⟩ := hA.1.resolve_left (by omega)
  exact QS.of_run fun w _ => by simp [execOp, Instr.indexAt, asIntOf, hx, hi, run_underlying ht, h0, h1, run_sizeT hs, adr]
theorem q_loadR {t : TypeId} {sz m : Nat} {x : Operand} {pa : Option Addr} {j : Nat} {f : Nat → List Value} (ht : aggT P t sz = true) (hx : ρ x = .pointer (some (adr pa (j * sz)))) (hA : RowsAt w0 pa m sz f) (hj : j < m) :
    QS P w0 ρ ⟨d, .load t x, ty, pos, af, g⟩ H (.agg (f j).toArray) := by
  obtain ⟨a, rfl⟩ := hA.1.resolve_left (by omega)
  obtain ⟨hl, hc⟩ := hA.2 j hj
  exact QS.of_run fun w ho => by
    have : (loadCells (adr (some a) (j * sz)) sz).run P w = .ok (f j).toArray w := by
      rw [← hl]
      exact run_loadCells_list w _ (f j) fun i v hi => by
        have h3 := hc i v hi
        have : adr (some a) (j * (f j).length + i) = (adr (some a) (j * (f j).length)).add i := (adr_add a _ i).symm
        rw [← hl] at h3
        rw [this] at h3
        exact (ho.below.cell (World.block_lt_of_cell? w0 _ h3)).trans h3
    simp [execOp, Instr.loadAt, Instr.sureAddr, hx, loadVar, run_isAgg_agg ht, aggT_size ht, this]
end
end Go.Proofs.Ytfiojlmccflplaa.D
end
section
namespace Go.Proofs.Ytfiojlmccflplaa.D
open Go Go.RowKit
set_option linter.unusedVariables false
set_option linter.unusedSimpArgs false
theorem wrap_u8 (x : Int) : IntKind.u8.wrap x = x % 256 := by simp [IntKind.wrap, IntKind.bits, IntKind.signed]
theorem wrap_u32 (x : Int) : IntKind.u32.wrap x = x % 4294967296 := by simp [IntKind.wrap, IntKind.bits, IntKind.signed]
theorem wrap_u64 (x : Int) : IntKind.u64.wrap x = x % 18446744073709551616 := by simp [IntKind.wrap, IntKind.bits, IntKind.signed]
theorem wrap_u64_in {x : Int} (h : 0 ≤ x) (h1 : x < 18446744073709551616) : IntKind.u64.wrap x = x := by rw [wrap_u64]; omega
theorem wrap_i64_in {x : Int} (h : -9223372036854775808 ≤ x) (h1 : x ≤ 9223372036854775807) : IntKind.i64.wrap x = x := IntWalk.i64_in x ⟨h, h1⟩
theorem bv_nat (w x : Nat) (h : x < 2 ^ w) : (BitVec.ofInt w (x : Int)).toNat = x := by
  rw [BitVec.toNat_ofInt]
  have : ((x : Int) % ((2 ^ w : Nat) : Int)).toNat = x := by
    rw [← Int.natCast_emod, Int.toNat_natCast, Nat.mod_eq_of_lt h]
  simpa using this
section
variable {x y : Nat}
end
/-- Bits that lie apart add up. -/
theorem or_add {a b i : Nat} (h : b < 2 ^ i) : (b ||| a * 2 ^ i) = b + a * 2 ^ i := by
  rw [Nat.or_comm, Nat.mul_comm, ← Nat.two_pow_add_eq_or_of_lt h, Nat.add_comm]
def enumN (k : IntKind) : Nat → List Int → List (Nat × Value)
  | _, [] => []
  | i, x :: xs => (i, .int k x) :: enumN k (i + 1) xs
section
variable {P : Program} {w0 : World} {ρ : Operand → Value} {H : Hp} {d : Option Tmp} {ty : TypeId} {pos : String} {af : Array Edge} {g : Option (Nat × Bool)} {xt yt : TypeId} {x y : Operand} {k k' : IntKind} {a b : Int}
/-- Shifts by a known number. -/
theorem q_shlL (m : Nat) (hx : ρ x = .int k a) (hy : ρ y = .int k' b) (hb : 0 ≤ b) (hm : min b.toNat k.bits = m) : QS P w0 ρ ⟨d, .binOp .shl xt x y yt, ty, pos, af, g⟩ H (.int k (k.wrap (a * 2 ^ m))) := by
  subst hm; exact q_shl hx hy hb
theorem q_shrL (m : Nat) (hx : ρ x = .int k a) (hy : ρ y = .int k' b) (hb : 0 ≤ b) (hm : min b.toNat k.bits = m) : QS P w0 ρ ⟨d, .binOp .shr xt x y yt, ty, pos, af, g⟩ H (.int k (a / 2 ^ m)) := by
  subst hm; exact q_shr hx hy hb
/-- An array built of numbers in order. -/
theorem q_buildN {t : TypeId} {ps : List (Nat × Operand)} (xs : List Int) (hp : (ps.map fun p => (p.1, ρ p.2)) = enumN k 0 xs) (h : P.built t (enumN k 0 xs) = some (nums k xs).toArray) : QS P w0 ρ ⟨d, .build t ps.toArray, ty, pos, af, g⟩ H (.agg (nums k xs).toArray) := q_build hp h
theorem q_convI64 {s t : TypeId} (hs : (P.underlying s).isSome = true) (ht : P.underlying t = some (.int .i64)) (hx : ρ x = .int k a) (h : -9223372036854775808 ≤ a ∧ a ≤ 9223372036854775807) :
    QS P w0 ρ ⟨d, .convert s t x, ty, pos, af, g⟩ H (.int .i64 a) := by
  have := q_convInt (w0 := w0) (H := H) (d := d) (ty := ty) (pos := pos) (af := af) (g := g) hs ht hx
  rwa [wrap_i64_in h.1 h.2] at this
end
end Go.Proofs.Ytfiojlmccflplaa.D
end
section
namespace Go.Proofs.Ytfiojlmccflplaa.D
open Go Go.RowKit
set_option linter.unusedVariables false
set_option linter.unusedSimpArgs false
abbrev BV (c : UInt8) : Value := .int .u8 ((c.toNat : Nat) : Int)
theorem ofB_app (a b : List UInt8) : ofB (a ++ b) = ofB a ++ ofB b := by simp [ofB]
section
variable {P : Program} {w0 : World} {ρ : Operand → Value} {H H0 : Hp} {L : List Chunk} {F : Chunk → List Chunk} {d : Option Tmp} {ty : TypeId} {pos : String} {af : Array Edge} {g : Option (Nat × Bool)} {xt yt : TypeId} {x y : Operand}
theorem q_convBI {s t : TypeId} {a : UInt8} (hs : (P.underlying s).isSome = true) (ht : P.underlying t = some (.int .i64)) (hx : ρ x = BV a) : QS P w0 ρ ⟨d, .convert s t x, ty, pos, af, g⟩ H (.int .i64 ((a.toNat : Nat) : Int)) :=
  q_convI64 hs ht hx (by have := a.toNat_lt; omega)
/-- A string out of bytes. -/
theorem q_stringB {s t e : TypeId} {v : Value} {n : Nat} {l : List UInt8} (hV : Vec H e 1 v n (nums .u8 (ofB l))) (hs : P.underlying s = some (.slice e)) (he : P.underlying e = some (.int .u8)) (ht : P.underlying t = some .string)
    (hx : ρ x = v) : QS P w0 ρ ⟨d, .convert s t x, ty, pos, af, g⟩ H (S l) := by
  have := q_stringVec (P := P) (w0 := w0) (d := d) (ty := ty) (pos := pos) (af := af) (g := g) hV hs he ht hx
  rwa [toB_ofB] at this
theorem rep_ofB (n : Nat) : List.replicate n (0 : Int) = ofB (List.replicate n 0) := by simp [ofB]
theorem s_makeSliceB {t e : TypeId} {k k' : IntKind} {n c : Int} {by_ : Nat} (hS : Sep H0 L H) (ht : P.underlying t = some (.slice e)) (hs : sizeT P e = some 1) (hb : bytesT P e = some by_) (hz : zeroT P e = some (.int .u8 0))
    (hx : ρ x = .int k n) (hy : ρ y = .int k' c) (h0 : 0 ≤ n) (hnc : n ≤ c) (hc : by_ * c ≤ 2 ^ 48) (hc' : c ≤ 9223372036854775807) (hm : c.toNat ≤ maxLen) :
    OpR P w0 ρ ⟨d, .makeSlice t x y, ty, pos, af, g⟩ H (fun u H' => Sep H0 (.vec u e 1 n.toNat (nums .u8 (ofB (List.replicate n.toNat 0))) :: L) H') := by
  have := s_makeSliceN (w0 := w0) (d := d) (ty := ty) (pos := pos) (af := af) (g := g) hS ht hs hb hz hx hy h0 hnc hc hc' hm
  rwa [rep_ofB] at this
end
end Go.Proofs.Ytfiojlmccflplaa.D
end
section
namespace Go.Proofs.Ytfiojlmccflplaa.D
open Go Go.RowKit
set_option linter.unusedVariables false
set_option linter.unusedSimpArgs false
section
variable {P : Program} {w0 : World} {ρ : Operand → Value} {H H0 : Hp} {L : List Chunk} {F : Chunk → List Chunk} {d : Option Tmp} {ty : TypeId} {pos : String} {af : Array Edge} {g : Option (Nat × Bool)} {xt yt : TypeId} {x y : Operand}
theorem q_fieldTo {t : TypeId} {fs : Array Field} {f : Field} {m sz : Nat} {x : Operand} {b : Nat} (k : Nat) (ht : P.underlying t = some (.struct fs)) (hf : fs[m]? = some f) (hk : f.offset = k) (hs : sizeT P f.type = some (sz + 1))
    (hx : ρ x = .pointer (some ⟨b, 0, none⟩)) : QS P w0 ρ ⟨d, .fieldAddr t x m, ty, pos, af, g⟩ H (.pointer (some ⟨b, k, none⟩)) := by
  have := q_fieldAddr (w0 := w0) (H := H) (d := d) (ty := ty) (pos := pos) (af := af) (g := g) ht hf hs hx
  rwa [Nat.zero_add, hk] at this
/-- A part of a slice. -/
def subV (v : Value) (a b : Nat) : Value := match v with
  | .slice (some ⟨k, o, r⟩) _ cp => .slice (some (if cp = a then ⟨k, o, r⟩ else ⟨k, o + a * 1, r⟩)) (b - a) (cp - a)
  | _ => v
theorem q_sliceVec {t e el : TypeId} {lo hi : Operand} {v : Value} {m : Nat} {cs : List Value} {k k' : IntKind} {a c : Int} (hV : Vec H el 1 v m cs) (ht : P.underlying t = some (.slice e)) (hs : sizeT P e = some 1) (hx : ρ x = v)
    (ha : ρ lo = .int k a) (hc : ρ hi = .int k' c) (h0 : 0 ≤ a) (h1 : a ≤ c) (h2 : c ≤ m) (h3 : 0 < m) : QS P w0 ρ ⟨d, .slice t x (some lo) (some hi) none, ty, pos, af, g⟩ H (subV v a.toNat c.toNat) := by
  obtain ⟨b, cap, q, rfl, _, _, _, _, h6, _, _, _⟩ := hV.opened h3
  exact q_sliceV (sz := 1) ht hs hx ha hc h0 h1 (by omega)
theorem q_stringSub {s t e el : TypeId} {v : Value} {m a c : Nat} {l : List UInt8} (hV : Vec H el 1 v m (nums .u8 (ofB l))) (hs : P.underlying s = some (.slice e)) (he : P.underlying e = some (.int .u8)) (ht : P.underlying t = some .string)
    (hx : ρ x = subV v a c) (h1 : a ≤ c) (h2 : c ≤ l.length) (h3 : 0 < m) : QS P w0 ρ ⟨d, .convert s t x, ty, pos, af, g⟩ H (S ((l.drop a).take (c - a))) := by
  obtain ⟨b, cap, q, rfl, hq, _, _, hl, h6, _, _, hcs⟩ := hV.opened h3
  have := q_string (P := P) (w0 := w0) (ρ := ρ) (x := x) (d := d) (ty := ty) (pos := pos) (af := af) (g := g) (b := b) (o := if cap = a then 0 else 0 + a * 1) (n := c - a) (c := cap - a) (xs := ofB ((l.drop a).take (c - a))) hs he ht (by rw [hx]; simp only [subV]; split <;> rfl) hq (by simp [ofB_length]; omega) (fun i u hi => by
    have hi' : i < c - a := by
      rcases Nat.lt_or_ge i (c - a) with h | h
      · exact h
      · rw [List.getElem?_eq_none (by simp [nums_length, ofB_length]; omega)] at hi; exact absurd hi (by simp)
    have hl' : m = l.length := by rw [nums_length, ofB_length] at hl; omega
    rw [if_neg (by omega)]
    refine hcs _ u ?_
    rw [← hi]
    simp only [nums, ofB, List.map_take, List.map_drop, List.getElem?_take, hi', if_true, List.getElem?_drop, Nat.zero_add, Nat.mul_one])
  rwa [toB_ofB] at this
end
end Go.Proofs.Ytfiojlmccflplaa.D
end
section
namespace Go.Proofs.Ytfiojlmccflplaa.D
open Go Go.RowKit
set_option linter.unusedVariables false
set_option linter.unusedSimpArgs false
/-- A slice that reads as these bytes. -/
def Rds (H : Hp) (v : Value) (l : List UInt8) : Prop := ∃ (a : Option Addr) (c : Nat), v = .slice a l.length c ∧ l.length ≤ c ∧
  ∀ j, j < l.length → ∃ (b o : Nat) (q : Blk), a = some ⟨b, o, none⟩ ∧ H b = some q ∧ q.cells[o + j]? = some (BV (l.getD j 0))
theorem Rds.mono {H H' : Hp} {v : Value} {l : List UInt8} (h : Rds H v l) (hl : H.le H') : Rds H' v l := by
  obtain ⟨a, c, h1, h2, h3⟩ := h
  refine ⟨a, c, h1, h2, fun j hj => ?_⟩
  obtain ⟨b, o, q, e1, e2, e3⟩ := h3 j hj
  exact ⟨b, o, q, e1, hl b q e2, e3⟩
/-- A slice up to a place. -/
def preV (v : Value) (k : Nat) : Value := match v with
  | .slice a _ c => .slice a k c
  | v => v
theorem Rds.pre {H : Hp} {v : Value} {l : List UInt8} {k : Nat} (h : Rds H v l) (hk : k ≤ l.length) : Rds H (preV v k) (l.take k) := by
  obtain ⟨a, c, rfl, h2, h3⟩ := h
  have hl : (l.take k).length = k := by simp; omega
  refine ⟨a, c, by rw [hl]; rfl, by omega, fun j hj => ?_⟩
  rw [hl] at hj
  obtain ⟨b, o, q, e1, e2, e3⟩ := h3 j (by omega)
  refine ⟨b, o, q, e1, e2, ?_⟩
  rw [e3]; simp [hj]
section
variable {P : Program} {w0 : World} {ρ : Operand → Value} {H H0 : Hp} {d : Option Tmp} {ty : TypeId} {pos : String} {af : Array Edge} {g : Option (Nat × Bool)} {x y : Operand} {v : Value} {l : List UInt8}
theorem q_indexSL {t : TypeId} {x i : Operand} {k : IntKind} (n : Nat) (ht : P.underlying t = some .string) (hx : ρ x = S l) (hi : ρ i = .int k (n : Int)) (h1 : n < l.length) : QS P w0 ρ ⟨d, .index t x i, ty, pos, af, g⟩ H (.int .u8 (bt l n)) := by
  have := q_indexS (P := P) (w0 := w0) (H := H) (d := d) (ty := ty) (pos := pos) (af := af) (g := g) ht hx hi (by omega) (by omega)
  rwa [Int.toNat_natCast] at this
end
end Go.Proofs.Ytfiojlmccflplaa.D
end
section
namespace Go.Proofs.Ytfiojlmccflplaa.D
open Go Go.RowKit
set_option linter.unusedVariables false
set_option linter.unusedSimpArgs false
theorem Own.less {w0 w : World} {H H' : Hp} (h : Own w0 H' w) (hl : H.le H') : Own w0 H w := ⟨h.below, fun b o hb => h.fits b o (hl b o hb)⟩
theorem Addr.add_add (a : Addr) (i j : Nat) : (a.add i).add j = a.add (i + j) := by
  rcases i with _ | i
  · rw [Nat.zero_add]; rfl
  · rcases j with _ | j
    · rfl
    · show ({ a with off := a.off + (i + 1) + (j + 1), spot := none } : Addr) = { a with off := a.off + (i + 1 + (j + 1)), spot := none }
      rw [Nat.add_assoc]
/-- A slice whose cells, of one each, read as these. -/
def RdW (w0 : World) (H : Hp) (v : Value) (g : List Value) : Prop := ∃ (a : Option Addr) (c : Nat), v = .slice a g.length c ∧ g.length ≤ c ∧
  ∀ j u, g[j]? = some u → ∃ ad, a = some ad ∧ ∀ w, Own w0 H w → w.cell? (ad.add j) = some u
theorem RdW.mono {w0 : World} {H H' : Hp} {v : Value} {g : List Value} (h : RdW w0 H v g) (hl : H.le H') : RdW w0 H' v g := by
  obtain ⟨a, c, h1, h2, h3⟩ := h
  refine ⟨a, c, h1, h2, fun j u hj => ?_⟩
  obtain ⟨ad, e1, e2⟩ := h3 j u hj
  exact ⟨ad, e1, fun w hw => e2 w (hw.less hl)⟩
theorem Vec.rdw {w0 : World} {H : Hp} {el : TypeId} {v : Value} {n : Nat} {cs : List Value} (hV : Vec H el 1 v n cs) : RdW w0 H v cs := by
  have hl : cs.length = n := by have := hV.len; omega
  rcases hV with ⟨rfl, h0, rfl⟩ | ⟨b, cap, q, rfl, hq, he, ht, h5, h6, h7, h8⟩
  · exact ⟨none, 0, rfl, by simp, fun j u hj => by simp at hj⟩
  · refine ⟨_, cap, by rw [hl], by omega, fun j u hj => ⟨_, rfl, fun w hw => ?_⟩⟩
    have hj2 : q.cells[j]? = some u := by
      rw [← ht, List.getElem?_take] at hj
      split at hj
      · exact hj
      · cases hj
    have := hw.cell hq hj2
    rwa [Addr.add0, Nat.zero_add]
theorem CellsAt.rdw {w0 : World} {H : Hp} {pa : Option Addr} {c : Nat} {g : List Value} {f : Nat → Value} (h : CellsAt w0 pa g.length f) (hc : g.length ≤ c) (hf : ∀ j u, g[j]? = some u → f j = u) : RdW w0 H (.slice pa g.length c) g := by
  refine ⟨pa, c, rfl, hc, fun j u hj => ?_⟩
  have hj' : j < g.length := by
    rcases Nat.lt_or_ge j g.length with h | h
    · exact h
    · rw [List.getElem?_eq_none h] at hj; cases hj
  obtain ⟨a, rfl⟩ := h.1.resolve_left (by omega)
  refine ⟨a, rfl, fun w hw => ?_⟩
  have hv := h.2 j hj'
  have := (hw.below.cell (World.block_lt_of_cell? w0 _ hv)).trans hv
  rw [hf j u hj] at this
  simpa [adr] using this
theorem RdW.pre {w0 : World} {H : Hp} {v : Value} {g : List Value} {k : Nat} (h : RdW w0 H v g) (hk : k ≤ g.length) : RdW w0 H (preV v k) (g.take k) := by
  obtain ⟨a, c, rfl, h2, h3⟩ := h
  have hl : (g.take k).length = k := by simp; omega
  refine ⟨a, c, by rw [hl]; rfl, by omega, fun j u hj => ?_⟩
  rw [List.getElem?_take] at hj
  split at hj
  · exact h3 j u hj
  · cases hj
section
variable {P : Program} {w0 : World} {ρ : Operand → Value} {H H0 : Hp} {d : Option Tmp} {ty : TypeId} {pos : String} {af : Array Edge} {g : Option (Nat × Bool)} {x y : Operand} {v : Value} {l : List Value}
theorem q_lenW {t e : TypeId} (hR : RdW w0 H v l) (ht : P.underlying t = some (.slice e)) (hx : ρ x = v) : QS P w0 ρ ⟨d, .call { callee := .builtin .len, args := #[x], argTypes := #[t] }, ty, pos, af, g⟩ H (.int .i64 (l.length : Int)) := by
  obtain ⟨a, c, rfl, _, _⟩ := hR
  exact q_lenV ht hx
theorem q_lenWN {t e : TypeId} {k : IntKind} {xs : List Int} (hR : RdW w0 H v (nums k xs)) (ht : P.underlying t = some (.slice e)) (hx : ρ x = v) : QS P w0 ρ ⟨d, .call { callee := .builtin .len, args := #[x], argTypes := #[t] }, ty, pos, af, g⟩ H (.int .i64 (xs.length : Int)) := by
  have := q_lenW (d := d) (ty := ty) (pos := pos) (af := af) (g := g) hR ht hx
  rwa [nums_length] at this
theorem q_indexW {t e : TypeId} {i : Operand} {k : IntKind} {n : Int} (hR : RdW w0 H v l) (ht : P.underlying t = some (.slice e)) (hs : sizeT P e = some 1) (hx : ρ x = v) (hi : ρ i = .int k n) (h0 : 0 ≤ n) (h1 : n < l.length) :
    QS P w0 ρ ⟨d, .indexAddr t x i, ty, pos, af, g⟩ H (vptr v n.toNat) := by
  obtain ⟨a, c, rfl, _, h3⟩ := hR
  obtain ⟨ad, rfl, _⟩ := h3 n.toNat (l[n.toNat]'(by omega)) (List.getElem?_eq_getElem _)
  exact QS.of_run fun w _ => by simp [execOp, Instr.indexAt, asIntOf, hx, hi, run_underlying ht, h0, h1, run_sizeT hs, vptr]
theorem q_loadW {t : TypeId} {j : Nat} {u : Value} (hR : RdW w0 H v l) (ht : scalT P t = true) (hx : ρ x = vptr v j) (hj : l[j]? = some u) : QS P w0 ρ ⟨d, .load t x, ty, pos, af, g⟩ H u := by
  obtain ⟨a, c, rfl, _, h3⟩ := hR
  obtain ⟨ad, rfl, h4⟩ := h3 j u hj
  exact QS.of_run fun w ho => by simp [execOp, Instr.loadAt, Instr.sureAddr, hx, vptr, loadVar, run_isAgg_scal ht, h4 w ho]
theorem q_loadWN {t : TypeId} {j : Nat} {k : IntKind} {xs : List Int} (hR : RdW w0 H v (nums k xs)) (ht : scalT P t = true) (hx : ρ x = vptr v j) (hj : j < xs.length) : QS P w0 ρ ⟨d, .load t x, ty, pos, af, g⟩ H (.int k (xs.getD j 0)) := q_loadW hR ht hx (nums_get k xs hj)
end
theorem SeqD.ms {P : Program} {w0 : World} {n : Nat} {H : Hp} {ops : Array Oper} {Q : Post} {e : Env} {R : Value → Hp → Prop} {c0 k i : Nat} {op : Op} {ty : TypeId} {pos : String} {af : Array Edge} {l : List Oper} {D : Hp → Prop}
    (h : OpR P w0 (ev e) ⟨none, op, ty, pos, af, none⟩ H R) (hk : ∀ v H1, R v H1 → D H1 ∧ SeqR2 P w0 n ops Q H1 k l e) : SeqD P w0 n ops Q H c0 k i 0 (⟨none, op, ty, pos, af, none⟩ :: l) e D := ⟨rfl, rfl, R, h, hk⟩
end Go.Proofs.Ytfiojlmccflplaa.D
end
section
namespace Go.Proofs.Ytfiojlmccflplaa.D
open Go Go.RowKit
set_option linter.unusedVariables false
set_option linter.unusedSimpArgs false
/-- The lowest byte of a number. -/
def b8 (n : Int) : UInt8 := UInt8.ofNat (n % 256).toNat
theorem b8_toNat (n : Int) : (((b8 n).toNat : Nat) : Int) = n % 256 := by
  unfold b8
  rw [UInt8.toNat_ofNat', Nat.mod_eq_of_lt (by omega)]; omega
section
variable {P : Program} {w0 : World} {ρ : Operand → Value} {H : Hp} {d : Option Tmp} {ty : TypeId} {pos : String} {af : Array Edge} {g : Option (Nat × Bool)} {x : Operand}
theorem q_convB8 {s t : TypeId} {k : IntKind} {n : Int} (hs : (P.underlying s).isSome = true) (ht : P.underlying t = some (.int .u8)) (hx : ρ x = .int k n) : QS P w0 ρ ⟨d, .convert s t x, ty, pos, af, g⟩ H (BV (b8 n)) := by
  have := q_convInt (w0 := w0) (H := H) (d := d) (ty := ty) (pos := pos) (af := af) (g := g) hs ht hx
  rwa [wrap_u8, ← b8_toNat] at this
theorem q_compl {t : TypeId} {k : IntKind} {n : Int} (hk : k.signed = false) (hx : ρ x = .int k n) : QS P w0 ρ ⟨d, .unOp .xor t x, ty, pos, af, g⟩ H (.int k (ixor k k.max n)) :=
  QS.of_run fun w ho => by simp [execOp, hx, Op.unary, Op.intBits, ixor, hk]
end
theorem part_of {l cs : List Value} {j : Nat} (h : (l.drop j).take cs.length = cs) : ∀ (i : Nat) (v : Value), cs[i]? = some v → l[j + i]? = some v := by
  intro i v hv
  rw [← h, List.getElem?_take] at hv
  split at hv
  · rw [List.getElem?_drop] at hv; exact hv
  · cases hv
end Go.Proofs.Ytfiojlmccflplaa.D
end
