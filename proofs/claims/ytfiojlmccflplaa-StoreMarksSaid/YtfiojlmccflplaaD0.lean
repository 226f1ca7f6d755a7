/-
  A walk's rules: slots as a function, own blocks as a partial map, and the rules of code over them. No condition.
-/
import Derived.WalkKit
import Derived.KernelRfl
/-! A walk's own state: the slots as a function, the blocks that the call made as a partial map. -/
namespace Go.Proofs.Ytfiojlmccflplaa.D
open Go Go.RowKit
set_option linter.unusedVariables false
set_option linter.unusedSimpArgs false

abbrev Env := Nat → Value
def upd (e : Env) (t : Nat) (v : Value) : Env := fun u => if u = t then v else e u
def putE (e : Env) (d : Option Tmp) (v : Value) : Env := match d with
  | some t => upd e t v
  | none => e
def ev (e : Env) : Operand → Value
  | .tmp t => e t
  | .const v => v
  | .global g => .pointer (some ⟨g, 0, none⟩)
  | .func f => .func (.func f) #[] #[]

/-- What a block is: cells of a type, or a map's entries. -/
inductive Tag
  | ty (t : TypeId)
  | map (es : List (Value × Value))
instance : Coe Nat Tag := ⟨Tag.ty⟩
instance (n : Nat) : OfNat Tag n := ⟨Tag.ty n⟩
structure Blk where
  cells : List Value
  size : Nat
  elem : Tag

abbrev Hp := Nat → Option Blk
def Hp.set (H : Hp) (b : Nat) (o : Blk) : Hp := fun c => if c = b then some o else H c
def Hp.le (H H' : Hp) : Prop := ∀ b o, H b = some o → H' b = some o

def Fits (w : World) (b : Nat) (o : Blk) : Prop :=
  (∃ (e : TypeId) (c : Array Value) (fr : Nat × Nat), o.elem = .ty e ∧ w.heap[b]? = some (.cells c e fr) ∧ c.size = o.size ∧ o.cells.length ≤ o.size ∧
    (∀ j, j < o.size → ¬ (fr.1 ≤ j ∧ j < fr.2)) ∧ (∀ (j : Nat) (v : Value), o.cells[j]? = some v → c[j]? = some v)) ∨
  (o.cells = [] ∧ o.size = 0 ∧ ∃ (es : List (Value × Value)) (l : Array MapEntry) (k : Nat), o.elem = .map es ∧ w.heap[b]? = some (.map l k) ∧ l.toList.map (fun x => (x.key, x.val)) = es)

structure Own (w0 : World) (H : Hp) (w : World) : Prop where
  below : Below w0.heap.size w0 w
  fits : ∀ b o, H b = some o → w0.heap.size ≤ b ∧ Fits w b o

structure Fr (n : Nat) (e : Env) (a : Act) : Prop where
  size : a.tmps.size = n
  get : ∀ t, a.tmps.getD t undef = e t
  defers : a.defers = []

theorem Fr.ev {n : Nat} {e : Env} {a : Act} (h : Fr n e a) (x : Operand) : a.eval x = ev e x := by
  cases x <;> simp [Act.eval, D.ev, ← h.get]

def dstOk (n : Nat) (d : Option Tmp) : Bool := match d with
  | some t => decide (t < n)
  | none => true

theorem Fr.put {n : Nat} {e : Env} {a : Act} (h : Fr n e a) {d : Option Tmp} (hd : dstOk n d = true) (v : Value) : Fr n (putE e d v) (a.put d v) := by
  cases d with
  | none => exact h
  | some t =>
    have ht : t < a.tmps.size := by rw [h.size]; simpa [dstOk] using hd
    refine ⟨by simp [Act.put, h.size], fun u => ?_, h.defers⟩
    have hg := h.get u
    by_cases hu : u = t
    · subst hu; simp [Act.put, putE, upd, ht]
    · simp only [Act.put, putE, upd, if_neg hu, ← hg]
      simp [Array.getElem?_setIfInBounds_ne (Ne.symm hu)]

def yieldE (ops : Array Oper) (e : Env) (j : Nat) : Option Bool :=
  match (ops[j]?).bind (·.dst) with
  | some t => match e t with
    | .bool b => some b
    | _ => none
  | none => none

theorem Fr.yielded {n : Nat} {e : Env} {a : Act} (h : Fr n e a) (ops : Array Oper) (j : Nat) : yielded ops a.tmps j = yieldE ops e j := by
  unfold Go.yielded yieldE
  cases (ops[j]?).bind (·.dst) with
  | none => rfl
  | some t =>
    simp only [Option.bind_some, ← h.get t, Array.getD_eq_getD_getElem?]
    cases a.tmps[t]? with
    | none => simp [undef]
    | some v => cases v <;> rfl

theorem wanted_congr (o : Oper) {f g : Nat → Option Bool} (h : ∀ j, f j = g j) : Region.wanted o f = Region.wanted o g := by
  have : f = g := funext h
  rw [this]

abbrev Post := Exit → Env → Hp → Prop
def calm : Exit → Prop
  | .panic _ | .outgrown => False
  | _ => True
def lift (w0 : World) (n : Nat) (Q : Post) : Exit → Act → World → Prop :=
  fun x a w => calm x ∧ ∃ e H, Fr n e a ∧ Own w0 H w ∧ Q x e H

section
variable {P : Program} {w0 : World} {n : Nat}

def AW (P : Program) (w0 : World) (n : Nat) (c : Code) (Q : Post) (e : Env) (H : Hp) : Prop :=
  ∀ a w, Fr n e a → Own w0 H w → c.wp P (lift w0 n Q) a w

def SeqP (P : Program) (w0 : World) (n : Nat) (y : Code) (Q : Post) : Post
  | .normal, e, H => AW P w0 n y Q e H
  | x, e, H => Q x e H
def BlockP (id : Nat) (Q : Post) : Post
  | .exit i, e, H => if i = id then Q .normal e H else Q (.exit i) e H
  | x, e, H => Q x e H

theorem AW.mono {c : Code} {Q Q' : Post} {e : Env} {H : Hp} (h : AW P w0 n c Q e H) (hq : ∀ x e H, Q x e H → Q' x e H) : AW P w0 n c Q' e H :=
  fun a w hf ho => wp_mono (h a w hf ho) fun _ _ _ ⟨hc, e, H, h1, h2, h3⟩ => ⟨hc, e, H, h1, h2, hq _ _ _ h3⟩

theorem AW.seq {x y : Code} {Q : Post} {e : Env} {H : Hp} (h : AW P w0 n x (SeqP P w0 n y Q) e H) : AW P w0 n (.seq x y) Q e H := by
  intro a w hf ho
  refine wp_seq (wp_mono (h a w hf ho) ?_)
  rintro ex a w ⟨hc, e, H, h1, h2, h3⟩
  cases ex <;> first | exact h3 a w h1 h2 | exact ⟨hc, e, H, h1, h2, h3⟩
theorem SeqP.go {y : Code} {Q : Post} {e : Env} {H : Hp} (h : AW P w0 n y Q e H) : SeqP P w0 n y Q .normal e H := h
theorem SeqP.ret {y : Code} {Q : Post} {e : Env} {H : Hp} (h : Q .ret e H) : SeqP P w0 n y Q .ret e H := h
theorem SeqP.exit {y : Code} {Q : Post} {e : Env} {H : Hp} {i : Nat} (h : Q (.exit i) e H) : SeqP P w0 n y Q (.exit i) e H := h
theorem BlockP.go {id : Nat} {Q : Post} {e : Env} {H : Hp} (h : Q .normal e H) : BlockP id Q .normal e H := h
theorem BlockP.ret {id : Nat} {Q : Post} {e : Env} {H : Hp} (h : Q .ret e H) : BlockP id Q .ret e H := h
theorem BlockP.here {id : Nat} {Q : Post} {e : Env} {H : Hp} (h : Q .normal e H) : BlockP id Q (.exit id) e H := by simp [BlockP, h]
theorem BlockP.far {id i : Nat} {Q : Post} {e : Env} {H : Hp} (hi : Nat.beq i id = false) (h : Q (.exit i) e H) : BlockP id Q (.exit i) e H := by
  have : i ≠ id := Nat.ne_of_beq_eq_false hi
  simp [BlockP, this, h]

theorem AW.block {id : Nat} {c : Code} {Q : Post} {e : Env} {H : Hp} (h : AW P w0 n c (BlockP id Q) e H) : AW P w0 n (.block id c) Q e H := by
  intro a w hf ho
  refine wp_block (wp_mono (h a w hf ho) ?_)
  rintro ex a w ⟨hc, e, H, h1, h2, h3⟩
  cases ex with
  | exit i =>
    simp only [BlockP] at h3
    simp only [Exit.inBlock]
    split <;> rename_i hi
    · rw [if_pos hi] at h3; exact ⟨trivial, e, H, h1, h2, h3⟩
    · rw [if_neg hi] at h3; exact ⟨trivial, e, H, h1, h2, h3⟩
  | _ => exact ⟨hc, e, H, h1, h2, h3⟩
theorem AW.skip {Q : Post} {e : Env} {H : Hp} (h : Q .normal e H) : AW P w0 n .skip Q e H := fun a w hf ho => wp_skip ⟨trivial, e, H, hf, ho, h⟩
theorem AW.exit {i : Nat} {Q : Post} {e : Env} {H : Hp} (h : Q (.exit i) e H) : AW P w0 n (.exit i) Q e H := fun a w hf ho => wp_exit ⟨trivial, e, H, hf, ho, h⟩
theorem AW.ret {Q : Post} {e : Env} {H : Hp} (h : Q .ret e H) : AW P w0 n .ret Q e H := fun a w hf ho => wp_ret ⟨trivial, e, H, hf, ho, h⟩
theorem AW.cond {c : Operand} {x y : Code} {Q : Post} {e : Env} {H : Hp} {t : Bool} (hc : D.ev e c = .bool t)
    (h1 : t = true → AW P w0 n x Q e H) (h2 : t = false → AW P w0 n y Q e H) : AW P w0 n (.cond c x y) Q e H := by
  intro a w hf ho
  refine wp_cond_split (t := t) (by rw [hf.ev, hc]) (fun h => h1 h a w hf ho) (fun h => h2 h a w hf ho)
theorem AW.cond2 {c : Operand} {x y : Code} {Q : Post} {e : Env} {H : Hp} {t : Bool} (hc : D.ev e c = .bool t)
    (h2 : t = false → AW P w0 n y Q e H) (h1 : t = true → AW P w0 n x Q e H) : AW P w0 n (.cond c x y) Q e H := AW.cond hc h1 h2
/-- Where two ways meet: what is known there. -/
def CutP (J : Env → Hp → Prop) (Q : Post) : Post
  | .normal, e, H => J e H
  | x, e, H => Q x e H
theorem CutP.go {J : Env → Hp → Prop} {Q : Post} {e : Env} {H : Hp} (h : J e H) : CutP J Q .normal e H := h
theorem CutP.ret {J : Env → Hp → Prop} {Q : Post} {e : Env} {H : Hp} (h : Q .ret e H) : CutP J Q .ret e H := h
theorem CutP.exit {J : Env → Hp → Prop} {Q : Post} {e : Env} {H : Hp} {i : Nat} (h : Q (.exit i) e H) : CutP J Q (.exit i) e H := h
theorem AW.cut {x y : Code} {Q : Post} {e : Env} {H : Hp} (J : Env → Hp → Prop) (h : AW P w0 n x (CutP J Q) e H) (hk : ∀ e H, J e H → AW P w0 n y Q e H) : AW P w0 n (.seq x y) Q e H :=
  AW.seq (h.mono fun ex e1 H1 hx => by cases ex <;> first | exact hk _ _ hx | exact hx)
theorem AW.condT {c : Operand} {x y : Code} {Q : Post} {e : Env} {H : Hp} (hc : D.ev e c = .bool true)
    (h1 : AW P w0 n x Q e H) : AW P w0 n (.cond c x y) Q e H := AW.cond hc (fun _ => h1) (fun h => by cases h)
theorem AW.condF {c : Operand} {x y : Code} {Q : Post} {e : Env} {H : Hp} (hc : D.ev e c = .bool false)
    (h1 : AW P w0 n y Q e H) : AW P w0 n (.cond c x y) Q e H := AW.cond hc (fun h => by cases h) (fun _ => h1)

/-- A loop: what holds at each round's head, and a number that each round lowers. -/
def LoopP (I : Nat → Env → Hp → Prop) (m : Nat) (Q : Post) : Post
  | .normal, e, H => ∃ m', m' < m ∧ I m' e H
  | x, e, H => Q x e H
theorem LoopP.ret {I : Nat → Env → Hp → Prop} {m : Nat} {Q : Post} {e : Env} {H : Hp} (h : Q .ret e H) : LoopP I m Q .ret e H := h
theorem LoopP.exit {I : Nat → Env → Hp → Prop} {m : Nat} {Q : Post} {e : Env} {H : Hp} {i : Nat} (h : Q (.exit i) e H) : LoopP I m Q (.exit i) e H := h
theorem LoopP.go {I : Nat → Env → Hp → Prop} {m : Nat} {Q : Post} {e : Env} {H : Hp} (m' : Nat) (hm : m' < m) (h : I m' e H) : LoopP I m Q .normal e H := ⟨m', hm, h⟩

theorem AW.loop {c : Code} {Q : Post} {e : Env} {H : Hp} (I : Nat → Env → Hp → Prop) (m : Nat) (h0 : I m e H)
    (round : ∀ m e H, I m e H → AW P w0 n c (LoopP I m Q) e H) : AW P w0 n (.loop c) Q e H := by
  intro a w hf ho
  intro b k cs
  have key : ∀ m e H a w, I m e H → Fr n e a → Own w0 H w →
      ∃ x a' w', lift w0 n Q x a' w' ∧ Arrives P (lone (b.at a (.code c :: .inLoop c :: k)) cs w) b k cs x a' w' := by
    intro m
    induction m using Nat.strongRecOn with
    | _ m ih =>
      intro e H a w hI hf ho
      obtain ⟨x, a1, w1, ⟨hc, e1, H1, f1, o1, q1⟩, harr⟩ := round m e H hI a w hf ho b (.inLoop c :: k) cs
      cases x with
      | normal =>
        obtain ⟨m', hm, hI1⟩ := q1
        obtain ⟨x2, a2, w2, q2, harr2⟩ := ih m' hm e1 H1 a1 w1 hI1 f1 o1
        exact ⟨x2, a2, w2, q2, .of_steps (Steps.trans harr (.one step_inLoop)) harr2⟩
      | exit id => exact ⟨_, a1, w1, ⟨hc, e1, H1, f1, o1, q1⟩, .pass (x := .inLoop c) rfl (fun _ _ => .inl (by simp)) harr⟩
      | goto l => exact ⟨_, a1, w1, ⟨hc, e1, H1, f1, o1, q1⟩, .pass (x := .inLoop c) rfl (fun _ _ => .inl (by simp)) harr⟩
      | ret => exact ⟨_, a1, w1, ⟨hc, e1, H1, f1, o1, q1⟩, .pass (x := .inLoop c) rfl (fun _ _ => .inl (by simp)) harr⟩
      | panic ch => exact ⟨_, a1, w1, ⟨hc, e1, H1, f1, o1, q1⟩, .pass (x := .inLoop c) rfl (fun _ _ => .inl (by simp)) harr⟩
      | outgrown => exact ⟨_, a1, w1, ⟨hc, e1, H1, f1, o1, q1⟩, .pass (x := .inLoop c) rfl (fun _ _ => .inl (by simp)) harr⟩
  obtain ⟨x, a', w', q, harr⟩ := key m e H a w h0 hf ho
  exact ⟨x, a', w', q, .of_steps (.one step_loop) harr⟩

/-! ### operations -/
/-- What one operation comes to, over whatever world owns H. -/
def Res (P : Program) (w0 : World) (R : Value → Hp → Prop) : Result Next → Prop
  | .ok (.value v) w' => ∃ H', Own w0 H' w' ∧ R v H'
  | .ok .skip w' => ∃ H', Own w0 H' w' ∧ R undef H'
  | .ok (.enter f args) w' => Calls P f args w' fun x w'' => ∃ v H', x = .returned v ∧ Own w0 H' w'' ∧ R v H'
  | _ => False
def OpR (P : Program) (w0 : World) (ρ : Operand → Value) (o : Oper) (H : Hp) (R : Value → Hp → Prop) : Prop :=
  ∀ w, Own w0 H w → Res P w0 R ((execOp ρ o).run P w)

theorem OpR.mono {ρ : Operand → Value} {o : Oper} {H : Hp} {R R' : Value → Hp → Prop} (h : OpR P w0 ρ o H R) (hr : ∀ v H', R v H' → R' v H') : OpR P w0 ρ o H R' := by
  intro w ho
  have h1 := h w ho
  generalize (execOp ρ o).run P w = r at h1
  cases r with
  | halt => exact h1.elim
  | ok nx w' =>
    cases nx <;> simp only [Res] at h1 ⊢
    case value v => obtain ⟨H', ho', hr'⟩ := h1; exact ⟨H', ho', hr _ _ hr'⟩
    case skip => obtain ⟨H', ho', hr'⟩ := h1; exact ⟨H', ho', hr _ _ hr'⟩
    case enter f args => exact Calls.mono h1 fun x w'' ⟨v, H', h2, h3, h4⟩ => ⟨v, H', h2, h3, hr _ _ h4⟩

def OpsW (P : Program) (w0 : World) (n : Nat) (ops : Array Oper) (Q : Post) (l : List Oper) (e : Env) (H : Hp) : Prop :=
  ∀ a w, Fr n e a → Own w0 H w → wpList P ops (lift w0 n Q) l a w

theorem AW.region {id : Nat} {l : List Oper} {Q : Post} {e : Env} {H : Hp} (h : OpsW P w0 n l.toArray Q l e H) : AW P w0 n (.region id l.toArray false) Q e H :=
  fun a w hf ho => wp_region_lit (h a w hf ho)

theorem OpsW.nil {ops : Array Oper} {Q : Post} {e : Env} {H : Hp} (h : Q .normal e H) : OpsW P w0 n ops Q [] e H := fun a w hf ho => wpList_nil ⟨trivial, e, H, hf, ho, h⟩

theorem Res.wp {ops : Array Oper} {Q : Post} {e : Env} {H : Hp} {o : Oper} {R : Value → Hp → Prop} {a : Act} {w : World} {K : Act → World → Prop}
    (hf : Fr n e a) (ho : Own w0 H w) (h : OpR P w0 (D.ev e) o H R) (hk : ∀ v H' w', R v H' → Own w0 H' w' → K (a.put o.dst v) w') {Q' : Exit → Act → World → Prop} : o.wp P a w K Q' := by
  have he : a.eval = D.ev e := funext hf.ev
  have h1 := h w ho
  unfold Oper.wp
  rw [he]
  generalize (execOp (D.ev e) o).run P w = r at h1
  cases r with
  | halt => exact h1.elim
  | ok nx w' =>
    cases nx <;> simp only [Res] at h1
    case value v => obtain ⟨H', ho', hr⟩ := h1; exact hk v H' w' hr ho'
    case skip => obtain ⟨H', ho', hr⟩ := h1; exact hk undef H' w' hr ho'
    case enter f args =>
      refine Calls.mono h1 fun x w'' hx => ?_
      obtain ⟨v, H', rfl, ho', hr⟩ := hx
      exact hk v H' w'' hr ho'

theorem OpsW.op0 {ops : Array Oper} {Q : Post} {e : Env} {H : Hp} {o : Oper} {l : List Oper} {R : Value → Hp → Prop} (hg : Region.wanted o (yieldE ops e) = true)
    (hd : dstOk n o.dst = true) (h : OpR P w0 (D.ev e) o H R) (hk : ∀ v H', R v H' → OpsW P w0 n ops Q l (putE e o.dst v) H') : OpsW P w0 n ops Q (o :: l) e H := by
  intro a w hf ho
  refine wpList_step fun K hK => ?_
  rw [wanted_congr o (hf.yielded ops), hg, if_pos rfl]
  exact Res.wp (ops := ops) (Q := Q) hf ho h fun v H' w' hr ho' => hK _ _ (hk v H' hr _ _ (hf.put hd v) ho')
theorem OpsW.pass0 {ops : Array Oper} {Q : Post} {e : Env} {H : Hp} {o : Oper} {l : List Oper} (hg : Region.wanted o (yieldE ops e) = false)
    (hd : dstOk n o.dst = true) (hk : OpsW P w0 n ops Q l (putE e o.dst undef) H) : OpsW P w0 n ops Q (o :: l) e H := by
  intro a w hf ho
  refine wpList_step fun K hK => ?_
  rw [wanted_congr o (hf.yielded ops), hg, if_neg (by simp)]
  exact hK _ _ (hk _ _ (hf.put hd undef) ho)

/-- An operation that yields v, and leaves what is owned as it is. -/
abbrev QS (P : Program) (w0 : World) (ρ : Operand → Value) (o : Oper) (H : Hp) (v : Value) : Prop := OpR P w0 ρ o H fun u H' => u = v ∧ H' = H
section
variable {ops : Array Oper} {Q : Post} {e : Env} {H : Hp} {t : Tmp} {op : Op} {ty : TypeId} {pos : String} {af : Array Edge} {l : List Oper} {v : Value} {R : Value → Hp → Prop} {j : Nat} {b : Bool} {H1 : Hp}
theorem dst_lt (h : Nat.blt t n = true) : dstOk n (some t) = true := by simpa [dstOk, Nat.blt, Nat.succ_le_iff] using h
/-- q: yields; s: stores (no slot); n: yields something of which R is known; qw, sw, nw: likewise, its guard says yes; p: its guard says no. -/
theorem OpsW.m (hd : Nat.blt t n = true) (h : OpR P w0 (D.ev e) ⟨some t, op, ty, pos, af, none⟩ H R) (hk : ∀ v H', R v H' → OpsW P w0 n ops Q l (upd e t v) H') :
    OpsW P w0 n ops Q (⟨some t, op, ty, pos, af, none⟩ :: l) e H := OpsW.op0 rfl (dst_lt hd) h hk
theorem OpsW.q (hd : Nat.blt t n = true) (h : QS P w0 (D.ev e) ⟨some t, op, ty, pos, af, none⟩ H v) (hk : OpsW P w0 n ops Q l (upd e t v) H) :
    OpsW P w0 n ops Q (⟨some t, op, ty, pos, af, none⟩ :: l) e H := OpsW.op0 rfl (dst_lt hd) h (by rintro _ _ ⟨rfl, rfl⟩; exact hk)
/-- x: something with a known yield and a known state behind it. -/
theorem OpsW.x (hd : Nat.blt t n = true) (h : OpR P w0 (D.ev e) ⟨some t, op, ty, pos, af, none⟩ H fun u H' => u = v ∧ H' = H1) (hk : OpsW P w0 n ops Q l (upd e t v) H1) :
    OpsW P w0 n ops Q (⟨some t, op, ty, pos, af, none⟩ :: l) e H := OpsW.op0 rfl (dst_lt hd) h (by rintro _ _ ⟨rfl, rfl⟩; exact hk)
theorem OpsW.xw (hg : yieldE ops e j = some b) (hd : Nat.blt t n = true) (h : OpR P w0 (D.ev e) ⟨some t, op, ty, pos, af, some (j, b)⟩ H fun u H' => u = v ∧ H' = H1) (hk : OpsW P w0 n ops Q l (upd e t v) H1) :
    OpsW P w0 n ops Q (⟨some t, op, ty, pos, af, some (j, b)⟩ :: l) e H := OpsW.op0 (by simp [Region.wanted, hg]) (dst_lt hd) h (by rintro _ _ ⟨rfl, rfl⟩; exact hk)
theorem OpsW.s (h : OpR P w0 (D.ev e) ⟨none, op, ty, pos, af, none⟩ H fun u H' => u = undef ∧ H' = H1) (hk : OpsW P w0 n ops Q l e H1) :
    OpsW P w0 n ops Q (⟨none, op, ty, pos, af, none⟩ :: l) e H := OpsW.op0 rfl rfl h (by rintro _ _ ⟨rfl, rfl⟩; exact hk)
theorem OpsW.ms (h : OpR P w0 (D.ev e) ⟨none, op, ty, pos, af, none⟩ H R) (hk : ∀ v H', R v H' → OpsW P w0 n ops Q l e H') :
    OpsW P w0 n ops Q (⟨none, op, ty, pos, af, none⟩ :: l) e H := OpsW.op0 rfl rfl h hk
theorem OpsW.mw (hg : yieldE ops e j = some b) (hd : Nat.blt t n = true) (h : OpR P w0 (D.ev e) ⟨some t, op, ty, pos, af, some (j, b)⟩ H R) (hk : ∀ v H', R v H' → OpsW P w0 n ops Q l (upd e t v) H') :
    OpsW P w0 n ops Q (⟨some t, op, ty, pos, af, some (j, b)⟩ :: l) e H := OpsW.op0 (by simp [Region.wanted, hg]) (dst_lt hd) h hk
theorem OpsW.qw (hg : yieldE ops e j = some b) (hd : Nat.blt t n = true) (h : QS P w0 (D.ev e) ⟨some t, op, ty, pos, af, some (j, b)⟩ H v) (hk : OpsW P w0 n ops Q l (upd e t v) H) :
    OpsW P w0 n ops Q (⟨some t, op, ty, pos, af, some (j, b)⟩ :: l) e H := OpsW.op0 (by simp [Region.wanted, hg]) (dst_lt hd) h (by rintro _ _ ⟨rfl, rfl⟩; exact hk)
theorem OpsW.p (hg : yieldE ops e j = some !b) (hd : Nat.blt t n = true) (hk : OpsW P w0 n ops Q l (upd e t undef) H) :
    OpsW P w0 n ops Q (⟨some t, op, ty, pos, af, some (j, b)⟩ :: l) e H := OpsW.pass0 (by simp [Region.wanted, hg]) (dst_lt hd) hk
/-- The guarding operation was itself passed over. -/
theorem OpsW.pu (hg : yieldE ops e j = none) (hd : Nat.blt t n = true) (hk : OpsW P w0 n ops Q l (upd e t undef) H) :
    OpsW P w0 n ops Q (⟨some t, op, ty, pos, af, some (j, b)⟩ :: l) e H := OpsW.pass0 (by simp [Region.wanted, hg]) (dst_lt hd) hk
end

/-! ### contracts -/
def Con (P : Program) (w0 : World) (f : FuncId) (args : Array Value) (H : Hp) (R : Value → Hp → Prop) : Prop :=
  ∀ w, Own w0 H w → Calls P f args w fun x w' => ∃ v H', x = .returned v ∧ Own w0 H' w' ∧ R v H'
theorem Con.mono {f : FuncId} {args : Array Value} {H : Hp} {R R' : Value → Hp → Prop} (h : Con P w0 f args H R) (hr : ∀ v H', R v H' → R' v H') : Con P w0 f args H R' :=
  fun w ho => Calls.mono (h w ho) fun _ _ ⟨v, H', h1, h2, h3⟩ => ⟨v, H', h1, h2, hr _ _ h3⟩

theorem Own.drop {H H' : Hp} {w : World} (h : Own w0 H' w) (hl : H.le H') : Own w0 H w := ⟨h.below, fun b o hb => h.fits b o (hl b o hb)⟩

end
end Go.Proofs.Ytfiojlmccflplaa.D
