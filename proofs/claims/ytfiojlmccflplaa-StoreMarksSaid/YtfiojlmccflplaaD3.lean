/-
  A walk's rules: regions that draw their order: the look at them. No condition.
-/
import Derived.Test.YtfiojlmccflplaaD2
/-! A region that draws its order: whatever the order, the first k operations yield the same, and the others stand behind them. -/
namespace Go.Proofs.Ytfiojlmccflplaa.D
open Go Go.RowKit
set_option linter.unusedVariables false
set_option linter.unusedSimpArgs false
section
variable {P : Program} {w0 : World} {n : Nat} {H : Hp}

/-- In the text's order, operation by operation. -/
def QG (P : Program) (w0 : World) (n : Nat) (ops : Array Oper) (H : Hp) (e : Env) (o : Oper) (v : Value) : Prop :=
  dstOk n o.dst = true ∧ ((Region.wanted o (yieldE ops e) = true ∧ QS P w0 (ev e) o H v) ∨ (Region.wanted o (yieldE ops e) = false ∧ v = undef))
def SeqQ (P : Program) (w0 : World) (n : Nat) (ops : Array Oper) (H : Hp) : List Oper → Env → (Env → Prop) → Prop
  | [], e, K => K e
  | o :: l, e, K => ∃ v, QG P w0 n ops H e o v ∧ SeqQ P w0 n ops H l (putE e o.dst v) K
theorem SeqQ.nil {ops : Array Oper} {e : Env} {K : Env → Prop} (h : K e) : SeqQ P w0 n ops H [] e K := h
def envAt (l : List Oper) (vals : Nat → Value) (e : Env) : Nat → Env
  | 0 => e
  | i + 1 => putE (envAt l vals e i) ((l[i]?).bind (·.dst)) (vals i)

theorem envAt_shift (o : Oper) (l : List Oper) (vals : Nat → Value) (e : Env) (i : Nat) :
    envAt (o :: l) vals e (i + 1) = envAt l (fun j => vals (j + 1)) (putE e o.dst (vals 0)) i := by
  induction i with
  | zero => rfl
  | succ i ih => rw [envAt, ih]; simp [envAt]

theorem SeqQ.vals {ops : Array Oper} : ∀ {l : List Oper} {e : Env} {K : Env → Prop}, SeqQ P w0 n ops H l e K →
    ∃ vals : Nat → Value, (∀ i o, l[i]? = some o → QG P w0 n ops H (envAt l vals e i) o (vals i)) ∧ K (envAt l vals e l.length) := by
  intro l
  induction l with
  | nil => intro e K h; exact ⟨fun _ => undef, by simp, h⟩
  | cons o l ih =>
    intro e K ⟨v, hq, h⟩
    obtain ⟨vals, h1, h2⟩ := ih h
    refine ⟨fun i => match i with | 0 => v | i + 1 => vals i, ?_, ?_⟩
    · intro i o' hi
      cases i with
      | zero => simp at hi; subst hi; exact hq
      | succ i => simp at hi; rw [envAt_shift]; exact h1 i o' hi
    · rw [List.length_cons, envAt_shift]; exact h2

/-! the look at a region -/
def edge (ops : Array Oper) (i j : Nat) : Bool := match ops[i]? with
  | some o => o.after.any fun e => e.on == j && Region.binds .any e
  | none => false
def reach (ops : Array Oper) : Nat → Nat → Nat → Bool
  | 0, _, _ => false
  | f + 1, i, j => edge ops i j || (match ops[i]? with
    | some o => o.after.any fun e => Region.binds .any e && (decide (j < e.on) && reach ops f e.on j)
    | none => false)
def dstAt (ops : Array Oper) (i : Nat) : Option Tmp := (ops[i]?).bind (·.dst)
def looks (ops : Array Oper) (i : Nat) : List Tmp := match ops[i]? with
  | some o => o.looksAt ops
  | none => []
def isSelect : Op → Bool
  | .select _ _ => true
  | _ => false
def isMove (o : Oper) : Bool := match o.op with
  | .move _ => o.guard.isNone
  | _ => false
/-- Moves that may be carried out first. -/
def takeOk (ops : Array Oper) : List Nat → Array Bool → Bool
  | [], _ => true
  | i :: F, listed => (Region.ready .any ops listed).contains i && Region.free .any ops listed i && (match ops[i]? with | some o => isMove o | none => false) && takeOk ops F (listed.setIfInBounds i true)
/-- A plain move that stands behind, and may be carried out first; none, if there are not so many operations. -/
def isConst (o : Oper) : Bool := match o.op with
  | .move _ => o.guard.isNone
  | _ => false
def floatOk (ops : Array Oper) (k f : Nat) : Bool := match ops[f]? with
  | none => true
  | some o => decide (k ≤ f) && isConst o && (match o.dst with
    | some t => (List.range k).all fun i => dstAt ops i != some t && !(looks ops i).contains t
    | none => false)
def firsts (ops : Array Oper) (F : List Nat) (f : Nat) : List Nat := bif Nat.blt f ops.size then f :: F else F
def drawOk (ops : Array Oper) (F : List Nat) (k f : Nat) : Bool :=
  decide (k ≤ ops.size) && Region.noSelect ops && takeOk ops (firsts ops F f) (Array.replicate ops.size false) && (F.all fun i => decide (i < k)) && floatOk ops k f &&
  ((List.range ops.size).all fun i => match ops[i]? with
    | some o => (o.after.all fun e => !Region.binds .any e || decide (e.on < i)) && !isSelect o.op
    | none => false) &&
  ((List.range k).all fun i => ((looks ops i).all fun t => (List.range k).all fun j => dstAt ops j != some t || (j != i && edge ops i j)) &&
    (List.range k).all fun j => j == i || dstAt ops j == none || dstAt ops j != dstAt ops i) &&
  ((List.range ops.size).all fun i => decide (i < k) || i == f || (List.range i).all fun j => j == f || F.contains j || reach ops 16 i j)

def Shut (ops : Array Oper) (listed : Array Bool) : Prop :=
  ∀ i o, ops[i]? = some o → listed.getD i true = true → ∀ e ∈ o.after.toList, Region.binds .any e = true → listed.getD e.on false = true

theorem Shut.edge {ops : Array Oper} {listed : Array Bool} (h : Shut ops listed) {i j : Nat} (hi : listed.getD i true = true) (he : edge ops i j = true) : listed.getD j false = true := by
  unfold D.edge at he
  cases ho : ops[i]? with
  | none => simp [ho] at he
  | some o =>
    simp only [ho, Array.any_eq_true, Bool.and_eq_true, beq_iff_eq] at he
    obtain ⟨m, hm, rfl, hb⟩ := he
    exact h i o ho hi _ (by simp) hb

/-- All that a ready operation waits for is listed. -/
def Waits (ops : Array Oper) (listed : Array Bool) (i : Nat) : Prop := ∀ o, ops[i]? = some o → ∀ e ∈ o.after.toList, Region.binds .any e = true → listed.getD e.on false = true
theorem Waits.edge {ops : Array Oper} {listed : Array Bool} {i j : Nat} (h : Waits ops listed i) (he : edge ops i j = true) : listed.getD j false = true := by
  unfold D.edge at he
  cases ho : ops[i]? with
  | none => simp [ho] at he
  | some o =>
    simp only [ho, Array.any_eq_true, Bool.and_eq_true, beq_iff_eq] at he
    obtain ⟨m, hm, rfl, hb⟩ := he
    exact h o ho _ (by simp) hb
theorem getD_true {listed : Array Bool} {j : Nat} (h : listed.getD j false = true) : listed.getD j true = true := by
  simp only [Array.getD_eq_getD_getElem?] at *
  cases hj : listed[j]? with
  | none => simp [hj] at h
  | some b => simp [hj] at h ⊢; exact h
theorem Shut.reach {ops : Array Oper} {listed : Array Bool} (hs : Shut ops listed) : ∀ f i j, Waits ops listed i → reach ops f i j = true → listed.getD j false = true := by
  intro f
  induction f with
  | zero => intro i j _ h; simp [D.reach] at h
  | succ f ih =>
    intro i j hw h
    simp only [D.reach, Bool.or_eq_true] at h
    rcases h with h | h
    · exact hw.edge h
    · cases ho : ops[i]? with
      | none => simp [ho] at h
      | some o =>
        simp only [ho, Array.any_eq_true, Bool.and_eq_true] at h
        obtain ⟨m, hm, hb, _, hr⟩ := h
        have hl := hw o ho o.after[m] (by simp) hb
        exact ih _ j (fun o' ho' e he hb' => hs _ o' ho' (getD_true hl) e he hb') hr

/-- The operations from place i on, but for the one at f. -/
def tl (f : Nat) : Nat → List Oper → List Oper
  | _, [] => []
  | i, o :: l => bif Nat.beq i f then tl f (i + 1) l else o :: tl f (i + 1) l
theorem tl_none {f : Nat} : ∀ {l : List Oper} {i : Nat}, i + l.length ≤ f → tl f i l = l := by
  intro l
  induction l with
  | nil => intro i _; rfl
  | cons o l ih =>
    intro i h
    simp only [List.length_cons] at h
    have : Nat.beq i f = false := by
      cases hh : Nat.beq i f with
      | false => rfl
      | true => have := Nat.eq_of_beq_eq_true hh; omega
    rw [tl, this, cond_false, ih (by omega)]
theorem mem_ready {ops : Array Oper} {listed : Array Bool} {i : Nat} : i ∈ Region.ready .any ops listed ↔ i < ops.size ∧ listed.getD i true = false ∧ Waits ops listed i := by
  unfold Region.ready Waits
  simp only [List.mem_filter, List.mem_range, Bool.and_eq_true, Bool.not_eq_true']
  constructor
  · rintro ⟨hi, hl, hw⟩
    refine ⟨hi, hl, ?_⟩
    intro o ho e he hb
    simp only [ho, Option.map_some, Option.getD_some, Array.all_eq_true] at hw
    obtain ⟨m, hm, rfl⟩ := Array.getElem_of_mem (Array.mem_toList_iff.1 he)
    have := hw m hm
    simpa [hb] using this
  · rintro ⟨hi, hl, hw⟩
    refine ⟨hi, hl, ?_⟩
    have ho : ops[i]? = some ops[i] := Array.getElem?_eq_getElem hi
    simp only [ho, Option.map_some, Option.getD_some, Array.all_eq_true]
    intro m hm
    cases hb : Region.binds .any ops[i].after[m] with
    | false => simp
    | true => simp [hw _ ho ops[i].after[m] (by simp) hb]
end
end Go.Proofs.Ytfiojlmccflplaa.D
