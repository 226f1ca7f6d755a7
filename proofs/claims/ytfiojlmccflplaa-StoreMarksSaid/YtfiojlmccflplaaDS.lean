/-
  A walk's rules: what is owned, as a list of pieces that lie apart. No condition.
-/
import Derived.Test.YtfiojlmccflplaaDV
import Derived.Test.YtfiojlmccflplaaDE
/-! Pieces of what is owned, each apart from the others; beside them what was owned before. -/
namespace Go.Proofs.Ytfiojlmccflplaa.D
open Go Go.RowKit
set_option linter.unusedVariables false
set_option linter.unusedSimpArgs false

theorem fst_of {α β : Type} {p : α × β} {a : α} {b : β} (h : p = (a, b)) : p.1 = a := by rw [h]
theorem snd_of {α β : Type} {p : α × β} {a : α} {b : β} (h : p = (a, b)) : p.2 = b := by rw [h]
abbrev emp : Hp := fun _ => none
def single (b : Nat) (o : Blk) : Hp := fun c => if c = b then some o else none
def hor (h1 h2 : Hp) : Hp := fun b => match h1 b with
  | some o => some o
  | none => h2 b
def Apart (h1 h2 : Hp) : Prop := ∀ b, h1 b = none ∨ h2 b = none
theorem Apart.symm {h1 h2 : Hp} (h : Apart h1 h2) : Apart h2 h1 := fun b => (h b).symm
theorem Apart.le {h1 h2 g1 g2 : Hp} (h : Apart h1 h2) (k1 : g1.le h1) (k2 : g2.le h2) : Apart g1 g2 := fun b =>
  (h b).imp (fun e => Hp.le_none k1 e) (fun e => Hp.le_none k2 e)
theorem le_hor_l {h1 h2 : Hp} : h1.le (hor h1 h2) := fun b o h => by simp [hor, h]
theorem le_hor_r {h1 h2 : Hp} (ha : Apart h1 h2) : h2.le (hor h1 h2) := fun b o h => by
  rcases ha b with e | e
  · simp [hor, e, h]
  · rw [e] at h; cases h
theorem hor_le {h1 h2 H : Hp} (k1 : h1.le H) (k2 : h2.le H) : (hor h1 h2).le H := fun b o h => by
  unfold hor at h
  cases e : h1 b with
  | none => simp [e] at h; exact k2 b o h
  | some q => simp [e] at h; subst h; exact k1 b q e
theorem Apart.hor_l {h1 h2 g : Hp} (k1 : Apart h1 g) (k2 : Apart h2 g) : Apart (hor h1 h2) g := fun b => by
  rcases k1 b with e | e
  · rcases k2 b with e' | e'
    · exact .inl (by simp [hor, e, e'])
    · exact .inr e'
  · exact .inr e
theorem Apart.of_hor {h1 h2 g : Hp} (k : Apart g (hor h1 h2)) (ha : Apart h1 h2) : Apart g h1 ∧ Apart g h2 :=
  ⟨k.le (Hp.le_refl _) le_hor_l, k.le (Hp.le_refl _) (le_hor_r ha)⟩

inductive Chunk
  | blk (b : Nat) (o : Blk)
  | vec (v : Value) (el : TypeId) (sz n : Nat) (cs : List Value)
  | pred (A : Hp → Prop)
def Chunk.den : Chunk → Hp → Prop
  | .blk b o, h => h b = some o
  | .vec v el sz n cs, h => Vec h el sz v n cs
  | .pred A, h => ∃ g : Hp, g.le h ∧ A g
theorem Chunk.den_mono {c : Chunk} {h h' : Hp} (hc : c.den h) (hl : h.le h') : c.den h' := by
  cases c with
  | blk b o => exact hl b o hc
  | vec v el sz n cs => exact Vec.le hc hl
  | pred A => obtain ⟨g, h1, h2⟩ := hc; exact ⟨g, Hp.le_trans h1 hl, h2⟩
/-- H owns H0 and, apart from it and from each other, the pieces of L (and perhaps more). -/
def Sep (H0 : Hp) : List Chunk → Hp → Prop
  | [], H => H0.le H
  | c :: L, H => ∃ h1 h2 : Hp, Apart h1 h2 ∧ h1.le H ∧ h2.le H ∧ c.den h1 ∧ Sep H0 L h2
/-- L has c at a place, and F c' is L with c' there. -/
inductive At : List Chunk → Chunk → (Chunk → List Chunk) → Prop
  | z {c : Chunk} {L : List Chunk} : At (c :: L) c (fun c' => c' :: L)
  | s {c d : Chunk} {L : List Chunk} {F : Chunk → List Chunk} : At L c F → At (d :: L) c (fun c' => d :: F c')
inductive Del : List Chunk → Chunk → List Chunk → Prop
  | z {c : Chunk} {L : List Chunk} : Del (c :: L) c L
  | s {c d : Chunk} {L L' : List Chunk} : Del L c L' → Del (d :: L) c (d :: L')
section
variable {c0 c1 c2 c3 c4 c5 c6 c7 c8 c9 c : Chunk} {L : List Chunk}
theorem at0 : At (c :: L) c (fun d => d :: L) := .z
theorem at1 : At (c0 :: c :: L) c (fun d => c0 :: d :: L) := .s .z
theorem at2 : At (c0 :: c1 :: c :: L) c (fun d => c0 :: c1 :: d :: L) := .s (.s .z)
theorem at3 : At (c0 :: c1 :: c2 :: c :: L) c (fun d => c0 :: c1 :: c2 :: d :: L) := .s at2
theorem at4 : At (c0 :: c1 :: c2 :: c3 :: c :: L) c (fun d => c0 :: c1 :: c2 :: c3 :: d :: L) := .s at3
theorem at5 : At (c0 :: c1 :: c2 :: c3 :: c4 :: c :: L) c (fun d => c0 :: c1 :: c2 :: c3 :: c4 :: d :: L) := .s at4
theorem at6 : At (c0 :: c1 :: c2 :: c3 :: c4 :: c5 :: c :: L) c (fun d => c0 :: c1 :: c2 :: c3 :: c4 :: c5 :: d :: L) := .s at5
theorem at7 : At (c0 :: c1 :: c2 :: c3 :: c4 :: c5 :: c6 :: c :: L) c (fun d => c0 :: c1 :: c2 :: c3 :: c4 :: c5 :: c6 :: d :: L) := .s at6
theorem at8 : At (c0 :: c1 :: c2 :: c3 :: c4 :: c5 :: c6 :: c7 :: c :: L) c (fun d => c0 :: c1 :: c2 :: c3 :: c4 :: c5 :: c6 :: c7 :: d :: L) := .s at7
theorem at9 : At (c0 :: c1 :: c2 :: c3 :: c4 :: c5 :: c6 :: c7 :: c8 :: c :: L) c (fun d => c0 :: c1 :: c2 :: c3 :: c4 :: c5 :: c6 :: c7 :: c8 :: d :: L) := .s at8
theorem del0 : Del (c :: L) c L := .z
theorem del1 : Del (c0 :: c :: L) c (c0 :: L) := .s .z
theorem del2 : Del (c0 :: c1 :: c :: L) c (c0 :: c1 :: L) := .s del1
theorem del3 : Del (c0 :: c1 :: c2 :: c :: L) c (c0 :: c1 :: c2 :: L) := .s del2
theorem del4 : Del (c0 :: c1 :: c2 :: c3 :: c :: L) c (c0 :: c1 :: c2 :: c3 :: L) := .s del3
theorem del5 : Del (c0 :: c1 :: c2 :: c3 :: c4 :: c :: L) c (c0 :: c1 :: c2 :: c3 :: c4 :: L) := .s del4
theorem del6 : Del (c0 :: c1 :: c2 :: c3 :: c4 :: c5 :: c :: L) c (c0 :: c1 :: c2 :: c3 :: c4 :: c5 :: L) := .s del5
theorem del7 : Del (c0 :: c1 :: c2 :: c3 :: c4 :: c5 :: c6 :: c :: L) c (c0 :: c1 :: c2 :: c3 :: c4 :: c5 :: c6 :: L) := .s del6
theorem del8 : Del (c0 :: c1 :: c2 :: c3 :: c4 :: c5 :: c6 :: c7 :: c :: L) c (c0 :: c1 :: c2 :: c3 :: c4 :: c5 :: c6 :: c7 :: L) := .s del7
end
section
variable {H0 H H' : Hp} {L L' K : List Chunk} {c : Chunk} {F : Chunk → List Chunk}
theorem Sep.refl : Sep H [] H := Hp.le_refl _
theorem Sep.le : ∀ {L : List Chunk} {H : Hp}, Sep H0 L H → H0.le H := by
  intro L
  induction L with
  | nil => intro H h; exact h
  | cons c L ih => intro H ⟨h1, h2, _, _, hl, _, h⟩; exact Hp.le_trans (ih h) hl
theorem Sep.mono (h : Sep H0 L H) (hl : H.le H') : Sep H0 L H' := by
  cases L with
  | nil => exact Hp.le_trans h hl
  | cons c L => obtain ⟨h1, h2, a, b, d, e⟩ := h; exact ⟨h1, h2, a, Hp.le_trans b hl, Hp.le_trans d hl, e⟩
theorem Sep.frame (hA : At L c F) : ∀ {H : Hp}, Sep H0 L H → ∃ h1 h2 : Hp, Apart h1 h2 ∧ h1.le H ∧ h2.le H ∧ c.den h1 ∧ H0.le h2 ∧
    ∀ (c' : Chunk) (h1' H' : Hp), Apart h1' h2 → h1'.le H' → h2.le H' → c'.den h1' → Sep H0 (F c') H' := by
  induction hA with
  | z =>
    intro H ⟨h1, h2, a, b, d, e, f⟩
    exact ⟨h1, h2, a, b, d, e, f.le, fun c' h1' H' q1 q2 q3 q4 => ⟨h1', h2, q1, q2, q3, q4, f⟩⟩
  | s _ ih =>
    intro H ⟨g1, g2, a, b, d, e, f⟩
    obtain ⟨h1, h2, i1, i2, i3, i4, i5, i6⟩ := ih f
    have ag1 : Apart g1 h1 := a.le (Hp.le_refl _) i2
    have ag2 : Apart g1 h2 := a.le (Hp.le_refl _) i3
    refine ⟨h1, hor g1 h2, (Apart.hor_l ag1 i1.symm).symm, Hp.le_trans i2 d, hor_le b (Hp.le_trans i3 d), i4, Hp.le_trans i5 (le_hor_r ag2), ?_⟩
    intro c' h1' H' q1 q2 q3 q4
    obtain ⟨r1, r2⟩ := q1.of_hor ag2
    have hg : Apart g1 (hor h1' h2) := (Apart.hor_l r1 ag2.symm).symm
    exact ⟨g1, hor h1' h2, hg, Hp.le_trans le_hor_l q3, hor_le q2 (Hp.le_trans (le_hor_r ag2) q3), e, i6 c' h1' _ r2 le_hor_l (le_hor_r r2) q4⟩
theorem Sep.get (h : Sep H0 L H) (hA : At L c F) : c.den H := by
  obtain ⟨h1, h2, _, b, _, e, _⟩ := Sep.frame hA h
  exact Chunk.den_mono e b
theorem Sep.blk {b : Nat} {o : Blk} (h : Sep H0 L H) (hA : At L (.blk b o) F) : H b = some o := h.get hA
theorem Sep.vec {v : Value} {el : TypeId} {sz n : Nat} {cs : List Value} (h : Sep H0 L H) (hA : At L (.vec v el sz n cs) F) : Vec H el sz v n cs := h.get hA
theorem Sep.old {b : Nat} {o : Blk} (h : Sep H0 L H) (hb : H0 b = some o) : H b = some o := h.le b o hb
/-- One piece alone, all others in the frame. -/
theorem Sep.framed (h : Sep H0 L H) (hA : At L c F) : ∃ Hf : Hp, H0.le Hf ∧ Sep Hf [c] H ∧ ∀ (c' : Chunk) (H' : Hp), Sep Hf [c'] H' → Sep H0 (F c') H' := by
  obtain ⟨h1, h2, a, b, d, e, f, g⟩ := Sep.frame hA h
  exact ⟨h2, f, ⟨h1, h2, a, b, d, e, Hp.le_refl _⟩, fun c' H' ⟨g1, g2, q1, q2, q3, q4, q5⟩ => g c' g1 H' (q1.le (Hp.le_refl _) q5) q2 (Hp.le_trans q5 q3) q4⟩
theorem Sep.set {b : Nat} {o o' : Blk} (h : Sep H0 L H) (hA : At L (.blk b o) F) : Sep H0 (F (.blk b o')) (H.set b o') := by
  obtain ⟨h1, h2, a, hb, d, e, f, g⟩ := Sep.frame hA h
  have h2b : h2 b = none := (a b).resolve_left (by rw [show h1 b = some o from e]; simp)
  refine g (.blk b o') (single b o') _ ?_ ?_ ?_ ?_
  · intro x
    by_cases hx : x = b
    · subst hx; exact .inr h2b
    · exact .inl (by simp [single, hx])
  · intro x q hq
    by_cases hx : x = b
    · subst hx; simp [single] at hq; subst hq; exact Hp.set_self
    · simp [single, hx] at hq
  · intro x q hq
    have hx : x ≠ b := by rintro rfl; rw [h2b] at hq; cases hq
    rw [Hp.set_ne hx]; exact d x q hq
  · exact if_pos rfl
theorem Sep.new {b : Nat} {o : Blk} (h : Sep H0 L H) (hb : H b = none) : Sep H0 (.blk b o :: L) (H.set b o) := by
  refine ⟨single b o, H, ?_, ?_, Hp.le_set hb (Hp.le_refl _), if_pos rfl, h⟩
  · intro x
    by_cases hx : x = b
    · subst hx; exact .inr hb
    · exact .inl (by simp [single, hx])
  · intro x q hq
    by_cases hx : x = b
    · subst hx; simp [single] at hq; subst hq; exact Hp.set_self
    · simp [single, hx] at hq
theorem Sep.nil {el : TypeId} {sz : Nat} (h : Sep H0 L H) : Sep H0 (.vec nilV el sz 0 [] :: L) H :=
  ⟨emp, H, fun _ => .inl rfl, fun _ _ e => by simp [emp] at e, Hp.le_refl _, .inl ⟨rfl, rfl, rfl⟩, h⟩
theorem Sep.asVec {b n cap s : Nat} {el : TypeId} {sz : Nat} {cs cs' : List Value} (h : Sep H0 (.blk b ⟨cs', s, el⟩ :: L) H) (h1 : cs'.take (n * sz) = cs) (h2 : cs.length = n * sz) (h3 : n ≤ cap) (h4 : cap * sz ≤ s) (h5 : cap ≤ maxLen) :
    Sep H0 (.vec (.slice (some ⟨b, 0, none⟩) n cap) el sz n cs :: L) H := by
  obtain ⟨g1, g2, a, b', d, e, f⟩ := h
  exact ⟨g1, g2, a, b', d, .inr ⟨b, cap, _, rfl, e, rfl, h1, h2, h3, h4, h5⟩, f⟩
theorem Sep.bring (hD : Del L c L') : ∀ {H : Hp}, Sep H0 L H → Sep H0 (c :: L') H := by
  induction hD with
  | z => intro H h; exact h
  | s _ ih =>
    intro H ⟨g1, g2, a, b, d, e, f⟩
    obtain ⟨h1, h2, i1, i2, i3, i4, i5⟩ := ih f
    have ag1 : Apart g1 h1 := a.le (Hp.le_refl _) i2
    have ag2 : Apart g1 h2 := a.le (Hp.le_refl _) i3
    exact ⟨h1, hor g1 h2, (Apart.hor_l ag1 i1.symm).symm, Hp.le_trans i2 d, hor_le b (Hp.le_trans i3 d), i4, g1, h2, ag2, le_hor_l, le_hor_r ag2, e, i5⟩
theorem Sep.tail (h : Sep H0 (c :: L) H) : Sep H0 L H := by
  obtain ⟨h1, h2, _, _, d, _, f⟩ := h
  exact f.mono d
theorem Sep.del (h : Sep H0 L H) (hD : Del L c L') : Sep H0 L' H := (Sep.bring hD h).tail
/-- Pieces that are apart from others lie beside them. -/
theorem Sep.beside : ∀ {K : List Chunk} {h1 h2 H : Hp}, Sep emp K h1 → Apart h1 h2 → h1.le H → h2.le H → Sep H0 L h2 → Sep H0 (K ++ L) H := by
  intro K
  induction K with
  | nil => intro h1 h2 H _ _ _ b h; exact h.mono b
  | cons k K ih =>
    intro h1 h2 H ⟨g1, g2, a, b, d, e, f⟩ q1 q2 q3 q4
    have r1 : Apart g1 h2 := q1.le b (Hp.le_refl _)
    have r2 : Apart g2 h2 := q1.le d (Hp.le_refl _)
    exact ⟨g1, hor g2 h2, (Apart.hor_l a.symm r1.symm).symm, Hp.le_trans b q2, hor_le (Hp.le_trans d q2) q3, e, ih f r2 le_hor_l (le_hor_r r2) q4⟩
theorem Sep.split : ∀ {K : List Chunk} {H : Hp}, Sep H0 (K ++ L) H → ∃ h1 h2 : Hp, Apart h1 h2 ∧ h1.le H ∧ h2.le H ∧ Sep emp K h1 ∧ Sep H0 L h2 := by
  intro K
  induction K with
  | nil => intro H h; exact ⟨emp, H, fun _ => .inl rfl, fun _ _ e => by simp [emp] at e, Hp.le_refl _, Hp.le_refl _, h⟩
  | cons k K ih =>
    intro H ⟨g1, g2, a, b, d, e, f⟩
    obtain ⟨h1, h2, i1, i2, i3, i4, i5⟩ := ih f
    have ag1 : Apart g1 h1 := a.le (Hp.le_refl _) i2
    have ag2 : Apart g1 h2 := a.le (Hp.le_refl _) i3
    exact ⟨hor g1 h1, h2, Apart.hor_l ag2 i1, hor_le b (Hp.le_trans i2 d), Hp.le_trans i3 d, ⟨g1, h1, ag1, le_hor_l, le_hor_r ag1, e, i4⟩, i5⟩
theorem Sep.join (h : Sep H0 L H) (hK : Sep H K H') : Sep H0 (K ++ L) H' := by
  obtain ⟨h1, h2, a, b, d, e, f⟩ := Sep.split (K := K) (L := []) (by rw [List.append_nil]; exact hK)
  exact Sep.beside e a b d (h.mono f)
/-- A piece is what other pieces are. -/
theorem Sep.opened (h : Sep H0 (c :: L) H) : ∃ h1 : Hp, c.den h1 ∧ ∀ K, Sep emp K h1 → Sep H0 (K ++ L) H := by
  obtain ⟨h1, h2, a, b, d, e, f⟩ := h
  exact ⟨h1, e, fun K hK => Sep.beside hK a b d f⟩
theorem Sep.close {K : List Chunk} (c : Chunk) (h : Sep H0 (K ++ L) H) (hc : ∀ h1, Sep emp K h1 → c.den h1) : Sep H0 (c :: L) H := by
  obtain ⟨h1, h2, a, b, d, e, f⟩ := Sep.split h
  exact ⟨h1, h2, a, b, d, hc h1 e, f⟩
/-- What is not to change any more is kept with what was there before. -/
theorem Sep.keep : ∀ {L : List Chunk} {h1 h2 H : Hp}, Sep H0 L h2 → Apart h1 h2 → h1.le H → h2.le H → Sep (hor h1 H0) L H := by
  intro L
  induction L with
  | nil => intro h1 h2 H h _ b d; exact hor_le b (Hp.le_trans h d)
  | cons k L ih =>
    intro h1 h2 H ⟨g1, g2, a, b, d, e, f⟩ q1 q2 q3
    have r1 : Apart h1 g1 := q1.le (Hp.le_refl _) b
    have r2 : Apart h1 g2 := q1.le (Hp.le_refl _) d
    exact ⟨g1, hor h1 g2, (Apart.hor_l r1 a.symm).symm, Hp.le_trans b q3, hor_le q2 (Hp.le_trans d q3), e, ih f r2 le_hor_l (le_hor_r r2)⟩
theorem Sep.freeze (h : Sep H0 (c :: L) H) : ∃ H1 : Hp, H0.le H1 ∧ c.den H1 ∧ Sep H1 L H := by
  obtain ⟨h1, h2, a, b, d, e, f⟩ := h
  exact ⟨hor h1 H0, le_hor_r (a.le (Hp.le_refl _) f.le), Chunk.den_mono e le_hor_l, Sep.keep f a b d⟩
/-- A slice grew. -/
theorem Sep.grew {v v' : Value} {el : TypeId} {sz n n' : Nat} {cs cs' : List Value} (h : Sep H0 L H) (hA : At L (.vec v el sz n cs) F) (hg : Grew H el sz v n' cs' v' H') : Sep H0 (F (.vec v' el sz n' cs')) H' := by
  obtain ⟨h1, h2, a, hb, d, e, f, g⟩ := Sep.frame hA h
  have key : ∀ b q, H' = H.set b q → h2 b = none → Vec (single b q) el sz v' n' cs' → Sep H0 (F (.vec v' el sz n' cs')) H' := by
    intro b q hH h2b hv
    subst hH
    refine g (.vec v' el sz n' cs') (single b q) _ ?_ ?_ ?_ hv
    · intro x
      by_cases hx : x = b
      · subst hx; exact .inr h2b
      · exact .inl (by simp [single, hx])
    · intro x q' hq
      by_cases hx : x = b
      · subst hx; simp [single] at hq; subst hq; exact Hp.set_self
      · simp [single, hx] at hq
    · intro x q' hq
      have hx : x ≠ b := by rintro rfl; rw [h2b] at hq; cases hq
      rw [Hp.set_ne hx]; exact d x q' hq
  rcases hg with ⟨rfl, rfl, rfl, rfl, rfl⟩ | ⟨b, cap, q, k1, k2, k3, k4, k5⟩
  · exact g (.vec nilV el sz 0 []) h1 H' a hb d (.inl ⟨rfl, rfl, rfl⟩)
  · refine key b q k3 ?_ (.inr ⟨b, cap, q, k1, if_pos rfl, by rw [k4], ?_, k5⟩)
    · rcases k2 with k2 | k2
      · have hv : Vec h1 el sz v n cs := e
        rcases hv with ⟨rfl, _⟩ | ⟨b', cap', q', rfl, h3, _⟩
        · simp [vblock] at k2
        · simp [vblock] at k2
          subst k2
          exact (a b').resolve_left (by rw [h3]; simp)
      · exact Hp.le_none d k2
    · rw [k4]; exact List.take_of_length_le (by rw [k5.1]; exact Nat.le_refl _)
/-- Of a slice that grew out of none. -/
theorem Sep.grew0 {v' : Value} {el : TypeId} {sz n' : Nat} {cs' : List Value} (h : Sep H0 L H) (hg : Grew H el sz nilV n' cs' v' H') : Sep H0 (.vec v' el sz n' cs' :: L) H' := Sep.grew (h.nil (el := el) (sz := sz)) at0 hg
/-- Where an element of a slice lies. -/
def vptr (v : Value) (j : Nat) : Value := match v with
  | .slice (some a) _ _ => .pointer (some (a.add j))
  | _ => undef
theorem Vec.opened {el : TypeId} {sz n : Nat} {v : Value} {cs : List Value} (h : Vec H el sz v n cs) (hn : 0 < n) :
    ∃ b cap q, v = .slice (some ⟨b, 0, none⟩) n cap ∧ H b = some q ∧ q.elem = el ∧ q.cells.take (n * sz) = cs ∧ cs.length = n * sz ∧ n ≤ cap ∧ cap * sz ≤ q.size ∧ cap ≤ maxLen ∧ ∀ (j : Nat) (u : Value), cs[j]? = some u → q.cells[j]? = some u := by
  rcases h with ⟨_, h, _⟩ | ⟨b, cap, q, h1, h2, h3, h4, h5, h6, h7, h8⟩
  · omega
  · refine ⟨b, cap, q, h1, h2, h3, h4, h5, h6, h7, h8, fun j u hj => ?_⟩
    have hlt := (List.getElem?_eq_some_iff.1 hj).1
    rw [← h4] at hj
    rw [List.getElem?_take] at hj
    split at hj
    · exact hj
    · cases hj
theorem vptr_at {b j m cap : Nat} : vptr (.slice (some ⟨b, 0, none⟩) m cap) j = .pointer (some ⟨b, j, none⟩) := by
  simp [vptr, Addr.add0]
theorem Sep.vset {v : Value} {el : TypeId} {sz n j : Nat} {cs : List Value} {u : Value} {b cap : Nat} {q : Blk} (h : Sep H0 L H) (hA : At L (.vec v el sz n cs) F) (hv : v = .slice (some ⟨b, 0, none⟩) n cap) (hq : H b = some q) :
    Sep H0 (F (.vec v el sz n (cs.set j u))) (H.set b { q with cells := q.cells.set j u }) := by
  obtain ⟨h1, h2, a, hb, d, e, f, g⟩ := Sep.frame hA h
  have hv1 : Vec h1 el sz v n cs := e
  rcases hv1 with ⟨k, _⟩ | ⟨b', cap', q', k1, k2, k3, k4, k5, k6, k7, k8⟩
  · rw [hv] at k; cases k
  · rw [hv] at k1
    cases k1
    have hqq := hb b q' k2
    rw [hq] at hqq
    cases hqq
    have h2b : h2 b = none := (a b).resolve_left (by rw [k2]; simp)
    refine g (.vec v el sz n (cs.set j u)) (single b { q with cells := q.cells.set j u }) _ ?_ ?_ ?_ ?_
    · intro x
      by_cases hx : x = b
      · subst hx; exact .inr h2b
      · exact .inl (by simp [single, hx])
    · intro x q' hq
      by_cases hx : x = b
      · subst hx; simp [single] at hq; subst hq; exact Hp.set_self
      · simp [single, hx] at hq
    · intro x q' hq9
      have hx : x ≠ b := by rintro rfl; rw [h2b] at hq9; cases hq9
      rw [Hp.set_ne hx]; exact d x q' hq9
    · refine .inr ⟨b, cap, _, hv, if_pos rfl, k3, ?_, by rw [List.length_set]; exact k5, k6, k7, k8⟩
      show (q.cells.set j u).take (n * sz) = cs.set j u
      rw [List.take_set, k4]
end
/-! lists of strings -/
def strs (ss : List (List UInt8)) : List Value := ss.map S
theorem strs_length (ss : List (List UInt8)) : (strs ss).length = ss.length := by simp [strs]
theorem strs_append (a b : List (List UInt8)) : strs (a ++ b) = strs a ++ strs b := by simp [strs]
theorem strs_get (ss : List (List UInt8)) {j : Nat} (h : j < ss.length) : (strs ss)[j]? = some (S (ss.getD j [])) := by
  simp [strs, h]
theorem strs_set (ss : List (List UInt8)) (j : Nat) (x : List UInt8) : (strs ss).set j (S x) = strs (ss.set j x) := by simp [strs, List.map_set]
theorem strs_one (ss : List (List UInt8)) : ∀ v ∈ strs ss, v.oneCell' = true := by
  intro v hv
  simp only [strs, List.mem_map] at hv
  obtain ⟨x, _, rfl⟩ := hv
  rfl
/-! ### operations -/
section
variable {P : Program} {w0 : World} {ρ : Operand → Value} {H H0 : Hp} {L : List Chunk} {F : Chunk → List Chunk} {d : Option Tmp} {ty : TypeId} {pos : String} {af : Array Edge} {g : Option (Nat × Bool)}
theorem s_store {t : TypeId} {x y : Operand} {b j : Nat} {o : Blk} {v : Value} (hS : Sep H0 L H) (hA : At L (.blk b o) F) (ht : sizeT P t = some 1) (hx : ρ x = .pointer (some ⟨b, j, none⟩)) (hy : ρ y = v) (hv : v.oneCell' = true) (hj : j < o.cells.length) :
    OpR P w0 ρ ⟨d, .store t x y, ty, pos, af, g⟩ H (fun u H' => u = undef ∧ Sep H0 (F (.blk b { o with cells := o.cells.set j v })) H') :=
  (o_store ht hx hy hv (hS.blk hA) hj).mono (by rintro _ _ ⟨h1, rfl⟩; exact ⟨h1, hS.set hA⟩)
theorem s_storeC {t : TypeId} {x y : Operand} {b j sz : Nat} {el : TypeId} {cs : List Value} {v : Value} (hS : Sep H0 L H) (hA : At L (.blk b ⟨cs, sz, el⟩) F) (ht : sizeT P t = some 1) (hx : ρ x = .pointer (some ⟨b, j, none⟩)) (hy : ρ y = v) (hv : v.oneCell' = true) (hj : j < cs.length) :
    OpR P w0 ρ ⟨d, .store t x y, ty, pos, af, g⟩ H (fun u H' => u = undef ∧ Sep H0 (F (.blk b ⟨cs.set j v, sz, el⟩)) H') := s_store hS hA ht hx hy hv hj
theorem s_storeN {t : TypeId} {x y : Operand} {b j sz : Nat} {el : TypeId} {k : IntKind} {xs : List Int} {n : Int} (hS : Sep H0 L H) (hA : At L (.blk b ⟨nums k xs, sz, el⟩) F) (ht : sizeT P t = some 1) (hx : ρ x = .pointer (some ⟨b, j, none⟩)) (hy : ρ y = .int k n) (hj : j < xs.length) :
    OpR P w0 ρ ⟨d, .store t x y, ty, pos, af, g⟩ H (fun u H' => u = undef ∧ Sep H0 (F (.blk b ⟨nums k (xs.set j n), sz, el⟩)) H') :=
  (o_storeN ht hx hy (hS.blk hA) hj).mono (by rintro _ _ ⟨h1, rfl⟩; exact ⟨h1, hS.set hA⟩)
theorem s_storeA {t : TypeId} {n sz : Nat} {el : TypeId} {x y : Operand} {b : Nat} {old : List Value} {k : IntKind} {xs : List Int} (hS : Sep H0 L H) (hA : At L (.blk b ⟨old, sz, el⟩) F) (ht : sizeT P t = some n) (hx : ρ x = .pointer (some ⟨b, 0, none⟩)) (hy : ρ y = .agg (nums k xs).toArray) (hn : xs.length = n) (ho : old.length = n) :
    OpR P w0 ρ ⟨d, .store t x y, ty, pos, af, g⟩ H (fun u H' => u = undef ∧ Sep H0 (F (.blk b ⟨nums k xs, sz, el⟩)) H') :=
  (o_storeA ht hx hy (by rw [nums_length, hn]) (nums_one k xs) (hS.blk hA) (by show 0 + n ≤ old.length; omega)).mono (by
    rintro _ _ ⟨h1, rfl⟩
    have e : put old 0 (nums k xs) = nums k xs := put_all (by rw [nums_length, hn, ho])
    refine ⟨h1, ?_⟩
    simp only [e]
    exact hS.set hA)
/-- A whole struct of one-cell parts is stored. -/
theorem s_storeS {t : TypeId} {n sz : Nat} {el : TypeId} {x y : Operand} {b : Nat} {old cs : List Value} (hS : Sep H0 L H) (hA : At L (.blk b ⟨old, sz, el⟩) F) (ht : sizeT P t = some n) (hx : ρ x = .pointer (some ⟨b, 0, none⟩)) (hy : ρ y = .agg cs.toArray) (hn : cs.length = n) (h1 : ∀ v ∈ cs, v.oneCell' = true) (ho : old.length = n) :
    OpR P w0 ρ ⟨d, .store t x y, ty, pos, af, g⟩ H (fun u H' => u = undef ∧ Sep H0 (F (.blk b ⟨cs, sz, el⟩)) H') :=
  (o_storeA ht hx hy hn h1 (hS.blk hA) (by show 0 + n ≤ old.length; omega)).mono (by
    rintro _ _ ⟨h1, rfl⟩
    have e : put old 0 cs = cs := put_all (by rw [hn, ho])
    refine ⟨h1, ?_⟩
    simp only [e]
    exact hS.set hA)
theorem s_box {t : TypeId} {x : Operand} {v : Value} {cs : List Value} (hS : Sep H0 L H) (hx : ρ x = v) (hc : v.cells.toList = cs) :
    OpR P w0 ρ ⟨d, .box t x, ty, pos, af, g⟩ H (fun u H' => ∃ b, u = .pointer (some ⟨b, 0, none⟩) ∧ Sep H0 (.blk b ⟨cs, cs.length, t⟩ :: L) H') :=
  (o_box hx hc).mono (by rintro _ _ ⟨b, hb, rfl, rfl⟩; exact ⟨b, rfl, hS.new hb⟩)
theorem s_boxN {t : TypeId} {x : Operand} {k : IntKind} {xs : List Int} (hS : Sep H0 L H) (hx : ρ x = .agg (nums k xs).toArray) :
    OpR P w0 ρ ⟨d, .box t x, ty, pos, af, g⟩ H (fun u H' => ∃ b, u = .pointer (some ⟨b, 0, none⟩) ∧ Sep H0 (.blk b ⟨nums k xs, xs.length, t⟩ :: L) H') :=
  (o_boxN hx).mono (by rintro _ _ ⟨b, hb, rfl, rfl⟩; exact ⟨b, rfl, hS.new hb⟩)
theorem s_alloc {t : TypeId} {z : Value} {cs : List Value} (hS : Sep H0 L H) (hz : zeroT P t = some z) (hc : z.cells.toList = cs) :
    OpR P w0 ρ ⟨d, .alloc t, ty, pos, af, g⟩ H (fun u H' => ∃ b, u = .pointer (some ⟨b, 0, none⟩) ∧ Sep H0 (.blk b ⟨cs, cs.length, t⟩ :: L) H') :=
  (o_alloc hz hc).mono (by rintro _ _ ⟨b, hb, rfl, rfl⟩; exact ⟨b, rfl, hS.new hb⟩)
theorem s_allocN {t : TypeId} {k : IntKind} {m : Nat} (hS : Sep H0 L H) (hz : zeroT P t = some (.agg (nums k (List.replicate m 0)).toArray)) :
    OpR P w0 ρ ⟨d, .alloc t, ty, pos, af, g⟩ H (fun u H' => ∃ b, u = .pointer (some ⟨b, 0, none⟩) ∧ Sep H0 (.blk b ⟨nums k (List.replicate m 0), m, t⟩ :: L) H') :=
  (o_allocN hz).mono (by rintro _ _ ⟨b, hb, rfl, rfl⟩; exact ⟨b, rfl, hS.new hb⟩)
theorem s_bytes {s t e : TypeId} {x : Operand} {l : List UInt8} (hS : Sep H0 L H) (hs : (P.underlying s).isSome = true) (ht : P.underlying t = some (.slice e)) (he : P.underlying e = some (.int .u8)) (hx : ρ x = S l) (hl : l.length ≤ maxLen) :
    OpR P w0 ρ ⟨d, .convert s t x, ty, pos, af, g⟩ H (fun u H' => Sep H0 (.vec u e 1 l.length (nums .u8 (ofB l)) :: L) H') :=
  (o_bytes hs ht he hx hl).mono (by
    rintro _ _ ⟨b, cap, hb, h1, h2, rfl, rfl⟩
    exact (hS.new hb).asVec (by rw [List.take_of_length_le]; simp [nums_length, ofB_length]) (by simp [nums_length, ofB_length]) h1 (by omega) h2)
theorem s_makeSlice {t e : TypeId} {x y : Operand} {k k' : IntKind} {n c : Int} {by_ : Nat} {z : Value} (hS : Sep H0 L H) (ht : P.underlying t = some (.slice e)) (hs : sizeT P e = some 1) (hb : bytesT P e = some by_) (hz : zeroT P e = some z) (h1 : z.oneCell' = true)
    (hx : ρ x = .int k n) (hy : ρ y = .int k' c) (h0 : 0 ≤ n) (hnc : n ≤ c) (hc : by_ * c ≤ 2 ^ 48) (hc' : c ≤ 9223372036854775807) (hm : c.toNat ≤ maxLen) :
    OpR P w0 ρ ⟨d, .makeSlice t x y, ty, pos, af, g⟩ H (fun u H' => Sep H0 (.vec u e 1 n.toNat (List.replicate n.toNat z) :: L) H') :=
  (o_makeSlice ht hs hb hz h1 hx hy h0 hnc hc hc').mono (by
    rintro _ _ ⟨b, hb, rfl, rfl⟩
    exact (hS.new hb).asVec (by simp; omega) (by simp) (by omega) (by simp) hm)
theorem s_makeSliceN {t e : TypeId} {x y : Operand} {k k' kk : IntKind} {n c : Int} {by_ : Nat} (hS : Sep H0 L H) (ht : P.underlying t = some (.slice e)) (hs : sizeT P e = some 1) (hb : bytesT P e = some by_) (hz : zeroT P e = some (.int kk 0))
    (hx : ρ x = .int k n) (hy : ρ y = .int k' c) (h0 : 0 ≤ n) (hnc : n ≤ c) (hc : by_ * c ≤ 2 ^ 48) (hc' : c ≤ 9223372036854775807) (hm : c.toNat ≤ maxLen) :
    OpR P w0 ρ ⟨d, .makeSlice t x y, ty, pos, af, g⟩ H (fun u H' => Sep H0 (.vec u e 1 n.toNat (nums kk (List.replicate n.toNat 0)) :: L) H') := by
  have := s_makeSlice (w0 := w0) (d := d) (ty := ty) (pos := pos) (af := af) (g := g) hS ht hs hb hz rfl hx hy h0 hnc hc hc' hm
  simpa only [nums, List.map_replicate] using this
theorem s_buildSlice {t e : TypeId} {m : Nat} {ps : List (Nat × Operand)} {z : Value} (hS : Sep H0 L H) (ht : P.underlying t = some (.slice e)) (hs : sizeT P e = some 1) (hz : zeroT P e = some z) (h1 : z.oneCell' = true) (hm : ps.length = m) (hp : ordered 0 ps = true) (hm2 : m ≤ 16777216)
    {vs : List Value} (hv : ps.map (fun p => ρ p.2) = vs) (h1v : ∀ v ∈ vs, v.oneCell' = true) (hl : vs.length = m) :
    OpR P w0 ρ ⟨d, .buildSlice t m ps.toArray, ty, pos, af, g⟩ H (fun u H' => Sep H0 (.vec u e 1 m vs :: L) H') :=
  (o_buildSlice ht hs hz h1 hm hp hm2 hv h1v).mono (by
    rintro _ _ ⟨b, hb, rfl, rfl⟩
    exact (hS.new hb).asVec (by rw [List.take_of_length_le]; omega) (by omega) (Nat.le_refl _) (by omega) (by unfold maxLen; omega))
theorem s_append {t t2 e : TypeId} {sz by_ : Nat} {z : Value} {x y : Operand} {v u : Value} {n m : Nat} {cs news : List Value} (hS : Sep H0 L H) (hA : At L (.vec v e sz n cs) F) (ht : P.underlying t = some (.slice e)) (hs : sizeT P e = some sz) (hb : bytesT P e = some by_)
    (hz : zeroT P e = some z) (hzs : z.cells.size = sz) (ht2 : srcT P t2 = true) (hx : ρ x = v) (hy : ρ y = u) (hu : Src P w0 H sz u m news)
    (h63 : n + m ≤ maxLen) (hbytes : (n + m) * by_ ≤ 140737488355328) :
    OpR P w0 ρ ⟨d, .call { callee := .builtin .append, args := #[x, y], argTypes := #[t, t2] }, ty, pos, af, g⟩ H (fun v' H' => Sep H0 (F (.vec v' e sz (n + m) (cs ++ news))) H') :=
  (o_append ht hs hb hz hzs ht2 hx hy (hS.vec hA) hu h63 hbytes).mono (fun _ _ hg => hS.grew hA hg)
theorem s_append0 {t t2 e : TypeId} {sz by_ : Nat} {z : Value} {x y : Operand} {u : Value} {m : Nat} {news : List Value} (hS : Sep H0 L H) (ht : P.underlying t = some (.slice e)) (hs : sizeT P e = some sz) (hb : bytesT P e = some by_)
    (hz : zeroT P e = some z) (hzs : z.cells.size = sz) (ht2 : srcT P t2 = true) (hx : ρ x = nilV) (hy : ρ y = u) (hu : Src P w0 H sz u m news)
    (h63 : m ≤ maxLen) (hbytes : m * by_ ≤ 140737488355328) :
    OpR P w0 ρ ⟨d, .call { callee := .builtin .append, args := #[x, y], argTypes := #[t, t2] }, ty, pos, af, g⟩ H (fun v' H' => Sep H0 (.vec v' e sz m news :: L) H') :=
  (o_append (n := 0) (cs := []) ht hs hb hz hzs ht2 hx hy (.inl ⟨rfl, rfl, rfl⟩) hu (by omega) (by rw [Nat.zero_add]; exact hbytes)).mono (fun v' H' hg => by
    have := hS.grew0 hg
    simpa only [Nat.zero_add, List.nil_append] using this)
/-! reading and writing elements of slices -/
theorem q_indexV {t e : TypeId} {sz m : Nat} {x i : Operand} {v : Value} {cs : List Value} {k : IntKind} {n : Int} (hV : Vec H e sz v m cs) (ht : P.underlying t = some (.slice e)) (hs : sizeT P e = some sz) (hx : ρ x = v) (hi : ρ i = .int k n) (h0 : 0 ≤ n) (h1 : n < m) :
    QS P w0 ρ ⟨d, .indexAddr t x i, ty, pos, af, g⟩ H (vptr v (n.toNat * sz)) := by
  obtain ⟨b, cap, q, rfl, _⟩ := hV.opened (by omega)
  have := q_indexAddrV (P := P) (w0 := w0) (H := H) (d := d) (ty := ty) (pos := pos) (af := af) (g := g) ht hs hx hi h0 h1
  rwa [vptr_at, ← Nat.zero_add (n.toNat * sz)]
theorem q_indexV1 {t e : TypeId} {m : Nat} {x i : Operand} {v : Value} {cs : List Value} {k : IntKind} {n : Int} (hV : Vec H e 1 v m cs) (ht : P.underlying t = some (.slice e)) (hs : sizeT P e = some 1) (hx : ρ x = v) (hi : ρ i = .int k n) (h0 : 0 ≤ n) (h1 : n < m) :
    QS P w0 ρ ⟨d, .indexAddr t x i, ty, pos, af, g⟩ H (vptr v n.toNat) := by
  have := q_indexV (w0 := w0) (d := d) (ty := ty) (pos := pos) (af := af) (g := g) hV ht hs hx hi h0 h1
  rwa [Nat.mul_one] at this
theorem q_fieldV {t : TypeId} {fs : Array Field} {f : Field} {m s2 j n sz : Nat} {el : TypeId} {x : Operand} {v : Value} {cs : List Value} (hV : Vec H el sz v n cs) (hn : 0 < n) (ht : P.underlying t = some (.struct fs)) (hf : fs[m]? = some f) (hs : sizeT P f.type = some (s2 + 1))
    (hx : ρ x = vptr v j) : QS P w0 ρ ⟨d, .fieldAddr t x m, ty, pos, af, g⟩ H (vptr v (j + f.offset)) := by
  obtain ⟨b, cap, q, rfl, _⟩ := hV.opened hn
  rw [vptr_at] at hx ⊢
  exact q_fieldAddr ht hf hs hx
theorem q_loadV {t el : TypeId} {sz m j : Nat} {x : Operand} {v u : Value} {cs : List Value} (hV : Vec H el sz v m cs) (ht : scalT P t = true) (hx : ρ x = vptr v j) (hu : cs[j]? = some u) :
    QS P w0 ρ ⟨d, .load t x, ty, pos, af, g⟩ H u := by
  have hlt := (List.getElem?_eq_some_iff.1 hu).1
  have hm : 0 < m := by
    have := hV.len
    rcases Nat.eq_zero_or_pos m with h | h
    · subst h; omega
    · exact h
  obtain ⟨b, cap, q, rfl, hq, _, _, _, _, _, _, hcs⟩ := hV.opened hm
  rw [vptr_at] at hx
  exact q_load ht hx hq (hcs j u hu)
theorem q_loadVN {t el : TypeId} {m j : Nat} {x : Operand} {v : Value} {k : IntKind} {xs : List Int} (hV : Vec H el 1 v m (nums k xs)) (ht : scalT P t = true) (hx : ρ x = vptr v j) (hj : j < xs.length) :
    QS P w0 ρ ⟨d, .load t x, ty, pos, af, g⟩ H (.int k (xs.getD j 0)) := q_loadV hV ht hx (nums_get k xs hj)
theorem s_storeV {t el : TypeId} {sz m j : Nat} {x y : Operand} {v u : Value} {cs : List Value} (hS : Sep H0 L H) (hA : At L (.vec v el sz m cs) F) (ht : sizeT P t = some 1) (hx : ρ x = vptr v j) (hy : ρ y = u) (h1 : u.oneCell' = true) (hj : j < cs.length) :
    OpR P w0 ρ ⟨d, .store t x y, ty, pos, af, g⟩ H (fun r H' => r = undef ∧ Sep H0 (F (.vec v el sz m (cs.set j u))) H') := by
  have hV := hS.vec hA
  have hm : 0 < m := by
    have := hV.len
    rcases Nat.eq_zero_or_pos m with h | h
    · subst h; omega
    · exact h
  obtain ⟨b, cap, q, hv, hq, _, k4, k5, _, _, _, _⟩ := hV.opened hm
  have hx' := hx
  rw [hv, vptr_at] at hx'
  have hjq : j < q.cells.length := by rw [← k4, List.length_take] at hj; omega
  exact (o_store ht hx' hy h1 hq hjq).mono (by rintro _ _ ⟨h1, rfl⟩; exact ⟨h1, hS.vset hA hv hq⟩)
theorem s_storeVN {t el : TypeId} {m j : Nat} {x y : Operand} {v : Value} {k : IntKind} {xs : List Int} {n : Int} (hS : Sep H0 L H) (hA : At L (.vec v el 1 m (nums k xs)) F) (ht : sizeT P t = some 1) (hx : ρ x = vptr v j) (hy : ρ y = .int k n) (hj : j < xs.length) :
    OpR P w0 ρ ⟨d, .store t x y, ty, pos, af, g⟩ H (fun r H' => r = undef ∧ Sep H0 (F (.vec v el 1 m (nums k (xs.set j n)))) H') := by
  have := s_storeV (w0 := w0) (d := d) (ty := ty) (pos := pos) (af := af) (g := g) hS hA ht hx hy rfl (by simpa [nums_length] using hj)
  simpa only [nums_set] using this
theorem q_loadVS {t el : TypeId} {m j : Nat} {x : Operand} {v : Value} {ss : List (List UInt8)} (hV : Vec H el 1 v m (strs ss)) (ht : scalT P t = true) (hx : ρ x = vptr v j) (hj : j < ss.length) :
    QS P w0 ρ ⟨d, .load t x, ty, pos, af, g⟩ H (S (ss.getD j [])) := q_loadV hV ht hx (strs_get ss hj)
theorem s_storeVS {t el : TypeId} {m j : Nat} {x y : Operand} {v : Value} {ss : List (List UInt8)} {n : List UInt8} (hS : Sep H0 L H) (hA : At L (.vec v el 1 m (strs ss)) F) (ht : sizeT P t = some 1) (hx : ρ x = vptr v j) (hy : ρ y = S n) (hj : j < ss.length) :
    OpR P w0 ρ ⟨d, .store t x y, ty, pos, af, g⟩ H (fun r H' => r = undef ∧ Sep H0 (F (.vec v el 1 m (strs (ss.set j n)))) H') := by
  have := s_storeV (w0 := w0) (d := d) (ty := ty) (pos := pos) (af := af) (g := g) hS hA ht hx hy rfl (by simpa [strs_length] using hj)
  simpa only [strs_set] using this
/-- Bytes as a string, of a slice of its own. -/
theorem q_stringVec {s t e : TypeId} {x : Operand} {v : Value} {n : Nat} {xs : List Int} (hV : Vec H e 1 v n (nums .u8 xs)) (hs : P.underlying s = some (.slice e)) (he : P.underlying e = some (.int .u8)) (ht : P.underlying t = some .string)
    (hx : ρ x = v) : QS P w0 ρ ⟨d, .convert s t x, ty, pos, af, g⟩ H (S (toB xs)) := q_stringV hs he ht hx hV
/-- A copy into a block, from its place o on. -/
theorem s_copy {t t2 e : TypeId} {x y : Operand} {sz b o n c m s : Nat} {el : TypeId} {cs : List Value} {u : Value} {news : List Value} (hS : Sep H0 L H) (hA : At L (.blk b ⟨cs, s, el⟩) F) (ht : P.underlying t = some (.slice e)) (hs : sizeT P e = some sz) (hx : ρ x = .slice (some ⟨b, o, none⟩) n c) (hy : ρ y = u)
    (hn : o + n * sz ≤ cs.length) (hu : Src P w0 H sz u m news) :
    OpR P w0 ρ ⟨d, .call { callee := .builtin .copy, args := #[x, y], argTypes := #[t, t2] }, ty, pos, af, g⟩ H
      (fun v H' => v = .int .i64 ((min m n : Nat) : Int) ∧ Sep H0 (F (.blk b ⟨put cs o (news.take (min m n * sz)), s, el⟩)) H') :=
  (o_copy ht hs hx hy (hS.blk hA) hn hu).mono (by rintro _ _ ⟨h1, rfl⟩; exact ⟨h1, hS.set hA⟩)
theorem putN (k : IntKind) (vs : List Int) : ∀ (xs : List Int) (o : Nat), o + vs.length ≤ xs.length → put (nums k xs) o (nums k vs) = nums k (xs.take o ++ vs ++ xs.drop (o + vs.length)) := by
  intro xs o h
  rw [put_eq _ _ _ (by simpa [nums_length] using h), nums_length, nums_take, nums_drop, ← nums_append, ← nums_append]
theorem s_copyN {t t2 e : TypeId} {x y : Operand} {b o n c m s : Nat} {el : TypeId} {k : IntKind} {xs news : List Int} {u : Value} (hS : Sep H0 L H) (hA : At L (.blk b ⟨nums k xs, s, el⟩) F) (ht : P.underlying t = some (.slice e)) (hs : sizeT P e = some 1) (hx : ρ x = .slice (some ⟨b, o, none⟩) n c) (hy : ρ y = u)
    (hn : o + n ≤ xs.length) (hu : Src P w0 H 1 u m (nums k news)) :
    OpR P w0 ρ ⟨d, .call { callee := .builtin .copy, args := #[x, y], argTypes := #[t, t2] }, ty, pos, af, g⟩ H
      (fun v H' => v = .int .i64 ((min m n : Nat) : Int) ∧ Sep H0 (F (.blk b ⟨nums k (xs.take o ++ news.take (min m n) ++ xs.drop (o + (news.take (min m n)).length)), s, el⟩)) H') :=
  (s_copy (w0 := w0) hS hA ht hs hx hy (by rw [nums_length, Nat.mul_one]; exact hn) hu).mono (by
    rintro v H' ⟨h1, h2⟩
    rw [Nat.mul_one, nums_take, putN _ _ _ _ (by have := List.length_take_le (min m n) news; omega)] at h2
    exact ⟨h1, h2⟩)
end
end Go.Proofs.Ytfiojlmccflplaa.D
