/-
  Stores as pieces of what is owned. No condition.
-/
import Derived.Test.YtfiojlmccflplaaStSpec
import Derived.Test.YtfiojlmccflplaaDN
import Derived.Test.YtfiojlmccflplaaTw
namespace Go.Proofs.Ytfiojlmccflplaa
open Go Go.RowKit D
set_option linter.unusedVariables false
set_option linter.unusedSimpArgs false
abbrev recV (v : Value) (l : RecL) : Chunk := .vec v 44 2 l.length (rowsV recC l)
abbrev Vals := List (List UInt8 × Value)
def pieM (L : OneL) (vs : Vals) : List Chunk := vs.map fun p => recV p.2 (ofP L p.1)
def exc (vs : Vals) (who : List UInt8) : Vals := vs.filter fun p => decide (p.1 ≠ who)
/-- A map at block mb that has each sender's messages. -/
def stM (mb : Nat) (L : OneL) : Hp → Prop := fun h => ∃ vs : Vals, (vs.map (·.1)).Nodup ∧ (∀ w, mgt vs w = none → ofP L w = []) ∧ Sep emp (.blk mb (mpB (ents S vs)) :: pieM L vs) h
def stEx (L : OneL) (vs : Vals) (who : List UInt8) : Hp → Prop := fun h => Sep emp (pieM L (exc vs who)) h
theorem exc_none {vs : Vals} {who : List UInt8} (h : mgt vs who = none) : exc vs who = vs := by
  unfold exc
  rw [List.filter_eq_self]
  intro p hp
  have : p.1 ≠ who := by
    intro e
    have : ∀ {vs : Vals}, p ∈ vs → mgt vs who ≠ none := by
      intro vs
      induction vs with
      | nil => intro h; cases h
      | cons q vs ih =>
        intro h
        by_cases hq : q.1 = who
        · simp [mgt, hq]
        · rcases List.mem_cons.1 h with rfl | h
          · exact absurd e hq
          · simp [mgt, hq]; exact ih h
    exact this hp h
  simpa using this
theorem mgt_mem {vs : Vals} {who : List UInt8} (h : who ∉ vs.map (·.1)) : mgt vs who = none := by
  induction vs with
  | nil => rfl
  | cons q vs ih =>
    simp only [List.map_cons, List.mem_cons, not_or] at h
    simp [mgt, Ne.symm h.1, ih h.2]
theorem mst_keys {vs : Vals} {who : List UInt8} {v : Value} : (mst vs who v).map (·.1) = if mgt vs who = none then vs.map (·.1) ++ [who] else vs.map (·.1) := by
  induction vs with
  | nil => simp [mst, mgt]
  | cons q vs ih =>
    by_cases hq : q.1 = who
    · simp [mst, mgt, hq]
    · simp only [mst, if_neg hq, mgt, List.map_cons, ih]
      split <;> simp
theorem nodup_mst {vs : Vals} {who : List UInt8} {v : Value} (h : (vs.map (·.1)).Nodup) : ((mst vs who v).map (·.1)).Nodup := by
  rw [mst_keys]
  split
  · rename_i hn
    rw [List.nodup_append]
    refine ⟨h, by simp, ?_⟩
    intro a ha b hb e
    rw [List.mem_singleton] at hb
    subst hb; subst e
    have : ∀ {vs : Vals}, a ∈ vs.map (·.1) → mgt vs a ≠ none := by
      intro vs
      induction vs with
      | nil => intro h; cases h
      | cons q vs ih =>
        intro h
        by_cases hq : q.1 = a
        · simp [mgt, hq]
        · simp only [List.map_cons, List.mem_cons] at h
          rcases h with rfl | h
          · exact absurd rfl hq
          · simp only [mgt, if_neg hq]; exact ih h
    exact this ha hn
  · exact h
theorem exc_mst {vs : Vals} {who : List UInt8} {v : Value} : exc (mst vs who v) who = exc vs who := by
  induction vs with
  | nil => simp [mst, exc]
  | cons q vs ih =>
    unfold exc at *
    by_cases hq : q.1 = who
    · simp [mst, hq]
    · simp [mst, hq] at ih ⊢; exact ih
theorem exc_mem {vs : Vals} {who : List UInt8} : ∀ p ∈ exc vs who, p.1 ≠ who := by
  intro p hp
  have := (List.mem_filter.1 hp).2
  simpa using this
theorem pie_del {L : OneL} {who : List UInt8} {v : Value} : ∀ {vs : Vals}, (vs.map (·.1)).Nodup → mgt vs who = some v → Del (pieM L vs) (recV v (ofP L who)) (pieM L (exc vs who)) := by
  intro vs
  induction vs with
  | nil => intro _ h; simp [mgt] at h
  | cons q vs ih =>
    intro hn h
    simp only [List.map_cons, List.nodup_cons] at hn
    by_cases hq : q.1 = who
    · simp only [mgt, if_pos hq, Option.some.injEq] at h
      have he : exc (q :: vs) who = vs := by
        have := exc_none (mgt_mem (vs := vs) (who := who) (by rw [← hq]; exact hn.1))
        unfold exc at *
        rw [List.filter_cons_of_neg (by simp [hq]), this]
      rw [he, ← h, ← hq]
      exact .z
    · simp only [mgt, if_neg hq] at h
      have he : exc (q :: vs) who = q :: exc vs who := by unfold exc; rw [List.filter_cons_of_pos (by simp [hq])]
      rw [he]
      exact .s (ih hn.2 h)
theorem pie_congr {L L' : OneL} {who : List UInt8} {vs : Vals} (h : ∀ w, w ≠ who → ofP L' w = ofP L w) : pieM L' (exc vs who) = pieM L (exc vs who) := by
  unfold pieM
  exact List.map_congr_left fun p hp => by rw [h _ (exc_mem p hp)]
section
variable {H0 H : Hp} {K : List Chunk} {F : Chunk → List Chunk} {mb : Nat} {L L' : OneL}
theorem st_new (h : Sep H0 (.blk mb (mpB []) :: K) H) : Sep H0 (.pred (stM mb []) :: K) H :=
  Sep.close _ (K := [.blk mb (mpB [])]) h fun h1 hK => ⟨h1, Hp.le_refl _, [], by simp, fun w _ => ofP_nil w, hK⟩
/-- One sender's messages alone. -/
theorem st_open (who : List UInt8) (h : Sep H0 (.pred (stM mb L) :: K) H) : ∃ (vs : Vals) (v : Value), (mgt vs who).getD nilV = v ∧ (vs.map (·.1)).Nodup ∧ (∀ w, mgt vs w = none → ofP L w = []) ∧
    Sep H0 (.blk mb (mpB (ents S vs)) :: recV v (ofP L who) :: .pred (stEx L vs who) :: K) H := by
  obtain ⟨h1, ⟨g, hg, vs, hn, hz, hK⟩, hall⟩ := Sep.opened h
  have hA := hall _ (hK.mono hg)
  cases hm : mgt vs who with
  | none =>
    refine ⟨vs, nilV, by rw [hm]; rfl, hn, hz, ?_⟩
    refine Sep.under hA fun {G} hG => ?_
    have h2 : Sep H0 (.pred (stEx L vs who) :: K) G := Sep.close _ (K := pieM L vs) hG fun h1 hK => ⟨h1, Hp.le_refl _, by show Sep emp (pieM L (exc vs who)) h1; rw [exc_none hm]; exact hK⟩
    have h3 := h2.nil (el := 44) (sz := 2)
    show Sep H0 (.vec nilV _ 2 (ofP L who).length (rowsV recC (ofP L who)) :: _) G
    rw [hz who hm]
    exact h3
  | some v =>
    refine ⟨vs, v, by rw [hm]; rfl, hn, hz, ?_⟩
    refine Sep.under hA fun {G} hG => ?_
    have hd := pie_del (L := L) hn hm
    have hd2 : Del (pieM L vs ++ K) (recV v (ofP L who)) (pieM L (exc vs who) ++ K) := by
      have : ∀ {A B : List Chunk} {c : Chunk}, Del A c B → Del (A ++ K) c (B ++ K) := by
        intro A B c hd
        induction hd with
        | z => exact .z
        | s _ ih => exact .s ih
      exact this hd
    refine Sep.under (Sep.bring hd2 hG) fun {G2} hG2 => ?_
    exact Sep.close _ (K := pieM L (exc vs who)) hG2 fun h1 hK => ⟨h1, Hp.le_refl _, hK⟩
theorem st_close {vs : Vals} {who : List UInt8} {v : Value} (hn : (vs.map (·.1)).Nodup) (hz : ∀ w, mgt vs w = none → ofP L w = []) (he : ∀ w, w ≠ who → ofP L' w = ofP L w)
    (h : Sep H0 (.blk mb (mpB (ents S (mst vs who v))) :: recV v (ofP L' who) :: .pred (stEx L vs who) :: K) H) : Sep H0 (.pred (stM mb L') :: K) H := by
  have hd := pie_del (L := L') (nodup_mst (v := v) hn) (mgt_mst_self vs who v)
  rw [exc_mst, pie_congr he] at hd
  have h2 : Sep H0 (.blk mb (mpB (ents S (mst vs who v))) :: recV v (ofP L' who) :: (pieM L (exc vs who) ++ K)) H :=
    Sep.under h fun hG => Sep.under hG fun hG2 => by
      obtain ⟨h1, ⟨g, hg, hK⟩, hall⟩ := Sep.opened hG2
      exact hall _ (Sep.mono hK hg)
  refine Sep.close _ (K := .blk mb (mpB (ents S (mst vs who v))) :: recV v (ofP L' who) :: pieM L (exc vs who)) h2 fun h1 hK => ⟨h1, Hp.le_refl _, mst vs who v, nodup_mst hn, ?_, Sep.under hK fun hG => Sep.back hd hG⟩
  intro w hw
  by_cases e : w = who
  · subst e; rw [mgt_mst_self] at hw; cases hw
  · rw [mgt_mst_ne vs e] at hw
    rw [he w e]; exact hz w hw
theorem st_shut {vs : Vals} {who : List UInt8} {v : Value} (hv : (mgt vs who).getD nilV = v) (hn : (vs.map (·.1)).Nodup) (hz : ∀ w, mgt vs w = none → ofP L w = [])
    (h : Sep H0 (.blk mb (mpB (ents S vs)) :: recV v (ofP L who) :: .pred (stEx L vs who) :: K) H) : Sep H0 (.pred (stM mb L) :: K) H := by
  have h2 : Sep H0 (.blk mb (mpB (ents S vs)) :: recV v (ofP L who) :: (pieM L (exc vs who) ++ K)) H :=
    Sep.under h fun hG => Sep.under hG fun hG2 => by
      obtain ⟨h1, ⟨g, hg, hK⟩, hall⟩ := Sep.opened hG2
      exact hall _ (Sep.mono hK hg)
  refine Sep.close _ (K := .blk mb (mpB (ents S vs)) :: recV v (ofP L who) :: pieM L (exc vs who)) h2 fun h1 hK => ⟨h1, Hp.le_refl _, vs, hn, hz, Sep.under hK fun hG => ?_⟩
  cases hm : mgt vs who with
  | none => rw [exc_none hm] at hG; exact hG.tail
  | some u =>
    rw [hm] at hv
    have : u = v := hv
    subst this
    exact Sep.back (pie_del (L := L) hn hm) hG
theorem st_look (h : Sep H0 K H) (hA : At K (.pred (stM mb L)) F) (who : List UInt8) : ∃ vs : Vals, H mb = some (mpB (ents S vs)) ∧ Vec H 44 2 ((mgt vs who).getD nilV) (ofP L who).length (rowsV recC (ofP L who)) := by
  obtain ⟨g, hg, hM⟩ := h.get hA
  have h1 : Sep emp (.pred (stM mb L) :: []) g := ⟨g, emp, fun _ => .inr rfl, Hp.le_refl _, fun _ _ e => by simp [emp] at e, ⟨g, Hp.le_refl _, hM⟩, fun _ _ e => e⟩
  obtain ⟨vs, v, hv, _, _, hS⟩ := st_open who h1
  refine ⟨vs, hg _ _ (hS.blk at0), ?_⟩
  rw [hv]
  exact (hS.vec at1).le hg
end
/-! a store, and its tape -/
abbrev stCells (tb mb : Nat) (x : StF) : List Value := [PT tb, S x.st.h, .map (some mb), .bool x.dd]
abbrev stBlk (tb mb : Nat) (x : StF) : Blk := ⟨stCells tb mb x, 4, 85⟩
def stA (b tb : Nat) (x : StF) (t : TapeS) : Hp → Prop := fun h => ∃ mb, Sep emp [.blk b (stBlk tb mb x), .pred (stM mb x.st.L), tapeC tb t] h
abbrev stC (b tb : Nat) (x : StF) (t : TapeS) : Chunk := .pred (stA b tb x t)
section
variable {H0 H : Hp} {K : List Chunk} {F : Chunk → List Chunk} {b tb mb : Nat} {x : StF} {t : TapeS}
theorem sto_open (h : Sep H0 (stC b tb x t :: K) H) : ∃ mb, Sep H0 (.blk b (stBlk tb mb x) :: .pred (stM mb x.st.L) :: tapeC tb t :: K) H := by
  obtain ⟨h1, ⟨g, hg, mb, hK⟩, hall⟩ := Sep.opened h
  exact ⟨mb, hall _ (hK.mono hg)⟩
theorem sto_close (h : Sep H0 (.blk b (stBlk tb mb x) :: .pred (stM mb x.st.L) :: tapeC tb t :: K) H) : Sep H0 (stC b tb x t :: K) H :=
  Sep.close _ (K := [.blk b (stBlk tb mb x), .pred (stM mb x.st.L), tapeC tb t]) h fun h1 hK => ⟨h1, Hp.le_refl _, mb, hK⟩
theorem sto_tape (h : Sep H0 (stC b tb x t :: K) H) : Sep H0 (tapeC tb t :: K) H := by
  obtain ⟨mb, h1⟩ := sto_open h
  exact h1.tail.tail
theorem sto_look (h : Sep H0 K H) (hA : At K (stC b tb x t) F) (who : List UInt8) : ∃ (mb : Nat) (vs : Vals), H b = some (stBlk tb mb x) ∧ H mb = some (mpB (ents S vs)) ∧ Vec H 44 2 ((mgt vs who).getD nilV) (ofP x.st.L who).length (rowsV recC (ofP x.st.L who)) := by
  obtain ⟨g, hg, mb, hK⟩ := h.get hA
  obtain ⟨vs, h1, h2⟩ := st_look hK at1 who
  exact ⟨mb, vs, hg _ _ (hK.blk at0), hg _ _ h1, h2.le hg⟩
end
end Go.Proofs.Ytfiojlmccflplaa
