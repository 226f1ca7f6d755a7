/-
  What package spool takes up, in plain Lean. No condition.
-/
import Derived.Test.YtpaombkodoofgaaSqSpec
namespace Go.Proofs.Ytpaombkodoofgaa
open Go Go.RowKit D
set_option linter.unusedVariables false
set_option linter.unusedSimpArgs false
/-- Messages, up to which number they are acknowledged, and the last one's number. -/
structure SpS where
  l : RecL
  ak : Int
  la : Int
/-- The numbers are those behind the acknowledged ones. -/
def SpOk (s : SpS) : Prop := (s.l.length : Int) = s.la - s.ak ∧ 0 ≤ s.ak ∧ s.la ≤ 1000000000 ∧ ∀ (i : Nat) r, s.l[i]? = some r → r.seq = s.ak + 1 + i
def tkN (body : List UInt8) : Int := numB (body.drop (Int.toNat 1))
def tkR (body : List UInt8) : List UInt8 := body.drop (Int.toNat 5)
def tkMsg (s : SpS) (body : List UInt8) : Prop := bt body 0 = 109 ∧ tkN body = s.la + 1 ∧ ¬ tkR body = [] ∧ ((tkR body).length : Int) ≤ 8192
def tkMark (s : SpS) (body : List UInt8) : Prop := bt body 0 = 97 ∧ tkR body = [] ∧ s.ak < tkN body ∧ tkN body ≤ s.la
open Classical in
noncomputable def takeP (s : SpS) (body : List UInt8) : Bool × SpS :=
  if body.length ≤ 4 then (false, s) else if tkMsg s body then (true, ⟨s.l ++ [⟨tkN body, tkR body⟩], s.ak, tkN body⟩)
  else if tkMark s body then (true, ⟨kp (tkN body) s.l, tkN body, s.la⟩) else (false, s)
theorem take_short {s : SpS} {body : List UInt8} (h : body.length ≤ 4) : takeP s body = (false, s) := if_pos h
theorem take_msg {s : SpS} {body : List UInt8} (h : ¬ body.length ≤ 4) (h1 : tkMsg s body) : takeP s body = (true, ⟨s.l ++ [⟨tkN body, tkR body⟩], s.ak, tkN body⟩) := by rw [takeP, if_neg h, if_pos h1]
theorem take_mark {s : SpS} {body : List UInt8} (h : ¬ body.length ≤ 4) (h1 : ¬ tkMsg s body) (h2 : tkMark s body) : takeP s body = (true, ⟨kp (tkN body) s.l, tkN body, s.la⟩) := by rw [takeP, if_neg h, if_neg h1, if_pos h2]
theorem take_none {s : SpS} {body : List UInt8} (h : ¬ body.length ≤ 4) (h1 : ¬ tkMsg s body) (h2 : ¬ tkMark s body) : takeP s body = (false, s) := by rw [takeP, if_neg h, if_neg h1, if_neg h2]
theorem not_both {s : SpS} {body : List UInt8} (h : tkMark s body) : ¬ tkMsg s body := fun g => by have := h.1; rw [g.1] at this; exact absurd this (by decide)
theorem mark_first {s : SpS} {body : List UInt8} (hs : SpOk s) (h : tkMark s body) : ∃ r, s.l[0]? = some r ∧ r.seq ≤ tkN body := by
  have hl : 0 < s.l.length := by have := hs.1; have := h.2.2; omega
  refine ⟨s.l[0], List.getElem?_eq_getElem hl, ?_⟩
  have := hs.2.2.2 0 _ (List.getElem?_eq_getElem hl)
  have := h.2.2.1
  omega
end Go.Proofs.Ytpaombkodoofgaa
