/-
  What package tape computes, in plain Lean; and where a tape lies in memory.
-/
import Derived.Test.YtfiojlmccflplaaDV
import Derived.Test.YtfiojlmccflplaaProg
namespace Go.Proofs.Ytfiojlmccflplaa
open Go Go.RowKit D
set_option linter.unusedVariables false
set_option linter.unusedSimpArgs false
structure TapeS where
  lim : Int
  f : List UInt8
  l : List UInt8
  ar : Int
  dd : Bool
def actP (s : TapeS) : Int × TapeS := if s.ar = 1 then (41, { s with dd := true }) else (0, { s with ar := max 0 (s.ar - 1) })
theorem actP_die {s : TapeS} (h : s.ar = 1) : actP s = (41, { s with dd := true }) := if_pos h
theorem actP_go {s : TapeS} (h : ¬ s.ar = 1) : actP s = (0, { s with ar := max 0 (s.ar - 1) }) := if_neg h
def appendP (s : TapeS) (d : List UInt8) : Int × TapeS :=
  if s.dd = true then (41, s) else if s.lim < ((s.f.length + s.l.length : Nat) : Int) + (d.length : Int) then (40, s) else actP { s with l := s.l ++ d }
theorem appendP_dead {s : TapeS} {d : List UInt8} (h : s.dd = true) : appendP s d = (41, s) := if_pos h
theorem appendP_full {s : TapeS} {d : List UInt8} (h : s.dd = false) (h1 : s.lim < ((s.f.length + s.l.length : Nat) : Int) + (d.length : Int)) : appendP s d = (40, s) := by unfold appendP; rw [if_neg (by simp [h]), if_pos h1]
theorem appendP_ok {s : TapeS} {d : List UInt8} (h : s.dd = false) (h1 : ((s.f.length + s.l.length : Nat) : Int) + (d.length : Int) ≤ s.lim) : appendP s d = actP { s with l := s.l ++ d } := by unfold appendP; rw [if_neg (by simp [h]), if_neg (by omega)]
def syncP (s : TapeS) : Int × TapeS := if s.dd = true then (41, s) else if s.ar = 1 then (41, { s with dd := true }) else (0, { s with ar := max 0 (s.ar - 1), f := s.f ++ s.l, l := [] })
def cutP (s : TapeS) (n : Int) : Int × TapeS :=
  if s.dd = true then (41, s) else if n < 0 ∨ ((s.f.length + s.l.length : Nat) : Int) < n then (1, s) else if s.ar = 1 then (41, { s with dd := true }) else (0, { s with ar := max 0 (s.ar - 1), f := (s.f ++ s.l).take n.toNat, l := [] })
theorem syncP_dead {s : TapeS} (h : s.dd = true) : syncP s = (41, s) := if_pos h
theorem syncP_die {s : TapeS} (h : s.dd = false) (h1 : s.ar = 1) : syncP s = (41, { s with dd := true }) := by unfold syncP; rw [if_neg (by simp [h]), if_pos h1]
theorem syncP_ok {s : TapeS} (h : s.dd = false) (h1 : ¬ s.ar = 1) : syncP s = (0, { s with ar := max 0 (s.ar - 1), f := s.f ++ s.l, l := [] }) := by unfold syncP; rw [if_neg (by simp [h]), if_neg h1]
theorem cutP_dead {s : TapeS} {n : Int} (h : s.dd = true) : cutP s n = (41, s) := if_pos h
theorem cutP_bad {s : TapeS} {n : Int} (h : s.dd = false) (h1 : n < 0 ∨ ((s.f.length + s.l.length : Nat) : Int) < n) : cutP s n = (1, s) := by unfold cutP; rw [if_neg (by simp [h]), if_pos h1]
theorem cutP_die {s : TapeS} {n : Int} (h : s.dd = false) (h1 : 0 ≤ n ∧ n ≤ ((s.f.length + s.l.length : Nat) : Int)) (h2 : s.ar = 1) : cutP s n = (41, { s with dd := true }) := by unfold cutP; rw [if_neg (by simp [h]), if_neg (by omega), if_pos h2]
theorem cutP_ok {s : TapeS} {n : Int} (h : s.dd = false) (h1 : 0 ≤ n ∧ n ≤ ((s.f.length + s.l.length : Nat) : Int)) (h2 : ¬ s.ar = 1) : cutP s n = (0, { s with ar := max 0 (s.ar - 1), f := (s.f ++ s.l).take n.toNat, l := [] }) := by unfold cutP; rw [if_neg (by simp [h]), if_neg (by omega), if_neg h2]
def readP (s : TapeS) : List UInt8 × Int := if s.dd = true then ([], 41) else (s.f ++ s.l, 0)
def armP (s : TapeS) (n : Int) : TapeS := { s with ar := max n 0 }
/-- The last byte turned over. -/
def spoilP (l : List UInt8) : List UInt8 := if l.length = 0 then l else l.take (l.length - 1) ++ toB [ixor .u8 (bt l (l.length - 1)) 255]
def crashP (s : TapeS) (keep : Int) (spoil : Bool) : TapeS :=
  let kept := s.l.take (max 0 (min keep (s.l.length : Int))).toNat
  { s with f := s.f ++ (if spoil = true then spoilP kept else kept), l := [], dd := false, ar := 0 }
def tcells (s : TapeS) (fv lv : Value) : List Value := [.int .i64 s.lim, fv, lv, .int .i64 s.ar, .bool s.dd]
abbrev tblk (s : TapeS) (fv lv : Value) : Blk := ⟨tcells s fv lv, 5, 83⟩
/-- H owns H0, and beside it a tape at block b. -/
structure TapeAt (H0 H : Hp) (b : Nat) (s : TapeS) (fv lv : Value) : Prop where
  at' : H b = some (tblk s fv lv)
  vf : Vec H 5 1 fv s.f.length (nums .u8 (ofB s.f))
  vl : Vec H 5 1 lv s.l.length (nums .u8 (ofB s.l))
  le : H0.le H
  nb : H0 b = none
  nf : ∀ c, vblock fv = some c → H0 c = none
  nl : ∀ c, vblock lv = some c → H0 c = none
  bf : vblock fv ≠ some b
  bl : vblock lv ≠ some b
  fl : ∀ c, vblock fv = some c → vblock lv ≠ some c
def TapeR (H0 H : Hp) (b : Nat) (s : TapeS) : Prop := ∃ fv lv, TapeAt H0 H b s fv lv
/-- What is good for every tape that can be. -/
def TapeOk (s : TapeS) : Prop := s.lim ≤ 16777216 ∧ ((s.f.length + s.l.length : Nat) : Int) ≤ s.lim ∧ 0 ≤ s.ar ∧ s.ar ≤ 9223372036854775807
instance : DecidablePred TapeOk := fun s => by unfold TapeOk; infer_instance
variable {H0 H : Hp} {b : Nat} {s : TapeS} {fv lv : Value}
/-- The struct's numbers change. -/
theorem TapeAt.put (h : TapeAt H0 H b s fv lv) {ar : Int} {dd : Bool} : TapeAt H0 (H.set b (tblk { s with ar := ar, dd := dd } fv lv)) b { s with ar := ar, dd := dd } fv lv :=
  ⟨Hp.set_self, h.vf.set h.bf, h.vl.set h.bl, Hp.le_set_of h.le h.nb, h.nb, h.nf, h.nl, h.bf, h.bl, h.fl⟩
/-- The loose bytes grew. -/
theorem TapeAt.grewL (h : TapeAt H0 H b s fv lv) {l : List UInt8} {v : Value} {H' : Hp} {m : Nat} (hg : Grew H 5 1 lv m (nums .u8 (ofB l)) v H') (hm : m = l.length) : TapeAt H0 (H'.set b (tblk { s with l := l } fv v)) b { s with l := l } fv v := by
  subst hm
  have hfr := hg.frame h.le h.nl
  refine ⟨Hp.set_self, (hg.other h.vf fun c h1 h2 => h.fl c h1 h2).set h.bf, hg.vec.set (hg.apart h.bl h.at'), Hp.le_set_of hfr.1 h.nb, h.nb, h.nf, hfr.2, h.bf, hg.apart h.bl h.at', ?_⟩
  intro c h1 h2
  rcases hg.blk h2 with h3 | h3
  · exact h.fl c h1 h3
  · exact h.vf.owned h3 h1
/-- The firm bytes grew, and none are loose any more. -/
theorem TapeAt.grewF (h : TapeAt H0 H b s fv lv) {f : List UInt8} {v : Value} {H' : Hp} {m k : Nat} (hg : Grew H 5 1 fv m (nums .u8 (ofB f)) v H') (hm : m = f.length) (hk : k ≤ f.length) :
    TapeAt H0 (H'.set b (tblk { s with f := f.take k, l := [] } (takeV v k) nilV)) b { s with f := f.take k, l := [] } (takeV v k) nilV := by
  subst hm
  have hfr := hg.frame h.le h.nf
  have hv := hg.vec.take (a := k) hk
  have hlen : (f.take k).length = k := by rw [List.length_take]; omega
  refine ⟨Hp.set_self, ?_, .inl ⟨rfl, rfl, rfl⟩, Hp.le_set_of hfr.1 h.nb, h.nb, ?_, by simp [vblock], ?_, by simp [vblock], by simp [vblock]⟩
  · show Vec _ _ 1 (takeV v k) (f.take k).length _
    rw [hlen]
    refine Vec.set ?_ (by rw [takeV_block]; exact hg.apart h.bf h.at')
    have : (nums .u8 (ofB f)).take (k * 1) = nums .u8 (ofB (f.take k)) := by rw [Nat.mul_one, nums_take]; simp [ofB, List.map_take]
    rw [this] at hv
    exact hv
  · intro c hc
    rw [takeV_block] at hc
    exact hfr.2 c hc
  · rw [takeV_block]; exact hg.apart h.bf h.at'
theorem TapeAt.grewF0 (h : TapeAt H0 H b s fv lv) {f : List UInt8} {v : Value} {H' : Hp} {m : Nat} (hg : Grew H 5 1 fv m (nums .u8 (ofB f)) v H') (hm : m = f.length) :
    TapeAt H0 (H'.set b (tblk { s with f := f, l := [] } v nilV)) b { s with f := f, l := [] } v nilV := by
  have h1 := h.grewF hg hm (Nat.le_refl _)
  rw [List.take_length, ← hm, takeV_id hg.vec] at h1
  exact h1
/-- What is known of a tape whose loose bytes are not looked at any more. -/
structure TapeF (H0 H : Hp) (b : Nat) (s : TapeS) (fv lv : Value) : Prop where
  at' : H b = some (tblk s fv lv)
  vf : Vec H 5 1 fv s.f.length (nums .u8 (ofB s.f))
  le : H0.le H
  nb : H0 b = none
  nf : ∀ c, vblock fv = some c → H0 c = none
  bf : vblock fv ≠ some b
theorem ofB_append' (a c : List UInt8) : ofB (a ++ c) = ofB a ++ ofB c := by simp [ofB]
theorem ofB_toB' {x : Int} (h : 0 ≤ x ∧ x ≤ 255) : ofB (toB [x]) = [x] := by
  simp only [ofB, toB, List.map_cons, List.map_nil, UInt8.toNat_ofNat', List.cons.injEq, and_true]
  omega
theorem TapeAt.toF (h : TapeAt H0 H b s fv lv) : TapeF H0 H b s fv lv := ⟨h.at', h.vf, h.le, h.nb, h.nf, h.bf⟩
theorem TapeF.other (h : TapeF H0 H b s fv lv) {c : Nat} {o : Blk} (hc : H0 c = none) (hb : c ≠ b) (hf : vblock fv ≠ some c) : TapeF H0 (H.set c o) b s fv lv :=
  ⟨by rw [Hp.set_ne (Ne.symm hb)]; exact h.at', h.vf.set hf, Hp.le_set_of h.le hc, h.nb, h.nf, h.bf⟩
theorem TapeF.grew (h : TapeF H0 H b s fv lv) {f : List UInt8} {v : Value} {H' : Hp} {m : Nat} (hg : Grew H 5 1 fv m (nums .u8 (ofB f)) v H') (hm : m = f.length) :
    TapeAt H0 (H'.set b (tblk { s with f := f, l := [] } v nilV)) b { s with f := f, l := [] } v nilV := by
  subst hm
  have hfr := hg.frame h.le h.nf
  exact ⟨Hp.set_self, hg.vec.set (hg.apart h.bf h.at'), .inl ⟨rfl, rfl, rfl⟩, Hp.le_set_of hfr.1 h.nb, h.nb, hfr.2, by simp [vblock], hg.apart h.bf h.at', by simp [vblock], by simp [vblock]⟩
theorem bt_take' (l : List UInt8) {k i : Nat} (h : i < k) : bt (l.take k) i = bt l i := bt_take l h
theorem cell_of {q : Blk} {k j : Nat} {xs : List Int} (h : q.cells.take (k * 1) = nums .u8 xs) (hj : j < xs.length) (hk : j < k) : q.cells[j]? = some (.int .u8 (xs.getD j 0)) := by
  rw [← nums_get .u8 xs hj, ← h, List.getElem?_take, if_pos (by omega)]
theorem spoil_set {l : List UInt8} (h : 0 < l.length) : (ofB l).set (l.length - 1) (ixor .u8 (bt l (l.length - 1)) 255) = ofB (spoilP l) := by
  have hr : 0 ≤ ixor .u8 (bt l (l.length - 1)) 255 ∧ ixor .u8 (bt l (l.length - 1)) 255 ≤ 255 := by
    unfold ixor
    have : ∀ y : Nat, IntKind.u8.wrap (y : Int) = (y : Int) % 256 := fun y => by simp [IntKind.wrap, IntKind.bits, IntKind.signed]
    rw [this]; omega
  unfold spoilP
  rw [if_neg (by omega)]
  obtain ⟨a, z, rfl⟩ : ∃ a z, l = a ++ [z] := ⟨l.dropLast, l.getLast (fun e => by simp [e] at h), (List.dropLast_concat_getLast _).symm⟩
  simp only [List.length_append, List.length_cons, List.length_nil, Nat.add_sub_cancel, Nat.zero_add] at hr ⊢
  rw [List.take_left, ofB_append', ofB_append', ofB_toB' hr]
  simp [ofB]
@[simp] theorem tcells_length (s : TapeS) (fv lv : Value) : (tcells s fv lv).length = 5 := rfl
theorem ofB_append (a c : List UInt8) : ofB (a ++ c) = ofB a ++ ofB c := by simp [ofB]
theorem actAt (h : TapeAt H0 H b s fv lv) : TapeAt H0 (H.set b (tblk (actP s).2 fv lv)) b (actP s).2 fv lv := by
  unfold actP; split <;> exact h.put
end Go.Proofs.Ytfiojlmccflplaa
