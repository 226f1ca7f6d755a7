/-
  What package octets computes, in plain Lean. No condition.
-/
import Derived.Test.YtcmhdfbeepanlaaDoorDI
import Derived.Lib.ItoaNum
import Derived.Lib.Atoi
import Derived.Lib.SlTrimSet
namespace Go.Proofs.YtcmhdfbeepanlaaDoor
open Go Go.RowKit D
set_option linter.unusedVariables false
set_option linter.unusedSimpArgs false
def isDg (c : UInt8) : Bool := decide (48 ≤ c.toNat) && decide (c.toNat ≤ 57)
def dgs : List UInt8 := [48, 49, 50, 51, 52, 53, 54, 55, 56, 57]
theorem dgs_isDg : ∀ c : UInt8, dgs.contains c = isDg c := by
  intro c
  have : ∀ n : Fin 256, dgs.contains (UInt8.ofNat n.val) = isDg (UInt8.ofNat n.val) := by decide +kernel
  have h := this ⟨c.toNat, c.toNat_lt⟩
  simpa using h
def hdO (s : List UInt8) : List UInt8 := s.takeWhile isDg
def rsO (s : List UInt8) : List UInt8 := s.dropWhile isDg
theorem trimLeft_rs (s : List UInt8) : Lib.trimLeftS s dgs = rsO s := by
  unfold Lib.trimLeftS rsO
  congr 1
  funext c
  exact dgs_isDg c
theorem hd_rs (s : List UInt8) : hdO s ++ rsO s = s := List.takeWhile_append_dropWhile
theorem hd_rs_len (s : List UInt8) : (hdO s).length + (rsO s).length = s.length := by
  have := congrArg List.length (hd_rs s)
  simpa using this
theorem take_hd (s : List UInt8) : s.take ((s.length : Int) - (rsO s).length).toNat = hdO s := by
  have h1 := hd_rs_len s
  have h2 : ((s.length : Int) - (rsO s).length).toNat = (hdO s).length := by omega
  have h3 : (hdO s ++ rsO s).take (hdO s).length = hdO s := List.take_left
  rw [h2]
  rwa [hd_rs] at h3
theorem hd_all (s : List UInt8) : ∀ c ∈ hdO s, isDg c = true := by
  unfold hdO
  induction s with
  | nil => simp
  | cons a s ih =>
    intro c hc
    rw [List.takeWhile_cons] at hc
    by_cases h : isDg a = true
    · rw [if_pos h] at hc
      rcases List.mem_cons.1 hc with rfl | h2
      · exact h
      · exact ih c h2
    · rw [if_neg h] at hc; cases hc
theorem rs_first (s : List UInt8) (h : rsO s ≠ []) : ∃ c t, rsO s = c :: t ∧ isDg c = false := by
  unfold rsO at *
  induction s with
  | nil => simp at h
  | cons a s ih =>
    rw [List.dropWhile_cons] at h ⊢
    by_cases h1 : isDg a = true
    · rw [if_pos h1] at h ⊢; exact ih h
    · rw [if_neg h1]; exact ⟨a, s, rfl, by simpa using h1⟩
theorem hd_of (a : List UInt8) (r : List UInt8) (h1 : ∀ c ∈ a, isDg c = true) (h2 : ∀ c t, r = c :: t → isDg c = false) : hdO (a ++ r) = a ∧ rsO (a ++ r) = r := by
  induction a with
  | nil =>
    cases r with
    | nil => exact ⟨rfl, rfl⟩
    | cons c t =>
      have := h2 c t rfl
      unfold hdO rsO
      simp [List.takeWhile_cons, List.dropWhile_cons, this]
  | cons a l ih =>
    have ha := h1 a (List.mem_cons_self ..)
    have := ih (fun c hc => h1 c (List.mem_cons_of_mem _ hc))
    unfold hdO rsO at *
    simp [List.takeWhile_cons, List.dropWhile_cons, ha, this]
/-- The number of digits. -/
def decV (l : List UInt8) : Nat := l.foldl (fun n b => 10 * n + (b.toNat - 48)) 0
theorem decV_snoc (l : List UInt8) (b : UInt8) : decV (l ++ [b]) = 10 * decV l + (b.toNat - 48) := by unfold decV; rw [List.foldl_append]; rfl
theorem isDg_iff {c : UInt8} : isDg c = true ↔ 48 ≤ c.toNat ∧ c.toNat ≤ 57 := by simp [isDg]
theorem decFrom_dg (l : List UInt8) : ∀ acc, (∀ c ∈ l, isDg c = true) → Lib.decFrom acc l = some (l.foldl (fun n b => 10 * n + (b.toNat - 48)) acc) := by
  induction l with
  | nil => intro acc _; rfl
  | cons a l ih =>
    intro acc h
    have ha := isDg_iff.1 (h a (List.mem_cons_self ..))
    have hd : Lib.digitVal a = some (a.toNat - 48) := by unfold Lib.digitVal; rw [if_pos ha]
    rw [Lib.decFrom, hd]
    show Lib.decFrom (acc * 10 + (a.toNat - 48)) l = _
    rw [ih _ (fun c hc => h c (List.mem_cons_of_mem _ hc)), List.foldl_cons, Nat.mul_comm acc 10]
theorem atoi_dg {l : List UInt8} (h0 : l ≠ []) (h : ∀ c ∈ l, isDg c = true) : Lib.atoi l = some (decV l : Int) := by
  cases l with
  | nil => exact absurd rfl h0
  | cons a l =>
    have ha := isDg_iff.1 (h a (List.mem_cons_self ..))
    have h1 : (a == 45) = false := by
      have : a ≠ 45 := by rintro rfl; exact absurd ha.1 (by decide)
      simpa using this
    have h2 : (a == 43) = false := by
      have : a ≠ 43 := by rintro rfl; exact absurd ha.1 (by decide)
      simpa using this
    have h3 : Lib.decNat (a :: l) = some (decV (a :: l)) := by
      unfold Lib.decNat
      rw [if_neg (by simp), decFrom_dg _ 0 h]; rfl
    rw [Lib.atoi, h1, h2]
    simp [h3]
theorem decV_lt (l : List UInt8) (h : ∀ c ∈ l, isDg c = true) : decV l < 10 ^ l.length := by
  have := Lib.decFrom_lt l 0 (decV l) (decFrom_dg l 0 h)
  simpa using this
theorem decV_small {l : List UInt8} (h : ∀ c ∈ l, isDg c = true) (hl : l.length ≤ 4) : decV l < 10000 :=
  Nat.lt_of_lt_of_le (decV_lt l h) (Nat.pow_le_pow_right (by decide) hl : 10 ^ l.length ≤ 10 ^ 4)
/-- The next message, what is behind it, and what is wrong. -/
def nextP (s : List UInt8) : List UInt8 × List UInt8 × Int :=
  if s = [] then ([], [], 33) else if hdO s = [] ∨ bt (hdO s) 0 = 48 then ([], [], 11) else if 4 < (hdO s).length then ([], [], 13)
  else if rsO s = [] then ([], [], 33) else if bt (rsO s) 0 ≠ 32 then ([], [], 11) else if 8192 < decV (hdO s) then ([], [], 13)
  else if (rsO s).length ≤ decV (hdO s) then ([], [], 33) else (((rsO s).take (decV (hdO s) + 1)).drop 1, (rsO s).drop (decV (hdO s) + 1), 0)
section
variable {s : List UInt8}
theorem next_nil (h : s = []) : nextP s = ([], [], 33) := if_pos h
theorem next_bad0 (h0 : ¬ s = []) (h1 : hdO s = [] ∨ bt (hdO s) 0 = 48) : nextP s = ([], [], 11) := by rw [nextP, if_neg h0, if_pos h1]
theorem next_long (h0 : ¬ s = []) (h1 : ¬ (hdO s = [] ∨ bt (hdO s) 0 = 48)) (h2 : 4 < (hdO s).length) : nextP s = ([], [], 13) := by rw [nextP, if_neg h0, if_neg h1, if_pos h2]
theorem next_wait (h0 : ¬ s = []) (h1 : ¬ (hdO s = [] ∨ bt (hdO s) 0 = 48)) (h2 : (hdO s).length ≤ 4) (h3 : rsO s = []) : nextP s = ([], [], 33) := by rw [nextP, if_neg h0, if_neg h1, if_neg (by omega), if_pos h3]
theorem next_bad (h0 : ¬ s = []) (h1 : ¬ (hdO s = [] ∨ bt (hdO s) 0 = 48)) (h2 : (hdO s).length ≤ 4) (h3 : ¬ rsO s = []) (h4 : bt (rsO s) 0 ≠ 32) : nextP s = ([], [], 11) := by rw [nextP, if_neg h0, if_neg h1, if_neg (by omega), if_neg h3, if_pos h4]
theorem next_big (h0 : ¬ s = []) (h1 : ¬ (hdO s = [] ∨ bt (hdO s) 0 = 48)) (h2 : (hdO s).length ≤ 4) (h3 : ¬ rsO s = []) (h4 : bt (rsO s) 0 = 32) (h5 : 8192 < decV (hdO s)) : nextP s = ([], [], 13) := by rw [nextP, if_neg h0, if_neg h1, if_neg (by omega), if_neg h3, if_neg (by simp [h4]), if_pos h5]
theorem next_part (h0 : ¬ s = []) (h1 : ¬ (hdO s = [] ∨ bt (hdO s) 0 = 48)) (h2 : (hdO s).length ≤ 4) (h3 : ¬ rsO s = []) (h4 : bt (rsO s) 0 = 32) (h5 : decV (hdO s) ≤ 8192) (h6 : (rsO s).length ≤ decV (hdO s)) : nextP s = ([], [], 33) := by rw [nextP, if_neg h0, if_neg h1, if_neg (by omega), if_neg h3, if_neg (by simp [h4]), if_neg (by omega), if_pos h6]
theorem next_ok (h0 : ¬ s = []) (h1 : ¬ (hdO s = [] ∨ bt (hdO s) 0 = 48)) (h2 : (hdO s).length ≤ 4) (h3 : ¬ rsO s = []) (h4 : bt (rsO s) 0 = 32) (h5 : decV (hdO s) ≤ 8192) (h6 : decV (hdO s) < (rsO s).length) : nextP s = (((rsO s).take (decV (hdO s) + 1)).drop 1, (rsO s).drop (decV (hdO s) + 1), 0) := by rw [nextP, if_neg h0, if_neg h1, if_neg (by omega), if_neg h3, if_neg (by simp [h4]), if_neg (by omega), if_neg (by omega)]
end
theorem next_len (s : List UInt8) : (nextP s).1.length ≤ s.length ∧ (nextP s).2.1.length ≤ s.length ∧ 0 ≤ (nextP s).2.2 ∧ (nextP s).2.2 ≤ 33 := by
  have h := hd_rs_len s
  unfold nextP
  repeat' split
  all_goals (refine ⟨?_, ?_, ?_, ?_⟩ <;> simp <;> omega)
/-- A reader: the bytes that it has, and what was wrong. -/
structure RdO where
  s : List UInt8
  e : Int
abbrev rdC (r : RdO) : List Value := [S r.s, .int .i64 r.e]
def feedO (r : RdO) (d : List UInt8) : Int × RdO :=
  if r.e ≠ 0 then (r.e, r) else if 100000 < (r.s.length : Int) + d.length then (13, r) else (0, ⟨r.s ++ d, 0⟩)
theorem feed_err {r : RdO} {d : List UInt8} (h : r.e ≠ 0) : feedO r d = (r.e, r) := if_pos h
theorem feed_big {r : RdO} {d : List UInt8} (h : r.e = 0) (h1 : 100000 < (r.s.length : Int) + d.length) : feedO r d = (13, r) := by rw [feedO, if_neg (by simp [h]), if_pos h1]
theorem feed_ok {r : RdO} {d : List UInt8} (h : r.e = 0) (h1 : (r.s.length : Int) + d.length ≤ 100000) : feedO r d = (0, ⟨r.s ++ d, 0⟩) := by rw [feedO, if_neg (by simp [h]), if_neg (by omega)]
def nextO (r : RdO) : List UInt8 × Int × RdO :=
  if r.e ≠ 0 then ([], r.e, r) else if (nextP r.s).2.2 = 0 then ((nextP r.s).1, 0, ⟨(nextP r.s).2.1, 0⟩) else if (nextP r.s).2.2 = 33 then ((nextP r.s).1, 33, r) else ((nextP r.s).1, (nextP r.s).2.2, ⟨r.s, (nextP r.s).2.2⟩)
theorem nextO_err {r : RdO} (h : r.e ≠ 0) : nextO r = ([], r.e, r) := if_pos h
theorem nextO_ok {r : RdO} (h : r.e = 0) (h1 : (nextP r.s).2.2 = 0) : nextO r = ((nextP r.s).1, 0, ⟨(nextP r.s).2.1, 0⟩) := by rw [nextO, if_neg (by simp [h]), if_pos h1]
theorem nextO_busy {r : RdO} (h : r.e = 0) (h1 : (nextP r.s).2.2 = 33) : nextO r = ((nextP r.s).1, 33, r) := by rw [nextO, if_neg (by simp [h]), if_neg (by omega), if_pos h1]
theorem nextO_bad {r : RdO} (h : r.e = 0) (h1 : (nextP r.s).2.2 ≠ 0) (h2 : (nextP r.s).2.2 ≠ 33) : nextO r = ((nextP r.s).1, (nextP r.s).2.2, ⟨r.s, (nextP r.s).2.2⟩) := by rw [nextO, if_neg (by simp [h]), if_neg h1, if_neg h2]
/-- What is good for every reader that can be. -/
def RdOk (r : RdO) : Prop := r.s.length ≤ 100000 ∧ 0 ≤ r.e ∧ r.e ≤ 33
theorem feed_good {r : RdO} (h : RdOk r) (d : List UInt8) : RdOk (feedO r d).2 := by
  obtain ⟨h1, h2, h3⟩ := h
  unfold feedO
  repeat' split
  · exact ⟨h1, h2, h3⟩
  · exact ⟨h1, h2, h3⟩
  · refine ⟨?_, by simp, by simp⟩
    simp only [List.length_append]; omega
theorem nextO_good {r : RdO} (h : RdOk r) : RdOk (nextO r).2.2 := by
  obtain ⟨h1, h2, h3⟩ := h
  obtain ⟨g1, g2, g3, g4⟩ := next_len r.s
  unfold nextO
  repeat' split
  · exact ⟨h1, h2, h3⟩
  · exact ⟨by show (nextP r.s).2.1.length ≤ _; omega, by simp, by simp⟩
  · exact ⟨h1, h2, h3⟩
  · exact ⟨h1, g3, g4⟩
attribute [irreducible] nextP feedO nextO hdO rsO decV

/-! the document's reader, byte by byte -/
structure RfI (s : List UInt8) (i n : Nat) : Prop where
  le : i ≤ s.length
  four : i ≤ 4
  hd : i ≤ (hdO s).length
  val : n = decV ((hdO s).take i)
  nz : 0 < i → bt s 0 ≠ 48
variable {s : List UInt8} {i n : Nat}
theorem hd_get {j : Nat} (h : j < (hdO s).length) : bt s j = bt (hdO s) j := by
  have h1 := hd_rs s
  have : bt (hdO s ++ rsO s) j = bt (hdO s) j := by simp [bt, List.getElem?_append, h]
  rwa [h1] at this
theorem rs_get (s : List UInt8) (j : Nat) : bt s ((hdO s).length + j) = bt (rsO s) j := by
  have h1 := hd_rs s
  have : bt (hdO s ++ rsO s) ((hdO s).length + j) = bt (rsO s) j := by
    have : ¬ (hdO s).length + j < (hdO s).length := by omega
    simp [bt, List.getElem?_append, this]
  rwa [h1] at this
theorem hd_dig {j : Nat} (h : j < (hdO s).length) : 48 ≤ bt s j ∧ bt s j ≤ 57 := by
  rw [hd_get h]
  have h1 := hd_all s _ (List.getElem_mem h)
  have h2 := isDg_iff.1 h1
  have : bt (hdO s) j = ((hdO s)[j].toNat : Int) := by simp [bt, h]
  omega
theorem rf_init (s : List UInt8) : RfI s 0 0 := ⟨Nat.zero_le _, by omega, Nat.zero_le _, by unfold decV; simp, by omega⟩
/-- A byte that is a digit lies in the head. -/
theorem rf_in (h : RfI s i n) (hi : i < s.length) (hc : 48 ≤ bt s i ∧ bt s i ≤ 57) : i < (hdO s).length := by
  rcases Nat.lt_or_ge i (hdO s).length with g | g
  · exact g
  · exfalso
    have hil : i = (hdO s).length := Nat.le_antisymm h.hd g
    have hl := hd_rs_len s
    have hne : rsO s ≠ [] := by intro e; rw [e] at hl; simp at hl; omega
    obtain ⟨c, t, h1, h2⟩ := rs_first s hne
    have h3 := rs_get s 0
    rw [← hil, Nat.add_zero, h1] at h3
    have h4 : bt (c :: t) 0 = (c.toNat : Int) := rfl
    rw [h4] at h3
    have : isDg c = true := isDg_iff.2 (by omega)
    rw [this] at h2; cases h2
theorem rf_out (h : RfI s i n) (hi : i < s.length) (hc : ¬ (48 ≤ bt s i ∧ bt s i ≤ 57)) : (hdO s).length = i := by
  rcases Nat.lt_or_ge i (hdO s).length with g | g
  · exact absurd (hd_dig g) hc
  · exact Nat.le_antisymm g h.hd
theorem rf_step (h : RfI s i n) (hi : i < s.length) (hc : 48 ≤ bt s i ∧ bt s i ≤ 57) (h0 : 0 < i ∨ 48 < bt s i) (h4 : i ≠ 4) : RfI s (i + 1) (10 * n + (bt s i).toNat - 48) := by
  have hin := rf_in h hi hc
  refine ⟨by omega, by have := h.four; omega, hin, ?_, ?_⟩
  · have ht : (hdO s).take (i + 1) = (hdO s).take i ++ [(hdO s)[i]] := (List.take_append_getElem hin).symm
    rw [ht, decV_snoc, ← h.val]
    have hb : bt s i = ((hdO s)[i].toNat : Int) := by rw [hd_get hin]; simp [bt, hin]
    omega
  · intro _
    rcases Nat.eq_zero_or_pos i with rfl | g
    · omega
    · exact h.nz g
theorem rf_small (h : RfI s i n) : n < 10000 := by
  rw [h.val]
  exact decV_small (fun c hc => hd_all s c (List.mem_of_mem_take hc)) (by rw [List.length_take]; have := h.four; omega)
theorem u8_sub48 {x : Int} (h : 48 ≤ x ∧ x ≤ 57) : IntKind.u8.wrap (x - 48) = x - 48 := by
  have : ∀ y : Int, IntKind.u8.wrap y = y % 256 := fun y => by simp [IntKind.wrap, IntKind.bits, IntKind.signed]
  rw [this]; omega
theorem rf_ne (hi : i < s.length) : ¬ s = [] := by rintro rfl; simp at hi
theorem rf_hd (h : RfI s i n) (h0 : 0 < i) : ¬ (hdO s = [] ∨ bt (hdO s) 0 = 48) := by
  have h1 := h.hd
  rintro (g | g)
  · rw [g] at h1; simp at h1; omega
  · rw [← hd_get (by omega)] at g; exact h.nz h0 g
theorem rf_long (h : RfI s i n) (hi : i < s.length) (hc : 48 ≤ bt s i ∧ bt s i ≤ 57) (h4 : i = 4) : nextP s = ([], [], 13) :=
  next_long (rf_ne hi) (rf_hd h (by omega)) (by have := rf_in h hi hc; omega)
theorem rf_bad0 (h : RfI s i n) (hi : i < s.length) (h0 : i = 0) (hc : ¬ (48 < bt s i ∧ bt s i ≤ 57)) : nextP s = ([], [], 11) := by
  subst h0
  refine next_bad0 (rf_ne hi) ?_
  by_cases g : hdO s = []
  · exact .inl g
  · right
    have hl : 0 < (hdO s).length := List.length_pos_iff.2 g
    have := hd_dig hl
    rw [← hd_get hl]; omega
theorem rf_sep (h : RfI s i n) (hi : i < s.length) (hc : ¬ (48 ≤ bt s i ∧ bt s i ≤ 57)) : (hdO s).length = i ∧ ¬ rsO s = [] ∧ bt (rsO s) 0 = bt s i ∧ (rsO s).length = s.length - i ∧ decV (hdO s) = n := by
  have h1 := rf_out h hi hc
  have h2 := hd_rs_len s
  refine ⟨h1, ?_, ?_, by omega, ?_⟩
  · intro e; rw [e] at h2; simp at h2; omega
  · have := rs_get s 0; rw [h1, Nat.add_zero] at this; exact this.symm
  · rw [h.val, ← h1, List.take_length]
theorem rf_bad (h : RfI s i n) (hi : i < s.length) (h0 : 0 < i) (hc : ¬ (48 ≤ bt s i ∧ bt s i ≤ 57)) (h3 : bt s i ≠ 32) : nextP s = ([], [], 11) := by
  obtain ⟨g1, g2, g3, g4, g5⟩ := rf_sep h hi hc
  exact next_bad (rf_ne hi) (rf_hd h h0) (by have := h.four; omega) g2 (by rw [g3]; exact h3)
theorem rf_big (h : RfI s i n) (hi : i < s.length) (h0 : 0 < i) (h3 : bt s i = 32) (h4 : 8192 < n) : nextP s = ([], [], 13) := by
  obtain ⟨g1, g2, g3, g4, g5⟩ := rf_sep h hi (by omega)
  exact next_big (rf_ne hi) (rf_hd h h0) (by have := h.four; omega) g2 (by rw [g3]; exact h3) (by omega)
theorem rf_part (h : RfI s i n) (hi : i < s.length) (h0 : 0 < i) (h3 : bt s i = 32) (h4 : n ≤ 8192) (h5 : s.length < i + 1 + n) : nextP s = ([], [], 33) := by
  obtain ⟨g1, g2, g3, g4, g5⟩ := rf_sep h hi (by omega)
  exact next_part (rf_ne hi) (rf_hd h h0) (by have := h.four; omega) g2 (by rw [g3]; exact h3) (by omega) (by omega)
theorem rs_drop (s : List UInt8) : rsO s = s.drop (hdO s).length := by
  have h1 := hd_rs s
  have : (hdO s ++ rsO s).drop (hdO s).length = rsO s := List.drop_left
  rw [h1] at this; exact this.symm
theorem rf_ok (h : RfI s i n) (hi : i < s.length) (h0 : 0 < i) (h3 : bt s i = 32) (h4 : n ≤ 8192) (h5 : i + 1 + n ≤ s.length) : nextP s = ((s.take (i + 1 + n)).drop (i + 1), s.drop (i + 1 + n), 0) := by
  obtain ⟨g1, g2, g3, g4, g5⟩ := rf_sep h hi (by omega)
  rw [next_ok (rf_ne hi) (rf_hd h h0) (by have := h.four; omega) g2 (by rw [g3]; exact h3) (by omega) (by omega), g5, rs_drop, g1, List.drop_drop]
  congr 1
  · rw [List.take_drop, List.drop_drop]
    congr 2 <;> omega
  · congr 2; omega
theorem rf_end (h : RfI s i n) (hi : i = s.length) : nextP s = ([], [], 33) := by
  by_cases hs : s = []
  · exact next_nil hs
  · have hl : 0 < s.length := List.length_pos_iff.2 hs
    have h2 := hd_rs_len s
    have h3 := h.hd
    exact next_wait hs (rf_hd h (by omega)) (by have := h.four; omega) (List.length_eq_zero_iff.1 (by omega))
end Go.Proofs.YtcmhdfbeepanlaaDoor
