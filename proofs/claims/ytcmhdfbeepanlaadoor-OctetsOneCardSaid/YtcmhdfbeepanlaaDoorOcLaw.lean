/-
  Frames of octets: what is read of them, and of their beginnings. No condition.
-/
import Derived.Test.YtcmhdfbeepanlaaDoorOcSpec
namespace Go.Proofs.YtcmhdfbeepanlaaDoor
open Go Go.RowKit D
set_option linter.unusedVariables false
set_option linter.unusedSimpArgs false
def digN (n : Nat) : List UInt8 := Lib.decDigits n
theorem digN_small {n : Nat} (h : n < 10) : digN n = [UInt8.ofNat (48 + n)] := by unfold digN; rw [Lib.decDigits, dif_pos h]
theorem digN_big {n : Nat} (h : ¬ n < 10) : digN n = digN (n / 10) ++ [UInt8.ofNat (48 + n % 10)] := by unfold digN; rw [Lib.decDigits, dif_neg h]
theorem dig_nat {k : Nat} (h : k < 10) : (UInt8.ofNat (48 + k)).toNat = 48 + k := by simp [UInt8.toNat_ofNat']; omega
theorem dig_isDg {k : Nat} (h : k < 10) : isDg (UInt8.ofNat (48 + k)) = true := isDg_iff.2 (by rw [dig_nat h]; omega)
theorem dig_all (n : Nat) : ∀ c ∈ digN n, isDg c = true := by
  induction n using Nat.strongRecOn with
  | _ n ih =>
    intro c hc
    by_cases h : n < 10
    · rw [digN_small h] at hc
      rw [List.mem_singleton] at hc; subst hc; exact dig_isDg h
    · rw [digN_big h, List.mem_append] at hc
      rcases hc with hc | hc
      · exact ih (n / 10) (by omega) c hc
      · rw [List.mem_singleton] at hc; subst hc; exact dig_isDg (by omega)
theorem dig_val (n : Nat) : decV (digN n) = n := by
  induction n using Nat.strongRecOn with
  | _ n ih =>
    by_cases h : n < 10
    · rw [digN_small h, show [UInt8.ofNat (48 + n)] = [] ++ [UInt8.ofNat (48 + n)] from rfl, decV_snoc, dig_nat h]
      have : decV [] = 0 := by unfold decV; rfl
      omega
    · rw [digN_big h, decV_snoc, ih (n / 10) (by omega), dig_nat (by omega)]; omega
theorem dig_ne (n : Nat) : digN n ≠ [] := by
  by_cases h : n < 10
  · rw [digN_small h]; simp
  · rw [digN_big h]; simp
theorem dig_pos (n : Nat) : 0 < (digN n).length := List.length_pos_iff.2 (dig_ne n)
theorem dig_len : ∀ (k n : Nat), n < 10 ^ (k + 1) → (digN n).length ≤ k + 1 := by
  intro k
  induction k with
  | zero => intro n h; rw [digN_small (by simpa using h)]; simp
  | succ k ih =>
    intro n h
    by_cases h1 : n < 10
    · rw [digN_small h1]; simp
    · have hp : 10 ^ (k + 1 + 1) = 10 ^ (k + 1) * 10 := Nat.pow_succ ..
      rw [digN_big h1, List.length_append]
      have := ih (n / 10) (by omega)
      simp; omega
theorem dig_first (n : Nat) (h : 0 < n) : bt (digN n) 0 ≠ 48 := by
  induction n using Nat.strongRecOn with
  | _ n ih =>
    by_cases h1 : n < 10
    · rw [digN_small h1]
      have : bt [UInt8.ofNat (48 + n)] 0 = ((UInt8.ofNat (48 + n)).toNat : Int) := rfl
      rw [this, dig_nat h1]; omega
    · rw [digN_big h1]
      have h2 := ih (n / 10) (by omega) (by omega)
      have h3 := dig_pos (n / 10)
      have : bt (digN (n / 10) ++ [UInt8.ofNat (48 + n % 10)]) 0 = bt (digN (n / 10)) 0 := by simp [bt, List.getElem?_append, h3]
      rwa [this]
theorem itoa_dig (n : Nat) : Lib.itoa (n : Int) = digN n := by unfold Lib.itoa digN; rw [if_neg (by omega)]; simp
def frO (m : List UInt8) : List UInt8 := digN m.length ++ [32] ++ m
theorem frO_len (m : List UInt8) : (frO m).length = (digN m.length).length + 1 + m.length := by simp [frO]; omega
def frameO (m : List UInt8) : List UInt8 × Int := if m = [] then ([], 1) else if 8192 < m.length then ([], 13) else (frO m, 0)
theorem frameO_nil {m : List UInt8} (h : m = []) : frameO m = ([], 1) := if_pos h
theorem frameO_big {m : List UInt8} (h : ¬ m = []) (h1 : 8192 < m.length) : frameO m = ([], 13) := by rw [frameO, if_neg h, if_pos h1]
theorem frameO_ok {m : List UInt8} (h : ¬ m = []) (h1 : m.length ≤ 8192) : frameO m = (frO m, 0) := by rw [frameO, if_neg h, if_neg (by omega)]
theorem bt_append0 {a b : List UInt8} (h : 0 < a.length) : bt (a ++ b) 0 = bt a 0 := by simp [bt, List.getElem?_append, h]
/-- Digits, then what is no digit. -/
theorem hd_dig_rest (n : Nat) (r : List UInt8) (h : ∀ c t, r = c :: t → isDg c = false) : hdO (digN n ++ r) = digN n ∧ rsO (digN n ++ r) = r := hd_of _ _ (dig_all n) h
theorem next_fr (m rest : List UInt8) (h0 : 0 < m.length) (h1 : m.length ≤ 8192) : nextP (frO m ++ rest) = (m, rest, 0) := by
  have he : frO m ++ rest = digN m.length ++ (32 :: (m ++ rest)) := by simp [frO]
  obtain ⟨g1, g2⟩ := hd_dig_rest m.length (32 :: (m ++ rest)) (by rintro c t ⟨rfl, _⟩; rfl)
  have hl := dig_len 3 m.length (by omega)
  rw [he, next_ok (by have := dig_ne m.length; simp) (by rw [g1]; rintro (e | e); exact dig_ne _ e; exact dig_first _ h0 e) (by rw [g1]; omega) (by rw [g2]; simp) (by rw [g2]; rfl) (by rw [g1, dig_val]; omega)
    (by rw [g1, g2, dig_val]; simp; omega), g1, g2, dig_val]
  simp [List.take_succ_cons, List.drop_succ_cons]
theorem next_cut (m : List UInt8) (k : Nat) (h0 : 0 < m.length) (h1 : m.length ≤ 8192) (hk : k < (frO m).length) : nextP ((frO m).take k) = ([], [], 33) := by
  have hl := dig_len 3 m.length (by omega)
  rw [frO_len] at hk
  rcases Nat.lt_or_ge (digN m.length).length k with g | g
  · have he : (frO m).take k = digN m.length ++ (32 :: m.take (k - (digN m.length).length - 1)) := by
      unfold frO
      rw [List.append_assoc, List.take_append, List.take_of_length_le (by omega)]
      congr 1
      obtain ⟨j, hj⟩ : ∃ j, k - (digN m.length).length = j + 1 := ⟨k - (digN m.length).length - 1, by omega⟩
      rw [hj]; simp
    obtain ⟨g1, g2⟩ := hd_dig_rest m.length (32 :: m.take (k - (digN m.length).length - 1)) (by rintro c t ⟨rfl, _⟩; rfl)
    rw [he]
    exact next_part (by have := dig_ne m.length; simp) (by rw [g1]; rintro (e | e); exact dig_ne _ e; exact dig_first _ h0 e) (by rw [g1]; omega) (by rw [g2]; simp) (by rw [g2]; rfl) (by rw [g1, dig_val]; omega)
      (by rw [g1, g2, dig_val]; simp; omega)
  · have he : (frO m).take k = (digN m.length).take k := by
      unfold frO
      rw [List.append_assoc, List.take_append, show k - (digN m.length).length = 0 from by omega, List.take_zero, List.append_nil]
    rw [he]
    rcases Nat.eq_zero_or_pos k with rfl | g0
    · exact next_nil (by simp)
    · obtain ⟨g1, g2⟩ := hd_of ((digN m.length).take k) [] (fun c hc => dig_all _ c (List.mem_of_mem_take hc)) (by rintro c t e; cases e)
      rw [List.append_nil] at g1 g2
      have hp : 0 < ((digN m.length).take k).length := by rw [List.length_take]; have := dig_pos m.length; omega
      have hb : bt ((digN m.length).take k) 0 = bt (digN m.length) 0 := bt_take _ g0
      exact next_wait (List.length_pos_iff.1 hp) (by rw [g1]; rintro (e | e); (rw [e] at hp; simp at hp); (rw [hb] at e; exact dig_first _ h0 e)) (by rw [g1, List.length_take]; omega) g2
/-- All frames, one behind the other. -/
def frsO : List (List UInt8) → List UInt8
  | [] => []
  | m :: l => frO m ++ frsO l
theorem frsO_snoc (l : List (List UInt8)) (m : List UInt8) : frsO (l ++ [m]) = frsO l ++ frO m := by
  induction l with
  | nil => simp [frsO]
  | cons a l ih => simp [frsO, ih, List.append_assoc]
theorem frsO_drop (l : List (List UInt8)) {n : Nat} (h : n < l.length) : frsO (l.drop n) = frO (l.getD n []) ++ frsO (l.drop (n + 1)) := by
  rw [List.drop_eq_getElem_cons h, frsO]
  simp [h]
/-- What the cut law keeps: what the reader has and what is to come are the frames from n on; the reader has no whole one. -/
theorem cut_next {l : List (List UInt8)} (hl : ∀ j, j < l.length → 0 < (l.getD j []).length ∧ (l.getD j []).length ≤ 1000) {s all : List UInt8} {n : Nat} (hn : n ≤ l.length) (h : s ++ all = frsO (l.drop n)) :
    (nextP s = ([], [], 33) ∧ (all = [] → n = l.length)) ∨ (n < l.length ∧ ∃ t, nextP s = (l.getD n [], t, 0) ∧ t ++ all = frsO (l.drop (n + 1)) ∧ t.length < s.length) := by
  rcases Nat.lt_or_ge n l.length with g | g
  · obtain ⟨h0, h1⟩ := hl n g
    rw [frsO_drop l g] at h
    rcases Nat.lt_or_ge s.length (frO (l.getD n [])).length with g1 | g1
    · left
      have hs : s = (frO (l.getD n [])).take s.length := by
        have := congrArg (List.take s.length) h
        rw [List.take_left, List.take_append, show s.length - (frO (l.getD n [])).length = 0 from by omega, List.take_zero, List.append_nil] at this
        exact this
      refine ⟨?_, ?_⟩
      · rw [hs]; exact next_cut _ _ h0 (by omega) g1
      · intro e
        exfalso
        rw [e, List.append_nil] at h
        have := congrArg List.length h
        rw [List.length_append] at this; omega
    · right
      have hs : s = frO (l.getD n []) ++ s.drop (frO (l.getD n [])).length := by
        have := congrArg (List.take (frO (l.getD n [])).length) h
        rw [List.take_left, List.take_append_of_le_length g1] at this
        conv => lhs; rw [← List.take_append_drop (frO (l.getD n [])).length s, this]
      refine ⟨g, s.drop (frO (l.getD n [])).length, ?_, ?_, ?_⟩
      · conv => lhs; rw [hs]
        exact next_fr _ _ h0 (by omega)
      · rw [hs, List.append_assoc] at h
        exact List.append_cancel_left h
      · rw [List.length_drop, frO_len] at *; omega
  · left
    have hnl : n = l.length := by omega
    rw [hnl, List.drop_length] at h
    have hs : s = [] := (List.append_eq_nil_iff.1 h).1
    exact ⟨next_nil hs, fun _ => hnl⟩
theorem frsO_len (l : List (List UInt8)) (hl : ∀ j, j < l.length → (l.getD j []).length ≤ 1000) : (frsO l).length ≤ 1005 * l.length := by
  induction l with
  | nil => simp [frsO]
  | cons a l ih =>
    have h0 := hl 0 (by simp)
    have h1 := ih (fun j hj => by have := hl (j + 1) (by simp; omega); simpa using this)
    have h2 := dig_len 3 a.length (by simp at h0; omega)
    simp at h0
    rw [frsO, List.length_append, frO_len, List.length_cons]; omega
end Go.Proofs.YtcmhdfbeepanlaaDoor
