/-
  What chapter 15's readers do, in plain Lean: no program is in sight here.
-/
import Derived.Test.YtfpoldogcopmpaaDoorReSpec
namespace Go.Proofs.YtfpoldogcopmpaaDoor
open Go Go.RowKit D
set_option linter.unusedVariables false
set_option linter.unusedSimpArgs false
set_option maxRecDepth 100000
theorem awF1 : feedP [] 0 [22, 3] = (0, [22, 3]) := feedP_ok (by decide)
theorem awN1 : nextP [22, 3] 0 = ((0, [], 33), ([22, 3], 0)) := nextP_busy (by rw [sizeP_short (badP_not3 (by decide +kernel)) (by decide)])
theorem awF2 : feedP [22, 3] 0 [4] = (0, [22, 3, 4]) := feedP_ok (by decide)
theorem awN2 : nextP [22, 3, 4] 0 = ((0, [], 11), ([22, 3, 4], 11)) := by
  have h := sizeP_bad (s := [22, 3, 4]) (badP_of3 (by decide) (by decide +kernel))
  rw [nextP_wrong (by rw [h]; decide) (by rw [h]; decide), h]
theorem awFr : frameP 22 [97, 98] = ([22, 3, 3, 0, 2, 97, 98], 0) := by
  rw [frameP_ok (by decide +kernel) (by decide)]
  rfl
/-! however bytes are cut -/
def fr (ss : List (List UInt8)) (i : Nat) : List UInt8 := headP (20 + (i : Int) % 4) (ss.getD i []).length ++ ss.getD i []
def accF (ss : List (List UInt8)) : Nat → List UInt8
  | 0 => []
  | i + 1 => accF ss i ++ fr ss i
def restF (ss : List (List UInt8)) : Nat → Nat → List UInt8
  | 0, _ => []
  | c + 1, n => fr ss n ++ restF ss c (n + 1)
theorem fr_length (ss : List (List UInt8)) (i : Nat) : (fr ss i).length = 5 + (ss.getD i []).length := by simp [fr]
theorem isK_kd (i : Nat) : isK (20 + (i : Int) % 4) = true := by
  unfold isK; simp only [Bool.and_eq_true, decide_eq_true_eq]; omega
theorem fr_ok {ss : List (List UInt8)} {i : Nat} (h : (ss.getD i []).length ≤ 16640) : frameP (20 + (i : Int) % 4) (ss.getD i []) = (fr ss i, 0) := frameP_ok (isK_kd i) h
theorem accF_length {ss : List (List UInt8)} : ∀ {i : Nat}, (∀ j, j < i → (ss.getD j []).length ≤ 1000) → (accF ss i).length ≤ 1005 * i := by
  intro i
  induction i with
  | zero => intro _; simp [accF]
  | succ i ih =>
    intro h
    have h1 := ih fun j hj => h j (by omega)
    have h2 := h i (by omega)
    rw [accF, List.length_append, fr_length]; omega
theorem accF_rest (ss : List (List UInt8)) : ∀ (c i : Nat), accF ss i ++ restF ss c i = accF ss (i + c) := by
  intro c
  induction c with
  | zero => intro i; simp [restF]
  | succ c ih =>
    intro i
    rw [restF, ← List.append_assoc, show accF ss i ++ fr ss i = accF ss (i + 1) from rfl, ih, show i + 1 + c = i + (c + 1) from by omega]
theorem cutInit (ss : List (List UInt8)) : [] ++ accF ss ss.length = restF ss (ss.length - 0) 0 := by
  have := accF_rest ss ss.length 0
  rw [Nat.zero_add] at this
  rw [Nat.sub_zero, ← this]; rfl
theorem bt_append_left {a b : List UInt8} {i : Nat} (h : i < a.length) : bt (a ++ b) i = bt a i := by simp [bt, List.getElem?_append, h]
theorem headP_bytes {kind : Int} {n : Nat} (hk : 0 ≤ kind ∧ kind ≤ 255) (hn : n ≤ 1000) : bt (headP kind n) 0 = kind ∧ bt (headP kind n) 1 = 3 ∧ bt (headP kind n) 2 = 3 ∧ bt (headP kind n) 3 = (n : Int) / 256 ∧ bt (headP kind n) 4 = (n : Int) % 256 := by
  have e : headP kind n = [UInt8.ofNat (IntKind.u8.wrap kind).toNat, 3, 3, UInt8.ofNat (IntKind.u8.wrap ((n : Int) / 256)).toNat, UInt8.ofNat (IntKind.u8.wrap (n : Int)).toNat] := rfl
  rw [e]
  refine ⟨?_, rfl, rfl, ?_, ?_⟩
  · show ((UInt8.ofNat (IntKind.u8.wrap kind).toNat).toNat : Int) = kind
    rw [UInt8.toNat_ofNat', wrap_u8]; omega
  · show ((UInt8.ofNat (IntKind.u8.wrap ((n : Int) / 256)).toNat).toNat : Int) = _
    rw [UInt8.toNat_ofNat', wrap_u8]; omega
  · show ((UInt8.ofNat (IntKind.u8.wrap (n : Int)).toNat).toNat : Int) = _
    rw [UInt8.toNat_ofNat', wrap_u8]; omega
/-- What a reader sees of bytes that begin as frame i does. -/
theorem size_of {s : List UInt8} {ss : List (List UInt8)} {i : Nat} {t x : List UInt8} (hb : (ss.getD i []).length ≤ 1000) (h : s ++ t = fr ss i ++ x) :
    (s.length < 5 + (ss.getD i []).length → (sizeP s).2 = 33) ∧ (5 + (ss.getD i []).length ≤ s.length → sizeP s = (((ss.getD i []).length : Int), 0)) := by
  obtain ⟨b0, b1, b2, b3, b4⟩ := headP_bytes (kind := 20 + (i : Int) % 4) (n := (ss.getD i []).length) (by omega) hb
  have hbt : ∀ j, j < s.length → j < 5 → bt s j = bt (headP (20 + (i : Int) % 4) (ss.getD i []).length) j := by
    intro j hj hj5
    have h1 : bt (s ++ t) j = bt s j := bt_append_left hj
    rw [h, fr, List.append_assoc, bt_append_left (by rw [headP_length]; exact hj5)] at h1
    exact h1.symm
  have hgood : ¬ badP s := by
    intro hbad
    obtain ⟨j, h1, h2, h3⟩ := badP_iff.1 hbad
    rcases h3 with ⟨rfl, h3⟩ | ⟨h3, h4⟩
    · rw [hbt 0 h1 (by omega), b0, isK_kd] at h3; cases h3
    · rcases (by omega : j = 1 ∨ j = 2) with rfl | rfl
      · rw [hbt 1 h1 (by omega), b1] at h4; exact h4 rfl
      · rw [hbt 2 h1 (by omega), b2] at h4; exact h4 rfl
  by_cases h5 : s.length < 5
  · exact ⟨fun _ => by rw [sizeP_short hgood h5], fun h => by omega⟩
  · have e3 := hbt 3 (by omega) (by omega)
    have e4 := hbt 4 (by omega) (by omega)
    rw [b3] at e3; rw [b4] at e4
    have hn : 256 * bt s 3 + bt s 4 = ((ss.getD i []).length : Int) := by rw [e3, e4]; omega
    refine ⟨fun h => ?_, fun h => ?_⟩
    · rw [sizeP_wait hgood (by omega) (by omega) (by omega)]
    · rw [sizeP_ok hgood (by omega) (by omega) (by omega), hn]
theorem size_nil : (sizeP []).2 = 33 := by
  rw [sizeP_short (fun h => by obtain ⟨j, h1, _⟩ := badP_iff.1 h; simp at h1) (by decide)]
/-- Behind each piece: the reader waits, or the next record is the next body. -/
theorem cut_case {ss : List (List UInt8)} (hb : ∀ j, j < ss.length → (ss.getD j []).length ≤ 1000) {n : Nat} (hn : n ≤ ss.length) {s t : List UInt8} (h : s ++ t = restF ss (ss.length - n) n) :
    (sizeP s).2 = 33 ∨ (n < ss.length ∧ ∃ s3, nextP s 0 = ((20 + (n : Int) % 4, ss.getD n [], 0), (s3, 0)) ∧ s3 ++ t = restF ss (ss.length - (n + 1)) (n + 1)) := by
  by_cases hlt : n < ss.length
  · obtain ⟨c, hc⟩ : ∃ c, ss.length - n = c + 1 := ⟨ss.length - n - 1, by omega⟩
    rw [hc, restF] at h
    have hbn := hb n hlt
    obtain ⟨h1, h2⟩ := size_of hbn h
    by_cases hl : s.length < 5 + (ss.getD n []).length
    · exact .inl (h1 hl)
    · have hs := h2 (by omega)
      obtain ⟨s3, rfl⟩ : ∃ s3, s = fr ss n ++ s3 := by
        refine ⟨s.drop (fr ss n).length, ?_⟩
        have h3 : s.take (fr ss n).length = fr ss n := by
          have h4 : (s ++ t).take (fr ss n).length = s.take (fr ss n).length := List.take_append_of_le_length (by rw [fr_length]; omega)
          rw [h, List.take_left] at h4
          exact h4.symm
        rw [← h3, List.length_take, Nat.min_eq_left (by rw [fr_length]; omega), h3]
        conv => lhs; rw [← List.take_append_drop (fr ss n).length s, h3]
      refine .inr ⟨hlt, s3, ?_, ?_⟩
      · rw [nextP_ok (by rw [hs]), hs]
        obtain ⟨b0, _⟩ := headP_bytes (kind := 20 + (n : Int) % 4) (n := (ss.getD n []).length) (by omega) hbn
        have hfl := fr_length ss n
        have e0 : bt (fr ss n ++ s3) 0 = 20 + (n : Int) % 4 := by rw [bt_append_left (by omega), fr, bt_append_left (by rw [headP_length]; omega), b0]
        have e1 : (5 + ((ss.getD n []).length : Int)).toNat = (fr ss n).length := by omega
        simp only [e0, e1, List.take_left, List.drop_left]
        have e2 : (fr ss n).drop 5 = ss.getD n [] := by
          have : 5 = (headP (20 + (n : Int) % 4) (ss.getD n []).length).length := rfl
          rw [fr, this, List.drop_left]
        rw [e2]
      · rw [List.append_assoc] at h
        rw [show ss.length - (n + 1) = c from by omega]
        exact List.append_cancel_left h
  · have : ss.length - n = 0 := by omega
    rw [this, restF] at h
    have hs : s = [] := (List.append_eq_nil_iff.1 h).1
    rw [hs]; exact .inl size_nil
theorem cut_done {ss : List (List UInt8)} (hb : ∀ j, j < ss.length → (ss.getD j []).length ≤ 1000) {n : Nat} (hn : n ≤ ss.length) {s t : List UInt8} (h : s ++ t = restF ss (ss.length - n) n) (ht : t.length = 0) (hw : (sizeP s).2 = 33) : n = ss.length := by
  refine Classical.byContradiction fun hne => ?_
  have ht' : t = [] := List.eq_nil_of_length_eq_zero ht
  subst ht'
  obtain ⟨c, hc⟩ : ∃ c, ss.length - n = c + 1 := ⟨ss.length - n - 1, by omega⟩
  have h' := h
  rw [hc, restF] at h'
  have h2 := (size_of (hb n (by omega)) h').2 (by
    have := congrArg List.length h'
    simp only [List.length_append, fr_length, List.length_nil] at this
    omega)
  rw [h2] at hw; cases hw
theorem rest_length {ss : List (List UInt8)} (hb : ∀ j, j < ss.length → (ss.getD j []).length ≤ 1000) : ∀ (c n : Nat), n + c ≤ ss.length → (restF ss c n).length ≤ 1005 * c := by
  intro c
  induction c with
  | zero => intro n _; simp [restF]
  | succ c ih =>
    intro n h
    have h1 := ih (n + 1) (by omega)
    have h2 := hb n (by omega)
    rw [restF, List.length_append, fr_length]; omega
theorem cut_small {ss : List (List UInt8)} (hb : ∀ j, j < ss.length → (ss.getD j []).length ≤ 1000) (h10 : ss.length ≤ 10) {n : Nat} (hn : n ≤ ss.length) {s t : List UInt8} (h : s ++ t = restF ss (ss.length - n) n) : s.length + t.length ≤ 10050 := by
  have h1 := rest_length hb (ss.length - n) n (by omega)
  have := congrArg List.length h
  rw [List.length_append] at this
  omega
end Go.Proofs.YtfpoldogcopmpaaDoor
