/-
  The arithmetic of chapter 04: what digits that are carried, added and multiplied are, modulo 2^130 - 5.
-/
import Derived.Test.YtoeholbdocmlnaaPoSpec
namespace Go.Proofs.Ytoeholbdocmlnaa
open Go Go.RowKit D
set_option linter.unusedVariables false
set_option linter.unusedSimpArgs false
set_option maxHeartbeats 1000000
def pp : Int := 1361129467683753853853498429727072845819
def Cg (x y : Int) : Prop := ∃ q, x = y + q * pp
theorem Cg.refl (x : Int) : Cg x x := ⟨0, by omega⟩
theorem Cg.trans {x y z : Int} (h : Cg x y) (k : Cg y z) : Cg x z := by obtain ⟨q, h⟩ := h; obtain ⟨r, k⟩ := k; exact ⟨q + r, by grind⟩
theorem Cg.add {x y z w : Int} (h : Cg x y) (k : Cg z w) : Cg (x + z) (y + w) := by obtain ⟨q, h⟩ := h; obtain ⟨r, k⟩ := k; exact ⟨q + r, by grind⟩
theorem Cg.mul {x y z w : Int} (h : Cg x y) (k : Cg z w) : Cg (x * z) (y * w) := by obtain ⟨q, h⟩ := h; obtain ⟨r, k⟩ := k; exact ⟨q * w + y * r + q * r * pp, by grind⟩
theorem Cg.mod (x : Int) : Cg x (x % pp) := ⟨x / pp, by have := Int.emod_add_mul_ediv x pp; grind⟩
theorem Cg.same {x y : Int} (h : Cg x y) (hx : 0 ≤ x ∧ x < pp) (hy : 0 ≤ y ∧ y < pp) : x = y := by
  obtain ⟨q, h⟩ := h
  have h1 : x % pp = y % pp := by rw [h, Int.add_mul_emod_self_right]
  rwa [Int.emod_eq_of_lt hx.1 hx.2, Int.emod_eq_of_lt hy.1 hy.2] at h1
/-- All are from 0 to K. -/
def Ent (K : Int) (xs : List Int) : Prop := ∀ x ∈ xs, 0 ≤ x ∧ x ≤ K
theorem Ent.getD {K : Int} {xs : List Int} (h : Ent K xs) (hK : 0 ≤ K) (j : Nat) : 0 ≤ xs.getD j 0 ∧ xs.getD j 0 ≤ K := by
  by_cases hj : j < xs.length
  · rw [List.getD_eq_getElem?_getD, List.getElem?_eq_getElem hj]; exact h _ (List.getElem_mem hj)
  · rw [List.getD_eq_getElem?_getD, List.getElem?_eq_none (by omega)]; exact ⟨Int.le_refl 0, hK⟩
theorem Ent.set {K : Int} {xs : List Int} (h : Ent K xs) {j : Nat} {y : Int} (hy : 0 ≤ y ∧ y ≤ K) : Ent K (xs.set j y) := fun x hx => by
  rcases List.mem_or_eq_of_mem_set hx with hx | rfl
  · exact h x hx
  · exact hy
theorem Ent.mono {K K' : Int} {xs : List Int} (h : Ent K xs) (hk : K ≤ K') : Ent K' xs := fun x hx => ⟨(h x hx).1, Int.le_trans (h x hx).2 hk⟩
theorem Ent.zero {K : Int} (hK : 0 ≤ K) (n : Nat) : Ent K (List.replicate n 0) := fun x hx => by rw [List.eq_of_mem_replicate hx]; exact ⟨Int.le_refl 0, hK⟩
theorem Ent.of {K : Int} {xs : List Int} (h : ∀ j, j < xs.length → 0 ≤ xs.getD j 0 ∧ xs.getD j 0 ≤ K) : Ent K xs := fun x hx => by
  obtain ⟨j, hj, rfl⟩ := List.getElem_of_mem hx
  have := h j hj
  rwa [List.getD_eq_getElem?_getD, List.getElem?_eq_getElem hj] at this
theorem val_zero (W : Int) (n : Nat) : val W (List.replicate n 0) = 0 := by
  induction n with
  | zero => rfl
  | succ n ih => simp [List.replicate_succ, val, ih]
theorem val_take_succ (W : Int) (xs : List Int) {j : Nat} (h : j < xs.length) : val W (xs.take (j + 1)) = val W (xs.take j) + xs.getD j 0 * W ^ j := by
  rw [List.take_succ_eq_append_getElem h, val_app, List.length_take, Nat.min_eq_left (by omega), List.getD_eq_getElem?_getD, List.getElem?_eq_getElem h]
  simp [val]; grind
theorem getD_eq_of {xs ys : List Int} (hl : xs.length = ys.length) (h : ∀ j, j < xs.length → xs.getD j 0 = ys.getD j 0) : xs = ys := by
  apply List.ext_getElem hl
  intro i h1 h2
  have := h i h1
  rwa [List.getD_eq_getElem?_getD, List.getD_eq_getElem?_getD, List.getElem?_eq_getElem h1, List.getElem?_eq_getElem h2] at this
theorem mul_bd {a b A B : Int} (ha : 0 ≤ a ∧ a ≤ A) (hb : 0 ≤ b ∧ b ≤ B) : 0 ≤ a * b ∧ a * b ≤ A * B :=
  ⟨Int.mul_nonneg ha.1 hb.1, Int.mul_le_mul ha.2 hb.2 hb.1 (Int.le_trans ha.1 ha.2)⟩

/-! digits of 26 bits -/
theorem wr5 {x : Int} (h : 0 ≤ x) (h1 : x < 18446744073709551616) : IntKind.u64.wrap x = x := by first | exact wrap_u64_in h h1 | exact wrap_i64_in (by omega) (by omega)
theorem mk5 {x : Int} (h : 0 ≤ x) (h1 : x < 18446744073709551616) : iand .u64 x 67108863 = x % 67108864 := by first | exact mask_u64 26 (by decide) h h1 67108863 (by decide) | exact mask_i64 26 (by decide) h h1 67108863 (by decide)
theorem W5 : (67108864 : Int) ^ 5 = pp + 5 := by decide
structure Car5 (X : Int) (xs ys : List Int) (c : Int) (i : Nat) : Prop where
  len : ys.length = 5
  c0 : 0 ≤ c
  cX : c * 67108863 ≤ X
  lo : ∀ t, t < i → 0 ≤ ys.getD t 0 ∧ ys.getD t 0 < 67108864
  hi : ∀ t, i ≤ t → ys.getD t 0 = xs.getD t 0
  v : val 67108864 ys + c * 67108864 ^ i = val 67108864 xs
theorem car5 {X : Int} {xs : List Int} (hl : xs.length = 5) (hX : 0 ≤ X ∧ 2 * X < 18446744073709551616) (h : Ent X xs) : ∀ i, i ≤ 5 → Car5 X xs (carK .u64 67108864 67108863 xs i).1 (carK .u64 67108864 67108863 xs i).2 i := by
  intro i
  induction i with
  | zero => intro _; rw [carK_zero]; exact ⟨hl, Int.le_refl 0, by omega, fun t ht => by omega, fun _ _ => rfl, by simp⟩
  | succ i ih =>
    intro hi
    obtain ⟨i1, i2, i3, i4, i5, i6⟩ := ih (by omega)
    rw [carK_succ]
    generalize (carK .u64 67108864 67108863 xs i).1 = ys at *
    generalize (carK .u64 67108864 67108863 xs i).2 = c at *
    have hx := h.getD hX.1 i
    have e : ys.getD i 0 = xs.getD i 0 := i5 i (Nat.le_refl i)
    rw [e]
    rw [wr5 (x := xs.getD i 0 + c) (by omega) (by omega), mk5 (by omega) (by omega)]
    refine ⟨by simp [i1], by show 0 ≤ (xs.getD i 0 + c) / 67108864; omega, by show (xs.getD i 0 + c) / 67108864 * 67108863 ≤ X; omega, ?_, ?_, ?_⟩
    · intro t ht
      by_cases hti : t = i
      · subst hti; rw [getD_set_self (by omega)]; omega
      · rw [getD_set_ne (Ne.symm hti)]; exact i4 t (by omega)
    · intro t ht; rw [getD_set_ne (by omega)]; exact i5 t (by omega)
    · show val 67108864 (ys.set i ((xs.getD i 0 + c) % 67108864)) + (xs.getD i 0 + c) / 67108864 * 67108864 ^ (i + 1) = _
      rw [val_set _ _ _ _ (by omega), e]
      have hq := Int.emod_add_mul_ediv (xs.getD i 0 + c) 67108864
      generalize (xs.getD i 0 + c) % 67108864 = r at *
      generalize (xs.getD i 0 + c) / 67108864 = q at *
      rw [Int.pow_succ]
      generalize (67108864 : Int) ^ i = w at *
      grind
theorem car15 {X C : Int} {xs : List Int} (hl : xs.length = 5) (hX : 0 ≤ X ∧ 2 * X + 5 * 67108864 < 18446744073709551616) (h : Ent X xs) (hC : X < (C + 1) * 67108863) :
    Cg (val 67108864 (car1 .u64 67108864 67108863 5 xs)) (val 67108864 xs) ∧ (car1 .u64 67108864 67108863 5 xs).length = 5 ∧ (∀ t, 1 ≤ t → 0 ≤ (car1 .u64 67108864 67108863 5 xs).getD t 0 ∧ (car1 .u64 67108864 67108863 5 xs).getD t 0 < 67108864) ∧
      0 ≤ (car1 .u64 67108864 67108863 5 xs).getD 0 0 ∧ (car1 .u64 67108864 67108863 5 xs).getD 0 0 < 67108864 + 5 * C := by
  obtain ⟨i1, i2, i3, i4, i5, i6⟩ := car5 hl ⟨hX.1, by omega⟩ h 5 (Nat.le_refl _)
  unfold car1
  generalize (carK .u64 67108864 67108863 xs 5).1 = ys at *
  generalize (carK .u64 67108864 67108863 xs 5).2 = c at *
  have hc : c ≤ C := by omega
  have h0 := i4 0 (by decide)
  rw [wr5 (x := 5 * c) (by omega) (by omega), wr5 (by omega) (by omega)]
  refine ⟨⟨-c, ?_⟩, by simp [i1], ?_, ?_⟩
  · rw [val_set _ _ _ _ (by omega), ← i6, W5]; grind
  · intro t ht
    rw [getD_set_ne (by omega)]
    by_cases htn : t < 5
    · exact i4 t htn
    · rw [List.getD_eq_getElem?_getD, List.getElem?_eq_none (by omega)]; simp
  · rw [getD_set_self (by omega)]; omega
/-- Of digits that are almost carried. -/
theorem near5 {dl : Int} {xs : List Int} (hl : xs.length = 5) (hd : 0 ≤ dl ∧ dl + 5 ≤ 67108864) (h0 : 0 ≤ xs.getD 0 0 ∧ xs.getD 0 0 < 67108864 + dl) (h : ∀ t, 1 ≤ t → 0 ≤ xs.getD t 0 ∧ xs.getD t 0 < 67108864) :
    Cg (val 67108864 (car1 .u64 67108864 67108863 5 xs)) (val 67108864 xs) ∧ (car1 .u64 67108864 67108863 5 xs).length = 5 ∧ (∀ t, 0 ≤ (car1 .u64 67108864 67108863 5 xs).getD t 0 ∧ (car1 .u64 67108864 67108863 5 xs).getD t 0 < 67108864) := by
  have hE : Ent (67108864 + dl) xs := Ent.of fun j _ => by
    rcases Nat.eq_zero_or_pos j with rfl | hj
    · omega
    · have := h j hj; omega
  obtain ⟨j1, j2, j3, j4⟩ := car15 (X := 67108864 + dl) (C := 2) hl (by omega) hE (by omega)
  refine ⟨j1, j2, ?_⟩
  have key : ∀ i, 1 ≤ i → i ≤ 5 → (carK .u64 67108864 67108863 xs i).2 ≤ 1 ∧ ((carK .u64 67108864 67108863 xs i).2 = 1 → (carK .u64 67108864 67108863 xs i).1.getD 0 0 < dl) := by
    intro i
    induction i with
    | zero => intro hi; omega
    | succ i ih =>
      intro _ hi
      obtain ⟨i1, i2, i3, i4, i5, i6⟩ := car5 hl ⟨by omega, by omega⟩ hE i (by omega)
      rw [carK_succ]
      have e := i5 i (Nat.le_refl i)
      rcases Nat.eq_zero_or_pos i with rfl | hpos
      · rw [carK_zero] at e ⊢
        simp only [Int.add_zero]
        rw [wr5 (by omega) (by omega), mk5 (by omega) (by omega), getD_set_self (by omega)]
        omega
      · obtain ⟨k1, k2⟩ := ih hpos (by omega)
        have hxi := h i hpos
        generalize (carK .u64 67108864 67108863 xs i).1 = ys at *
        generalize (carK .u64 67108864 67108863 xs i).2 = c at *
        rw [e, wr5 (by omega) (by omega)]
        refine ⟨by show (xs.getD i 0 + c) / 67108864 ≤ 1; omega, ?_⟩
        intro h1
        rw [getD_set_ne (by omega)]
        refine k2 ?_
        have : (xs.getD i 0 + c) / 67108864 = 1 := h1
        omega
  intro t
  rcases Nat.eq_zero_or_pos t with rfl | hpos
  · obtain ⟨i1, i2, i3, i4, i5, i6⟩ := car5 hl ⟨by omega, by omega⟩ hE 5 (Nat.le_refl _)
    obtain ⟨k1, k2⟩ := key 5 (by decide) (Nat.le_refl _)
    refine ⟨j4.1, ?_⟩
    unfold car1
    generalize (carK .u64 67108864 67108863 xs 5).1 = ys at *
    generalize (carK .u64 67108864 67108863 xs 5).2 = c at *
    have h0 := i4 0 (by decide)
    rw [wr5 (x := 5 * c) (by omega) (by omega), wr5 (by omega) (by omega), getD_set_self (by omega)]
    by_cases hc : c = 1
    · have := k2 hc; omega
    · omega
  · exact j3 t hpos
theorem mulC5 {K A B : Int} {a b : Int} {out : List Int} {i j : Nat} (hl : out.length = 5) (hi : i < 5) (hj : j < 5) (hK : 0 ≤ K) (hM : K + 5 * (A * B) < 18446744073709551616) (hA : 5 * A < 18446744073709551616) (ha : 0 ≤ a ∧ a ≤ A) (hb : 0 ≤ b ∧ b ≤ B) (h : Ent K out) :
    Ent (K + 5 * (A * B)) (mulC .u64 5 a b out i j) ∧ (mulC .u64 5 a b out i j).length = 5 ∧ Cg (val 67108864 (mulC .u64 5 a b out i j)) (val 67108864 out + a * b * 67108864 ^ (i + j)) := by
  have hab := mul_bd ha hb
  have h5 : 5 * a * b = 5 * (a * b) := by rw [Int.mul_assoc]
  refine ⟨?_, by rw [mulC_length, hl], ?_⟩
  · by_cases hc : i + j < 5
    · rw [mulC_lt hc]
      have hg := h.getD hK (i + j)
      rw [wr5 (x := a * b) (by omega) (by omega), wr5 (by omega) (by omega)]
      exact (h.mono (by omega)).set (by omega)
    · rw [mulC_ge hc]
      have hg := h.getD hK (i + j - 5)
      rw [wr5 (x := 5 * a) (by omega) (by omega), h5, wr5 (x := 5 * (a * b)) (by omega) (by omega), wr5 (by omega) (by omega)]
      exact (h.mono (by omega)).set (by omega)
  · by_cases hc : i + j < 5
    · rw [mulC_lt hc]
      have hg := h.getD hK (i + j)
      rw [wr5 (x := a * b) (by omega) (by omega), wr5 (by omega) (by omega), val_set _ _ _ _ (by omega)]
      exact ⟨0, by grind⟩
    · rw [mulC_ge hc]
      have hg := h.getD hK (i + j - 5)
      rw [wr5 (x := 5 * a) (by omega) (by omega), h5, wr5 (x := 5 * (a * b)) (by omega) (by omega), wr5 (by omega) (by omega), val_set _ _ _ _ (by omega)]
      have hp : (67108864 : Int) ^ (i + j) = 67108864 ^ (i + j - 5) * (pp + 5) := by rw [← W5, ← Int.pow_add]; congr 1; omega
      rw [hp]
      exact ⟨-(a * b * 67108864 ^ (i + j - 5)), by grind⟩
theorem mulR5 {K A B : Int} {a : Int} {ys out : List Int} {i : Nat} (hl : out.length = 5) (hy : ys.length = 5) (hi : i < 5) (hK : 0 ≤ K) (hB : 0 ≤ B) (hM : K + 5 * (5 * (A * B)) < 18446744073709551616) (hA : 5 * A < 18446744073709551616) (ha : 0 ≤ a ∧ a ≤ A) (h : Ent K out) (hE : Ent B ys) :
    ∀ j : Nat, j ≤ 5 → Ent (K + (j : Int) * (5 * (A * B))) (mulR .u64 5 a ys out i j) ∧ (mulR .u64 5 a ys out i j).length = 5 ∧ Cg (val 67108864 (mulR .u64 5 a ys out i j)) (val 67108864 out + a * 67108864 ^ i * val 67108864 (ys.take j)) := by
  have hAB : 0 ≤ A * B := Int.mul_nonneg (Int.le_trans ha.1 ha.2) hB
  intro j
  induction j with
  | zero => intro _; rw [mulR_zero]; exact ⟨by simpa using h, hl, 0, by simp [val]⟩
  | succ j ih =>
    intro hj
    obtain ⟨k1, k2, k3⟩ := ih (by omega)
    rw [mulR_succ]
    have hjb : ((j : Nat) : Int) * (5 * (A * B)) ≤ 4 * (5 * (A * B)) := Int.mul_le_mul_of_nonneg_right (by omega) (by omega)
    have hj0 : 0 ≤ ((j : Nat) : Int) * (5 * (A * B)) := Int.mul_nonneg (by omega) (by omega)
    obtain ⟨c1, c2, c3⟩ := mulC5 (b := ys.getD j 0) (B := B) k2 hi (by omega : j < 5) (by omega) (by omega) hA ha (hE.getD hB j) k1
    refine ⟨?_, c2, ?_⟩
    · have e : K + ((j + 1 : Nat) : Int) * (5 * (A * B)) = K + (j : Int) * (5 * (A * B)) + 5 * (A * B) := by simp only [Int.natCast_add, Int.add_mul]; omega
      rw [e]; exact c1
    · refine c3.trans ((k3.add (Cg.refl _)).trans ?_)
      rw [val_take_succ _ _ (by omega), Int.pow_add]
      exact ⟨0, by grind⟩
theorem mulA5 {A B : Int} {xs ys : List Int} (hx : xs.length = 5) (hy : ys.length = 5) (hA0 : 0 ≤ A) (hB : 0 ≤ B) (hM : 25 * (5 * (A * B)) < 18446744073709551616) (hA : 5 * A < 18446744073709551616) (hEx : Ent A xs) (hEy : Ent B ys) :
    ∀ i : Nat, i ≤ 5 → Ent ((i : Int) * (5 * (5 * (A * B)))) (mulA .u64 5 xs ys i) ∧ Cg (val 67108864 (mulA .u64 5 xs ys i)) (val 67108864 (xs.take i) * val 67108864 ys) := by
  have hAB : 0 ≤ A * B := Int.mul_nonneg hA0 hB
  intro i
  induction i with
  | zero => intro _; rw [mulA_zero]; exact ⟨Ent.zero (by simp) _, 0, by rw [val_zero]; simp [val]⟩
  | succ i ih =>
    intro hi
    obtain ⟨k1, k2⟩ := ih (by omega)
    rw [mulA_succ]
    have hib : ((i : Nat) : Int) * (5 * (5 * (A * B))) ≤ 4 * (5 * (5 * (A * B))) := Int.mul_le_mul_of_nonneg_right (by omega) (by omega)
    have hi0 : 0 ≤ ((i : Nat) : Int) * (5 * (5 * (A * B))) := Int.mul_nonneg (by omega) (by omega)
    obtain ⟨c1, c2, c3⟩ := mulR5 (mulA_length _ _ _ _ _) hy (by omega : i < 5) hi0 hB (by omega) hA (hEx.getD hA0 i) k1 hEy 5 (Nat.le_refl _)
    refine ⟨?_, ?_⟩
    · have e : ((i + 1 : Nat) : Int) * (5 * (5 * (A * B))) = (i : Int) * (5 * (5 * (A * B))) + ((5 : Nat) : Int) * (5 * (A * B)) := by grind
      rw [e]; exact c1
    · refine c3.trans ((k2.add (Cg.refl _)).trans ?_)
      rw [val_take_succ _ xs (by omega), List.take_of_length_le (l := ys) (by omega)]
      exact ⟨0, by grind⟩

/-! digits of 13 bits -/
theorem wr10 {x : Int} (h : 0 ≤ x) (h1 : x < 9223372036854775808) : IntKind.i64.wrap x = x := by first | exact wrap_u64_in h h1 | exact wrap_i64_in (by omega) (by omega)
theorem mk10 {x : Int} (h : 0 ≤ x) (h1 : x < 9223372036854775808) : iand .i64 x 8191 = x % 8192 := by first | exact mask_u64 13 (by decide) h h1 8191 (by decide) | exact mask_i64 13 (by decide) h h1 8191 (by decide)
theorem W10 : (8192 : Int) ^ 10 = pp + 5 := by decide
structure Car10 (X : Int) (xs ys : List Int) (c : Int) (i : Nat) : Prop where
  len : ys.length = 10
  c0 : 0 ≤ c
  cX : c * 8191 ≤ X
  lo : ∀ t, t < i → 0 ≤ ys.getD t 0 ∧ ys.getD t 0 < 8192
  hi : ∀ t, i ≤ t → ys.getD t 0 = xs.getD t 0
  v : val 8192 ys + c * 8192 ^ i = val 8192 xs
theorem car10 {X : Int} {xs : List Int} (hl : xs.length = 10) (hX : 0 ≤ X ∧ 2 * X < 9223372036854775808) (h : Ent X xs) : ∀ i, i ≤ 10 → Car10 X xs (carK .i64 8192 8191 xs i).1 (carK .i64 8192 8191 xs i).2 i := by
  intro i
  induction i with
  | zero => intro _; rw [carK_zero]; exact ⟨hl, Int.le_refl 0, by omega, fun t ht => by omega, fun _ _ => rfl, by simp⟩
  | succ i ih =>
    intro hi
    obtain ⟨i1, i2, i3, i4, i5, i6⟩ := ih (by omega)
    rw [carK_succ]
    generalize (carK .i64 8192 8191 xs i).1 = ys at *
    generalize (carK .i64 8192 8191 xs i).2 = c at *
    have hx := h.getD hX.1 i
    have e : ys.getD i 0 = xs.getD i 0 := i5 i (Nat.le_refl i)
    rw [e]
    rw [wr10 (x := xs.getD i 0 + c) (by omega) (by omega), mk10 (by omega) (by omega)]
    refine ⟨by simp [i1], by show 0 ≤ (xs.getD i 0 + c) / 8192; omega, by show (xs.getD i 0 + c) / 8192 * 8191 ≤ X; omega, ?_, ?_, ?_⟩
    · intro t ht
      by_cases hti : t = i
      · subst hti; rw [getD_set_self (by omega)]; omega
      · rw [getD_set_ne (Ne.symm hti)]; exact i4 t (by omega)
    · intro t ht; rw [getD_set_ne (by omega)]; exact i5 t (by omega)
    · show val 8192 (ys.set i ((xs.getD i 0 + c) % 8192)) + (xs.getD i 0 + c) / 8192 * 8192 ^ (i + 1) = _
      rw [val_set _ _ _ _ (by omega), e]
      have hq := Int.emod_add_mul_ediv (xs.getD i 0 + c) 8192
      generalize (xs.getD i 0 + c) % 8192 = r at *
      generalize (xs.getD i 0 + c) / 8192 = q at *
      rw [Int.pow_succ]
      generalize (8192 : Int) ^ i = w at *
      grind
theorem car110 {X C : Int} {xs : List Int} (hl : xs.length = 10) (hX : 0 ≤ X ∧ 2 * X + 5 * 8192 < 9223372036854775808) (h : Ent X xs) (hC : X < (C + 1) * 8191) :
    Cg (val 8192 (car1 .i64 8192 8191 10 xs)) (val 8192 xs) ∧ (car1 .i64 8192 8191 10 xs).length = 10 ∧ (∀ t, 1 ≤ t → 0 ≤ (car1 .i64 8192 8191 10 xs).getD t 0 ∧ (car1 .i64 8192 8191 10 xs).getD t 0 < 8192) ∧
      0 ≤ (car1 .i64 8192 8191 10 xs).getD 0 0 ∧ (car1 .i64 8192 8191 10 xs).getD 0 0 < 8192 + 5 * C := by
  obtain ⟨i1, i2, i3, i4, i5, i6⟩ := car10 hl ⟨hX.1, by omega⟩ h 10 (Nat.le_refl _)
  unfold car1
  generalize (carK .i64 8192 8191 xs 10).1 = ys at *
  generalize (carK .i64 8192 8191 xs 10).2 = c at *
  have hc : c ≤ C := by omega
  have h0 := i4 0 (by decide)
  rw [wr10 (x := 5 * c) (by omega) (by omega), wr10 (by omega) (by omega)]
  refine ⟨⟨-c, ?_⟩, by simp [i1], ?_, ?_⟩
  · rw [val_set _ _ _ _ (by omega), ← i6, W10]; grind
  · intro t ht
    rw [getD_set_ne (by omega)]
    by_cases htn : t < 10
    · exact i4 t htn
    · rw [List.getD_eq_getElem?_getD, List.getElem?_eq_none (by omega)]; simp
  · rw [getD_set_self (by omega)]; omega
/-- Of digits that are almost carried. -/
theorem near10 {dl : Int} {xs : List Int} (hl : xs.length = 10) (hd : 0 ≤ dl ∧ dl + 5 ≤ 8192) (h0 : 0 ≤ xs.getD 0 0 ∧ xs.getD 0 0 < 8192 + dl) (h : ∀ t, 1 ≤ t → 0 ≤ xs.getD t 0 ∧ xs.getD t 0 < 8192) :
    Cg (val 8192 (car1 .i64 8192 8191 10 xs)) (val 8192 xs) ∧ (car1 .i64 8192 8191 10 xs).length = 10 ∧ (∀ t, 0 ≤ (car1 .i64 8192 8191 10 xs).getD t 0 ∧ (car1 .i64 8192 8191 10 xs).getD t 0 < 8192) := by
  have hE : Ent (8192 + dl) xs := Ent.of fun j _ => by
    rcases Nat.eq_zero_or_pos j with rfl | hj
    · omega
    · have := h j hj; omega
  obtain ⟨j1, j2, j3, j4⟩ := car110 (X := 8192 + dl) (C := 2) hl (by omega) hE (by omega)
  refine ⟨j1, j2, ?_⟩
  have key : ∀ i, 1 ≤ i → i ≤ 10 → (carK .i64 8192 8191 xs i).2 ≤ 1 ∧ ((carK .i64 8192 8191 xs i).2 = 1 → (carK .i64 8192 8191 xs i).1.getD 0 0 < dl) := by
    intro i
    induction i with
    | zero => intro hi; omega
    | succ i ih =>
      intro _ hi
      obtain ⟨i1, i2, i3, i4, i5, i6⟩ := car10 hl ⟨by omega, by omega⟩ hE i (by omega)
      rw [carK_succ]
      have e := i5 i (Nat.le_refl i)
      rcases Nat.eq_zero_or_pos i with rfl | hpos
      · rw [carK_zero] at e ⊢
        simp only [Int.add_zero]
        rw [wr10 (by omega) (by omega), mk10 (by omega) (by omega), getD_set_self (by omega)]
        omega
      · obtain ⟨k1, k2⟩ := ih hpos (by omega)
        have hxi := h i hpos
        generalize (carK .i64 8192 8191 xs i).1 = ys at *
        generalize (carK .i64 8192 8191 xs i).2 = c at *
        rw [e, wr10 (by omega) (by omega)]
        refine ⟨by show (xs.getD i 0 + c) / 8192 ≤ 1; omega, ?_⟩
        intro h1
        rw [getD_set_ne (by omega)]
        refine k2 ?_
        have : (xs.getD i 0 + c) / 8192 = 1 := h1
        omega
  intro t
  rcases Nat.eq_zero_or_pos t with rfl | hpos
  · obtain ⟨i1, i2, i3, i4, i5, i6⟩ := car10 hl ⟨by omega, by omega⟩ hE 10 (Nat.le_refl _)
    obtain ⟨k1, k2⟩ := key 10 (by decide) (Nat.le_refl _)
    refine ⟨j4.1, ?_⟩
    unfold car1
    generalize (carK .i64 8192 8191 xs 10).1 = ys at *
    generalize (carK .i64 8192 8191 xs 10).2 = c at *
    have h0 := i4 0 (by decide)
    rw [wr10 (x := 5 * c) (by omega) (by omega), wr10 (by omega) (by omega), getD_set_self (by omega)]
    by_cases hc : c = 1
    · have := k2 hc; omega
    · omega
  · exact j3 t hpos
theorem mulC10 {K A B : Int} {a b : Int} {out : List Int} {i j : Nat} (hl : out.length = 10) (hi : i < 10) (hj : j < 10) (hK : 0 ≤ K) (hM : K + 5 * (A * B) < 9223372036854775808) (hA : 5 * A < 9223372036854775808) (ha : 0 ≤ a ∧ a ≤ A) (hb : 0 ≤ b ∧ b ≤ B) (h : Ent K out) :
    Ent (K + 5 * (A * B)) (mulC .i64 10 a b out i j) ∧ (mulC .i64 10 a b out i j).length = 10 ∧ Cg (val 8192 (mulC .i64 10 a b out i j)) (val 8192 out + a * b * 8192 ^ (i + j)) := by
  have hab := mul_bd ha hb
  have h5 : 5 * a * b = 5 * (a * b) := by rw [Int.mul_assoc]
  refine ⟨?_, by rw [mulC_length, hl], ?_⟩
  · by_cases hc : i + j < 10
    · rw [mulC_lt hc]
      have hg := h.getD hK (i + j)
      rw [wr10 (x := a * b) (by omega) (by omega), wr10 (by omega) (by omega)]
      exact (h.mono (by omega)).set (by omega)
    · rw [mulC_ge hc]
      have hg := h.getD hK (i + j - 10)
      rw [wr10 (x := 5 * a) (by omega) (by omega), h5, wr10 (x := 5 * (a * b)) (by omega) (by omega), wr10 (by omega) (by omega)]
      exact (h.mono (by omega)).set (by omega)
  · by_cases hc : i + j < 10
    · rw [mulC_lt hc]
      have hg := h.getD hK (i + j)
      rw [wr10 (x := a * b) (by omega) (by omega), wr10 (by omega) (by omega), val_set _ _ _ _ (by omega)]
      exact ⟨0, by grind⟩
    · rw [mulC_ge hc]
      have hg := h.getD hK (i + j - 10)
      rw [wr10 (x := 5 * a) (by omega) (by omega), h5, wr10 (x := 5 * (a * b)) (by omega) (by omega), wr10 (by omega) (by omega), val_set _ _ _ _ (by omega)]
      have hp : (8192 : Int) ^ (i + j) = 8192 ^ (i + j - 10) * (pp + 5) := by rw [← W10, ← Int.pow_add]; congr 1; omega
      rw [hp]
      exact ⟨-(a * b * 8192 ^ (i + j - 10)), by grind⟩
theorem mulR10 {K A B : Int} {a : Int} {ys out : List Int} {i : Nat} (hl : out.length = 10) (hy : ys.length = 10) (hi : i < 10) (hK : 0 ≤ K) (hB : 0 ≤ B) (hM : K + 10 * (5 * (A * B)) < 9223372036854775808) (hA : 5 * A < 9223372036854775808) (ha : 0 ≤ a ∧ a ≤ A) (h : Ent K out) (hE : Ent B ys) :
    ∀ j : Nat, j ≤ 10 → Ent (K + (j : Int) * (5 * (A * B))) (mulR .i64 10 a ys out i j) ∧ (mulR .i64 10 a ys out i j).length = 10 ∧ Cg (val 8192 (mulR .i64 10 a ys out i j)) (val 8192 out + a * 8192 ^ i * val 8192 (ys.take j)) := by
  have hAB : 0 ≤ A * B := Int.mul_nonneg (Int.le_trans ha.1 ha.2) hB
  intro j
  induction j with
  | zero => intro _; rw [mulR_zero]; exact ⟨by simpa using h, hl, 0, by simp [val]⟩
  | succ j ih =>
    intro hj
    obtain ⟨k1, k2, k3⟩ := ih (by omega)
    rw [mulR_succ]
    have hjb : ((j : Nat) : Int) * (5 * (A * B)) ≤ 9 * (5 * (A * B)) := Int.mul_le_mul_of_nonneg_right (by omega) (by omega)
    have hj0 : 0 ≤ ((j : Nat) : Int) * (5 * (A * B)) := Int.mul_nonneg (by omega) (by omega)
    obtain ⟨c1, c2, c3⟩ := mulC10 (b := ys.getD j 0) (B := B) k2 hi (by omega : j < 10) (by omega) (by omega) hA ha (hE.getD hB j) k1
    refine ⟨?_, c2, ?_⟩
    · have e : K + ((j + 1 : Nat) : Int) * (5 * (A * B)) = K + (j : Int) * (5 * (A * B)) + 5 * (A * B) := by simp only [Int.natCast_add, Int.add_mul]; omega
      rw [e]; exact c1
    · refine c3.trans ((k3.add (Cg.refl _)).trans ?_)
      rw [val_take_succ _ _ (by omega), Int.pow_add]
      exact ⟨0, by grind⟩
theorem mulA10 {A B : Int} {xs ys : List Int} (hx : xs.length = 10) (hy : ys.length = 10) (hA0 : 0 ≤ A) (hB : 0 ≤ B) (hM : 100 * (5 * (A * B)) < 9223372036854775808) (hA : 5 * A < 9223372036854775808) (hEx : Ent A xs) (hEy : Ent B ys) :
    ∀ i : Nat, i ≤ 10 → Ent ((i : Int) * (10 * (5 * (A * B)))) (mulA .i64 10 xs ys i) ∧ Cg (val 8192 (mulA .i64 10 xs ys i)) (val 8192 (xs.take i) * val 8192 ys) := by
  have hAB : 0 ≤ A * B := Int.mul_nonneg hA0 hB
  intro i
  induction i with
  | zero => intro _; rw [mulA_zero]; exact ⟨Ent.zero (by simp) _, 0, by rw [val_zero]; simp [val]⟩
  | succ i ih =>
    intro hi
    obtain ⟨k1, k2⟩ := ih (by omega)
    rw [mulA_succ]
    have hib : ((i : Nat) : Int) * (10 * (5 * (A * B))) ≤ 9 * (10 * (5 * (A * B))) := Int.mul_le_mul_of_nonneg_right (by omega) (by omega)
    have hi0 : 0 ≤ ((i : Nat) : Int) * (10 * (5 * (A * B))) := Int.mul_nonneg (by omega) (by omega)
    obtain ⟨c1, c2, c3⟩ := mulR10 (mulA_length _ _ _ _ _) hy (by omega : i < 10) hi0 hB (by omega) hA (hEx.getD hA0 i) k1 hEy 10 (Nat.le_refl _)
    refine ⟨?_, ?_⟩
    · have e : ((i + 1 : Nat) : Int) * (10 * (5 * (A * B))) = (i : Int) * (10 * (5 * (A * B))) + ((10 : Nat) : Int) * (5 * (A * B)) := by grind
      rw [e]; exact c1
    · refine c3.trans ((k2.add (Cg.refl _)).trans ?_)
      rw [val_take_succ _ xs (by omega), List.take_of_length_le (l := ys) (by omega)]
      exact ⟨0, by grind⟩
end Go.Proofs.Ytoeholbdocmlnaa
