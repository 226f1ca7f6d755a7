/-
  The tag of chapter 04: both texts come to one number modulo 2^130 - 5.
-/
import Derived.Test.YtoeholbdocmlnaaPoLaw
namespace Go.Proofs.Ytoeholbdocmlnaa
open Go Go.RowKit D
set_option linter.unusedVariables false
set_option linter.unusedSimpArgs false
set_option maxHeartbeats 1000000
/-- The number of bytes, the lowest one first. -/
def numL : List UInt8 → Nat
  | [] => 0
  | c :: l => c.toNat + 256 * numL l
theorem val_ofB (l : List UInt8) : val 256 (ofB l) = (numL l : Int) := by
  induction l with
  | nil => rfl
  | cons c l ih => simp only [ofB, List.map_cons, val, numL] at *; rw [ih]; simp
theorem numL_lt (l : List UInt8) : numL l < 256 ^ l.length := by
  induction l with
  | nil => simp [numL]
  | cons c l ih =>
    have := c.toNat_lt
    simp only [numL, List.length_cons, Nat.pow_succ]
    generalize 256 ^ l.length = q at *
    omega
theorem numL_app (a b : List UInt8) : numL (a ++ b) = numL a + 256 ^ a.length * numL b := by
  induction a with
  | nil => simp [numL]
  | cons c a ih => simp only [List.cons_append, numL, ih, List.length_cons]; grind
/-- One piece: up to 16 bytes, and a 1 behind them. -/
def padB (d : List UInt8) : List UInt8 := d.take 16 ++ 1 :: List.replicate (16 - (d.take 16).length) 0
theorem padB_length (d : List UInt8) : (padB d).length = 17 := by
  have : (d.take 16).length ≤ 16 := List.length_take_le _ _
  simp only [padB, List.length_append, List.length_cons, List.length_replicate]; omega
def blkN (d : List UInt8) : Nat := numL (d.take 16 ++ [1])
theorem numL_zeros (n : Nat) : numL (List.replicate n 0) = 0 := by
  induction n with
  | zero => rfl
  | succ n ih => simp [List.replicate_succ, numL, ih]
theorem numL_pad (d : List UInt8) : numL (padB d) = blkN d := by
  unfold padB blkN
  rw [numL_app, numL_app]
  simp [numL, numL_zeros]
theorem pad_last (d : List UInt8) : (ofB (padB d)).getD 16 0 ≤ 1 := by
  have : (d.take 16).length ≤ 16 := List.length_take_le _ _
  rw [ofB_getD]
  unfold bt padB
  rw [List.getD_eq_getElem?_getD, List.getElem?_append_right this]
  cases h : 16 - (d.take 16).length with
  | zero => simp
  | succ n => simp only [List.getElem?_cons_succ, List.getElem?_replicate]; split <;> simp
theorem list17 {α : Type} {l : List α} (h : l.length = 17) : ∃ a0 a1 a2 a3 a4 a5 a6 a7 a8 a9 a10 a11 a12 a13 a14 a15 a16, l = [a0, a1, a2, a3, a4, a5, a6, a7, a8, a9, a10, a11, a12, a13, a14, a15, a16] := by
  match l, h with
  | [a0, a1, a2, a3, a4, a5, a6, a7, a8, a9, a10, a11, a12, a13, a14, a15, a16], _ => exact ⟨a0, a1, a2, a3, a4, a5, a6, a7, a8, a9, a10, a11, a12, a13, a14, a15, a16, rfl⟩
theorem list5 {α : Type} {l : List α} (h : l.length = 5) : ∃ a0 a1 a2 a3 a4, l = [a0, a1, a2, a3, a4] := by
  match l, h with
  | [a0, a1, a2, a3, a4], _ => exact ⟨a0, a1, a2, a3, a4, rfl⟩
theorem of_spec {xs : List Int} (hl : xs.length = 17) (hB : BytesL xs) (h16 : xs.getD 16 0 ≤ 3) : val 67108864 (ofL xs) = val 256 xs ∧ Ent 67108863 (ofL xs) ∧ (ofL xs).length = 5 := by
  obtain ⟨a0, a1, a2, a3, a4, a5, a6, a7, a8, a9, a10, a11, a12, a13, a14, a15, a16, rfl⟩ := list17 hl
  have b0 := hB 0; have b1 := hB 1; have b2 := hB 2; have b3 := hB 3; have b4 := hB 4; have b5 := hB 5; have b6 := hB 6; have b7 := hB 7; have b8 := hB 8
  have b9 := hB 9; have b10 := hB 10; have b11 := hB 11; have b12 := hB 12; have b13 := hB 13; have b14 := hB 14; have b15 := hB 15; have b16 := hB 16
  simp only [List.getD_cons_zero, List.getD_cons_succ] at *
  unfold ofL
  simp only [wd, List.getD_cons_zero, List.getD_cons_succ, Nat.zero_add, Nat.reduceAdd, val]
  refine ⟨by omega, ?_, rfl⟩
  intro x hx
  simp only [List.mem_cons, List.not_mem_nil, or_false] at hx
  rcases hx with rfl | rfl | rfl | rfl | rfl <;> omega
theorem add5 {A B : Int} {xs ys : List Int} (hx : xs.length = 5) (hy : ys.length = 5) (hA : 0 ≤ A) (hB : 0 ≤ B) (hM : A + B < 18446744073709551616) (h1 : Ent A xs) (h2 : Ent B ys) :
    val 67108864 (addK .u64 xs ys 5) = val 67108864 xs + val 67108864 ys ∧ Ent (A + B) (addK .u64 xs ys 5) ∧ (addK .u64 xs ys 5).length = 5 := by
  obtain ⟨a0, a1, a2, a3, a4, rfl⟩ := list5 hx
  obtain ⟨c0, c1, c2, c3, c4, rfl⟩ := list5 hy
  have p0 := h1 a0 (by simp); have p1 := h1 a1 (by simp); have p2 := h1 a2 (by simp); have p3 := h1 a3 (by simp); have p4 := h1 a4 (by simp)
  have q0 := h2 c0 (by simp); have q1 := h2 c1 (by simp); have q2 := h2 c2 (by simp); have q3 := h2 c3 (by simp); have q4 := h2 c4 (by simp)
  have e : addK .u64 [a0, a1, a2, a3, a4] [c0, c1, c2, c3, c4] 5 = [a0 + c0, a1 + c1, a2 + c2, a3 + c3, a4 + c4] := by
    simp only [addK_succ, addK_zero, List.set_cons_zero, List.set_cons_succ, List.getD_cons_zero, List.getD_cons_succ]
    rw [wr5 (by omega) (by omega), wr5 (by omega) (by omega), wr5 (by omega) (by omega), wr5 (by omega) (by omega), wr5 (by omega) (by omega)]
  rw [e]
  refine ⟨by simp only [val]; omega, ?_, rfl⟩
  intro x hx
  simp only [List.mem_cons, List.not_mem_nil, or_false] at hx
  rcases hx with rfl | rfl | rfl | rfl | rfl <;> omega
/-- What is known of the sum ahead of each piece. -/
structure I5 (xs : List Int) (a : Int) : Prop where
  len : xs.length = 5
  lo : 0 ≤ xs.getD 0 0 ∧ xs.getD 0 0 < 67108864 + 7000
  hi : ∀ t, 1 ≤ t → 0 ≤ xs.getD t 0 ∧ xs.getD t 0 < 67108864
  v : Cg (val 67108864 xs) a
theorem I5.zero : I5 (List.replicate 5 0) 0 :=
  ⟨by simp, by simp, fun t _ => by simp only [List.getD_eq_getElem?_getD, List.getElem?_replicate]; split <;> simp, by rw [val_zero]; exact Cg.refl _⟩
theorem I5.ent {xs : List Int} {a : Int} (h : I5 xs a) : Ent 67115863 xs := Ent.of fun j _ => by
  rcases Nat.eq_zero_or_pos j with rfl | hj
  · have := h.lo; omega
  · have := h.hi j hj; omega
theorem step5 {xs ys rs : List Int} {a b r : Int} (h : I5 xs a) (hy : ys.length = 5) (hye : Ent 67108863 ys) (hyv : val 67108864 ys = b) (hr : rs.length = 5) (hre : Ent 67108863 rs) (hrv : val 67108864 rs = r) :
    I5 (timesP (addK .u64 xs ys 5) rs) (((a + b) * r) % pp) := by
  obtain ⟨s1, s2, s3⟩ := add5 h.len hy (by decide) (by decide) (by decide) h.ent hye
  obtain ⟨m1, m2⟩ := mulA5 (A := 67115863 + 67108863) (B := 67108863) s3 hr (by decide) (by decide) (by decide) (by decide) s2 hre 5 (by decide)
  rw [List.take_of_length_le (by omega), s1, hyv, hrv] at m2
  have hE : Ent 1125958593543317250 (mulA .u64 5 (addK .u64 xs ys 5) rs 5) := m1.mono (by decide)
  obtain ⟨c1, c2, c3, c4⟩ := car15 (X := 1125958593543317250) (C := 16778090750) (mulA_length _ _ _ _ _) (by decide) hE (by decide)
  unfold timesP
  rw [carR_succ, carR_succ, carR_zero]
  generalize car1 .u64 67108864 67108863 5 (mulA .u64 5 (addK .u64 xs ys 5) rs 5) = zs at *
  have hE2 : Ent (67108864 + 5 * 16778090750) zs := Ent.of fun j _ => by
    rcases Nat.eq_zero_or_pos j with rfl | hj
    · omega
    · have := c3 j hj; omega
  obtain ⟨d1, d2, d3, d4⟩ := car15 (X := 67108864 + 5 * 16778090750) (C := 1300) c2 (by decide) hE2 (by decide)
  refine ⟨d2, ⟨d4.1, by omega⟩, d3, ?_⟩
  exact d1.trans (c1.trans (m2.trans ((Cg.mul (h.v.add (Cg.refl _)) (Cg.refl _)).trans (Cg.mod _))))
theorem restS_eq {ys : List Int} {i : Nat} (hl : ys.length = 5) (hi : i < 4) (h0 : 0 ≤ ys.getD i 0 ∧ ys.getD i 0 < 18446744073709551616) (h1 : 0 ≤ ys.getD (i + 1) 0 ∧ ys.getD (i + 1) 0 + ys.getD i 0 / 2 ^ 26 < 18446744073709551616) :
    restS ys i = (ys.set (i + 1) (ys.getD (i + 1) 0 + ys.getD i 0 / 2 ^ 26)).set i (ys.getD i 0 % 67108864) := by
  unfold restS
  rw [wr5 (x := ys.getD (i + 1) 0 + ys.getD i 0 / 2 ^ 26) (by omega) (by omega), getD_set_ne (by omega), mk5 (by omega) (by omega)]
structure RestI (xs ys : List Int) (i : Nat) : Prop where
  len : ys.length = 5
  v : val 67108864 ys = val 67108864 xs + 5
  lo : ∀ t, t < i → 0 ≤ ys.getD t 0 ∧ ys.getD t 0 < 67108864
  at' : 0 ≤ ys.getD i 0 ∧ ys.getD i 0 ≤ 67108864 + 4
  at1 : 1 ≤ i → ys.getD i 0 ≤ 67108864
  hi : ∀ t, i < t → ys.getD t 0 = xs.getD t 0
theorem restI {xs : List Int} (hl : xs.length = 5) (h : ∀ t, 0 ≤ xs.getD t 0 ∧ xs.getD t 0 < 67108864) : ∀ i, i ≤ 4 → RestI xs (restK xs i) i := by
  intro i
  induction i with
  | zero =>
    intro _
    have h0 := h 0
    rw [restK_zero, wr5 (by omega) (by omega)]
    refine ⟨by simp [hl], by rw [val_set _ _ _ _ (by omega)]; simp; omega, fun t ht => by omega, by rw [getD_set_self (by omega)]; omega, fun h => by omega, fun t ht => getD_set_ne (by omega)⟩
  | succ i ih =>
    intro hi
    obtain ⟨i1, i2, i3, i4, i5, i6⟩ := ih (by omega)
    have hx := h (i + 1)
    have e := i6 (i + 1) (by omega)
    rw [restK_succ, restS_eq i1 (by omega) (by omega) (by omega)]
    generalize restK xs i = ys at *
    have hq := Int.emod_add_mul_ediv (ys.getD i 0) 67108864
    refine ⟨by simp [i1], ?_, ?_, ?_, ?_, ?_⟩
    · rw [val_set _ _ _ _ (by simp; omega), val_set _ _ _ _ (by omega), getD_set_ne (by omega), ← i2, show (2 : Int) ^ 26 = 67108864 from by decide, Int.pow_succ]
      generalize ys.getD i 0 % 67108864 = u at *
      generalize ys.getD i 0 / 67108864 = w at *
      generalize (67108864 : Int) ^ i = z at *
      grind
    · intro t ht
      by_cases hti : t = i
      · subst hti; rw [getD_set_self (by simp; omega)]; omega
      · rw [getD_set_ne (Ne.symm hti), getD_set_ne (by omega)]; exact i3 t (by omega)
    · rw [getD_set_ne (by omega), getD_set_self (by omega), e]; omega
    · intro _
      rw [getD_set_ne (by omega), getD_set_self (by omega), e]; omega
    · intro t ht; rw [getD_set_ne (by omega), getD_set_ne (by omega)]; exact i6 t (by omega)
theorem rest5 {xs : List Int} (hl : xs.length = 5) (h : ∀ t, 0 ≤ xs.getD t 0 ∧ xs.getD t 0 < 67108864) :
    (restP xs).length = 5 ∧ (∀ t, 0 ≤ (restP xs).getD t 0 ∧ (restP xs).getD t 0 < 67108864) ∧ Cg (val 67108864 (restP xs)) (val 67108864 xs) ∧ val 67108864 (restP xs) < pp := by
  obtain ⟨i1, i2, i3, i4, i5, i6⟩ := restI hl h 4 (Nat.le_refl _)
  have hb : ∀ ys : List Int, ys.length = 5 → (∀ t, 0 ≤ ys.getD t 0 ∧ ys.getD t 0 < 67108864) → val 67108864 ys < pp + 5 := fun ys hl h => by
    have := val_lt (W := 67108864) (xs := ys) (by decide) (fun x hx => by
      obtain ⟨j, hj, rfl⟩ := List.getElem_of_mem hx
      have := h j; rwa [List.getD_eq_getElem?_getD, List.getElem?_eq_getElem hj] at this)
    rw [hl, W5] at this; exact this
  have h4 := i5 (by decide)
  by_cases hc : 0 < (restK xs 4).getD 4 0 / 2 ^ 26
  · rw [restP_yes hc, mk5 (by omega) (by omega)]
    have hV := hb xs hl h
    have e4 : (restK xs 4).getD 4 0 = 67108864 := by omega
    have hv : val 67108864 ((restK xs 4).set 4 ((restK xs 4).getD 4 0 % 67108864)) = val 67108864 xs - pp := by
      rw [val_set _ _ _ _ (by omega), i2, e4]
      have := W5
      unfold pp at *; omega
    refine ⟨by simp [i1], ?_, ?_, ?_⟩
    · intro t
      by_cases ht : t = 4
      · subst ht; rw [getD_set_self (by omega)]; omega
      · rw [getD_set_ne (Ne.symm ht)]
        by_cases ht4 : t < 4
        · exact i3 t ht4
        · rw [i6 t (by omega)]; exact h t
    · rw [hv]; exact ⟨-1, by omega⟩
    · rw [hv]; unfold pp at *; omega
  · rw [restP_no hc]
    refine ⟨hl, h, Cg.refl _, ?_⟩
    have := hb (restK xs 4) i1 (fun t => by
      by_cases ht : t < 4
      · exact i3 t ht
      · by_cases ht4 : t = 4
        · subst ht4; omega
        · rw [i6 t (by omega)]; exact h t)
    omega
/-- Digits of a number that is known. -/
theorem digits_of {g n N : Nat} (hg : 0 < g) {xs : List Int} {a : Int} (hl : xs.length = n) (hN : g * n ≤ N) (h : ∀ t, 0 ≤ xs.getD t 0 ∧ xs.getD t 0 < ((2 ^ g : Nat) : Int)) (hc : Cg (val ((2 ^ g : Nat) : Int) xs) a) (hv : val ((2 ^ g : Nat) : Int) xs < pp) (ha : 0 ≤ a ∧ a < pp) : xs = grps g n N a.toNat := by
  obtain ⟨V, h1, h2, h3⟩ := grps_of g hg (xs.map Int.toNat) N (fun x hx => by
    obtain ⟨y, hy, rfl⟩ := List.mem_map.1 hx
    obtain ⟨j, hj, rfl⟩ := List.getElem_of_mem hy
    have := h j
    rw [List.getD_eq_getElem?_getD, List.getElem?_eq_getElem hj] at this
    simp only [Option.getD_some] at this
    omega) (by simpa [hl] using hN)
  have e : (xs.map Int.toNat).map (fun x : Nat => (x : Int)) = xs := by
    rw [List.map_map]
    conv => rhs; rw [← List.map_id xs]
    apply List.map_congr_left
    intro x hx
    obtain ⟨j, hj, rfl⟩ := List.getElem_of_mem hx
    have := h j
    rw [List.getD_eq_getElem?_getD, List.getElem?_eq_getElem hj] at this
    simp only [Option.getD_some] at this
    simp only [Function.comp, id]; omega
  rw [e] at h1 h3
  have h0 : 0 ≤ val ((2 ^ g : Nat) : Int) xs := by rw [h1]; omega
  have := hc.same ⟨h0, hv⟩ ha
  rw [h1] at this
  rw [← this, Int.toNat_natCast]
  simpa [hl] using h3
theorem fin5 {xs : List Int} {a : Int} (h : I5 xs a) (ha : 0 ≤ a ∧ a < pp) : restP (carR .u64 67108864 67108863 5 xs 2) = grps 26 5 130 a.toNat := by
  rw [carR_succ, carR_succ, carR_zero]
  obtain ⟨c1, c2, c3⟩ := near5 (dl := 7000) h.len (by decide) h.lo h.hi
  obtain ⟨d1, d2, d3⟩ := near5 (dl := 0) c2 (by decide) (by have := c3 0; omega) (fun t _ => c3 t)
  obtain ⟨e1, e2, e3, e4⟩ := rest5 d2 d3
  exact digits_of (by decide) e1 (by decide) e2 (e3.trans (d1.trans (c1.trans h.v))) e4 ha
end Go.Proofs.Ytoeholbdocmlnaa
