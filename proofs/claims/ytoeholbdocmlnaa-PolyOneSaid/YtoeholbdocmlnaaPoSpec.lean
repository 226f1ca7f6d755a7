/-
  What package poly and the document's answer compute, in plain Lean.
-/
import Derived.Test.YtoeholbdocmlnaaDI
namespace Go.Proofs.Ytoeholbdocmlnaa
open Go Go.RowKit D
set_option linter.unusedVariables false
set_option linter.unusedSimpArgs false
/-- A number of digits, the lowest one first. -/
def val (W : Int) : List Int → Int
  | [] => 0
  | x :: xs => x + W * val W xs
theorem getD_set_self {xs : List Int} {j : Nat} {x : Int} (h : j < xs.length) : (xs.set j x).getD j 0 = x := by simp [h]
theorem getD_set_ne {xs : List Int} {j k : Nat} {x : Int} (h : j ≠ k) : (xs.set j x).getD k 0 = xs.getD k 0 := by simp [List.getD_eq_getElem?_getD, List.getElem?_set, h]
theorem val_set (W : Int) (xs : List Int) : ∀ (j : Nat) (y : Int), j < xs.length → val W (xs.set j y) = val W xs + (y - xs.getD j 0) * W ^ j := by
  induction xs with
  | nil => intro j y h; simp at h
  | cons x xs ih =>
    intro j y h
    cases j with
    | zero => simp [val]; omega
    | succ j =>
      have := ih j y (by simpa using h)
      simp only [List.set_cons_succ, val, List.getD_cons_succ, this]
      grind
theorem val_app (W : Int) (xs ys : List Int) : val W (xs ++ ys) = val W xs + W ^ xs.length * val W ys := by
  induction xs with
  | nil => simp [val]
  | cons x xs ih => simp only [List.cons_append, val, ih, List.length_cons]; grind
theorem val_nonneg {W : Int} (hW : 0 ≤ W) : ∀ {xs : List Int}, (∀ x ∈ xs, 0 ≤ x) → 0 ≤ val W xs := by
  intro xs
  induction xs with
  | nil => intro _; simp [val]
  | cons x xs ih =>
    intro h
    have h1 := h x (by simp)
    have h2 := ih fun y hy => h y (by simp [hy])
    have := Int.mul_nonneg hW h2
    simp only [val]; omega
theorem val_lt {W : Int} (hW : 1 ≤ W) : ∀ {xs : List Int}, (∀ x ∈ xs, 0 ≤ x ∧ x < W) → val W xs < W ^ xs.length := by
  intro xs
  induction xs with
  | nil => intro _; simp [val]
  | cons x xs ih =>
    intro h
    have h1 := h x (by simp)
    have h2 := ih fun y hy => h y (by simp [hy])
    have h3 : W * val W xs ≤ W * (W ^ xs.length - 1) := Int.mul_le_mul_of_nonneg_left (by omega) (by omega)
    have h4 : W * (W ^ xs.length - 1) = W ^ (xs.length + 1) - W := by grind
    simp only [val, List.length_cons]; omega
/-! carrying -/
def carK (k : IntKind) (W m : Int) (xs : List Int) : Nat → List Int × Int
  | 0 => (xs, 0)
  | i + 1 => ((carK k W m xs i).1.set i (iand k (k.wrap ((carK k W m xs i).1.getD i 0 + (carK k W m xs i).2)) m), k.wrap ((carK k W m xs i).1.getD i 0 + (carK k W m xs i).2) / W)
theorem carK_zero (k : IntKind) (W m : Int) (xs : List Int) : carK k W m xs 0 = (xs, 0) := rfl
theorem carK_succ (k : IntKind) (W m : Int) (xs : List Int) (i : Nat) : carK k W m xs (i + 1) = ((carK k W m xs i).1.set i (iand k (k.wrap ((carK k W m xs i).1.getD i 0 + (carK k W m xs i).2)) m), k.wrap ((carK k W m xs i).1.getD i 0 + (carK k W m xs i).2) / W) := rfl
theorem carK_length (k : IntKind) (W m : Int) (xs : List Int) (i : Nat) : (carK k W m xs i).1.length = xs.length := by
  induction i with
  | zero => rfl
  | succ i ih => rw [carK_succ]; simp [ih]
attribute [irreducible] carK
def car1 (k : IntKind) (W m : Int) (n : Nat) (xs : List Int) : List Int := (carK k W m xs n).1.set 0 (k.wrap ((carK k W m xs n).1.getD 0 0 + k.wrap (5 * (carK k W m xs n).2)))
theorem car1_length (k : IntKind) (W m : Int) (n : Nat) (xs : List Int) : (car1 k W m n xs).length = xs.length := by simp [car1, carK_length]
def carR (k : IntKind) (W m : Int) (n : Nat) (xs : List Int) : Nat → List Int
  | 0 => xs
  | r + 1 => car1 k W m n (carR k W m n xs r)
theorem carR_zero (k : IntKind) (W m : Int) (n : Nat) (xs : List Int) : carR k W m n xs 0 = xs := rfl
theorem carR_succ (k : IntKind) (W m : Int) (n : Nat) (xs : List Int) (r : Nat) : carR k W m n xs (r + 1) = car1 k W m n (carR k W m n xs r) := rfl
theorem carR_length (k : IntKind) (W m : Int) (n : Nat) (xs : List Int) (r : Nat) : (carR k W m n xs r).length = xs.length := by
  induction r with
  | zero => rfl
  | succ r ih => rw [carR_succ, car1_length, ih]
attribute [irreducible] car1 carR
/-! multiplying -/
def mulC (k : IntKind) (n : Nat) (a b : Int) (out : List Int) (i j : Nat) : List Int :=
  if i + j < n then out.set (i + j) (k.wrap (out.getD (i + j) 0 + k.wrap (a * b))) else out.set (i + j - n) (k.wrap (out.getD (i + j - n) 0 + k.wrap (k.wrap (5 * a) * b)))
theorem mulC_lt {k : IntKind} {n : Nat} {a b : Int} {out : List Int} {i j : Nat} (h : i + j < n) : mulC k n a b out i j = out.set (i + j) (k.wrap (out.getD (i + j) 0 + k.wrap (a * b))) := if_pos h
theorem mulC_ge {k : IntKind} {n : Nat} {a b : Int} {out : List Int} {i j : Nat} (h : ¬ i + j < n) : mulC k n a b out i j = out.set (i + j - n) (k.wrap (out.getD (i + j - n) 0 + k.wrap (k.wrap (5 * a) * b))) := if_neg h
theorem mulC_length (k : IntKind) (n : Nat) (a b : Int) (out : List Int) (i j : Nat) : (mulC k n a b out i j).length = out.length := by unfold mulC; split <;> simp
attribute [irreducible] mulC
def mulR (k : IntKind) (n : Nat) (a : Int) (ys : List Int) (out : List Int) (i : Nat) : Nat → List Int
  | 0 => out
  | j + 1 => mulC k n a (ys.getD j 0) (mulR k n a ys out i j) i j
theorem mulR_zero (k : IntKind) (n : Nat) (a : Int) (ys : List Int) (out : List Int) (i : Nat) : mulR k n a ys out i 0 = out := rfl
theorem mulR_succ (k : IntKind) (n : Nat) (a : Int) (ys : List Int) (out : List Int) (i j : Nat) : mulR k n a ys out i (j + 1) = mulC k n a (ys.getD j 0) (mulR k n a ys out i j) i j := rfl
theorem mulR_length (k : IntKind) (n : Nat) (a : Int) (ys : List Int) (out : List Int) (i j : Nat) : (mulR k n a ys out i j).length = out.length := by
  induction j with
  | zero => rfl
  | succ j ih => rw [mulR_succ, mulC_length, ih]
attribute [irreducible] mulR
def mulA (k : IntKind) (n : Nat) (xs ys : List Int) : Nat → List Int
  | 0 => List.replicate n 0
  | i + 1 => mulR k n (xs.getD i 0) ys (mulA k n xs ys i) i n
theorem mulA_zero (k : IntKind) (n : Nat) (xs ys : List Int) : mulA k n xs ys 0 = List.replicate n 0 := rfl
theorem mulA_succ (k : IntKind) (n : Nat) (xs ys : List Int) (i : Nat) : mulA k n xs ys (i + 1) = mulR k n (xs.getD i 0) ys (mulA k n xs ys i) i n := rfl
theorem mulA_length (k : IntKind) (n : Nat) (xs ys : List Int) (i : Nat) : (mulA k n xs ys i).length = n := by
  induction i with
  | zero => simp [mulA_zero]
  | succ i ih => rw [mulA_succ, mulR_length, ih]
attribute [irreducible] mulA
/-! adding -/
def addK (k : IntKind) (xs ys : List Int) : Nat → List Int
  | 0 => xs
  | i + 1 => (addK k xs ys i).set i (k.wrap ((addK k xs ys i).getD i 0 + ys.getD i 0))
theorem addK_zero (k : IntKind) (xs ys : List Int) : addK k xs ys 0 = xs := rfl
theorem addK_succ (k : IntKind) (xs ys : List Int) (i : Nat) : addK k xs ys (i + 1) = (addK k xs ys i).set i (k.wrap ((addK k xs ys i).getD i 0 + ys.getD i 0)) := rfl
theorem addK_length (k : IntKind) (xs ys : List Int) (i : Nat) : (addK k xs ys i).length = xs.length := by
  induction i with
  | zero => rfl
  | succ i ih => rw [addK_succ]; simp [ih]
attribute [irreducible] addK
/-! groups of bits -/
def grp (g N V j : Nat) : Nat := V % 2 ^ N / 2 ^ (g * j) % 2 ^ g
def grps (g n N V : Nat) : List Int := (List.range n).map fun j => ((grp g N V j : Nat) : Int)
theorem grps_length (g n N V : Nat) : (grps g n N V).length = n := by simp [grps]
theorem grps_getD {g n N V j : Nat} (h : j < n) : (grps g n N V).getD j 0 = (grp g N V j : Nat) := by simp [grps, h]
theorem grps_zero (g n V : Nat) : grps g n 0 V = List.replicate n 0 := by
  apply List.ext_getElem
  · simp [grps]
  · intro i h1 h2; simp [grps, grp, Nat.mod_one]
theorem grp_bit (g N V j t : Nat) : (grp g N V j).testBit t = (decide (t < g) && (decide (g * j + t < N) && V.testBit (g * j + t))) := by
  unfold grp
  rw [Nat.testBit_mod_two_pow, Nat.testBit_div_two_pow, Nat.testBit_mod_two_pow, Nat.add_comm t]
theorem bit01 (V N : Nat) : V / 2 ^ N % 2 = if V.testBit N = true then 1 else 0 := by
  rw [Nat.testBit_eq_decide_div_mod_eq]
  have : V / 2 ^ N % 2 < 2 := Nat.mod_lt _ (by decide)
  split <;> rename_i h <;> simp at h <;> omega
/-- One bit more. -/
theorem grp_here (g N V : Nat) (hg : 0 < g) : grp g (N + 1) V (N / g) = (grp g N V (N / g) ||| V / 2 ^ N % 2 * 2 ^ (N % g)) := by
  have hN : g * (N / g) + N % g = N := Nat.div_add_mod N g
  have hr : N % g < g := Nat.mod_lt N hg
  apply Nat.eq_of_testBit_eq
  intro t
  rw [Nat.testBit_or, grp_bit, grp_bit, bit01]
  by_cases hb : V.testBit N = true
  · rw [if_pos hb, Nat.one_mul, Nat.testBit_two_pow]
    by_cases ht : t = N % g
    · subst ht
      have h1 : g * (N / g) + N % g < N + 1 := by omega
      have h2 : decide (N % g = N % g) = true := by simp
      rw [h2, hN]; simp [hb, hr]
    · have h2 : decide (N % g = t) = false := by simp; omega
      rw [h2, Bool.or_false]
      have h3 : g * (N / g) + t < N + 1 ↔ g * (N / g) + t < N := by omega
      simp only [h3]
  · rw [if_neg hb, Nat.zero_mul, Nat.zero_testBit, Bool.or_false]
    by_cases ht : t = N % g
    · subst ht
      rw [hN]; simp at hb; simp [hb]
    · have h3 : g * (N / g) + t < N + 1 ↔ g * (N / g) + t < N := by omega
      simp only [h3]
theorem grp_other (g N V j : Nat) (hg : 0 < g) (hj : j ≠ N / g) : grp g (N + 1) V j = grp g N V j := by
  apply Nat.eq_of_testBit_eq
  intro t
  rw [grp_bit, grp_bit]
  by_cases ht : t < g
  · have h3 : g * j + t < N + 1 ↔ g * j + t < N := by
      have : g * j + t ≠ N := by
        intro e
        apply hj
        rw [← e, Nat.mul_add_div hg, Nat.div_eq_of_lt ht, Nat.add_zero]
      omega
    simp only [h3]
  · simp [ht]
theorem grp_lt (g N V j : Nat) : grp g N V j < 2 ^ g := Nat.mod_lt _ (Nat.two_pow_pos g)
theorem grps_succ (g n N V : Nat) (hg : 0 < g) (hn : N / g < n) : (grps g n N V).set (N / g) ((grp g N V (N / g) ||| V / 2 ^ N % 2 * 2 ^ (N % g) : Nat) : Int) = grps g n (N + 1) V := by
  apply List.ext_getElem
  · simp [grps]
  · intro i h1 h2
    simp only [grps, List.length_map, List.length_range, List.length_set] at h1 h2
    rw [List.getElem_set]
    simp only [grps, List.getElem_map, List.getElem_range]
    split
    · rename_i h; subst h; rw [grp_here g N V hg]
    · rename_i h; rw [grp_other g N V i hg (fun e => h e.symm)]
theorem grps_skip (g n N V : Nat) (hg : 0 < g) (h0 : V / 2 ^ N % 2 = 0) : grps g n N V = grps g n (N + 1) V := by
  apply List.ext_getElem
  · simp [grps]
  · intro i h1 h2
    simp only [grps, List.getElem_map, List.getElem_range]
    by_cases hj : i = N / g
    · rw [hj, grp_here g N V hg, h0]; simp
    · rw [grp_other g N V i hg hj]
theorem val_grps (g n N V : Nat) (hN : g * n ≤ N) : val ((2 ^ g : Nat) : Int) (grps g n N V) = ((V % 2 ^ (g * n) : Nat) : Int) := by
  induction n with
  | zero => simp [grps, val, Nat.mod_one]
  | succ n ih =>
    have e : grps g (n + 1) N V = grps g n N V ++ [((grp g N V n : Nat) : Int)] := by simp [grps, List.range_succ]
    rw [e, val_app, ih (by rw [Nat.mul_succ] at hN; omega), grps_length]
    have h1 : grp g N V n = V / 2 ^ (g * n) % 2 ^ g := by
      unfold grp
      apply Nat.eq_of_testBit_eq
      intro t
      rw [Nat.testBit_mod_two_pow, Nat.testBit_div_two_pow, Nat.testBit_mod_two_pow, Nat.testBit_mod_two_pow, Nat.testBit_div_two_pow]
      by_cases ht : t < g
      · have : t + g * n < N := by rw [Nat.mul_succ] at hN; omega
        simp [ht, this]
      · simp [ht]
    have h2 : V % 2 ^ (g * (n + 1)) = V % 2 ^ (g * n) + 2 ^ (g * n) * (V / 2 ^ (g * n) % 2 ^ g) := by
      rw [Nat.mul_succ, Nat.pow_add, Nat.mod_mul]
    have h3 : ((2 ^ g : Nat) : Int) ^ n = ((2 ^ (g * n) : Nat) : Int) := by rw [Nat.pow_mul]; simp
    rw [h1, h2, h3]
    simp [val]
/-- Numbers of so many digits, each below 2^g, are their own groups. -/
theorem grps_of (g : Nat) (hg : 0 < g) : ∀ (xs : List Nat) (N : Nat), (∀ x ∈ xs, x < 2 ^ g) → g * xs.length ≤ N → ∃ V : Nat, val ((2 ^ g : Nat) : Int) (xs.map fun x : Nat => (x : Int)) = (V : Int) ∧ V < 2 ^ (g * xs.length) ∧ (xs.map fun x : Nat => (x : Int)) = grps g xs.length N V := by
  intro xs
  induction xs with
  | nil => intro N _ _; exact ⟨0, by simp [val], by simp, by simp [grps]⟩
  | cons x xs ih =>
    intro N hx hN
    simp only [List.length_cons, Nat.mul_succ] at hN
    obtain ⟨V, h1, h2, h3⟩ := ih (N - g) (fun y hy => hx y (by simp [hy])) (by omega)
    have hxl := hx x (by simp)
    refine ⟨x + 2 ^ g * V, by simp only [List.map_cons, val, h1]; simp, ?_, ?_⟩
    · simp only [List.length_cons, Nat.mul_succ, Nat.pow_add]
      have : 2 ^ g * V ≤ 2 ^ g * (2 ^ (g * xs.length) - 1) := Nat.mul_le_mul_left _ (by omega)
      have h5 : 2 ^ g * (2 ^ (g * xs.length) - 1) = 2 ^ (g * xs.length) * 2 ^ g - 2 ^ g := by rw [Nat.mul_sub, Nat.mul_one, Nat.mul_comm]
      have h6 : 2 ^ g ≤ 2 ^ (g * xs.length) * 2 ^ g := Nat.le_mul_of_pos_left _ (Nat.two_pow_pos _)
      omega
    · simp only [List.map_cons, List.length_cons]
      rw [h3]
      apply List.ext_getElem
      · simp [grps]
      · intro i p1 p2
        cases i with
        | zero =>
          simp only [grps, List.getElem_cons_zero, List.getElem_map, List.getElem_range]
          congr 1
          unfold grp
          rw [Nat.mul_zero, Nat.pow_zero, Nat.div_one]
          rw [Nat.mod_mod_of_dvd _ (Nat.pow_dvd_pow 2 (by omega : g ≤ N)), Nat.add_mul_mod_self_left, Nat.mod_eq_of_lt hxl]
        | succ i =>
          simp only [grps, List.getElem_cons_succ, List.getElem_map, List.getElem_range]
          congr 1
          apply Nat.eq_of_testBit_eq
          intro t
          rw [grp_bit, grp_bit]
          have e : (x + 2 ^ g * V).testBit (g * (i + 1) + t) = V.testBit (g * i + t) := by
            rw [show g * (i + 1) + t = (g * i + t) + g from by rw [Nat.mul_succ]; omega, ← Nat.testBit_div_two_pow, Nat.add_mul_div_left _ _ (Nat.two_pow_pos g), Nat.div_eq_of_lt hxl, Nat.zero_add]
          rw [e]
          have : g * i + t < N - g ↔ g * (i + 1) + t < N := by rw [Nat.mul_succ]; omega
          simp only [this]
/-! package poly -/
def BytesL (xs : List Int) : Prop := ∀ j, 0 ≤ xs.getD j 0 ∧ xs.getD j 0 ≤ 255
def wd (xs : List Int) (o : Nat) : Int := xs.getD o 0 + 256 * xs.getD (o + 1) 0 + 65536 * xs.getD (o + 2) 0 + 16777216 * xs.getD (o + 3) 0
theorem wd_range {xs : List Int} (h : BytesL xs) (o : Nat) : 0 ≤ wd xs o ∧ wd xs o < 4294967296 := by
  have := h o; have := h (o + 1); have := h (o + 2); have := h (o + 3)
  unfold wd; omega
theorem or64 {a b : Int} (i : Nat) (hi : i ≤ 62) (ha : 0 ≤ a) (h1 : a < 2 ^ i) (hb : 0 ≤ b) (h2 : b * 2 ^ i < 9223372036854775808) : ior .u64 a (b * 2 ^ i) = a + b * 2 ^ i := by
  obtain ⟨m, rfl⟩ := Int.eq_ofNat_of_zero_le ha
  obtain ⟨n, rfl⟩ := Int.eq_ofNat_of_zero_le hb
  have e : ((n : Int) * 2 ^ i) = ((n * 2 ^ i : Nat) : Int) := by simp
  have h1' : m < 2 ^ i := by
    have : ((m : Nat) : Int) < ((2 ^ i : Nat) : Int) := by simpa using h1
    omega
  have hp : (2 : Nat) ^ i ≤ 2 ^ 62 := Nat.pow_le_pow_right (by decide) hi
  rw [e] at h2 ⊢
  rw [ior_u64 (by omega) (by omega), or_add h1']
  simp
theorem word_eq {a b c d : Int} (ha : 0 ≤ a ∧ a ≤ 255) (hb : 0 ≤ b ∧ b ≤ 255) (hc : 0 ≤ c ∧ c ≤ 255) (hd : 0 ≤ d ∧ d ≤ 255) :
    ior .u64 (ior .u64 (ior .u64 (IntKind.u64.wrap a) (IntKind.u64.wrap (IntKind.u64.wrap b * 2 ^ 8))) (IntKind.u64.wrap (IntKind.u64.wrap c * 2 ^ 16))) (IntKind.u64.wrap (IntKind.u64.wrap d * 2 ^ 24)) = a + 256 * b + 65536 * c + 16777216 * d := by
  rw [wrap_u64_in (x := a) (by omega) (by omega), wrap_u64_in (x := b) (by omega) (by omega), wrap_u64_in (x := c) (by omega) (by omega), wrap_u64_in (x := d) (by omega) (by omega),
    wrap_u64_in (x := b * 2 ^ 8) (by omega) (by omega), wrap_u64_in (x := c * 2 ^ 16) (by omega) (by omega), wrap_u64_in (x := d * 2 ^ 24) (by omega) (by omega),
    or64 8 (by decide) (by omega) (by omega) (by omega) (by omega), or64 16 (by decide) (by omega) (by omega) (by omega) (by omega), or64 24 (by decide) (by omega) (by omega) (by omega) (by omega)]
  omega
theorem mask26 {x : Int} (h : 0 ≤ x) (h1 : x < 18446744073709551616) : iand .u64 x 67108863 = x % 67108864 := mask_u64 26 (by decide) h h1 67108863 (by decide)
def ofL (xs : List Int) : List Int := [wd xs 0 % 67108864, wd xs 3 / 2 ^ 2 % 67108864, wd xs 6 / 2 ^ 4 % 67108864, wd xs 9 / 2 ^ 6, wd xs 12 / 2 ^ 8 % 67108864 + xs.getD 16 0 * 2 ^ 24]
theorem ofL_length (xs : List Int) : (ofL xs).length = 5 := rfl
theorem of_last {xs : List Int} (h : BytesL xs) : ior .u64 (wd xs 12 / 2 ^ 8 % 67108864) (IntKind.u64.wrap (IntKind.u64.wrap (xs.getD 16 0) * 2 ^ 24)) = wd xs 12 / 2 ^ 8 % 67108864 + xs.getD 16 0 * 2 ^ 24 := by
  have h1 := h 16
  have h2 := wd_range h 12
  rw [wrap_u64_in (x := xs.getD 16 0) (by omega) (by omega), wrap_u64_in (by omega) (by omega), or64 24 (by decide) (by omega) (by omega) (by omega) (by omega)]
def timesP (xs ys : List Int) : List Int := carR .u64 67108864 67108863 5 (mulA .u64 5 xs ys 5) 2
def restS (ys : List Int) (i : Nat) : List Int :=
  (ys.set (i + 1) (IntKind.u64.wrap (ys.getD (i + 1) 0 + ys.getD i 0 / 2 ^ 26))).set i (iand .u64 ((ys.set (i + 1) (IntKind.u64.wrap (ys.getD (i + 1) 0 + ys.getD i 0 / 2 ^ 26))).getD i 0) 67108863)
theorem restS_length (ys : List Int) (i : Nat) : (restS ys i).length = ys.length := by simp [restS]
def restK (xs : List Int) : Nat → List Int
  | 0 => xs.set 0 (IntKind.u64.wrap (xs.getD 0 0 + 5))
  | i + 1 => restS (restK xs i) i
theorem restK_zero (xs : List Int) : restK xs 0 = xs.set 0 (IntKind.u64.wrap (xs.getD 0 0 + 5)) := rfl
theorem restK_succ (xs : List Int) (i : Nat) : restK xs (i + 1) = restS (restK xs i) i := rfl
theorem restK_length (xs : List Int) (i : Nat) : (restK xs i).length = xs.length := by
  induction i with
  | zero => simp [restK_zero]
  | succ i ih => rw [restK_succ, restS_length, ih]
attribute [irreducible] restK
def restP (xs : List Int) : List Int := if 0 < (restK xs 4).getD 4 0 / 2 ^ 26 then (restK xs 4).set 4 (iand .u64 ((restK xs 4).getD 4 0) 67108863) else xs
theorem restP_yes {xs : List Int} (h : 0 < (restK xs 4).getD 4 0 / 2 ^ 26) : restP xs = (restK xs 4).set 4 (iand .u64 ((restK xs 4).getD 4 0) 67108863) := if_pos h
theorem restP_no {xs : List Int} (h : ¬ 0 < (restK xs 4).getD 4 0 / 2 ^ 26) : restP xs = xs := if_neg h
attribute [irreducible] restP
def clS (ys : List Int) (j : Nat) : List Int :=
  (ys.set (4 * j + 3) (iand .u8 (ys.getD (4 * j + 3) 0) 15)).set ((4 * j + 4) % 16) (iand .u8 ((ys.set (4 * j + 3) (iand .u8 (ys.getD (4 * j + 3) 0) 15)).getD ((4 * j + 4) % 16) 0) (ior .u8 252 (IntKind.u8.wrap (3 * (((4 * j + 3 : Nat) : Int) / 15)))))
theorem clS_length (ys : List Int) (i : Nat) : (clS ys i).length = ys.length := by simp [clS]
def clK (xs : List Int) : Nat → List Int
  | 0 => xs
  | j + 1 => clS (clK xs j) j
theorem clK_zero (xs : List Int) : clK xs 0 = xs := rfl
theorem clK_succ (xs : List Int) (j : Nat) : clK xs (j + 1) = clS (clK xs j) j := rfl
theorem clK_length (xs : List Int) (i : Nat) : (clK xs i).length = xs.length := by
  induction i with
  | zero => rfl
  | succ i ih => rw [clK_succ, clS_length, ih]
attribute [irreducible] clK ofL
theorem grps_bit26 {V i : Nat} (hi : i < 130) : (grp 26 130 V (i / 26)) / 2 ^ (i % 26) % 2 = V / 2 ^ i % 2 := by
  rw [bit01, bit01, grp_bit, Nat.div_add_mod, decide_eq_true (Nat.mod_lt i (by decide : 0 < 26)), decide_eq_true hi]
  simp
theorem bytes_step {V i : Nat} (hi : i < 128) :
    (grps 8 16 i V).set ((i : Int) / 8).toNat (ior .u8 ((grps 8 16 i V).getD ((i : Int) / 8).toNat 0) (IntKind.u8.wrap (IntKind.u8.wrap (iand .u64 ((grps 26 5 130 V).getD ((i : Int) / 26).toNat 0 / 2 ^ min ((i : Int) % 26).toNat IntKind.u64.bits) 1) * 2 ^ min ((i : Int) % 8).toNat IntKind.u8.bits))) = grps 8 16 (i + 1) V := by
  rw [← grps_succ 8 16 i V (by decide) (by omega), show ((i : Int) / 8).toNat = i / 8 from by omega, show ((i : Int) / 26).toNat = i / 26 from by omega]
  rw [show min ((i : Int) % 26).toNat IntKind.u64.bits = i % 26 from by show min _ 64 = _; omega, show min ((i : Int) % 8).toNat IntKind.u8.bits = i % 8 from by show min _ 8 = _; omega]
  rw [grps_getD (by omega : i / 8 < 16), grps_getD (by omega : i / 26 < 5)]
  have h1 : ((grp 26 130 V (i / 26) : Nat) : Int) / 2 ^ (i % 26) = ((grp 26 130 V (i / 26) / 2 ^ (i % 26) : Nat) : Int) := by simp
  have hlt : grp 26 130 V (i / 26) / 2 ^ (i % 26) < 2 ^ 26 := Nat.lt_of_le_of_lt (Nat.div_le_self _ _) (grp_lt 26 130 V _)
  have hq := grps_bit26 (V := V) (i := i) (by omega)
  rw [h1]
  generalize grp 26 130 V (i / 26) / 2 ^ (i % 26) = q at hlt hq
  rw [mask_u64 1 (by decide) (by omega) (by omega) 1 (by decide), ← Int.natCast_emod, show q % 2 ^ 1 = V / 2 ^ i % 2 from hq]
  have hb : V / 2 ^ i % 2 < 2 := Nat.mod_lt _ (by decide)
  generalize V / 2 ^ i % 2 = b at hb
  have hp : (2 : Nat) ^ (i % 8) ≤ 2 ^ 7 := Nat.pow_le_pow_right (by decide) (by omega)
  have hm : b * 2 ^ (i % 8) ≤ 1 * 2 ^ 7 := Nat.mul_le_mul (by omega) hp
  have e : (((b : Nat) : Int) * 2 ^ (i % 8)) = ((b * 2 ^ (i % 8) : Nat) : Int) := by simp
  rw [wrap_u8_in (x := ((b : Nat) : Int)) (by omega) (by omega), e, wrap_u8_in (by omega) (by omega), ior_u8 (grp_lt 8 i V _) (by omega)]
theorem clamp_start {l : List UInt8} (h : l.length = 16) : (List.take 0 (List.replicate 17 (0 : Int)) ++ (ofB l).take (min l.length 17) ++ List.drop (0 + ((ofB l).take (min l.length 17)).length) (List.replicate 17 (0 : Int))) = ofB l ++ [0] := by
  rw [h, show min 16 17 = 16 from rfl, List.take_zero, List.nil_append, List.take_of_length_le (by rw [ofB_length]; omega), ofB_length, h]
  rfl
theorem list16 {α : Type} {l : List α} (h : l.length = 16) : ∃ a0 a1 a2 a3 a4 a5 a6 a7 a8 a9 a10 a11 a12 a13 a14 a15, l = [a0, a1, a2, a3, a4, a5, a6, a7, a8, a9, a10, a11, a12, a13, a14, a15] := by
  match l, h with
  | [a0, a1, a2, a3, a4, a5, a6, a7, a8, a9, a10, a11, a12, a13, a14, a15], _ => exact ⟨a0, a1, a2, a3, a4, a5, a6, a7, a8, a9, a10, a11, a12, a13, a14, a15, rfl⟩
theorem and_byte (a : UInt8) (m : Nat) (hm : m < 256) : iand .u8 ((a.toNat : Nat) : Int) (m : Int) = (((a.toNat &&& m : Nat)) : Int) := iand_u8 (by have := a.toNat_lt; omega) (by omega)
/-- The bits of the key that do not count are left out. -/
def clL (l : List UInt8) : List UInt8 := (List.range 16).map fun i => if i % 4 = 3 then l.getD i 0 &&& 15 else if i % 4 = 0 ∧ 0 < i then l.getD i 0 &&& 252 else l.getD i 0
theorem clK_eq {l : List UInt8} (h : l.length = 16) : clK (ofB l ++ [0]) 4 = ofB (clL l) ++ [0] := by
  obtain ⟨a0, a1, a2, a3, a4, a5, a6, a7, a8, a9, a10, a11, a12, a13, a14, a15, rfl⟩ := list16 h
  have m15 : ∀ a : UInt8, iand .u8 ((a.toNat : Nat) : Int) 15 = (((a &&& 15).toNat : Nat) : Int) := fun a => by rw [show (15 : Int) = ((15 : Nat) : Int) from rfl, and_byte a 15 (by decide), UInt8.toNat_and]; rfl
  have m252 : ∀ a : UInt8, iand .u8 ((a.toNat : Nat) : Int) 252 = (((a &&& 252).toNat : Nat) : Int) := fun a => by rw [show (252 : Int) = ((252 : Nat) : Int) from rfl, and_byte a 252 (by decide), UInt8.toNat_and]; rfl
  have m255 : ∀ a : UInt8, iand .u8 ((a.toNat : Nat) : Int) 255 = ((a.toNat : Nat) : Int) := fun a => by
    rw [show (255 : Int) = ((255 : Nat) : Int) from rfl, and_byte a 255 (by decide), show (255 : Nat) = 2 ^ 8 - 1 from rfl, Nat.and_two_pow_sub_one_eq_mod, Nat.mod_eq_of_lt a.toNat_lt]
  have k0 : ior .u8 252 (IntKind.u8.wrap (3 * (((4 * 0 + 3 : Nat) : Int) / 15))) = 252 := by decide
  have k1 : ior .u8 252 (IntKind.u8.wrap (3 * (((4 * 1 + 3 : Nat) : Int) / 15))) = 252 := by decide
  have k2 : ior .u8 252 (IntKind.u8.wrap (3 * (((4 * 2 + 3 : Nat) : Int) / 15))) = 252 := by decide
  have k3 : ior .u8 252 (IntKind.u8.wrap (3 * (((4 * 3 + 3 : Nat) : Int) / 15))) = 255 := by decide
  simp only [clK_succ, clK_zero, clS, k0, k1, k2, k3]
  simp only [ofB, List.map_cons, List.map_nil, List.cons_append, List.nil_append, Nat.mul_zero, Nat.zero_add, Nat.mul_one, Nat.reduceMul, Nat.reduceAdd, Nat.reduceMod, List.set_cons_succ, List.set_cons_zero, List.getD_cons_succ, List.getD_cons_zero, m15, m252, m255]
  rfl
theorem bytesL_ofB (l : List UInt8) : BytesL (ofB l) := fun j => by rw [ofB_getD]; exact bt_range l j
theorem bytesL_app0 (l : List UInt8) : BytesL (ofB l ++ [0]) := fun j => by
  rw [List.getD_eq_getElem?_getD, List.getElem?_append]
  split
  · have := bt_range l j; rw [← ofB_getD, List.getD_eq_getElem?_getD] at this; exact this
  · rw [List.getElem?_cons]; split <;> simp
theorem cl_bytes {l : List UInt8} (h : l.length = 16) : BytesL (clK (ofB l ++ [0]) 4) := by rw [clK_eq h]; exact bytesL_app0 _
end Go.Proofs.Ytoeholbdocmlnaa
