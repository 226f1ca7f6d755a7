/-
  Names of numbers that are written are read, and what is read is written again: in plain Lean.
-/
import Derived.Test.YtbjdmomfcdfanaaDeSp8
namespace Go.Proofs.Ytbjdmomfcdfanaa
open Go Go.RowKit D
set_option linter.unusedVariables false
set_option linter.unusedSimpArgs false
set_option maxRecDepth 100000
set_option maxHeartbeats 1000000
/-! the machine on lists -/
def oF (s : OS) (l : List UInt8) : OS := l.foldl (fun s c => oStep s ((c.toNat : Nat) : Int)) s
theorem oF_nil (s : OS) : oF s [] = s := rfl
theorem oF_cons (s : OS) (c : UInt8) (l : List UInt8) : oF s (c :: l) = oF (oStep s ((c.toNat : Nat) : Int)) l := by unfold oF; rw [List.foldl_cons]
theorem oF_app (s : OS) (a b : List UInt8) : oF s (a ++ b) = oF (oF s a) b := by simp [oF, List.foldl_append]
def o0 : OS := ⟨[], 0, 0, false⟩
theorem oS_take (d : List UInt8) : ∀ i, i ≤ d.length → oS d i = oF o0 (d.take i) := by
  intro i
  induction i with
  | zero => intro _; rfl
  | succ i ih =>
    intro h
    rw [oS_succ, ih (by omega), List.take_succ_eq_append_getElem (by omega), oF_app]
    have e : bt d i = ((((d[i]'(by omega)).toNat : Nat)) : Int) := by
      show (((d.getD i 0).toNat : Nat) : Int) = _
      rw [List.getD_eq_getElem?_getD, List.getElem?_eq_getElem (by omega)]; rfl
    rw [e]; rfl
theorem oS_all (d : List UInt8) : oS d d.length = oF o0 d := by rw [oS_take d _ (Nat.le_refl _), List.take_length]
def goodL (s : OS) : List UInt8 → Prop
  | [] => True
  | c :: l => ¬ (s.many = 0 ∧ ((c.toNat : Nat) : Int) = 128) ∧ goodL (oStep s ((c.toNat : Nat) : Int)) l
theorem goodL_app (b : List UInt8) : ∀ (a : List UInt8) (s : OS), goodL s (a ++ b) ↔ goodL s a ∧ goodL (oF s a) b := by
  intro a
  induction a with
  | nil => intro s; exact ⟨fun h => ⟨trivial, h⟩, fun h => h.2⟩
  | cons c a ih =>
    intro s
    show (_ ∧ goodL _ (a ++ b)) ↔ (_ ∧ goodL _ a) ∧ goodL (oF _ a) b
    rw [ih]
    exact ⟨fun ⟨h1, h2, h3⟩ => ⟨⟨h1, h2⟩, h3⟩, fun ⟨⟨h1, h2⟩, h3⟩ => ⟨h1, h2, h3⟩⟩
theorem goodL_iff (d : List UInt8) : ∀ i, i ≤ d.length → ((∀ j, j < i → ¬ oBad d j) ↔ goodL o0 (d.take i)) := by
  intro i
  induction i with
  | zero => intro _; exact ⟨fun _ => trivial, fun _ j h => by omega⟩
  | succ i ih =>
    intro h
    have e : bt d i = ((((d[i]'(by omega)).toNat : Nat)) : Int) := by
      show (((d.getD i 0).toNat : Nat) : Int) = _
      rw [List.getD_eq_getElem?_getD, List.getElem?_eq_getElem (by omega)]; rfl
    rw [List.take_succ_eq_append_getElem (by omega), goodL_app, ← ih (by omega), ← oS_take d i (by omega)]
    constructor
    · intro g
      refine ⟨fun j hj => g j (by omega), fun hb => g i (by omega) ⟨hb.1, by rw [e]; exact hb.2⟩, trivial⟩
    · rintro ⟨g1, g2, _⟩ j hj
      by_cases hji : j < i
      · exact g1 j hji
      · obtain rfl : j = i := by omega
        exact fun hb => g2 ⟨hb.1, by rw [← e]; exact hb.2⟩
theorem goodL_all (d : List UInt8) : (∀ j, j < d.length → ¬ oBad d j) ↔ goodL o0 d := by
  have := goodL_iff d d.length (Nat.le_refl _)
  rwa [List.take_length] at this
def stL (l : List Int) : OS := ⟨l, 0, 0, false⟩
/-! one group -/
theorem step_low {l : List Int} {n : Int} {m : Nat} {c : Int} (hm : m ≤ 3) (h : c < 128) (h0 : 0 ≤ c) : oStep ⟨l, n, m, false⟩ c = stL (l ++ [128 * n + c]) := by
  rw [oStep_low h, oN_small (by unfold oB; simp; omega)]
  have e : oB ⟨l, n, m, false⟩ = false := by unfold oB; simp; omega
  rw [e, Int.emod_eq_of_lt h0 h]; rfl
theorem step_high {l : List Int} {n : Int} {m : Nat} {c : Int} (hm : m ≤ 3) (h : 128 ≤ c) (h1 : c < 256) : oStep ⟨l, n, m, false⟩ c = ⟨l, 128 * n + (c - 128), m + 1, false⟩ := by
  rw [oStep_high (by omega), oN_small (by unfold oB; simp; omega)]
  have e : oB ⟨l, n, m, false⟩ = false := by unfold oB; simp; omega
  rw [e, show c % 128 = c - 128 from by omega]
theorem grp1 {n : Int} (h : n < 128) : grpL n = [b8 (n % 128)] := by
  unfold grpL cnt; rw [if_pos h]; simp [lgr, List.range_succ]
theorem grp2 {n : Int} (h : ¬ n < 128) (h2 : n < 16384) : grpL n = [b8 (128 + n / 128 % 128), b8 (n % 128)] := by
  unfold grpL cnt; rw [if_neg h, if_pos h2]; simp [lgr, List.range_succ]
theorem grp3 {n : Int} (h : ¬ n < 16384) (h2 : n < 2097152) : grpL n = [b8 (128 + n / 16384 % 128), b8 (128 + n / 128 % 128), b8 (n % 128)] := by
  unfold grpL cnt; rw [if_neg (by omega), if_neg h, if_pos h2]; simp [lgr, List.range_succ]
theorem grp4 {n : Int} (h : ¬ n < 2097152) (h2 : n < 268435456) : grpL n = [b8 (128 + n / 2097152 % 128), b8 (128 + n / 16384 % 128), b8 (128 + n / 128 % 128), b8 (n % 128)] := by
  unfold grpL cnt; rw [if_neg (by omega), if_neg (by omega), if_neg h, if_pos h2]; simp [lgr, List.range_succ]
theorem b8_in {m : Int} (h0 : 0 ≤ m) (h1 : m < 256) : (((b8 m).toNat : Nat) : Int) = m := by rw [b8_toNat]; omega
/-- A group that is written is read. -/
theorem grp_read {n : Int} (h0 : 0 ≤ n) (h1 : n < 268435456) (l : List Int) : oF (stL l) (grpL n) = stL (l ++ [n]) ∧ goodL (stL l) (grpL n) := by
  by_cases g1 : n < 128
  · have e0 : (((b8 (n % 128)).toNat : Nat) : Int) = n := by rw [b8_in (by omega) (by omega)]; omega
    rw [grp1 g1]
    refine ⟨?_, ?_⟩
    · rw [oF_cons, e0, oF_nil]; unfold stL; rw [step_low (by decide) g1 h0]; congr 1; simp
    · exact ⟨fun h => by rw [e0] at h; omega, trivial⟩
  · by_cases g2 : n < 16384
    · have e0 : (((b8 (128 + n / 128 % 128)).toNat : Nat) : Int) = 128 + n / 128 := by rw [b8_in (by omega) (by omega)]; omega
      have e1 : (((b8 (n % 128)).toNat : Nat) : Int) = n % 128 := b8_in (by omega) (by omega)
      rw [grp2 g1 g2]
      have s0 : oStep (stL l) (128 + n / 128) = ⟨l, 128 * 0 + (128 + n / 128 - 128), 1, false⟩ := step_high (by decide) (by omega) (by omega)
      refine ⟨?_, ?_⟩
      · rw [oF_cons, e0, oF_cons, e1, oF_nil, s0, step_low (by decide) (by omega) (by omega)]
        congr 3; omega
      · refine ⟨fun h => by rw [e0] at h; have := h.2; omega, ?_⟩
        rw [e0, s0]
        exact ⟨fun h => absurd h.1 (Nat.succ_ne_zero _), trivial⟩
    · by_cases g3 : n < 2097152
      · have e0 : (((b8 (128 + n / 16384 % 128)).toNat : Nat) : Int) = 128 + n / 16384 := by rw [b8_in (by omega) (by omega)]; omega
        have e1 : (((b8 (128 + n / 128 % 128)).toNat : Nat) : Int) = 128 + n / 128 % 128 := b8_in (by omega) (by omega)
        have e2 : (((b8 (n % 128)).toNat : Nat) : Int) = n % 128 := b8_in (by omega) (by omega)
        rw [grp3 g2 g3]
        have s0 : oStep (stL l) (128 + n / 16384) = ⟨l, 128 * 0 + (128 + n / 16384 - 128), 1, false⟩ := step_high (by decide) (by omega) (by omega)
        have s1 : oStep ⟨l, 128 * 0 + (128 + n / 16384 - 128), 1, false⟩ (128 + n / 128 % 128) = ⟨l, 128 * (128 * 0 + (128 + n / 16384 - 128)) + (128 + n / 128 % 128 - 128), 2, false⟩ := step_high (by decide) (by omega) (by omega)
        refine ⟨?_, ?_⟩
        · rw [oF_cons, e0, oF_cons, e1, oF_cons, e2, oF_nil, s0, s1, step_low (by decide) (by omega) (by omega)]
          congr 3; omega
        · refine ⟨fun h => by rw [e0] at h; have := h.2; omega, ?_⟩
          rw [e0, s0]
          refine ⟨fun h => absurd h.1 (Nat.succ_ne_zero _), ?_⟩
          rw [e1, s1]
          exact ⟨fun h => absurd h.1 (Nat.succ_ne_zero _), trivial⟩
      · have e0 : (((b8 (128 + n / 2097152 % 128)).toNat : Nat) : Int) = 128 + n / 2097152 := by rw [b8_in (by omega) (by omega)]; omega
        have e1 : (((b8 (128 + n / 16384 % 128)).toNat : Nat) : Int) = 128 + n / 16384 % 128 := b8_in (by omega) (by omega)
        have e2 : (((b8 (128 + n / 128 % 128)).toNat : Nat) : Int) = 128 + n / 128 % 128 := b8_in (by omega) (by omega)
        have e3 : (((b8 (n % 128)).toNat : Nat) : Int) = n % 128 := b8_in (by omega) (by omega)
        rw [grp4 g3 h1]
        have s0 : oStep (stL l) (128 + n / 2097152) = ⟨l, 128 * 0 + (128 + n / 2097152 - 128), 1, false⟩ := step_high (by decide) (by omega) (by omega)
        have s1 : oStep ⟨l, 128 * 0 + (128 + n / 2097152 - 128), 1, false⟩ (128 + n / 16384 % 128) = ⟨l, 128 * (128 * 0 + (128 + n / 2097152 - 128)) + (128 + n / 16384 % 128 - 128), 2, false⟩ := step_high (by decide) (by omega) (by omega)
        have s2 : oStep ⟨l, 128 * (128 * 0 + (128 + n / 2097152 - 128)) + (128 + n / 16384 % 128 - 128), 2, false⟩ (128 + n / 128 % 128) = ⟨l, 128 * (128 * (128 * 0 + (128 + n / 2097152 - 128)) + (128 + n / 16384 % 128 - 128)) + (128 + n / 128 % 128 - 128), 3, false⟩ := step_high (by decide) (by omega) (by omega)
        refine ⟨?_, ?_⟩
        · rw [oF_cons, e0, oF_cons, e1, oF_cons, e2, oF_cons, e3, oF_nil, s0, s1, s2, step_low (by decide) (by omega) (by omega)]
          congr 3; omega
        · refine ⟨fun h => by rw [e0] at h; have := h.2; omega, ?_⟩
          rw [e0, s0]
          refine ⟨fun h => absurd h.1 (Nat.succ_ne_zero _), ?_⟩
          rw [e1, s1]
          refine ⟨fun h => absurd h.1 (Nat.succ_ne_zero _), ?_⟩
          rw [e2, s2]
          exact ⟨fun h => absurd h.1 (Nat.succ_ne_zero _), trivial⟩
theorem grps_read : ∀ (ns l : List Int), (∀ n ∈ ns, 0 ≤ n ∧ n < 268435456) → oF (stL l) (ns.flatMap grpL) = stL (l ++ ns) ∧ goodL (stL l) (ns.flatMap grpL) := by
  intro ns
  induction ns with
  | nil => intro l _; exact ⟨by rw [List.append_nil]; rfl, trivial⟩
  | cons n ns ih =>
    intro l h
    obtain ⟨g1, g2⟩ := grp_read (h n (by simp)).1 (h n (by simp)).2 l
    obtain ⟨k1, k2⟩ := ih (l ++ [n]) (fun x hx => h x (by simp [hx]))
    rw [List.flatMap_cons, oF_app, goodL_app, g1]
    exact ⟨by rw [k1, List.append_assoc]; rfl, g2, k2⟩
/-! groups that are read are written again -/
theorem big_stays (d : List UInt8) : ∀ s : OS, s.big = true → (oF s d).big = true := by
  induction d with
  | nil => intro s h; exact h
  | cons c d ih =>
    intro s h
    rw [oF_cons]
    apply ih
    have e : oB s = true := by unfold oB; rw [h]; rfl
    unfold oStep
    split <;> exact e
theorem b8_back (c : UInt8) {m : Int} (h : m = ((c.toNat : Nat) : Int)) : b8 m = c := by rw [h]; exact b8_of c
theorem grps_again : ∀ (f : Nat) (d : List UInt8) (l : List Int), d.length ≤ f → goodL (stL l) d → (oF (stL l) d).many = 0 → (oF (stL l) d).big = false →
    ∃ ns : List Int, (oF (stL l) d).l = l ++ ns ∧ d = ns.flatMap grpL ∧ ∀ n ∈ ns, 0 ≤ n ∧ n < 268435456 := by
  intro f
  induction f with
  | zero =>
    intro d l hf _ _ _
    have : d = [] := List.length_eq_zero_iff.1 (by omega)
    subst this
    exact ⟨[], by rw [List.append_nil]; rfl, rfl, fun n hn => by cases hn⟩
  | succ f ih =>
    intro d l hf hg hm hb
    have fin : ∀ (n : Int) (d' : List UInt8), 0 ≤ n → n < 268435456 → d'.length ≤ f → d = grpL n ++ d' → ∃ ns : List Int, (oF (stL l) d).l = l ++ ns ∧ d = ns.flatMap grpL ∧ ∀ n ∈ ns, 0 ≤ n ∧ n < 268435456 := by
      intro n d' h0 h1 hf' he
      obtain ⟨k1, k2⟩ := grp_read h0 h1 l
      rw [he, oF_app, k1] at hm hb
      rw [he, goodL_app, k1] at hg
      obtain ⟨ns, q1, q2, q3⟩ := ih d' (l ++ [n]) hf' hg.2 hm hb
      refine ⟨n :: ns, ?_, ?_, ?_⟩
      · rw [he, oF_app, k1, q1, List.append_assoc]; rfl
      · rw [he, List.flatMap_cons, ← q2]
      · intro x hx
        rcases List.mem_cons.1 hx with rfl | hx
        · exact ⟨h0, h1⟩
        · exact q3 x hx
    rcases d with _ | ⟨c0, d⟩
    · exact ⟨[], by rw [List.append_nil]; rfl, rfl, fun n hn => by cases hn⟩
    have r0 := c0.toNat_lt
    simp only [List.length_cons] at hf
    by_cases h0 : ((c0.toNat : Nat) : Int) < 128
    · refine fin ((c0.toNat : Nat) : Int) d (by omega) (by omega) (by omega) ?_
      rw [grp1 h0, b8_back c0 (by omega)]; rfl
    have n0 : ((c0.toNat : Nat) : Int) ≠ 128 := fun h => hg.1 ⟨rfl, h⟩
    have s0 : oStep (stL l) ((c0.toNat : Nat) : Int) = ⟨l, 128 * 0 + (((c0.toNat : Nat) : Int) - 128), 1, false⟩ := step_high (by decide) (by omega) (by omega)
    rcases d with _ | ⟨c1, d⟩
    · rw [oF_cons, s0] at hm; exact absurd hm (by show ¬ (1 : Nat) = 0; decide)
    have r1 := c1.toNat_lt
    simp only [List.length_cons] at hf
    by_cases h1 : ((c1.toNat : Nat) : Int) < 128
    · refine fin (128 * (((c0.toNat : Nat) : Int) - 128) + ((c1.toNat : Nat) : Int)) d (by omega) (by omega) (by omega) ?_
      rw [grp2 (by omega) (by omega), b8_back c0 (by omega), b8_back c1 (by omega)]; rfl
    have s1 : oStep ⟨l, 128 * 0 + (((c0.toNat : Nat) : Int) - 128), 1, false⟩ ((c1.toNat : Nat) : Int) = ⟨l, 128 * (128 * 0 + (((c0.toNat : Nat) : Int) - 128)) + (((c1.toNat : Nat) : Int) - 128), 2, false⟩ := step_high (by decide) (by omega) (by omega)
    rcases d with _ | ⟨c2, d⟩
    · rw [oF_cons, s0, oF_cons, s1] at hm; exact absurd hm (by show ¬ (2 : Nat) = 0; decide)
    have r2 := c2.toNat_lt
    simp only [List.length_cons] at hf
    by_cases h2 : ((c2.toNat : Nat) : Int) < 128
    · refine fin (16384 * (((c0.toNat : Nat) : Int) - 128) + 128 * (((c1.toNat : Nat) : Int) - 128) + ((c2.toNat : Nat) : Int)) d (by omega) (by omega) (by omega) ?_
      rw [grp3 (by omega) (by omega), b8_back c0 (by omega), b8_back c1 (by omega), b8_back c2 (by omega)]; rfl
    have s2 : oStep ⟨l, 128 * (128 * 0 + (((c0.toNat : Nat) : Int) - 128)) + (((c1.toNat : Nat) : Int) - 128), 2, false⟩ ((c2.toNat : Nat) : Int) = ⟨l, 128 * (128 * (128 * 0 + (((c0.toNat : Nat) : Int) - 128)) + (((c1.toNat : Nat) : Int) - 128)) + (((c2.toNat : Nat) : Int) - 128), 3, false⟩ := step_high (by decide) (by omega) (by omega)
    rcases d with _ | ⟨c3, d⟩
    · rw [oF_cons, s0, oF_cons, s1, oF_cons, s2] at hm; exact absurd hm (by show ¬ (3 : Nat) = 0; decide)
    have r3 := c3.toNat_lt
    simp only [List.length_cons] at hf
    by_cases h3 : ((c3.toNat : Nat) : Int) < 128
    · refine fin (2097152 * (((c0.toNat : Nat) : Int) - 128) + 16384 * (((c1.toNat : Nat) : Int) - 128) + 128 * (((c2.toNat : Nat) : Int) - 128) + ((c3.toNat : Nat) : Int)) d (by omega) (by omega) (by omega) ?_
      rw [grp4 (by omega) (by omega), b8_back c0 (by omega), b8_back c1 (by omega), b8_back c2 (by omega), b8_back c3 (by omega)]; rfl
    have s3 : oStep ⟨l, 128 * (128 * (128 * 0 + (((c0.toNat : Nat) : Int) - 128)) + (((c1.toNat : Nat) : Int) - 128)) + (((c2.toNat : Nat) : Int) - 128), 3, false⟩ ((c3.toNat : Nat) : Int) = ⟨l, 128 * (128 * (128 * (128 * 0 + (((c0.toNat : Nat) : Int) - 128)) + (((c1.toNat : Nat) : Int) - 128)) + (((c2.toNat : Nat) : Int) - 128)) + (((c3.toNat : Nat) : Int) - 128), 4, false⟩ := step_high (by decide) (by omega) (by omega)
    rcases d with _ | ⟨c4, d⟩
    · rw [oF_cons, s0, oF_cons, s1, oF_cons, s2, oF_cons, s3] at hm; exact absurd hm (by show ¬ (4 : Nat) = 0; decide)
    · rw [oF_cons, s0, oF_cons, s1, oF_cons, s2, oF_cons, s3, oF_cons] at hb
      rw [big_stays d _ (by unfold oStep oB; split <;> rfl)] at hb
      cases hb
/-! names -/
theorem oidK_flat (xs : List Int) : ∀ i, i ≤ (xs.drop 2).length → oidK xs i = ((40 * xs.getD 0 0 + xs.getD 1 0) :: (xs.drop 2).take i).flatMap grpL := by
  intro i
  induction i with
  | zero => intro _; rw [oidK_zero]; simp
  | succ i ih =>
    intro h
    have hl : (xs.drop 2).length = xs.length - 2 := List.length_drop
    rw [oidK_succ, ih (by omega), List.take_succ_eq_append_getElem (by omega)]
    have e : (xs.drop 2)[i]'(by omega) = xs.getD (2 + i) 0 := by
      rw [List.getElem_drop, List.getD_eq_getElem?_getD, List.getElem?_eq_getElem (by omega)]; rfl
    rw [e]
    simp
theorem oid_last {d : List UInt8} (h : d ≠ []) (hm : (oS d d.length).many = 0) : ¬ (d = [] ∨ 128 ≤ bt d (d.length - 1)) := by
  rintro (g | g)
  · exact h g
  · have h0 := List.length_pos_iff.2 h
    obtain ⟨q, hq⟩ : ∃ q, d.length = q + 1 := ⟨d.length - 1, by omega⟩
    rw [hq, Nat.add_sub_cancel] at g
    rw [hq, oS_succ, oStep_high (by omega)] at hm
    exact absurd hm (Nat.succ_ne_zero _)
theorem oid_fine {xs : List Int} (h : oidBad xs = false) : xs.getD 0 0 < 2 → xs.getD 1 0 ≤ 39 := by
  rw [← oidBad_eq] at h
  simp only [Bool.or_eq_false_iff, Bool.and_eq_false_imp, decide_eq_true_eq, decide_eq_false_iff_not] at h
  obtain ⟨⟨⟨⟨h1, h2⟩, h3⟩, h4⟩, h5⟩ := h
  intro g
  have := h4 g
  omega
theorem two_of {xs : List Int} (h : 2 ≤ xs.length) : xs = xs.getD 0 0 :: xs.getD 1 0 :: xs.drop 2 := by
  match xs, h with
  | a :: b :: l, _ => rfl
theorem grp_some (n : Int) : grpL n ≠ [] := by
  intro h
  have := congrArg List.length h
  have hc := cnt_le n
  rw [grpL, List.length_reverse, lgr_length] at this
  simp at this
  omega
theorem oid_read {xs : List Int} (h : (oidP xs).2 = 0) : readP (oidP xs).1 = (6, oidK xs (xs.length - 2), [], 0) ∧ readOidP (oidK xs (xs.length - 2)) = (xs, 0) := by
  cases hb : oidBad xs with
  | true => rw [oidP_bad hb] at h; exact absurd h (by decide)
  | false =>
    cases hg : oidBig xs with
    | true => rw [oidP_big hb hg] at h; exact absurd h (by decide)
    | false =>
      obtain ⟨b1, b2, b3, b4⟩ := oidBad_no hb
      obtain ⟨g1, g2⟩ := oidBig_no hg
      have hl := oidK_length xs (xs.length - 2)
      have ht : isTagB 6 = true := by unfold isTagB; decide
      have hlen : (oidK xs (xs.length - 2)).length < 65536 := by omega
      constructor
      · rw [oidP_ok hb hg, writeP_ok ht hlen]
        have hr := read_written (tag := 6) (body := oidK xs (xs.length - 2)) [] ht hlen
        rw [List.append_nil] at hr
        exact hr
      · have hd : (xs.drop 2).length = xs.length - 2 := List.length_drop
        have hk := oidK_flat xs (xs.length - 2) (by omega)
        rw [List.take_of_length_le (by omega)] at hk
        have x0 := b2 0 (by omega)
        have x1 := b2 1 (by omega)
        have hr : ∀ n ∈ (40 * xs.getD 0 0 + xs.getD 1 0) :: xs.drop 2, 0 ≤ n ∧ n < 268435456 := by
          intro n hn
          rcases List.mem_cons.1 hn with rfl | hn
          · omega
          · obtain ⟨j, hj, rfl⟩ := List.getElem_of_mem hn
            have e : (xs.drop 2)[j] = xs.getD (2 + j) 0 := by
              rw [List.getElem_drop, List.getD_eq_getElem?_getD, List.getElem?_eq_getElem (by omega)]; rfl
            have := b2 (2 + j) (by omega)
            have := g2 (2 + j) (by omega) (by omega)
            omega
        obtain ⟨k1, k2⟩ := grps_read _ [] hr
        rw [← hk] at k1 k2
        have ho : oS (oidK xs (xs.length - 2)) (oidK xs (xs.length - 2)).length = stL ((40 * xs.getD 0 0 + xs.getD 1 0) :: xs.drop 2) := by rw [oS_all]; exact k1
        have hne : oidK xs (xs.length - 2) ≠ [] := by
          rw [hk, List.flatMap_cons]; intro h; exact grp_some _ (List.append_eq_nil_iff.1 h).1
        rw [readOidP_ok (oid_last hne (by rw [ho]; rfl)) ((goodL_all _).2 k2) (by
          rw [ho]
          rintro (h | h)
          · cases h
          · simp [stL] at h; omega), ho]
        have hf := oid_fine hb
        show (oOut ((40 * xs.getD 0 0 + xs.getD 1 0) :: xs.drop 2), (0 : Int)) = (xs, 0)
        unfold oOut
        show ([min ((40 * xs.getD 0 0 + xs.getD 1 0) / 40) 2, (40 * xs.getD 0 0 + xs.getD 1 0) - 40 * min ((40 * xs.getD 0 0 + xs.getD 1 0) / 40) 2] ++ xs.drop 2, (0 : Int)) = _
        have m0 : min ((40 * xs.getD 0 0 + xs.getD 1 0) / 40) 2 = xs.getD 0 0 := by omega
        rw [m0, show 40 * xs.getD 0 0 + xs.getD 1 0 - 40 * xs.getD 0 0 = xs.getD 1 0 from by omega]
        conv => rhs; rw [two_of b1]
        rfl
theorem oid_again {d : List UInt8} (h : (readOidP d).2 = 0) (h1 : (readOidP d).1.getD 1 0 ≤ 1000000) : (oidP (readOidP d).1).2 = 0 ∧ (readP (oidP (readOidP d).1).1).2.1 = d := by
  by_cases he : d = [] ∨ 128 ≤ bt d (d.length - 1)
  · rw [readOidP_end he] at h; exact absurd h (by decide)
  · by_cases hbd : ∃ i, i < d.length ∧ oBad d i
    · obtain ⟨i, q1, q2⟩ := hbd
      rw [readOidP_bytes he q1 q2] at h; exact absurd h (by decide)
    · have hb : ∀ i, i < d.length → ¬ oBad d i := fun i q1 q2 => hbd ⟨i, q1, q2⟩
      by_cases hg : (oS d d.length).big = true ∨ 19 < (oS d d.length).l.length
      · rw [readOidP_big he hb hg] at h; exact absurd h (by decide)
      · have hpos := oS_some he
        have hlen : (oS d d.length).l.length ≤ 19 := Nat.le_of_not_lt fun g => hg (.inr g)
        have hbig : (oS d d.length).big = false := by
          cases e : (oS d d.length).big with
          | false => rfl
          | true => exact absurd (.inl e) hg
        have hmany : (oS d d.length).many = 0 := by
          have h0 : 0 < d.length := List.length_pos_iff.2 fun g => he (.inl g)
          obtain ⟨q, hq⟩ : ∃ q, d.length = q + 1 := ⟨d.length - 1, by omega⟩
          have hlow : bt d q < 128 := by
            have : ¬ 128 ≤ bt d (d.length - 1) := fun g => he (.inr g)
            rw [hq, Nat.add_sub_cancel] at this; omega
          rw [hq, oS_succ, oStep_low hlow]
        rw [oS_all] at hbig hmany hpos hlen
        obtain ⟨ns, n1, n2, n3⟩ := grps_again d.length d [] (Nat.le_refl _) ((goodL_all d).1 hb) hmany hbig
        have hl : (oF o0 d).l = ns := n1
        rw [readOidP_ok he hb hg, oS_all, hl] at h1 ⊢
        rw [hl] at hpos hlen
        rcases ns with _ | ⟨a, ns⟩
        · cases hpos
        have ra := n3 a (by simp)
        simp only [List.length_cons] at hlen
        show (oidP (oOut (a :: ns))).2 = 0 ∧ (readP (oidP (oOut (a :: ns))).1).2.1 = d
        have hout : oOut (a :: ns) = min (a / 40) 2 :: (a - 40 * min (a / 40) 2) :: ns := rfl
        have h1' : a - 40 * min (a / 40) 2 ≤ 1000000 := h1
        rw [hout]
        have hbadf : oidBad (min (a / 40) 2 :: (a - 40 * min (a / 40) 2) :: ns) = false := by
          rw [← oidBad_rest (by simp) (fun j hj => by
            rcases j with _ | _ | j
            · show (0 : Int) ≤ min (a / 40) 2; omega
            · show (0 : Int) ≤ a - 40 * min (a / 40) 2; omega
            · show (0 : Int) ≤ ns.getD j 0
              have hj' : j < ns.length := by simpa using hj
              rw [List.getD_eq_getElem?_getD, List.getElem?_eq_getElem hj']
              exact (n3 _ (List.mem_cons_of_mem _ (List.getElem_mem hj'))).1)]
          show ((decide (2 < min (a / 40) 2) || (decide (min (a / 40) 2 < 2) && decide (39 < a - 40 * min (a / 40) 2))) || decide (1000000 < a - 40 * min (a / 40) 2)) = false
          rw [decide_eq_false (p := 2 < min (a / 40) 2) (by omega), decide_eq_false (p := 1000000 < a - 40 * min (a / 40) 2) (by omega), Bool.false_or, Bool.or_false]
          by_cases hq : a / 40 < 2
          · rw [decide_eq_false (p := 39 < a - 40 * min (a / 40) 2) (by omega), Bool.and_false]
          · rw [decide_eq_false (p := min (a / 40) 2 < 2) (by omega), Bool.false_and]
        have hbigf : oidBig (min (a / 40) 2 :: (a - 40 * min (a / 40) 2) :: ns) = false := by
          refine oidBig_none (by simp; omega) (fun j hj hjl => ?_)
          obtain ⟨q, rfl⟩ : ∃ q, j = q + 2 := ⟨j - 2, by omega⟩
          show ns.getD q 0 ≤ 268435455
          have hj' : q < ns.length := by simpa using hjl
          rw [List.getD_eq_getElem?_getD, List.getElem?_eq_getElem hj']
          have := (n3 _ (List.mem_cons_of_mem _ (List.getElem_mem hj'))).2
          show ns[q] ≤ 268435455
          omega
        have ht : isTagB 6 = true := by unfold isTagB; decide
        have hkl := oidK_length (min (a / 40) 2 :: (a - 40 * min (a / 40) 2) :: ns) ns.length
        have hok : (oidP (min (a / 40) 2 :: (a - 40 * min (a / 40) 2) :: ns)).2 = 0 := by
          rw [oidP_ok hbadf hbigf, writeP_ok ht (by show (oidK _ ns.length).length < _; omega)]
        refine ⟨hok, ?_⟩
        rw [(oid_read hok).1]
        show oidK (min (a / 40) 2 :: (a - 40 * min (a / 40) 2) :: ns) ns.length = d
        rw [oidK_flat _ _ (by simp)]
        show ((40 * min (a / 40) 2 + (a - 40 * min (a / 40) 2)) :: ns.take ns.length).flatMap grpL = d
        rw [List.take_length, show 40 * min (a / 40) 2 + (a - 40 * min (a / 40) 2) = a from by omega, n2]
theorem readOidP_two {d : List UInt8} (h : (readOidP d).2 = 0) : 2 ≤ (readOidP d).1.length := by
  by_cases he : d = [] ∨ 128 ≤ bt d (d.length - 1)
  · rw [readOidP_end he] at h; exact absurd h (by decide)
  · by_cases hbd : ∃ i, i < d.length ∧ oBad d i
    · obtain ⟨i, q1, q2⟩ := hbd
      rw [readOidP_bytes he q1 q2] at h; exact absurd h (by decide)
    · have hb : ∀ i, i < d.length → ¬ oBad d i := fun i q1 q2 => hbd ⟨i, q1, q2⟩
      by_cases hg : (oS d d.length).big = true ∨ 19 < (oS d d.length).l.length
      · rw [readOidP_big he hb hg] at h; exact absurd h (by decide)
      · rw [readOidP_ok he hb hg]
        show 2 ≤ (oOut _).length
        unfold oOut
        simp
theorem intP_short (n : Int) : (intP n).length ≤ 100 := by
  have hl := i64L_length n 8
  obtain ⟨g1, g2, g3, g4⟩ := trimP_all 8 (i64L n 8) hl (by omega)
  have := writeP_len 2 (trimP (i64L n 8))
  unfold intP
  omega
theorem oidP_short (xs : List Int) : (oidP xs).1.length ≤ 5 * xs.length + 20 := by
  cases hb : oidBad xs with
  | true => rw [oidP_bad hb]; exact Nat.zero_le _
  | false =>
    cases hg : oidBig xs with
    | true => rw [oidP_big hb hg]; exact Nat.zero_le _
    | false =>
      have h1 := oidK_length xs (xs.length - 2)
      have h2 := (oidBad_no hb).1
      have := writeP_len 6 (oidK xs (xs.length - 2))
      rw [oidP_ok hb hg]
      omega
end Go.Proofs.Ytbjdmomfcdfanaa
