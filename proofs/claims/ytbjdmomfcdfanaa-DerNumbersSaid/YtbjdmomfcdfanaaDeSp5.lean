/-
  What is written is read, and what is read is written again.
-/
import Derived.Test.YtbjdmomfcdfanaaDeSp4
namespace Go.Proofs.Ytbjdmomfcdfanaa
open Go Go.RowKit D
set_option linter.unusedVariables false
set_option linter.unusedSimpArgs false
set_option maxRecDepth 100000
set_option maxHeartbeats 1000000
theorem aw_write : writeP 48 [] = ([48, 0], 0) := by decide +kernel
theorem aw_oid : oidP [1, 3, 101, 112] = ([6, 3, 43, 101, 112], 0) := by decide +kernel
theorem aw_read : (readP [48, 129, 5]).2.2.2 = 11 := by decide +kernel
theorem aw_int : intP (-129) = [2, 2, 255, 127] := by decide +kernel
theorem b8_of (c : UInt8) : b8 ((c.toNat : Nat) : Int) = c := by
  apply UInt8.toNat_inj.1
  have := b8_toNat ((c.toNat : Nat) : Int)
  have := c.toNat_lt
  omega
theorem bt_b8 (n : Int) (l : List UInt8) : bt (b8 n :: l) 0 = n % 256 := b8_toNat n
/-- What is written is read. -/
theorem read_written {tag : Int} {body : List UInt8} (rest : List UInt8) (h : isTagB tag = true) (hb : body.length < 65536) : readP (headL tag body.length ++ body ++ rest) = (tag, body, rest, 0) := by
  have ht := isTag_range h
  have ht2 : tag % 256 = tag := by omega
  have key : ∀ (hd : List UInt8) (n at_ : Nat), (hd ++ body ++ rest) ≠ [] → bt (hd ++ body ++ rest) 0 = tag → lenP (hd ++ body ++ rest) = (((body.length : Nat) : Int), ((hd.length : Nat) : Int), 0) → readP (hd ++ body ++ rest) = (tag, body, rest, 0) := by
    intro hd n at_ h1 h2 h3
    have hl : (hd ++ body ++ rest).length = hd.length + body.length + rest.length := by simp [Nat.add_assoc]
    rw [readP_ok h1 (by rw [h2]; exact h) (by rw [h3]) (by rw [h3]; show ¬ _ < ((hd.length : Nat) : Int) + ((body.length : Nat) : Int); omega), h2, h3]
    show (tag, ((hd ++ body ++ rest).take (((hd.length : Nat) : Int) + ((body.length : Nat) : Int)).toNat).drop ((hd.length : Nat) : Int).toNat, (hd ++ body ++ rest).drop (((hd.length : Nat) : Int) + ((body.length : Nat) : Int)).toNat, (0 : Int)) = _
    rw [show (((hd.length : Nat) : Int) + ((body.length : Nat) : Int)).toNat = hd.length + body.length from by omega, Int.toNat_natCast]
    congr 1
    congr 1
    · rw [show hd.length + body.length = (hd ++ body).length from by simp, List.take_left, List.drop_left]
    · congr 1
      rw [show hd.length + body.length = (hd ++ body).length from by simp, List.drop_left]
  by_cases h1 : body.length < 128
  · rw [headL_1 _ h1]
    refine key _ 0 0 (by simp) ((bt_b8 _ _).trans ht2) ?_
    have e1 : bt ([b8 tag, b8 (body.length : Int)] ++ body ++ rest) 1 = ((body.length : Nat) : Int) := by
      have := b8_toNat ((body.length : Nat) : Int); show (((b8 _).toNat : Nat) : Int) = _; omega
    rw [lenP_one (by simp) (by rw [e1]; omega), e1]; rfl
  · by_cases h2 : body.length < 256
    · rw [headL_2 _ h1 h2]
      refine key _ 0 0 (by simp) ((bt_b8 _ _).trans ht2) ?_
      have e1 : bt ([b8 tag, 129, b8 (body.length : Int)] ++ body ++ rest) 1 = 129 := rfl
      have e2 : bt ([b8 tag, 129, b8 (body.length : Int)] ++ body ++ rest) 2 = ((body.length : Nat) : Int) := by
        have := b8_toNat ((body.length : Nat) : Int); show (((b8 _).toNat : Nat) : Int) = _; omega
      rw [lenP_two (by simp) (by rw [e1]; decide) (by rw [e1]; decide) (by rw [e1]; simp; omega) e1, if_neg (by rw [e2]; omega), e2]; rfl
    · rw [headL_3 _ h1 h2]
      refine key _ 0 0 (by simp) ((bt_b8 _ _).trans ht2) ?_
      have e1 : bt ([b8 tag, 130, b8 ((body.length : Int) / 256), b8 (body.length : Int)] ++ body ++ rest) 1 = 130 := rfl
      have e2 : bt ([b8 tag, 130, b8 ((body.length : Int) / 256), b8 (body.length : Int)] ++ body ++ rest) 2 = ((body.length : Nat) : Int) / 256 := by
        have := b8_toNat (((body.length : Nat) : Int) / 256); show (((b8 _).toNat : Nat) : Int) = _; omega
      have e3 : bt ([b8 tag, 130, b8 ((body.length : Int) / 256), b8 (body.length : Int)] ++ body ++ rest) 3 = ((body.length : Nat) : Int) % 256 := b8_toNat _
      rw [lenP_three (by simp) (by rw [e1]; decide) (by rw [e1]; decide) (by rw [e1]; simp; omega) (by rw [e1]; decide), e2, e3, if_neg (by omega), show 256 * (((body.length : Nat) : Int) / 256) + ((body.length : Nat) : Int) % 256 = ((body.length : Nat) : Int) from by omega]; rfl
/-- What is read is written again. -/
theorem written_read {d : List UInt8} (h : (readP d).2.2.2 = 0) : writeP (readP d).1 (readP d).2.1 = (d.take (d.length - (readP d).2.2.1.length), 0) ∧ d.take (d.length - (readP d).2.2.1.length) ++ (readP d).2.2.1 = d := by
  have h0 : ¬ d = [] := fun g => by rw [g, readP_nil] at h; exact absurd h (by decide)
  have h1 : isTagB (bt d 0) = true := by
    cases g : isTagB (bt d 0) with
    | true => rfl
    | false => rw [readP_tag h0 g] at h; exact absurd h (by decide)
  have h2 : (lenP d).2.2 = 0 := by
    rcases Classical.em ((lenP d).2.2 = 0) with g | g
    · exact g
    · rw [readP_len h0 h1 g] at h; exact absurd h g
  have hr := lenP_range d
  have h3 : ¬ (d.length : Int) < (lenP d).2.1 + (lenP d).1 := fun g => by rw [readP_end h0 h1 h2 g] at h; exact absurd h (by decide)
  have h4 := hr.2.2.2.2 h2
  rw [readP_ok h0 h1 h2 h3]
  generalize hn : (lenP d).1 = n at *
  generalize ha : (lenP d).2.1 = a at *
  obtain ⟨n', rfl⟩ := Int.eq_ofNat_of_zero_le hr.1
  obtain ⟨a', rfl⟩ := Int.eq_ofNat_of_zero_le hr.2.2.1
  have e1 : (((a' : Nat) : Int) + ((n' : Nat) : Int)).toNat = a' + n' := by omega
  show writeP (bt d 0) ((d.take (((a' : Nat) : Int) + ((n' : Nat) : Int)).toNat).drop ((a' : Nat) : Int).toNat) = (d.take (d.length - (d.drop (((a' : Nat) : Int) + ((n' : Nat) : Int)).toNat).length), 0) ∧ d.take (d.length - (d.drop (((a' : Nat) : Int) + ((n' : Nat) : Int)).toNat).length) ++ d.drop (((a' : Nat) : Int) + ((n' : Nat) : Int)).toNat = d
  rw [e1, Int.toNat_natCast, List.length_drop, show d.length - (d.length - (a' + n')) = a' + n' from by omega]
  refine ⟨?_, List.take_append_drop _ _⟩
  have hbl : ((d.take (a' + n')).drop a').length = n' := by rw [List.length_drop, List.length_take]; omega
  rw [writeP_ok h1 (by rw [hbl]; omega), hbl]
  have hsplit : d.take (a' + n') = d.take a' ++ (d.take (a' + n')).drop a' := by
    conv => lhs; rw [← List.take_append_drop a' (d.take (a' + n'))]
    rw [List.take_take, Nat.min_eq_left (by omega)]
  have hd : headL (bt d 0) n' = d.take a' := by
    have c0 : b8 (bt d 0) = d.getD 0 0 := b8_bt d 0
    have tk : ∀ k, k < d.length → d.take (k + 1) = d.take k ++ [d.getD k 0] := fun k hk => by
      rw [List.take_succ_eq_append_getElem hk, List.getD_eq_getElem?_getD, List.getElem?_eq_getElem hk]; rfl
    have hL : lenP d = (((n' : Nat) : Int), ((a' : Nat) : Int), 0) := by rw [← hn, ← ha, ← h2]
    have b1 := bt_range d 1
    have b2 := bt_range d 2
    have b3 := bt_range d 3
    have g0 : ¬ d.length < 2 := by omega
    by_cases g1 : bt d 1 < 128
    · rw [lenP_one g0 g1] at hL
      simp only [Prod.mk.injEq] at hL
      obtain rfl : a' = 2 := by omega
      rw [headL_1 _ (by omega), ← hL.1, b8_bt, b8_bt, tk 1 (by omega), tk 0 (by omega)]; rfl
    · by_cases g2 : bt d 1 = 128 ∨ 130 < bt d 1
      · rw [lenP_odd g0 g1 g2] at hL; simp at hL
      · by_cases g3 : (d.length : Int) < 2 + (bt d 1 - 128)
        · rw [lenP_cut g0 g1 g2 g3] at hL; simp at hL
        · by_cases g4 : bt d 1 = 129
          · rw [lenP_two g0 g1 g2 g3 g4] at hL
            split at hL
            · simp at hL
            · simp only [Prod.mk.injEq] at hL
              obtain rfl : a' = 3 := by omega
              have c1 : d.getD 1 0 = 129 := by apply UInt8.toNat_inj.1; have : ((d.getD 1 0).toNat : Int) = 129 := g4; show _ = 129; omega
              rw [headL_2 _ (by omega) (by omega), ← hL.1, b8_bt, b8_bt, tk 2 (by omega), tk 1 (by omega), tk 0 (by omega), c1]; rfl
          · rw [lenP_three g0 g1 g2 g3 g4] at hL
            split at hL
            · simp at hL
            · simp only [Prod.mk.injEq] at hL
              obtain rfl : a' = 4 := by omega
              have c1 : d.getD 1 0 = 130 := by apply UInt8.toNat_inj.1; have : ((d.getD 1 0).toNat : Int) = 130 := by show bt d 1 = 130; omega
                                               show _ = 130; omega
              have c2 : b8 (((n' : Nat) : Int) / 256) = d.getD 2 0 := by rw [← b8_bt, show ((n' : Nat) : Int) / 256 = bt d 2 from by omega]
              have c3 : b8 ((n' : Nat) : Int) = d.getD 3 0 := by rw [← b8_bt, ← b8_mod, show ((n' : Nat) : Int) % 256 = bt d 3 from by omega]
              rw [headL_3 _ (by omega) (by omega), c2, c3, b8_bt, tk 3 (by omega), tk 2 (by omega), tk 1 (by omega), tk 0 (by omega), c1]; rfl
  rw [hd, ← hsplit]
theorem headL_len (tag : Int) (n : Nat) : (headL tag n).length ≤ 4 := by
  by_cases h1 : n < 128
  · rw [headL_1 _ h1]; simp
  · by_cases h2 : n < 256
    · rw [headL_2 _ h1 h2]; simp
    · rw [headL_3 _ h1 h2]; simp
theorem writeP_len (tag : Int) (body : List UInt8) : (writeP tag body).1.length ≤ body.length + 4 := by
  have := headL_len tag body.length
  unfold writeP
  split
  · split
    · show (headL tag body.length ++ body).length ≤ _; rw [List.length_append]; omega
    · exact Nat.zero_le _
  · exact Nat.zero_le _
theorem writeP_err {tag : Int} {body : List UInt8} (hb : body.length < 65536) (h : ¬ (writeP tag body).2 = 0) : writeP tag body = ([], 1) := by
  cases g : isTagB tag with
  | false => exact writeP_tag body g
  | true => rw [writeP_ok g hb] at h; exact absurd rfl h
theorem writeP_fine {tag : Int} {body : List UInt8} (h : (writeP tag body).2 = 0) : isTagB tag = true := by
  cases g : isTagB tag with
  | true => rfl
  | false => rw [writeP_tag body g] at h; exact absurd h (by decide)
theorem readP_bad {d : List UInt8} (h : ¬ (readP d).2.2.2 = 0) : (readP d).1 = 0 ∧ (readP d).2.1 = [] ∧ (readP d).2.2.1 = [] := by
  by_cases h0 : d = []
  · rw [h0, readP_nil]; exact ⟨rfl, rfl, rfl⟩
  · cases g : isTagB (bt d 0) with
    | false => rw [readP_tag h0 g]; exact ⟨rfl, rfl, rfl⟩
    | true =>
      by_cases h2 : (lenP d).2.2 = 0
      · by_cases h3 : (d.length : Int) < (lenP d).2.1 + (lenP d).1
        · rw [readP_end h0 g h2 h3]; exact ⟨rfl, rfl, rfl⟩
        · rw [readP_ok h0 g h2 h3] at h; exact absurd rfl h
      · rw [readP_len h0 g h2]; exact ⟨rfl, rfl, rfl⟩
end Go.Proofs.Ytbjdmomfcdfanaa
