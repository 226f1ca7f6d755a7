/-
  Plain facts about tapes: package tape's and the document's do the same; what was synced lasts.
-/
import Derived.Test.YtgahoadojcabnaaTrSpec
import Derived.Test.YtgahoadojcabnaaTw
namespace Go.Proofs.Ytgahoadojcabnaa
open Go Go.RowKit D
set_option linter.unusedVariables false
set_option linter.unusedSimpArgs false
def Inv (s : TapeS) (r : RefS) : Prop := Sim s r ∧ TapeOk s ∧ r.ar ≤ 9223372036854775807
theorem Inv.ref {s : TapeS} {r : RefS} (h : Inv s r) : RefOk r := h.1.ok h.2.1 h.2.2
theorem inv_new {n : Int} (h : 1 ≤ n ∧ n ≤ 16777216) : Inv (tape0 n) ⟨[], 0, n, 0, false⟩ :=
  ⟨⟨rfl, rfl, rfl, rfl, fun _ => rfl⟩, ⟨h.2, by simp [tape0]; omega, by simp [tape0], by simp [tape0]⟩, by simp⟩
theorem Inv.len {s : TapeS} {r : RefS} (h : Inv s r) : (r.t.length : Int) = ((s.f.length + s.l.length : Nat) : Int) := by rw [h.1.t, List.length_append]
theorem act_sim {s : TapeS} {r : RefS} (h : Inv s r) (hd : s.dd = false) : (actP s).1 = (if (actR r).dd = true then 41 else 0) ∧ Inv (actP s).2 (actR r) ∧ (s.ar = 1 ↔ (actR r).dd = true) := by
  have hI := h
  obtain ⟨⟨h1, h2, h3, h4, h5⟩, ⟨k1, k2, k3, k4⟩, h6⟩ := h
  have har := h5 hd
  by_cases ha : s.ar = 1
  · rw [actP_die ha, actR_pos (by omega)]
    refine ⟨by simp [har, ha], ⟨⟨h1, h2, h3, by simp [har, ha], fun h => by simp at h⟩, ⟨k1, k2, k3, k4⟩, by show r.ar - 1 ≤ _; omega⟩, by simp [har, ha]⟩
  · rw [actP_go ha]
    by_cases h0 : 0 < r.ar
    · rw [actR_pos h0]
      refine ⟨by simp; omega, ⟨⟨h1, h2, h3, ?_, fun _ => by show r.ar - 1 = max 0 (s.ar - 1); omega⟩, ⟨k1, k2, by show 0 ≤ max 0 (s.ar - 1); omega, by show max 0 (s.ar - 1) ≤ _; omega⟩, by show r.ar - 1 ≤ _; omega⟩, by simp; omega⟩
      show decide (r.ar - 1 = 0) = s.dd
      rw [hd]; simp; omega
    · rw [actR_zero (by omega)]
      refine ⟨by simp [h4, hd], ⟨⟨h1, h2, h3, h4, fun _ => by show r.ar = max 0 (s.ar - 1); omega⟩, ⟨k1, k2, by show 0 ≤ max 0 (s.ar - 1); omega, by show max 0 (s.ar - 1) ≤ _; omega⟩, h6⟩, by simp [h4, hd]; omega⟩
theorem inv_append {s : TapeS} {r : RefS} (h : Inv s r) (d : List UInt8) : (appendR r d).1 = (appendP s d).1 ∧ Inv (appendP s d).2 (appendR r d).2 := by
  have hI := h
  have hlen := h.len
  obtain ⟨⟨h1, h2, h3, h4, h5⟩, ⟨k1, k2, k3, k4⟩, h6⟩ := h
  by_cases hd : s.dd = true
  · rw [appendP_dead hd]; unfold appendR; rw [if_pos (by rw [h4, hd])]; exact ⟨rfl, hI⟩
  · have hd' : s.dd = false := by simpa using hd
    have hn : ¬ r.dd = true := by rw [h4]; exact hd
    by_cases hf : s.lim < ((s.f.length + s.l.length : Nat) : Int) + (d.length : Int)
    · rw [appendP_full hd' hf]; unfold appendR; rw [if_neg hn, if_pos (by omega)]; exact ⟨rfl, hI⟩
    · rw [appendP_ok hd' (by omega)]; unfold appendR; rw [if_neg hn, if_neg (by omega)]
      have hI2 : Inv { s with l := s.l ++ d } { r with t := r.t ++ d } := by
        refine ⟨⟨by show r.t ++ d = s.f ++ (s.l ++ d); rw [h1, List.append_assoc], h2, h3, h4, h5⟩, ⟨k1, ?_, k3, k4⟩, h6⟩
        show ((s.f.length + (s.l ++ d).length : Nat) : Int) ≤ s.lim
        rw [List.length_append]; omega
      have := act_sim hI2 hd'
      exact ⟨this.1.symm, this.2.1⟩
theorem inv_sync {s : TapeS} {r : RefS} (h : Inv s r) : (syncR r).1 = (syncP s).1 ∧ Inv (syncP s).2 (syncR r).2 := by
  have hI := h
  have hlen := h.len
  obtain ⟨⟨h1, h2, h3, h4, h5⟩, ⟨k1, k2, k3, k4⟩, h6⟩ := h
  by_cases hd : s.dd = true
  · rw [syncP_dead hd, syncR_dead (by rw [h4, hd])]; exact ⟨rfl, hI⟩
  · have hd' : s.dd = false := by simpa using hd
    have hn : r.dd = false := by rw [h4, hd']
    obtain ⟨a1, a2, a3⟩ := act_sim hI hd'
    by_cases ha : s.ar = 1
    · rw [syncP_die hd' ha, syncR_die hn (a3.1 ha)]; rw [actP_die ha] at a2; exact ⟨rfl, a2⟩
    · have hnd : (actR r).dd = false := by simpa using fun h => ha (a3.2 h)
      rw [syncP_ok hd' ha, syncR_ok hn hnd]; rw [actP_go ha] at a2
      obtain ⟨⟨b1, b2, b3, b4, b5⟩, ⟨c1, c2, c3, c4⟩, b6⟩ := a2
      exact ⟨rfl, ⟨by show (actR r).t = (s.f ++ s.l) ++ []; rw [b1, List.append_nil], by show ((actR r).t.length : Int) = ((s.f ++ s.l).length : Int); rw [b1], b3, b4, b5⟩, ⟨c1, by show (((s.f ++ s.l).length + 0 : Nat) : Int) ≤ s.lim; rw [List.length_append]; omega, c3, c4⟩, b6⟩
theorem inv_cut {s : TapeS} {r : RefS} (h : Inv s r) (n : Int) : (cutR r n).1 = (cutP s n).1 ∧ Inv (cutP s n).2 (cutR r n).2 := by
  have hI := h
  have hlen := h.len
  obtain ⟨⟨h1, h2, h3, h4, h5⟩, ⟨k1, k2, k3, k4⟩, h6⟩ := h
  by_cases hd : s.dd = true
  · rw [cutP_dead hd, cutR_dead (by rw [h4, hd])]; exact ⟨rfl, hI⟩
  · have hd' : s.dd = false := by simpa using hd
    have hn : r.dd = false := by rw [h4, hd']
    by_cases hb : n < 0 ∨ ((s.f.length + s.l.length : Nat) : Int) < n
    · rw [cutP_bad hd' hb, cutR_bad hn (by omega)]; exact ⟨rfl, hI⟩
    · obtain ⟨a1, a2, a3⟩ := act_sim hI hd'
      by_cases ha : s.ar = 1
      · rw [cutP_die hd' (by omega) ha, cutR_die hn (by omega) (a3.1 ha)]; rw [actP_die ha] at a2; exact ⟨rfl, a2⟩
      · have hnd : (actR r).dd = false := by simpa using fun h => ha (a3.2 h)
        rw [cutP_ok hd' (by omega) ha, cutR_ok hn (by omega) hnd]; rw [actP_go ha] at a2
        obtain ⟨⟨b1, b2, b3, b4, b5⟩, ⟨c1, c2, c3, c4⟩, b6⟩ := a2
        have htl : ((s.f ++ s.l).take n.toNat).length = n.toNat := by rw [List.length_take, List.length_append]; omega
        refine ⟨rfl, ⟨by show (actR r).t.take n.toNat = (s.f ++ s.l).take n.toNat ++ []; rw [b1, List.append_nil], by show n = (((s.f ++ s.l).take n.toNat).length : Int); rw [htl]; omega, b3, b4, b5⟩, ⟨c1, ?_, c3, c4⟩, b6⟩
        show ((((s.f ++ s.l).take n.toNat).length + 0 : Nat) : Int) ≤ s.lim
        rw [htl]; omega
theorem inv_arm {s : TapeS} {r : RefS} (h : Inv s r) {n : Int} (hn : n ≤ 9223372036854775807) : Inv (armP s n) (armR r n) := by
  obtain ⟨⟨h1, h2, h3, h4, h5⟩, ⟨k1, k2, k3, k4⟩, h6⟩ := h
  exact ⟨⟨h1, h2, h3, h4, fun _ => rfl⟩, ⟨k1, k2, by show 0 ≤ max n 0; omega, by show max n 0 ≤ _; omega⟩, by show max n 0 ≤ _; omega⟩
theorem spoilP_length (l : List UInt8) : (spoilP l).length = l.length := by
  unfold spoilP; split
  · rfl
  · rw [List.length_append, List.length_take, toB_length]; simp; omega
theorem spoilP_app (f l : List UInt8) (h : 0 < l.length) : spoilP (f ++ l) = f ++ spoilP l := by
  unfold spoilP
  rw [if_neg (by rw [List.length_append]; omega), if_neg (by omega)]
  have hb : bt (f ++ l) ((f ++ l).length - 1) = bt l (l.length - 1) := by
    unfold bt
    rw [List.getD_eq_getElem?_getD, List.getD_eq_getElem?_getD, List.getElem?_append_right (by rw [List.length_append]; omega)]
    rw [List.length_append, show f.length + l.length - 1 - f.length = l.length - 1 from by omega]
  rw [hb, List.length_append, List.take_append, show f.length + l.length - 1 - f.length = l.length - 1 from by omega, List.take_of_length_le (by omega), List.append_assoc]
theorem spoilP_nil : spoilP [] = [] := rfl
def keptP (s : TapeS) (keep : Int) (spoil : Bool) : List UInt8 := if spoil = true then spoilP (s.l.take (max 0 (min keep (s.l.length : Int))).toNat) else s.l.take (max 0 (min keep (s.l.length : Int))).toNat
theorem crashP_eq (s : TapeS) (keep : Int) (spoil : Bool) : crashP s keep spoil = { s with f := s.f ++ keptP s keep spoil, l := [], dd := false, ar := 0 } := rfl
theorem kept_length (s : TapeS) (keep : Int) (spoil : Bool) : (keptP s keep spoil).length ≤ s.l.length ∧ ((keptP s keep spoil).length : Int) ≤ max 0 keep := by
  have : (keptP s keep spoil).length = (s.l.take (max 0 (min keep (s.l.length : Int))).toNat).length := by unfold keptP; split; rw [spoilP_length]; rfl
  rw [this, List.length_take]; omega
theorem crash_same {s : TapeS} {r : RefS} (h : Inv s r) (keep : Int) (spoil : Bool) : crashT r keep spoil = s.f ++ keptP s keep spoil := by
  have hlen := h.len
  obtain ⟨⟨h1, h2, h3, h4, h5⟩, ⟨k1, k2, k3, k4⟩, h6⟩ := h
  unfold crashT keptP
  have hn : max 0 (min keep ((r.t.length : Int) - r.firm)) = max 0 (min keep (s.l.length : Int)) := by omega
  rw [hn, h1, h2]
  obtain ⟨k, hk, hkl⟩ : ∃ k : Nat, max 0 (min keep (s.l.length : Int)) = (k : Int) ∧ k ≤ s.l.length := ⟨(max 0 (min keep (s.l.length : Int))).toNat, by omega, by omega⟩
  rw [hk, show ((s.f.length : Int) + (k : Int)).toNat = s.f.length + k from by omega, Int.toNat_natCast]
  have ht : (s.f ++ s.l).take (s.f.length + k) = s.f ++ s.l.take k := by rw [List.take_append, List.take_of_length_le (by omega), Nat.add_sub_cancel_left]
  rw [ht]
  have htl : (s.l.take k).length = k := by rw [List.length_take]; omega
  by_cases hs : spoil = true
  · rw [if_pos hs]
    by_cases hk0 : 0 < k
    · rw [if_pos ⟨hs, by omega⟩, spoilP_app _ _ (by omega)]
    · rw [if_neg (fun h => by omega), show k = 0 from by omega]; simp [spoilP_nil]
  · rw [if_neg hs, if_neg (fun h => hs h.1)]
theorem inv_crash {s : TapeS} {r : RefS} (h : Inv s r) (keep : Int) (spoil : Bool) : Inv (crashP s keep spoil) (crashR r keep spoil) := by
  have hc := crash_same h keep spoil
  have hl := kept_length s keep spoil
  obtain ⟨⟨h1, h2, h3, h4, h5⟩, ⟨k1, k2, k3, k4⟩, h6⟩ := h
  rw [crashP_eq]; unfold crashR
  rw [hc]
  refine ⟨⟨by show _ = _ ++ []; rw [List.append_nil], rfl, h3, rfl, fun _ => rfl⟩, ⟨k1, ?_, by show (0 : Int) ≤ 0; omega, by show (0 : Int) ≤ _; omega⟩, by show (0 : Int) ≤ _; omega⟩
  show (((s.f ++ keptP s keep spoil).length + 0 : Nat) : Int) ≤ s.lim
  rw [List.length_append]; omega
theorem inv_read {s : TapeS} {r : RefS} (h : Inv s r) : readR r = readP s := by
  unfold readR readP; rw [h.1.dd, h.1.t]
theorem inv_dd {s : TapeS} {r : RefS} (h : Inv s r) : r.dd = s.dd := h.1.dd
/-! the acts of one tape keep it a tape -/
theorem ok_append {s : TapeS} (h : TapeOk s) (d : List UInt8) : TapeOk (appendP s d).2 := by
  obtain ⟨k1, k2, k3, k4⟩ := h
  unfold appendP; split
  · exact ⟨k1, k2, k3, k4⟩
  · split
    · exact ⟨k1, k2, k3, k4⟩
    · unfold actP; split
      · exact ⟨k1, by show ((s.f.length + (s.l ++ d).length : Nat) : Int) ≤ s.lim; rw [List.length_append]; omega, k3, k4⟩
      · exact ⟨k1, by show ((s.f.length + (s.l ++ d).length : Nat) : Int) ≤ s.lim; rw [List.length_append]; omega, by show 0 ≤ max 0 (s.ar - 1); omega, by show max 0 (s.ar - 1) ≤ _; omega⟩
theorem ok_crash {s : TapeS} (h : TapeOk s) (keep : Int) (spoil : Bool) : TapeOk (crashP s keep spoil) := by
  have hl := kept_length s keep spoil
  obtain ⟨k1, k2, k3, k4⟩ := h
  rw [crashP_eq]
  refine ⟨k1, ?_, by show (0 : Int) ≤ 0; omega, by show (0 : Int) ≤ _; omega⟩
  show (((s.f ++ keptP s keep spoil).length + 0 : Nat) : Int) ≤ s.lim
  rw [List.length_append]; omega
theorem app0 {n : Int} {d : List UInt8} (h : (d.length : Int) ≤ n) : appendP (tape0 n) d = (0, ⟨n, [], d, 0, false⟩) := by
  rw [appendP_ok rfl (by simp [tape0]; exact h)]; rfl
theorem sync0 {n : Int} {d : List UInt8} : syncP ⟨n, [], d, 0, false⟩ = (0, ⟨n, d, [], 0, false⟩) := by
  rw [syncP_ok rfl (show ¬ (0 : Int) = 1 by decide)]; rfl
theorem cut0_bad {m n : Int} {d : List UInt8} (h : n < 0 ∨ (d.length : Int) < n) : cutP ⟨m, [], d, 0, false⟩ n = (1, ⟨m, [], d, 0, false⟩) := cutP_bad rfl (by simpa using h)
theorem cut0_ok {m n : Int} {d : List UInt8} (h : ¬ (n < 0 ∨ (d.length : Int) < n)) : cutP ⟨m, [], d, 0, false⟩ n = (0, ⟨m, d.take n.toNat, [], 0, false⟩) := by
  rw [cutP_ok rfl (by simp; omega) (show ¬ (0 : Int) = 1 by decide)]; rfl
theorem crash0 {m : Int} {d : List UInt8} {k : Int} {sp : Bool} : crashP ⟨m, d, [], 0, false⟩ k sp = ⟨m, d, [], 0, false⟩ := by
  rw [crashP_eq]
  have : keptP ⟨m, d, [], 0, false⟩ k sp = [] := by unfold keptP; simp [spoilP_nil]
  rw [this, List.append_nil]
theorem read0 {m : Int} {d : List UInt8} {k : Int} : readP ⟨m, d, [], k, false⟩ = (d, 0) := by simp [readP]
/-! what was synced lasts -/
structure LInv (firm : List UInt8) (i : Nat) (s : TapeS) (all : List UInt8) : Prop where
  f : s.f = firm
  lim : s.lim = 1048576
  ok : TapeOk s
  pre : (firm ++ s.l) <+: all
  live : s.dd = false → all = firm ++ s.l
  len : s.l.length ≤ 500 * i
  alen : all.length ≤ 1000 + 500 * i
  flen : firm.length ≤ 1000
theorem linv0 {firm : List UInt8} (h : firm.length ≤ 1000) {n : Int} (hn : n ≤ 9223372036854775807) : LInv firm 0 (armP ⟨1048576, firm, [], 0, false⟩ n) firm :=
  ⟨rfl, rfl, ⟨by show (1048576 : Int) ≤ _; omega, by show ((firm.length + 0 : Nat) : Int) ≤ 1048576; omega, by show 0 ≤ max n 0; omega, by show max n 0 ≤ _; omega⟩, by show firm ++ [] <+: firm; rw [List.append_nil]; exact List.prefix_rfl, fun _ => by show firm = firm ++ []; rw [List.append_nil], by show 0 ≤ _; omega, by omega, h⟩
theorem lasts_step {firm d : List UInt8} {i : Nat} {s : TapeS} {all : List UInt8} (h : LInv firm i s all) (hi : i < 20) (hd : d.length ≤ 500) :
    LInv firm (i + 1) (appendP s d).2 (all ++ d) ∧ ((appendP s d).1 = 0 ∨ (appendP s d).1 = 41) := by
  obtain ⟨h1, h2, h3, h4, h5, h6, h7, h8⟩ := h
  have hok := ok_append h3 d
  have hf : s.f.length = firm.length := by rw [h1]
  by_cases hdd : s.dd = true
  · rw [appendP_dead hdd] at hok ⊢
    exact ⟨⟨h1, h2, hok, h4.trans (List.prefix_append all d), (fun h => by rw [hdd] at h; cases h), by show s.l.length ≤ 500 * (i + 1); omega, by rw [List.length_append]; omega, h8⟩, .inr rfl⟩
  · have hd' : s.dd = false := by simpa using hdd
    rw [appendP_ok hd' (by omega)] at hok ⊢
    have hall := h5 hd'
    have hpre : (firm ++ (s.l ++ d)) = all ++ d := by rw [hall, List.append_assoc]
    have hl : (s.l ++ d).length ≤ 500 * (i + 1) := by rw [List.length_append]; omega
    have ha : (all ++ d).length ≤ 1000 + 500 * (i + 1) := by rw [List.length_append]; omega
    by_cases har : s.ar = 1
    · rw [actP_die (s := { s with l := s.l ++ d }) har] at hok ⊢
      exact ⟨⟨h1, h2, hok, by show firm ++ (s.l ++ d) <+: _; rw [hpre]; exact List.prefix_rfl, fun h => by simp at h, hl, ha, h8⟩, .inr rfl⟩
    · rw [actP_go (s := { s with l := s.l ++ d }) har] at hok ⊢
      exact ⟨⟨h1, h2, hok, by show firm ++ (s.l ++ d) <+: _; rw [hpre]; exact List.prefix_rfl, fun _ => hpre.symm, hl, ha, h8⟩, .inl rfl⟩
theorem kept_take (s : TapeS) (keep : Int) (spoil : Bool) : (keptP s keep spoil).take ((keptP s keep spoil).length - 1) = s.l.take ((keptP s keep spoil).length - 1) := by
  unfold keptP
  obtain ⟨m, hm⟩ : ∃ m, m = (max 0 (min keep (s.l.length : Int))).toNat := ⟨_, rfl⟩
  rw [← hm]
  have hml : m ≤ s.l.length := by omega
  have htl : (s.l.take m).length = m := by rw [List.length_take]; omega
  split
  · rw [spoilP_length, htl]
    have : (spoilP (s.l.take m)).take (m - 1) = (s.l.take m).take (m - 1) := by
      unfold spoilP
      split
      · rfl
      · rw [htl, List.take_left' (by rw [List.length_take, htl]; omega)]
    rw [this, List.take_take, Nat.min_eq_left (by omega)]
  · rw [htl, List.take_take, Nat.min_eq_left (by omega)]
theorem lasts_post {firm : List UInt8} {i : Nat} {s : TapeS} {all : List UInt8} (h : LInv firm i s all) (hi : i ≤ 20) (c : Int) (sp : Bool) :
    ∃ kp : List UInt8, readP (crashP s c sp) = (firm ++ kp, 0) ∧ (crashP s c sp).dd = false ∧ (firm ++ kp).length = firm.length + kp.length ∧ firm.length + kp.length ≤ all.length ∧ (kp.length : Int) ≤ max 0 c ∧ (firm ++ kp).take (firm.length : Int).toNat = firm ∧
      (firm ++ kp).take (max (firm.length : Int) (((firm ++ kp).length : Int) - 1)).toNat = all.take (max (firm.length : Int) (((firm ++ kp).length : Int) - 1)).toNat ∧ TapeOk (crashP s c sp) ∧ readP (crashP (crashP s c sp) 5 true) = (firm ++ kp, 0) ∧ TapeOk (crashP (crashP s c sp) 5 true) ∧ all.length ≤ 20000 := by
  obtain ⟨h1, h2, h3, h4, h5, h6, h7, h8⟩ := h
  have hk := kept_length s c sp
  have hkt := kept_take s c sp
  obtain ⟨z, hz⟩ := h4
  have hlen := congrArg List.length hz
  rw [List.length_append, List.length_append] at hlen
  have hc2 : crashP (crashP s c sp) 5 true = crashP s c sp := by rw [crashP_eq s c sp]; exact crash0
  have hr : readP (crashP s c sp) = (firm ++ keptP s c sp, 0) := by rw [crashP_eq, read0, h1]
  refine ⟨keptP s c sp, hr, rfl, List.length_append, by omega, hk.2, ?_, ?_, ok_crash h3 c sp, by rw [hc2, hr], by rw [hc2]; exact ok_crash h3 c sp, by omega⟩
  · rw [Int.toNat_natCast, List.take_left]
  · generalize keptP s c sp = kp at hk hkt
    rw [List.length_append]
    by_cases h0 : kp.length = 0
    · obtain rfl := List.eq_nil_of_length_eq_zero h0
      rw [show (max (firm.length : Int) (((firm.length + ([] : List UInt8).length : Nat) : Int) - 1)).toNat = firm.length from by simp; omega, List.append_nil, List.take_length, ← hz, List.append_assoc, List.take_left]
    · rw [show (max (firm.length : Int) (((firm.length + kp.length : Nat) : Int) - 1)).toNat = firm.length + (kp.length - 1) from by omega, ← hz, List.append_assoc, List.take_append, List.take_append, List.take_of_length_le (l := firm) (by omega), Nat.add_sub_cancel_left, hkt, List.take_append, show kp.length - 1 - s.l.length = 0 from by omega, List.take_zero, List.append_nil]
structure OpS where
  ask : Int
  dat : List UInt8
  n : Int
  sp : Bool
def opCells (o : OpS) : List Value := [.int .i64 o.ask, S o.dat, .int .i64 o.n, .bool o.sp]
end Go.Proofs.Ytgahoadojcabnaa
