/-
  Plain laws of spools behind a crash: what was put and not acknowledged is found again. No condition.
-/
import Derived.Test.YtpaombkodoofgaaSpLaw
import Derived.Test.YtpaombkodoofgaaDM
namespace Go.Proofs.Ytpaombkodoofgaa
open Go Go.RowKit D
set_option linter.unusedVariables false
set_option linter.unusedSimpArgs false
/-! frames -/
theorem numK_append {a r : List UInt8} {j : Nat} (h : j ≤ a.length) : numK (a ++ r) j = numK a j := by
  have := numK_take (a ++ r) (n := a.length) j h
  rw [List.take_left] at this
  exact this.symm
theorem numB_append {a r : List UInt8} (h : 4 ≤ a.length) : numB (a ++ r) = numB a := by rw [numB_def, numB_def, numK_append h]
theorem first_append {f : List UInt8} (r : List UInt8) (h : (firstP f).2 = true) : firstP (f ++ r) = firstP f := by
  have hn := numB_range f
  by_cases hb : (f.length : Int) < 12 ∨ (f.length : Int) - 12 < numB f
  · rw [firstP_no hb] at h; cases h
  · have hnb := numB_append (r := r) (show 4 ≤ f.length by omega)
    have hb' : ¬ (((f ++ r).length : Int) < 12 ∨ ((f ++ r).length : Int) - 12 < numB (f ++ r)) := by rw [hnb, List.length_append]; omega
    have e1 : bodyB (f ++ r) = bodyB f := by
      unfold bodyB
      rw [hnb, List.take_append_of_le_length (by omega)]
    have e2 : tailB (f ++ r) = tailB f := by
      unfold tailB
      rw [hnb, List.take_append_of_le_length (by omega)]
    rw [firstP_yes hb', firstP_yes hb, e1, e2]
theorem first_frame {body : List UInt8} (h : body.length ≤ 100000) (r : List UInt8) : firstP (frB body ++ r) = (body, true) := by
  have hf : frB body = fourB (body.length : Int) ++ (body ++ sumB body) := by rw [frB_def, List.append_assoc]
  have hn : numB (frB body ++ r) = (body.length : Int) := by rw [hf, List.append_assoc]; exact numB_four (by omega) (by omega) _
  have hl : (frB body ++ r).length = 12 + body.length + r.length := by rw [List.length_append, frB_len]
  have hb : bodyB (frB body ++ r) = body := by
    unfold bodyB
    rw [hn, hf, List.append_assoc, show (4 + (body.length : Int)).toNat = (fourB (body.length : Int)).length + body.length from by rw [fourB_length]; omega, List.take_length_add_append,
      show (Int.toNat 4) = (fourB (body.length : Int)).length from by rw [fourB_length]; rfl, List.drop_left, List.append_assoc, List.take_left]
  have ht : tailB (frB body ++ r) = sumB body := by
    unfold tailB
    rw [hn, frB_def, show (4 + (body.length : Int) + 12 - 4).toNat = (fourB (body.length : Int) ++ body ++ sumB body).length from by simp [fourB_length, sumB_length]; omega, List.take_left,
      show (4 + (body.length : Int)).toNat = (fourB (body.length : Int) ++ body).length from by simp [fourB_length]; omega, List.drop_left]
  rw [firstP_yes (by rw [hn, hl]; push_cast; omega), hb, ht]
  simp
theorem scan_append : ∀ (k : Nat) (f : List UInt8) (s st : SpS) (r : List UInt8), f.length ≤ k → scanP s f = (f.length, st) → scanP s (f ++ r) = (f.length + (scanP st r).1, (scanP st r).2) := by
  intro k
  induction k with
  | zero =>
    intro f s st r hk h
    have hf : f = [] := List.length_eq_zero_iff.1 (by omega)
    subst hf
    have hg : ¬ goesOn s [] := fun g => by have := (firstP_len g.1).1; simp at this
    rw [scan_end hg] at h
    cases h
    simp
  | succ k ih =>
    intro f s st r hk h
    by_cases hg : goesOn s f
    · have hl := (firstP_len hg.1).1
      have hfa := first_append r hg.1
      have hg2 : goesOn s (f ++ r) := by unfold goesOn; rw [hfa]; exact hg
      rw [scan_go hg] at h
      obtain ⟨h1, h2⟩ := Prod.mk.inj h
      have hd : (f ++ r).drop (12 + (firstP f).1.length) = f.drop (12 + (firstP f).1.length) ++ r := by rw [List.drop_append_of_le_length hl]
      have h3 : scanP (takeP s (firstP f).1).2 (f.drop (12 + (firstP f).1.length)) = ((f.drop (12 + (firstP f).1.length)).length, st) :=
        Prod.ext (by rw [List.length_drop]; omega) h2
      rw [scan_go hg2, hfa, hd, ih _ _ _ r (by rw [List.length_drop]; omega) h3]
      exact Prod.ext (by show 12 + _ + ((f.drop _).length + _) = _; rw [List.length_drop]; omega) rfl
    · rw [scan_end hg] at h
      obtain ⟨h1, h2⟩ := Prod.mk.inj h
      have hf : f = [] := List.length_eq_zero_iff.1 (by omega)
      subst hf
      subst h2
      simp
theorem scan_nil (s : SpS) : scanP s [] = (0, s) := scan_end fun g => by have := (firstP_len g.1).1; simp at this
theorem scan_frame {st st' : SpS} {body : List UInt8} (h : body.length ≤ 100000) (ht : takeP st body = (true, st')) : scanP st (frB body) = ((frB body).length, st') := by
  have hf := first_frame h []
  rw [List.append_nil] at hf
  have hg : goesOn st (frB body) := by unfold goesOn; rw [hf]; exact ⟨rfl, by rw [ht]⟩
  rw [scan_go hg, hf]
  show (12 + body.length + (scanP (takeP st body).2 ((frB body).drop (12 + body.length))).1, _) = _
  rw [List.drop_eq_nil_of_le (by rw [frB_len]; exact Nat.le_refl _), ht, scan_nil, frB_len]
  rfl
theorem scan_torn {st : SpS} {p : List UInt8} (h : (firstP p).2 = false) : scanP st p = (0, st) := scan_end fun g => by have := g.1; rw [h] at this; cases this
/-! what stays of a frame -/
theorem spoil_parts {l : List UInt8} (h : 0 < l.length) : ∃ z : UInt8, spoilP l = l.take (l.length - 1) ++ [z] ∧ bt l (l.length - 1) ≠ (z.toNat : Int) := by
  refine ⟨UInt8.ofNat (ixor .u8 (bt l (l.length - 1)) 255).toNat, by unfold spoilP; rw [if_neg (by omega)]; rfl, ?_⟩
  have hb := bt_range l (l.length - 1)
  generalize bt l (l.length - 1) = y at hb ⊢
  obtain ⟨m, rfl⟩ := Int.eq_ofNat_of_zero_le hb.1
  have hm : m < 256 := by omega
  have : ∀ n : Fin 256, (((n.val : Nat) : Int)) ≠ ((UInt8.ofNat (ixor .u8 ((n.val : Nat) : Int) 255).toNat).toNat : Int) := by decide +kernel
  exact this ⟨m, hm⟩
theorem torn_part {body : List UInt8} (hb : body.length ≤ 100000) {q : List UInt8} (h4 : q.length < 12 + body.length) (h5 : 12 ≤ q.length → numB q = (body.length : Int)) : (firstP q).2 = false := by
  by_cases h : q.length < 12
  · rw [firstP_no (.inl (by omega))]
  · rw [firstP_no (.inr (by rw [h5 (by omega)]; omega))]
theorem numB_part {body : List UInt8} (hb : body.length ≤ 100000) {k : Nat} (hk : 4 ≤ k) (r : List UInt8) : numB ((frB body).take k ++ r) = (body.length : Int) := by
  have h1 : 4 ≤ ((frB body).take k).length := by rw [List.length_take, frB_len]; omega
  rw [numB_append h1]
  have h2 : numB (frB body) = (body.length : Int) := by
    have : frB body = fourB (body.length : Int) ++ (body ++ sumB body) := by rw [frB_def, List.append_assoc]
    rw [this]; exact numB_four (by omega) (by omega) _
  have h3 := numB_append (a := (frB body).take k) (r := (frB body).drop k) h1
  rw [List.take_append_drop, h2] at h3
  exact h3.symm
/-- A frame whose last byte is another one is none. -/
theorem torn_last {body : List UInt8} (hb : body.length ≤ 100000) {z : UInt8} (hz : bt (frB body) ((frB body).length - 1) ≠ (z.toNat : Int)) : (firstP ((frB body).take ((frB body).length - 1) ++ [z])).2 = false := by
  have hl := frB_len body
  have hn := numB_part hb (k := (frB body).length - 1) (by omega) [z]
  have hq : ((frB body).take ((frB body).length - 1) ++ [z]).length = 12 + body.length := by rw [List.length_append, List.length_take]; simp; omega
  generalize hqe : (frB body).take ((frB body).length - 1) ++ [z] = q at hn hq ⊢
  rw [firstP_yes (by rw [hn, hq]; push_cast; omega)]
  show decide (sumB (bodyB q) = tailB q) = false
  rw [decide_eq_false_iff_not]
  intro he
  have hbody : bodyB q = body := by
    unfold bodyB
    rw [hn, ← hqe, List.take_append_of_le_length (by rw [List.length_take]; omega), List.take_take, Nat.min_eq_left (by omega), frB_def, show (4 + (body.length : Int)).toNat = (fourB (body.length : Int) ++ body).length from by simp [fourB_length]; omega, List.take_left,
      show (Int.toNat 4) = (fourB (body.length : Int)).length from by rw [fourB_length]; rfl, List.drop_left]
  rw [hbody] at he
  have h8 := sumB_length body
  have e1 : bt (sumB body) 7 = bt (frB body) ((frB body).length - 1) := by
    have : (frB body).drop (4 + body.length) = sumB body := by rw [frB_def, show 4 + body.length = (fourB (body.length : Int) ++ body).length from by simp [fourB_length], List.drop_left]
    rw [← this, bt_drop]
    congr 1; omega
  have e2 : bt (tailB q) 7 = (z.toNat : Int) := by
    unfold tailB
    rw [hn, show (4 + (body.length : Int) + 12 - 4).toNat = q.length from by omega, List.take_length, show (4 + (body.length : Int)).toNat = 4 + body.length from by omega, bt_drop, ← hqe]
    have h9 : ((frB body).take ((frB body).length - 1)).length = 4 + body.length + 7 := by rw [List.length_take]; omega
    simp only [bt, List.getD_eq_getElem?_getD]
    rw [List.getElem?_append_right (by omega), h9, Nat.sub_self]
    rfl
  rw [he, e2] at e1
  exact hz e1.symm
theorem torn {body : List UInt8} (hb : body.length ≤ 100000) (K : Nat) (sp : Bool) :
    (if sp = true then spoilP ((frB body).take K) else (frB body).take K) = frB body ∨ (firstP (if sp = true then spoilP ((frB body).take K) else (frB body).take K)).2 = false := by
  have hl := frB_len body
  cases sp with
  | false =>
    simp only [Bool.false_eq_true, if_false]
    rcases Nat.lt_or_ge K (frB body).length with g | g
    · refine .inr (torn_part hb (by rw [List.length_take]; omega) fun h => ?_)
      rw [List.length_take] at h
      have := numB_part hb (k := K) (by omega) []
      rwa [List.append_nil] at this
    · exact .inl (List.take_of_length_le g)
  | true =>
    simp only [if_true]
    right
    rcases Nat.eq_zero_or_pos ((frB body).take K).length with g0 | g0
    · refine torn_part hb (by rw [spoil_len]; omega) fun h => ?_
      rw [spoil_len] at h; omega
    · obtain ⟨z, h1, h2⟩ := spoil_parts g0
      rw [h1]
      rcases Nat.lt_or_ge K (frB body).length with g | g
      · have hk : ((frB body).take K).length = K := by rw [List.length_take]; omega
        rw [hk, List.take_take, Nat.min_eq_left (by omega)]
        refine torn_part hb (by rw [List.length_append, List.length_take]; simp; omega) fun h => ?_
        rw [List.length_append, List.length_take] at h
        simp at h
        exact numB_part hb (by omega) [z]
      · rw [List.take_of_length_le g] at h2 ⊢
        exact torn_last hb h2
/-! what is known of the messages that were given -/
def Mok (m : List (Int × Value)) (st : SpS) : Prop := (∀ k v, mgt m k = some v → k ≤ st.la) ∧ ∀ r ∈ st.l, mgt m r.seq = none ∨ mgt m r.seq = some (S r.dat)
theorem mok_nil : Mok [] sp0 := by
  refine ⟨fun k v h => ?_, fun r h => ?_⟩
  · cases h
  · cases h
theorem sp_seq {st : SpS} (h : SpOk st) {r : RecS} (hr : r ∈ st.l) : st.ak < r.seq ∧ r.seq ≤ st.la := by
  obtain ⟨h1, h2, h3, h4⟩ := h
  obtain ⟨i, hi⟩ := List.getElem?_of_mem hr
  have := h4 i r hi
  have := (List.getElem?_eq_some_iff.1 hi).1
  omega
theorem sp_inj {st : SpS} (h : SpOk st) {r q : RecS} (hr : r ∈ st.l) (hq : q ∈ st.l) (he : r.seq = q.seq) : r = q := by
  obtain ⟨h1, h2, h3, h4⟩ := h
  obtain ⟨i, hi⟩ := List.getElem?_of_mem hr
  obtain ⟨j, hj⟩ := List.getElem?_of_mem hq
  have := h4 i r hi
  have := h4 j q hj
  have : i = j := by omega
  subst this
  rw [hi] at hj
  exact Option.some.inj hj
section
variable {m : List (Int × Value)} {st : SpS} {d : List UInt8} {n : Int}
theorem mok_new (h : Mok m st) (hok : SpOk st) : Mok m ⟨st.l ++ [⟨st.la + 1, d⟩], st.ak, st.la + 1⟩ := by
  refine ⟨fun k v hk => by have := h.1 k v hk; show k ≤ st.la + 1; omega, fun r hr => ?_⟩
  rcases List.mem_append.1 hr with hr | hr
  · exact h.2 r hr
  · rw [List.mem_singleton] at hr
    subst hr
    left
    cases hg : mgt m (st.la + 1) with
    | none => rfl
    | some v => have := h.1 _ v hg; omega
theorem mok_set (h : Mok m st) (hok : SpOk st) : Mok (mst m (st.la + 1) (S d)) ⟨st.l ++ [⟨st.la + 1, d⟩], st.ak, st.la + 1⟩ := by
  refine ⟨fun k v hk => ?_, fun r hr => ?_⟩
  · show k ≤ st.la + 1
    by_cases e : k = st.la + 1
    · omega
    · rw [mgt_mst_ne m e] at hk
      have := h.1 k v hk; omega
  · rcases List.mem_append.1 hr with hr | hr
    · have := sp_seq hok hr
      rw [mgt_mst_ne m (by omega)]
      exact h.2 r hr
    · rw [List.mem_singleton] at hr
      subst hr
      exact .inr (mgt_mst_self ..)
theorem mok_kp (h : Mok m st) : Mok m ⟨kp n st.l, n, st.la⟩ := ⟨h.1, fun r hr => h.2 r (List.mem_filter.1 hr).1⟩
theorem mok_again (h : Mok m st) (hok : SpOk st) {r : RecS} (hr : r ∈ st.l) : Mok (mst m r.seq (S r.dat)) st := by
  refine ⟨fun k v hk => ?_, fun q hq => ?_⟩
  · by_cases e : k = r.seq
    · have := sp_seq hok hr; omega
    · rw [mgt_mst_ne m e] at hk; exact h.1 k v hk
  · by_cases e : q.seq = r.seq
    · obtain rfl := sp_inj hok hq hr e
      exact .inr (mgt_mst_self ..)
    · rw [mgt_mst_ne m e]; exact h.2 q hq
end
/-! what is there between two calls -/
structure LI (i : Nat) (st : SpS) (f : List UInt8) : Prop where
  ok : SpOk st
  sc : scanP sp0 f = (f.length, st)
  len : f.length ≤ i * 8300
  la : st.la ≤ i
abbrev firmT (f : List UInt8) : TapeS := ⟨4194304, f, [], 0, false⟩
theorem li0 : LI 0 sp0 [] := ⟨spok0, by rw [scan_nil]; rfl, by simp, by show (0 : Int) ≤ _; omega⟩
theorem LI.tk {i : Nat} {st : SpS} {f : List UInt8} (h : LI i st f) (hi : i ≤ 60) : TapeOk (firmT f) := by
  have := h.len
  exact ⟨by show (4194304 : Int) ≤ _; omega, by show ((f.length + 0 : Nat) : Int) ≤ 4194304; omega, by show (0 : Int) ≤ 0; omega, by show (0 : Int) ≤ _; omega⟩
theorem LI.more {i : Nat} {st : SpS} {f : List UInt8} (h : LI i st f) : LI (i + 1) st f := ⟨h.ok, h.sc, Nat.le_trans h.len (Nat.mul_le_mul_right _ (Nat.le_succ i)), by have := h.la; omega⟩
theorem LI.frame {i : Nat} {st st' : SpS} {f body : List UInt8} (h : LI i st f) (hb : body.length ≤ 8250) (ht : takeP st body = (true, st')) (hok : SpOk st') (hla : st'.la ≤ st.la + 1) : LI (i + 1) st' (f ++ frB body) := by
  refine ⟨hok, ?_, ?_, by have := h.la; omega⟩
  · rw [scan_append f.length f _ _ _ (Nat.le_refl _) h.sc, scan_frame (by omega) ht, List.length_append]
  · rw [List.length_append, frB_len, Nat.add_mul]
    have := h.len; omega
/-- What is opened behind a crash. -/
structure Opn (i : Nat) (ak la : Int) (now next : RecL) (m : List (Int × Value)) (t3 : TapeS) (st4 : SpS) (f4 : List UInt8) : Prop where
  op : openP t3 1000 = (0, firmT f4)
  sc : (scanP sp0 (t3.f ++ t3.l)).2 = st4
  li : LI (i + 1) st4 f4
  l : st4.l = now ∨ st4.l = next
  hak : ak ≤ st4.ak
  hla : la ≤ st4.la
  la1 : st4.la ≤ la + 1
  mok : Mok m st4
  tk : TapeOk t3
def Sit (i : Nat) (ak la : Int) (now next : RecL) (m : List (Int × Value)) (t : TapeS) : Prop := TapeOk t ∧ ∀ (keep : Int) (sp : Bool), ∃ st4 f4, Opn i ak la now next m (crashP t keep sp) st4 f4
theorem open_firm {i : Nat} {st : SpS} {f : List UInt8} (h : LI i st f) : openP (firmT f) 1000 = (0, firmT f) ∧ (scanP sp0 (f ++ [])).2 = st := by
  have hs : scanP sp0 ((firmT f).f ++ (firmT f).l) = (f.length, st) := by show scanP sp0 (f ++ []) = _; rw [List.append_nil]; exact h.sc
  refine ⟨?_, by rw [List.append_nil, h.sc]⟩
  rw [openP_go (by omega) rfl, openC_sync (by rw [hs]; show ¬ f.length < (f ++ []).length; simp), syncP_ok rfl (show ¬ (0 : Int) = 1 by decide)]
  show (0, (⟨4194304, f ++ [], [], max 0 (0 - 1), false⟩ : TapeS)) = _
  rw [List.append_nil]; rfl
section
variable {i : Nat} {st st' : SpS} {f body : List UInt8} {m m' : List (Int × Value)} {now next : RecL} {ar : Int} {dd : Bool}
theorem crash_firm (h : TapeOk ⟨4194304, f, [], ar, dd⟩) (keep : Int) (sp : Bool) : crashP ⟨4194304, f, [], ar, dd⟩ keep sp = firmT f := by
  unfold crashP
  have : ∀ k : Nat, ([] : List UInt8).take k = [] := fun k => by simp
  simp only [this]
  cases sp with
  | false => simp
  | true =>
    have : spoilP [] = [] := rfl
    simp [this]
/-- Nothing was laid that can be lost. -/
theorem sit_firm (h : LI (i + 1) st f) (hm : Mok m st) {ak la : Int} (ht : TapeOk ⟨4194304, f, [], ar, dd⟩) (hi : i ≤ 50) (h1 : ak ≤ st.ak) (h2 : la ≤ st.la) (h3 : st.la ≤ la + 1) (hl : st.l = now ∨ st.l = next) : Sit i ak la now next m ⟨4194304, f, [], ar, dd⟩ := by
  refine ⟨ht, fun keep sp => ⟨st, f, ?_⟩⟩
  rw [crash_firm ht]
  obtain ⟨o1, o2⟩ := open_firm h
  exact ⟨o1, o2, h, hl, h1, h2, h3, hm, h.tk (by omega)⟩
/-- A frame is laid, and not synced. -/
theorem sit_loose (h : LI i st f) (hi : i ≤ 50) (hb : body.length ≤ 8250) (ht : takeP st body = (true, st')) (hok : SpOk st') (h0 : st.la ≤ st'.la) (h1 : st'.la ≤ st.la + 1) (h2 : st.ak ≤ st'.ak) (hm : Mok m st) (hm' : Mok m st') (hn : now = st.l) (hx : next = st'.l)
    (htk : TapeOk ⟨4194304, f, frB body, ar, dd⟩) : Sit i st.ak st.la now next m ⟨4194304, f, frB body, ar, dd⟩ := by
  refine ⟨htk, fun keep sp => ?_⟩
  have htk3 := tk_crash htk keep sp
  obtain ⟨p, hp, hc⟩ : ∃ p, (p = frB body ∨ (firstP p).2 = false) ∧ crashP ⟨4194304, f, frB body, ar, dd⟩ keep sp = ⟨4194304, f ++ p, [], 0, false⟩ :=
    ⟨_, torn (body := body) (by omega) (max 0 (min keep ((frB body).length : Int))).toNat sp, rfl⟩
  rw [hc] at htk3 ⊢
  rcases hp with rfl | hp
  · have hli := h.frame hb ht hok h1
    obtain ⟨o1, o2⟩ := open_firm hli
    exact ⟨st', _, o1, o2, hli, .inr hx.symm, h2, h0, h1, hm', htk3⟩
  · have hs : scanP sp0 (f ++ p) = (f.length, st) := by rw [scan_append f.length f _ _ _ (Nat.le_refl _) h.sc, scan_torn hp, Nat.add_zero]
    refine ⟨st, f, ?_, ?_, h.more, .inl hn.symm, Int.le_refl _, Int.le_refl _, by omega, hm, htk3⟩
    · have hs' : scanP sp0 ((⟨4194304, f ++ p, [], 0, false⟩ : TapeS).f ++ (⟨4194304, f ++ p, [], 0, false⟩ : TapeS).l) = (f.length, st) := by show scanP sp0 (f ++ p ++ []) = _; rw [List.append_nil]; exact hs
      rw [openP_go (by omega) rfl]
      by_cases hpl : p.length = 0
      · obtain rfl := List.length_eq_zero_iff.1 hpl
        rw [openC_sync (by rw [hs']; show ¬ f.length < (f ++ [] ++ []).length; simp), syncP_ok rfl (show ¬ (0 : Int) = 1 by decide)]
        show (0, (⟨4194304, f ++ [] ++ [], [], max 0 (0 - 1), false⟩ : TapeS)) = _
        rw [List.append_nil, List.append_nil]; rfl
      · rw [openC_cut (by rw [hs']; show f.length < (f ++ p ++ []).length; rw [List.append_nil, List.length_append]; omega), hs', cutP_ok rfl ⟨by show (0 : Int) ≤ (f.length : Int); omega, by show ((f.length : Nat) : Int) ≤ (((f ++ p).length + 0 : Nat) : Int); rw [List.length_append]; omega⟩ (show ¬ (0 : Int) = 1 by decide)]
        show ((0 : Int), (⟨4194304, (f ++ p ++ []).take ((f.length : Nat) : Int).toNat, [], max 0 (0 - 1), false⟩ : TapeS)) = _
        rw [List.append_nil, Int.toNat_natCast, List.take_left]; rfl
    · show (scanP sp0 (f ++ p ++ [])).2 = st
      rw [List.append_nil, hs]
/-- A frame is laid on an armed tape. -/
theorem lay_armed (h : LI i st f) (hi : i ≤ 50) {cut : Int} (hcut : cut ≤ 9223372036854775807) (x : SpF) (hx : x.st = st) (hb : body.length ≤ 8250) (ht : takeP st body = (true, st')) :
    (∃ t2 : TapeS, layP (armP (firmT f) cut) x body = (41, { x with dd := true }, t2) ∧ 1 ≤ cut ∧ ∃ ar, t2 = ⟨4194304, f, frB body, ar, true⟩ ∧ TapeOk t2) ∨
    (∃ t2 : TapeS, layP (armP (firmT f) cut) x body = (0, { x with st := st' }, t2) ∧ ∃ ar, t2 = ⟨4194304, f ++ frB body, [], ar, false⟩ ∧ TapeOk t2) := by
  have hlen := h.len
  have hfl := frB_len body
  have htk : TapeOk (armP (firmT f) cut) := tk_arm (h.tk (by omega)) hcut
  have hroom : ((f.length + ([] : List UInt8).length : Nat) : Int) + ((frB body).length : Int) ≤ 4194304 := by rw [List.length_nil]; omega
  have ha : appendP (armP (firmT f) cut) (frB body) = actP ⟨4194304, f, frB body, max cut 0, false⟩ := appendP_ok rfl hroom
  have hta := tk_append htk (frB body)
  have hts := tk_sync hta
  by_cases h1 : max cut 0 = 1
  · have e : appendP (armP (firmT f) cut) (frB body) = (41, ⟨4194304, f, frB body, max cut 0, true⟩) := by rw [ha, actP_die h1]
    left
    rw [e] at hta
    exact ⟨_, by rw [lay_app (by rw [e]; exact (by decide : (41 : Int) ≠ 0)), e], by omega, _, rfl, hta⟩
  · have e : appendP (armP (firmT f) cut) (frB body) = (0, ⟨4194304, f, frB body, max 0 (max cut 0 - 1), false⟩) := by rw [ha, actP_go h1]
    rw [e] at hts
    by_cases h2 : max 0 (max cut 0 - 1) = 1
    · have e2 : syncP ⟨4194304, f, frB body, max 0 (max cut 0 - 1), false⟩ = (41, ⟨4194304, f, frB body, max 0 (max cut 0 - 1), true⟩) := syncP_die rfl h2
      left
      rw [e2] at hts
      exact ⟨_, by rw [lay_syn (by rw [e]) (by rw [e, e2]; exact (by decide : (41 : Int) ≠ 0)), e, e2], by omega, _, rfl, hts⟩
    · have e2 : syncP ⟨4194304, f, frB body, max 0 (max cut 0 - 1), false⟩ = (0, ⟨4194304, f ++ frB body, [], max 0 (max 0 (max cut 0 - 1) - 1), false⟩) := syncP_ok rfl h2
      right
      rw [e2] at hts
      exact ⟨_, by rw [lay_ok (by rw [e]) (by rw [e, e2]), e, e2, hx, ht], _, rfl, hts⟩
end
/-- A message is put on an armed tape. -/
theorem put_sit {i : Nat} {st : SpS} {f d : List UInt8} {m : List (Int × Value)} (h : LI i st f) (hi : i ≤ 50) (hm : Mok m st) {cut : Int} (hcut : cut ≤ 9223372036854775807) :
    ((d = [] ∨ 8192 < d.length) ∧ putP (armP (firmT f) cut) ⟨st, 1000, false⟩ d = (0, 1, ⟨st, 1000, false⟩, armP (firmT f) cut) ∧ ∀ nx, Sit i st.ak st.la st.l nx m (armP (firmT f) cut)) ∨
    (¬ (d = [] ∨ 8192 < d.length) ∧ ∃ x2 t2, putP (armP (firmT f) cut) ⟨st, 1000, false⟩ d = (0, 41, x2, t2) ∧ 1 ≤ cut ∧ Sit i st.ak st.la st.l (st.l ++ [⟨st.la + 1, d⟩]) m t2) ∨
    (¬ (d = [] ∨ 8192 < d.length) ∧ ∃ x2 t2, putP (armP (firmT f) cut) ⟨st, 1000, false⟩ d = (st.la + 1, 0, x2, t2) ∧ Sit i st.ak st.la (st.l ++ [⟨st.la + 1, d⟩]) (st.l ++ [⟨st.la + 1, d⟩]) (mst m (st.la + 1) (S d)) t2) := by
  have hla := h.la
  have hlen := h.ok.1
  have hak := h.ok.2.1
  by_cases hd : d = [] ∨ 8192 < d.length
  · exact .inl ⟨hd, put_arg rfl hd, fun nx => sit_firm h.more hm (tk_arm (h.tk (by omega)) hcut) hi (Int.le_refl _) (Int.le_refl _) (by omega) (.inl rfl)⟩
  · have hd2 : d.length ≤ 8192 := Nat.le_of_not_lt fun e => hd (.inr e)
    have htp := take_put (d := d) h.ok (by omega) hd
    have hg := put_good (d := d) h.ok (by omega)
    have hb : (msgB (st.la + 1) d).length ≤ 8250 := by rw [msgB_len]; omega
    have hfull : ¬ ((1000 : Int) ≤ st.l.length ∨ 1000000000 ≤ st.la) := by omega
    right
    rcases lay_armed h hi hcut ⟨st, 1000, false⟩ rfl hb htp with ⟨t2, e, hc, ar, e2, htk⟩ | ⟨t2, e, ar, e2, htk⟩
    · left
      subst e2
      exact ⟨hd, _, _, by rw [put_bad rfl hd hfull (by rw [e]; exact (by decide : (41 : Int) ≠ 0)), e], hc, sit_loose h hi hb htp hg (by show st.la ≤ st.la + 1; omega) (Int.le_refl _) (Int.le_refl _) hm (mok_new hm h.ok) rfl rfl htk⟩
    · right
      subst e2
      exact ⟨hd, _, _, by rw [put_ok rfl hd hfull (by rw [e]), e], sit_firm (h.frame hb htp hg (Int.le_refl _)) (mok_set hm h.ok) htk hi (Int.le_refl _) (by show st.la ≤ st.la + 1; omega) (Int.le_refl _) (.inl rfl)⟩
theorem kp_old {st : SpS} (h : SpOk st) {n : Int} (hn : n ≤ st.ak) : kp n st.l = st.l := by
  unfold kp
  rw [List.filter_eq_self]
  intro r hr
  have := sp_seq h hr
  simp; omega
theorem ack_sit {i : Nat} {st : SpS} {f : List UInt8} {m : List (Int × Value)} (h : LI i st f) (hi : i ≤ 50) (hm : Mok m st) {cut : Int} (hcut : cut ≤ 9223372036854775807) (n : Int) :
    (st.la < n ∧ ackP (armP (firmT f) cut) ⟨st, 1000, false⟩ n = (44, ⟨st, 1000, false⟩, armP (firmT f) cut) ∧ ∀ nx, Sit i st.ak st.la st.l nx m (armP (firmT f) cut)) ∨
    (n ≤ st.la ∧ ∃ x2 t2, ackP (armP (firmT f) cut) ⟨st, 1000, false⟩ n = (41, x2, t2) ∧ 1 ≤ cut ∧ Sit i st.ak st.la st.l (kp n st.l) m t2) ∨
    (n ≤ st.la ∧ ∃ x2 t2, ackP (armP (firmT f) cut) ⟨st, 1000, false⟩ n = (0, x2, t2) ∧ Sit i st.ak st.la (kp n st.l) (kp n st.l) m t2) := by
  have hla := h.la
  by_cases h1 : st.la < n
  · exact .inl ⟨h1, ack_seq rfl h1, fun nx => sit_firm h.more hm (tk_arm (h.tk (by omega)) hcut) hi (Int.le_refl _) (Int.le_refl _) (by omega) (.inl rfl)⟩
  · right
    by_cases h2 : n ≤ st.ak
    · right
      exact ⟨by omega, _, _, ack_old rfl (by show n ≤ st.la; omega) h2, by rw [kp_old h.ok h2]; exact sit_firm h.more hm (tk_arm (h.tk (by omega)) hcut) hi (Int.le_refl _) (Int.le_refl _) (by omega) (.inl rfl)⟩
    · have hta := take_ack (n := n) h.ok (by omega) (by omega)
      have hg := ack_good (n := n) h.ok (by omega) (by omega)
      have hb : (markB n).length ≤ 8250 := by rw [markB_len]; omega
      rcases lay_armed h hi hcut ⟨st, 1000, false⟩ rfl hb hta with ⟨t2, e, hc, ar, e2, htk⟩ | ⟨t2, e, ar, e2, htk⟩
      · left
        subst e2
        exact ⟨by omega, _, _, by rw [ack_go rfl (by show n ≤ st.la; omega) (by show st.ak < n; omega), e], hc, sit_loose h hi hb hta hg (Int.le_refl _) (by show st.la ≤ st.la + 1; omega) (by show st.ak ≤ n; omega) hm (mok_kp hm) rfl rfl htk⟩
      · right
        subst e2
        exact ⟨by omega, _, _, by rw [ack_go rfl (by show n ≤ st.la; omega) (by show st.ak < n; omega), e], sit_firm (h.frame hb hta hg (by show st.la ≤ st.la + 1; omega)) (mok_kp hm) htk hi (by show st.ak ≤ n; omega) (Int.le_refl _) (by show st.la ≤ st.la + 1; omega) (.inl rfl)⟩
end Go.Proofs.Ytpaombkodoofgaa
