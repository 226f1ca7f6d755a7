/-
  Plain laws of spools: what is put, acknowledged, and found again. No condition.
-/
import Derived.Test.YtpaombkodoofgaaSuSpec
namespace Go.Proofs.Ytpaombkodoofgaa
open Go Go.RowKit D
set_option linter.unusedVariables false
set_option linter.unusedSimpArgs false
theorem bt_toB' {xs : List Int} {r : List UInt8} {i : Nat} (hi : i < xs.length) (h : 0 ≤ xs.getD i 0 ∧ xs.getD i 0 ≤ 255) : bt (toB xs ++ r) i = xs.getD i 0 := by
  have h1 : i < (toB xs).length := by rw [toB_length]; exact hi
  have h2 : (toB xs ++ r).getD i 0 = UInt8.ofNat (xs.getD i 0).toNat := by
    rw [List.getD_eq_getElem?_getD, List.getElem?_append_left h1]
    simp [toB, hi]
  rw [bt, h2, UInt8.toNat_ofNat']
  omega
theorem numB_four {n : Int} (h0 : 0 ≤ n) (h1 : n < 4294967296) (r : List UInt8) : numB (fourB n ++ r) = n := by
  have hw : ∀ x : Int, 0 ≤ IntKind.u8.wrap x ∧ IntKind.u8.wrap x ≤ 255 := fun x => by rw [wrap_u8]; omega
  have e0 : bt (fourB n ++ r) 0 = n / 2 ^ 24 % 256 := by rw [fourB_def, bt_toB' (xs := [IntKind.u8.wrap (n / 2 ^ 24), IntKind.u8.wrap (n / 2 ^ 16), IntKind.u8.wrap (n / 2 ^ 8), IntKind.u8.wrap n]) (i := 0) (by simp) (hw _)]; exact wrap_u8 _
  have e1 : bt (fourB n ++ r) 1 = n / 2 ^ 16 % 256 := by rw [fourB_def, bt_toB' (xs := [IntKind.u8.wrap (n / 2 ^ 24), IntKind.u8.wrap (n / 2 ^ 16), IntKind.u8.wrap (n / 2 ^ 8), IntKind.u8.wrap n]) (i := 1) (by simp) (hw _)]; exact wrap_u8 _
  have e2 : bt (fourB n ++ r) 2 = n / 2 ^ 8 % 256 := by rw [fourB_def, bt_toB' (xs := [IntKind.u8.wrap (n / 2 ^ 24), IntKind.u8.wrap (n / 2 ^ 16), IntKind.u8.wrap (n / 2 ^ 8), IntKind.u8.wrap n]) (i := 2) (by simp) (hw _)]; exact wrap_u8 _
  have e3 : bt (fourB n ++ r) 3 = n % 256 := by rw [fourB_def, bt_toB' (xs := [IntKind.u8.wrap (n / 2 ^ 24), IntKind.u8.wrap (n / 2 ^ 16), IntKind.u8.wrap (n / 2 ^ 8), IntKind.u8.wrap n]) (i := 3) (by simp) (hw _)]; exact wrap_u8 _
  rw [numB_def, numK_succ, numK_succ, numK_succ, numK_succ, numK_zero, e0, e1, e2, e3]
  omega
theorem msgB_len (n : Int) (d : List UInt8) : (msgB n d).length = 5 + d.length := by rw [msgB_def]; simp [fourB_length]; omega
theorem markB_len (n : Int) : (markB n).length = 5 := by rw [markB_def]; simp [fourB_length]
theorem tkN_msg {n : Int} (h0 : 0 ≤ n) (h1 : n < 4294967296) (d : List UInt8) : tkN (msgB n d) = n := by
  unfold tkN; rw [msgB_def]
  exact numB_four h0 h1 d
theorem tkR_msg (n : Int) (d : List UInt8) : tkR (msgB n d) = d := by
  unfold tkR; rw [msgB_def]
  show List.drop 5 ([109] ++ fourB n ++ d) = d
  rw [show (5 : Nat) = ([109] ++ fourB n).length from by simp [fourB_length], List.drop_left]
theorem tkN_mark {n : Int} (h0 : 0 ≤ n) (h1 : n < 4294967296) : tkN (markB n) = n := by
  unfold tkN; rw [markB_def]
  have := numB_four h0 h1 []
  rw [List.append_nil] at this
  exact this
theorem tkR_mark (n : Int) : tkR (markB n) = [] := by
  unfold tkR; rw [markB_def]
  exact List.drop_eq_nil_of_le (by simp [fourB_length])
section
variable {st : SpS} {d : List UInt8} {n : Int}
theorem take_put (h : SpOk st) (hl : st.la < 1000000000) (hd : ¬ (d = [] ∨ 8192 < d.length)) : takeP st (msgB (st.la + 1) d) = (true, ⟨st.l ++ [⟨st.la + 1, d⟩], st.ak, st.la + 1⟩) := by
  obtain ⟨h1, h2, h3, h4⟩ := h
  have hd1 : d ≠ [] := fun e => hd (.inl e)
  have hd2 : d.length ≤ 8192 := Nat.le_of_not_lt fun e => hd (.inr e)
  have ht : tkN (msgB (st.la + 1) d) = st.la + 1 := tkN_msg (by omega) (by omega) d
  have hm : tkMsg st (msgB (st.la + 1) d) := ⟨by rw [msgB_def]; rfl, ht, by rw [tkR_msg]; exact hd1, by rw [tkR_msg]; omega⟩
  rw [take_msg (by rw [msgB_len]; omega) hm, ht, tkR_msg]
theorem take_ack (h : SpOk st) (h1 : st.ak < n) (h2 : n ≤ st.la) : takeP st (markB n) = (true, ⟨kp n st.l, n, st.la⟩) := by
  obtain ⟨k1, k2, k3, k4⟩ := h
  have ht : tkN (markB n) = n := tkN_mark (by omega) (by omega)
  have hm : tkMark st (markB n) := ⟨by rw [markB_def]; rfl, tkR_mark n, by omega, by omega⟩
  rw [take_mark (by rw [markB_len]; omega) (not_both hm) hm, ht]
/-- The good states behind. -/
theorem put_good (h : SpOk st) (hl : st.la < 1000000000) : SpOk ⟨st.l ++ [⟨st.la + 1, d⟩], st.ak, st.la + 1⟩ := by
  obtain ⟨h1, h2, h3, h4⟩ := h
  refine ⟨by show ((st.l ++ [_]).length : Int) = st.la + 1 - st.ak; rw [List.length_append]; simp; omega, h2, by show st.la + 1 ≤ _; omega, ?_⟩
  intro i r hr
  have hr' : (st.l ++ [(⟨st.la + 1, d⟩ : RecS)])[i]? = some r := hr
  rw [List.getElem?_append] at hr'
  show r.seq = st.ak + 1 + i
  split at hr'
  · exact h4 i r hr'
  · have hz : i - st.l.length = 0 := by
      have := (List.getElem?_eq_some_iff.1 hr').1
      simp at this; omega
    rw [hz] at hr'
    simp at hr'
    subst hr'
    show st.la + 1 = _
    omega
theorem ack_good (h : SpOk st) (h1 : st.ak < n) (h2 : n ≤ st.la) : SpOk ⟨kp n st.l, n, st.la⟩ := by
  obtain ⟨k1, k2, k3, k4⟩ := h
  obtain ⟨g1, g2⟩ := kp_from (n := n) (ak := st.ak) (d := 0) (l := st.l) (fun i r hr => by have := k4 i r hr; push_cast; omega) (by push_cast; omega) (by push_cast; omega)
  refine ⟨?_, by show 0 ≤ n; omega, k3, fun i r hr => g2 i r hr⟩
  show ((kp n st.l).length : Int) = st.la - n
  push_cast at g1; omega
theorem from_all (h : SpOk st) {mo : Int} (hm : st.la - st.ak ≤ mo) : fromP st.l 0 mo = st.l := by
  obtain ⟨k1, k2, k3, k4⟩ := h
  rw [fromP_def]
  have : (st.l.filter fun r => decide (0 ≤ r.seq)) = st.l := by
    rw [List.filter_eq_self]
    intro r hr
    obtain ⟨i, hi⟩ := List.getElem?_of_mem hr
    have := k4 i r hi
    simp; omega
  rw [this, List.take_of_length_le (by omega)]
end
/-! a tape that is not armed -/
section
variable {t : TapeS} {x : SpF} {body d : List UInt8} {n : Int}
theorem lay_free (h1 : t.dd = false) (h2 : t.ar = 0) (h3 : t.l = []) (h4 : ((t.f.length + (frB body).length : Nat) : Int) ≤ t.lim) : layP t x body = (0, { x with st := (takeP x.st body).2 }, ⟨t.lim, t.f ++ frB body, [], 0, false⟩) := by
  obtain ⟨lim, f, l, ar, dd⟩ := t
  simp only at h1 h2 h3 h4
  subst h1; subst h2; subst h3
  have e1 : appendP ⟨lim, f, [], 0, false⟩ (frB body) = (0, ⟨lim, f, frB body, 0, false⟩) := by
    rw [appendP_ok rfl (by simp only [List.length_nil, Nat.add_zero]; omega), actP_go (show ¬ (0 : Int) = 1 by decide)]
    rfl
  have e2 : syncP ⟨lim, f, frB body, 0, false⟩ = (0, ⟨lim, f ++ frB body, [], 0, false⟩) := by rw [syncP_ok rfl (show ¬ (0 : Int) = 1 by decide)]; rfl
  rw [lay_ok (by rw [e1]) (by rw [e1, e2]), e1, e2]
theorem put_free (hx : x.dd = false) (hok : SpOk x.st) (hl : x.st.la < 1000000000) (hr : (x.st.l.length : Int) < x.rm) (hd : ¬ (d = [] ∨ 8192 < d.length)) (h1 : t.dd = false) (h2 : t.ar = 0) (h3 : t.l = []) (h4 : (t.f.length : Int) + 8300 ≤ t.lim) :
    putP t x d = (x.st.la + 1, 0, { x with st := ⟨x.st.l ++ [⟨x.st.la + 1, d⟩], x.st.ak, x.st.la + 1⟩ }, ⟨t.lim, t.f ++ frB (msgB (x.st.la + 1) d), [], 0, false⟩) := by
  have hd2 : d.length ≤ 8192 := Nat.le_of_not_lt fun e => hd (.inr e)
  have e := lay_free (x := x) (body := msgB (x.st.la + 1) d) h1 h2 h3 (by rw [frB_len, msgB_len]; omega)
  rw [put_ok hx hd (by omega) (by rw [e]), e, take_put hok hl hd]
theorem put_over (hx : x.dd = false) (hr : x.rm ≤ x.st.l.length) (hd : ¬ (d = [] ∨ 8192 < d.length)) : putP t x d = (0, 40, x, t) := put_full hx hd (.inl hr)
theorem ack_free (hx : x.dd = false) (hok : SpOk x.st) (h1 : t.dd = false) (h2 : t.ar = 0) (h3 : t.l = []) (h4 : (t.f.length : Int) + 8300 ≤ t.lim) (k1 : x.st.ak < n) (k2 : n ≤ x.st.la) :
    ackP t x n = (0, { x with st := ⟨kp n x.st.l, n, x.st.la⟩ }, ⟨t.lim, t.f ++ frB (markB n), [], 0, false⟩) := by
  have e := lay_free (x := x) (body := markB n) h1 h2 h3 (by rw [frB_len, markB_len]; omega)
  rw [ack_go hx k2 k1, e, take_ack hok k1 k2]
/-- A tape with nothing on it. -/
theorem open_new {n rm : Int} (hr : 1 ≤ rm ∧ rm ≤ 1000) : openP ⟨n, [], [], 0, false⟩ rm = (0, ⟨n, [], [], 0, false⟩) ∧ scanP sp0 ([] ++ []) = (0, sp0) := by
  have hs : scanP sp0 ([] ++ []) = (0, sp0) := scan_end fun g => by
    have := (firstP_len g.1).1
    simp at this
  refine ⟨?_, hs⟩
  rw [openP_go (by omega) rfl, openC_sync (by show ¬ (scanP sp0 ([] ++ [])).1 < _; rw [hs]; simp), syncP_ok rfl (show ¬ (0 : Int) = 1 by decide)]
  rfl
end
/-- What holds while messages are put and acknowledged. -/
structure RoomI (room : Int) (i : Nat) (x : SpF) (t : TapeS) : Prop where
  ok : SpOk x.st
  rm : x.rm = room
  dd : x.dd = false
  full : x.st.la - x.st.ak ≤ room
  la : x.st.la ≤ i
  lim : t.lim = 4194304
  td : t.dd = false
  ar : t.ar = 0
  tl : t.l = []
  tf : t.f.length ≤ i * 8300
theorem RoomI.tk {room : Int} {i : Nat} {x : SpF} {t : TapeS} (h : RoomI room i x t) (hi : i ≤ 60) : TapeOk t := by
  have h1 := h.lim; have h2 := h.ar; have h3 := h.tl; have h4 := h.tf
  refine ⟨by omega, ?_, by omega, by omega⟩
  rw [h3, List.length_nil]; omega
theorem room_next {room : Int} {i : Nat} {x : SpF} {t : TapeS} (h : RoomI room i x t) : RoomI room (i + 1) x t := ⟨h.ok, h.rm, h.dd, h.full, by have := h.la; omega, h.lim, h.td, h.ar, h.tl, Nat.le_trans h.tf (Nat.mul_le_mul_right _ (Nat.le_succ i))⟩
theorem room_put {room : Int} {i : Nat} {x : SpF} {t : TapeS} {d : List UInt8} (h : RoomI room i x t) (hi : i ≤ 60) (hd : 1 ≤ d.length ∧ d.length ≤ 8192) :
    ((putP t x d).2.1 = 0 ∧ x.st.la - x.st.ak < room ∧ (putP t x d).1 = x.st.la + 1 ∨ (putP t x d).2.1 = 40 ∧ ¬ x.st.la - x.st.ak < room) ∧ RoomI room (i + 1) (putP t x d).2.2.1 (putP t x d).2.2.2 := by
  obtain ⟨h1, h2, h3, h4, h5, h6, h7, h8, h9, h10⟩ := id h
  have hd' : ¬ (d = [] ∨ 8192 < d.length) := by
    rintro (rfl | e)
    · simp at hd
    · omega
  have hlen := h1.1
  by_cases hr : x.st.la - x.st.ak < room
  · have e := put_free (t := t) (x := x) (d := d) h3 h1 (by omega) (by omega) hd' h7 h8 h9 (by omega)
    rw [e]
    refine ⟨.inl ⟨rfl, hr, rfl⟩, put_good h1 (by omega), h2, h3, by show x.st.la + 1 - x.st.ak ≤ room; omega, by show x.st.la + 1 ≤ _; omega, h6, rfl, rfl, rfl, ?_⟩
    show (t.f ++ frB _).length ≤ _
    rw [List.length_append, frB_len, msgB_len]; omega
  · rw [put_over h3 (by omega) hd']
    exact ⟨.inr ⟨rfl, hr⟩, room_next h⟩
theorem room_ack {room : Int} {i : Nat} {x : SpF} {t : TapeS} {n : Int} (h : RoomI room i x t) (hi : i ≤ 60) :
    ((ackP t x n).1 = 0 ∧ n ≤ x.st.la ∨ (ackP t x n).1 = 44 ∧ ¬ n ≤ x.st.la) ∧ RoomI room (i + 1) (ackP t x n).2.1 (ackP t x n).2.2 := by
  obtain ⟨h1, h2, h3, h4, h5, h6, h7, h8, h9, h10⟩ := id h
  by_cases hn : x.st.la < n
  · rw [ack_seq h3 hn]
    exact ⟨.inr ⟨rfl, by omega⟩, room_next h⟩
  · by_cases ho : n ≤ x.st.ak
    · rw [ack_old h3 (by omega) ho]
      exact ⟨.inl ⟨rfl, by omega⟩, room_next h⟩
    · have e := ack_free (t := t) (x := x) (n := n) h3 h1 h7 h8 h9 (by omega) (by omega) (by omega)
      rw [e]
      refine ⟨.inl ⟨rfl, by omega⟩, ack_good h1 (by omega) (by omega), h2, h3, by show x.st.la - n ≤ room; omega, by show x.st.la ≤ _; omega, h6, rfl, rfl, rfl, ?_⟩
      show (t.f ++ frB _).length ≤ _
      rw [List.length_append, frB_len, markB_len]; omega
theorem room_new {room : Int} (h : 1 ≤ room ∧ room ≤ 50) : RoomI room 0 ⟨sp0, room, false⟩ ⟨4194304, [], [], 0, false⟩ :=
  ⟨spok0, rfl, rfl, by show (0 : Int) - 0 ≤ room; omega, by show (0 : Int) ≤ _; omega, rfl, rfl, rfl, rfl, by simp⟩
end Go.Proofs.Ytpaombkodoofgaa
