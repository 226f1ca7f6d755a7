/-
  A drawn region whose operations are looked at in another order. No condition.
-/
import Derived.Test.YtfiojlmccflplaaDW
namespace Go.Proofs.Ytfiojlmccflplaa.D
open Go Go.RowKit
set_option linter.unusedVariables false
set_option linter.unusedSimpArgs false
variable {P : Program} {w0 : World} {n : Nat} {H : Hp}
theorem drawR_any {l : List Oper} {Q : Post} {e : Env} (c k : Nat) {R : Value → Hp → Prop} (hm : P.follows .mixedOrders = true) (hok : drawOk l.toArray [] (c + 1 + k) l.length = true)
    (hall : ((List.range (c + 1 + k)).all fun i => Nat.ble i c || reach l.toArray 16 i c) = true) (h : SeqR P w0 n l.toArray Q H R c k 0 c l e) : ∀ a w, Fr n e a → Own w0 H w → wpAny P .any l.toArray (lift w0 n Q) l.toArray.size (Array.replicate l.toArray.size false) a { w with drawn := w.drawn + 1 } := by
  obtain ⟨vals, hV⟩ := SeqR.vals c 0 l e h
  have hok' := DrawOk.of hok
  have hk : c + 1 + k ≤ l.length := by simpa using hok'.le
  have hdep : ∀ i, c < i → i < c + 1 + k → reach l.toArray 16 i c = true := by
    intro i h1 h2
    have := (List.all_eq_true.1 hall) i (by simpa using h2)
    simp only [Bool.or_eq_true] at this
    rcases this with h3 | h3
    · have := Nat.le_of_ble_eq_true h3; omega
    · exact h3
  intro a w hf ho
  have hcl : l[c]? = some l[c] := List.getElem?_eq_getElem hV.lt
  have hne : ∃ v H1, R v H1 := by
    obtain ⟨_, _, hr⟩ := hV.eff undef H _ hcl
    have h1 := hr w ho
    generalize (execOp (ev (envAt l (vals undef H) e c)) l[c]).run P w = q at h1
    cases q with
    | halt => exact h1.elim
    | ok nx w' =>
      cases nx <;> simp only [Res] at h1
      case value v => obtain ⟨H', _, h3⟩ := h1; exact ⟨v, H', h3⟩
      case skip => obtain ⟨H', _, h3⟩ := h1; exact ⟨undef, H', h3⟩
      case enter f args => obtain ⟨x, w2, fr, ⟨v, H', _, _, h3⟩, _⟩ := h1 []; exact ⟨v, H', h3⟩
  have hfl : Nat.blt l.length l.length = false := by
    cases hh : Nat.blt l.length l.length with
    | false => rfl
    | true => exfalso; simp [Nat.blt] at hh; omega
  refine wpAny_drawR (F := []) (k := c + 1 + k) (f := l.length) (c := c) hok' (by omega) (R := R) (vals := vals) (e0 := e) (H := H) ?_ hV.at' ?_ ?_ ?_ _ _ e a _ (by rw [Array.getD_eq_getD_getElem?, Array.getElem?_replicate]; split <;> rfl) ?_ hne (by rw [Array.getD_eq_getD_getElem?, Array.getElem?_eq_none (by simp)]; rfl) hf ho.drew ?_
  · intro v H1 v' H1' i hi hic hre
    by_cases hlt : i < c
    · exact hV.same v H1 v' H1' i hlt
    · rw [hdep i (by omega) hi] at hre; cases hre
  · intro v H1 hR i o hi hic hoo
    have hoo' : l[i]? = some o := by simpa using hoo
    by_cases hlt : i < c
    · obtain ⟨q1, q2⟩ := hV.ahead v H1 i o hlt hoo'
      rw [Nat.zero_add] at q2
      exact ⟨fun _ => by simpa using q1, fun hre => by simpa using q2 hre v H1 hR⟩
    · have q := (hV.behind v H1 hR).1 i o (by omega) hi hoo'
      exact ⟨(fun hre => by rw [hdep i (by omega) hi] at hre; cases hre), fun _ => by simpa using q⟩
  · intro v H1 _ o hoo
    have := hV.eff v H1 o (by simpa using hoo)
    simpa using this
  · intro v H1 hR a w h1 h2
    have q := (hV.behind v H1 hR).2
    have h3 : tl l.length (c + 1 + k) (l.toArray.toList.drop (c + 1 + k)) = l.drop (c + 1 + k) := by
      rw [tl_none (by simp; omega)]
    rw [h3]
    exact q a w (by simpa using h1) h2
  · intro v H1 _
    refine ⟨by simp, ?_, ?_, ?_, ?_, by simp⟩
    · intro i o hoo hl ed he hb
      have hi : i < l.toArray.size := (Array.getElem?_eq_some_iff.1 hoo).1
      have hi2 : i < l.length := by simpa using hi
      simp [hi2] at hl
    · intro j _ hj _
      have hj2 : j < l.length := by simpa using hj
      simp [hj2]
    · intro j hj hl
      have hj2 : j < l.length := by omega
      simp [hj2] at hl
    · intro t _; rfl
  · unfold unl
    have := List.length_filter_le (fun i => !(Array.replicate l.toArray.size false).getD i true) (List.range l.toArray.size)
    simpa using this
/-- An operation whose edges name other places: p is where each stands now. -/
def renO (p : List Nat) (o : Oper) : Oper := ⟨o.dst, o.op, o.type, o.pos, o.after.map fun e => { e with on := p.getD e.on e.on }, o.guard.map fun g => (p.getD g.1 g.1, g.2)⟩
def permOps (t p : List Nat) (l : List Oper) : List Oper := t.map fun i => renO p (l.getD i default)
/-- t and p are a list of places and its inverse. -/
def permOk (t p : List Nat) (m : Nat) : Bool := t.length == m && p.length == m && (List.range m).all fun i => Nat.blt (p.getD i m) m && Nat.blt (t.getD i m) m && t.getD (p.getD i m) m == i && p.getD (t.getD i m) m == i
structure Perm (t p : List Nat) (m : Nat) : Prop where
  lt : t.length = m
  lp : p.length = m
  pl : ∀ i, i < m → p.getD i m < m
  tl : ∀ i, i < m → t.getD i m < m
  tp : ∀ i, i < m → t.getD (p.getD i m) m = i
  pt : ∀ i, i < m → p.getD (t.getD i m) m = i
theorem Perm.of {t p : List Nat} {m : Nat} (h : permOk t p m = true) : Perm t p m := by
  unfold permOk at h
  simp only [Bool.and_eq_true, beq_iff_eq, List.all_eq_true, List.mem_range] at h
  obtain ⟨⟨h1, h2⟩, h3⟩ := h
  refine ⟨h1, h2, fun i hi => ?_, fun i hi => ?_, fun i hi => (h3 i hi).1.2, fun i hi => (h3 i hi).2⟩
  · exact Nat.le_of_ble_eq_true (h3 i hi).1.1.1
  · exact Nat.le_of_ble_eq_true (h3 i hi).1.1.2
theorem getD_in {p : List Nat} {i d d' : Nat} (h : i < p.length) : p.getD i d = p.getD i d' := by
  rw [List.getD_eq_getElem?_getD, List.getD_eq_getElem?_getD, List.getElem?_eq_getElem h]; rfl
theorem getD_out {p : List Nat} {i d : Nat} (h : p.length ≤ i) : p.getD i d = d := by
  rw [List.getD_eq_getElem?_getD, List.getElem?_eq_none h]; rfl
theorem permOps_length (t p : List Nat) (l : List Oper) : (permOps t p l).length = t.length := by simp [permOps]
theorem permOps_get {t p : List Nat} {l : List Oper} (hp : Perm t p l.length) {i : Nat} {o : Oper} (ho : l[i]? = some o) : (permOps t p l)[p.getD i l.length]? = some (renO p o) := by
  have hi : i < l.length := (List.getElem?_eq_some_iff.1 ho).1
  have h1 := hp.pl i hi
  have h2 := hp.tp i hi
  unfold permOps
  rw [List.getElem?_map, List.getElem?_eq_getElem (by rw [hp.lt]; exact h1)]
  have h3 : t[p.getD i l.length]'(by rw [hp.lt]; exact h1) = i := by
    rw [List.getD_eq_getElem?_getD, List.getElem?_eq_getElem (by rw [hp.lt]; exact h1)] at h2; exact h2
  simp only [Option.map_some, h3]
  rw [List.getD_eq_getElem?_getD, ho]; rfl
theorem renO_wp (p : List Nat) (o : Oper) (a : Act) (w : World) (K : Act → World → Prop) (Q : Exit → Act → World → Prop) : (renO p o).wp P a w K Q = o.wp P a w K Q := by cases o; rfl
theorem renO_asks (p : List Nat) (o : Oper) (a : Act) (w : World) : (renO p o).asks P a w = o.asks P a w := by cases o; rfl
/-- What is listed, seen from the places as they were. -/
structure Seen (p : List Nat) (m : Nat) (b b' : Array Bool) : Prop where
  s1 : b.size = m
  s2 : b'.size = m
  at_ : ∀ i, i < m → ∀ d, b.getD i d = b'.getD (p.getD i m) d
theorem Seen.false {p : List Nat} {m : Nat} {b b' : Array Bool} (h : Seen p m b b') (hp : p.length = m) (j : Nat) : b'.getD (p.getD j j) false = b.getD j false := by
  rcases Nat.lt_or_ge j m with h1 | h1
  · rw [h.at_ j h1, getD_in (d := j) (d' := m) (by omega)]
  · rw [getD_out (by omega), Array.getD_eq_getD_getElem?, Array.getD_eq_getD_getElem?, Array.getElem?_eq_none (by rw [h.s2]; exact h1), Array.getElem?_eq_none (by rw [h.s1]; exact h1)]
theorem ready_perm {t p : List Nat} {l : List Oper} (hp : Perm t p l.length) {b b' : Array Bool} (hs : Seen p l.length b b') {i : Nat} (hi : i < l.length) :
    i ∈ Region.ready .any l.toArray b ↔ p.getD i l.length ∈ Region.ready .any (permOps t p l).toArray b' := by
  obtain ⟨o, ho⟩ : ∃ o, l[i]? = some o := ⟨_, List.getElem?_eq_getElem hi⟩
  have ho' := permOps_get hp ho
  have hl : (permOps t p l).length = l.length := by rw [permOps_length, hp.lt]
  have h1 := hp.pl i hi
  simp only [Region.ready, List.mem_filter, List.mem_range, List.size_toArray, List.getElem?_toArray, ho, ho', Option.map_some, Option.getD_some, hl, hi, h1, true_and]
  rw [hs.at_ i hi]
  have e : ((renO p o).after.all fun e => !Region.binds .any e || b'.getD e.on false) = (o.after.all fun e => !Region.binds .any e || b.getD e.on false) := by
    simp only [renO]
    rw [Array.all_map]
    congr 1
    funext e
    simp only [Function.comp]
    rw [hs.false hp.lp]
    rfl
  rw [e]
theorem yielded_perm {t p : List Nat} {l : List Oper} (hp : Perm t p l.length) (s : Array Value) (j : Nat) : yielded (permOps t p l).toArray s (p.getD j j) = yielded l.toArray s j := by
  unfold yielded
  rcases Nat.lt_or_ge j l.length with h | h
  · have ho' := permOps_get hp (List.getElem?_eq_getElem h)
    rw [getD_in (d := j) (d' := l.length) (by rw [hp.lp]; exact h)]
    simp only [List.getElem?_toArray, ho', List.getElem?_eq_getElem h]; rfl
  · rw [getD_out (by rw [hp.lp]; exact h)]
    simp only [List.getElem?_toArray]
    rw [List.getElem?_eq_none (by rw [permOps_length, hp.lt]; exact h), List.getElem?_eq_none h]
theorem wanted_perm {t p : List Nat} {l : List Oper} (hp : Perm t p l.length) (s : Array Value) (o : Oper) : Region.wanted (renO p o) (yielded (permOps t p l).toArray s) = Region.wanted o (yielded l.toArray s) := by
  obtain ⟨d, op, ty, pos, af, g⟩ := o
  cases g with
  | none => rfl
  | some g => simp only [renO, Option.map_some, Region.wanted]; rw [yielded_perm hp]
theorem wpOp_perm {t p : List Nat} {l : List Oper} (hp : Perm t p l.length) {Q : Exit → Act → World → Prop} {i : Nat} (hi : i < l.length) {K : Act → World → Prop} {a : Act} {w : World}
    (h : wpOp P (permOps t p l).toArray Q (p.getD i l.length) K a w) : wpOp P l.toArray Q i K a w := by
  have ho : l[i]? = some l[i] := List.getElem?_eq_getElem hi
  have ho' := permOps_get hp ho
  unfold wpOp at *
  simp only [List.getElem?_toArray, ho, ho'] at h ⊢
  rw [wanted_perm hp, renO_wp, renO_asks] at h
  exact h
theorem Seen.step {t p : List Nat} {m : Nat} (hp : Perm t p m) {b b' : Array Bool} (h : Seen p m b b') {i : Nat} (hi : i < m) : Seen p m (b.setIfInBounds i true) (b'.setIfInBounds (p.getD i m) true) := by
  refine ⟨by simp [h.s1], by simp [h.s2], fun j hj d => ?_⟩
  have h1 := hp.pl i hi
  rw [Array.getD_eq_getD_getElem?, Array.getD_eq_getD_getElem?, Array.getElem?_setIfInBounds, Array.getElem?_setIfInBounds]
  by_cases hij : i = j
  · subst hij; rw [if_pos rfl, if_pos rfl, h.s1, h.s2, if_pos hi, if_pos h1]
  · have hne : p.getD i m ≠ p.getD j m := fun g => hij (by rw [← hp.tp i hi, ← hp.tp j hj, g])
    rw [if_neg hij, if_neg hne, ← Array.getD_eq_getD_getElem?, ← Array.getD_eq_getD_getElem?, h.at_ j hj]
theorem wpAny_perm {t p : List Nat} {l : List Oper} (hp : Perm t p l.length) {Q : Exit → Act → World → Prop} : ∀ (fuel : Nat) (b b' : Array Bool) (a : Act) (w : World), Seen p l.length b b' →
    wpAny P .any (permOps t p l).toArray Q fuel b' a w → wpAny P .any l.toArray Q fuel b a w := by
  have nil : ∀ b b' : Array Bool, Seen p l.length b b' → Region.ready .any l.toArray b = [] → Region.ready .any (permOps t p l).toArray b' = [] := by
    intro b b' hs h
    rw [List.eq_nil_iff_forall_not_mem]
    intro j hj
    have hjl : j < l.length := by
      have := (List.mem_filter.1 hj).1
      rw [List.mem_range, List.size_toArray, permOps_length, hp.lt] at this; exact this
    have := (ready_perm hp hs (hp.tl j hjl)).2 (by rw [hp.pt j hjl]; exact hj)
    rw [h] at this; cases this
  have nil2 : ∀ b b' : Array Bool, Seen p l.length b b' → Region.ready .any (permOps t p l).toArray b' = [] → Region.ready .any l.toArray b = [] := by
    intro b b' hs h
    rw [List.eq_nil_iff_forall_not_mem]
    intro i hi
    have hil : i < l.length := by
      have := (List.mem_filter.1 hi).1
      rw [List.mem_range, List.size_toArray] at this; exact this
    have := (ready_perm hp hs hil).1 hi
    rw [h] at this; cases this
  intro fuel
  induction fuel with
  | zero => intro b b' a w hs h; exact ⟨nil2 b b' hs h.1, h.2⟩
  | succ fuel ih =>
    intro b b' a w hs h
    refine ⟨fun g => h.1 (nil b b' hs g), fun i hi => ?_⟩
    have hil : i < l.length := by
      have := (List.mem_filter.1 hi).1
      rw [List.mem_range, List.size_toArray] at this; exact this
    exact wpOp_mono (fun a w hk => ih _ _ a w (hs.step hp hil) hk) (wpOp_perm hp hil (h.2 _ ((ready_perm hp hs hil).1 hi)))
/-- A drawn region with one effect among the first, its operations in another order. -/
theorem AW.drawP {id : Nat} {l : List Oper} {Q : Post} {e : Env} (t p : List Nat) (c k : Nat) (hm : P.follows .mixedOrders = true) (hp : permOk t p l.length = true) (hok : drawOk (permOps t p l).toArray [] (c + 1 + k) (permOps t p l).length = true)
    (hall : ((List.range (c + 1 + k)).all fun i => Nat.ble i c || reach (permOps t p l).toArray 16 i c) = true) (h : ∀ l', l' = permOps t p l → SeqD P w0 n l'.toArray Q H c k 0 c l' e (fun _ => True)) : AW P w0 n (.region id l.toArray true) Q e H := by
  obtain ⟨R, _, h2⟩ := SeqD.seqR _ _ _ _ _ (h _ rfl)
  have h3 := drawR_any c k hm hok hall h2
  intro a w hf ho
  refine wp_region_any hm ?_
  have hP := Perm.of hp
  have hl : (permOps t p l).length = l.length := by rw [permOps_length, hP.lt]
  have h4 := h3 a w hf ho
  simp only [List.size_toArray] at h4 ⊢
  rw [hl] at h4
  refine wpAny_perm hP _ _ _ _ _ ⟨by simp, by simp, fun i hi d => ?_⟩ h4
  have h5 := hP.pl i hi
  rw [Array.getD_eq_getD_getElem?, Array.getD_eq_getD_getElem?, Array.getElem?_replicate, Array.getElem?_replicate, if_pos hi, if_pos h5]
theorem src_rdw {v : Value} {g : List Value} (h : RdW w0 H v g) (h1 : ∀ u ∈ g, u.oneCell' = true) : Src P w0 H 1 v g.length g := by
  obtain ⟨a, c, rfl, _, h3⟩ := h
  refine ⟨by simp, h1, fun w hw => ⟨rfl, fun k hk => ?_⟩⟩
  rcases a with _ | ad
  · have hg : g = [] := by
      rcases g with _ | ⟨u, g⟩
      · rfl
      · obtain ⟨_, e, _⟩ := h3 0 u rfl; cases e
    subst hg
    obtain rfl : k = 0 := by simpa using hk
    simp [Builtin.firstCells]
  · have := run_loadCells_list (P := P) w ad (g.take (k * 1)) (fun i u hi => by
      rw [List.getElem?_take] at hi
      split at hi
      · obtain ⟨ad', e, e2⟩ := h3 i u hi; cases e; exact e2 w hw
      · cases hi)
    rw [show (g.take (k * 1)).length = k * 1 from by rw [List.length_take]; omega] at this
    simpa [Builtin.firstCells] using this
end Go.Proofs.Ytfiojlmccflplaa.D
