/-
  A walk's rules: a drawn region with one operation whose yield is known by a relation alone. No condition.
-/
import Derived.Test.YtfiojlmccflplaaD9
namespace Go.Proofs.Ytfiojlmccflplaa.D
open Go Go.RowKit
set_option linter.unusedVariables false
set_option linter.unusedSimpArgs false
section
variable {P : Program} {w0 : World} {n : Nat} {H : Hp}
theorem wpAny_drawR {ops : Array Oper} {F : List Nat} {k f c : Nat} (hok : DrawOk ops F k f) (hck : c < k) {R : Value → Hp → Prop} {vals : Value → Hp → Nat → Value} {e0 : Env}
    (hv : ∀ v H1 v' H1' i, i < k → i ≠ c → reach ops 16 i c = false → vals v H1 i = vals v' H1' i) (hvc : ∀ v H1, vals v H1 c = v)
    (hq : ∀ v H1, R v H1 → ∀ i o, i < k → i ≠ c → ops[i]? = some o → (reach ops 16 i c = false → QG P w0 n ops H (envAt ops.toList (vals v H1) e0 i) o (vals v H1 i)) ∧ (reach ops 16 c i = false → QG P w0 n ops H1 (envAt ops.toList (vals v H1) e0 i) o (vals v H1 i)))
    (hc : ∀ v H1, R v H1 → ∀ o, ops[c]? = some o → dstOk n o.dst = true ∧ Region.wanted o (yieldE ops (envAt ops.toList (vals v H1) e0 c)) = true ∧ OpR P w0 (ev (envAt ops.toList (vals v H1) e0 c)) o H R)
    {Q : Exit → Act → World → Prop}
    (hK : ∀ v H1, R v H1 → ∀ a w, Fr n (envAt ops.toList (vals v H1) e0 k) a → Own w0 H1 w → wpList P ops Q (tl f k (ops.toList.drop k)) a w) :
    ∀ (fuel : Nat) (listed : Array Bool) (e : Env) (a : Act) (w : World), listed.getD c false = false → (∀ v H1, R v H1 → Inv ops F k f (vals v H1) e0 listed e) → (∃ v H1, R v H1) → listed.getD f true = true → Fr n e a → Own w0 H w → (unl ops listed).length ≤ fuel →
      wpAny P .any ops Q fuel listed a w := by
  intro fuel
  have hle := hok.le
  induction fuel with
  | zero =>
    intro listed e a w hcl hi hne hlf hf ho hfu
    obtain ⟨v0, H10, hR0⟩ := hne
    have hsz := (hi v0 H10 hR0).size
    have hnil : unl ops listed = [] := List.eq_nil_of_length_eq_zero (by omega)
    have hcu : listed.getD c true = false := by
      simp only [Array.getD_eq_getD_getElem?] at hcl ⊢
      have : c < listed.size := by omega
      simpa [this] using hcl
    have : c ∈ unl ops listed := by simp only [unl, List.mem_filter, List.mem_range, hcu]; exact ⟨by omega, rfl⟩
    rw [hnil] at this; cases this
  | succ fuel ih =>
    intro listed e a w hcl hi hne hlf hf ho hfu
    obtain ⟨v0, H10, hR0⟩ := hne
    have hi0 := hi v0 H10 hR0
    have hsz0 := hi0.size
    have hcu : listed.getD c true = false := by
      simp only [Array.getD_eq_getD_getElem?] at hcl ⊢
      have : c < listed.size := by omega
      simpa [this] using hcl
    have hleast : ∃ j, j < k ∧ listed.getD j true = false ∧ ∀ m, m < j → listed.getD m true = true := by
      have : ∃ j, j < k ∧ listed.getD j true = false := ⟨c, hck, hcu⟩
      obtain ⟨j, hj, hl⟩ := this
      induction j using Nat.strongRecOn with
      | _ j ihj =>
        by_cases hm : ∃ m, m < j ∧ listed.getD m true = false
        · obtain ⟨m, hm1, hm2⟩ := hm
          exact ihj m hm1 (by omega) hm2
        · refine ⟨j, hj, hl, fun m hmj => ?_⟩
          cases hl' : listed.getD m true with
          | true => rfl
          | false => exact (hm ⟨m, hmj, hl'⟩).elim
    have todf : ∀ m, m < ops.size → listed.getD m true = true → listed.getD m false = true := by
      intro m hm h3
      simp only [Array.getD_eq_getD_getElem?] at h3 ⊢
      have : m < listed.size := by rw [hsz0]; exact hm
      simpa [this] using h3
    refine ⟨fun hnil => ?_, fun i hir => ?_⟩
    · obtain ⟨j, hj, hl, hm⟩ := hleast
      have : j ∈ Region.ready .any ops listed := by
        refine mem_ready.2 ⟨by omega, hl, ?_⟩
        intro o hoo ed he hb
        have hb := hok.back j o hoo ed he hb
        exact todf _ (by omega) (hm _ hb)
      rw [hnil] at this; cases this
    · obtain ⟨hi1, hi2, hi3⟩ := mem_ready.1 hir
      have hik : i < k := by
        rcases Nat.lt_or_ge i k with h | h
        · exact h
        · obtain ⟨j, hj, hl, _⟩ := hleast
          have hif : i ≠ f := fun e => by rw [e, hlf] at hi2; cases hi2
          have hjf : j ≠ f := fun e => by rw [e, hlf] at hl; cases hl
          have := hi0.shut.reach 16 i j hi3 (((hok.tail i j h hi1 hif (by omega)).resolve_left hjf).resolve_left fun hF => by have := hi0.fl j hF; rw [hl] at this; cases this)
          have := getD_true this
          rw [hl] at this; cases this
      have hoi : ops[i]? = some ops[i] := Array.getElem?_eq_getElem hi1
      have hsz : i < listed.size := by rw [hsz0]; exact hi1
      have hlf' : (listed.setIfInBounds i true).getD f true = true := by
        rw [getD_set hsz]; split
        · rfl
        · exact hlf
      by_cases hic : i = c
      · subst hic
        obtain ⟨hd, hw, hr⟩ := hc v0 H10 hR0 _ hoi
        obtain ⟨g1, g2⟩ := looks_congr hoi (hok.sel i _ hoi) (hi0.sees hok hi1 hik hi3)
        have hr' : OpR P w0 (ev e) ops[i] H R := by
          unfold OpR at *
          rw [← g2]; exact hr
        unfold wpOp
        simp only [hoi]
        rw [wanted_congr _ (hf.yielded ops), ← g1, if_pos hw]
        exact .inl (Res.wp (ops := ops) (Q := fun _ _ _ => False) hf ho hr' fun v H' w' hrv ho' => by
          have hst := (hi v H' hrv).step hok hi1 hik hi3
          rw [hvc] at hst
          refine wpAny_draw (H := H') (H1 := H') (c := i) (C := False) hok (.inl hik) (fun j o h1 h2 h3 => ⟨fun hF => hF.elim, fun _ hre => (hq v H' hrv j o h1 h2 h3).2 hre⟩) (fun hF => hF.elim) ?_ fuel _ _ _ w' hst hlf' (fun h => by rw [getDf_set hsz, if_pos rfl] at h; cases h) (hf.put hd _) ?_ (by have := unl_set hi1 hsz0 hi2; omega)
          · intro a w h1 h2
            have hb : Nat.blt i k = true := by simpa [Nat.blt, Nat.succ_le_iff] using hik
            rw [hb] at h2
            exact hK v H' hrv a w h1 h2
          · have : hpAt H' H' i (listed.setIfInBounds i true) = H' := by unfold hpAt; cases (listed.setIfInBounds i true).getD i false <;> rfl
            rw [this]; exact ho')
      · have hre : reach ops 16 i c = false := by
          cases hre : reach ops 16 i c with
          | false => rfl
          | true => have := hi0.shut.reach 16 i c hi3 hre; rw [hcl] at this; cases this
        have hqe := ((hq v0 H10 hR0 i _ hik hic hoi).1 hre).congr hoi (hok.sel i _ hoi) (hi0.sees hok hi1 hik hi3)
        have hcl' : (listed.setIfInBounds i true).getD c false = false := by rw [getDf_set hsz, if_neg (Ne.symm hic)]; exact hcl
        have next : ∀ a' w', Fr n (putE e ops[i].dst (vals v0 H10 i)) a' → Own w0 H w' → wpAny P .any ops Q fuel (listed.setIfInBounds i true) a' w' := fun a' w' hf' ho' =>
          ih _ _ a' w' hcl' (fun v H1 hR => by rw [hv v0 H10 v H1 i hik hic hre]; exact (hi v H1 hR).step hok hi1 hik hi3) ⟨v0, H10, hR0⟩ hlf' hf' ho' (by have := unl_set hi1 hsz0 hi2; omega)
        unfold wpOp
        simp only [hoi]
        rw [wanted_congr _ (hf.yielded ops)]
        obtain ⟨hd, hqq⟩ := hqe
        rcases hqq with ⟨hw, hs⟩ | ⟨hw, hvv⟩
        · rw [if_pos hw]
          exact .inl (Res.wp (ops := ops) (Q := fun _ _ _ => False) hf ho hs fun v H' w' hr ho' => by
            obtain ⟨rfl, rfl⟩ := hr
            exact next _ _ (hf.put hd _) ho')
        · rw [if_neg (by simp [hw]), ← hvv]
          exact next _ _ (hf.put hd _) ho
/-- Behind the effect: all wait for it. -/
def SeqR2 (P : Program) (w0 : World) (n : Nat) (ops : Array Oper) (Q : Post) (H1 : Hp) : Nat → List Oper → Env → Prop
  | 0, l, e => OpsW P w0 n ops Q l e H1
  | k + 1, o :: l, e => ∃ v, QG P w0 n ops H1 e o v ∧ SeqR2 P w0 n ops Q H1 k l (putE e o.dst v)
  | _ + 1, [], _ => False
/-- c operations ahead of the effect, the effect itself, k behind it, then the tail. -/
def SeqR (P : Program) (w0 : World) (n : Nat) (ops : Array Oper) (Q : Post) (H : Hp) (R : Value → Hp → Prop) (c0 k : Nat) : Nat → Nat → List Oper → Env → Prop
  | _, 0, o :: l, e => dstOk n o.dst = true ∧ Region.wanted o (yieldE ops e) = true ∧ OpR P w0 (ev e) o H R ∧ ∀ v H1, R v H1 → SeqR2 P w0 n ops Q H1 k l (putE e o.dst v)
  | i, c + 1, o :: l, e => ∃ v, QG P w0 n ops H e o v ∧ (reach ops 16 c0 i = false → ∀ u H1, R u H1 → QG P w0 n ops H1 e o v) ∧ SeqR P w0 n ops Q H R c0 k (i + 1) c l (putE e o.dst v)
  | _, _, [], _ => False
theorem SeqR2.vals {ops : Array Oper} {Q : Post} {H1 : Hp} : ∀ (k : Nat) (l : List Oper) (e : Env), SeqR2 P w0 n ops Q H1 k l e →
    ∃ vals : Nat → Value, (∀ j o, j < k → l[j]? = some o → QG P w0 n ops H1 (envAt l vals e j) o (vals j)) ∧ OpsW P w0 n ops Q (l.drop k) (envAt l vals e k) H1 := by
  intro k
  induction k with
  | zero => intro l e h; exact ⟨fun _ => undef, fun j o hj => by omega, by simpa [envAt, SeqR2] using h⟩
  | succ k ih =>
    intro l e h
    cases l with
    | nil => exact h.elim
    | cons o l =>
      obtain ⟨v, h1, h2⟩ := h
      obtain ⟨vals, h3, h4⟩ := ih l _ h2
      refine ⟨fun j => match j with | 0 => v | j + 1 => vals j, ?_, ?_⟩
      · intro j o' hj ho
        cases j with
        | zero => simp at ho; subst ho; exact h1
        | succ j =>
          simp at ho
          rw [envAt_shift]
          exact h3 j o' (by omega) ho
      · rw [envAt_shift]; simpa using h4
structure ValsR (P : Program) (w0 : World) (n : Nat) (ops : Array Oper) (Q : Post) (H : Hp) (R : Value → Hp → Prop) (c0 k i c : Nat) (l : List Oper) (e : Env) (vals : Value → Hp → Nat → Value) : Prop where
  lt : c < l.length
  same : ∀ v H1 v' H1' j, j < c → vals v H1 j = vals v' H1' j
  at' : ∀ v H1, vals v H1 c = v
  ahead : ∀ v H1 j o, j < c → l[j]? = some o → QG P w0 n ops H (envAt l (vals v H1) e j) o (vals v H1 j) ∧ (reach ops 16 c0 (i + j) = false → ∀ u H2, R u H2 → QG P w0 n ops H2 (envAt l (vals v H1) e j) o (vals v H1 j))
  eff : ∀ v H1 o, l[c]? = some o → dstOk n o.dst = true ∧ Region.wanted o (yieldE ops (envAt l (vals v H1) e c)) = true ∧ OpR P w0 (ev (envAt l (vals v H1) e c)) o H R
  behind : ∀ v H1, R v H1 → (∀ j o, c < j → j < c + 1 + k → l[j]? = some o → QG P w0 n ops H1 (envAt l (vals v H1) e j) o (vals v H1 j)) ∧ OpsW P w0 n ops Q (l.drop (c + 1 + k)) (envAt l (vals v H1) e (c + 1 + k)) H1
theorem SeqR.vals {ops : Array Oper} {Q : Post} {R : Value → Hp → Prop} {c0 k : Nat} : ∀ (c i : Nat) (l : List Oper) (e : Env), SeqR P w0 n ops Q H R c0 k i c l e → ∃ vals, ValsR P w0 n ops Q H R c0 k i c l e vals := by
  intro c
  induction c with
  | zero =>
    intro i l e h
    cases l with
    | nil => exact h.elim
    | cons o l =>
      obtain ⟨h1, h2, h3, h4⟩ := h
      have hch : ∀ v H1, ∃ vs : Nat → Value, R v H1 → (∀ j o', j < k → l[j]? = some o' → QG P w0 n ops H1 (envAt l vs (putE e o.dst v) j) o' (vs j)) ∧ OpsW P w0 n ops Q (l.drop k) (envAt l vs (putE e o.dst v) k) H1 := by
        intro v H1
        by_cases hR : R v H1
        · obtain ⟨vs, q1, q2⟩ := SeqR2.vals k l _ (h4 v H1 hR)
          exact ⟨vs, fun _ => ⟨q1, q2⟩⟩
        · exact ⟨fun _ => undef, fun h => absurd h hR⟩
      refine ⟨fun v H1 j => match j with | 0 => v | j + 1 => Classical.choose (hch v H1) j, by simp, fun _ _ _ _ j hj => by omega, fun _ _ => rfl, fun _ _ j _ hj => by omega, ?_, ?_⟩
      · intro v H1 o' ho
        simp at ho
        subst ho
        exact ⟨h1, h2, h3⟩
      · intro v H1 hR
        obtain ⟨q1, q2⟩ := Classical.choose_spec (hch v H1) hR
        refine ⟨?_, ?_⟩
        · intro j o' hj hj2 ho
          obtain ⟨j', rfl⟩ : ∃ j', j = j' + 1 := ⟨j - 1, by omega⟩
          simp at ho
          rw [envAt_shift]
          exact q1 j' o' (by omega) ho
        · rw [show 0 + 1 + k = k + 1 from by omega, envAt_shift]
          simpa using q2
  | succ c ih =>
    intro i l e h
    cases l with
    | nil => exact h.elim
    | cons o l =>
      obtain ⟨v0, h1, h2, h3⟩ := h
      obtain ⟨vals, hV⟩ := ih (i + 1) l _ h3
      refine ⟨fun v H1 j => match j with | 0 => v0 | j + 1 => vals v H1 j, ?_, ?_, ?_, ?_, ?_, ?_⟩
      · have := hV.lt; simp; omega
      · intro v H1 v' H1' j hj
        cases j with
        | zero => rfl
        | succ j => exact hV.same v H1 v' H1' j (by omega)
      · exact fun v H1 => hV.at' v H1
      · intro v H1 j o' hj ho
        cases j with
        | zero => simp at ho; subst ho; exact ⟨h1, h2⟩
        | succ j =>
          simp at ho
          rw [envAt_shift]
          have := hV.ahead v H1 j o' (by omega) ho
          rw [show i + 1 + j = i + (j + 1) from by omega] at this
          exact this
      · intro v H1 o' ho
        simp at ho
        rw [envAt_shift]
        exact hV.eff v H1 o' ho
      · intro v H1 hR
        obtain ⟨q1, q2⟩ := hV.behind v H1 hR
        refine ⟨?_, ?_⟩
        · intro j o' hj hj2 ho
          obtain ⟨j', rfl⟩ : ∃ j', j = j' + 1 := ⟨j - 1, by omega⟩
          simp at ho
          rw [envAt_shift]
          exact q1 j' o' (by omega) (by omega) ho
        · rw [show c + 1 + 1 + k = (c + 1 + k) + 1 from by omega, envAt_shift]
          simpa using q2
theorem AW.drawR {id : Nat} {l : List Oper} {Q : Post} {e : Env} (c k : Nat) {R : Value → Hp → Prop} (hm : P.follows .mixedOrders = true) (hok : drawOk l.toArray [] (c + 1 + k) l.length = true)
    (hall : ((List.range (c + 1 + k)).all fun i => Nat.ble i c || reach l.toArray 16 i c) = true) (h : SeqR P w0 n l.toArray Q H R c k 0 c l e) : AW P w0 n (.region id l.toArray true) Q e H := by
  obtain ⟨vals, hV⟩ := SeqR.vals c 0 l e h
  have hok' := DrawOk.of hok
  have hk : c + 1 + k ≤ l.length := by simpa using hok'.le
  have hdep : ∀ i, c < i → i < c + 1 + k → reach l.toArray 16 i c = true := by
    intro i h1 h2
    have := (List.all_eq_true.1 hall) i (by simpa using h2)
    simp only [Bool.or_eq_true] at this
    rcases this with h3 | h3
    · have := Nat.le_of_ble_eq_true h3; omega
    · exact h3
  intro a w hf ho
  refine wp_region_any hm ?_
  have hcl : l[c]? = some l[c] := List.getElem?_eq_getElem hV.lt
  have hne : ∃ v H1, R v H1 := by
    obtain ⟨_, _, hr⟩ := hV.eff undef H _ hcl
    have h1 := hr w ho
    generalize (execOp (ev (envAt l (vals undef H) e c)) l[c]).run P w = q at h1
    cases q with
    | halt => exact h1.elim
    | ok nx w' =>
      cases nx <;> simp only [Res] at h1
      case value v => obtain ⟨H', _, h3⟩ := h1; exact ⟨v, H', h3⟩
      case skip => obtain ⟨H', _, h3⟩ := h1; exact ⟨undef, H', h3⟩
      case enter f args => obtain ⟨x, w2, fr, ⟨v, H', _, _, h3⟩, _⟩ := h1 []; exact ⟨v, H', h3⟩
  have hfl : Nat.blt l.length l.length = false := by
    cases hh : Nat.blt l.length l.length with
    | false => rfl
    | true => exfalso; simp [Nat.blt] at hh; omega
  refine wpAny_drawR (F := []) (k := c + 1 + k) (f := l.length) (c := c) hok' (by omega) (R := R) (vals := vals) (e0 := e) (H := H) ?_ hV.at' ?_ ?_ ?_ _ _ e a _ (by rw [Array.getD_eq_getD_getElem?, Array.getElem?_replicate]; split <;> rfl) ?_ hne (by rw [Array.getD_eq_getD_getElem?, Array.getElem?_eq_none (by simp)]; rfl) hf ho.drew ?_
  · intro v H1 v' H1' i hi hic hre
    by_cases hlt : i < c
    · exact hV.same v H1 v' H1' i hlt
    · rw [hdep i (by omega) hi] at hre; cases hre
  · intro v H1 hR i o hi hic hoo
    have hoo' : l[i]? = some o := by simpa using hoo
    by_cases hlt : i < c
    · obtain ⟨q1, q2⟩ := hV.ahead v H1 i o hlt hoo'
      rw [Nat.zero_add] at q2
      exact ⟨fun _ => by simpa using q1, fun hre => by simpa using q2 hre v H1 hR⟩
    · have q := (hV.behind v H1 hR).1 i o (by omega) hi hoo'
      exact ⟨(fun hre => by rw [hdep i (by omega) hi] at hre; cases hre), fun _ => by simpa using q⟩
  · intro v H1 _ o hoo
    have := hV.eff v H1 o (by simpa using hoo)
    simpa using this
  · intro v H1 hR a w h1 h2
    have q := (hV.behind v H1 hR).2
    have h3 : tl l.length (c + 1 + k) (l.toArray.toList.drop (c + 1 + k)) = l.drop (c + 1 + k) := by
      rw [tl_none (by simp; omega)]
    rw [h3]
    exact q a w (by simpa using h1) h2
  · intro v H1 _
    refine ⟨by simp, ?_, ?_, ?_, ?_, by simp⟩
    · intro i o hoo hl ed he hb
      have hi : i < l.toArray.size := (Array.getElem?_eq_some_iff.1 hoo).1
      have hi2 : i < l.length := by simpa using hi
      simp [hi2] at hl
    · intro j _ hj _
      have hj2 : j < l.length := by simpa using hj
      simp [hj2]
    · intro j hj hl
      have hj2 : j < l.length := by omega
      simp [hj2] at hl
    · intro t _; rfl
  · unfold unl
    have := List.length_filter_le (fun i => !(Array.replicate l.toArray.size false).getD i true) (List.range l.toArray.size)
    simpa using this
section
variable {ops : Array Oper} {Q : Post} {e : Env} {R : Value → Hp → Prop} {c0 c k i : Nat} {t : Tmp} {op : Op} {ty : TypeId} {pos : String} {af : Array Edge} {l : List Oper} {v : Value} {H1 : Hp}
theorem SeqR2.done (h : OpsW P w0 n ops Q l e H1) : SeqR2 P w0 n ops Q H1 0 l e := h
theorem SeqR2.q (hd : Nat.blt t n = true) (h : QS P w0 (ev e) ⟨some t, op, ty, pos, af, none⟩ H1 v) (hk : SeqR2 P w0 n ops Q H1 k l (upd e t v)) : SeqR2 P w0 n ops Q H1 (k + 1) (⟨some t, op, ty, pos, af, none⟩ :: l) e := ⟨v, ⟨dst_lt hd, .inl ⟨rfl, h⟩⟩, hk⟩
theorem SeqR.b (hr : reach ops 16 c0 i = true) (hd : Nat.blt t n = true) (h : QS P w0 (ev e) ⟨some t, op, ty, pos, af, none⟩ H v) (hk : SeqR P w0 n ops Q H R c0 k (i + 1) c l (upd e t v)) :
    SeqR P w0 n ops Q H R c0 k i (c + 1) (⟨some t, op, ty, pos, af, none⟩ :: l) e := ⟨v, ⟨dst_lt hd, .inl ⟨rfl, h⟩⟩, (fun h => by rw [hr] at h; cases h), hk⟩
theorem SeqR.q (hd : Nat.blt t n = true) (h : QS P w0 (ev e) ⟨some t, op, ty, pos, af, none⟩ H v) (h1 : ∀ u H1, R u H1 → QS P w0 (ev e) ⟨some t, op, ty, pos, af, none⟩ H1 v) (hk : SeqR P w0 n ops Q H R c0 k (i + 1) c l (upd e t v)) :
    SeqR P w0 n ops Q H R c0 k i (c + 1) (⟨some t, op, ty, pos, af, none⟩ :: l) e := ⟨v, ⟨dst_lt hd, .inl ⟨rfl, h⟩⟩, fun _ u H1 hu => ⟨dst_lt hd, .inl ⟨rfl, h1 u H1 hu⟩⟩, hk⟩
theorem SeqR.x (hd : Nat.blt t n = true) (h : OpR P w0 (ev e) ⟨some t, op, ty, pos, af, none⟩ H R) (hk : ∀ v H1, R v H1 → SeqR2 P w0 n ops Q H1 k l (upd e t v)) :
    SeqR P w0 n ops Q H R c0 k i 0 (⟨some t, op, ty, pos, af, none⟩ :: l) e := ⟨dst_lt hd, rfl, h, hk⟩
end
/-- Likewise; what is owed behind the effect is kept in D. -/
def SeqD (P : Program) (w0 : World) (n : Nat) (ops : Array Oper) (Q : Post) (H : Hp) (c0 k : Nat) : Nat → Nat → List Oper → Env → (Hp → Prop) → Prop
  | _, 0, o :: l, e, D => dstOk n o.dst = true ∧ Region.wanted o (yieldE ops e) = true ∧ ∃ R : Value → Hp → Prop, OpR P w0 (ev e) o H R ∧ ∀ v H1, R v H1 → D H1 ∧ SeqR2 P w0 n ops Q H1 k l (putE e o.dst v)
  | i, c + 1, o :: l, e, D => ∃ v, QG P w0 n ops H e o v ∧ SeqD P w0 n ops Q H c0 k (i + 1) c l (putE e o.dst v) (fun H1 => D H1 ∧ (reach ops 16 c0 i = false → QG P w0 n ops H1 e o v))
  | _, _, [], _, _ => False
theorem SeqD.mono {ops : Array Oper} {Q : Post} {c0 k : Nat} : ∀ (c i : Nat) (l : List Oper) (e : Env) (D D' : Hp → Prop), (∀ H1, D H1 → D' H1) → SeqD P w0 n ops Q H c0 k i c l e D → SeqD P w0 n ops Q H c0 k i c l e D' := by
  intro c
  induction c with
  | zero =>
    intro i l e D D' hD h
    cases l with
    | nil => exact h.elim
    | cons o l => obtain ⟨h1, h2, R, h3, h4⟩ := h; exact ⟨h1, h2, R, h3, fun v H1 hR => ⟨hD _ (h4 v H1 hR).1, (h4 v H1 hR).2⟩⟩
  | succ c ih =>
    intro i l e D D' hD h
    cases l with
    | nil => exact h.elim
    | cons o l => obtain ⟨v, h1, h2⟩ := h; exact ⟨v, h1, ih _ _ _ _ _ (fun H1 h => ⟨hD _ h.1, h.2⟩) h2⟩
theorem SeqD.seqR {ops : Array Oper} {Q : Post} {c0 k : Nat} : ∀ (c i : Nat) (l : List Oper) (e : Env) (D : Hp → Prop), SeqD P w0 n ops Q H c0 k i c l e D → ∃ R : Value → Hp → Prop, (∀ v H1, R v H1 → D H1) ∧ SeqR P w0 n ops Q H R c0 k i c l e := by
  intro c
  induction c with
  | zero =>
    intro i l e D h
    cases l with
    | nil => exact h.elim
    | cons o l => obtain ⟨h1, h2, R, h3, h4⟩ := h; exact ⟨R, fun v H1 hR => (h4 v H1 hR).1, h1, h2, h3, fun v H1 hR => (h4 v H1 hR).2⟩
  | succ c ih =>
    intro i l e D h
    cases l with
    | nil => exact h.elim
    | cons o l =>
      obtain ⟨v, h1, h2⟩ := h
      obtain ⟨R, h3, h4⟩ := ih _ _ _ _ h2
      exact ⟨R, fun v H1 hR => (h3 v H1 hR).1, v, h1, fun hr u H1 hR => (h3 u H1 hR).2 hr, h4⟩
theorem AW.drawD {id : Nat} {l : List Oper} {Q : Post} {e : Env} (c k : Nat) (hm : P.follows .mixedOrders = true) (hok : drawOk l.toArray [] (c + 1 + k) l.length = true)
    (hall : ((List.range (c + 1 + k)).all fun i => Nat.ble i c || reach l.toArray 16 i c) = true) (h : SeqD P w0 n l.toArray Q H c k 0 c l e (fun _ => True)) : AW P w0 n (.region id l.toArray true) Q e H := by
  obtain ⟨R, _, h2⟩ := SeqD.seqR _ _ _ _ _ h
  exact AW.drawR c k hm hok hall h2
section
variable {ops : Array Oper} {Q : Post} {e : Env} {R : Value → Hp → Prop} {c0 c k i : Nat} {t : Tmp} {op : Op} {ty : TypeId} {pos : String} {af : Array Edge} {l : List Oper} {v : Value} {H1 : Hp} {D : Hp → Prop}
theorem SeqD.b (hr : reach ops 16 c0 i = true) (hd : Nat.blt t n = true) (h : QS P w0 (ev e) ⟨some t, op, ty, pos, af, none⟩ H v) (hk : SeqD P w0 n ops Q H c0 k (i + 1) c l (upd e t v) D) :
    SeqD P w0 n ops Q H c0 k i (c + 1) (⟨some t, op, ty, pos, af, none⟩ :: l) e D := ⟨v, ⟨dst_lt hd, .inl ⟨rfl, h⟩⟩, SeqD.mono _ _ _ _ _ _ (fun H1 hD => ⟨hD, fun h => by rw [hr] at h; cases h⟩) hk⟩
theorem SeqD.q (hd : Nat.blt t n = true) (h : QS P w0 (ev e) ⟨some t, op, ty, pos, af, none⟩ H v) (hk : SeqD P w0 n ops Q H c0 k (i + 1) c l (upd e t v) (fun H1 => D H1 ∧ QS P w0 (ev e) ⟨some t, op, ty, pos, af, none⟩ H1 v)) :
    SeqD P w0 n ops Q H c0 k i (c + 1) (⟨some t, op, ty, pos, af, none⟩ :: l) e D := ⟨v, ⟨dst_lt hd, .inl ⟨rfl, h⟩⟩, SeqD.mono _ _ _ _ _ _ (fun H1 hD => ⟨hD.1, fun _ => ⟨dst_lt hd, .inl ⟨rfl, hD.2⟩⟩⟩) hk⟩
theorem SeqD.a (hd : Nat.blt t n = true) (h : ∀ H, QS P w0 (ev e) ⟨some t, op, ty, pos, af, none⟩ H v) (hk : SeqD P w0 n ops Q H c0 k (i + 1) c l (upd e t v) D) :
    SeqD P w0 n ops Q H c0 k i (c + 1) (⟨some t, op, ty, pos, af, none⟩ :: l) e D := ⟨v, ⟨dst_lt hd, .inl ⟨rfl, h H⟩⟩, SeqD.mono _ _ _ _ _ _ (fun H1 hD => ⟨hD, fun _ => ⟨dst_lt hd, .inl ⟨rfl, h H1⟩⟩⟩) hk⟩
theorem SeqD.x (hd : Nat.blt t n = true) (h : OpR P w0 (ev e) ⟨some t, op, ty, pos, af, none⟩ H R) (hk : ∀ v H1, R v H1 → D H1 ∧ SeqR2 P w0 n ops Q H1 k l (upd e t v)) :
    SeqD P w0 n ops Q H c0 k i 0 (⟨some t, op, ty, pos, af, none⟩ :: l) e D := ⟨dst_lt hd, rfl, R, h, hk⟩
end
end
end Go.Proofs.Ytfiojlmccflplaa.D
