/-
  A walk's rules: regions that draw their order: the theorem. No condition.
-/
import Derived.Test.YtfiojlmccflplaaD3
namespace Go.Proofs.Ytfiojlmccflplaa.D
open Go Go.RowKit
set_option linter.unusedVariables false
set_option linter.unusedSimpArgs false
section
variable {P : Program} {w0 : World} {n : Nat} {H : Hp}

theorem upd_same (e : Env) (t : Nat) (v : Value) : upd e t v t = v := by simp [upd]
theorem upd_ne (e : Env) {t u : Nat} (v : Value) (h : u ≠ t) : upd e t v u = e u := by simp [upd, h]
theorem putE_some (e : Env) (t : Nat) (v : Value) : putE e (some t) v t = v := upd_same ..
theorem putE_ne (e : Env) {d : Option Tmp} {u : Nat} (v : Value) (h : d ≠ some u) : putE e d v u = e u := by
  cases d with
  | none => rfl
  | some t => exact upd_ne e v (fun x => h (x ▸ rfl))

theorem envAt_not {l : List Oper} {vals : Nat → Value} {e : Env} {t : Nat} : ∀ i, (∀ j, j < i → (l[j]?).bind (·.dst) ≠ some t) → envAt l vals e i t = e t := by
  intro i
  induction i with
  | zero => intro _; rfl
  | succ i ih => intro h; rw [envAt, putE_ne _ _ (h i (by omega))]; exact ih fun j hj => h j (by omega)
theorem envAt_got {l : List Oper} {vals : Nat → Value} {e : Env} {t : Nat} {j : Nat} (hj : (l[j]?).bind (·.dst) = some t) : ∀ i, j < i → (∀ m, j < m → m < i → (l[m]?).bind (·.dst) ≠ some t) → envAt l vals e i t = vals j := by
  intro i
  induction i with
  | zero => intro h; omega
  | succ i ih =>
    intro h hm
    by_cases e : j = i
    · subst e; rw [envAt, hj, putE_some]
    · rw [envAt, putE_ne _ _ (hm i (by omega) (by omega))]
      exact ih (by omega) fun m h1 h2 => hm m h1 (by omega)

def unl (ops : Array Oper) (listed : Array Bool) : List Nat := (List.range ops.size).filter fun i => !listed.getD i true
theorem getD_set {listed : Array Bool} {i j : Nat} (hi : i < listed.size) : (listed.setIfInBounds i true).getD j true = (if j = i then true else listed.getD j true) := by
  by_cases h : j = i
  · subst h; simp [hi]
  · rw [if_neg h]; simp [Array.getElem?_setIfInBounds_ne (Ne.symm h)]
theorem getDf_set {listed : Array Bool} {i j : Nat} (hi : i < listed.size) : (listed.setIfInBounds i true).getD j false = (if j = i then true else listed.getD j false) := by
  by_cases h : j = i
  · subst h; simp [hi]
  · rw [if_neg h]; simp [Array.getElem?_setIfInBounds_ne (Ne.symm h)]
theorem unl_set {ops : Array Oper} {listed : Array Bool} {i : Nat} (hi : i < ops.size) (hs : listed.size = ops.size) (hl : listed.getD i true = false) :
    (unl ops (listed.setIfInBounds i true)).length < (unl ops listed).length := by
  have : unl ops (listed.setIfInBounds i true) = (unl ops listed).filter fun j => decide (j ≠ i) := by
    unfold unl
    rw [List.filter_filter]
    refine List.filter_congr fun j hj => ?_
    rw [getD_set (by omega)]
    by_cases h : j = i
    · subst h; simp
    · simp [h]
  rw [this, List.length_filter_lt_length_iff_exists]
  exact ⟨i, by simp only [unl, List.mem_filter, List.mem_range, hl]; exact ⟨hi, rfl⟩, by simp⟩

structure DrawOk (ops : Array Oper) (F : List Nat) (k f : Nat) : Prop where
  le : k ≤ ops.size
  nosel : Region.noSelect ops = true
  take : takeOk ops (firsts ops F f) (Array.replicate ops.size false) = true
  flo : floatOk ops k f = true
  fle : ∀ i ∈ F, i < k
  back : ∀ (i : Nat) (o : Oper), ops[i]? = some o → ∀ e ∈ o.after.toList, Region.binds .any e = true → e.on < i
  sel : ∀ (i : Nat) (o : Oper), ops[i]? = some o → isSelect o.op = false
  look : ∀ i, i < k → ∀ t ∈ looks ops i, ∀ j, j < k → dstAt ops j = some t → j ≠ i ∧ edge ops i j = true
  dist : ∀ i j t, i < k → j < k → dstAt ops i = some t → dstAt ops j = some t → i = j
  tail : ∀ i j, k ≤ i → i < ops.size → i ≠ f → j < i → j = f ∨ j ∈ F ∨ reach ops 16 i j = true
theorem DrawOk.of {ops : Array Oper} {F : List Nat} {k f : Nat} (h : drawOk ops F k f = true) : DrawOk ops F k f := by
  unfold drawOk at h
  simp only [Bool.and_eq_true, decide_eq_true_eq, List.all_eq_true, List.mem_range] at h
  obtain ⟨⟨⟨⟨⟨⟨⟨h1, hns⟩, htk⟩, hfl⟩, hflo⟩, h2⟩, h3⟩, h4⟩ := h
  refine ⟨h1, hns, htk, hflo, hfl, ?_, ?_, ?_, ?_, ?_⟩
  · intro i o ho e he hb
    have hi : i < ops.size := (Array.getElem?_eq_some_iff.1 ho).1
    have := h2 i hi
    simp only [ho, Bool.and_eq_true, Array.all_eq_true] at this
    obtain ⟨m, hm, rfl⟩ := Array.getElem_of_mem (Array.mem_toList_iff.1 he)
    have := this.1 m hm
    simpa [hb] using this
  · intro i o ho
    have hi : i < ops.size := (Array.getElem?_eq_some_iff.1 ho).1
    have := h2 i hi
    simp only [ho, Bool.and_eq_true] at this
    simpa using this.2
  · intro i hi t ht j hj hd
    have := (h3 i hi).1 t ht j hj
    simpa [hd] using this
  · intro i j t hi hj hdi hdj
    have := (h3 i hi).2 j hj
    simp [hdi, hdj] at this
    exact this.symm
  · intro i j hk hi hif hj
    have := h4 i hi
    simp only [Bool.or_eq_true, decide_eq_true_eq, List.all_eq_true, List.mem_range, beq_iff_eq] at this
    rcases this with (h | h) | h
    · omega
    · exact absurd h hif
    · have := h j hj
      rcases this with (h | h) | h
      · exact .inl h
      · exact .inr (.inl (by simpa [List.contains_iff_mem] using h))
      · exact .inr (.inr h)

theorem mem_looks_op {ops : Array Oper} {i : Nat} {o : Oper} (ho : ops[i]? = some o) {t : Tmp} (h : .tmp t ∈ o.op.operands) : t ∈ looks ops i := by
  simp only [looks, ho, Oper.looksAt, List.mem_append, List.mem_filterMap]
  exact .inl ⟨.tmp t, by simpa using h, rfl⟩
theorem mem_looks_guard {ops : Array Oper} {i j : Nat} {o : Oper} {b : Bool} (ho : ops[i]? = some o) (hg : o.guard = some (j, b)) {t : Tmp} (h : dstAt ops j = some t) : t ∈ looks ops i := by
  simp only [looks, ho, Oper.looksAt, List.mem_append, hg]
  right
  simp only [dstAt] at h
  simp [h]

theorem QG.congr {ops : Array Oper} {i : Nat} {o : Oper} {e e' : Env} {v : Value} (ho : ops[i]? = some o) (hs : isSelect o.op = false) (h : ∀ t ∈ looks ops i, e t = e' t) (hq : QG P w0 n ops H e o v) : QG P w0 n ops H e' o v := by
  have h1 : Region.wanted o (yieldE ops e) = Region.wanted o (yieldE ops e') := by
    unfold Region.wanted
    cases hg : o.guard with
    | none => rfl
    | some gj =>
      obtain ⟨j, b⟩ := gj
      have : yieldE ops e j = yieldE ops e' j := by
        unfold yieldE
        cases hd : (ops[j]?).bind (·.dst) with
        | none => rfl
        | some t => simp only [h t (mem_looks_guard ho hg hd)]
      simp only [this]
  have h2 : execOp (ev e) o = execOp (ev e') o := by
    refine execOp_congr o ?_ ?_
    · intro cs b hh; rw [hh] at hs; cases hs
    · intro x hx
      cases x with
      | tmp t => exact h t (mem_looks_op ho hx)
      | _ => rfl
  obtain ⟨hd, hq⟩ := hq
  refine ⟨hd, ?_⟩
  rw [← h1]
  refine hq.imp (fun ⟨a, b⟩ => ⟨a, ?_⟩) id
  unfold QS OpR at *
  rw [← h2]
  exact b

/-- The one operation of the first k that changes what is owned. -/
def QE (P : Program) (w0 : World) (n : Nat) (ops : Array Oper) (H H1 : Hp) (e : Env) (o : Oper) (v : Value) : Prop :=
  dstOk n o.dst = true ∧ Region.wanted o (yieldE ops e) = true ∧ OpR P w0 (ev e) o H fun u H' => u = v ∧ H' = H1
theorem looks_congr {ops : Array Oper} {i : Nat} {o : Oper} {e e' : Env} (ho : ops[i]? = some o) (hs : isSelect o.op = false) (h : ∀ t ∈ looks ops i, e t = e' t) :
    Region.wanted o (yieldE ops e) = Region.wanted o (yieldE ops e') ∧ execOp (ev e) o = execOp (ev e') o := by
  constructor
  · unfold Region.wanted
    cases hg : o.guard with
    | none => rfl
    | some gj =>
      obtain ⟨j, b⟩ := gj
      have : yieldE ops e j = yieldE ops e' j := by
        unfold yieldE
        cases hd : (ops[j]?).bind (·.dst) with
        | none => rfl
        | some t => simp only [h t (mem_looks_guard ho hg hd)]
      simp only [this]
  · refine execOp_congr o ?_ ?_
    · intro cs b hh; rw [hh] at hs; cases hs
    · intro x hx
      cases x with
      | tmp t => exact h t (mem_looks_op ho hx)
      | _ => rfl
theorem QE.congr {ops : Array Oper} {H1 : Hp} {i : Nat} {o : Oper} {e e' : Env} {v : Value} (ho : ops[i]? = some o) (hs : isSelect o.op = false) (h : ∀ t ∈ looks ops i, e t = e' t) (hq : QE P w0 n ops H H1 e o v) : QE P w0 n ops H H1 e' o v := by
  obtain ⟨h1, h2⟩ := looks_congr ho hs h
  obtain ⟨hd, hw, hr⟩ := hq
  refine ⟨hd, by rw [← h1]; exact hw, ?_⟩
  unfold OpR at *
  rw [← h2]
  exact hr
def hpAt (H H1 : Hp) (c : Nat) (listed : Array Bool) : Hp := bif listed.getD c false then H1 else H

theorem wpAny_tail {ops : Array Oper} {F : List Nat} {k f : Nat} (hok : DrawOk ops F k f) {Q : Exit → Act → World → Prop} :
    ∀ (d fuel i : Nat) (listed : Array Bool) (a : Act) (w : World), i + d = ops.size → k ≤ i → listed.size = ops.size → (∀ j, j < i → listed.getD j true = true) → (∀ j, i ≤ j → j < ops.size → j ≠ f → listed.getD j true = false) → listed.getD f true = true →
      (unl ops listed).length ≤ fuel → wpList P ops Q (tl f i (ops.toList.drop i)) a w → wpAny P .any ops Q fuel listed a w := by
  intro d
  induction d with
  | zero =>
    intro fuel i listed a w hid hk hs h1 h2 h3 hf hw
    obtain rfl : i = ops.size := by omega
    refine wpAny_done ?_ (by simpa [List.drop_of_length_le, tl, wpList] using hw) fuel
    rw [List.eq_nil_iff_forall_not_mem]
    intro j hj
    obtain ⟨hj1, hj2, _⟩ := mem_ready.1 hj
    rw [h1 j hj1] at hj2; cases hj2
  | succ d ih =>
    intro fuel i listed a w hid hk hs h1 h2 h3 hf hw
    have hi1 : i < ops.size := by omega
    have hdrop : ops.toList.drop i = ops[i] :: ops.toList.drop (i + 1) := by
      rw [List.drop_eq_getElem_cons (by simpa using hi1)]; simp
    by_cases hif : i = f
    · subst hif
      rw [hdrop, tl, Nat.beq_refl, cond_true] at hw
      exact ih fuel (i + 1) listed a w (by omega) (by omega) hs (fun j hj => by
        by_cases e : j = i
        · rw [e]; exact h3
        · exact h1 j (by omega)) (fun j hj hj2 hjf => h2 j (by omega) hj2 hjf) h3 hf hw
    have hbe : Nat.beq i f = false := by
      cases hh : Nat.beq i f with
      | false => rfl
      | true => exact absurd (Nat.eq_of_beq_eq_true hh) hif
    rw [hdrop, tl, hbe, cond_false] at hw
    have hunl : listed.getD i true = false := h2 i (Nat.le_refl _) hi1 hif
    cases fuel with
    | zero =>
      have hnil : unl ops listed = [] := List.eq_nil_of_length_eq_zero (by omega)
      have : i ∈ unl ops listed := by simp only [unl, List.mem_filter, List.mem_range, hunl]; exact ⟨hi1, rfl⟩
      rw [hnil] at this; cases this
    | succ fuel =>
    have todf : ∀ m, m < ops.size → listed.getD m true = true → listed.getD m false = true := by
      intro m hm h3
      simp only [Array.getD_eq_getD_getElem?] at h3 ⊢
      have : m < listed.size := by rw [hs]; exact hm
      simpa [this] using h3
    have hready : ∀ j ∈ Region.ready .any ops listed, j = i := by
      intro j hj
      obtain ⟨hj1, hj2, hj3⟩ := mem_ready.1 hj
      rcases Nat.lt_trichotomy j i with h | h | h
      · rw [h1 j h] at hj2; cases hj2
      · exact h
      · have hjf : j ≠ f := fun e => by rw [e, h3] at hj2; cases hj2
        have hsh : Shut ops listed := by
          intro m o hm hl e he hb
          have hms : m < ops.size := (Array.getElem?_eq_some_iff.1 hm).1
          by_cases hmf : m = f
          · subst hmf
            have hflo := hok.flo
            have hb2 := hok.back m o hm e he hb
            have htk := hok.take
            unfold firsts at htk
            rw [show Nat.blt m ops.size = true from by simpa [Nat.blt, Nat.succ_le_iff] using hms, cond_true] at htk
            simp only [takeOk, Bool.and_eq_true] at htk
            obtain ⟨_, _, hwt⟩ := mem_ready.1 (by simpa using htk.1.1.1 : m ∈ Region.ready .any ops (Array.replicate ops.size false))
            have := hwt o hm e he hb
            have h5 : e.on < ops.size := by omega
            simp [h5] at this
          · have hmi : m < i := by
              rcases Nat.lt_or_ge m i with h | h
              · exact h
              · have := h2 m h hms hmf
                rw [this] at hl; cases hl
            have := hok.back m o hm e he hb
            exact todf _ (by omega) (h1 e.on (by omega))
        have hF : ¬ i ∈ F := fun hF => by have := hok.fle i hF; omega
        have := hsh.reach 16 j i hj3 (((hok.tail j i (by omega) hj1 hjf h).resolve_left hif).resolve_left hF)
        have := getD_true this
        rw [hunl] at this; cases this
    refine ⟨fun hnil => ?_, fun j hj => ?_⟩
    · have : i ∈ Region.ready .any ops listed := by
        refine mem_ready.2 ⟨hi1, hunl, ?_⟩
        intro o ho e he hb
        have hb := hok.back i o ho e he hb
        exact todf _ (by omega) (h1 _ hb)
      rw [hnil] at this; cases this
    · obtain rfl := hready j hj
      unfold wpOp
      simp only [Array.getElem?_eq_getElem hi1]
      have next : ∀ a w, wpList P ops Q (tl f (j + 1) (ops.toList.drop (j + 1))) a w → wpAny P .any ops Q fuel (listed.setIfInBounds j true) a w := by
        intro a w h
        refine ih fuel (j + 1) _ a w (by omega) (by omega) (by simpa using hs) ?_ ?_ ?_ ?_ h
        · intro m hm; rw [getD_set (by omega)]; split
          · rfl
          · exact h1 m (by omega)
        · intro m hm hm2 hmf; rw [getD_set (by omega), if_neg (by omega)]; exact h2 m (by omega) hm2 hmf
        · rw [getD_set (by omega)]; split
          · rfl
          · exact h3
        · have := unl_set hi1 hs hunl; omega
      unfold wpList at hw
      split
      · rename_i hwant
        rw [if_pos hwant] at hw
        exact hw.imp (Oper.wp_mono next) id
      · rename_i hwant
        rw [if_neg hwant] at hw
        exact next _ _ hw

structure Inv (ops : Array Oper) (F : List Nat) (k f : Nat) (vals : Nat → Value) (e0 : Env) (listed : Array Bool) (e : Env) : Prop where
  size : listed.size = ops.size
  shut : Shut ops listed
  rest : ∀ j, k ≤ j → j < ops.size → j ≠ f → listed.getD j true = false
  got : ∀ j, j < k → listed.getD j true = true → ∀ t, dstAt ops j = some t → e t = vals j
  not : ∀ t, (∀ j, j < k → listed.getD j true = true → dstAt ops j ≠ some t) → e t = e0 t
  fl : ∀ j ∈ F, listed.getD j true = true

theorem envAt_hit {ops : Array Oper} {F : List Nat} {k f : Nat} (hok : DrawOk ops F k f) {vals : Nat → Value} {e0 : Env} {i j : Nat} {t : Tmp} (hj : j < k) (hi : i ≤ k) (hji : j < i) (hd : dstAt ops j = some t) :
    envAt ops.toList vals e0 i t = vals j := by
  have hdst : ∀ j, (ops.toList[j]?).bind (·.dst) = dstAt ops j := fun j => by simp [dstAt]
  refine envAt_got (by rw [hdst]; exact hd) i hji fun m h1 h2 hm => ?_
  rw [hdst] at hm
  have := hok.dist j m t hj (by omega) hd hm
  omega
theorem envAt_miss {ops : Array Oper} {vals : Nat → Value} {e0 : Env} {i : Nat} {t : Tmp} (h : ∀ j, j < i → dstAt ops j ≠ some t) : envAt ops.toList vals e0 i t = e0 t := by
  have hdst : ∀ j, (ops.toList[j]?).bind (·.dst) = dstAt ops j := fun j => by simp [dstAt]
  exact envAt_not i fun j hj => by rw [hdst]; exact h j hj

/-- A ready operation sees what it would see in the text's order. -/
theorem Inv.sees {ops : Array Oper} {F G : List Nat} {k f : Nat} (hok : DrawOk ops F k f) {vals : Nat → Value} {e0 e : Env} {listed : Array Bool} (hi : Inv ops G k f vals e0 listed e)
    {i : Nat} (hi1 : i < ops.size) (hik : i < k) (hi3 : Waits ops listed i) : ∀ t ∈ looks ops i, envAt ops.toList vals e0 i t = e t := by
  intro t ht
  have hoi : ops[i]? = some ops[i] := Array.getElem?_eq_getElem hi1
  by_cases hex : ∃ j, j < k ∧ dstAt ops j = some t
  · obtain ⟨j, hj, hd⟩ := hex
    obtain ⟨hne, hed⟩ := hok.look i hik t ht j hj hd
    have hlj := hi3.edge hed
    have hji : j < i := by
      unfold D.edge at hed
      simp only [hoi, Array.any_eq_true, Bool.and_eq_true, beq_iff_eq] at hed
      obtain ⟨m, hm, rfl, hb⟩ := hed
      exact hok.back i _ hoi _ (by simp) hb
    rw [hi.got j hj (getD_true hlj) t hd, envAt_hit hok hj (by omega) hji hd]
  · have hne : ∀ j, j < k → dstAt ops j ≠ some t := fun j hj hd => hex ⟨j, hj, hd⟩
    rw [hi.not t fun j hj _ => hne j hj, envAt_miss fun j hj => hne j (by omega)]

theorem Inv.step {ops : Array Oper} {F G : List Nat} {k f : Nat} (hok : DrawOk ops F k f) {vals : Nat → Value} {e0 e : Env} {listed : Array Bool} (hi : Inv ops G k f vals e0 listed e)
    {i : Nat} (hi1 : i < ops.size) (hik : i < k) (hi3 : Waits ops listed i) : Inv ops G k f vals e0 (listed.setIfInBounds i true) (putE e ops[i].dst (vals i)) := by
  have hoi : ops[i]? = some ops[i] := Array.getElem?_eq_getElem hi1
  have hlt : i < listed.size := by rw [hi.size]; exact hi1
  refine ⟨by simpa using hi.size, ?_, ?_, ?_, ?_, ?_⟩
  · intro m o hm hl ed he hb
    rw [getDf_set hlt]
    split
    · rfl
    · rw [getD_set hlt] at hl
      by_cases hmi : m = i
      · subst hmi
        exact hi3 o hm ed he hb
      · rw [if_neg hmi] at hl
        exact hi.shut m o hm hl ed he hb
  · intro j hj1 hj2 hjf
    rw [getD_set hlt, if_neg (by omega)]
    exact hi.rest j hj1 hj2 hjf
  · intro j hj hl t hd
    by_cases hji : j = i
    · subst hji
      have : ops[j].dst = some t := by simpa [dstAt, hoi] using hd
      rw [this, putE_some]
    · rw [getD_set hlt, if_neg hji] at hl
      rw [putE_ne _ _ ?_]
      · exact hi.got j hj hl t hd
      · intro hh
        exact hji (hok.dist j i t hj hik hd (by simpa [dstAt, hoi] using hh))
  · intro t hh
    have hne : ops[i].dst ≠ some t := by
      have := hh i hik (by rw [getD_set hlt, if_pos rfl])
      simpa [dstAt, hoi] using this
    rw [putE_ne _ _ hne]
    refine hi.not t fun j hj hl => ?_
    refine hh j hj ?_
    rw [getD_set hlt]; split
    · rfl
    · exact hl
  · intro j hj
    rw [getD_set hlt]; split
    · rfl
    · exact hi.fl j hj

theorem wpAny_draw {ops : Array Oper} {F : List Nat} {k f : Nat} (hok : DrawOk ops F k f) {vals : Nat → Value} {e0 : Env}
    {H1 : Hp} {c : Nat} {C : Prop} (hck : c < k ∨ ops.size ≤ c)
    (hq : ∀ i o, i < k → i ≠ c → ops[i]? = some o → (C → reach ops 16 i c = false → QG P w0 n ops H (envAt ops.toList vals e0 i) o (vals i)) ∧ (c < k → reach ops 16 c i = false → QG P w0 n ops H1 (envAt ops.toList vals e0 i) o (vals i)))
    (hc : C → ∀ o, c < k → ops[c]? = some o → QE P w0 n ops H H1 (envAt ops.toList vals e0 c) o (vals c)) {Q : Exit → Act → World → Prop}
    (hK : ∀ a w, Fr n (envAt ops.toList vals e0 k) a → Own w0 (bif Nat.blt c k then H1 else H) w → wpList P ops Q (tl f k (ops.toList.drop k)) a w) :
    ∀ (fuel : Nat) (listed : Array Bool) (e : Env) (a : Act) (w : World), Inv ops F k f vals e0 listed e → listed.getD f true = true → (listed.getD c false = false → C) → Fr n e a → Own w0 (hpAt H H1 c listed) w → (unl ops listed).length ≤ fuel → wpAny P .any ops Q fuel listed a w := by
  have done : ∀ (fuel : Nat) (listed : Array Bool) (e : Env) (a : Act) (w : World), Inv ops F k f vals e0 listed e → listed.getD f true = true → (listed.getD c false = false → C) → Fr n e a → Own w0 (hpAt H H1 c listed) w → (unl ops listed).length ≤ fuel →
      (∀ j, j < k → listed.getD j true = true) → wpAny P .any ops Q fuel listed a w := by
    intro fuel listed e a w hi hlf hC hf ho hfuel hall
    have he : e = envAt ops.toList vals e0 k := by
      funext t
      by_cases hex : ∃ j, j < k ∧ dstAt ops j = some t
      · obtain ⟨j, hj, hd⟩ := hex
        rw [hi.got j hj (hall j hj) t hd, envAt_hit hok hj (Nat.le_refl _) hj hd]
      · have hne : ∀ j, j < k → dstAt ops j ≠ some t := fun j hj hd => hex ⟨j, hj, hd⟩
        rw [hi.not t fun j hj _ => hne j hj, envAt_miss hne]
    have hle := hok.le
    have hhp : hpAt H H1 c listed = bif Nat.blt c k then H1 else H := by
      rcases hck with h | h
      · have h1 : listed.getD c false = true := by
          have := hall c h
          simp only [Array.getD_eq_getD_getElem?] at this ⊢
          have h3 : c < listed.size := by rw [hi.size]; omega
          simpa [h3] using this
        have h2 : Nat.blt c k = true := by simpa [Nat.blt, Nat.succ_le_iff] using h
        rw [hpAt, h1, h2]
      · have h1 : listed.getD c false = false := by
          rw [Array.getD_eq_getD_getElem?, Array.getElem?_eq_none (by rw [hi.size]; exact h)]; rfl
        have h2 : Nat.blt c k = false := by
          cases hh : Nat.blt c k with
          | false => rfl
          | true => exfalso; simp [Nat.blt] at hh; omega
        rw [hpAt, h1, h2]
    rw [hhp] at ho
    exact wpAny_tail hok (ops.size - k) fuel k listed a w (by omega) (Nat.le_refl _) hi.size hall hi.rest hlf hfuel (hK a w (he ▸ hf) ho)
  intro fuel
  induction fuel with
  | zero =>
    intro listed e a w hi hlf hC hf ho hfuel
    refine done 0 listed e a w hi hlf hC hf ho hfuel fun j hj => ?_
    cases hl : listed.getD j true with
    | true => rfl
    | false =>
      have hnil : unl ops listed = [] := List.eq_nil_of_length_eq_zero (by omega)
      have hle := hok.le
      have : j ∈ unl ops listed := by simp only [unl, List.mem_filter, List.mem_range, hl]; exact ⟨by omega, rfl⟩
      rw [hnil] at this; cases this
  | succ fuel ih =>
    intro listed e a w hi hlf hC hf ho hfuel
    by_cases hall : ∀ j, j < k → listed.getD j true = true
    · exact done (fuel + 1) listed e a w hi hlf hC hf ho hfuel hall
    have hle := hok.le
    -- the least that is not listed
    have hleast : ∃ j, j < k ∧ listed.getD j true = false ∧ ∀ m, m < j → listed.getD m true = true := by
      have : ∃ j, j < k ∧ listed.getD j true = false := by
        refine Classical.byContradiction fun hno => hall fun j hj => ?_
        cases hl : listed.getD j true with
        | true => rfl
        | false => exact (hno ⟨j, hj, hl⟩).elim
      obtain ⟨j, hj, hl⟩ := this
      induction j using Nat.strongRecOn with
      | _ j ihj =>
        by_cases hm : ∃ m, m < j ∧ listed.getD m true = false
        · obtain ⟨m, hm1, hm2⟩ := hm
          exact ihj m hm1 (by omega) hm2
        · refine ⟨j, hj, hl, fun m hmj => ?_⟩
          cases hl' : listed.getD m true with
          | true => rfl
          | false => exact (hm ⟨m, hmj, hl'⟩).elim
    have todf : ∀ m, m < ops.size → listed.getD m true = true → listed.getD m false = true := by
      intro m hm h3
      simp only [Array.getD_eq_getD_getElem?] at h3 ⊢
      have : m < listed.size := by rw [hi.size]; exact hm
      simpa [this] using h3
    refine ⟨fun hnil => ?_, fun i hir => ?_⟩
    · obtain ⟨j, hj, hl, hm⟩ := hleast
      have : j ∈ Region.ready .any ops listed := by
        refine mem_ready.2 ⟨by omega, hl, ?_⟩
        intro o hoo ed he hb
        have hb := hok.back j o hoo ed he hb
        exact todf _ (by omega) (hm _ hb)
      rw [hnil] at this; cases this
    · obtain ⟨hi1, hi2, hi3⟩ := mem_ready.1 hir
      have hik : i < k := by
        rcases Nat.lt_or_ge i k with h | h
        · exact h
        · obtain ⟨j, hj, hl, _⟩ := hleast
          have hif : i ≠ f := fun e => by rw [e, hlf] at hi2; cases hi2
          have hjf : j ≠ f := fun e => by rw [e, hlf] at hl; cases hl
          have := hi.shut.reach 16 i j hi3 (((hok.tail i j h hi1 hif (by omega)).resolve_left hjf).resolve_left fun hF => by have := hi.fl j hF; rw [hl] at this; cases this)
          have := getD_true this
          rw [hl] at this; cases this
      have hoi : ops[i]? = some ops[i] := Array.getElem?_eq_getElem hi1
      have hsees := hi.sees hok hi1 hik hi3
      have hsz : i < listed.size := by rw [hi.size]; exact hi1
      by_cases hic : i = c
      · subst hic
        obtain ⟨hd, hw, hr⟩ := (hc (hC (by
          simp only [Array.getD_eq_getD_getElem?] at hi2 ⊢
          simpa [hsz] using hi2)) _ hik hoi).congr hoi (hok.sel i _ hoi) hsees
        have hcf : hpAt H H1 i listed = H := by
          have : listed.getD i false = false := by
            simp only [Array.getD_eq_getD_getElem?] at hi2 ⊢
            simpa [hsz] using hi2
          rw [hpAt, this]; rfl
        rw [hcf] at ho
        unfold wpOp
        simp only [hoi]
        rw [wanted_congr _ (hf.yielded ops), if_pos hw]
        exact .inl (Res.wp (ops := ops) (Q := fun _ _ _ => False) hf ho hr fun v H' w' hr ho' => by
          obtain ⟨rfl, rfl⟩ := hr
          refine ih _ _ _ w' (hi.step hok hi1 hik hi3) (by
            rw [getD_set hsz]; split
            · rfl
            · exact hlf) (fun h => by rw [getDf_set hsz, if_pos rfl] at h; cases h) (hf.put hd _) ?_ (by have := unl_set hi1 hi.size hi2; omega)
          have : hpAt H H' i (listed.setIfInBounds i true) = H' := by
            rw [hpAt, getDf_set hsz, if_pos rfl]; rfl
          rw [this]; exact ho')
      · have hqe : QG P w0 n ops (hpAt H H1 c listed) e ops[i] (vals i) := by
          cases hcl : listed.getD c false with
          | false =>
            rw [hpAt, hcl, cond_false]
            refine ((hq i _ hik hic hoi).1 (hC hcl) ?_).congr hoi (hok.sel i _ hoi) hsees
            cases hre : reach ops 16 i c with
            | false => rfl
            | true => have := hi.shut.reach 16 i c hi3 hre; rw [hcl] at this; cases this
          | true =>
            rw [hpAt, hcl, cond_true]
            have hck' : c < k := by
              rcases hck with h | h
              · exact h
              · rw [Array.getD_eq_getD_getElem?, Array.getElem?_eq_none (by rw [hi.size]; exact h)] at hcl; cases hcl
            refine ((hq i _ hik hic hoi).2 hck' ?_).congr hoi (hok.sel i _ hoi) hsees
            cases hre : reach ops 16 c i with
            | false => rfl
            | true =>
              have hw : Waits ops listed c := fun o ho' ed he hb => hi.shut c o ho' (getD_true hcl) ed he hb
              have := hi.shut.reach 16 c i hw hre
              have := getD_true this
              rw [hi2] at this; cases this
        have hsame : hpAt H H1 c (listed.setIfInBounds i true) = hpAt H H1 c listed := by
          rw [hpAt, hpAt, getDf_set hsz, if_neg (Ne.symm hic)]
        have next : ∀ a' w', Fr n (putE e ops[i].dst (vals i)) a' → Own w0 (hpAt H H1 c listed) w' → wpAny P .any ops Q fuel (listed.setIfInBounds i true) a' w' := fun a' w' hf' ho' =>
          ih _ _ a' w' (hi.step hok hi1 hik hi3) (by
            rw [getD_set hsz]; split
            · rfl
            · exact hlf) (fun h => hC (by rw [getDf_set hsz, if_neg (Ne.symm hic)] at h; exact h)) hf' (by rw [hsame]; exact ho') (by have := unl_set hi1 hi.size hi2; omega)
        unfold wpOp
        simp only [hoi]
        rw [wanted_congr _ (hf.yielded ops)]
        obtain ⟨hd, hqq⟩ := hqe
        rcases hqq with ⟨hw, hs⟩ | ⟨hw, hv⟩
        · rw [if_pos hw]
          exact .inl (Res.wp (ops := ops) (Q := fun _ _ _ => False) hf ho hs fun v H' w' hr ho' => by
            obtain ⟨rfl, rfl⟩ := hr
            exact next _ _ (hf.put hd _) ho')
        · rw [if_neg (by simp [hw]), ← hv]
          exact next _ _ (hf.put hd _) ho

theorem wpAny_takes {ops : Array Oper} {F : List Nat} {k f : Nat} (hok : DrawOk ops F k f) {vals : Nat → Value} {e0 : Env}
    {c : Nat} (hq : ∀ i o, i < k → i ≠ c → ops[i]? = some o → reach ops 16 i c = false → QG P w0 n ops H (envAt ops.toList vals e0 i) o (vals i)) {Q : Post} {T : Array Bool → Prop}
    (hK : ∀ fuel listed e a w, T listed → Inv ops [] k f vals e0 listed e → listed.getD c false = false → Fr n e a → Own w0 H w → (unl ops listed).length ≤ fuel → wpAny P .any ops (lift w0 n Q) fuel listed a w) :
    ∀ (G : List Nat) (fuel : Nat) (listed : Array Bool) (e : Env) (a : Act) (w : World), (∀ i ∈ G, i < k ∧ i ≠ c) → takeOk ops G listed = true → T (G.foldl (fun l i => l.setIfInBounds i true) listed) →
      Inv ops [] k f vals e0 listed e → listed.getD c false = false → Fr n e a → Own w0 H w → (unl ops listed).length ≤ fuel → wpAny P .any ops (lift w0 n Q) fuel listed a w := by
  intro G
  induction G with
  | nil => intro fuel listed e a w _ _ hT hi hcl hf ho hfu; exact hK fuel listed e a w hT hi hcl hf ho hfu
  | cons i G ih =>
    intro fuel listed e a w hlt htk hT hi hcl hf ho hfu
    simp only [takeOk, Bool.and_eq_true] at htk
    obtain ⟨⟨⟨hr, hfree⟩, hmv⟩, htk⟩ := htk
    obtain ⟨hi1, hi2, hi3⟩ := mem_ready.1 (by simpa using hr : i ∈ Region.ready .any ops listed)
    have hik := (hlt i (by simp)).1
    have hic := (hlt i (by simp)).2
    have hre : reach ops 16 i c = false := by
      cases hre : reach ops 16 i c with
      | false => rfl
      | true => have := hi.shut.reach 16 i c hi3 hre; rw [hcl] at this; cases this
    have hoi : ops[i]? = some ops[i] := Array.getElem?_eq_getElem hi1
    have hqe := (hq i _ hik hic hoi hre).congr hoi (hok.sel i _ hoi) (hi.sees hok hi1 hik hi3)
    have hun := unl_set hi1 hi.size hi2
    cases fuel with
    | zero => omega
    | succ fuel =>
      simp only [hoi] at hmv
      obtain ⟨hd, hqq⟩ := hqe
      refine wpAny_take (i := i) (oi := ops[i]) (v := vals i) hoi hok.nosel hfree hr (fun _ _ _ h => h.1.elim) ?_ ?_
      · generalize hoe : ops[i] = o at hmv hqq
        obtain ⟨dst, op, ty, pos, af, g⟩ := o
        cases op <;> simp only [isMove] at hmv <;> try cases hmv
        rename_i x
        cases g with
        | some _ => cases hmv
        | none =>
          rcases hqq with ⟨_, hs⟩ | ⟨hw, _⟩
          · have h1 := hs w ho
            have h2 : (execOp (D.ev e) ⟨dst, .move x, ty, pos, af, none⟩).run P w = .ok (.value (D.ev e x)) w := rfl
            rw [h2] at h1
            obtain ⟨H', ho', hv, _⟩ := h1
            refine .inl ⟨rfl, fun w => ?_⟩
            have h3 : (execOp a.eval ⟨dst, .move x, ty, pos, af, none⟩).run P w = .ok (.value (a.eval x)) w := rfl
            rw [h3, hf.ev, hv]
          · cases hw
      · exact ih fuel _ _ _ w (fun j hj => hlt j (by simp [hj])) htk hT (hi.step hok hi1 hik hi3) (by rw [getDf_set (by rw [hi.size]; exact hi1), if_neg (Ne.symm hic)]; exact hcl) (hf.put hd _) ho (by omega)

theorem taken {G : List Nat} : ∀ {listed : Array Bool}, (∀ i ∈ G, i < listed.size) → ∀ j, (j ∈ G ∨ listed.getD j true = true) → (G.foldl (fun l i => l.setIfInBounds i true) listed).getD j true = true := by
  induction G with
  | nil => intro listed _ j h; exact h.resolve_left (by simp)
  | cons i G ih =>
    intro listed hG j h
    refine ih (fun m hm => by simpa using hG m (by simp [hm])) j ?_
    rw [getD_set (hG i (by simp))]
    by_cases hj : j = i
    · exact .inr (by simp [hj])
    · rw [if_neg hj]
      rcases h with h | h
      · exact .inl ((List.mem_cons.1 h).resolve_left hj)
      · exact .inr h

theorem SeqQ.take {ops : Array Oper} {l : List Oper} {e : Env} {K : Env → Prop} (h : SeqQ P w0 n ops H l e K) : ∃ vals : Nat → Value, (∀ i o, l[i]? = some o → QG P w0 n ops H (envAt l vals e i) o (vals i)) ∧ K (envAt l vals e l.length) := h.vals

theorem envAt_take {l : List Oper} {k : Nat} {vals : Nat → Value} {e : Env} : ∀ i, i ≤ k → envAt (l.take k) vals e i = envAt l vals e i := by
  intro i
  induction i with
  | zero => intro _; rfl
  | succ i ih => intro h; rw [envAt, envAt, ih (by omega), List.getElem?_take_of_lt (by omega)]

/-- The constant's move, first of all. -/
theorem AW.drawE {id : Nat} {l : List Oper} {Q : Post} {e : Env} (F : List Nat) (k f c : Nat) {H1 : Hp} {t : Tmp} {x : Operand} {cv : Value} {ty : TypeId} {pos : String} {af : Array Edge} (hm : P.follows .mixedOrders = true) (hok : drawOk l.toArray F k f = true)
    (hf : f < l.length → l[f]? = some ⟨some t, .move x, ty, pos, af, none⟩ ∧ dstOk n (some t) = true ∧ D.ev e x = cv)
    (hck : c < k ∨ l.length ≤ c) (hcF : ∀ i ∈ F, i ≠ c) (hcf : c ≠ f ∨ l.length ≤ c) {vals : Nat → Value}
    (hq : ∀ i o, i < k → i ≠ c → l[i]? = some o → (reach l.toArray 16 i c = false → QG P w0 n l.toArray H (envAt l vals e i) o (vals i)) ∧ (c < k → reach l.toArray 16 c i = false → QG P w0 n l.toArray H1 (envAt l vals e i) o (vals i)))
    (hc : ∀ o, c < k → l[c]? = some o → QE P w0 n l.toArray H H1 (envAt l vals e c) o (vals c))
    (h2 : OpsW P w0 n l.toArray Q (tl f k (l.drop k)) (bif Nat.blt f l.length then upd (envAt l vals e k) t cv else envAt l vals e k) (bif Nat.blt c k then H1 else H)) : AW P w0 n (.region id l.toArray true) Q e H := by
  have hok' := DrawOk.of hok
  have hk : k ≤ l.length := by simpa using hok'.le
  intro a w hfr ho
  refine wp_region_any hm ?_
  have inv0 : Inv l.toArray [] k f vals e (Array.replicate l.toArray.size false) e := by
    refine ⟨by simp, ?_, ?_, ?_, ?_, by simp⟩
    · intro i o hoo hl ed he hb
      have hi : i < l.toArray.size := (Array.getElem?_eq_some_iff.1 hoo).1
      have hi2 : i < l.length := by simpa using hi
      simp [hi2] at hl
    · intro j _ hj _
      have hj2 : j < l.length := by simpa using hj
      simp [hj2]
    · intro j hj hl
      have hj2 : j < l.length := by omega
      simp [hj2] at hl
    · intro t _; rfl
  have unl0 : (unl l.toArray (Array.replicate l.toArray.size false)).length ≤ l.toArray.size := by
    unfold unl
    have := List.length_filter_le (fun i => !(Array.replicate l.toArray.size false).getD i true) (List.range l.toArray.size)
    simpa using this
  have rest : ∀ (e' : Env) (L0 : Array Bool), (∀ i o, i < k → i ≠ c → l.toArray[i]? = some o → (reach l.toArray 16 i c = false → QG P w0 n l.toArray H (envAt l.toArray.toList vals e' i) o (vals i)) ∧ (c < k → reach l.toArray 16 c i = false → QG P w0 n l.toArray H1 (envAt l.toArray.toList vals e' i) o (vals i))) →
      (∀ o, c < k → l.toArray[c]? = some o → QE P w0 n l.toArray H H1 (envAt l.toArray.toList vals e' c) o (vals c)) → takeOk l.toArray F L0 = true → Inv l.toArray [] k f vals e' L0 e' → L0.getD f true = true → L0.getD c false = false →
      (∀ a w, Fr n (envAt l vals e' k) a → Own w0 (bif Nat.blt c k then H1 else H) w → wpList P l.toArray (lift w0 n Q) (tl f k (l.drop k)) a w) →
      ∀ fuel a w, Fr n e' a → Own w0 H w → (unl l.toArray L0).length ≤ fuel → wpAny P .any l.toArray (lift w0 n Q) fuel L0 a w := by
    intro e' L0 hq' hc' htk hinv hlf hcl hK fuel a w hfr ho hfu
    refine wpAny_takes (F := F) (k := k) (f := f) hok' (vals := vals) (e0 := e') (H := H) (c := c) (fun i o h1 h2 h3 h4 => (hq' i o h1 h2 h3).1 h4) (T := fun listed => ∀ j, j ∈ F ∨ L0.getD j true = true → listed.getD j true = true) (Q := Q) ?_ F fuel L0 e' a w (fun i hi => ⟨hok'.fle i hi, hcF i hi⟩) htk ?_ hinv hcl hfr ho hfu
    · intro fuel listed e1 a w hT hi hcl1 hf ho hfu
      refine wpAny_draw (k := k) hok' (vals := vals) (e0 := e') (H := H) (H1 := H1) (c := c) (C := True) (by simpa using hck) (fun i o h1 h2 h3 => ⟨fun _ => (hq' i o h1 h2 h3).1, (hq' i o h1 h2 h3).2⟩) (fun _ => hc') ?_ fuel listed e1 a w ⟨hi.size, hi.shut, hi.rest, hi.got, hi.not, fun j hj => hT j (.inl hj)⟩ (hT f (.inr hlf)) (fun _ => trivial) hf (by rw [hpAt, hcl1]; exact ho) hfu
      intro a w hf ho
      simpa using hK a w (by simpa using hf) ho
    · intro j hj
      exact taken (fun i hi => by have := hok'.fle i hi; rw [hinv.size]; simp; omega) j hj
  have rep0 : (Array.replicate l.toArray.size false).getD c false = false := by
    rw [Array.getD_eq_getD_getElem?, Array.getElem?_replicate]; split <;> rfl
  have htk := hok'.take
  unfold firsts at htk
  cases hb : Nat.blt f l.length with
  | false =>
    have hge : l.length ≤ f := by
      rcases Nat.lt_or_ge f l.length with h | h
      · have : Nat.blt f l.length = true := by simpa [Nat.blt, Nat.succ_le_iff] using h
        rw [this] at hb; cases hb
      · exact h
    rw [show Nat.blt f l.toArray.size = false from by simpa using hb, cond_false] at htk
    rw [hb, cond_false] at h2
    exact rest e _ (by simpa using hq) (by simpa using hc) htk inv0 (by rw [Array.getD_eq_getD_getElem?, Array.getElem?_eq_none (by simp; omega)]; rfl) rep0 h2 _ a _ hfr ho.drew unl0
  | true =>
    have hlt : f < l.length := by simpa [Nat.blt, Nat.succ_le_iff] using hb
    rw [show Nat.blt f l.toArray.size = true from by simpa using hb, cond_true] at htk
    rw [hb, cond_true] at h2
    obtain ⟨hof, hd, hx⟩ := hf hlt
    have hof' : l.toArray[f]? = some ⟨some t, .move x, ty, pos, af, none⟩ := by simpa using hof
    have hflo := hok'.flo
    unfold floatOk at hflo
    simp only [hof', Bool.and_eq_true, decide_eq_true_eq, List.all_eq_true, List.mem_range, bne_iff_ne, ne_eq, Bool.not_eq_true'] at hflo
    obtain ⟨⟨hkf, _⟩, hno⟩ := hflo
    simp only [takeOk, Bool.and_eq_true] at htk
    obtain ⟨⟨⟨hr, hfree⟩, _⟩, htk⟩ := htk
    obtain ⟨hf1, hf2, hf3⟩ := mem_ready.1 (by simpa using hr : f ∈ Region.ready .any l.toArray (Array.replicate l.toArray.size false))
    have hun := unl_set hf1 (by simp) hf2
    have hev : ∀ i, i ≤ k → envAt l.toArray.toList vals (upd e t cv) i = upd (envAt l.toArray.toList vals e i) t cv := by
      intro i
      induction i with
      | zero => intro _; rfl
      | succ i ih =>
        intro hi
        rw [envAt, envAt, ih (by omega)]
        have hne : (l.toArray.toList[i]?).bind (·.dst) ≠ some t := by
          have := (hno i (by omega)).1
          simpa [dstAt] using this
        cases hdi : (l.toArray.toList[i]?).bind (·.dst) with
        | none => rfl
        | some u =>
          rw [hdi] at hne
          have hut : u ≠ t := fun h => hne (by rw [h])
          funext x
          simp only [putE, upd]
          by_cases hxu : x = u
          · subst hxu; simp [hut]
          · by_cases hxt : x = t
            · subst hxt; simp [hxu]
            · simp [hxu, hxt]
    suffices hall : ∀ fuel, (unl l.toArray (Array.replicate l.toArray.size false)).length ≤ fuel → wpAny P .any l.toArray (lift w0 n Q) fuel (Array.replicate l.toArray.size false) a w.drew from hall _ unl0
    intro fuel hfu
    cases fuel with
    | zero => omega
    | succ fuel =>
    refine wpAny_take (i := f) (oi := ⟨some t, .move x, ty, pos, af, none⟩) (v := cv) hof' hok'.nosel hfree hr (fun _ _ _ h => h.1.elim) (.inl ⟨rfl, fun w => by
      have h3 : (execOp a.eval ⟨some t, .move x, ty, pos, af, none⟩).run P w = .ok (.value (a.eval x)) w := rfl
      rw [h3, hfr.ev, hx]⟩) ?_
    refine rest (upd e t cv) _ ?_ ?_ htk ?_ ?_ ?_ ?_ fuel _ _ (hfr.put hd _) ho.drew (by omega)
    · intro i o hi hic hoo
      have hsm : ∀ u ∈ looks l.toArray i, envAt l vals e i u = upd (envAt l vals e i) t cv u := by
        intro u hu
        have := (hno i hi).2
        have hut : u ≠ t := fun h => by
          subst h
          have : (looks l.toArray i).contains u = true := by simpa using hu
          simp_all
        exact (upd_ne _ _ hut).symm
      rw [hev i (by omega)]
      obtain ⟨q1, q2⟩ := hq i o hi hic (by simpa using hoo)
      exact ⟨fun hr => (q1 hr).congr hoo (hok'.sel i o hoo) hsm, fun hck hr => (q2 hck hr).congr hoo (hok'.sel i o hoo) hsm⟩
    · intro o hck' hoo
      have hsm : ∀ u ∈ looks l.toArray c, envAt l vals e c u = upd (envAt l vals e c) t cv u := by
        intro u hu
        have := (hno c hck').2
        have hut : u ≠ t := fun h => by
          subst h
          have : (looks l.toArray c).contains u = true := by simpa using hu
          simp_all
        exact (upd_ne _ _ hut).symm
      rw [hev c (by omega)]
      exact (hc o hck' (by simpa using hoo)).congr hoo (hok'.sel c o hoo) hsm
    · refine ⟨by simp, ?_, ?_, ?_, fun _ _ => rfl, by simp⟩
      · intro m o hm hl ed he hbd
        rw [getDf_set (by simpa using hf1)]
        split
        · rfl
        · rw [getD_set (by simpa using hf1)] at hl
          by_cases hmi : m = f
          · subst hmi; exact hf3 o hm ed he hbd
          · rw [if_neg hmi] at hl; exact inv0.shut m o hm hl ed he hbd
      · intro j hj1 hj2 hjf
        rw [getD_set (by simpa using hf1), if_neg hjf]
        exact inv0.rest j hj1 hj2 hjf
      · intro j hj hl u hdu
        rw [getD_set (by simpa using hf1), if_neg (by omega)] at hl
        have hj2 : j < l.length := by omega
        simp [hj2] at hl
    · rw [getD_set (by simpa using hf1), if_pos rfl]
    · rw [getDf_set (by simpa using hf1), if_neg (by rcases hcf with h | h <;> omega)]
      exact rep0
    · have := hev k (Nat.le_refl _)
      simp only [] at this
      rw [show envAt l vals (upd e t cv) k = upd (envAt l vals e k) t cv from this]
      exact h2

theorem AW.drawC {id : Nat} {l : List Oper} {Q : Post} {e : Env} (F : List Nat) (k f : Nat) {t : Tmp} {x : Operand} {cv : Value} {ty : TypeId} {pos : String} {af : Array Edge} (hm : P.follows .mixedOrders = true) (hok : drawOk l.toArray F k f = true)
    (hf : f < l.length → l[f]? = some ⟨some t, .move x, ty, pos, af, none⟩ ∧ dstOk n (some t) = true ∧ D.ev e x = cv)
    (h : SeqQ P w0 n l.toArray H (l.take k) e fun e' => OpsW P w0 n l.toArray Q (tl f k (l.drop k)) (bif Nat.blt f l.length then upd e' t cv else e') H) : AW P w0 n (.region id l.toArray true) Q e H := by
  have hok' := DrawOk.of hok
  obtain ⟨vals, h1, h2⟩ := h.vals
  have hk : k ≤ l.length := by simpa using hok'.le
  have hlen : (l.take k).length = k := by simp; omega
  rw [hlen, envAt_take k (Nat.le_refl _)] at h2
  have hb : Nat.blt l.length k = false := by
    cases hh : Nat.blt l.length k with
    | false => rfl
    | true => exfalso; simp [Nat.blt] at hh; omega
  refine AW.drawE F k f l.length (H1 := H) hm hok hf (.inr (Nat.le_refl _)) (fun i hi => by have := hok'.fle i hi; omega) (.inr (Nat.le_refl _)) (vals := vals) ?_ (fun o h => by omega) (by rw [hb]; exact h2)
  intro i o hi _ hoo
  have := h1 i o (by rw [List.getElem?_take_of_lt hi]; exact hoo)
  rw [envAt_take i (by omega)] at this
  exact ⟨fun _ => this, fun _ _ => this⟩

theorem AW.draw {id : Nat} {l : List Oper} {Q : Post} {e : Env} (F : List Nat) (k : Nat) (hm : P.follows .mixedOrders = true) (hok : drawOk l.toArray F k l.length = true)
    (h : SeqQ P w0 n l.toArray H (l.take k) e fun e' => OpsW P w0 n l.toArray Q (l.drop k) e' H) : AW P w0 n (.region id l.toArray true) Q e H := by
  have hok' := DrawOk.of hok
  have hk : k ≤ l.length := by simpa using hok'.le
  refine AW.drawC F k l.length (t := 0) (x := .const undef) (cv := undef) (ty := 0) (pos := "") (af := #[]) hm hok (fun h => by omega) ?_
  have hb : Nat.blt l.length l.length = false := by
    cases hh : Nat.blt l.length l.length with
    | false => rfl
    | true => exfalso; simp [Nat.blt] at hh; omega
  rw [hb, tl_none (by simp; omega)]
  simpa using h
end
end Go.Proofs.Ytfiojlmccflplaa.D
