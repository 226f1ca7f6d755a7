/-
  A walk's rules: regions that draw their order: the theorem. No condition.
-/
import Derived.Test.YthdckldmlbeofaaD3
namespace Go.Proofs.Ythdckldmlbeofaa.D
open Go Go.RowKit
set_option linter.unusedVariables false
set_option linter.unusedSimpArgs false
section
variable {P : Program} {w0 : World} {n : Nat} {H : Hp}

theorem upd_same (e : Env) (t : Nat) (v : Value) : upd e t v t = v := by simp [upd]
theorem upd_ne (e : Env) {t u : Nat} (v : Value) (h : u ≠ t) : upd e t v u = e u := by simp [upd, h]
theorem putE_some (e : Env) (t : Nat) (v : Value) : putE e (some t) v t = v := upd_same ..
theorem putE_ne (e : Env) {d : Option Tmp} {u : Nat} (v : Value) (h : d ≠ some u) : putE e d v u = e u := by
  cases d with
  | none => rfl
  | some t => exact upd_ne e v (fun x => h (x ▸ rfl))

theorem envAt_not {l : List Oper} {vals : Nat → Value} {e : Env} {t : Nat} : ∀ i, (∀ j, j < i → (l[j]?).bind (·.dst) ≠ some t) → envAt l vals e i t = e t := by
  intro i
  induction i with
  | zero => intro _; rfl
  | succ i ih => intro h; rw [envAt, putE_ne _ _ (h i (by omega))]; exact ih fun j hj => h j (by omega)
theorem envAt_got {l : List Oper} {vals : Nat → Value} {e : Env} {t : Nat} {j : Nat} (hj : (l[j]?).bind (·.dst) = some t) : ∀ i, j < i → (∀ m, j < m → m < i → (l[m]?).bind (·.dst) ≠ some t) → envAt l vals e i t = vals j := by
  intro i
  induction i with
  | zero => intro h; omega
  | succ i ih =>
    intro h hm
    by_cases e : j = i
    · subst e; rw [envAt, hj, putE_some]
    · rw [envAt, putE_ne _ _ (hm i (by omega) (by omega))]
      exact ih (by omega) fun m h1 h2 => hm m h1 (by omega)

def unl (ops : Array Oper) (listed : Array Bool) : List Nat := (List.range ops.size).filter fun i => !listed.getD i true
theorem getD_set {listed : Array Bool} {i j : Nat} (hi : i < listed.size) : (listed.setIfInBounds i true).getD j true = (if j = i then true else listed.getD j true) := by
  by_cases h : j = i
  · subst h; simp [hi]
  · rw [if_neg h]; simp [Array.getElem?_setIfInBounds_ne (Ne.symm h)]
theorem getDf_set {listed : Array Bool} {i j : Nat} (hi : i < listed.size) : (listed.setIfInBounds i true).getD j false = (if j = i then true else listed.getD j false) := by
  by_cases h : j = i
  · subst h; simp [hi]
  · rw [if_neg h]; simp [Array.getElem?_setIfInBounds_ne (Ne.symm h)]
theorem unl_set {ops : Array Oper} {listed : Array Bool} {i : Nat} (hi : i < ops.size) (hs : listed.size = ops.size) (hl : listed.getD i true = false) :
    (unl ops (listed.setIfInBounds i true)).length < (unl ops listed).length := by
  have : unl ops (listed.setIfInBounds i true) = (unl ops listed).filter fun j => decide (j ≠ i) := by
    unfold unl
    rw [List.filter_filter]
    refine List.filter_congr fun j hj => ?_
    rw [getD_set (by omega)]
    by_cases h : j = i
    · subst h; simp
    · simp [h]
  rw [this, List.length_filter_lt_length_iff_exists]
  exact ⟨i, by simp only [unl, List.mem_filter, List.mem_range, hl]; exact ⟨hi, rfl⟩, by simp⟩

structure DrawOk (ops : Array Oper) (F : List Nat) (k : Nat) : Prop where
  le : k ≤ ops.size
  nosel : Region.noSelect ops = true
  take : takeOk ops F (Array.replicate ops.size false) = true
  fle : ∀ i ∈ F, i < k
  back : ∀ (i : Nat) (o : Oper), ops[i]? = some o → ∀ e ∈ o.after.toList, Region.binds .any e = true → e.on < i
  sel : ∀ (i : Nat) (o : Oper), ops[i]? = some o → isSelect o.op = false
  look : ∀ i, i < k → ∀ t ∈ looks ops i, ∀ j, j < k → dstAt ops j = some t → j ≠ i ∧ edge ops i j = true
  dist : ∀ i j t, i < k → j < k → dstAt ops i = some t → dstAt ops j = some t → i = j
  tail : ∀ i j, k ≤ i → i < ops.size → j < i → j ∈ F ∨ reach ops 16 i j = true
theorem DrawOk.of {ops : Array Oper} {F : List Nat} {k : Nat} (h : drawOk ops F k = true) : DrawOk ops F k := by
  unfold drawOk at h
  simp only [Bool.and_eq_true, decide_eq_true_eq, List.all_eq_true, List.mem_range] at h
  obtain ⟨⟨⟨⟨⟨⟨h1, hns⟩, htk⟩, hfl⟩, h2⟩, h3⟩, h4⟩ := h
  refine ⟨h1, hns, htk, hfl, ?_, ?_, ?_, ?_, ?_⟩
  · intro i o ho e he hb
    have hi : i < ops.size := (Array.getElem?_eq_some_iff.1 ho).1
    have := h2 i hi
    simp only [ho, Bool.and_eq_true, Array.all_eq_true] at this
    obtain ⟨m, hm, rfl⟩ := Array.getElem_of_mem (Array.mem_toList_iff.1 he)
    have := this.1 m hm
    simpa [hb] using this
  · intro i o ho
    have hi : i < ops.size := (Array.getElem?_eq_some_iff.1 ho).1
    have := h2 i hi
    simp only [ho, Bool.and_eq_true] at this
    simpa using this.2
  · intro i hi t ht j hj hd
    have := (h3 i hi).1 t ht j hj
    simpa [hd] using this
  · intro i j t hi hj hdi hdj
    have := (h3 i hi).2 j hj
    simp [hdi, hdj] at this
    exact this.symm
  · intro i j hk hi hj
    have := h4 i hi
    simp only [Bool.or_eq_true, decide_eq_true_eq, List.all_eq_true, List.mem_range] at this
    rcases this with h | h
    · omega
    · have := h j hj
      simpa [List.contains_iff_mem] using this

theorem mem_looks_op {ops : Array Oper} {i : Nat} {o : Oper} (ho : ops[i]? = some o) {t : Tmp} (h : .tmp t ∈ o.op.operands) : t ∈ looks ops i := by
  simp only [looks, ho, Oper.looksAt, List.mem_append, List.mem_filterMap]
  exact .inl ⟨.tmp t, by simpa using h, rfl⟩
theorem mem_looks_guard {ops : Array Oper} {i j : Nat} {o : Oper} {b : Bool} (ho : ops[i]? = some o) (hg : o.guard = some (j, b)) {t : Tmp} (h : dstAt ops j = some t) : t ∈ looks ops i := by
  simp only [looks, ho, Oper.looksAt, List.mem_append, hg]
  right
  simp only [dstAt] at h
  simp [h]

theorem QG.congr {ops : Array Oper} {i : Nat} {o : Oper} {e e' : Env} {v : Value} (ho : ops[i]? = some o) (hs : isSelect o.op = false) (h : ∀ t ∈ looks ops i, e t = e' t) (hq : QG P w0 n ops H e o v) : QG P w0 n ops H e' o v := by
  have h1 : Region.wanted o (yieldE ops e) = Region.wanted o (yieldE ops e') := by
    unfold Region.wanted
    cases hg : o.guard with
    | none => rfl
    | some gj =>
      obtain ⟨j, b⟩ := gj
      have : yieldE ops e j = yieldE ops e' j := by
        unfold yieldE
        cases hd : (ops[j]?).bind (·.dst) with
        | none => rfl
        | some t => simp only [h t (mem_looks_guard ho hg hd)]
      simp only [this]
  have h2 : execOp (ev e) o = execOp (ev e') o := by
    refine execOp_congr o ?_ ?_
    · intro cs b hh; rw [hh] at hs; cases hs
    · intro x hx
      cases x with
      | tmp t => exact h t (mem_looks_op ho hx)
      | _ => rfl
  obtain ⟨hd, hq⟩ := hq
  refine ⟨hd, ?_⟩
  rw [← h1]
  refine hq.imp (fun ⟨a, b⟩ => ⟨a, ?_⟩) id
  unfold QS OpR at *
  rw [← h2]
  exact b

theorem wpAny_tail {ops : Array Oper} {F : List Nat} {k : Nat} (hok : DrawOk ops F k) {Q : Exit → Act → World → Prop} :
    ∀ (fuel i : Nat) (listed : Array Bool) (a : Act) (w : World), k ≤ i → i ≤ ops.size → listed.size = ops.size → (∀ j, j < i → listed.getD j true = true) → (∀ j, i ≤ j → j < ops.size → listed.getD j true = false) →
      (unl ops listed).length ≤ fuel → wpList P ops Q (ops.toList.drop i) a w → wpAny P .any ops Q fuel listed a w := by
  intro fuel
  induction fuel with
  | zero =>
    intro i listed a w hk hi hs h1 h2 hf hw
    have hnil : unl ops listed = [] := List.eq_nil_of_length_eq_zero (by omega)
    have hi' : i = ops.size := by
      rcases Nat.lt_or_ge i ops.size with h | h
      · have : i ∈ unl ops listed := by simp only [unl, List.mem_filter, List.mem_range, h2 i (Nat.le_refl _) h]; exact ⟨h, rfl⟩
        rw [hnil] at this; cases this
      · omega
    subst hi'
    refine ⟨?_, by simpa [List.drop_of_length_le, wpList] using hw⟩
    rw [List.eq_nil_iff_forall_not_mem]
    intro j hj
    obtain ⟨hj1, hj2, _⟩ := mem_ready.1 hj
    rw [h1 j hj1] at hj2; cases hj2
  | succ fuel ih =>
    intro i listed a w hk hi hs h1 h2 hf hw
    have hready : ∀ j ∈ Region.ready .any ops listed, j = i := by
      intro j hj
      obtain ⟨hj1, hj2, hj3⟩ := mem_ready.1 hj
      rcases Nat.lt_trichotomy j i with h | h | h
      · rw [h1 j h] at hj2; cases hj2
      · exact h
      · have hsh : Shut ops listed := by
          intro m o hm hl e he hb
          have hmi : m < i := by
            rcases Nat.lt_or_ge m i with h | h
            · exact h
            · have := h2 m h (Array.getElem?_eq_some_iff.1 hm).1
              rw [this] at hl; cases hl
          have := hok.back m o hm e he hb
          have h3 := h1 e.on (by omega)
          simp only [Array.getD_eq_getD_getElem?] at h3 ⊢
          have : e.on < listed.size := by omega
          simpa [this] using h3
        have := hsh.reach 16 j i hj3 ((hok.tail j i (by omega) hj1 h).resolve_left fun hF => by have := hok.fle i hF; omega)
        have := getD_true this
        rw [h2 i (Nat.le_refl _) (by omega)] at this; cases this
    refine ⟨fun hnil => ?_, fun j hj => ?_⟩
    · have hi' : i = ops.size := by
        rcases Nat.lt_or_ge i ops.size with h | h
        · have : i ∈ Region.ready .any ops listed := by
            refine mem_ready.2 ⟨h, h2 i (Nat.le_refl _) h, ?_⟩
            intro o ho e he hb
            have hb := hok.back i o ho e he hb
            have h3 := h1 e.on hb
            simp only [Array.getD_eq_getD_getElem?] at h3 ⊢
            have : e.on < listed.size := by omega
            simpa [this] using h3
          rw [hnil] at this; cases this
        · omega
      subst hi'
      simpa [List.drop_of_length_le, wpList] using hw
    · obtain rfl := hready j hj
      obtain ⟨hj1, hj2, hj3⟩ := mem_ready.1 hj
      have hdrop : ops.toList.drop j = ops[j] :: ops.toList.drop (j + 1) := by
        rw [List.drop_eq_getElem_cons (by simpa using hj1)]; simp
      rw [hdrop] at hw
      unfold wpOp
      simp only [Array.getElem?_eq_getElem hj1]
      have next : ∀ a w, wpList P ops Q (ops.toList.drop (j + 1)) a w → wpAny P .any ops Q fuel (listed.setIfInBounds j true) a w := by
        intro a w h
        refine ih (j + 1) _ a w (by omega) (by omega) (by simpa using hs) ?_ ?_ ?_ h
        · intro m hm; rw [getD_set (by omega)]; split
          · rfl
          · exact h1 m (by omega)
        · intro m hm hm2; rw [getD_set (by omega), if_neg (by omega)]; exact h2 m (by omega) hm2
        · have := unl_set hj1 hs hj2; omega
      unfold wpList at hw
      split
      · rename_i hwant
        rw [if_pos hwant] at hw
        exact hw.imp (Oper.wp_mono next) id
      · rename_i hwant
        rw [if_neg hwant] at hw
        exact next _ _ hw

structure Inv (ops : Array Oper) (F : List Nat) (k : Nat) (vals : Nat → Value) (e0 : Env) (listed : Array Bool) (e : Env) : Prop where
  size : listed.size = ops.size
  shut : Shut ops listed
  rest : ∀ j, k ≤ j → j < ops.size → listed.getD j true = false
  got : ∀ j, j < k → listed.getD j true = true → ∀ t, dstAt ops j = some t → e t = vals j
  not : ∀ t, (∀ j, j < k → listed.getD j true = true → dstAt ops j ≠ some t) → e t = e0 t
  fl : ∀ j ∈ F, listed.getD j true = true

theorem envAt_hit {ops : Array Oper} {F : List Nat} {k : Nat} (hok : DrawOk ops F k) {vals : Nat → Value} {e0 : Env} {i j : Nat} {t : Tmp} (hj : j < k) (hi : i ≤ k) (hji : j < i) (hd : dstAt ops j = some t) :
    envAt ops.toList vals e0 i t = vals j := by
  have hdst : ∀ j, (ops.toList[j]?).bind (·.dst) = dstAt ops j := fun j => by simp [dstAt]
  refine envAt_got (by rw [hdst]; exact hd) i hji fun m h1 h2 hm => ?_
  rw [hdst] at hm
  have := hok.dist j m t hj (by omega) hd hm
  omega
theorem envAt_miss {ops : Array Oper} {vals : Nat → Value} {e0 : Env} {i : Nat} {t : Tmp} (h : ∀ j, j < i → dstAt ops j ≠ some t) : envAt ops.toList vals e0 i t = e0 t := by
  have hdst : ∀ j, (ops.toList[j]?).bind (·.dst) = dstAt ops j := fun j => by simp [dstAt]
  exact envAt_not i fun j hj => by rw [hdst]; exact h j hj

/-- A ready operation sees what it would see in the text's order. -/
theorem Inv.sees {ops : Array Oper} {F G : List Nat} {k : Nat} (hok : DrawOk ops F k) {vals : Nat → Value} {e0 e : Env} {listed : Array Bool} (hi : Inv ops G k vals e0 listed e)
    {i : Nat} (hi1 : i < ops.size) (hik : i < k) (hi3 : Waits ops listed i) : ∀ t ∈ looks ops i, envAt ops.toList vals e0 i t = e t := by
  intro t ht
  have hoi : ops[i]? = some ops[i] := Array.getElem?_eq_getElem hi1
  by_cases hex : ∃ j, j < k ∧ dstAt ops j = some t
  · obtain ⟨j, hj, hd⟩ := hex
    obtain ⟨hne, hed⟩ := hok.look i hik t ht j hj hd
    have hlj := hi3.edge hed
    have hji : j < i := by
      unfold D.edge at hed
      simp only [hoi, Array.any_eq_true, Bool.and_eq_true, beq_iff_eq] at hed
      obtain ⟨m, hm, rfl, hb⟩ := hed
      exact hok.back i _ hoi _ (by simp) hb
    rw [hi.got j hj (getD_true hlj) t hd, envAt_hit hok hj (by omega) hji hd]
  · have hne : ∀ j, j < k → dstAt ops j ≠ some t := fun j hj hd => hex ⟨j, hj, hd⟩
    rw [hi.not t fun j hj _ => hne j hj, envAt_miss fun j hj => hne j (by omega)]

theorem Inv.step {ops : Array Oper} {F G : List Nat} {k : Nat} (hok : DrawOk ops F k) {vals : Nat → Value} {e0 e : Env} {listed : Array Bool} (hi : Inv ops G k vals e0 listed e)
    {i : Nat} (hi1 : i < ops.size) (hik : i < k) (hi3 : Waits ops listed i) : Inv ops G k vals e0 (listed.setIfInBounds i true) (putE e ops[i].dst (vals i)) := by
  have hoi : ops[i]? = some ops[i] := Array.getElem?_eq_getElem hi1
  have hlt : i < listed.size := by rw [hi.size]; exact hi1
  refine ⟨by simpa using hi.size, ?_, ?_, ?_, ?_, ?_⟩
  · intro m o hm hl ed he hb
    rw [getDf_set hlt]
    split
    · rfl
    · rw [getD_set hlt] at hl
      by_cases hmi : m = i
      · subst hmi
        exact hi3 o hm ed he hb
      · rw [if_neg hmi] at hl
        exact hi.shut m o hm hl ed he hb
  · intro j hj1 hj2
    rw [getD_set hlt, if_neg (by omega)]
    exact hi.rest j hj1 hj2
  · intro j hj hl t hd
    by_cases hji : j = i
    · subst hji
      have : ops[j].dst = some t := by simpa [dstAt, hoi] using hd
      rw [this, putE_some]
    · rw [getD_set hlt, if_neg hji] at hl
      rw [putE_ne _ _ ?_]
      · exact hi.got j hj hl t hd
      · intro hh
        exact hji (hok.dist j i t hj hik hd (by simpa [dstAt, hoi] using hh))
  · intro t hh
    have hne : ops[i].dst ≠ some t := by
      have := hh i hik (by rw [getD_set hlt, if_pos rfl])
      simpa [dstAt, hoi] using this
    rw [putE_ne _ _ hne]
    refine hi.not t fun j hj hl => ?_
    refine hh j hj ?_
    rw [getD_set hlt]; split
    · rfl
    · exact hl
  · intro j hj
    rw [getD_set hlt]; split
    · rfl
    · exact hi.fl j hj

theorem wpAny_draw {ops : Array Oper} {F : List Nat} {k : Nat} (hok : DrawOk ops F k) {vals : Nat → Value} {e0 : Env}
    (hq : ∀ i o, i < k → ops[i]? = some o → QG P w0 n ops H (envAt ops.toList vals e0 i) o (vals i)) {Q : Exit → Act → World → Prop}
    (hK : ∀ a w, Fr n (envAt ops.toList vals e0 k) a → Own w0 H w → wpList P ops Q (ops.toList.drop k) a w) :
    ∀ (fuel : Nat) (listed : Array Bool) (e : Env) (a : Act) (w : World), Inv ops F k vals e0 listed e → Fr n e a → Own w0 H w → (unl ops listed).length ≤ fuel → wpAny P .any ops Q fuel listed a w := by
  have done : ∀ (fuel : Nat) (listed : Array Bool) (e : Env) (a : Act) (w : World), Inv ops F k vals e0 listed e → Fr n e a → Own w0 H w → (unl ops listed).length ≤ fuel →
      (∀ j, j < k → listed.getD j true = true) → wpAny P .any ops Q fuel listed a w := by
    intro fuel listed e a w hi hf ho hfuel hall
    have he : e = envAt ops.toList vals e0 k := by
      funext t
      by_cases hex : ∃ j, j < k ∧ dstAt ops j = some t
      · obtain ⟨j, hj, hd⟩ := hex
        rw [hi.got j hj (hall j hj) t hd, envAt_hit hok hj (Nat.le_refl _) hj hd]
      · have hne : ∀ j, j < k → dstAt ops j ≠ some t := fun j hj hd => hex ⟨j, hj, hd⟩
        rw [hi.not t fun j hj _ => hne j hj, envAt_miss hne]
    exact wpAny_tail hok fuel k listed a w (Nat.le_refl _) hok.le hi.size hall hi.rest hfuel (hK a w (he ▸ hf) ho)
  intro fuel
  induction fuel with
  | zero =>
    intro listed e a w hi hf ho hfuel
    refine done 0 listed e a w hi hf ho hfuel fun j hj => ?_
    cases hl : listed.getD j true with
    | true => rfl
    | false =>
      have hnil : unl ops listed = [] := List.eq_nil_of_length_eq_zero (by omega)
      have hle := hok.le
      have : j ∈ unl ops listed := by simp only [unl, List.mem_filter, List.mem_range, hl]; exact ⟨by omega, rfl⟩
      rw [hnil] at this; cases this
  | succ fuel ih =>
    intro listed e a w hi hf ho hfuel
    by_cases hall : ∀ j, j < k → listed.getD j true = true
    · exact done (fuel + 1) listed e a w hi hf ho hfuel hall
    have hle := hok.le
    -- the least that is not listed
    have hleast : ∃ j, j < k ∧ listed.getD j true = false ∧ ∀ m, m < j → listed.getD m true = true := by
      have : ∃ j, j < k ∧ listed.getD j true = false := by
        refine Classical.byContradiction fun hno => hall fun j hj => ?_
        cases hl : listed.getD j true with
        | true => rfl
        | false => exact (hno ⟨j, hj, hl⟩).elim
      obtain ⟨j, hj, hl⟩ := this
      induction j using Nat.strongRecOn with
      | _ j ihj =>
        by_cases hm : ∃ m, m < j ∧ listed.getD m true = false
        · obtain ⟨m, hm1, hm2⟩ := hm
          exact ihj m hm1 (by omega) hm2
        · refine ⟨j, hj, hl, fun m hmj => ?_⟩
          cases hl' : listed.getD m true with
          | true => rfl
          | false => exact (hm ⟨m, hmj, hl'⟩).elim
    have todf : ∀ m, m < ops.size → listed.getD m true = true → listed.getD m false = true := by
      intro m hm h3
      simp only [Array.getD_eq_getD_getElem?] at h3 ⊢
      have : m < listed.size := by rw [hi.size]; exact hm
      simpa [this] using h3
    refine ⟨fun hnil => ?_, fun i hir => ?_⟩
    · obtain ⟨j, hj, hl, hm⟩ := hleast
      have : j ∈ Region.ready .any ops listed := by
        refine mem_ready.2 ⟨by omega, hl, ?_⟩
        intro o hoo ed he hb
        have hb := hok.back j o hoo ed he hb
        exact todf _ (by omega) (hm _ hb)
      rw [hnil] at this; cases this
    · obtain ⟨hi1, hi2, hi3⟩ := mem_ready.1 hir
      have hik : i < k := by
        rcases Nat.lt_or_ge i k with h | h
        · exact h
        · obtain ⟨j, hj, hl, _⟩ := hleast
          have := hi.shut.reach 16 i j hi3 ((hok.tail i j h hi1 (by omega)).resolve_left fun hF => by have := hi.fl j hF; rw [hl] at this; cases this)
          have := getD_true this
          rw [hl] at this; cases this
      have hoi : ops[i]? = some ops[i] := Array.getElem?_eq_getElem hi1
      have hqe := (hq i _ hik hoi).congr hoi (hok.sel i _ hoi) (hi.sees hok hi1 hik hi3)
      have next : ∀ a' w', Fr n (putE e ops[i].dst (vals i)) a' → Own w0 H w' → wpAny P .any ops Q fuel (listed.setIfInBounds i true) a' w' := fun a' w' hf' ho' =>
        ih _ _ a' w' (hi.step hok hi1 hik hi3) hf' ho' (by have := unl_set hi1 hi.size hi2; omega)
      unfold wpOp
      simp only [hoi]
      rw [wanted_congr _ (hf.yielded ops)]
      obtain ⟨hd, hqq⟩ := hqe
      rcases hqq with ⟨hw, hs⟩ | ⟨hw, hv⟩
      · rw [if_pos hw]
        exact .inl (Res.wp (ops := ops) (Q := fun _ _ _ => False) hf ho hs fun v H' w' hr ho' => by
          obtain ⟨rfl, rfl⟩ := hr
          exact next _ _ (hf.put hd _) ho')
      · rw [if_neg (by simp [hw]), ← hv]
        exact next _ _ (hf.put hd _) ho

theorem wpAny_takes {ops : Array Oper} {F : List Nat} {k : Nat} (hok : DrawOk ops F k) {vals : Nat → Value} {e0 : Env}
    (hq : ∀ i o, i < k → ops[i]? = some o → QG P w0 n ops H (envAt ops.toList vals e0 i) o (vals i)) {Q : Post} {T : Array Bool → Prop}
    (hK : ∀ fuel listed e a w, T listed → Inv ops [] k vals e0 listed e → Fr n e a → Own w0 H w → (unl ops listed).length ≤ fuel → wpAny P .any ops (lift w0 n Q) fuel listed a w) :
    ∀ (G : List Nat) (fuel : Nat) (listed : Array Bool) (e : Env) (a : Act) (w : World), (∀ i ∈ G, i < k) → takeOk ops G listed = true → T (G.foldl (fun l i => l.setIfInBounds i true) listed) →
      Inv ops [] k vals e0 listed e → Fr n e a → Own w0 H w → (unl ops listed).length ≤ fuel → wpAny P .any ops (lift w0 n Q) fuel listed a w := by
  intro G
  induction G with
  | nil => intro fuel listed e a w _ _ hT hi hf ho hfu; exact hK fuel listed e a w hT hi hf ho hfu
  | cons i G ih =>
    intro fuel listed e a w hlt htk hT hi hf ho hfu
    simp only [takeOk, Bool.and_eq_true] at htk
    obtain ⟨⟨⟨hr, hfree⟩, hmv⟩, htk⟩ := htk
    obtain ⟨hi1, hi2, hi3⟩ := mem_ready.1 (by simpa using hr : i ∈ Region.ready .any ops listed)
    have hik := hlt i (by simp)
    have hoi : ops[i]? = some ops[i] := Array.getElem?_eq_getElem hi1
    have hqe := (hq i _ hik hoi).congr hoi (hok.sel i _ hoi) (hi.sees hok hi1 hik hi3)
    have hun := unl_set hi1 hi.size hi2
    cases fuel with
    | zero => omega
    | succ fuel =>
      simp only [hoi] at hmv
      obtain ⟨hd, hqq⟩ := hqe
      refine wpAny_take (i := i) (oi := ops[i]) (v := vals i) hoi hok.nosel hfree hr (fun _ _ _ h => h.1.elim) ?_ ?_
      · generalize hoe : ops[i] = o at hmv hqq
        obtain ⟨dst, op, ty, pos, af, g⟩ := o
        cases op <;> simp only [isMove] at hmv <;> try cases hmv
        rename_i x
        cases g with
        | some _ => cases hmv
        | none =>
          rcases hqq with ⟨_, hs⟩ | ⟨hw, _⟩
          · have h1 := hs w ho
            have h2 : (execOp (D.ev e) ⟨dst, .move x, ty, pos, af, none⟩).run P w = .ok (.value (D.ev e x)) w := rfl
            rw [h2] at h1
            obtain ⟨H', ho', hv, _⟩ := h1
            refine .inl ⟨rfl, fun w => ?_⟩
            have h3 : (execOp a.eval ⟨dst, .move x, ty, pos, af, none⟩).run P w = .ok (.value (a.eval x)) w := rfl
            rw [h3, hf.ev, hv]
          · cases hw
      · exact ih fuel _ _ _ w (fun j hj => hlt j (by simp [hj])) htk hT (hi.step hok hi1 hik hi3) (hf.put hd _) ho (by omega)

theorem taken {G : List Nat} : ∀ {listed : Array Bool}, (∀ i ∈ G, i < listed.size) → ∀ j, (j ∈ G ∨ listed.getD j true = true) → (G.foldl (fun l i => l.setIfInBounds i true) listed).getD j true = true := by
  induction G with
  | nil => intro listed _ j h; exact h.resolve_left (by simp)
  | cons i G ih =>
    intro listed hG j h
    refine ih (fun m hm => by simpa using hG m (by simp [hm])) j ?_
    rw [getD_set (hG i (by simp))]
    by_cases hj : j = i
    · exact .inr (by simp [hj])
    · rw [if_neg hj]
      rcases h with h | h
      · exact .inl ((List.mem_cons.1 h).resolve_left hj)
      · exact .inr h

theorem SeqQ.take {ops : Array Oper} {l : List Oper} {e : Env} {K : Env → Prop} (h : SeqQ P w0 n ops H l e K) : ∃ vals : Nat → Value, (∀ i o, l[i]? = some o → QG P w0 n ops H (envAt l vals e i) o (vals i)) ∧ K (envAt l vals e l.length) := h.vals

theorem envAt_take {l : List Oper} {k : Nat} {vals : Nat → Value} {e : Env} : ∀ i, i ≤ k → envAt (l.take k) vals e i = envAt l vals e i := by
  intro i
  induction i with
  | zero => intro _; rfl
  | succ i ih => intro h; rw [envAt, envAt, ih (by omega), List.getElem?_take_of_lt (by omega)]

theorem AW.draw {id : Nat} {l : List Oper} {Q : Post} {e : Env} (F : List Nat) (k : Nat) (hm : P.follows .mixedOrders = true) (hok : drawOk l.toArray F k = true)
    (h : SeqQ P w0 n l.toArray H (l.take k) e fun e' => OpsW P w0 n l.toArray Q (l.drop k) e' H) : AW P w0 n (.region id l.toArray true) Q e H := by
  have hok' := DrawOk.of hok
  obtain ⟨vals, h1, h2⟩ := h.vals
  have hk : k ≤ l.length := by simpa using hok'.le
  have hlen : (l.take k).length = k := by simp; omega
  rw [hlen, envAt_take k (Nat.le_refl _)] at h2
  intro a w hf ho
  refine wp_region_any hm ?_
  have hq : ∀ i o, i < k → l.toArray[i]? = some o → QG P w0 n l.toArray H (envAt l.toArray.toList vals e i) o (vals i) := by
    intro i o hi hoo
    have := h1 i o (by rw [List.getElem?_take_of_lt hi]; simpa using hoo)
    rw [envAt_take i (by omega)] at this
    simpa using this
  refine wpAny_takes (F := F) (k := k) hok' (vals := vals) (e0 := e) (H := H) hq (T := fun listed => ∀ j ∈ F, listed.getD j true = true) (Q := Q) ?_ F _ _ e a _ hok'.fle hok'.take ?_ ⟨by simp, ?_, ?_, ?_, ?_, by simp⟩ hf ho.drew ?_
  · intro fuel listed e1 a w hT hi hf ho hfu
    refine wpAny_draw (k := k) hok' (vals := vals) (e0 := e) (H := H) hq ?_ fuel listed e1 a w ⟨hi.size, hi.shut, hi.rest, hi.got, hi.not, hT⟩ hf ho hfu
    intro a w hf ho
    simpa using h2 a w (by simpa using hf) ho
  · intro j hj
    exact taken (fun i hi => by have := hok'.fle i hi; simp; omega) j (.inl hj)
  · intro i o hoo hl ed he hb
    have hi : i < l.toArray.size := (Array.getElem?_eq_some_iff.1 hoo).1
    have hi2 : i < l.length := by simpa using hi
    simp [hi2] at hl
  · intro j _ hj
    have hj2 : j < l.length := by simpa using hj
    simp [hj2]
  · intro j hj hl
    have hj2 : j < l.length := by omega
    simp [hj2] at hl
  · intro t _; rfl
  · unfold unl
    have := List.length_filter_le (fun i => !(Array.replicate l.toArray.size false).getD i true) (List.range l.toArray.size)
    simpa using this
end
end Go.Proofs.Ythdckldmlbeofaa.D
