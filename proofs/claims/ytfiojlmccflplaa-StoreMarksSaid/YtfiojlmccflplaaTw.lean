/-
  A tape as a piece of what is owned; the walks of package tape in this form.
-/
import Derived.Test.YtfiojlmccflplaaDS
import Derived.Test.YtfiojlmccflplaaTa
import Derived.Test.YtfiojlmccflplaaTr
namespace Go.Proofs.Ytfiojlmccflplaa
open Go Go.RowKit D
set_option linter.unusedVariables false
set_option linter.unusedSimpArgs false
set_option maxHeartbeats 1000000
def tapeA (b : Nat) (s : TapeS) : Hp → Prop := fun h => ∃ fv lv, TapeAt emp h b s fv lv
abbrev tapeC (b : Nat) (s : TapeS) : Chunk := .pred (tapeA b s)
section
variable {w0 : World} {H0 H : Hp} {b : Nat} {s : TapeS}
theorem vblock_owned {v : Value} {el : TypeId} {sz n : Nat} {cs : List Value} (h : Vec H el sz v n cs) {c : Nat} (hc : vblock v = some c) : ∃ o, H c = some o := by
  rcases h with ⟨rfl, _⟩ | ⟨b, cap, q, rfl, h2, _⟩
  · simp [vblock] at hc
  · simp [vblock] at hc; subst hc; exact ⟨q, h2⟩
theorem tape_in (h : Sep H0 [tapeC b s] H) : TapeR H0 H b s := by
  obtain ⟨h1, h2, a, l1, l2, ⟨g, hg, fv, lv, hT⟩, hl⟩ := h
  have hgH : g.le H := Hp.le_trans hg l1
  have out : ∀ c o, g c = some o → H0 c = none := fun c o hc => Hp.le_none hl ((a c).resolve_left (by rw [hg c o hc]; simp))
  refine ⟨fv, lv, hgH _ _ hT.at', hT.vf.le hgH, hT.vl.le hgH, Hp.le_trans hl l2, out _ _ hT.at', ?_, ?_, hT.bf, hT.bl, hT.fl⟩
  · intro c hc; obtain ⟨o, ho⟩ := vblock_owned hT.vf hc; exact out c o ho
  · intro c hc; obtain ⟨o, ho⟩ := vblock_owned hT.vl hc; exact out c o ho
theorem tape_out (h : TapeR H0 H b s) : Sep H0 [tapeC b s] H := by
  obtain ⟨fv, lv, hT⟩ := h
  classical
  let D : Nat → Prop := fun c => c = b ∨ vblock fv = some c ∨ vblock lv = some c
  refine ⟨fun c => if D c then H c else none, fun c => if D c then none else H c, ?_, ?_, ?_, ⟨_, Hp.le_refl _, fv, lv, ?_, ?_, ?_, ?_, rfl, fun _ _ => rfl, fun _ _ => rfl, hT.bf, hT.bl, hT.fl⟩, ?_⟩
  · intro c
    by_cases h : D c
    · exact .inr (if_pos h)
    · exact .inl (if_neg h)
  · intro c o hc
    by_cases h : D c
    · simp only [if_pos h] at hc; exact hc
    · simp only [if_neg h] at hc; cases hc
  · intro c o hc
    by_cases h : D c
    · simp only [if_pos h] at hc; cases hc
    · simp only [if_neg h] at hc; exact hc
  · show (if D b then H b else none) = _
    rw [if_pos (.inl rfl)]; exact hT.at'
  · exact hT.vf.keep fun c o hc ho => by show (if D c then H c else none) = _; rw [if_pos (.inr (.inl hc))]; exact ho
  · exact hT.vl.keep fun c o hc ho => by show (if D c then H c else none) = _; rw [if_pos (.inr (.inr hc))]; exact ho
  · intro c o hc; simp [emp] at hc
  · intro c o hc
    have hn : ¬ D c := by
      rintro (rfl | h | h)
      · rw [hT.nb] at hc; cases hc
      · rw [hT.nf c h] at hc; cases hc
      · rw [hT.nl c h] at hc; cases hc
    show (if D c then none else H c) = _
    rw [if_neg hn]; exact hT.le c o hc
abbrev PT (b : Nat) : Value := .pointer (some ⟨b, 0, none⟩)
theorem Append_s (h : Sep H0 [tapeC b s] H) (hok : TapeOk s) (d : List UInt8) (hd : d.length ≤ 1073741824) : Con Try.prog w0 31 #[PT b, S d] H (fun v H' => v = .int .i64 (appendP s d).1 ∧ Sep H0 [tapeC b (appendP s d).2] H') := by
  obtain ⟨fv, lv, hT⟩ := tape_in h
  exact (Append_con hT hok d hd).mono fun _ _ ⟨h1, h2⟩ => ⟨h1, tape_out h2⟩
theorem Sync_s (h : Sep H0 [tapeC b s] H) (hok : TapeOk s) : Con Try.prog w0 46 #[PT b] H (fun v H' => v = .int .i64 (syncP s).1 ∧ Sep H0 [tapeC b (syncP s).2] H') := by
  obtain ⟨fv, lv, hT⟩ := tape_in h
  exact (Sync_con hT hok).mono fun _ _ ⟨h1, h2⟩ => ⟨h1, tape_out h2⟩
theorem Cut_s (h : Sep H0 [tapeC b s] H) (hok : TapeOk s) (x : Int) : Con Try.prog w0 45 #[PT b, .int .i64 x] H (fun v H' => v = .int .i64 (cutP s x).1 ∧ Sep H0 [tapeC b (cutP s x).2] H') := by
  obtain ⟨fv, lv, hT⟩ := tape_in h
  exact (Cut_con hT hok x).mono fun _ _ ⟨h1, h2⟩ => ⟨h1, tape_out h2⟩
theorem Crash_s (h : Sep H0 [tapeC b s] H) (hok : TapeOk s) (x : Int) (sp : Bool) : Con Try.prog w0 22 #[PT b, .int .i64 x, .bool sp] H (fun v H' => v = .tuple #[] ∧ Sep H0 [tapeC b (crashP s x sp)] H') := by
  obtain ⟨fv, lv, hT⟩ := tape_in h
  exact (Crash_con hT hok x sp).mono fun _ _ ⟨h1, h2⟩ => ⟨h1, tape_out h2⟩
theorem Arm_s (h : Sep H0 [tapeC b s] H) (x : Int) : Con Try.prog w0 21 #[PT b, .int .i64 x] H (fun v H' => v = .tuple #[] ∧ Sep H0 [tapeC b (armP s x)] H') := by
  obtain ⟨fv, lv, hT⟩ := tape_in h
  exact (Arm_con hT x).mono fun _ _ ⟨h1, h2⟩ => ⟨h1, tape_out ⟨fv, lv, by rw [h2]; exact hT.put (ar := max x 0) (dd := s.dd)⟩⟩
theorem Read_s {L : List Chunk} {F : Chunk → List Chunk} (h : Sep H0 L H) (hA : At L (tapeC b s) F) (hok : TapeOk s) : Con Try.prog w0 24 #[PT b] H (fun v H' => v = .tuple #[S (readP s).1, .int .i64 (readP s).2] ∧ H' = H) := by
  obtain ⟨Hf, _, h1, _⟩ := h.framed hA
  obtain ⟨fv, lv, hT⟩ := tape_in h1
  exact Read_con hT hok
theorem Dead_s {L : List Chunk} {F : Chunk → List Chunk} (h : Sep H0 L H) (hA : At L (tapeC b s) F) : Con Try.prog w0 34 #[PT b] H (fun v H' => v = .bool s.dd ∧ H' = H) := by
  obtain ⟨Hf, _, h1, _⟩ := h.framed hA
  obtain ⟨fv, lv, hT⟩ := tape_in h1
  exact Dead_con hT
/-- A tape of so many bytes, with nothing on it. -/
def tape0 (n : Int) : TapeS := ⟨n, [], [], 0, false⟩
theorem tape_new {n : Int} {L : List Chunk} (h : Sep H0 (.blk b ⟨tcells (tape0 n) nilV nilV, 5, 83⟩ :: L) H) : Sep H0 (tapeC b (tape0 n) :: L) H := by
  obtain ⟨h1, h2, a, l1, l2, e, f⟩ := h
  refine ⟨h1, h2, a, l1, l2, ⟨h1, Hp.le_refl _, nilV, nilV, e, .inl ⟨rfl, rfl, rfl⟩, .inl ⟨rfl, rfl, rfl⟩, ?_, rfl, fun _ _ => rfl, fun _ _ => rfl, ?_, ?_, ?_⟩, f⟩
  · intro c o hc; simp [emp] at hc
  · simp [vblock]
  · simp [vblock]
  · simp [vblock]
/-! the document's tape -/
variable {r : RefS}
theorem AppendR_s (h : Sep H0 [.blk b (rblk r)] H) (hok : RefOk r) (d : List UInt8) (hd : d.length ≤ 1073741824) : Con Try.prog w0 32 #[PT b, S d] H (fun v H' => v = .int .i64 (appendR r d).1 ∧ Sep H0 [.blk b (rblk (appendR r d).2)] H') :=
  (appendR_con (h.blk at0) hok d hd).mono fun _ _ ⟨h1, h2⟩ => ⟨h1, by rw [h2]; exact h.set at0⟩
theorem SyncR_s (h : Sep H0 [.blk b (rblk r)] H) (hok : RefOk r) : Con Try.prog w0 50 #[PT b] H (fun v H' => v = .int .i64 (syncR r).1 ∧ Sep H0 [.blk b (rblk (syncR r).2)] H') :=
  (syncR_con (h.blk at0) hok).mono fun _ _ ⟨h1, h2⟩ => ⟨h1, by rw [h2]; exact h.set at0⟩
theorem CutR_s (h : Sep H0 [.blk b (rblk r)] H) (hok : RefOk r) (x : Int) : Con Try.prog w0 49 #[PT b, .int .i64 x] H (fun v H' => v = .int .i64 (cutR r x).1 ∧ Sep H0 [.blk b (rblk (cutR r x).2)] H') :=
  (cutR_con (h.blk at0) hok x).mono fun _ _ ⟨h1, h2⟩ => ⟨h1, by rw [h2]; exact h.set at0⟩
theorem ArmR_s (h : Sep H0 [.blk b (rblk r)] H) (hok : RefOk r) (x : Int) : Con Try.prog w0 28 #[PT b, .int .i64 x] H (fun v H' => v = .tuple #[] ∧ Sep H0 [.blk b (rblk (armR r x))] H') :=
  (armR_con (h.blk at0) hok x).mono fun _ _ ⟨h1, h2⟩ => ⟨h1, by rw [h2]; exact h.set at0⟩
theorem ReadR_s {L : List Chunk} {F : Chunk → List Chunk} (h : Sep H0 L H) (hA : At L (.blk b (rblk r)) F) (hok : RefOk r) : Con Try.prog w0 33 #[PT b] H (fun v H' => v = .tuple #[S (readR r).1, .int .i64 (readR r).2] ∧ H' = H) := readR_con (h.blk hA) hok
theorem DeadR_s {L : List Chunk} {F : Chunk → List Chunk} (h : Sep H0 L H) (hA : At L (.blk b (rblk r)) F) (hok : RefOk r) : Con Try.prog w0 35 #[PT b] H (fun v H' => v = .bool r.dd ∧ H' = H) := deadR_con (h.blk hA) hok
end
end Go.Proofs.Ytfiojlmccflplaa
