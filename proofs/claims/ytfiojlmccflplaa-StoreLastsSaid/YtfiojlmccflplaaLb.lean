/-
  The proof's texts, joined, without what the statements do not reach: part 2 of 5. No condition.
-/
import Derived.WalkKit
import Derived.KernelRfl
import Derived.Lib.ConvBytes
import Derived.WalkSpells
import Derived.WalkLawsBesides
import Derived.ProofKit
import Derived.ChangeMaps5
import Derived.ChangeSlices
import Derived.Deep.Strs
import Derived.DataElems
import Derived.OpenShut
import Derived.Test.YtfiojlmccflplaaProg
import Derived.MapKept
import Derived.Laws.StructEq
import Derived.Test.YtfiojlmccflplaaLa
section
namespace Go.Proofs.Ytfiojlmccflplaa
open Go Go.RowKit D
set_option linter.unusedVariables false
set_option linter.unusedSimpArgs false
set_option maxRecDepth 100000
set_option maxHeartbeats 1000000
def kL : List Int := [4794697086780616226, 8158064640168781261, 13096744586834688815, 16840607885511220156, 4131703408338449720, 6480981068601479193, 10538285296894168987, 12329834152419229976, 15566598209576043074, 1334009975649890238, 2608012711638119052, 6128411473006802146, 8268148722764581231, 9286055187155687089, 11230858885718282805, 13951009754708518548, 16472876342353939154, 17275323862435702243, 1135362057144423861, 2597628984639134821, 3308224258029322869, 5365058923640841347, 6679025012923562964, 8573033837759648693, 10970295158949994411, 12119686244451234320, 12683024718118986047, 13788192230050041572, 14330467153632333762, 15395433587784984357, 489312712824947311, 1452737877330783856, 2861767655752347644, 3322285676063803686, 5560940570517711597, 5996557281743188959, 7280758554555802590, 8532644243296465576, 9350256976987008742, 10552545826968843579, 11727347734174303076, 12113106623233404929, 14000437183269869457, 14369950271660146224, 15101387698204529176, 15463397548674623760, 17586052441742319658, 1182934255886127544, 1847814050463011016, 2177327727835720531, 2830643537854262169, 3796741975233480872, 4115178125766777443, 5681478168544905931, 6601373596472566643, 7507060721942968483, 8399075790359081724, 8693463985226723168, 9568029438360202098, 10144078919501101548, 10430055236837252648, 11840083180663258601, 13761210420658862357, 14299343276471374635, 14566680578165727644, 15097957966210449927, 16922976911328602910, 17689382322260857208, 500013540394364858, 748580250866718886, 1242879168328830382, 1977374033974150939, 2944078676154940804, 3659926193048069267, 4368137639120453308, 4836135668995329356, 5532061633213252278, 6448918945643986474, 6902733635092675308, 7801388544844847127]
def stL0 : List Int := [7640891576956012808, 13503953896175478587, 4354685564936845355, 11912009170470909681, 5840696475078001361, 11170449401992604703, 2270897969802886507, 6620516959819538809]
theorem kL_length : kL.length = 80 := rfl
def rt (x n : Int) : Int := ior .u32 (x / 2 ^ min n.toNat IntKind.u32.bits) (IntKind.u32.wrap (x * 2 ^ min (32 - n).toNat IntKind.u32.bits))
def mix3 (x a b c : Int) : Int := ixor .u32 (ixor .u32 (rt x a) (rt x b)) (x / 2 ^ min c.toNat IntKind.u32.bits)
def whl (x a b c : Int) : Int := ixor .u32 (ixor .u32 (rt x a) (rt x b)) (rt x c)
def w32 (x : Int) : Int := IntKind.u32.wrap x
theorem w32_eq (x : Int) : IntKind.u32.wrap x = w32 x := rfl
def wordB (s : List UInt8) (o : Nat) : Int := bt s o * 16777216 + bt s (o + 1) * 65536 + bt s (o + 2) * 256 + bt s (o + 3)
theorem or32 {a b : Int} (i : Nat) (hi : i ≤ 31) (ha : 0 ≤ a) (h1 : a < 2 ^ i) (hb : 0 ≤ b) (h2 : b * 2 ^ i < 4294967296) : ior .u32 (b * 2 ^ i) a = a + b * 2 ^ i := by
  obtain ⟨x, rfl⟩ := Int.eq_ofNat_of_zero_le ha
  obtain ⟨y, rfl⟩ := Int.eq_ofNat_of_zero_le hb
  have e : ((y : Int) * 2 ^ i) = ((y * 2 ^ i : Nat) : Int) := by rw [Int.natCast_mul, Int.natCast_pow]; rfl
  rw [e] at h2 ⊢
  have h1' : x < 2 ^ i := by
    have : ((x : Nat) : Int) < ((2 ^ i : Nat) : Int) := by rw [Int.natCast_pow]; exact h1
    exact Int.ofNat_lt.1 this
  have hx : x < 2 ^ 32 := Nat.lt_of_lt_of_le h1' (Nat.pow_le_pow_right (by decide) (by omega))
  have hy : y * 2 ^ i < 2 ^ 32 := by
    have : ((y * 2 ^ i : Nat) : Int) < ((2 ^ 32 : Nat) : Int) := h2
    exact Int.ofNat_lt.1 this
  unfold ior
  rw [show IntKind.u32.bits = 32 from rfl, wrap_u32, BitVec.toNat_or, bv_nat 32 _ hy, bv_nat 32 _ hx, Nat.or_comm, or_add h1']
  have hlt : x + y * 2 ^ i < 2 ^ 32 := by
    rw [← or_add h1']; exact Nat.or_lt_two_pow hx hy
  have hlt' : ((x + y * 2 ^ i : Nat) : Int) < 4294967296 := Int.ofNat_lt.2 hlt
  rw [Int.emod_eq_of_lt (Int.natCast_nonneg _) hlt', Int.natCast_add]
/-- A block's words, and those that follow of them. -/
def nextW (l : List Int) (t : Nat) : Int := w32 (w32 (w32 (l.getD (t - 16) 0 + l.getD (t - 7) 0) + mix3 (l.getD (t - 15) 0) 7 18 3) + mix3 (l.getD (t - 2) 0) 17 19 10)
def wsK (s : List UInt8) : Nat → List Int
  | 0 => []
  | t + 1 => wsK s t ++ [if t < 16 then wordB s (4 * t) else nextW (wsK s t) t]
theorem wsK_succ (s : List UInt8) (t : Nat) : wsK s (t + 1) = wsK s t ++ [if t < 16 then wordB s (4 * t) else nextW (wsK s t) t] := rfl
theorem wsK_lo (s : List UInt8) {t : Nat} (h : t < 16) : wsK s (t + 1) = wsK s t ++ [wordB s (4 * t)] := by rw [wsK_succ, if_pos h]
theorem wsK_hi (s : List UInt8) {t : Nat} (h : ¬ t < 16) : wsK s (t + 1) = wsK s t ++ [nextW (wsK s t) t] := by rw [wsK_succ, if_neg h]
theorem wsK_length (s : List UInt8) (t : Nat) : (wsK s t).length = t := by
  induction t with
  | zero => rfl
  | succ t ih => rw [wsK_succ, List.length_append, ih]; rfl
/-- The first bytes of a word. -/
def wpK (s : List UInt8) (o : Nat) : Nat → Int
  | 0 => 0
  | i + 1 => wpK s o i * 256 + bt s (o + i)
theorem wpK_zero (s : List UInt8) (o : Nat) : wpK s o 0 = 0 := rfl
theorem wpK_succ (s : List UInt8) (o i : Nat) : wpK s o (i + 1) = wpK s o i * 256 + bt s (o + i) := rfl
theorem wpK_four (s : List UInt8) (o : Nat) : wpK s o 4 = wordB s o := by
  simp only [wpK_succ, wpK_zero]; unfold wordB; simp only [Nat.add_zero]; omega
theorem wpK_range (s : List UInt8) (o : Nat) : ∀ i, 0 ≤ wpK s o i ∧ wpK s o i < 256 ^ i := by
  intro i
  induction i with
  | zero => exact ⟨by rw [wpK_zero]; decide, by rw [wpK_zero]; decide⟩
  | succ i ih =>
    have := bt_range s (o + i)
    rw [wpK_succ, Int.pow_succ]
    generalize (256 : Int) ^ i = q at *
    omega
theorem wp_step (s : List UInt8) (o : Nat) {i : Nat} (h : i < 4) : ior .u32 (IntKind.u32.wrap (wpK s o i * 2 ^ 8)) (IntKind.u32.wrap (bt s (o + i))) = wpK s o (i + 1) := by
  have h1 := wpK_range s o i
  have h2 := bt_range s (o + i)
  have h3 : (256 : Int) ^ i ≤ 256 ^ 3 := by
    have : (256 : Nat) ^ i ≤ 256 ^ 3 := Nat.pow_le_pow_right (by decide) (by omega)
    have e : ((256 ^ i : Nat) : Int) ≤ ((256 ^ 3 : Nat) : Int) := Int.ofNat_le.2 this
    simpa using e
  have e3 : (256 : Int) ^ 3 = 16777216 := by decide
  rw [wrap_u32, wrap_u32, Int.emod_eq_of_lt (by omega) (by omega), Int.emod_eq_of_lt (by omega) (by omega), or32 8 (by decide) (by omega) (by omega) (by omega) (by omega), wpK_succ]
  omega
def kW (t : Nat) : Int := w32 (kL.getD t 0 / 2 ^ 32)
def notW (x : Int) : Int := ixor .u32 IntKind.u32.max x
def chW (e f g : Int) : Int := ixor .u32 (iand .u32 e f) (iand .u32 (notW e) g)
def majW (a b c : Int) : Int := ixor .u32 (ixor .u32 (iand .u32 a b) (iand .u32 a c)) (iand .u32 b c)
def uW (v : List Int) (k w : Int) : Int := w32 (w32 (w32 (w32 (v.getD 7 0 + whl (v.getD 4 0) 6 11 25) + chW (v.getD 4 0) (v.getD 5 0) (v.getD 6 0)) + k) + w)
def oW (v : List Int) : Int := w32 (whl (v.getD 0 0) 2 13 22 + majW (v.getD 0 0) (v.getD 1 0) (v.getD 2 0))
def rndW (v : List Int) (k w : Int) : List Int := [w32 (uW v k w + oW v), v.getD 0 0, v.getD 1 0, v.getD 2 0, w32 (v.getD 3 0 + uW v k w), v.getD 4 0, v.getD 5 0, v.getD 6 0]
def prK (h : List Int) (s : List UInt8) : Nat → List Int
  | 0 => h
  | t + 1 => rndW (prK h s t) (kW t) ((wsK s 64).getD t 0)
theorem prK_succ (h : List Int) (s : List UInt8) (t : Nat) : prK h s (t + 1) = rndW (prK h s t) (kW t) ((wsK s 64).getD t 0) := rfl
theorem prK_length {h : List Int} (hh : h.length = 8) (s : List UInt8) (t : Nat) : (prK h s t).length = 8 := by
  cases t with
  | zero => exact hh
  | succ t => rfl
def addW (h v : List Int) : Nat → List Int
  | 0 => h
  | i + 1 => (addW h v i).set i (w32 ((addW h v i).getD i 0 + v.getD i 0))
theorem addW_succ (h v : List Int) (i : Nat) : addW h v (i + 1) = (addW h v i).set i (w32 ((addW h v i).getD i 0 + v.getD i 0)) := rfl
theorem addW_length (h v : List Int) (i : Nat) : (addW h v i).length = h.length := by
  induction i with
  | zero => rfl
  | succ i ih => rw [addW_succ, List.length_set, ih]
def pressW (h : List Int) (s : List UInt8) : List Int := addW h (prK h s 64) 8
theorem pressW_length {h : List Int} (hh : h.length = 8) (s : List UInt8) : (pressW h s).length = 8 := by rw [pressW, addW_length, hh]
def pads (n : Nat) : Nat := (119 - n % 64) % 64
def begB (d : List UInt8) (j : Nat) : List UInt8 := d ++ [128] ++ List.replicate j 0
theorem begB_length (d : List UInt8) (j : Nat) : (begB d j).length = d.length + 1 + j := by simp [begB]; omega
theorem begB_zero (d : List UInt8) : begB d 0 = d ++ [128] := by simp [begB]
theorem begB_succ (d : List UInt8) (j : Nat) : begB d (j + 1) = begB d j ++ [0] := by simp [begB, List.replicate_succ']
theorem pads_lt (n : Nat) : pads n < 64 := Nat.mod_lt _ (by decide)
theorem pads_stop {n j : Nat} (hj : j ≤ pads n) : (n + 1 + j + 8) % 64 = 0 ↔ j = pads n := by unfold pads at *; omega
def lenB (n : Nat) (i : Nat) : List UInt8 := (List.range i).map fun k => b8 ((8 * (n : Int)) / 2 ^ (8 * (7 - k)))
theorem lenB_succ (n i : Nat) : lenB n (i + 1) = lenB n i ++ [b8 ((8 * (n : Int)) / 2 ^ (8 * (7 - i)))] := by simp [lenB, List.range_succ]
theorem lenB_length (n i : Nat) : (lenB n i).length = i := by simp [lenB]
def fullB (d : List UInt8) : List UInt8 := begB d (pads d.length) ++ lenB d.length 8
theorem fullB_length (d : List UInt8) : (fullB d).length % 64 = 0 ∧ (fullB d).length ≤ d.length + 128 := by
  rw [fullB, List.length_append, begB_length, lenB_length]; unfold pads; omega
def startW : List Int := [1779033703, 3144134277, 1013904242, 2773480762, 1359893119, 2600822924, 528734635, 1541459225]
theorem startW_eq : startW = stL0.map fun x => w32 (x / 2 ^ 32) := by decide +kernel
def hashW (d : List UInt8) : Nat → List Int
  | 0 => startW
  | i + 1 => pressW (hashW d i) (((fullB d).drop (64 * i)).take 64)
theorem hashW_succ (d : List UInt8) (i : Nat) : hashW d (i + 1) = pressW (hashW d i) (((fullB d).drop (64 * i)).take 64) := rfl
theorem hashW_length (d : List UInt8) (i : Nat) : (hashW d i).length = 8 := by
  induction i with
  | zero => rfl
  | succ i ih => rw [hashW_succ, pressW_length ih]
def outB4 (x : Int) (j : Nat) : List UInt8 := (List.range j).map fun k => b8 (x / 2 ^ (8 * (3 - k)))
theorem outB4_succ (x : Int) (j : Nat) : outB4 x (j + 1) = outB4 x j ++ [b8 (x / 2 ^ (8 * (3 - j)))] := by simp [outB4, List.range_succ]
theorem outB4_length (x : Int) (j : Nat) : (outB4 x j).length = j := by simp [outB4]
def outW (h : List Int) : Nat → List UInt8
  | 0 => []
  | i + 1 => outW h i ++ outB4 (h.getD i 0) 4
theorem outW_succ (h : List Int) (i : Nat) : outW h (i + 1) = outW h i ++ outB4 (h.getD i 0) 4 := rfl
theorem outW_length (h : List Int) (i : Nat) : (outW h i).length = 4 * i := by
  induction i with
  | zero => rfl
  | succ i ih => rw [outW_succ, List.length_append, ih, outB4_length]; omega
def sha256 (d : List UInt8) : List UInt8 := outW (hashW d ((fullB d).length / 64)) 8
theorem sha256_length (d : List UInt8) : (sha256 d).length = 32 := outW_length _ _
attribute [irreducible] rt mix3 whl w32 wordB nextW wsK wpK kW notW chW majW uW oW rndW prK addW pressW begB lenB fullB hashW outB4 outW sha256 pads kL stL0 startW
theorem startW_length : startW.length = 8 := by unfold startW; rfl
theorem kL_len : kL.length = 80 := kL_length
theorem w32_def (x : Int) : IntKind.u32.wrap x = w32 x := w32_eq x
theorem rt_def (x n : Int) : rt x n = ior .u32 (x / 2 ^ min n.toNat IntKind.u32.bits) (IntKind.u32.wrap (x * 2 ^ min (32 - n).toNat IntKind.u32.bits)) := by unfold rt; rfl
theorem mix3_def (x a b c : Int) : mix3 x a b c = ixor .u32 (ixor .u32 (rt x a) (rt x b)) (x / 2 ^ min c.toNat IntKind.u32.bits) := by unfold mix3; rfl
theorem whl_def (x a b c : Int) : whl x a b c = ixor .u32 (ixor .u32 (rt x a) (rt x b)) (rt x c) := by unfold whl; rfl
theorem nextW_def (l : List Int) (t : Nat) : nextW l t = w32 (w32 (w32 (l.getD (t - 16) 0 + l.getD (t - 7) 0) + mix3 (l.getD (t - 15) 0) 7 18 3) + mix3 (l.getD (t - 2) 0) 17 19 10) := by unfold nextW; rfl
theorem wsK_zero' (s : List UInt8) : wsK s 0 = [] := by unfold wsK; rfl
theorem wpK_zero' (s : List UInt8) (o : Nat) : wpK s o 0 = 0 := by unfold wpK; rfl
theorem kW_def (t : Nat) : kW t = w32 (kL.getD t 0 / 2 ^ 32) := by unfold kW; rfl
theorem notW_def (x : Int) : notW x = ixor .u32 IntKind.u32.max x := by unfold notW; rfl
theorem chW_def (e f g : Int) : chW e f g = ixor .u32 (iand .u32 e f) (iand .u32 (notW e) g) := by unfold chW; rfl
theorem majW_def (a b c : Int) : majW a b c = ixor .u32 (ixor .u32 (iand .u32 a b) (iand .u32 a c)) (iand .u32 b c) := by unfold majW; rfl
theorem uW_def (v : List Int) (k w : Int) : uW v k w = w32 (w32 (w32 (w32 (v.getD 7 0 + whl (v.getD 4 0) 6 11 25) + chW (v.getD 4 0) (v.getD 5 0) (v.getD 6 0)) + k) + w) := by unfold uW; rfl
theorem oW_def (v : List Int) : oW v = w32 (whl (v.getD 0 0) 2 13 22 + majW (v.getD 0 0) (v.getD 1 0) (v.getD 2 0)) := by unfold oW; rfl
theorem rndW_def (v : List Int) (k w : Int) : rndW v k w = [w32 (uW v k w + oW v), v.getD 0 0, v.getD 1 0, v.getD 2 0, w32 (v.getD 3 0 + uW v k w), v.getD 4 0, v.getD 5 0, v.getD 6 0] := by unfold rndW; rfl
theorem prK_zero' (h : List Int) (s : List UInt8) : prK h s 0 = h := by unfold prK; rfl
theorem addW_zero' (h v : List Int) : addW h v 0 = h := by unfold addW; rfl
theorem pressW_def (h : List Int) (s : List UInt8) : pressW h s = addW h (prK h s 64) 8 := by unfold pressW; rfl
theorem fullB_def (d : List UInt8) : fullB d = begB d (pads d.length) ++ lenB d.length 8 := by unfold fullB; rfl
theorem hashW_zero' (d : List UInt8) : hashW d 0 = startW := by unfold hashW; rfl
theorem lenB_zero' (n : Nat) : lenB n 0 = [] := by unfold lenB; rfl
theorem outB4_zero' (x : Int) : outB4 x 0 = [] := by unfold outB4; rfl
theorem outW_zero' (h : List Int) : outW h 0 = [] := by unfold outW; rfl
theorem sha256_def (d : List UInt8) : sha256 d = outW (hashW d ((fullB d).length / 64)) 8 := by unfold sha256; rfl
end Go.Proofs.Ytfiojlmccflplaa
end
section
namespace Go.Proofs.Ytfiojlmccflplaa
open Go Go.RowKit D
set_option linter.unusedVariables false
set_option linter.unusedSimpArgs false
/-- The number of the first bytes. -/
def numK (l : List UInt8) : Nat → Int
  | 0 => 0
  | j + 1 => 256 * numK l j + bt l j
theorem numK_zero (l : List UInt8) : numK l 0 = 0 := rfl
theorem numK_succ (l : List UInt8) (j : Nat) : numK l (j + 1) = 256 * numK l j + bt l j := rfl
theorem numK_range (l : List UInt8) : ∀ j, j ≤ 4 → 0 ≤ numK l j ∧ numK l j < 256 ^ j := by
  intro j
  induction j with
  | zero => intro _; rw [numK_zero]; decide
  | succ j ih =>
    intro h
    have := ih (by omega)
    have hb := bt_range l j
    rw [numK_succ, Int.pow_succ]; omega
theorem numK_take (l : List UInt8) {n : Nat} : ∀ j, j ≤ n → numK (l.take n) j = numK l j := by
  intro j
  induction j with
  | zero => intro _; rfl
  | succ j ih => intro h; rw [numK_succ, numK_succ, ih (by omega), bt_take l (by omega)]
def numB (l : List UInt8) : Int := numK l 4
theorem numB_range (l : List UInt8) : 0 ≤ numB l ∧ numB l < 4294967296 := by
  have := numK_range l 4 (by omega)
  unfold numB; omega
def fourB (n : Int) : List UInt8 := toB [IntKind.u8.wrap (n / 2 ^ 24), IntKind.u8.wrap (n / 2 ^ 16), IntKind.u8.wrap (n / 2 ^ 8), IntKind.u8.wrap n]
theorem fourB_length (n : Int) : (fourB n).length = 4 := rfl
theorem numB_def (l : List UInt8) : numB l = numK l 4 := by unfold numB; rfl
theorem fourB_def (n : Int) : fourB n = toB [IntKind.u8.wrap (n / 2 ^ 24), IntKind.u8.wrap (n / 2 ^ 16), IntKind.u8.wrap (n / 2 ^ 8), IntKind.u8.wrap n] := by unfold fourB; rfl
end Go.Proofs.Ytfiojlmccflplaa
end
section
namespace Go.Proofs.Ytfiojlmccflplaa.D
open Go Go.RowKit
set_option linter.unusedVariables false
set_option linter.unusedSimpArgs false
section
variable {α : Type} {cells : α → List Value} {sz : Nat}
/-- The cells of a row of structs. -/
def rowsV (cells : α → List Value) (l : List α) : List Value := l.flatMap cells
theorem rowsV_nil : rowsV cells [] = [] := rfl
theorem rowsV_cons (r : α) (l : List α) : rowsV cells (r :: l) = cells r ++ rowsV cells l := rfl
theorem rowsV_one (r : α) : rowsV cells [r] = cells r := by simp [rowsV]
theorem rowsV_append (a b : List α) : rowsV cells (a ++ b) = rowsV cells a ++ rowsV cells b := by simp [rowsV]
theorem rowsV_take (hc : ∀ r, (cells r).length = sz) : ∀ (l : List α) (n : Nat), (rowsV cells l).take (n * sz) = rowsV cells (l.take n) := by
  intro l
  induction l with
  | nil => intro n; simp [rowsV_nil]
  | cons r l ih =>
    intro n
    cases n with
    | zero => simp [rowsV_nil]
    | succ n =>
      rw [rowsV_cons, List.take_succ_cons, rowsV_cons, Nat.succ_mul, Nat.add_comm, List.take_append, hc, List.take_of_length_le (by rw [hc]; omega), show sz + n * sz - sz = n * sz from by omega, ih]
theorem rowsV_drop (hc : ∀ r, (cells r).length = sz) : ∀ (l : List α) (n : Nat), (rowsV cells l).drop (n * sz) = rowsV cells (l.drop n) := by
  intro l
  induction l with
  | nil => intro n; simp [rowsV_nil]
  | cons r l ih =>
    intro n
    cases n with
    | zero => simp
    | succ n =>
      rw [rowsV_cons, List.drop_succ_cons, Nat.succ_mul, Nat.add_comm, List.drop_append, hc, List.drop_eq_nil_of_le (by rw [hc]; omega), show sz + n * sz - sz = n * sz from by omega, ih, List.nil_append]
theorem rowsV_get (hc : ∀ r, (cells r).length = sz) {l : List α} {j : Nat} {r : α} (h : l[j]? = some r) {i : Nat} {v : Value} (hv : (cells r)[i]? = some v) : (rowsV cells l)[j * sz + i]? = some v := by
  have hi : i < sz := by rw [← hc r]; exact (List.getElem?_eq_some_iff.1 hv).1
  have e : (rowsV cells l)[j * sz + i]? = (rowsV cells (l.drop j))[i]? := by rw [← rowsV_drop hc, List.getElem?_drop]
  obtain ⟨hj, hr⟩ := List.getElem?_eq_some_iff.1 h
  rw [e, List.drop_eq_getElem_cons hj, hr, rowsV_cons, List.getElem?_append_left (by rw [hc]; exact hi)]
  exact hv
end
section
variable {P : Program} {w0 : World} {ρ : Operand → Value} {d : Option Tmp} {ty : TypeId} {pos : String} {af : Array Edge} {g : Option (Nat × Bool)} {H H0 : Hp} {L : List Chunk} {F : Chunk → List Chunk} {α : Type} {cells : α → List Value} {sz : Nat}
/-- A struct out of a slice of structs. -/
theorem q_loadVR {t el : TypeId} {m j : Nat} {x : Operand} {v : Value} {l : List α} {r : α} (hV : Vec H el sz v m (rowsV cells l)) (hc : ∀ r, (cells r).length = sz) (ht : aggT P t sz = true) (hx : ρ x = vptr v (j * sz)) (hr : l[j]? = some r) (hm : 0 < m) :
    QS P w0 ρ ⟨d, .load t x, ty, pos, af, g⟩ H (.agg (cells r).toArray) := by
  obtain ⟨b, cap, q, rfl, hq, _, _, _, _, _, _, hcs⟩ := hV.opened hm
  rw [vptr_at] at hx
  exact q_loadA ht hx hq (hc r) (fun i u hu => hcs _ _ (rowsV_get hc hr hu))
/-- A slice of one struct of two cells. -/
theorem o_buildSlice2 {t e : TypeId} {x : Operand} {z u0 u1 : Value} (ht : P.underlying t = some (.slice e)) (hs : sizeT P e = some 2) (hz : zeroT P e = some z) (hx : ρ x = .agg #[u0, u1]) :
    OpR P w0 ρ ⟨d, .buildSlice t 1 #[(0, x)], ty, pos, af, g⟩ H (fun v H' => ∃ b, H b = none ∧ v = .slice (some ⟨b, 0, none⟩) 1 1 ∧ H' = H.set b ⟨[u0, u1], 2, e⟩) := by
  intro w ho
  have hf : ∀ a : Array Value, a.size = 2 → Instr.fill (fun i => some (i * 2, 2)) a [(0, Value.agg #[u0, u1])] = some #[u0, u1] := by
    intro a ha
    obtain ⟨l⟩ := a
    match l, ha with
    | [a0, a1], _ => rfl
  have : (execOp ρ ⟨d, .buildSlice t 1 #[(0, x)], ty, pos, af, g⟩).run P w = .ok (.value (.slice (some ⟨w.heap.size, 0, none⟩) 1 1)) (w.alloc (.cells #[u0, u1] e (0, 0))) := by
    have h24 : ¬ 1 * 2 > 2 ^ 24 := by omega
    have h0 : ¬ 1 * 2 = 0 := by omega
    simp only [execOp, Instr.buildSlice, Sem.run_bind, run_underlying ht, Result.andThen_ok, run_sizeT hs, h24, h0, if_false, Sem.run_pure, run_zeroT hz]
    have hp : (#[(0, x)].map fun (p : Nat × Operand) => (p.1, ρ p.2)).toList = [(0, Value.agg #[u0, u1])] := by simp [hx]
    simp only [pure_bind, hp, hf _ (show (Array.map (fun x => z.cells[x % z.cells.size]!) (Array.range (1 * 2))).size = 2 by rw [Array.size_map, Array.size_range]), newRow, Sem.run_bind, run_newObj, World.alloc_eq, Result.andThen_ok, Sem.run_pure]
  rw [this]
  exact ⟨_, ho.alloc [u0, u1] _ rfl e (0, 0) (.inl rfl), w.heap.size, ho.fresh, rfl, rfl⟩
theorem s_buildSlice2 {t e : TypeId} {x : Operand} {z u0 u1 : Value} (hS : Sep H0 L H) (ht : P.underlying t = some (.slice e)) (hs : sizeT P e = some 2) (hz : zeroT P e = some z) (hx : ρ x = .agg #[u0, u1]) :
    OpR P w0 ρ ⟨d, .buildSlice t 1 #[(0, x)], ty, pos, af, g⟩ H (fun u H' => Sep H0 (.vec u e 2 1 [u0, u1] :: L) H') :=
  (o_buildSlice2 ht hs hz hx).mono (by
    rintro _ _ ⟨b, hb, rfl, rfl⟩
    exact (hS.new hb).asVec rfl rfl (Nat.le_refl _) (by omega) (by unfold maxLen; omega))
theorem q_preM {t e el : TypeId} {m : Nat} {x hi : Operand} {k : IntKind} {a : Int} {v : Value} {cs : List Value} (hV : Vec H el sz v m cs) (ht : P.underlying t = some (.slice e)) (hs : sizeT P e = some sz) (hx : ρ x = v) (ha : ρ hi = .int k a) (h0 : 0 ≤ a) (h1 : a ≤ m) :
    QS P w0 ρ ⟨d, .slice t x none (some hi) none, ty, pos, af, g⟩ H (preV v a.toNat) := by
  rcases hV with ⟨rfl, rfl, rfl⟩ | ⟨b, cap, q, rfl, _, _, _, _, k6, _⟩
  · exact q_sliceV_hi ht hs hx ha h0 (by omega)
  · exact q_sliceV_hi ht hs hx ha h0 (by omega)
end
end Go.Proofs.Ytfiojlmccflplaa.D
end
section
namespace Go.Proofs.Ytfiojlmccflplaa
open Go Go.RowKit D
set_option linter.unusedVariables false
set_option linter.unusedSimpArgs false
structure RecS where
  seq : Int
  dat : List UInt8
instance : DecidableEq RecS := fun a b => decidable_of_iff (a.seq = b.seq ∧ a.dat = b.dat) (by cases a; cases b; simp)
def recC (r : RecS) : List Value := [.int .i64 r.seq, S r.dat]
abbrev RecL := List RecS
theorem recC_len (r : RecS) : (recC r).length = 2 := rfl
theorem recC_one (r : RecS) : ∀ u ∈ recC r, u.oneCell' = true := by
  intro u hu
  simp only [recC, List.mem_cons, List.mem_nil_iff, or_false] at hu
  rcases hu with rfl | rfl <;> rfl
/-- Those behind a number. -/
def kp (n : Int) (l : RecL) : RecL := l.filter fun r => decide (n < r.seq)
variable {n : Int} {l l2 : RecL} {i j : Nat} {r : RecS}
end Go.Proofs.Ytfiojlmccflplaa
end
section
namespace Go.Proofs.Ytfiojlmccflplaa
open Go Go.RowKit D
set_option linter.unusedVariables false
set_option linter.unusedSimpArgs false
structure TapeS where
  lim : Int
  f : List UInt8
  l : List UInt8
  ar : Int
  dd : Bool
def actP (s : TapeS) : Int × TapeS := if s.ar = 1 then (41, { s with dd := true }) else (0, { s with ar := max 0 (s.ar - 1) })
theorem actP_die {s : TapeS} (h : s.ar = 1) : actP s = (41, { s with dd := true }) := if_pos h
theorem actP_go {s : TapeS} (h : ¬ s.ar = 1) : actP s = (0, { s with ar := max 0 (s.ar - 1) }) := if_neg h
def appendP (s : TapeS) (d : List UInt8) : Int × TapeS :=
  if s.dd = true then (41, s) else if s.lim < ((s.f.length + s.l.length : Nat) : Int) + (d.length : Int) then (40, s) else actP { s with l := s.l ++ d }
theorem appendP_dead {s : TapeS} {d : List UInt8} (h : s.dd = true) : appendP s d = (41, s) := if_pos h
theorem appendP_full {s : TapeS} {d : List UInt8} (h : s.dd = false) (h1 : s.lim < ((s.f.length + s.l.length : Nat) : Int) + (d.length : Int)) : appendP s d = (40, s) := by unfold appendP; rw [if_neg (by simp [h]), if_pos h1]
theorem appendP_ok {s : TapeS} {d : List UInt8} (h : s.dd = false) (h1 : ((s.f.length + s.l.length : Nat) : Int) + (d.length : Int) ≤ s.lim) : appendP s d = actP { s with l := s.l ++ d } := by unfold appendP; rw [if_neg (by simp [h]), if_neg (by omega)]
def syncP (s : TapeS) : Int × TapeS := if s.dd = true then (41, s) else if s.ar = 1 then (41, { s with dd := true }) else (0, { s with ar := max 0 (s.ar - 1), f := s.f ++ s.l, l := [] })
def cutP (s : TapeS) (n : Int) : Int × TapeS :=
  if s.dd = true then (41, s) else if n < 0 ∨ ((s.f.length + s.l.length : Nat) : Int) < n then (1, s) else if s.ar = 1 then (41, { s with dd := true }) else (0, { s with ar := max 0 (s.ar - 1), f := (s.f ++ s.l).take n.toNat, l := [] })
theorem syncP_dead {s : TapeS} (h : s.dd = true) : syncP s = (41, s) := if_pos h
theorem syncP_die {s : TapeS} (h : s.dd = false) (h1 : s.ar = 1) : syncP s = (41, { s with dd := true }) := by unfold syncP; rw [if_neg (by simp [h]), if_pos h1]
theorem syncP_ok {s : TapeS} (h : s.dd = false) (h1 : ¬ s.ar = 1) : syncP s = (0, { s with ar := max 0 (s.ar - 1), f := s.f ++ s.l, l := [] }) := by unfold syncP; rw [if_neg (by simp [h]), if_neg h1]
theorem cutP_dead {s : TapeS} {n : Int} (h : s.dd = true) : cutP s n = (41, s) := if_pos h
theorem cutP_bad {s : TapeS} {n : Int} (h : s.dd = false) (h1 : n < 0 ∨ ((s.f.length + s.l.length : Nat) : Int) < n) : cutP s n = (1, s) := by unfold cutP; rw [if_neg (by simp [h]), if_pos h1]
theorem cutP_die {s : TapeS} {n : Int} (h : s.dd = false) (h1 : 0 ≤ n ∧ n ≤ ((s.f.length + s.l.length : Nat) : Int)) (h2 : s.ar = 1) : cutP s n = (41, { s with dd := true }) := by unfold cutP; rw [if_neg (by simp [h]), if_neg (by omega), if_pos h2]
theorem cutP_ok {s : TapeS} {n : Int} (h : s.dd = false) (h1 : 0 ≤ n ∧ n ≤ ((s.f.length + s.l.length : Nat) : Int)) (h2 : ¬ s.ar = 1) : cutP s n = (0, { s with ar := max 0 (s.ar - 1), f := (s.f ++ s.l).take n.toNat, l := [] }) := by unfold cutP; rw [if_neg (by simp [h]), if_neg (by omega), if_neg h2]
def readP (s : TapeS) : List UInt8 × Int := if s.dd = true then ([], 41) else (s.f ++ s.l, 0)
def armP (s : TapeS) (n : Int) : TapeS := { s with ar := max n 0 }
/-- The last byte turned over. -/
def spoilP (l : List UInt8) : List UInt8 := if l.length = 0 then l else l.take (l.length - 1) ++ toB [ixor .u8 (bt l (l.length - 1)) 255]
def crashP (s : TapeS) (keep : Int) (spoil : Bool) : TapeS :=
  let kept := s.l.take (max 0 (min keep (s.l.length : Int))).toNat
  { s with f := s.f ++ (if spoil = true then spoilP kept else kept), l := [], dd := false, ar := 0 }
def tcells (s : TapeS) (fv lv : Value) : List Value := [.int .i64 s.lim, fv, lv, .int .i64 s.ar, .bool s.dd]
abbrev tblk (s : TapeS) (fv lv : Value) : Blk := ⟨tcells s fv lv, 5, 83⟩
/-- H owns H0, and beside it a tape at block b. -/
structure TapeAt (H0 H : Hp) (b : Nat) (s : TapeS) (fv lv : Value) : Prop where
  at' : H b = some (tblk s fv lv)
  vf : Vec H 5 1 fv s.f.length (nums .u8 (ofB s.f))
  vl : Vec H 5 1 lv s.l.length (nums .u8 (ofB s.l))
  le : H0.le H
  nb : H0 b = none
  nf : ∀ c, vblock fv = some c → H0 c = none
  nl : ∀ c, vblock lv = some c → H0 c = none
  bf : vblock fv ≠ some b
  bl : vblock lv ≠ some b
  fl : ∀ c, vblock fv = some c → vblock lv ≠ some c
def TapeR (H0 H : Hp) (b : Nat) (s : TapeS) : Prop := ∃ fv lv, TapeAt H0 H b s fv lv
/-- What is good for every tape that can be. -/
def TapeOk (s : TapeS) : Prop := s.lim ≤ 16777216 ∧ ((s.f.length + s.l.length : Nat) : Int) ≤ s.lim ∧ 0 ≤ s.ar ∧ s.ar ≤ 9223372036854775807
instance : DecidablePred TapeOk := fun s => by unfold TapeOk; infer_instance
variable {H0 H : Hp} {b : Nat} {s : TapeS} {fv lv : Value}
/-- The struct's numbers change. -/
theorem TapeAt.put (h : TapeAt H0 H b s fv lv) {ar : Int} {dd : Bool} : TapeAt H0 (H.set b (tblk { s with ar := ar, dd := dd } fv lv)) b { s with ar := ar, dd := dd } fv lv :=
  ⟨Hp.set_self, h.vf.set h.bf, h.vl.set h.bl, Hp.le_set_of h.le h.nb, h.nb, h.nf, h.nl, h.bf, h.bl, h.fl⟩
/-- The loose bytes grew. -/
theorem TapeAt.grewL (h : TapeAt H0 H b s fv lv) {l : List UInt8} {v : Value} {H' : Hp} {m : Nat} (hg : Grew H 5 1 lv m (nums .u8 (ofB l)) v H') (hm : m = l.length) : TapeAt H0 (H'.set b (tblk { s with l := l } fv v)) b { s with l := l } fv v := by
  subst hm
  have hfr := hg.frame h.le h.nl
  refine ⟨Hp.set_self, (hg.other h.vf fun c h1 h2 => h.fl c h1 h2).set h.bf, hg.vec.set (hg.apart h.bl h.at'), Hp.le_set_of hfr.1 h.nb, h.nb, h.nf, hfr.2, h.bf, hg.apart h.bl h.at', ?_⟩
  intro c h1 h2
  rcases hg.blk h2 with h3 | h3
  · exact h.fl c h1 h3
  · exact h.vf.owned h3 h1
/-- The firm bytes grew, and none are loose any more. -/
theorem TapeAt.grewF (h : TapeAt H0 H b s fv lv) {f : List UInt8} {v : Value} {H' : Hp} {m k : Nat} (hg : Grew H 5 1 fv m (nums .u8 (ofB f)) v H') (hm : m = f.length) (hk : k ≤ f.length) :
    TapeAt H0 (H'.set b (tblk { s with f := f.take k, l := [] } (takeV v k) nilV)) b { s with f := f.take k, l := [] } (takeV v k) nilV := by
  subst hm
  have hfr := hg.frame h.le h.nf
  have hv := hg.vec.take (a := k) hk
  have hlen : (f.take k).length = k := by rw [List.length_take]; omega
  refine ⟨Hp.set_self, ?_, .inl ⟨rfl, rfl, rfl⟩, Hp.le_set_of hfr.1 h.nb, h.nb, ?_, by simp [vblock], ?_, by simp [vblock], by simp [vblock]⟩
  · show Vec _ _ 1 (takeV v k) (f.take k).length _
    rw [hlen]
    refine Vec.set ?_ (by rw [takeV_block]; exact hg.apart h.bf h.at')
    have : (nums .u8 (ofB f)).take (k * 1) = nums .u8 (ofB (f.take k)) := by rw [Nat.mul_one, nums_take]; simp [ofB, List.map_take]
    rw [this] at hv
    exact hv
  · intro c hc
    rw [takeV_block] at hc
    exact hfr.2 c hc
  · rw [takeV_block]; exact hg.apart h.bf h.at'
theorem TapeAt.grewF0 (h : TapeAt H0 H b s fv lv) {f : List UInt8} {v : Value} {H' : Hp} {m : Nat} (hg : Grew H 5 1 fv m (nums .u8 (ofB f)) v H') (hm : m = f.length) :
    TapeAt H0 (H'.set b (tblk { s with f := f, l := [] } v nilV)) b { s with f := f, l := [] } v nilV := by
  have h1 := h.grewF hg hm (Nat.le_refl _)
  rw [List.take_length, ← hm, takeV_id hg.vec] at h1
  exact h1
/-- What is known of a tape whose loose bytes are not looked at any more. -/
structure TapeF (H0 H : Hp) (b : Nat) (s : TapeS) (fv lv : Value) : Prop where
  at' : H b = some (tblk s fv lv)
  vf : Vec H 5 1 fv s.f.length (nums .u8 (ofB s.f))
  le : H0.le H
  nb : H0 b = none
  nf : ∀ c, vblock fv = some c → H0 c = none
  bf : vblock fv ≠ some b
theorem ofB_append' (a c : List UInt8) : ofB (a ++ c) = ofB a ++ ofB c := by simp [ofB]
theorem ofB_toB' {x : Int} (h : 0 ≤ x ∧ x ≤ 255) : ofB (toB [x]) = [x] := by
  simp only [ofB, toB, List.map_cons, List.map_nil, UInt8.toNat_ofNat', List.cons.injEq, and_true]
  omega
theorem TapeAt.toF (h : TapeAt H0 H b s fv lv) : TapeF H0 H b s fv lv := ⟨h.at', h.vf, h.le, h.nb, h.nf, h.bf⟩
theorem TapeF.other (h : TapeF H0 H b s fv lv) {c : Nat} {o : Blk} (hc : H0 c = none) (hb : c ≠ b) (hf : vblock fv ≠ some c) : TapeF H0 (H.set c o) b s fv lv :=
  ⟨by rw [Hp.set_ne (Ne.symm hb)]; exact h.at', h.vf.set hf, Hp.le_set_of h.le hc, h.nb, h.nf, h.bf⟩
theorem TapeF.grew (h : TapeF H0 H b s fv lv) {f : List UInt8} {v : Value} {H' : Hp} {m : Nat} (hg : Grew H 5 1 fv m (nums .u8 (ofB f)) v H') (hm : m = f.length) :
    TapeAt H0 (H'.set b (tblk { s with f := f, l := [] } v nilV)) b { s with f := f, l := [] } v nilV := by
  subst hm
  have hfr := hg.frame h.le h.nf
  exact ⟨Hp.set_self, hg.vec.set (hg.apart h.bf h.at'), .inl ⟨rfl, rfl, rfl⟩, Hp.le_set_of hfr.1 h.nb, h.nb, hfr.2, by simp [vblock], hg.apart h.bf h.at', by simp [vblock], by simp [vblock]⟩
theorem cell_of {q : Blk} {k j : Nat} {xs : List Int} (h : q.cells.take (k * 1) = nums .u8 xs) (hj : j < xs.length) (hk : j < k) : q.cells[j]? = some (.int .u8 (xs.getD j 0)) := by
  rw [← nums_get .u8 xs hj, ← h, List.getElem?_take, if_pos (by omega)]
theorem spoil_set {l : List UInt8} (h : 0 < l.length) : (ofB l).set (l.length - 1) (ixor .u8 (bt l (l.length - 1)) 255) = ofB (spoilP l) := by
  have hr : 0 ≤ ixor .u8 (bt l (l.length - 1)) 255 ∧ ixor .u8 (bt l (l.length - 1)) 255 ≤ 255 := by
    unfold ixor
    have : ∀ y : Nat, IntKind.u8.wrap (y : Int) = (y : Int) % 256 := fun y => by simp [IntKind.wrap, IntKind.bits, IntKind.signed]
    rw [this]; omega
  unfold spoilP
  rw [if_neg (by omega)]
  obtain ⟨a, z, rfl⟩ : ∃ a z, l = a ++ [z] := ⟨l.dropLast, l.getLast (fun e => by simp [e] at h), (List.dropLast_concat_getLast _).symm⟩
  simp only [List.length_append, List.length_cons, List.length_nil, Nat.add_sub_cancel, Nat.zero_add] at hr ⊢
  rw [List.take_left, ofB_append', ofB_append', ofB_toB' hr]
  simp [ofB]
@[simp] theorem tcells_length (s : TapeS) (fv lv : Value) : (tcells s fv lv).length = 5 := rfl
theorem ofB_append (a c : List UInt8) : ofB (a ++ c) = ofB a ++ ofB c := by simp [ofB]
theorem actAt (h : TapeAt H0 H b s fv lv) : TapeAt H0 (H.set b (tblk (actP s).2 fv lv)) b (actP s).2 fv lv := by
  unfold actP; split <;> exact h.put
end Go.Proofs.Ytfiojlmccflplaa
end
section
namespace Go.Proofs.Ytfiojlmccflplaa.D
open Go Go.RowKit
set_option linter.unusedVariables false
set_option linter.unusedSimpArgs false
/-- A map's block: its entries. -/
abbrev mpB (es : List (Value × Value)) : Blk := ⟨[], 0, .map es⟩
section
variable {α : Type} [DecidableEq α]
def ents (kv : α → Value) (m : List (α × Value)) : List (Value × Value) := m.map fun p => (kv p.1, p.2)
def mgt : List (α × Value) → α → Option Value
  | [], _ => none
  | p :: m, a => if p.1 = a then some p.2 else mgt m a
def mst : List (α × Value) → α → Value → List (α × Value)
  | [], a, v => [(a, v)]
  | p :: m, a, v => if p.1 = a then (a, v) :: m else p :: mst m a v
def mix : List (α × Value) → α → Nat
  | [], _ => 0
  | p :: m, a => if p.1 = a then 0 else mix m a + 1
theorem mgt_mst_self (m : List (α × Value)) (a : α) (v : Value) : mgt (mst m a v) a = some v := by
  induction m with
  | nil => simp [mst, mgt]
  | cons p m ih =>
    by_cases h : p.1 = a
    · simp [mst, mgt, h]
    · simp [mst, mgt, h, ih]
theorem mgt_mst_ne (m : List (α × Value)) {a b : α} (h : b ≠ a) (v : Value) : mgt (mst m a v) b = mgt m b := by
  induction m with
  | nil => simp [mst, mgt, Ne.symm h]
  | cons p m ih =>
    by_cases h1 : p.1 = a
    · by_cases h2 : p.1 = b
      · exact absurd (h2.symm.trans h1) h
      · simp [mst, mgt, h1, Ne.symm h, h2]
    · by_cases h2 : p.1 = b
      · subst h2; simp [mst, mgt, h1]
      · simp [mst, mgt, h1, h2, ih]
/-- What a key of a type is, and that unlike keys have unlike values. -/
structure KeyK (P : Program) (kt : TypeId) (kv : α → Value) : Prop where
  key : ∃ d, P.underlying kt = some d ∧ ∀ a, MapKept.IsKey d (kv a)
  inj : ∀ a b, kv a = kv b → a = b
end
theorem S_inj {a b : List UInt8} (h : S a = S b) : a = b := by
  have h1 : str a = str b := by injection h
  have h2 : (str a).data.toList = (str b).data.toList := by rw [h1]
  simpa [str] using h2
theorem key_str {P : Program} {kt : TypeId} (h : P.underlying kt = some .string) : KeyK P kt S := ⟨⟨_, h, fun _ => trivial⟩, fun _ _ => S_inj⟩
section
variable {P : Program} {w0 : World} {ρ : Operand → Value} {d : Option Tmp} {ty : TypeId} {pos : String} {af : Array Edge} {g : Option (Nat × Bool)} {H H0 : Hp} {L : List Chunk} {F : Chunk → List Chunk}
variable {α : Type} [DecidableEq α] {kv : α → Value}
theorem find_ents {td : TypeDesc} (hk : ∀ a, MapKept.IsKey td (kv a)) (hi : ∀ a b, kv a = kv b → a = b) (a : α) : ∀ (m : List (α × Value)) (l : List MapEntry) (i : Nat), l.map (fun x => (x.key, x.val)) = ents kv m →
    Instr.findNow td (kv a) l i = some ((mgt m a).map fun v => (i + mix m a, v)) := by
  intro m
  induction m with
  | nil =>
    intro l i h
    cases l with
    | nil => rfl
    | cons => simp [ents] at h
  | cons p m ih =>
    intro l i h
    cases l with
    | nil => simp [ents] at h
    | cons x l =>
      simp only [ents, List.map_cons, List.cons.injEq, Prod.mk.injEq] at h
      obtain ⟨⟨h1, h2⟩, h3⟩ := h
      obtain ⟨r, hr, hiff⟩ := MapKept.sameNow_of_keys (hk a) (by rw [h1]; exact hk p.1 : MapKept.IsKey td x.key)
      by_cases he : p.1 = a
      · have : r = true := hiff.2 (by rw [h1, he])
        subst this
        simp [Instr.findNow, hr, mgt, mix, he, h2]
      · have : r = false := by
          cases r with
          | false => rfl
          | true => exact absurd (hi _ _ ((hiff.1 rfl).trans h1)).symm he
        subst this
        rw [Instr.findNow, hr]
        show Instr.findNow td (kv a) l (i + 1) = _
        rw [ih l (i + 1) h3]
        simp only [mgt, mix, if_neg he]
        cases mgt m a with
        | none => rfl
        | some v => simp only [Option.map_some, Option.some.injEq, Prod.mk.injEq, and_true]; omega
theorem mix_get {m : List (α × Value)} {a : α} {v : Value} (h : mgt m a = some v) : m[mix m a]? = some (a, v) := by
  induction m with
  | nil => simp [mgt] at h
  | cons p m ih =>
    by_cases he : p.1 = a
    · simp only [mgt, if_pos he, Option.some.injEq] at h
      rw [mix, if_pos he, List.getElem?_cons_zero, ← he, ← h]
    · simp only [mgt, if_neg he] at h
      simp only [mix, if_neg he, List.getElem?_cons_succ]
      exact ih h
theorem mst_old {m : List (α × Value)} {a : α} {v : Value} (h : mgt m a = some v) (u : Value) : mst m a u = m.set (mix m a) (a, u) := by
  induction m with
  | nil => simp [mgt] at h
  | cons p m ih =>
    by_cases he : p.1 = a
    · simp [mst, mix, he]
    · simp only [mgt, if_neg he] at h
      simp [mst, mix, he, ih h]
theorem mst_new {m : List (α × Value)} {a : α} (h : mgt m a = none) (u : Value) : mst m a u = m ++ [(a, u)] := by
  induction m with
  | nil => rfl
  | cons p m ih =>
    by_cases he : p.1 = a
    · simp [mgt, he] at h
    · simp only [mgt, if_neg he] at h
      simp [mst, he, ih h]
theorem Own.mapAt {w : World} {b : Nat} {es : List (Value × Value)} (h : Own w0 H w) (hb : H b = some (mpB es)) : ∃ l k, w.heap[b]? = some (.map l k) ∧ l.toList.map (fun x => (x.key, x.val)) = es := by
  rcases (h.fits b _ hb).2 with ⟨e, c, fr, he, _⟩ | ⟨_, _, es', l, k, h1, h2, h3⟩
  · cases he
  · cases h1; exact ⟨l, k, h2, h3⟩
theorem q_lookup {t kt et : TypeId} {x i : Operand} {b : Nat} {m : List (α × Value)} {a : α} {z : Value} (ht : P.underlying t = some (.map kt et)) (hk : KeyK P kt kv) (hz : zeroT P et = some z) (hx : ρ x = .map (some b)) (hi : ρ i = kv a) (hb : H b = some (mpB (ents kv m))) :
    QS P w0 ρ ⟨d, .lookup t x i false, ty, pos, af, g⟩ H ((mgt m a).getD z) :=
  QS.of_run fun w ho => by
    obtain ⟨l, k, h1, h2⟩ := ho.mapAt hb
    obtain ⟨td, hd, hk1⟩ := hk.key
    have hf := find_ents hk1 hk.inj a m l.toList 0 h2
    have hz' := run_zeroT hz w
    cases hm : mgt m a with
    | none =>
      rw [hm] at hf
      simp [execOp, hx, hi, Instr.lookup, run_underlying ht, MapKept.run_getObj_map h1, MapKept.run_checkKey hd (hk1 a), MapKept.run_findKey hd hf, hz', Result.andThen]
    | some v =>
      rw [hm] at hf
      simp [execOp, hx, hi, Instr.lookup, run_underlying ht, MapKept.run_getObj_map h1, MapKept.run_checkKey hd (hk1 a), MapKept.run_findKey hd hf, Result.andThen]
theorem o_makeMap {t : TypeId} : OpR P w0 ρ ⟨d, .makeMap t none, ty, pos, af, g⟩ H (fun v H' => ∃ b, H b = none ∧ v = .map (some b) ∧ H' = H.set b (mpB [])) := by
  intro w ho
  have : (execOp ρ ⟨d, .makeMap t none, ty, pos, af, g⟩).run P w = .ok (.value (.map (some w.heap.size))) (w.alloc (.map #[] 0)) := by
    simp [execOp, Instr.makeMap]
  rw [this]
  refine ⟨H.set w.heap.size (mpB []), ⟨ho.below.alloc ho.below.size _, fun b o hb => ?_⟩, w.heap.size, ho.fresh, rfl, rfl⟩
  by_cases hbe : b = w.heap.size
  · subst hbe
    rw [Hp.set_self] at hb
    obtain rfl := Option.some.inj hb
    exact ⟨ho.below.size, .inr ⟨rfl, rfl, [], #[], 0, rfl, (MapKept.heap_alloc w _).1, rfl⟩⟩
  · rw [Hp.set_ne hbe] at hb
    have := ho.fits b o hb
    exact ⟨this.1, this.2.of_eq (Below.heap_alloc w _ b (ho.lt hb))⟩
theorem Own.setMap {w : World} {b : Nat} {es es' : List (Value × Value)} (h : Own w0 H w) (hb : H b = some (mpB es)) {l' : Array MapEntry} {k' : Nat} (he : l'.toList.map (fun x => (x.key, x.val)) = es') :
    Own w0 (H.set b (mpB es')) { w with heap := w.heap.setIfInBounds b (.map l' k') } := by
  have hbb := h.fits b _ hb
  obtain ⟨l, k, h1, h2⟩ := h.mapAt hb
  have hs := MapKept.heap_set (o' := .map l' k') h1
  refine ⟨⟨h.below.os, h.below.tape, h.below.output, by simpa using h.below.size, fun i hi => ?_⟩, fun b' o' hb' => ?_⟩
  · have hne : i ≠ b := by have := hbb.1; omega
    exact (hs.2 i hne).trans (h.below.block i hi)
  · by_cases e : b' = b
    · subst e
      rw [Hp.set_self] at hb'
      obtain rfl := Option.some.inj hb'
      exact ⟨hbb.1, .inr ⟨rfl, rfl, es', l', k', rfl, hs.1, he⟩⟩
    · rw [Hp.set_ne e] at hb'
      have := h.fits b' o' hb'
      exact ⟨this.1, this.2.of_eq (hs.2 b' e)⟩
theorem o_mapUpdate {t kt et : TypeId} {x i y : Operand} {b : Nat} {m : List (α × Value)} {a : α} {u : Value} (ht : P.underlying t = some (.map kt et)) (hk : KeyK P kt kv) (hx : ρ x = .map (some b)) (hi : ρ i = kv a) (hy : ρ y = u) (hb : H b = some (mpB (ents kv m))) :
    OpR P w0 ρ ⟨d, .mapUpdate t x i y, ty, pos, af, g⟩ H (fun v H' => v = undef ∧ H' = H.set b (mpB (ents kv (mst m a u)))) := by
  intro w ho
  obtain ⟨l, k, h1, h2⟩ := ho.mapAt hb
  obtain ⟨td, hd, hk1⟩ := hk.key
  have hf := find_ents hk1 hk.inj a m l.toList 0 h2
  cases hm : mgt m a with
  | none =>
    rw [hm] at hf
    have : (execOp ρ ⟨d, .mapUpdate t x i y, ty, pos, af, g⟩).run P w = .ok .skip { w with heap := w.heap.setIfInBounds b (.map (l.push { key := kv a, val := u, born := k }) (k + 1)) } := by
      simp [execOp, hx, hi, hy, Instr.mapUpdate, run_underlying ht, MapKept.run_getObj_map h1, MapKept.run_checkKey hd (hk1 a), MapKept.run_findKey hd hf, MapKept.run_setObj_map _ h1, Result.andThen]
    rw [this]
    refine ⟨_, ho.setMap hb ?_, rfl, rfl⟩
    rw [mst_new hm]
    simp [ents, h2]
  | some v =>
    rw [hm] at hf
    have hg := mix_get hm
    have hl : l.toList[mix m a]?.map (fun x => (x.key, x.val)) = some (kv a, v) := by
      rw [← List.getElem?_map, h2]; simp [ents, hg]
    obtain ⟨e0, he0, he1⟩ := Option.map_eq_some_iff.1 hl
    have hj : l[mix m a]? = some e0 := by simpa using he0
    have hkey : e0.key = kv a := congrArg Prod.fst he1
    have : (execOp ρ ⟨d, .mapUpdate t x i y, ty, pos, af, g⟩).run P w = .ok .skip { w with heap := w.heap.setIfInBounds b (.map (l.modify (mix m a) fun e => { e with key := kv a, val := u }) k) } := by
      simp [execOp, hx, hi, hy, Instr.mapUpdate, run_underlying ht, MapKept.run_getObj_map h1, MapKept.run_checkKey hd (hk1 a), MapKept.run_findKey hd hf, MapKept.run_setObj_map _ h1, MapKept.run_keyThatStays (hk1 a), hj, hkey, Result.andThen]
    rw [this]
    refine ⟨_, ho.setMap hb ?_, rfl, rfl⟩
    rw [mst_old hm]
    apply List.ext_getElem?
    intro j
    have h2j : (l.toList.map fun x => (x.key, x.val))[j]? = (ents kv m)[j]? := by rw [h2]
    simp only [ents, List.getElem?_map, Array.toList_modify, List.getElem?_modify, List.getElem?_set] at h2j ⊢
    by_cases e : mix m a = j
    · subst e
      have hlt := (List.getElem?_eq_some_iff.1 hg).1
      simp [he0, hlt]
    · simp only [e, if_false]
      simpa using h2j
theorem s_makeMap {t : TypeId} (hS : Sep H0 L H) : OpR P w0 ρ ⟨d, .makeMap t none, ty, pos, af, g⟩ H (fun v H' => ∃ b, v = .map (some b) ∧ Sep H0 (.blk b (mpB []) :: L) H') :=
  o_makeMap.mono (by rintro _ _ ⟨b, h1, h2, rfl⟩; exact ⟨b, h2, hS.new h1⟩)
theorem s_mapUpdate {t kt et : TypeId} {x i y : Operand} {b : Nat} {m : List (α × Value)} {a : α} {u : Value} (hS : Sep H0 L H) (hA : At L (.blk b (mpB (ents kv m))) F) (ht : P.underlying t = some (.map kt et)) (hk : KeyK P kt kv) (hx : ρ x = .map (some b)) (hi : ρ i = kv a) (hy : ρ y = u) :
    OpR P w0 ρ ⟨d, .mapUpdate t x i y, ty, pos, af, g⟩ H (fun v H' => v = undef ∧ Sep H0 (F (.blk b (mpB (ents kv (mst m a u))))) H') :=
  (o_mapUpdate ht hk hx hi hy (hS.blk hA)).mono (by rintro _ _ ⟨h1, rfl⟩; exact ⟨h1, hS.set hA⟩)
end
end Go.Proofs.Ytfiojlmccflplaa.D
end
section
namespace Go.Proofs.Ytfiojlmccflplaa
open Go Go.RowKit D
set_option linter.unusedVariables false
set_option linter.unusedSimpArgs false
theorem ior_nat {x y : Nat} (hx : x < 9223372036854775808) (hy : y < 9223372036854775808) (hz : x ||| y < 9223372036854775808) : ior .i64 (x : Int) (y : Int) = ((x ||| y : Nat) : Int) := by
  unfold ior
  rw [BitVec.toNat_or, show IntKind.i64.bits = 64 from rfl, bv_nat 64 x (by omega), bv_nat 64 y (by omega)]
  exact wrap_i64_in (by omega) (by omega)
theorem num_or {a b c d : Nat} (ha : a < 256) (hb : b < 256) (hc : c < 256) (hd : d < 256) :
    ior .i64 (ior .i64 (ior .i64 (IntKind.i64.wrap ((a : Int) * 2 ^ 24)) (IntKind.i64.wrap ((b : Int) * 2 ^ 16))) (IntKind.i64.wrap ((c : Int) * 2 ^ 8))) (d : Int) = 256 * (256 * (256 * (a : Int) + b) + c) + d := by
  have e1 : IntKind.i64.wrap ((a : Int) * 2 ^ 24) = ((a * 2 ^ 24 : Nat) : Int) := by rw [wrap_i64_in (by omega) (by omega)]; omega
  have e2 : IntKind.i64.wrap ((b : Int) * 2 ^ 16) = ((b * 2 ^ 16 : Nat) : Int) := by rw [wrap_i64_in (by omega) (by omega)]; omega
  have e3 : IntKind.i64.wrap ((c : Int) * 2 ^ 8) = ((c * 2 ^ 8 : Nat) : Int) := by rw [wrap_i64_in (by omega) (by omega)]; omega
  have o1 : a * 2 ^ 24 ||| b * 2 ^ 16 = b * 2 ^ 16 + a * 2 ^ 24 := by rw [Nat.or_comm]; exact or_add (by omega)
  have o2 : (b * 2 ^ 16 + a * 2 ^ 24) ||| c * 2 ^ 8 = c * 2 ^ 8 + (b * 2 ^ 16 + a * 2 ^ 24) := by
    have : b * 2 ^ 16 + a * 2 ^ 24 = (b + a * 2 ^ 8) * 2 ^ 16 := by omega
    rw [Nat.or_comm, this]; exact or_add (by omega)
  have o3 : (c * 2 ^ 8 + (b * 2 ^ 16 + a * 2 ^ 24)) ||| d = d + (c * 2 ^ 8 + (b * 2 ^ 16 + a * 2 ^ 24)) := by
    have : c * 2 ^ 8 + (b * 2 ^ 16 + a * 2 ^ 24) = (c + (b * 2 ^ 8 + a * 2 ^ 16)) * 2 ^ 8 := by omega
    rw [Nat.or_comm, this]; exact or_add (by omega)
  rw [e1, e2, e3, ior_nat (by omega) (by omega) (by rw [o1]; omega), o1, ior_nat (by omega) (by omega) (by rw [o2]; omega), o2, ior_nat (by omega) (by omega) (by rw [o3]; omega), o3]
  omega
theorem num_eq (s : List UInt8) : ior .i64 (ior .i64 (ior .i64 (IntKind.i64.wrap (bt s 0 * 2 ^ 24)) (IntKind.i64.wrap (bt s 1 * 2 ^ 16))) (IntKind.i64.wrap (bt s 2 * 2 ^ 8))) (bt s 3) = numB s := by
  have h : ∀ i, (s.getD i 0).toNat < 256 := fun i => (s.getD i 0).toNat_lt
  rw [numB_def, numK_succ, numK_succ, numK_succ, numK_succ, numK_zero]
  have := num_or (h 0) (h 1) (h 2) (h 3)
  unfold bt
  rw [this]; omega
theorem bt_toBS {xs : List Int} {r : List UInt8} {i : Nat} (hi : i < xs.length) (h : 0 ≤ xs.getD i 0 ∧ xs.getD i 0 ≤ 255) : bt (toB xs ++ r) i = xs.getD i 0 := by
  have h1 : i < (toB xs).length := by rw [toB_length]; exact hi
  have h2 : (toB xs ++ r).getD i 0 = UInt8.ofNat (xs.getD i 0).toNat := by
    rw [List.getD_eq_getElem?_getD, List.getElem?_append_left h1]
    simp [toB, hi]
  rw [bt, h2, UInt8.toNat_ofNat']
  omega
theorem numB_fourS {n : Int} (h0 : 0 ≤ n) (h1 : n < 4294967296) (r : List UInt8) : numB (fourB n ++ r) = n := by
  have hw : ∀ x : Int, 0 ≤ IntKind.u8.wrap x ∧ IntKind.u8.wrap x ≤ 255 := fun x => by rw [wrap_u8]; omega
  have e0 : bt (fourB n ++ r) 0 = n / 2 ^ 24 % 256 := by rw [fourB_def, bt_toBS (xs := [IntKind.u8.wrap (n / 2 ^ 24), IntKind.u8.wrap (n / 2 ^ 16), IntKind.u8.wrap (n / 2 ^ 8), IntKind.u8.wrap n]) (i := 0) (by simp) (hw _)]; exact wrap_u8 _
  have e1 : bt (fourB n ++ r) 1 = n / 2 ^ 16 % 256 := by rw [fourB_def, bt_toBS (xs := [IntKind.u8.wrap (n / 2 ^ 24), IntKind.u8.wrap (n / 2 ^ 16), IntKind.u8.wrap (n / 2 ^ 8), IntKind.u8.wrap n]) (i := 1) (by simp) (hw _)]; exact wrap_u8 _
  have e2 : bt (fourB n ++ r) 2 = n / 2 ^ 8 % 256 := by rw [fourB_def, bt_toBS (xs := [IntKind.u8.wrap (n / 2 ^ 24), IntKind.u8.wrap (n / 2 ^ 16), IntKind.u8.wrap (n / 2 ^ 8), IntKind.u8.wrap n]) (i := 2) (by simp) (hw _)]; exact wrap_u8 _
  have e3 : bt (fourB n ++ r) 3 = n % 256 := by rw [fourB_def, bt_toBS (xs := [IntKind.u8.wrap (n / 2 ^ 24), IntKind.u8.wrap (n / 2 ^ 16), IntKind.u8.wrap (n / 2 ^ 8), IntKind.u8.wrap n]) (i := 3) (by simp) (hw _)]; exact wrap_u8 _
  rw [numB_def, numK_succ, numK_succ, numK_succ, numK_succ, numK_zero, e0, e1, e2, e3]
  omega
def z32 : List UInt8 := List.replicate 32 0
/-- A frame: its body, its bytes, the next head. -/
structure FrS where
  body : List UInt8
  size : Int
  next : List UInt8
def frN (s : List UInt8) : Nat := (numB s).toNat
def frOk (s : List UInt8) : Prop := ¬ (s.length : Int) < 4 ∧ ¬ (numB s < 37 ∨ 8228 < numB s ∨ (s.length : Int) < 4 + numB s + 32)
instance (s : List UInt8) : Decidable (frOk s) := by unfold frOk; infer_instance
def frBody (s : List UInt8) : List UInt8 := (s.take (4 + numB s).toNat).drop (Int.toNat 4)
def frNext (s : List UInt8) : List UInt8 := (s.take (4 + numB s + 32).toNat).drop (4 + numB s).toNat
/-- The first frame behind a head, and whether it is one. -/
def firstS (s head : List UInt8) : FrS × Bool := if frOk s then (⟨frBody s, 4 + numB s + 32, frNext s⟩, decide (frNext s = sha256 (head ++ frBody s))) else (⟨[], 0, []⟩, false)
theorem firstS_no {s head : List UInt8} (h : ¬ frOk s) : firstS s head = (⟨[], 0, []⟩, false) := if_neg h
theorem firstS_yes {s head : List UInt8} (h : frOk s) : firstS s head = (⟨frBody s, 4 + numB s + 32, frNext s⟩, decide (frNext s = sha256 (head ++ frBody s))) := if_pos h
theorem frOk_len {s : List UInt8} (h : frOk s) : (frBody s).length = frN s ∧ (frNext s).length = 32 ∧ 37 ≤ frN s ∧ frN s ≤ 8228 ∧ 4 + frN s + 32 ≤ s.length ∧ (numB s) = (frN s : Int) := by
  obtain ⟨h1, h2⟩ := h
  have hn := numB_range s
  have hN : numB s = (frN s : Int) := by unfold frN; omega
  refine ⟨?_, ?_, by omega, by omega, by omega, hN⟩
  · unfold frBody
    rw [List.length_drop, List.length_take, show (Int.toNat 4) = 4 from rfl]; omega
  · unfold frNext
    rw [List.length_drop, List.length_take]; omega
theorem firstS_ok {s head : List UInt8} (h : (firstS s head).2 = true) : frOk s ∧ firstS s head = (⟨frBody s, 4 + numB s + 32, frNext s⟩, true) ∧ frNext s = sha256 (head ++ frBody s) := by
  by_cases ho : frOk s
  · rw [firstS_yes ho] at h ⊢
    have := of_decide_eq_true h
    exact ⟨ho, by rw [decide_eq_true this], this⟩
  · rw [firstS_no ho] at h; cases h
section
variable {t : TapeS}
theorem tk_act (h : TapeOk t) : TapeOk (actP t).2 := by
  obtain ⟨h1, h2, h3, h4⟩ := h
  unfold actP
  split
  · exact ⟨h1, h2, h3, h4⟩
  · exact ⟨h1, h2, by show 0 ≤ max 0 (t.ar - 1); omega, by show max 0 (t.ar - 1) ≤ _; omega⟩
theorem tk_append (h : TapeOk t) (d : List UInt8) : TapeOk (appendP t d).2 := by
  unfold appendP
  split
  · exact h
  · split
    · exact h
    · refine tk_act ⟨h.1, ?_, h.2.2.1, h.2.2.2⟩
      show ((t.f.length + (t.l ++ d).length : Nat) : Int) ≤ t.lim
      rw [List.length_append]; omega
theorem tk_sync (h : TapeOk t) : TapeOk (syncP t).2 := by
  obtain ⟨h1, h2, h3, h4⟩ := id h
  unfold syncP
  split
  · exact h
  · split
    · exact ⟨h1, h2, h3, h4⟩
    · refine ⟨h1, ?_, by show 0 ≤ max 0 (t.ar - 1); omega, by show max 0 (t.ar - 1) ≤ _; omega⟩
      show (((t.f ++ t.l).length + 0 : Nat) : Int) ≤ t.lim
      rw [List.length_append]; omega
theorem tk_arm (h : TapeOk t) {n : Int} (hn : n ≤ 9223372036854775807) : TapeOk (armP t n) := ⟨h.1, h.2.1, by show 0 ≤ max n 0; omega, by show max n 0 ≤ _; omega⟩
theorem spoil_len (l : List UInt8) : (spoilP l).length = l.length := by
  unfold spoilP
  split
  · rfl
  · rw [List.length_append, List.length_take]; simp [toB]; omega
theorem tk_crash (h : TapeOk t) (k : Int) (sp : Bool) : TapeOk (crashP t k sp) := by
  obtain ⟨h1, h2, h3, h4⟩ := h
  refine ⟨h1, ?_, by show (0 : Int) ≤ 0; omega, by show (0 : Int) ≤ _; omega⟩
  show (((t.f ++ (if sp = true then spoilP (t.l.take (max 0 (min k (t.l.length : Int))).toNat) else t.l.take (max 0 (min k (t.l.length : Int))).toNat)).length + 0 : Nat) : Int) ≤ t.lim
  rw [List.length_append]
  split
  · rw [spoil_len, List.length_take]; omega
  · rw [List.length_take]; omega
theorem tk_len (h : TapeOk t) : (t.f ++ t.l).length ≤ 16777216 := by
  have := h.1; have := h.2.1
  rw [List.length_append]; omega
end
structure OneS where
  who : List UInt8
  seq : Int
  dat : List UInt8
abbrev OneL := List OneS
def oneR (o : OneS) : RecS := ⟨o.seq, o.dat⟩
def ofP (L : OneL) (who : List UInt8) : RecL := (L.filter fun o => decide (o.who = who)).map oneR
theorem ofP_nil (who : List UInt8) : ofP [] who = [] := rfl
theorem ofP_snoc (L : OneL) (o : OneS) (who : List UInt8) : ofP (L ++ [o]) who = if o.who = who then ofP L who ++ [oneR o] else ofP L who := by
  unfold ofP
  rw [List.filter_append, List.map_append]
  by_cases h : o.who = who
  · simp [h]
  · simp [h]
theorem ofP_len (L : OneL) (who : List UInt8) : (ofP L who).length ≤ L.length := by
  unfold ofP
  rw [List.length_map]
  exact List.length_filter_le _ _
def mkP (L : OneL) (who : List UInt8) : Int := ((ofP L who).length : Int)
/-- Each sender's messages are numbered from 1 on. -/
def StOk (L : OneL) : Prop := ∀ who (i : Nat) r, (ofP L who)[i]? = some r → r.seq = i + 1
theorem stok0 : StOk [] := fun who i r h => by rw [ofP_nil] at h; simp at h
theorem stok_snoc {L : OneL} (h : StOk L) {o : OneS} (ho : o.seq = mkP L o.who + 1) : StOk (L ++ [o]) := by
  intro who i r hr
  rw [ofP_snoc] at hr
  by_cases hw : o.who = who
  · rw [if_pos hw, List.getElem?_append] at hr
    split at hr
    · exact h who i r hr
    · rename_i hi
      have hz : i - (ofP L who).length = 0 := by
        have := (List.getElem?_eq_some_iff.1 hr).1
        simp at this; omega
      rw [hz] at hr
      simp at hr
      subst hr
      show o.seq = _
      rw [ho]
      unfold mkP
      rw [hw]
      have := Nat.not_lt.1 hi
      omega
  · rw [if_neg hw] at hr
    exact h who i r hr
structure StS where
  L : OneL
  h : List UInt8
def st0 : StS := ⟨[], z32⟩
def tWho (body : List UInt8) : List UInt8 := body.take (Int.toNat 32)
def tSeq (body : List UInt8) : Int := numB (body.drop (Int.toNat 32))
def tDat (body : List UInt8) : List UInt8 := body.drop (Int.toNat 36)
def takeS (s : StS) (body next : List UInt8) : Bool × StS :=
  if tSeq body = mkP s.L (tWho body) + 1 then (true, ⟨s.L ++ [⟨tWho body, tSeq body, tDat body⟩], next⟩) else (false, s)
theorem takeS_yes {s : StS} {body next : List UInt8} (h : tSeq body = mkP s.L (tWho body) + 1) : takeS s body next = (true, ⟨s.L ++ [⟨tWho body, tSeq body, tDat body⟩], next⟩) := if_pos h
theorem takeS_no {s : StS} {body next : List UInt8} (h : ¬ tSeq body = mkP s.L (tWho body) + 1) : takeS s body next = (false, s) := if_neg h
theorem takeS_ok {s : StS} (h : StOk s.L) (body next : List UInt8) : StOk (takeS s body next).2.L := by
  by_cases hc : tSeq body = mkP s.L (tWho body) + 1
  · rw [takeS_yes hc]; exact stok_snoc h hc
  · rw [takeS_no hc]; exact h
theorem takeS_len (s : StS) (body next : List UInt8) : (takeS s body next).2.L.length ≤ s.L.length + 1 := by
  by_cases hc : tSeq body = mkP s.L (tWho body) + 1
  · rw [takeS_yes hc]; simp
  · rw [takeS_no hc]; simp
def goesS (s : StS) (all : List UInt8) : Prop := (firstS all s.h).2 = true ∧ (takeS s (firstS all s.h).1.body (firstS all s.h).1.next).1 = true
instance (s : StS) (all : List UInt8) : Decidable (goesS s all) := by unfold goesS; infer_instance
def nextS (s : StS) (all : List UInt8) : StS := (takeS s (firstS all s.h).1.body (firstS all s.h).1.next).2
def stepS (s : StS) (all : List UInt8) : Nat := (firstS all s.h).1.size.toNat
theorem goes_len {s : StS} {all : List UInt8} (h : goesS s all) : 0 < stepS s all ∧ stepS s all ≤ all.length ∧ (firstS all s.h).1.size = (stepS s all : Int) ∧ 73 ≤ stepS s all := by
  obtain ⟨h1, h2, h3⟩ := firstS_ok h.1
  obtain ⟨g1, g2, g3, g4, g5, g6⟩ := frOk_len h1
  unfold stepS
  rw [h2]
  dsimp only
  omega
theorem nextS_head {s : StS} {all : List UInt8} (h : goesS s all) : (nextS s all).h.length = 32 := by
  obtain ⟨h1, h2, h3⟩ := firstS_ok h.1
  obtain ⟨g1, g2, g3, g4, g5, g6⟩ := frOk_len h1
  have ht := h.2
  unfold nextS
  by_cases hc : tSeq (firstS all s.h).1.body = mkP s.L (tWho (firstS all s.h).1.body) + 1
  · rw [takeS_yes hc]
    show (firstS all s.h).1.next.length = 32
    rw [h2]; exact g2
  · rw [takeS_no hc] at ht; cases ht
theorem takeS_false {s : StS} {body next : List UInt8} (h : (takeS s body next).1 = false) : (takeS s body next).2 = s := by
  by_cases hc : tSeq body = mkP s.L (tWho body) + 1
  · rw [takeS_yes hc] at h; cases h
  · rw [takeS_no hc]
theorem TREAD_dead {t : TapeS} (h : t.dd = true) : readP t = ([], 41) := if_pos h
theorem TREAD_ok {t : TapeS} (h : t.dd = false) : readP t = (t.f ++ t.l, 0) := if_neg (by simp [h])
def scanG : Nat → StS → List UInt8 → Nat × StS
  | 0, s, _ => (0, s)
  | k + 1, s, all => if goesS s all then (stepS s all + (scanG k (nextS s all) (all.drop (stepS s all))).1, (scanG k (nextS s all) (all.drop (stepS s all))).2) else (0, s)
theorem scanG_go {k : Nat} {s : StS} {all : List UInt8} (h : goesS s all) : scanG (k + 1) s all = (stepS s all + (scanG k (nextS s all) (all.drop (stepS s all))).1, (scanG k (nextS s all) (all.drop (stepS s all))).2) := by rw [scanG, if_pos h]
theorem scanG_end {k : Nat} {s : StS} {all : List UInt8} (h : ¬ goesS s all) : scanG k s all = (0, s) := by
  cases k with
  | zero => rfl
  | succ k => rw [scanG, if_neg h]
theorem scanG_more : ∀ (k j : Nat) (s : StS) (all : List UInt8), all.length < k → all.length < j → scanG k s all = scanG j s all := by
  intro k
  induction k with
  | zero => intro j s all h; omega
  | succ k ih =>
    intro j s all h1 h2
    obtain ⟨j, rfl⟩ : ∃ i, j = i + 1 := ⟨j - 1, by omega⟩
    by_cases hg : goesS s all
    · have hl := goes_len hg
      rw [scanG_go hg, scanG_go hg, ih j _ _ (by rw [List.length_drop]; omega) (by rw [List.length_drop]; omega)]
    · rw [scanG_end hg, scanG_end hg]
/-- How far bytes are taken up, and what there is then. -/
def scanS (s : StS) (all : List UInt8) : Nat × StS := scanG (all.length + 1) s all
theorem scanS_end {s : StS} {all : List UInt8} (h : ¬ goesS s all) : scanS s all = (0, s) := scanG_end h
theorem scanS_go {s : StS} {all : List UInt8} (h : goesS s all) : scanS s all = (stepS s all + (scanS (nextS s all) (all.drop (stepS s all))).1, (scanS (nextS s all) (all.drop (stepS s all))).2) := by
  have hl := goes_len h
  unfold scanS
  rw [scanG_go h, scanG_more all.length ((all.drop (stepS s all)).length + 1) _ _ (by rw [List.length_drop]; omega) (by omega)]
structure StF where
  st : StS
  dd : Bool
def bodyS (who : List UInt8) (seq : Int) (dat : List UInt8) : List UInt8 := who ++ fourB seq ++ dat
def nxS (h body : List UInt8) : List UInt8 := sha256 (h ++ body)
def frS (h body : List UInt8) : List UInt8 := fourB (body.length : Int) ++ body ++ nxS h body
theorem nxS_len (h body : List UInt8) : (nxS h body).length = 32 := sha256_length _
theorem frS_len (h body : List UInt8) : (frS h body).length = 36 + body.length := by simp [frS, fourB_length, nxS_len]; omega
theorem bodyS_len {who : List UInt8} {seq : Int} {dat : List UInt8} : (bodyS who seq dat).length = who.length + 4 + dat.length := by simp [bodyS, fourB_length]; omega
def openSC (t : TapeS) : Int × TapeS := if (scanS st0 (t.f ++ t.l)).1 < (t.f ++ t.l).length then cutP t (scanS st0 (t.f ++ t.l)).1 else syncP t
theorem openSC_cut {t : TapeS} (h : (scanS st0 (t.f ++ t.l)).1 < (t.f ++ t.l).length) : openSC t = cutP t (scanS st0 (t.f ++ t.l)).1 := if_pos h
theorem openSC_sync {t : TapeS} (h : ¬ (scanS st0 (t.f ++ t.l)).1 < (t.f ++ t.l).length) : openSC t = syncP t := if_neg h
/-- What Open answers, and the tape behind it. -/
def openS (t : TapeS) : Int × TapeS := if t.dd = true then (41, t) else openSC t
theorem openS_dead {t : TapeS} (h : t.dd = true) : openS t = (41, t) := if_pos h
theorem openS_go {t : TapeS} (h : t.dd = false) : openS t = openSC t := if_neg (by simp [h])
def layS (t : TapeS) (x : StF) (who : List UInt8) (seq : Int) (dat : List UInt8) : Int × StF × TapeS :=
  if (appendP t (frS x.st.h (bodyS who seq dat))).1 = 40 then (40, x, (appendP t (frS x.st.h (bodyS who seq dat))).2)
  else if (appendP t (frS x.st.h (bodyS who seq dat))).1 ≠ 0 then ((appendP t (frS x.st.h (bodyS who seq dat))).1, { x with dd := true }, (appendP t (frS x.st.h (bodyS who seq dat))).2)
  else if (syncP (appendP t (frS x.st.h (bodyS who seq dat))).2).1 ≠ 0 then ((syncP (appendP t (frS x.st.h (bodyS who seq dat))).2).1, { x with dd := true }, (syncP (appendP t (frS x.st.h (bodyS who seq dat))).2).2)
  else (0, { x with st := ⟨x.st.L ++ [⟨who, seq, dat⟩], nxS x.st.h (bodyS who seq dat)⟩ }, (syncP (appendP t (frS x.st.h (bodyS who seq dat))).2).2)
section
variable {t : TapeS} {x : StF} {who : List UInt8} {seq : Int} {dat : List UInt8}
theorem layS_full (h : (appendP t (frS x.st.h (bodyS who seq dat))).1 = 40) : layS t x who seq dat = (40, x, (appendP t (frS x.st.h (bodyS who seq dat))).2) := if_pos h
theorem layS_app (h : ¬ (appendP t (frS x.st.h (bodyS who seq dat))).1 = 40) (h1 : (appendP t (frS x.st.h (bodyS who seq dat))).1 ≠ 0) : layS t x who seq dat = ((appendP t (frS x.st.h (bodyS who seq dat))).1, { x with dd := true }, (appendP t (frS x.st.h (bodyS who seq dat))).2) := by rw [layS, if_neg h, if_pos h1]
theorem layS_syn (h : (appendP t (frS x.st.h (bodyS who seq dat))).1 = 0) (h1 : (syncP (appendP t (frS x.st.h (bodyS who seq dat))).2).1 ≠ 0) : layS t x who seq dat = ((syncP (appendP t (frS x.st.h (bodyS who seq dat))).2).1, { x with dd := true }, (syncP (appendP t (frS x.st.h (bodyS who seq dat))).2).2) := by rw [layS, if_neg (by rw [h]; decide), if_neg (by simp [h]), if_pos h1]
theorem layS_ok (h : (appendP t (frS x.st.h (bodyS who seq dat))).1 = 0) (h1 : (syncP (appendP t (frS x.st.h (bodyS who seq dat))).2).1 = 0) : layS t x who seq dat = (0, { x with st := ⟨x.st.L ++ [⟨who, seq, dat⟩], nxS x.st.h (bodyS who seq dat)⟩ }, (syncP (appendP t (frS x.st.h (bodyS who seq dat))).2).2) := by rw [layS, if_neg (by rw [h]; decide), if_neg (by simp [h]), if_neg (by simp [h1])]
def addBad (who : List UInt8) (seq : Int) (dat : List UInt8) : Prop := who.length ≠ 32 ∨ seq < 1 ∨ dat = [] ∨ 8192 < dat.length
instance : Decidable (addBad who seq dat) := by unfold addBad; infer_instance
def addS (t : TapeS) (x : StF) (who : List UInt8) (seq : Int) (dat : List UInt8) : Int × StF × TapeS :=
  if x.dd = true then (41, x, t) else if addBad who seq dat then (1, x, t) else if seq ≤ mkP x.st.L who then (0, x, t) else if mkP x.st.L who + 1 < seq then (44, x, t) else layS t x who seq dat
theorem addS_dead (h : x.dd = true) : addS t x who seq dat = (41, x, t) := if_pos h
theorem addS_arg (h : x.dd = false) (h1 : addBad who seq dat) : addS t x who seq dat = (1, x, t) := by rw [addS, if_neg (by simp [h]), if_pos h1]
theorem addS_old (h : x.dd = false) (h1 : ¬ addBad who seq dat) (h2 : seq ≤ mkP x.st.L who) : addS t x who seq dat = (0, x, t) := by rw [addS, if_neg (by simp [h]), if_neg h1, if_pos h2]
theorem addS_seq (h : x.dd = false) (h1 : ¬ addBad who seq dat) (h2 : mkP x.st.L who + 1 < seq) : addS t x who seq dat = (44, x, t) := by rw [addS, if_neg (by simp [h]), if_neg h1, if_neg (by omega), if_pos h2]
theorem addS_go (h : x.dd = false) (h1 : ¬ addBad who seq dat) (h2 : seq = mkP x.st.L who + 1) : addS t x who seq dat = layS t x who seq dat := by rw [addS, if_neg (by simp [h]), if_neg h1, if_neg (by omega), if_neg (by omega)]
end
def verG : Nat → List UInt8 → List UInt8 → List UInt8 → Int × Int
  | 0, _, _, _ => (0, 0)
  | k + 1, data, h, head => if h = head then (0, 0) else if data = [] then (0, 42) else if (firstS data h).2 = false then (0, 43)
    else ((firstS data h).1.size + (verG k (data.drop (firstS data h).1.size.toNat) (firstS data h).1.next head).1, (verG k (data.drop (firstS data h).1.size.toNat) (firstS data h).1.next head).2)
theorem verG_more : ∀ (k j : Nat) (data h head : List UInt8), data.length < k → data.length < j → verG k data h head = verG j data h head := by
  intro k
  induction k with
  | zero => intro j data h head h1; omega
  | succ k ih =>
    intro j data h head h1 h2
    obtain ⟨j, rfl⟩ : ∃ i, j = i + 1 := ⟨j - 1, by omega⟩
    rw [verG, verG]
    by_cases c1 : h = head
    · rw [if_pos c1, if_pos c1]
    · rw [if_neg c1, if_neg c1]
      by_cases c2 : data = []
      · rw [if_pos c2, if_pos c2]
      · rw [if_neg c2, if_neg c2]
        by_cases c3 : (firstS data h).2 = false
        · rw [if_pos c3, if_pos c3]
        · rw [if_neg c3, if_neg c3]
          obtain ⟨g1, g2, g3⟩ := firstS_ok (by simpa using c3 : (firstS data h).2 = true)
          obtain ⟨f1, f2, f3, f4, f5, f6⟩ := frOk_len g1
          have hs : 0 < (firstS data h).1.size.toNat ∧ (firstS data h).1.size.toNat ≤ data.length := by rw [g2]; dsimp only; omega
          rw [ih j _ _ _ (by rw [List.length_drop]; omega) (by rw [List.length_drop]; omega)]
/-- Where a chain comes to a head, or is broken; and the answer. -/
def verS (data h head : List UInt8) : Int × Int := verG (data.length + 1) data h head
section
variable {data h head : List UInt8}
theorem verS_here (e : h = head) : verS data h head = (0, 0) := if_pos e
theorem verS_none (e : ¬ h = head) (e1 : data = []) : verS data h head = (0, 42) := by rw [verS, verG, if_neg e, if_pos e1]
theorem verS_chain (e : ¬ h = head) (e1 : ¬ data = []) (e2 : (firstS data h).2 = false) : verS data h head = (0, 43) := by rw [verS, verG, if_neg e, if_neg e1, if_pos e2]
theorem ver_size (e2 : (firstS data h).2 = true) : 0 < (firstS data h).1.size.toNat ∧ (firstS data h).1.size.toNat ≤ data.length ∧ (firstS data h).1.size = ((firstS data h).1.size.toNat : Int) ∧ (firstS data h).1.next.length = 32 := by
  obtain ⟨g1, g2, g3⟩ := firstS_ok e2
  obtain ⟨f1, f2, f3, f4, f5, f6⟩ := frOk_len g1
  rw [g2]
  dsimp only
  omega
theorem verS_go (e : ¬ h = head) (e1 : ¬ data = []) (e2 : (firstS data h).2 = true) : verS data h head = ((firstS data h).1.size + (verS (data.drop (firstS data h).1.size.toNat) (firstS data h).1.next head).1, (verS (data.drop (firstS data h).1.size.toNat) (firstS data h).1.next head).2) := by
  have hs := ver_size e2
  have hl : 0 < data.length := List.length_pos_iff.2 e1
  conv => lhs; rw [verS, verG, if_neg e, if_neg e1, if_neg (by simp [e2])]
  rw [verG_more data.length ((data.drop (firstS data h).1.size.toNat).length + 1) _ _ _ (by rw [List.length_drop]; omega) (by omega)]
  rfl
end
attribute [irreducible] firstS takeS scanS openS layS addS verS ofP bodyS nxS frS
theorem bodyS_def (who : List UInt8) (seq : Int) (dat : List UInt8) : bodyS who seq dat = who ++ fourB seq ++ dat := by unfold bodyS; rfl
theorem nxS_def (h body : List UInt8) : nxS h body = sha256 (h ++ body) := by unfold nxS; rfl
theorem frS_def (h body : List UInt8) : frS h body = fourB (body.length : Int) ++ body ++ nxS h body := by unfold frS; rfl
end Go.Proofs.Ytfiojlmccflplaa
end
section
namespace Go.Proofs.Ytfiojlmccflplaa.D
open Go Go.RowKit
set_option linter.unusedVariables false
set_option linter.unusedSimpArgs false
section
variable {P : Program} {w0 : World} {n : Nat} {ops : Array Oper} {Q : Post} {H : Hp} {e : Env} {b : Array Bool} {fuel : Nat}
def AnyW (P : Program) (w0 : World) (n : Nat) (ops : Array Oper) (Q : Post) (fuel : Nat) (b : Array Bool) (e : Env) (H : Hp) : Prop :=
  ∀ a w, Fr n e a → Own w0 H w → wpAny P .any ops (lift w0 n Q) fuel b a w
theorem AW.steps {id : Nat} (hm : P.follows .mixedOrders = true) (m : Nat) (hs : ops.size = m) (h : AnyW P w0 n ops Q m (Array.replicate m false) e H) : AW P w0 n (.region id ops true) Q e H := by
  intro a w hf ho
  refine wp_region_any hm ?_
  rw [hs]
  exact h a _ hf ho.drew
/-- In every world. -/
def QV (P : Program) (ρ : Operand → Value) (o : Oper) (v : Value) : Prop := ∀ w, (execOp ρ o).run P w = .ok (.value v) w
theorem AnyW.first {o : Oper} {v : Value} (i : Nat) (hi : ops[i]? = some o) (hsel : Region.noSelect ops = true) (hf : Region.free .any ops b i = true) (hr : (Region.ready .any ops b).contains i = true) (hg : o.guard = none) (hd : dstOk n o.dst = true)
    (h : QV P (D.ev e) o v) (hk : AnyW P w0 n ops Q fuel (b.setIfInBounds i true) (putE e o.dst v) H) : AnyW P w0 n ops Q (fuel + 1) b e H := by
  intro a w hfr ho
  have he : a.eval = D.ev e := funext hfr.ev
  refine wpAny_take hi hsel hf hr (fun c a w h => h.1.elim) (.inl ⟨by simp [Region.wanted, hg], fun w => by rw [he]; exact h w⟩) ?_
  exact hk _ _ (hfr.put hd v) ho
theorem AnyW.only {o : Oper} {R : Value → Hp → Prop} (i : Nat) (hi : ops[i]? = some o) (hr : Region.ready .any ops b = [i]) (hg : o.guard = none) (hd : dstOk n o.dst = true)
    (h : OpR P w0 (D.ev e) o H R) (hk : ∀ v H', R v H' → AnyW P w0 n ops Q fuel (b.setIfInBounds i true) (putE e o.dst v) H') : AnyW P w0 n ops Q (fuel + 1) b e H := by
  intro a w hfr ho
  refine ⟨fun g => absurd (hr.symm.trans g) (by simp), fun j hj => ?_⟩
  rw [hr] at hj
  obtain rfl : j = i := by simpa using hj
  unfold wpOp
  rw [hi]
  simp only [show Region.wanted o (yielded ops a.tmps) = true from by simp [Region.wanted, hg], if_true]
  exact .inl (Res.wp (ops := ops) (Q := Q) hfr ho h fun v H' w' hv ho' => hk v H' hv _ _ (hfr.put hd v) ho')
theorem AnyW.onlyQ {o : Oper} {v : Value} (i : Nat) (hi : ops[i]? = some o) (hr : Region.ready .any ops b = [i]) (hg : o.guard = none) (hd : dstOk n o.dst = true)
    (h : QS P w0 (D.ev e) o H v) (hk : AnyW P w0 n ops Q fuel (b.setIfInBounds i true) (putE e o.dst v) H) : AnyW P w0 n ops Q (fuel + 1) b e H :=
  AnyW.only i hi hr hg hd h (by rintro _ _ ⟨rfl, rfl⟩; exact hk)
/-- Two may come up. -/
theorem AnyW.two {o1 o2 : Oper} {R1 R2 : Value → Hp → Prop} (i j : Nat) (hi : ops[i]? = some o1) (hj : ops[j]? = some o2) (hr : Region.ready .any ops b = [i, j]) (g1 : o1.guard = none) (g2 : o2.guard = none) (d1 : dstOk n o1.dst = true) (d2 : dstOk n o2.dst = true)
    (h1 : OpR P w0 (D.ev e) o1 H R1) (h2 : OpR P w0 (D.ev e) o2 H R2) (k1 : ∀ v H', R1 v H' → AnyW P w0 n ops Q fuel (b.setIfInBounds i true) (putE e o1.dst v) H') (k2 : ∀ v H', R2 v H' → AnyW P w0 n ops Q fuel (b.setIfInBounds j true) (putE e o2.dst v) H') :
    AnyW P w0 n ops Q (fuel + 1) b e H := by
  intro a w hfr ho
  refine ⟨fun g => absurd (hr.symm.trans g) (by simp), fun q hq => ?_⟩
  rw [hr] at hq
  rcases List.mem_cons.1 hq with rfl | hq
  · unfold wpOp
    rw [hi]
    simp only [show Region.wanted o1 (yielded ops a.tmps) = true from by simp [Region.wanted, g1], if_true]
    exact .inl (Res.wp (ops := ops) (Q := Q) hfr ho h1 fun v H' w' hv ho' => k1 v H' hv _ _ (hfr.put d1 v) ho')
  · obtain rfl : q = j := by simpa using hq
    unfold wpOp
    rw [hj]
    simp only [show Region.wanted o2 (yielded ops a.tmps) = true from by simp [Region.wanted, g2], if_true]
    exact .inl (Res.wp (ops := ops) (Q := Q) hfr ho h2 fun v H' w' hv ho' => k2 v H' hv _ _ (hfr.put d2 v) ho')
theorem AnyW.done (hr : Region.ready .any ops b = []) (h : Q .normal e H) : AnyW P w0 n ops Q 0 b e H := fun a w hf ho => ⟨hr, trivial, e, H, hf, ho, h⟩
variable {ρ : Operand → Value} {d : Option Tmp} {ty : TypeId} {pos : String} {af : Array Edge} {g : Option (Nat × Bool)}
theorem v_move {x : Operand} {v : Value} (hx : ρ x = v) : QV P ρ ⟨d, .move x, ty, pos, af, g⟩ v := fun w => by subst hx; rfl
end
end Go.Proofs.Ytfiojlmccflplaa.D
end
section
namespace Go.Proofs.Ytfiojlmccflplaa.D
open Go Go.RowKit
set_option linter.unusedVariables false
set_option linter.unusedSimpArgs false
section
variable {P : Program} {ρ : Operand → Value} {d : Option Tmp} {ty : TypeId} {pos : String} {af : Array Edge} {g : Option (Nat × Bool)}
theorem v_sliceS_lo {t : TypeId} {x lo : Operand} {l : List UInt8} {k : IntKind} {a : Int} (ht : P.underlying t = some .string) (hx : ρ x = S l) (ha : ρ lo = .int k a)
    (h0 : 0 ≤ a) (h1 : a ≤ l.length) : QV P ρ ⟨d, .slice t x (some lo) none none, ty, pos, af, g⟩ (S (l.drop a.toNat)) :=
  fun w => by
    have : l.take (str l).size = l := by rw [str_size]; exact List.take_length
    simp [execOp, Instr.sliceAt, run_underlying ht, hx, ha, Instr.slice, Instr.sliceBounds,
      run_sliceBound' k a (str l).size _ w h0 (by rw [str_size]; omega), str_extract, this]
theorem v_nilCheck {x : Operand} {a : Addr} (hx : ρ x = .pointer (some a)) : QV P ρ ⟨d, .nilCheck x, ty, pos, af, g⟩ (.pointer (some a)) :=
  fun w => by simp [execOp, hx]
theorem v_fieldAddr {t : TypeId} {fs : Array Field} {f : Field} {m sz : Nat} {x : Operand} {b o : Nat} (ht : P.underlying t = some (.struct fs)) (hf : fs[m]? = some f) (hs : sizeT P f.type = some (sz + 1))
    (hx : ρ x = .pointer (some ⟨b, o, none⟩)) : QV P ρ ⟨d, .fieldAddr t x m, ty, pos, af, g⟩ (.pointer (some ⟨b, o + f.offset, none⟩)) :=
  fun w => by simp [execOp, Instr.fieldAt, hx, run_underlying ht, hf, Instr.sureAddr, fieldPlace, run_sizeT hs, Addr.add0]
theorem v_extract {x : Operand} {vs : Array Value} {m : Nat} {v : Value} (hx : ρ x = .tuple vs) (hv : vs[m]? = some v) : QV P ρ ⟨d, .extract x m, ty, pos, af, g⟩ v :=
  fun w => by simp [execOp, Instr.extract, hx, hv]
end
end Go.Proofs.Ytfiojlmccflplaa.D
end
section
namespace Go.Proofs.Ytfiojlmccflplaa.D
open Go Go.RowKit
set_option linter.unusedVariables false
set_option linter.unusedSimpArgs false
section
variable {P : Program} {rs : Array ResultVar} {R : Value → Hp → Prop} {e : Env} {H H' : Hp} {t1 t2 t3 t4 : Tmp} {v1 v2 v3 v4 : Value} {ct : TypeId} {b m sz : Nat} {el : Tag} {cs : List Value}
theorem RetP.mkc1 (hr : rs = #[.cell t1 ct, .tmp t2]) (hp : e t1 = .pointer (some ⟨b, 0, none⟩)) (h2 : e t2 = v2) (hb : H b = some ⟨cs, sz, el⟩) (hl : cs.length = m) (ht : aggT P ct m = true)
    (hle : H'.le H) (h3 : R (.tuple #[.agg cs.toArray, v2]) H') : RetP P rs R .ret e H := by
  subst hr; subst hl; exact RetP.mk [.agg cs.toArray, v2] H' ⟨⟨b, _, hp, hb, .inl ⟨ht, rfl⟩⟩, h2, trivial⟩ hle h3
end
section
variable {P : Program} {w0 : World} {n : Nat} {ops : Array Oper} {Q : Post} {H : Hp} {e : Env} {b : Array Bool} {fuel : Nat}
theorem AnyW.three {o1 o2 o3 : Oper} {R1 R2 R3 : Value → Hp → Prop} (i j k : Nat) (hi : ops[i]? = some o1) (hj : ops[j]? = some o2) (hk : ops[k]? = some o3) (hr : Region.ready .any ops b = [i, j, k]) (g1 : o1.guard = none) (g2 : o2.guard = none) (g3 : o3.guard = none) (d1 : dstOk n o1.dst = true) (d2 : dstOk n o2.dst = true) (d3 : dstOk n o3.dst = true)
    (h1 : OpR P w0 (D.ev e) o1 H R1) (h2 : OpR P w0 (D.ev e) o2 H R2) (h3 : OpR P w0 (D.ev e) o3 H R3) (k1 : ∀ v H', R1 v H' → AnyW P w0 n ops Q fuel (b.setIfInBounds i true) (putE e o1.dst v) H') (k2 : ∀ v H', R2 v H' → AnyW P w0 n ops Q fuel (b.setIfInBounds j true) (putE e o2.dst v) H')
    (k3 : ∀ v H', R3 v H' → AnyW P w0 n ops Q fuel (b.setIfInBounds k true) (putE e o3.dst v) H') : AnyW P w0 n ops Q (fuel + 1) b e H := by
  intro a w hfr ho
  refine ⟨fun g => absurd (hr.symm.trans g) (by simp), fun q hq => ?_⟩
  rw [hr] at hq
  have hw : ∀ {o : Oper}, o.guard = none → Region.wanted o (yielded ops a.tmps) = true := fun g => by simp [Region.wanted, g]
  rcases List.mem_cons.1 hq with rfl | hq
  · unfold wpOp
    rw [hi]
    simp only [hw g1, if_true]
    exact .inl (Res.wp (ops := ops) (Q := Q) hfr ho h1 fun v H' w' hv ho' => k1 v H' hv _ _ (hfr.put d1 v) ho')
  · rcases List.mem_cons.1 hq with rfl | hq
    · unfold wpOp
      rw [hj]
      simp only [hw g2, if_true]
      exact .inl (Res.wp (ops := ops) (Q := Q) hfr ho h2 fun v H' w' hv ho' => k2 v H' hv _ _ (hfr.put d2 v) ho')
    · obtain rfl : q = k := by simpa using hq
      unfold wpOp
      rw [hk]
      simp only [hw g3, if_true]
      exact .inl (Res.wp (ops := ops) (Q := Q) hfr ho h3 fun v H' w' hv ho' => k3 v H' hv _ _ (hfr.put d3 v) ho')
end
section
variable {H0 H : Hp} {L L' : List Chunk} {c : Chunk}
theorem Sep.under {d : Chunk} {K K' : List Chunk} (h : Sep H0 (d :: K) H) (f : ∀ {G : Hp}, Sep H0 K G → Sep H0 K' G) : Sep H0 (d :: K') H := by
  obtain ⟨g1, g2, a, l1, l2, hd, hk⟩ := h
  exact ⟨g1, g2, a, l1, l2, hd, f hk⟩
/-- A piece goes back to its place. -/
theorem Sep.back (hD : Del L c L') : ∀ {H : Hp}, Sep H0 (c :: L') H → Sep H0 L H := by
  induction hD with
  | z => intro H h; exact h
  | s _ ih => intro H h; exact Sep.under (Sep.bring del1 h) ih
end
section
variable {H0 H H' : Hp} {L : List Chunk} {c0 c1 c2 : Chunk}
/-- Some pieces alone, the others in the frame. -/
theorem Sep.parted {K : List Chunk} (h : Sep H0 (K ++ L) H) : ∃ Hf : Hp, H0.le Hf ∧ Sep Hf K H ∧ Sep H0 L Hf ∧ ∀ (K' : List Chunk) (H' : Hp), Sep Hf K' H' → Sep H0 (K' ++ L) H' := by
  obtain ⟨h1, h2, a, l1, l2, hK, hL⟩ := Sep.split h
  refine ⟨h2, hL.le, ?_, hL, fun K' H' hK' => hL.join hK'⟩
  have := Sep.beside (L := []) hK a l1 l2 (Hp.le_refl h2)
  rwa [List.append_nil] at this
theorem Sep.part2 (h : Sep H0 (c0 :: c1 :: L) H) : ∃ Hf : Hp, H0.le Hf ∧ Sep Hf [c0, c1] H ∧ Sep H0 L Hf ∧ ∀ (K' : List Chunk) (H' : Hp), Sep Hf K' H' → Sep H0 (K' ++ L) H' := Sep.parted (K := [c0, c1]) h
theorem Sep.part3 (h : Sep H0 (c0 :: c1 :: c2 :: L) H) : ∃ Hf : Hp, H0.le Hf ∧ Sep Hf [c0, c1, c2] H ∧ Sep H0 L Hf ∧ ∀ (K' : List Chunk) (H' : Hp), Sep Hf K' H' → Sep H0 (K' ++ L) H' := Sep.parted (K := [c0, c1, c2]) h
end
section
variable {P : Program} {w0 : World} {ρ : Operand → Value} {d : Option Tmp} {ty : TypeId} {pos : String} {af : Array Edge} {g : Option (Nat × Bool)} {H : Hp} {α : Type} {cells : α → List Value} {sz : Nat}
end
end Go.Proofs.Ytfiojlmccflplaa.D
end
