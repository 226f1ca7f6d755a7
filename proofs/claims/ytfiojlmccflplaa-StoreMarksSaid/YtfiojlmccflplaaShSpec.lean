/-
  What package sha computes, words of 32 bits: in plain Lean. Printed by XShSpec.gen.py. No condition.
-/
import Derived.Test.YtfiojlmccflplaaDZ
namespace Go.Proofs.Ytfiojlmccflplaa
open Go Go.RowKit D
set_option linter.unusedVariables false
set_option linter.unusedSimpArgs false
set_option maxRecDepth 100000
set_option maxHeartbeats 1000000
def kL : List Int := [4794697086780616226, 8158064640168781261, 13096744586834688815, 16840607885511220156, 4131703408338449720, 6480981068601479193, 10538285296894168987, 12329834152419229976, 15566598209576043074, 1334009975649890238, 2608012711638119052, 6128411473006802146, 8268148722764581231, 9286055187155687089, 11230858885718282805, 13951009754708518548, 16472876342353939154, 17275323862435702243, 1135362057144423861, 2597628984639134821, 3308224258029322869, 5365058923640841347, 6679025012923562964, 8573033837759648693, 10970295158949994411, 12119686244451234320, 12683024718118986047, 13788192230050041572, 14330467153632333762, 15395433587784984357, 489312712824947311, 1452737877330783856, 2861767655752347644, 3322285676063803686, 5560940570517711597, 5996557281743188959, 7280758554555802590, 8532644243296465576, 9350256976987008742, 10552545826968843579, 11727347734174303076, 12113106623233404929, 14000437183269869457, 14369950271660146224, 15101387698204529176, 15463397548674623760, 17586052441742319658, 1182934255886127544, 1847814050463011016, 2177327727835720531, 2830643537854262169, 3796741975233480872, 4115178125766777443, 5681478168544905931, 6601373596472566643, 7507060721942968483, 8399075790359081724, 8693463985226723168, 9568029438360202098, 10144078919501101548, 10430055236837252648, 11840083180663258601, 13761210420658862357, 14299343276471374635, 14566680578165727644, 15097957966210449927, 16922976911328602910, 17689382322260857208, 500013540394364858, 748580250866718886, 1242879168328830382, 1977374033974150939, 2944078676154940804, 3659926193048069267, 4368137639120453308, 4836135668995329356, 5532061633213252278, 6448918945643986474, 6902733635092675308, 7801388544844847127]
def stL0 : List Int := [7640891576956012808, 13503953896175478587, 4354685564936845355, 11912009170470909681, 5840696475078001361, 11170449401992604703, 2270897969802886507, 6620516959819538809]
theorem kL_length : kL.length = 80 := rfl
theorem stL0_length : stL0.length = 8 := rfl
/-! words -/
def rt (x n : Int) : Int := ior .u32 (x / 2 ^ min n.toNat IntKind.u32.bits) (IntKind.u32.wrap (x * 2 ^ min (32 - n).toNat IntKind.u32.bits))
def mix3 (x a b c : Int) : Int := ixor .u32 (ixor .u32 (rt x a) (rt x b)) (x / 2 ^ min c.toNat IntKind.u32.bits)
def whl (x a b c : Int) : Int := ixor .u32 (ixor .u32 (rt x a) (rt x b)) (rt x c)
def w32 (x : Int) : Int := IntKind.u32.wrap x
theorem w32_eq (x : Int) : IntKind.u32.wrap x = w32 x := rfl
def wordB (s : List UInt8) (o : Nat) : Int := bt s o * 16777216 + bt s (o + 1) * 65536 + bt s (o + 2) * 256 + bt s (o + 3)
theorem wordB_range (s : List UInt8) (o : Nat) : 0 ≤ wordB s o ∧ wordB s o < 4294967296 := by
  have h0 := bt_range s o; have h1 := bt_range s (o + 1); have h2 := bt_range s (o + 2); have h3 := bt_range s (o + 3)
  unfold wordB; omega
theorem or32 {a b : Int} (i : Nat) (hi : i ≤ 31) (ha : 0 ≤ a) (h1 : a < 2 ^ i) (hb : 0 ≤ b) (h2 : b * 2 ^ i < 4294967296) : ior .u32 (b * 2 ^ i) a = a + b * 2 ^ i := by
  obtain ⟨x, rfl⟩ := Int.eq_ofNat_of_zero_le ha
  obtain ⟨y, rfl⟩ := Int.eq_ofNat_of_zero_le hb
  have e : ((y : Int) * 2 ^ i) = ((y * 2 ^ i : Nat) : Int) := by rw [Int.natCast_mul, Int.natCast_pow]; rfl
  rw [e] at h2 ⊢
  have h1' : x < 2 ^ i := by
    have : ((x : Nat) : Int) < ((2 ^ i : Nat) : Int) := by rw [Int.natCast_pow]; exact h1
    exact Int.ofNat_lt.1 this
  have hx : x < 2 ^ 32 := Nat.lt_of_lt_of_le h1' (Nat.pow_le_pow_right (by decide) (by omega))
  have hy : y * 2 ^ i < 2 ^ 32 := by
    have : ((y * 2 ^ i : Nat) : Int) < ((2 ^ 32 : Nat) : Int) := h2
    exact Int.ofNat_lt.1 this
  unfold ior
  rw [show IntKind.u32.bits = 32 from rfl, wrap_u32, BitVec.toNat_or, bv_nat 32 _ hy, bv_nat 32 _ hx, Nat.or_comm, or_add h1']
  have hlt : x + y * 2 ^ i < 2 ^ 32 := by
    rw [← or_add h1']; exact Nat.or_lt_two_pow hx hy
  have hlt' : ((x + y * 2 ^ i : Nat) : Int) < 4294967296 := Int.ofNat_lt.2 hlt
  rw [Int.emod_eq_of_lt (Int.natCast_nonneg _) hlt', Int.natCast_add]
/-- A block's words, and those that follow of them. -/
def nextW (l : List Int) (t : Nat) : Int := w32 (w32 (w32 (l.getD (t - 16) 0 + l.getD (t - 7) 0) + mix3 (l.getD (t - 15) 0) 7 18 3) + mix3 (l.getD (t - 2) 0) 17 19 10)
def wsK (s : List UInt8) : Nat → List Int
  | 0 => []
  | t + 1 => wsK s t ++ [if t < 16 then wordB s (4 * t) else nextW (wsK s t) t]
theorem wsK_zero (s : List UInt8) : wsK s 0 = [] := rfl
theorem wsK_succ (s : List UInt8) (t : Nat) : wsK s (t + 1) = wsK s t ++ [if t < 16 then wordB s (4 * t) else nextW (wsK s t) t] := rfl
theorem wsK_lo (s : List UInt8) {t : Nat} (h : t < 16) : wsK s (t + 1) = wsK s t ++ [wordB s (4 * t)] := by rw [wsK_succ, if_pos h]
theorem wsK_hi (s : List UInt8) {t : Nat} (h : ¬ t < 16) : wsK s (t + 1) = wsK s t ++ [nextW (wsK s t) t] := by rw [wsK_succ, if_neg h]
theorem wsK_length (s : List UInt8) (t : Nat) : (wsK s t).length = t := by
  induction t with
  | zero => rfl
  | succ t ih => rw [wsK_succ, List.length_append, ih]; rfl
/-- The first bytes of a word. -/
def wpK (s : List UInt8) (o : Nat) : Nat → Int
  | 0 => 0
  | i + 1 => wpK s o i * 256 + bt s (o + i)
theorem wpK_zero (s : List UInt8) (o : Nat) : wpK s o 0 = 0 := rfl
theorem wpK_succ (s : List UInt8) (o i : Nat) : wpK s o (i + 1) = wpK s o i * 256 + bt s (o + i) := rfl
theorem wpK_four (s : List UInt8) (o : Nat) : wpK s o 4 = wordB s o := by
  simp only [wpK_succ, wpK_zero]; unfold wordB; simp only [Nat.add_zero]; omega
theorem wpK_range (s : List UInt8) (o : Nat) : ∀ i, 0 ≤ wpK s o i ∧ wpK s o i < 256 ^ i := by
  intro i
  induction i with
  | zero => exact ⟨by rw [wpK_zero]; decide, by rw [wpK_zero]; decide⟩
  | succ i ih =>
    have := bt_range s (o + i)
    rw [wpK_succ, Int.pow_succ]
    generalize (256 : Int) ^ i = q at *
    omega
theorem wp_step (s : List UInt8) (o : Nat) {i : Nat} (h : i < 4) : ior .u32 (IntKind.u32.wrap (wpK s o i * 2 ^ 8)) (IntKind.u32.wrap (bt s (o + i))) = wpK s o (i + 1) := by
  have h1 := wpK_range s o i
  have h2 := bt_range s (o + i)
  have h3 : (256 : Int) ^ i ≤ 256 ^ 3 := by
    have : (256 : Nat) ^ i ≤ 256 ^ 3 := Nat.pow_le_pow_right (by decide) (by omega)
    have e : ((256 ^ i : Nat) : Int) ≤ ((256 ^ 3 : Nat) : Int) := Int.ofNat_le.2 this
    simpa using e
  have e3 : (256 : Int) ^ 3 = 16777216 := by decide
  rw [wrap_u32, wrap_u32, Int.emod_eq_of_lt (by omega) (by omega), Int.emod_eq_of_lt (by omega) (by omega), or32 8 (by decide) (by omega) (by omega) (by omega) (by omega), wpK_succ]
  omega
theorem wp_ref (s : List UInt8) (o : Nat) : ior .u32 (ior .u32 (ior .u32 (IntKind.u32.wrap (IntKind.u32.wrap (bt s o) * 2 ^ 24)) (IntKind.u32.wrap (IntKind.u32.wrap (bt s (o + 1)) * 2 ^ 16))) (IntKind.u32.wrap (IntKind.u32.wrap (bt s (o + 2)) * 2 ^ 8))) (IntKind.u32.wrap (bt s (o + 3))) = wordB s o := by
  have h0 := bt_range s o; have h1 := bt_range s (o + 1); have h2 := bt_range s (o + 2); have h3 := bt_range s (o + 3)
  have w : ∀ x : Int, 0 ≤ x → x < 4294967296 → IntKind.u32.wrap x = x := fun x a b => by rw [wrap_u32, Int.emod_eq_of_lt a b]
  rw [w (bt s o) (by omega) (by omega), w (bt s (o + 1)) (by omega) (by omega), w (bt s (o + 2)) (by omega) (by omega), w (bt s (o + 3)) (by omega) (by omega), w _ (by omega) (by omega), w _ (by omega) (by omega), w _ (by omega) (by omega)]
  have e1 : bt s o * 2 ^ 24 = (bt s o * 256) * 2 ^ 16 := by omega
  rw [or32 24 (by decide) (by omega) (by omega) (by omega) (by omega)]
  have e2 : bt s (o + 1) * 2 ^ 16 + bt s o * 2 ^ 24 = (bt s (o + 1) + bt s o * 256) * 2 ^ 16 := by omega
  rw [e2, or32 16 (by decide) (by omega) (by omega) (by omega) (by omega)]
  have e3 : bt s (o + 2) * 2 ^ 8 + (bt s (o + 1) + bt s o * 256) * 2 ^ 16 = (bt s (o + 2) + (bt s (o + 1) + bt s o * 256) * 256) * 2 ^ 8 := by omega
  rw [e3, or32 8 (by decide) (by omega) (by omega) (by omega) (by omega)]
  unfold wordB; omega
/-! a block is pressed in -/
def kW (t : Nat) : Int := w32 (kL.getD t 0 / 2 ^ 32)
def notW (x : Int) : Int := ixor .u32 IntKind.u32.max x
def chW (e f g : Int) : Int := ixor .u32 (iand .u32 e f) (iand .u32 (notW e) g)
def majW (a b c : Int) : Int := ixor .u32 (ixor .u32 (iand .u32 a b) (iand .u32 a c)) (iand .u32 b c)
def uW (v : List Int) (k w : Int) : Int := w32 (w32 (w32 (w32 (v.getD 7 0 + whl (v.getD 4 0) 6 11 25) + chW (v.getD 4 0) (v.getD 5 0) (v.getD 6 0)) + k) + w)
def oW (v : List Int) : Int := w32 (whl (v.getD 0 0) 2 13 22 + majW (v.getD 0 0) (v.getD 1 0) (v.getD 2 0))
def rndW (v : List Int) (k w : Int) : List Int := [w32 (uW v k w + oW v), v.getD 0 0, v.getD 1 0, v.getD 2 0, w32 (v.getD 3 0 + uW v k w), v.getD 4 0, v.getD 5 0, v.getD 6 0]
theorem rndW_length (v : List Int) (k w : Int) : (rndW v k w).length = 8 := rfl
def prK (h : List Int) (s : List UInt8) : Nat → List Int
  | 0 => h
  | t + 1 => rndW (prK h s t) (kW t) ((wsK s 64).getD t 0)
theorem prK_zero (h : List Int) (s : List UInt8) : prK h s 0 = h := rfl
theorem prK_succ (h : List Int) (s : List UInt8) (t : Nat) : prK h s (t + 1) = rndW (prK h s t) (kW t) ((wsK s 64).getD t 0) := rfl
theorem prK_length {h : List Int} (hh : h.length = 8) (s : List UInt8) (t : Nat) : (prK h s t).length = 8 := by
  cases t with
  | zero => exact hh
  | succ t => rfl
def addW (h v : List Int) : Nat → List Int
  | 0 => h
  | i + 1 => (addW h v i).set i (w32 ((addW h v i).getD i 0 + v.getD i 0))
theorem addW_zero (h v : List Int) : addW h v 0 = h := rfl
theorem addW_succ (h v : List Int) (i : Nat) : addW h v (i + 1) = (addW h v i).set i (w32 ((addW h v i).getD i 0 + v.getD i 0)) := rfl
theorem addW_length (h v : List Int) (i : Nat) : (addW h v i).length = h.length := by
  induction i with
  | zero => rfl
  | succ i ih => rw [addW_succ, List.length_set, ih]
def pressW (h : List Int) (s : List UInt8) : List Int := addW h (prK h s 64) 8
theorem pressW_length {h : List Int} (hh : h.length = 8) (s : List UInt8) : (pressW h s).length = 8 := by rw [pressW, addW_length, hh]
/-! bytes in blocks -/
def pads (n : Nat) : Nat := (119 - n % 64) % 64
def begB (d : List UInt8) (j : Nat) : List UInt8 := d ++ [128] ++ List.replicate j 0
theorem begB_length (d : List UInt8) (j : Nat) : (begB d j).length = d.length + 1 + j := by simp [begB]; omega
theorem begB_zero (d : List UInt8) : begB d 0 = d ++ [128] := by simp [begB]
theorem begB_succ (d : List UInt8) (j : Nat) : begB d (j + 1) = begB d j ++ [0] := by simp [begB, List.replicate_succ']
theorem pads_lt (n : Nat) : pads n < 64 := Nat.mod_lt _ (by decide)
theorem pads_stop {n j : Nat} (hj : j ≤ pads n) : (n + 1 + j + 8) % 64 = 0 ↔ j = pads n := by unfold pads at *; omega
def lenB (n : Nat) (i : Nat) : List UInt8 := (List.range i).map fun k => b8 ((8 * (n : Int)) / 2 ^ (8 * (7 - k)))
theorem lenB_zero (n : Nat) : lenB n 0 = [] := rfl
theorem lenB_succ (n i : Nat) : lenB n (i + 1) = lenB n i ++ [b8 ((8 * (n : Int)) / 2 ^ (8 * (7 - i)))] := by simp [lenB, List.range_succ]
theorem lenB_length (n i : Nat) : (lenB n i).length = i := by simp [lenB]
def fullB (d : List UInt8) : List UInt8 := begB d (pads d.length) ++ lenB d.length 8
theorem fullB_length (d : List UInt8) : (fullB d).length % 64 = 0 ∧ (fullB d).length ≤ d.length + 128 := by
  rw [fullB, List.length_append, begB_length, lenB_length]; unfold pads; omega
def startW : List Int := [1779033703, 3144134277, 1013904242, 2773480762, 1359893119, 2600822924, 528734635, 1541459225]
theorem startW_eq : startW = stL0.map fun x => w32 (x / 2 ^ 32) := by decide +kernel
def hashW (d : List UInt8) : Nat → List Int
  | 0 => startW
  | i + 1 => pressW (hashW d i) (((fullB d).drop (64 * i)).take 64)
theorem hashW_zero (d : List UInt8) : hashW d 0 = startW := rfl
theorem hashW_succ (d : List UInt8) (i : Nat) : hashW d (i + 1) = pressW (hashW d i) (((fullB d).drop (64 * i)).take 64) := rfl
theorem hashW_length (d : List UInt8) (i : Nat) : (hashW d i).length = 8 := by
  induction i with
  | zero => rfl
  | succ i ih => rw [hashW_succ, pressW_length ih]
/-! the digest -/
def outB4 (x : Int) (j : Nat) : List UInt8 := (List.range j).map fun k => b8 (x / 2 ^ (8 * (3 - k)))
theorem outB4_zero (x : Int) : outB4 x 0 = [] := rfl
theorem outB4_succ (x : Int) (j : Nat) : outB4 x (j + 1) = outB4 x j ++ [b8 (x / 2 ^ (8 * (3 - j)))] := by simp [outB4, List.range_succ]
theorem outB4_length (x : Int) (j : Nat) : (outB4 x j).length = j := by simp [outB4]
theorem outB4_four (x : Int) : outB4 x 4 = [b8 (x / 2 ^ 24), b8 (x / 2 ^ 16), b8 (x / 2 ^ 8), b8 x] := by
  simp [outB4, List.range_succ]
def outW (h : List Int) : Nat → List UInt8
  | 0 => []
  | i + 1 => outW h i ++ outB4 (h.getD i 0) 4
theorem outW_zero (h : List Int) : outW h 0 = [] := rfl
theorem outW_succ (h : List Int) (i : Nat) : outW h (i + 1) = outW h i ++ outB4 (h.getD i 0) 4 := rfl
theorem outW_length (h : List Int) (i : Nat) : (outW h i).length = 4 * i := by
  induction i with
  | zero => rfl
  | succ i ih => rw [outW_succ, List.length_append, ih, outB4_length]; omega
def sha256 (d : List UInt8) : List UInt8 := outW (hashW d ((fullB d).length / 64)) 8
theorem sha256_length (d : List UInt8) : (sha256 d).length = 32 := outW_length _ _
attribute [irreducible] rt mix3 whl w32 wordB nextW wsK wpK kW notW chW majW uW oW rndW prK addW pressW begB lenB fullB hashW outB4 outW sha256 pads kL stL0 startW
theorem startW_length : startW.length = 8 := by unfold startW; rfl
theorem kL_len : kL.length = 80 := kL_length
theorem w32_def (x : Int) : IntKind.u32.wrap x = w32 x := w32_eq x
theorem rt_def (x n : Int) : rt x n = ior .u32 (x / 2 ^ min n.toNat IntKind.u32.bits) (IntKind.u32.wrap (x * 2 ^ min (32 - n).toNat IntKind.u32.bits)) := by unfold rt; rfl
theorem mix3_def (x a b c : Int) : mix3 x a b c = ixor .u32 (ixor .u32 (rt x a) (rt x b)) (x / 2 ^ min c.toNat IntKind.u32.bits) := by unfold mix3; rfl
theorem whl_def (x a b c : Int) : whl x a b c = ixor .u32 (ixor .u32 (rt x a) (rt x b)) (rt x c) := by unfold whl; rfl
theorem nextW_def (l : List Int) (t : Nat) : nextW l t = w32 (w32 (w32 (l.getD (t - 16) 0 + l.getD (t - 7) 0) + mix3 (l.getD (t - 15) 0) 7 18 3) + mix3 (l.getD (t - 2) 0) 17 19 10) := by unfold nextW; rfl
theorem wsK_zero' (s : List UInt8) : wsK s 0 = [] := by unfold wsK; rfl
theorem wpK_zero' (s : List UInt8) (o : Nat) : wpK s o 0 = 0 := by unfold wpK; rfl
theorem kW_def (t : Nat) : kW t = w32 (kL.getD t 0 / 2 ^ 32) := by unfold kW; rfl
theorem notW_def (x : Int) : notW x = ixor .u32 IntKind.u32.max x := by unfold notW; rfl
theorem chW_def (e f g : Int) : chW e f g = ixor .u32 (iand .u32 e f) (iand .u32 (notW e) g) := by unfold chW; rfl
theorem majW_def (a b c : Int) : majW a b c = ixor .u32 (ixor .u32 (iand .u32 a b) (iand .u32 a c)) (iand .u32 b c) := by unfold majW; rfl
theorem uW_def (v : List Int) (k w : Int) : uW v k w = w32 (w32 (w32 (w32 (v.getD 7 0 + whl (v.getD 4 0) 6 11 25) + chW (v.getD 4 0) (v.getD 5 0) (v.getD 6 0)) + k) + w) := by unfold uW; rfl
theorem oW_def (v : List Int) : oW v = w32 (whl (v.getD 0 0) 2 13 22 + majW (v.getD 0 0) (v.getD 1 0) (v.getD 2 0)) := by unfold oW; rfl
theorem rndW_def (v : List Int) (k w : Int) : rndW v k w = [w32 (uW v k w + oW v), v.getD 0 0, v.getD 1 0, v.getD 2 0, w32 (v.getD 3 0 + uW v k w), v.getD 4 0, v.getD 5 0, v.getD 6 0] := by unfold rndW; rfl
theorem prK_zero' (h : List Int) (s : List UInt8) : prK h s 0 = h := by unfold prK; rfl
theorem addW_zero' (h v : List Int) : addW h v 0 = h := by unfold addW; rfl
theorem pressW_def (h : List Int) (s : List UInt8) : pressW h s = addW h (prK h s 64) 8 := by unfold pressW; rfl
theorem fullB_def (d : List UInt8) : fullB d = begB d (pads d.length) ++ lenB d.length 8 := by unfold fullB; rfl
theorem hashW_zero' (d : List UInt8) : hashW d 0 = startW := by unfold hashW; rfl
theorem lenB_zero' (n : Nat) : lenB n 0 = [] := by unfold lenB; rfl
theorem outB4_zero' (x : Int) : outB4 x 0 = [] := by unfold outB4; rfl
theorem outW_zero' (h : List Int) : outW h 0 = [] := by unfold outW; rfl
theorem sha256_def (d : List UInt8) : sha256 d = outW (hashW d ((fullB d).length / 64)) 8 := by unfold sha256; rfl
end Go.Proofs.Ytfiojlmccflplaa
