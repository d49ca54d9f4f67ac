/- THE SUM's ROUND. -/
import Derived.Test.YtejhoahklkbgpaaNb
namespace Go.Dor
open Go.Proofs

def vecN (n : Nat) (l : List Nat) : Vector Int n := Vector.ofFn fun i => ((l.getD i 0 : Nat) : Int)
theorem at_vecN {n : Nat} {i : Nat} {l : List Nat} {d : Int} (hi : i < n) : at_ d (vecN n l).toList (i : Int) = ((l.getD i 0 : Nat) : Int) := by
  simp [at_, vecN, hi]
theorem bparts8 (d : Int) (b0 b1 b2 b3 b4 b5 b6 b7 : Nat) : bparts 8 d [(0, (b0 : Int)), (1, (b1 : Int)), (2, (b2 : Int)), (3, (b3 : Int)), (4, (b4 : Int)), (5, (b5 : Int)), (6, (b6 : Int)), (7, (b7 : Int))] = vecN 8 [b0, b1, b2, b3, b4, b5, b6, b7] := rfl

def rx (l : List Nat) (k w : Nat) : Nat := (l.getD 7 0 + mixA (l.getD 4 0) 6 11 25 + ((l.getD 4 0 &&& l.getD 5 0) ||| ((4294967295 - l.getD 4 0) &&& l.getD 6 0)) + k + w) % 4294967296
def ry (l : List Nat) : Nat := (mixA (l.getD 0 0) 2 13 22 + ((l.getD 0 0 &&& l.getD 1 0) ||| (l.getD 0 0 &&& l.getD 2 0) ||| (l.getD 1 0 &&& l.getD 2 0))) % 4294967296
def rnd (l : List Nat) (k w : Nat) : List Nat := [(rx l k w + ry l) % 4294967296, l.getD 0 0, l.getD 1 0, l.getD 2 0, (l.getD 3 0 + rx l k w) % 4294967296, l.getD 4 0, l.getD 5 0, l.getD 6 0]

section
variable {a b c : Nat}
theorem and_lt (ha : a < 4294967296) : a &&& b < 4294967296 := Nat.lt_of_le_of_lt Nat.and_le_left ha
theorem choose_u32 (ha : a < 4294967296) (hb : b < 4294967296) (hc : c < 4294967296) : ixor .u32 (iand .u32 (a : Int) (b : Int)) (iand .u32 (inot .u32 (a : Int)) (c : Int)) = (((a &&& b) ||| ((4294967295 - a) &&& c) : Nat) : Int) := by
  have h1 : inot .u32 (a : Int) = ((4294967295 ^^^ a : Nat) : Int) := xor_nat (k := .u32) (a := 4294967295) rfl (by show _ < 2 ^ 32; omega) ha
  have h2 : 4294967295 ^^^ a < 4294967296 := xor_lt (by omega) ha
  rw [h1, and_nat (k := .u32) rfl ha hb, and_nat (k := .u32) rfl h2 hc, xor_nat (k := .u32) rfl (and_lt ha) (and_lt h2), choose_nat ha hc]
theorem most_u32 (ha : a < 4294967296) (hb : b < 4294967296) (hc : c < 4294967296) : ixor .u32 (ixor .u32 (iand .u32 (a : Int) (b : Int)) (iand .u32 (a : Int) (c : Int))) (iand .u32 (b : Int) (c : Int)) = (((a &&& b) ||| (a &&& c) ||| (b &&& c) : Nat) : Int) := by
  rw [and_nat (k := .u32) rfl ha hb, and_nat (k := .u32) rfl ha hc, and_nat (k := .u32) rfl hb hc, xor_nat (k := .u32) rfl (and_lt ha) (and_lt ha), xor_nat (k := .u32) rfl (xor_lt (and_lt ha) (and_lt ha)) (and_lt hb), most_nat]
end

theorem step_round {k : Nat} {J : Vector Int 8 × Vector Int 8 × Vector Int 8 → Option (Vector Int 8)} {rec : Int × Vector Int 8 × Vector Int 8 × Vector Int 64 × Vector Int 64 × Vector Int 8 → Option (Vector Int 8)} {i : Nat} {x y : Vector Int 8} {wl kl l : List Nat}
    (hi : i < 64) (hl : ∀ j, l.getD j 0 < 4294967296) : p_sum_step.b3 k J rec (i : Int) x y (vecN 64 wl) (vecN 64 kl) (vecN 8 l) = rec (((i + 1 : Nat) : Int), x, y, vecN 64 wl, vecN 64 kl, vecN 8 (rnd l (kl.getD i 0) (wl.getD i 0))) := by
  have h1 : decide ((i : Int) < 64) = true := by simpa using (by omega : (i : Int) < 64)
  have g0 := at_vecN (n := 8) (i := 0) (l := l) (d := 0) (by omega)
  have g1 := at_vecN (n := 8) (i := 1) (l := l) (d := 0) (by omega)
  have g2 := at_vecN (n := 8) (i := 2) (l := l) (d := 0) (by omega)
  have g3 := at_vecN (n := 8) (i := 3) (l := l) (d := 0) (by omega)
  have g4 := at_vecN (n := 8) (i := 4) (l := l) (d := 0) (by omega)
  have g5 := at_vecN (n := 8) (i := 5) (l := l) (d := 0) (by omega)
  have g6 := at_vecN (n := 8) (i := 6) (l := l) (d := 0) (by omega)
  have g7 := at_vecN (n := 8) (i := 7) (l := l) (d := 0) (by omega)
  have gw := at_vecN (n := 64) (i := i) (l := wl) (d := 0) hi
  have gk := at_vecN (n := 64) (i := i) (l := kl) (d := 0) hi
  have m4 := mix_false (x := l.getD 4 0) (a := 6) (b := 11) (c := 25) (by omega) (by omega) (by omega) (hl 4)
  have m0 := mix_false (x := l.getD 0 0) (a := 2) (b := 13) (c := 22) (by omega) (by omega) (by omega) (hl 0)
  have hc : (0 : Int) ≤ (i : Int) ∧ (i : Int) < ((64 : Nat) : Int) := by omega
  have hch := choose_u32 (hl 4) (hl 5) (hl 6)
  have hmo := most_u32 (hl 0) (hl 1) (hl 2)
  simp only [Int.cast_ofNat_Int] at g0 g1 g2 g3 g4 g5 g6 g7 m4 m0
  unfold p_sum_step.b3
  simp only [dflt] at *
  simp only [h1, cond_true, g0, g1, g2, g3, g4, g5, g6, g7, gw, gk, m4, m0, Option.bind_some, need, hc, and_self, if_true, hch, hmo]
  rw [wrap_i64 (by omega)]
  have e1 : (IntKind.wrap .u32 (IntKind.wrap .u32 (IntKind.wrap .u32 (IntKind.wrap .u32 (((l.getD 7 0 : Nat) : Int) + ((mixA (l.getD 4 0) 6 11 25 : Nat) : Int)) + ((l.getD 4 0 &&& l.getD 5 0 ||| (4294967295 - l.getD 4 0) &&& l.getD 6 0 : Nat) : Int)) + ((kl.getD i 0 : Nat) : Int)) + ((wl.getD i 0 : Nat) : Int))) = ((rx l (kl.getD i 0) (wl.getD i 0) : Nat) : Int) := by
    simp only [wrap_u32, rx]; omega
  have e2 : IntKind.wrap .u32 (((mixA (l.getD 0 0) 2 13 22 : Nat) : Int) + ((l.getD 0 0 &&& l.getD 1 0 ||| l.getD 0 0 &&& l.getD 2 0 ||| l.getD 1 0 &&& l.getD 2 0 : Nat) : Int)) = ((ry l : Nat) : Int) := by
    simp only [wrap_u32, ry]; omega
  rw [e1, e2]
  have e3 : IntKind.wrap .u32 (((rx l (kl.getD i 0) (wl.getD i 0) : Nat) : Int) + ((ry l : Nat) : Int)) = (((rx l (kl.getD i 0) (wl.getD i 0) + ry l) % 4294967296 : Nat) : Int) := by simp only [wrap_u32]; omega
  have e4 : IntKind.wrap .u32 (((l.getD 3 0 : Nat) : Int) + ((rx l (kl.getD i 0) (wl.getD i 0) : Nat) : Int)) = (((l.getD 3 0 + rx l (kl.getD i 0) (wl.getD i 0)) % 4294967296 : Nat) : Int) := by simp only [wrap_u32]; omega
  rw [e3, e4, bparts8]
  rfl

end Go.Dor
