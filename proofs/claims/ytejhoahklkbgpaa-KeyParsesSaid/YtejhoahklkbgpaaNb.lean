/- THE SUM's PARTS: turning, mixing. -/
import Derived.Test.YtejhoahklkbgpaaW
import Derived.Test.YtejhoahklkbgpaaNa
namespace Go.Dor
open Go.Proofs

theorem turn_eq {k n x : Nat} (hn : n ≤ 32) (hk : n < k) (hx : x < 4294967296) : p_dormouseref03_turn k (x : Int) (n : Int) = some ((rot n x : Nat) : Int) := by
  unfold p_dormouseref03_turn joinC
  have h := loop_count (body := fun (r : Int × Int × Int → Option Int) y => p_dormouseref03_turn.b1 k (p_dormouseref03_turn.j0 k) r y.1 y.2.1 y.2.2) (res := some ((rot n x : Nat) : Int)) n k (fun i => (((rot i x : Nat) : Int), (n : Int), (i : Int))) hk ?_ ?_
  · simp only [rot_zero] at h
    exact h
  · intro i hi rec
    have h1 : decide ((i : Int) < (n : Int)) = true := by simpa using hi
    have hr := rot_lt (n := i) (by omega) hx
    have hs := rot_succ (n := i) (x := x) (by omega)
    simp only [p_dormouseref03_turn.b1, h1, cond_true, wrap_u64]
    rw [wrap_i64 (by omega), Int.tdiv_eq_ediv_of_nonneg (by omega), Int.tmod_eq_emod_of_nonneg (by omega)]
    congr 2
    rw [hs]
    omega
  · intro rec
    have h1 : decide ((n : Int) < (n : Int)) = false := by simp
    simp only [p_dormouseref03_turn.b1, h1, cond_false, p_dormouseref03_turn.j0]

theorem shift_eq {k n x : Nat} (hn : n ≤ 32) (hk : n < k) (hx : x < 4294967296) : p_dormouseref03_shift k (x : Int) (n : Int) = some ((x / 2 ^ n : Nat) : Int) := by
  unfold p_dormouseref03_shift joinC
  have h := loop_count (body := fun (r : Int × Int × Int → Option Int) y => p_dormouseref03_shift.b1 k (p_dormouseref03_shift.j0 k) r y.1 y.2.1 y.2.2) (res := some ((x / 2 ^ n : Nat) : Int)) n k (fun i => (((x / 2 ^ i : Nat) : Int), (n : Int), (i : Int))) hk ?_ ?_
  · simpa using h
  · intro i hi rec
    have h1 : decide ((i : Int) < (n : Int)) = true := by simpa using hi
    have hs : x / 2 ^ (i + 1) = x / 2 ^ i / 2 := by rw [Nat.pow_succ, Nat.div_div_eq_div_mul]
    have hle : x / 2 ^ i ≤ x := Nat.div_le_self _ _
    simp only [p_dormouseref03_shift.b1, h1, cond_true, wrap_u64]
    rw [hs]
    generalize x / 2 ^ i = q at hle
    rw [wrap_i64 (by omega), Int.tdiv_eq_ediv_of_nonneg (by omega)]
    congr 2
    omega
  · intro rec
    have h1 : decide ((n : Int) < (n : Int)) = false := by simp
    simp only [p_dormouseref03_shift.b1, h1, cond_false, p_dormouseref03_shift.j0]

theorem low_eq (x : Nat) : p_dormouseref03_low (x : Int) = some ((x % 4294967296 : Nat) : Int) := by
  unfold p_dormouseref03_low
  rw [Int.tmod_eq_emod_of_nonneg (by omega)]
  rfl

theorem rotl_eq {x n : Nat} (h0 : 0 < n) (hn : n < 32) (hx : x < 4294967296) : p_bits_RotateLeft32 (x : Int) (IntKind.wrap .i64 (0 - (n : Int))) = some ((rot n x : Nat) : Int) := by
  have e1 : IntKind.wrap .u64 (IntKind.wrap .i64 (0 - (n : Int))) = ((18446744073709551616 - n : Nat) : Int) := by rw [wrap_i64 (by omega), wrap_u64]; omega
  have e2 : iand .u64 ((18446744073709551616 - n : Nat) : Int) (31 : Int) = ((32 - n : Nat) : Int) := by
    have := and_nat (k := .u64) (a := 18446744073709551616 - n) (b := 31) rfl (by show _ < 2 ^ 64; omega) (by show 31 < 2 ^ 64; omega)
    have h31 : ((31 : Nat) : Int) = 31 := rfl
    rw [h31] at this
    rw [this]
    have h2 : (18446744073709551616 - n) &&& 31 = (18446744073709551616 - n) % 32 := Nat.and_two_pow_sub_one_eq_mod _ 5
    rw [h2]; congr 1; omega
  have e3 : IntKind.wrap .u64 (32 - ((32 - n : Nat) : Int)) = (n : Int) := by rw [wrap_u64]; omega
  unfold p_bits_RotateLeft32
  rw [e1, e2, e3]
  have hneed : (0 : Int) ≤ (n : Int) := by omega
  simp only [need, hneed, if_true]
  rw [shl_nat (k := .u32) rfl (show 32 - n ≤ 32 by omega), shr_nat (k := .u32) (show n ≤ 32 by omega)]
  have hb : (2 : Nat) ^ IntKind.bits .u32 = 4294967296 := rfl
  rw [or_nat (k := .u32) rfl (Nat.mod_lt _ (by rw [hb]; omega)) (by rw [hb]; exact Nat.lt_of_le_of_lt (Nat.div_le_self _ _) hx), hb, rot_or (by omega) hx]

theorem mix_c1_eq {x n : Nat} (h0 : 0 < n) (hn : n < 32) (hx : x < 4294967296) : p_sum_mix_c1 (n : Int) (x : Int) = some ((rot n x : Nat) : Int) := by
  unfold p_sum_mix_c1
  rw [rotl_eq h0 hn hx]; rfl

def mixA (x a b c : Nat) : Nat := rot a x ^^^ rot b x ^^^ rot c x
def mixB (x a b c : Nat) : Nat := rot a x ^^^ rot b x ^^^ (x / 2 ^ c)
theorem xor_lt {a b : Nat} (ha : a < 4294967296) (hb : b < 4294967296) : a ^^^ b < 4294967296 := Nat.xor_lt_two_pow (n := 32) ha hb
theorem mixA_lt {x a b c : Nat} (ha : a < 32) (hb : b < 32) (hc : c < 32) (hx : x < 4294967296) : mixA x a b c < 4294967296 := xor_lt (xor_lt (rot_lt (by omega) hx) (rot_lt (by omega) hx)) (rot_lt (by omega) hx)
theorem mixB_lt {x a b c : Nat} (ha : a < 32) (hb : b < 32) (hx : x < 4294967296) : mixB x a b c < 4294967296 := xor_lt (xor_lt (rot_lt (by omega) hx) (rot_lt (by omega) hx)) (Nat.lt_of_le_of_lt (Nat.div_le_self _ _) hx)

theorem mix_false {x a b c : Nat} (ha : 0 < a ∧ a < 32) (hb : 0 < b ∧ b < 32) (hc : 0 < c ∧ c < 32) (hx : x < 4294967296) : p_sum_mix (x : Int) (a : Int) (b : Int) (c : Int) false = some ((mixA x a b c : Nat) : Int) := by
  unfold p_sum_mix
  have h1 := rot_lt (n := a) (by omega) hx
  have h2 := rot_lt (n := b) (by omega) hx
  have h3 := rot_lt (n := c) (by omega) hx
  have h12 := xor_lt h1 h2
  simp only [cond_false, mix_c1_eq ha.1 ha.2 hx, mix_c1_eq hb.1 hb.2 hx, mix_c1_eq hc.1 hc.2 hx, Option.bind_some]
  rw [xor_nat (k := .u32) rfl h1 h2, xor_nat (k := .u32) rfl h12 h3]; rfl
theorem mix_true {x a b c : Nat} (ha : 0 < a ∧ a < 32) (hb : 0 < b ∧ b < 32) (hc : c ≤ 32) (hx : x < 4294967296) : p_sum_mix (x : Int) (a : Int) (b : Int) (c : Int) true = some ((mixB x a b c : Nat) : Int) := by
  unfold p_sum_mix
  have h1 := rot_lt (n := a) (by omega) hx
  have h2 := rot_lt (n := b) (by omega) hx
  have h3 : x / 2 ^ c < 4294967296 := Nat.lt_of_le_of_lt (Nat.div_le_self _ _) hx
  have h12 := xor_lt h1 h2
  have hc0 : (0 : Int) ≤ (c : Int) := by omega
  simp only [cond_true, mix_c1_eq ha.1 ha.2 hx, mix_c1_eq hb.1 hb.2 hx, Option.bind_some, need, hc0, if_true]
  rw [xor_nat (k := .u32) rfl h1 h2, shr_nat (k := .u32) hc, xor_nat (k := .u32) rfl h12 h3]; rfl

end Go.Dor
