/- NUMBERS: what the bit operations of unsigned kinds come to, as natural numbers. Plain lemmas, no program. -/
import Derived.Test.YtlejphdgfoejaaaDoorJ
namespace Go.Dor

theorem wrap_u8 (n : Int) : IntKind.wrap .u8 n = n % 256 := rfl
theorem wrap_u32 (n : Int) : IntKind.wrap .u32 n = n % 4294967296 := rfl
theorem wrap_u64 (n : Int) : IntKind.wrap .u64 n = n % 18446744073709551616 := rfl
theorem wrap_i64 {n : Int} (h : -9223372036854775808 ≤ n ∧ n < 9223372036854775808) : IntKind.wrap .i64 n = n := by
  unfold IntKind.wrap
  have e1 : (2 : Int) ^ IntKind.bits .i64 = 18446744073709551616 := rfl
  have e2 : (2 : Int) ^ (IntKind.bits .i64 - 1) = 9223372036854775808 := rfl
  have e3 : IntKind.signed .i64 = true := rfl
  simp only [e1, e2, e3, Bool.true_and, decide_eq_true_eq]
  split <;> omega

section
variable {k : IntKind} {a b : Nat}
theorem bits_nat (f : ∀ {n : Nat}, BitVec n → BitVec n → BitVec n) (hk : k.signed = false) : ibits f k (a : Int) (b : Int) = ((f (BitVec.ofNat k.bits a) (BitVec.ofNat k.bits b)).toNat : Int) := by
  unfold ibits IntKind.wrap
  simp only [hk, Bool.false_and, Bool.false_eq_true, if_false]
  have h := (f (BitVec.ofInt k.bits (a : Int)) (BitVec.ofInt k.bits (b : Int))).isLt
  rw [BitVec.ofInt_natCast, BitVec.ofInt_natCast] at h ⊢
  have e : ((2 : Int) ^ k.bits) = ((2 ^ k.bits : Nat) : Int) := by simp
  rw [e, ← Int.natCast_emod, Nat.mod_eq_of_lt h]
theorem and_nat (hk : k.signed = false) (ha : a < 2 ^ k.bits) (hb : b < 2 ^ k.bits) : iand k (a : Int) (b : Int) = ((a &&& b : Nat) : Int) := by
  unfold iand
  rw [bits_nat _ hk, BitVec.toNat_and, BitVec.toNat_ofNat, BitVec.toNat_ofNat, Nat.mod_eq_of_lt ha, Nat.mod_eq_of_lt hb]
theorem or_nat (hk : k.signed = false) (ha : a < 2 ^ k.bits) (hb : b < 2 ^ k.bits) : ior k (a : Int) (b : Int) = ((a ||| b : Nat) : Int) := by
  unfold ior
  rw [bits_nat _ hk, BitVec.toNat_or, BitVec.toNat_ofNat, BitVec.toNat_ofNat, Nat.mod_eq_of_lt ha, Nat.mod_eq_of_lt hb]
theorem xor_nat (hk : k.signed = false) (ha : a < 2 ^ k.bits) (hb : b < 2 ^ k.bits) : ixor k (a : Int) (b : Int) = ((a ^^^ b : Nat) : Int) := by
  unfold ixor
  rw [bits_nat _ hk, BitVec.toNat_xor, BitVec.toNat_ofNat, BitVec.toNat_ofNat, Nat.mod_eq_of_lt ha, Nat.mod_eq_of_lt hb]
end

theorem shr_nat {k : IntKind} {a n : Nat} (hn : n ≤ k.bits) : ishr k (a : Int) (n : Int) = ((a / 2 ^ n : Nat) : Int) := by
  unfold ishr
  rw [Int.toNat_natCast, Nat.min_eq_left hn]
  have e : ((2 : Int) ^ n) = ((2 ^ n : Nat) : Int) := by simp
  rw [e, Int.fdiv_eq_ediv_of_nonneg _ (Int.natCast_nonneg _)]
  rfl
theorem shl_nat {k : IntKind} {a n : Nat} (hk : k.signed = false) (hn : n ≤ k.bits) : ishl k (a : Int) (n : Int) = ((a * 2 ^ n % 2 ^ k.bits : Nat) : Int) := by
  unfold ishl IntKind.wrap
  rw [Int.toNat_natCast, Nat.min_eq_left hn]
  simp only [hk, Bool.false_and, Bool.false_eq_true, if_false]
  have e : ((2 : Int) ^ n) = ((2 ^ n : Nat) : Int) := by simp
  have e2 : ((2 : Int) ^ k.bits) = ((2 ^ k.bits : Nat) : Int) := by simp
  rw [e, e2, ← Int.natCast_mul, ← Int.natCast_emod]

/-- a word turned right -/
def rot (n x : Nat) : Nat := x / 2 ^ n + x % 2 ^ n * 2 ^ (32 - n)
theorem rot_lt {n x : Nat} (hn : n ≤ 32) (hx : x < 4294967296) : rot n x < 4294967296 := by
  unfold rot
  have h1 : 2 ^ n * 2 ^ (32 - n) = 4294967296 := by rw [← Nat.pow_add, Nat.add_sub_cancel' hn]
  have h2 : x / 2 ^ n < 2 ^ (32 - n) := Nat.div_lt_of_lt_mul (by rw [h1]; exact hx)
  have h3 : x % 2 ^ n < 2 ^ n := Nat.mod_lt _ (Nat.two_pow_pos n)
  have h4 : (x % 2 ^ n + 1) * 2 ^ (32 - n) ≤ 2 ^ n * 2 ^ (32 - n) := Nat.mul_le_mul_right _ h3
  rw [h1, Nat.add_mul] at h4
  omega
theorem or_add {a b n : Nat} (hb : b < 2 ^ n) : a * 2 ^ n ||| b = a * 2 ^ n + b := by
  have := Nat.two_pow_add_eq_or_of_lt hb a
  rw [Nat.mul_comm a, this]
/-- turned by shifts -/
theorem rot_or {n x : Nat} (hn : n ≤ 32) (hx : x < 4294967296) : (x * 2 ^ (32 - n) % 4294967296) ||| (x / 2 ^ n) = rot n x := by
  have h1 : 2 ^ n * 2 ^ (32 - n) = 4294967296 := by rw [← Nat.pow_add, Nat.add_sub_cancel' hn]
  have h2 : x / 2 ^ n < 2 ^ (32 - n) := Nat.div_lt_of_lt_mul (by rw [h1]; exact hx)
  have h3 : x * 2 ^ (32 - n) % 4294967296 = x % 2 ^ n * 2 ^ (32 - n) := by rw [← h1, Nat.mul_mod_mul_right]
  rw [h3, or_add h2, rot]; omega
/-- turned step by step -/
theorem rot_zero (x : Nat) : rot 0 x = x := by simp [rot]; omega
theorem rot_succ {n x : Nat} (hn : n < 32) : rot (n + 1) x = rot n x / 2 + rot n x % 2 * 2147483648 := by
  obtain ⟨m, hm⟩ : ∃ m, 32 - n = m + 1 := ⟨31 - n, by omega⟩
  have hm' : 32 - (n + 1) = m := by omega
  have h1 : 2 ^ n * 2 ^ m = 2147483648 := by rw [← Nat.pow_add]; have : n + m = 31 := by omega
                                             rw [this]
  unfold rot
  rw [hm, hm']
  have hA : x / 2 ^ (n + 1) = x / 2 ^ n / 2 := by rw [Nat.pow_succ, Nat.div_div_eq_div_mul]
  have hB : x % 2 ^ (n + 1) = x % 2 ^ n + 2 ^ n * (x / 2 ^ n % 2) := by rw [Nat.pow_succ, Nat.mod_mul]
  rw [hA, hB, Nat.pow_succ]
  generalize x / 2 ^ n = q
  generalize x % 2 ^ n = p
  have e1 : p * (2 ^ m * 2) = 2 * (p * 2 ^ m) := by rw [← Nat.mul_assoc, Nat.mul_comm]
  have e2 : (p + 2 ^ n * (q % 2)) * 2 ^ m = p * 2 ^ m + q % 2 * 2147483648 := by rw [Nat.add_mul, ← h1, Nat.mul_comm (2 ^ n) (q % 2), Nat.mul_assoc]
  rw [e1, e2]
  generalize p * 2 ^ m = s
  omega

/-- one of two, by a mask -/
theorem choose_nat {a b c : Nat} (ha : a < 4294967296) (hc : c < 4294967296) : (a &&& b) ^^^ ((4294967295 ^^^ a) &&& c) = (a &&& b) ||| ((4294967295 - a) &&& c) := by
  have h : 4294967295 ^^^ a = 4294967295 - a := by
    have h1 := BitVec.toNat_not (x := BitVec.ofNat 32 a)
    have h2 : (~~~ BitVec.ofNat 32 a) = BitVec.ofNat 32 4294967295 ^^^ BitVec.ofNat 32 a := by
      rw [show BitVec.ofNat 32 4294967295 = BitVec.allOnes 32 from rfl, BitVec.allOnes_xor]
    rw [h2, BitVec.toNat_xor, BitVec.toNat_ofNat, BitVec.toNat_ofNat, Nat.mod_eq_of_lt (by omega : a < 2 ^ 32)] at h1
    simpa using h1
  rw [← h]
  apply Nat.eq_of_testBit_eq
  intro i
  simp only [Nat.testBit_xor, Nat.testBit_and, Nat.testBit_or]
  by_cases hi : i < 32
  · have : Nat.testBit 4294967295 i = true := by
      have := Nat.testBit_two_pow_sub_one 32 i
      simp at this
      rw [this]; simpa using hi
    rw [this]
    cases a.testBit i <;> cases b.testBit i <;> cases c.testBit i <;> rfl
  · have hge : 2 ^ 32 ≤ 2 ^ i := Nat.pow_le_pow_right (by omega) (by omega)
    have h1 : a.testBit i = false := Nat.testBit_lt_two_pow (by omega)
    have h2 : c.testBit i = false := Nat.testBit_lt_two_pow (by omega)
    rw [h1, h2]; simp
theorem most_nat (a b c : Nat) : (a &&& b) ^^^ (a &&& c) ^^^ (b &&& c) = (a &&& b) ||| (a &&& c) ||| (b &&& c) := by
  apply Nat.eq_of_testBit_eq
  intro i
  simp only [Nat.testBit_xor, Nat.testBit_and, Nat.testBit_or]
  cases a.testBit i <;> cases b.testBit i <;> cases c.testBit i <;> rfl

end Go.Dor
namespace Go.Dor
/-- a loop that goes n rounds -/
theorem loop_count {α β : Type} {body : (α → Option β) → α → Option β} {res : Option β} : ∀ (n k : Nat) (s : Nat → α), n < k → (∀ i, i < n → ∀ rec, body rec (s i) = rec (s (i + 1))) → (∀ rec, body rec (s n) = res) → loopC body k (s 0) = res
  | 0, k + 1, s, _, _, hl => hl _
  | n + 1, k + 1, s, hk, hs, hl => by
    show body (loopC body k) (s 0) = res
    rw [hs 0 (by omega)]
    exact loop_count n k (fun i => s (i + 1)) (by omega) (fun i hi rec => hs (i + 1) (by omega) rec) hl
end Go.Dor
