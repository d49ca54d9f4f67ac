/- THE ROW, AND WHAT IT STANDS ON: the texts Ge Gf Gg Gh Gi Gj R3, one behind the other. -/
import Derived.Test.YtaglmapfcjbcfaaX34
import Derived.Test.YtaglmapfcjbcfaaRows
import Derived.ProofKit
import Derived.SizedLaws
section
/- QUOTIENTS, AND SHARES. -/
set_option linter.unusedVariables false
set_option linter.unusedSimpArgs false
namespace Go.Dor
open Go.Proofs

theorem fv_pos {x : Nat} (hx : x < 18446744073709551616) (h : 0 < fv x) : x < 9223372036854775808 ∧ fv x = (x : Int) ∧ rg x = x ∧ ng x = false ∧ 0 < x := by
  by_cases h1 : x < 9223372036854775808
  · obtain ⟨e1, e2⟩ := fv_lo h1
    refine ⟨h1, e1, e2, ?_, by omega⟩
    unfold ng
    rw [Nat.div_eq_of_lt h1]; rfl
  · rw [(fv_hi (by omega) hx).1] at h; omega
theorem read_pos {x : Nat} (hx : x < 18446744073709551616) (h : 0 < fv x) (hf : isF x) : ∃ m a : Nat, Ieee.double.read x = .number false m (-1074 + (a : Int)) ∧ m * 2 ^ a = U x ∧ m ≠ 0 := by
  obtain ⟨h1, h2, h3, h4, h5⟩ := fv_pos hx h
  obtain ⟨m, a, e, ha⟩ := read_F hf
  rw [h4] at e
  rw [h3] at ha
  refine ⟨m, a, e, ha, ?_⟩
  rintro rfl
  have := U_mono h5
  rw [U_zero, ← ha] at this
  omega
theorem word_inf (s : Bool) : Ieee.double.write (.infinity s) = if s then 18442240474082181120 else 9218868437227405312 := by cases s <;> rfl
theorem quo_def (x y : Nat) : flOp 3 .f64 x y = ((Ieee.double.read x).quotient 54 (Ieee.double.read y)).map Ieee.double.write := rfl
/-- a zero by a number -/
theorem quo_zero {z w : Nat} (hz : z = 0 ∨ z = 9223372036854775808) (hw : w < 18446744073709551616) (h : 0 < fv w) (hf : isF w) : ∃ q, flOp 3 .f64 z w = some q ∧ (q = 0 ∨ q = 9223372036854775808) := by
  obtain ⟨n, b, e, hb, hn⟩ := read_pos hw h hf
  rw [quo_def, read_zero z hz, e]
  have : (Ieee.Datum.number (ng z) 0 (-1074)).quotient 54 (.number false n (-1074 + (b : Int))) = some (.number (ng z ^^ false) 0 (-1074 - (-1074 + (b : Int)) - (54 + n.log2 - (0 : Nat).log2 : Nat) - 1)) := by
    unfold Ieee.Datum.quotient
    dsimp only
    rw [if_neg hn]
    simp
  rw [this]
  exact ⟨_, rfl, near_zero _ _⟩
theorem quo_inf {x w : Nat} (hx : x < 18446744073709551616) (hp : 0 < fv x) (hi : isI x) (hw : w < 18446744073709551616) (h : 0 < fv w) (hf : isF w) : flOp 3 .f64 x w = some 9218868437227405312 := by
  obtain ⟨n, b, e, hb, hn⟩ := read_pos hw h hf
  rw [quo_def, read_I hi, e, (fv_pos hx hp).2.2.2.1]
  rfl
theorem quo_by_zero {x : Nat} (hx : x < 18446744073709551616) (hp : 0 < fv x) (hn : ¬ isN x) : flOp 3 .f64 x 0 = some 9218868437227405312 := by
  by_cases hi : isI x
  · rw [quo_def, read_I hi, (fv_pos hx hp).2.2.2.1]
    rfl
  · have hf : isF x := by unfold isN isI isF at *; omega
    obtain ⟨m, a, e, ha, hm⟩ := read_pos hx hp hf
    have e2 : (Ieee.Datum.number false m (-1074 + (a : Int))).quotient 54 (.number (ng 0) 0 (-1074)) = some (.infinity (false ^^ ng 0)) := by
      unfold Ieee.Datum.quotient
      dsimp only
      rw [if_pos rfl, if_neg hm]
    rw [quo_def, e, read_zero 0 (.inl rfl), e2]
    rfl
theorem word_top (r : Nat) : Ieee.double.word false (min r Ieee.double.infRung) ≤ 9218868437227405312 := by
  have : Ieee.double.word false (min r Ieee.double.infRung) = min r Ieee.double.infRung := rfl
  rw [this]
  exact Nat.min_le_right _ _
theorem near_word {m : Nat} {p : Int} : Ieee.double.nearest false m p ≤ 9218868437227405312 := by
  unfold Ieee.Format.nearest
  split
  · exact Nat.zero_le _
  · exact word_top _
theorem U_one {E : Nat} (h : E = 1074) : U 4607182418800017408 = 2 ^ E := by
  obtain ⟨q, hq⟩ : ∃ q, E = 52 + q := ⟨E - 52, by omega⟩
  have e1 : 4607182418800017408 = q * 4503599627370496 + 4503599627370496 := by omega
  rw [e1, U_top (by decide) (by decide), hq, pow52]
/-- two numbers: a word of no sign; no more than 1 where the one is no more than the other -/
theorem quo_fin {x w : Nat} (hx : x < 18446744073709551616) (hp : 0 < fv x) (hfx : isF x) (hw : w < 18446744073709551616) (h : 0 < fv w) (hf : isF w) :
    ∃ q, flOp 3 .f64 x w = some q ∧ q ≤ 9218868437227405312 ∧ (fv x ≤ fv w → q ≤ 4607182418800017408) := by
  obtain ⟨m, a, e1, ha, hm⟩ := read_pos hx hp hfx
  obtain ⟨n, b, e2, hb, hn⟩ := read_pos hw h hf
  obtain ⟨_, f1, _, _, _⟩ := fv_pos hx hp
  obtain ⟨_, f2, _, _, _⟩ := fv_pos hw h
  rw [quo_def, e1, e2]
  generalize hmore : 54 + n.log2 - m.log2 = more
  have e : (Ieee.Datum.number false m (-1074 + (a : Int))).quotient 54 (.number false n (-1074 + (b : Int))) = some (.number false (2 * (m * 2 ^ more / n) + (m * 2 ^ more % n != 0).toNat) (-1074 + (a : Int) - (-1074 + (b : Int)) - more - 1)) := by
    unfold Ieee.Datum.quotient
    dsimp only
    rw [if_neg hn, hmore, Nat.shiftLeft_eq]
    rfl
  rw [e]
  refine ⟨_, rfl, near_word, fun hle => ?_⟩
  have hU : U x ≤ U w := by
    rw [f1, f2] at hle
    rcases Nat.lt_or_ge x w with q | q
    · exact Nat.le_of_lt (U_mono q)
    · have : x = w := by omega
      rw [this]; exact Nat.le_refl _
  rw [← ha, ← hb] at hU
  have pn : 0 < n := Nat.pos_of_ne_zero hn
  -- the dividend is no less than the divisor
  have hD : n ≤ m * 2 ^ more := by
    have h1 : n < 2 ^ (n.log2 + 1) := Nat.lt_log2_self
    have h2 : 2 ^ m.log2 ≤ m := Nat.log2_self_le hm
    have h3 : 2 ^ (m.log2 + more) ≤ m * 2 ^ more := by rw [Nat.pow_add]; exact Nat.mul_le_mul_right _ h2
    have h4 : 2 ^ (n.log2 + 1) ≤ 2 ^ (m.log2 + more) := Nat.pow_le_pow_right (by decide) (by omega)
    omega
  have hM : m * 2 ^ more * 2 ^ a ≤ n * 2 ^ (b + more) := by
    rw [Nat.pow_add, ← Nat.mul_assoc, Nat.mul_right_comm]
    exact Nat.mul_le_mul_right _ hU
  generalize m * 2 ^ more = D at *
  have hab : a ≤ b + more := by
    refine Nat.le_of_not_lt fun hlt => ?_
    have h1 : n * 2 ^ (b + more + 1) ≤ D * 2 ^ a := Nat.mul_le_mul hD (Nat.pow_le_pow_right (by decide) hlt)
    have h2 : n * 2 ^ (b + more) < n * 2 ^ (b + more + 1) := Nat.mul_lt_mul_of_pos_left (by rw [Nat.pow_succ]; have := Nat.two_pow_pos (b + more); omega) pn
    omega
  obtain ⟨t, ht⟩ : ∃ t, b + more = a + t := ⟨b + more - a, by omega⟩
  have hD2 : D ≤ n * 2 ^ t := by
    rw [ht, Nat.pow_add, Nat.mul_comm (2 ^ a), ← Nat.mul_assoc] at hM
    exact Nat.le_of_mul_le_mul_right hM (Nat.two_pow_pos _)
  have hmag : 2 * (D / n) + (D % n != 0).toNat ≤ 2 ^ (t + 1) := by
    have h1 : D / n ≤ 2 ^ t := by
      have := Nat.div_le_div_right (c := n) hD2
      rwa [Nat.mul_div_cancel_left _ pn] at this
    have h3 := Nat.div_add_mod D n
    rw [Nat.pow_succ]
    by_cases h2 : D / n = 2 ^ t
    · have : D % n = 0 := by
        rw [h2] at h3
        omega
      rw [this, h2]
      simp; omega
    · have : (D % n != 0).toNat ≤ 1 := by cases (D % n != 0) <;> decide
      omega
  obtain ⟨E, hE⟩ : ∃ E : Nat, E = 1074 := ⟨_, rfl⟩
  refine near_le (K := E + (t + 1)) (by omega) (by omega) ?_
  have ep : ((E + (t + 1) : Nat) : Int) + (-1074 + (a : Int) - (-1074 + (b : Int)) - (more : Int) - 1) = (E : Int) := by omega
  have eq : E + (t + 1) - 1074 = t + 1 := by omega
  rw [ep, Int.toNat_natCast, U_one hE, eq, Nat.mul_comm (2 ^ E)]
  exact Nat.mul_le_mul_right _ hmag

theorem ge0 (x : Nat) : (flGt .f64 x 0 || flEq .f64 x 0) = (!decide (isN x) && decide (0 ≤ fv x)) := by
  by_cases hn : isN x
  · rw [gt_fv, eq_fv, decide_eq_true hn]; rfl
  · rw [gt0 hn, eq0 hn, decide_eq_false hn]
    by_cases h1 : 0 < fv x
    · rw [decide_eq_true h1, decide_eq_true (show 0 ≤ fv x by omega)]; rfl
    · by_cases h2 : fv x = 0
      · rw [decide_eq_true h2, decide_eq_true (show 0 ≤ fv x by omega)]; simp
      · rw [decide_eq_false h1, decide_eq_false h2, decide_eq_false (show ¬ 0 ≤ fv x by omega)]; rfl
theorem plus_eq {x : Nat} (hn : ¬ isN x) : p_gauge_plus x = some (if fv x = 0 then 0 else x) := by
  unfold p_gauge_plus
  rw [eq0 hn]
  by_cases h : fv x = 0
  · rw [decide_eq_true h, if_pos h]; rfl
  · rw [decide_eq_false h, if_neg h]; rfl
/-- where there is no share -/
theorem share_none {p w : Nat} (h : isN p ∨ isN w ∨ fv p < 0 ∨ fv w < 0 ∨ (isI w ∧ 0 < fv w)) : p_gauge_Share p w = some 9221120237041090561 := by
  unfold p_gauge_Share p_gauge_Share.j0 joinC
  dsimp only
  rw [ge0, ge0]
  have e : p_gauge_none = some 9221120237041090561 := rfl
  by_cases h1 : isN p ∨ fv p < 0
  · have : (!decide (isN p) && decide (0 ≤ fv p)) = false := by
      rcases h1 with h1 | h1
      · rw [decide_eq_true h1]; rfl
      · rw [decide_eq_false (show ¬ 0 ≤ fv p by omega), Bool.and_false]
    rw [this, e]; rfl
  · have h1' : ¬ isN p ∧ 0 ≤ fv p := ⟨fun q => h1 (.inl q), Int.not_lt.1 fun q => h1 (.inr q)⟩
    rw [decide_eq_false h1'.1, decide_eq_true h1'.2]
    by_cases h2 : isN w ∨ fv w < 0
    · have : (!decide (isN w) && decide (0 ≤ fv w)) = false := by
        rcases h2 with h2 | h2
        · rw [decide_eq_true h2]; rfl
        · rw [decide_eq_false (show ¬ 0 ≤ fv w by omega), Bool.and_false]
      rw [this, e]; rfl
    · have h2' : ¬ isN w ∧ 0 ≤ fv w := ⟨fun q => h2 (.inl q), Int.not_lt.1 fun q => h2 (.inr q)⟩
      have h3 : isI w ∧ 0 < fv w := by
        rcases h with q | q | q | q | q
        · exact absurd (.inl q) h1
        · exact absurd (.inl q) h2
        · exact absurd (.inr q) h1
        · exact absurd (.inr q) h2
        · exact q
      have h4 : 9218868437227405311 < fv w := by
        have h5 := h3.1
        have h6 := h3.2
        unfold isI at h5
        unfold fv at h6 ⊢
        rw [h5] at h6 ⊢
        cases q : ng w
        · rw [q] at h6; simp
        · rw [q] at h6; simp at h6
      rw [decide_eq_false h2'.1, decide_eq_true h2'.2, isInf_p h2'.1, decide_eq_true h4, e]; rfl
theorem share_some {p w : Nat} (hp : ¬ isN p) (hw : ¬ isN w) (h1 : 0 ≤ fv p) (h2 : 0 ≤ fv w) (hi : ¬ isI w) :
    p_gauge_Share p w = if fv p = 0 ∧ fv w = 0 then some 0 else flOp 3 .f64 (if fv p = 0 then 0 else p) (if fv w = 0 then 0 else w) := by
  unfold p_gauge_Share p_gauge_Share.j0 p_gauge_Share.j1 joinC
  dsimp only
  have h4 : ¬ 9218868437227405311 < fv w := by
    intro h
    unfold isN at hw
    unfold isI at hi
    unfold fv at h
    cases q : ng w
    · rw [q] at h; simp at h; omega
    · rw [q] at h; simp at h; omega
  rw [ge0, ge0, decide_eq_false hp, decide_eq_false hw, decide_eq_true h1, decide_eq_true h2, isInf_p hw, decide_eq_false h4, plus_eq hp, plus_eq hw, eq0 hp, eq0 hw]
  have eb : ∀ o : Option Nat, (o.bind fun t => some t) = o := fun o => by cases o <;> rfl
  simp only [Bool.not_false, Bool.not_true, Bool.and_true, cond_false, Option.bind_some, eb]
  by_cases q1 : fv p = 0
  · by_cases q2 : fv w = 0
    · simp [q1, q2]
    · simp [q1, q2]
  · simp [q1]
theorem fv_word {q : Nat} (h : q ≤ 9218868437227405312) : ¬ isN q ∧ fv q = (q : Int) := by
  obtain ⟨e1, e2⟩ := fv_lo (x := q) (by omega)
  refine ⟨?_, e1⟩
  unfold isN
  rw [e2]; omega
theorem le1 {q : Nat} (h : ¬ isN q) : (flLt .f64 q 4607182418800017408 || flEq .f64 q 4607182418800017408) = decide (fv q ≤ 4607182418800017408) := by
  rw [lt_fv, eq_fv, decide_eq_false h, decide_eq_false n1, fv1]
  simp only [Bool.not_false, Bool.true_and]
  by_cases h1 : fv q < 4607182418800017408
  · rw [decide_eq_true h1, decide_eq_true (show fv q ≤ 4607182418800017408 by omega)]; rfl
  · by_cases h2 : fv q = 4607182418800017408
    · rw [decide_eq_true h2, decide_eq_true (show fv q ≤ 4607182418800017408 by omega)]; simp
    · rw [decide_eq_false h1, decide_eq_false h2, decide_eq_false (show ¬ fv q ≤ 4607182418800017408 by omega)]; rfl
theorem le2 {x y : Nat} (hx : ¬ isN x) (hy : ¬ isN y) : (flLt .f64 x y || flEq .f64 x y) = decide (fv x ≤ fv y) := by
  rw [lt_fv, eq_fv, decide_eq_false hx, decide_eq_false hy]
  simp only [Bool.not_false, Bool.true_and]
  by_cases h1 : fv x < fv y
  · rw [decide_eq_true h1, decide_eq_true (show fv x ≤ fv y by omega)]; rfl
  · by_cases h2 : fv x = fv y
    · rw [decide_eq_true h2, decide_eq_true (show fv x ≤ fv y by omega)]; simp
    · rw [decide_eq_false h1, decide_eq_false h2, decide_eq_false (show ¬ fv x ≤ fv y by omega)]; rfl
theorem alike_q (x y : Nat) : p_dormouseref04_Alike x y = some (alike x y) := by
  unfold p_dormouseref04_Alike p_dormouseref04_Alike.j0 joinC alike
  dsimp only
  cases flEq .f64 x y <;> cases flEq .f64 x x <;> rfl
end Go.Dor
end

section
/- SMALL WHOLE NUMBERS AS FLOATS; PLACES AT A SHARE OF THE WAY. -/
set_option linter.unusedVariables false
set_option linter.unusedSimpArgs false
namespace Go.Dor
open Go.Proofs

def nearOk (n : Nat) : Bool := decide (flNear .f64 (n : Int) < 9218868437227405312) && decide (U (flNear .f64 (n : Int)) = n * U 4607182418800017408) && (decide (flNear .f64 (n : Int) = 0) == decide (n = 0))
theorem near_all : (List.range 61).all nearOk = true := by decide +kernel
theorem near60 {n : Nat} (h : n ≤ 60) : flNear .f64 (n : Int) < 9218868437227405312 ∧ U (flNear .f64 (n : Int)) = n * U 4607182418800017408 ∧ (flNear .f64 (n : Int) = 0 ↔ n = 0) := by
  have := List.all_eq_true.1 near_all n (List.mem_range.2 (by omega))
  unfold nearOk at this
  simp only [Bool.and_eq_true, decide_eq_true_eq, beq_iff_eq] at this
  exact ⟨this.1.1, this.1.2, decide_eq_decide.1 this.2⟩
theorem near_notN (n : Int) : ¬ isN (flNear .f64 n) := near_fin

/-- a zero's place is 0 -/
theorem int_zero {q : Nat} (h : q = 0 ∨ q = 9223372036854775808) : flInt .f64 q .i64 = some 0 := by
  rcases h with rfl | rfl <;> decide +kernel
theorem cut_zero (n d : Nat) : Ieee.Toward.zero.cut false n d = n / 2 ^ (min d (n.log2 + 2)) := by
  unfold Ieee.Toward.cut
  dsimp only
  rw [Nat.one_shiftLeft]
  rfl
theorem trunc_le {m a n E : Nat} (hE : E = 1074) (h : m * 2 ^ a ≤ n * 2 ^ E) : Ieee.Toward.zero.cut false (m <<< (-1074 + (a : Int)).toNat) (-(-1074 + (a : Int))).toNat ≤ n := by
  rw [cut_zero, Nat.shiftLeft_eq]
  have hl : m * 2 ^ (-1074 + (a : Int)).toNat < 2 ^ ((m * 2 ^ (-1074 + (a : Int)).toNat).log2 + 1) := Nat.lt_log2_self
  generalize hA : (-1074 + (a : Int)).toNat = A at *
  generalize hB : (-(-1074 + (a : Int))).toNat = B at *
  by_cases hd : B ≤ (m * 2 ^ A).log2 + 2
  · rw [Nat.min_eq_left hd]
    refine Nat.div_le_of_le_mul ?_
    by_cases ha : E ≤ a
    · have e1 : a = A + E := by omega
      have e2 : B = 0 := by omega
      rw [e1, Nat.pow_add, ← Nat.mul_assoc] at h
      rw [e2, Nat.pow_zero, Nat.one_mul]
      exact Nat.le_of_mul_le_mul_right h (Nat.two_pow_pos _)
    · have e1 : E = B + a := by omega
      have e2 : A = 0 := by omega
      rw [e1, Nat.pow_add, ← Nat.mul_assoc] at h
      rw [e2, Nat.pow_zero, Nat.mul_one, Nat.mul_comm (2 ^ B)]
      exact Nat.le_of_mul_le_mul_right h (Nat.two_pow_pos _)
  · rw [Nat.min_eq_right (by omega)]
    have h4 : 2 ^ ((m * 2 ^ A).log2 + 2) = 2 * 2 ^ ((m * 2 ^ A).log2 + 1) := by rw [Nat.pow_succ, Nat.mul_comm]
    rw [Nat.div_eq_of_lt (by omega)]
    exact Nat.zero_le _
theorem int_le {q n : Nat} (hq : q < 9218868437227405312) (h : U q ≤ n * U 4607182418800017408) (hn : n ≤ 60) : ∃ i : Nat, flInt .f64 q .i64 = some (i : Int) ∧ i ≤ n := by
  obtain ⟨E, hE⟩ : ∃ E : Nat, E = 1074 := ⟨_, rfl⟩
  rw [U_one hE] at h
  have hr : rg q = q := Nat.mod_eq_of_lt (by omega)
  have hng : ng q = false := by
    unfold ng
    rw [Nat.div_eq_of_lt (by omega)]; rfl
  have hf : isF q := by unfold isF; omega
  obtain ⟨m, a, e, ha⟩ := read_F hf
  rw [hng] at e
  rw [hr] at ha
  rw [← ha] at h
  have ht := trunc_le hE h
  refine ⟨_, ?_, ht⟩
  show (match (Ieee.double.read q).toInt .zero with | some n => if IntKind.min .i64 ≤ n ∧ n ≤ IntKind.max .i64 then some n else none | none => none) = _
  rw [e]
  have e2 : (Ieee.Datum.number false m (-1074 + (a : Int))).toInt .zero = some ((Ieee.Toward.zero.cut false (m <<< (-1074 + (a : Int)).toNat) (-(-1074 + (a : Int))).toNat : Nat) : Int) := by
    unfold Ieee.Datum.toInt Ieee.Datum.integral
    dsimp only
    unfold Ieee.signed
    rw [if_neg (by decide), Nat.shiftLeft_zero]
  rw [e2]
  generalize Ieee.Toward.zero.cut false (m <<< (-1074 + (a : Int)).toNat) (-(-1074 + (a : Int))).toNat = i at ht
  have h1 : IntKind.min .i64 = -9223372036854775808 := rfl
  have h2 : IntKind.max .i64 = 9223372036854775807 := rfl
  dsimp only
  rw [h1, h2, if_pos ⟨by omega, by omega⟩]
theorem mul_def (x y : Nat) : flOp 2 .f64 x y = ((Ieee.double.read x).product (Ieee.double.read y)).map Ieee.double.write := rfl
/-- the place at a share c of the way of n -/
theorem idx_ok {c n : Nat} (hc : c < 18446744073709551616) (hn : ¬ isN c) (h0 : 0 ≤ fv c) (h1 : fv c ≤ 4607182418800017408) (hn60 : n ≤ 60) :
    ∃ q, flOp 2 .f64 c (flNear .f64 (n : Int)) = some q ∧ ∃ i : Nat, flInt .f64 q .i64 = some (i : Int) ∧ i ≤ n ∧ (fv c = 0 → i = 0) := by
  obtain ⟨w1, w2, w3⟩ := near60 hn60
  generalize hw : flNear .f64 (n : Int) = w at *
  have hfw : isF w := by
    unfold isF
    have : rg w = w := Nat.mod_eq_of_lt (by omega)
    rw [this]; exact w1
  have hrw : rg w = w := Nat.mod_eq_of_lt (by omega)
  have hngw : ng w = false := by
    unfold ng
    rw [Nat.div_eq_of_lt (by omega)]; rfl
  obtain ⟨mn, an, en, han⟩ := read_F hfw
  rw [hngw] at en
  rw [hrw] at han
  by_cases hz : fv c = 0
  · have hz2 := fv_zero hc hz
    rw [mul_def, read_zero c hz2, en]
    refine ⟨_, rfl, 0, ?_, Nat.zero_le _, fun _ => rfl⟩
    refine int_zero ?_
    show Ieee.double.nearest (ng c ^^ false) (0 * mn) _ = 0 ∨ Ieee.double.nearest (ng c ^^ false) (0 * mn) _ = _
    rw [Nat.zero_mul]
    exact near_zero _ _
  · have hp : 0 < fv c := by omega
    obtain ⟨k1, k2, k3, k4, k5⟩ := fv_pos hc hp
    have hfc : isF c := by
      unfold isF
      rw [k3]; omega
    obtain ⟨mc, ac, ec, hac, hmc⟩ := read_pos hc hp hfc
    rw [mul_def, ec, en]
    have hU : U c ≤ U 4607182418800017408 := by
      rcases Nat.lt_or_ge c 4607182418800017408 with q | q
      · exact Nat.le_of_lt (U_mono q)
      · have : c = 4607182418800017408 := by omega
        rw [this]; exact Nat.le_refl _
    obtain ⟨E, hE⟩ : ∃ E : Nat, E = 1074 := ⟨_, rfl⟩
    have hq : Ieee.double.nearest false (mc * mn) (-1074 + (ac : Int) + (-1074 + (an : Int))) ≤ w := by
      refine near_le (K := E + E) (by omega) (by omega) ?_
      have e1 : ((E + E : Nat) : Int) + (-1074 + (ac : Int) + (-1074 + (an : Int))) = ((ac + an : Nat) : Int) := by omega
      have e2 : E + E - 1074 = E := by omega
      rw [e1, Int.toNat_natCast, e2, Nat.pow_add]
      have e3 : mc * mn * (2 ^ ac * 2 ^ an) = (mc * 2 ^ ac) * (mn * 2 ^ an) := by
        rw [Nat.mul_assoc, Nat.mul_assoc, Nat.mul_left_comm mn]
      rw [e3, hac, han, ← U_one hE, Nat.mul_comm (U w)]
      exact Nat.mul_le_mul_right _ hU
    refine ⟨_, rfl, ?_⟩
    show ∃ i : Nat, flInt .f64 (Ieee.double.nearest (false ^^ false) (mc * mn) (-1074 + (ac : Int) + (-1074 + (an : Int)))) .i64 = _ ∧ _
    generalize hqd : Ieee.double.nearest false (mc * mn) (-1074 + (ac : Int) + (-1074 + (an : Int))) = q at hq
    have hqd2 : Ieee.double.nearest (false ^^ false) (mc * mn) (-1074 + (ac : Int) + (-1074 + (an : Int))) = q := hqd
    rw [hqd2]
    have hUq : U q ≤ n * U 4607182418800017408 := by
      rw [← w2]
      rcases Nat.lt_or_ge q w with h | h
      · exact Nat.le_of_lt (U_mono h)
      · have : q = w := by omega
        rw [this]; exact Nat.le_refl _
    obtain ⟨i, h3, h4⟩ := int_le (by omega) hUq hn60
    exact ⟨i, h3, h4, fun h => absurd h hz⟩
theorem cl_range {s : Nat} (hs : s < 18446744073709551616) (hn : ¬ isN s) : cl2 (cl1 s) < 18446744073709551616 ∧ ¬ isN (cl2 (cl1 s)) ∧ 0 ≤ fv (cl2 (cl1 s)) ∧ fv (cl2 (cl1 s)) ≤ 4607182418800017408 := by
  have h1 : cl1 s < 18446744073709551616 ∧ ¬ isN (cl1 s) ∧ 0 ≤ fv (cl1 s) := by
    unfold cl1
    rw [lt0 hn]
    by_cases h : fv s < 0
    · rw [decide_eq_true h, if_pos rfl]
      exact ⟨by decide, n0, by decide⟩
    · rw [decide_eq_false h, if_neg (by decide)]
      exact ⟨hs, hn, by omega⟩
  obtain ⟨a, b, c⟩ := h1
  unfold cl2
  rw [gt_fv, decide_eq_false b, decide_eq_false n1, fv1]
  by_cases h : 4607182418800017408 < fv (cl1 s)
  · rw [decide_eq_true h, if_pos (by decide)]
    exact ⟨by decide, n1, by decide, by decide⟩
  · rw [decide_eq_false h, if_neg (by decide)]
    exact ⟨a, b, c, by omega⟩
/-- both sides come to the same place -/
theorem rank_idx {s n : Nat} (hs : s < 18446744073709551616) (hn : ¬ isN s) (h60 : n ≤ 60) : ∃ i : Nat, p_stat_Rank_c1 (n : Int) s = some (i : Int) ∧ p_dormouseref43_Place (n : Int) s = some (i : Int) ∧ i ≤ n := by
  obtain ⟨a, b, c, d⟩ := cl_range hs hn
  obtain ⟨q, e1, i, e2, e3, e4⟩ := idx_ok a b c d h60
  obtain ⟨m, h1, t, h2, h3⟩ := clamp_eq hs hn
  have hplace : p_dormouseref43_Place (n : Int) s = some (i : Int) := by
    unfold cl2 cl1 at e1
    unfold p_dormouseref43_Place p_dormouseref43_Place.j0 p_dormouseref43_Place.j1 joinC
    dsimp only
    cases q1 : flLt .f64 s 0
    · rw [q1] at e1
      simp only [Bool.false_eq_true, if_false] at e1
      cases q2 : flGt .f64 s 4607182418800017408
      · rw [q2] at e1
        simp only [Bool.false_eq_true, if_false] at e1
        simp only [cond_false, e1, e2, Option.bind_some]
      · rw [q2] at e1
        simp only [if_true] at e1
        simp only [cond_false, cond_true, e1, e2, Option.bind_some]
    · rw [q1] at e1
      simp only [if_true] at e1
      cases q2 : flGt .f64 0 4607182418800017408
      · rw [q2] at e1
        simp only [Bool.false_eq_true, if_false] at e1
        simp only [cond_false, cond_true, q2, e1, e2, Option.bind_some]
      · rw [q2] at e1
        simp only [if_true] at e1
        simp only [cond_true, q2, e1, e2, Option.bind_some]
  refine ⟨i, ?_, hplace, e3⟩
  unfold p_stat_Rank_c1
  rw [h1, Option.bind_some, h2, Option.bind_some]
  rcases h3 with rfl | ⟨h3, h4⟩
  · rw [e1, Option.bind_some, e2]; rfl
  · have hz : ∀ z, z = 0 ∨ z = 9223372036854775808 → z < 18446744073709551616 ∧ ¬ isN z ∧ fv z = 0 := by
      rintro z (rfl | rfl) <;> exact ⟨by decide, by decide, rfl⟩
    obtain ⟨z1, z2, z3⟩ := hz t h3
    obtain ⟨_, _, z4⟩ := hz _ h4
    have hi0 := e4 z4
    subst hi0
    obtain ⟨q', f1, i', f2, _, f4⟩ := idx_ok z1 z2 (by omega) (by omega) h60
    rw [f1, Option.bind_some, f2, f4 z3]; rfl
end Go.Dor
end

section
/- ROWS OF NUMBERS: those that are finite; held against each other; sorted places; what comes at any rate. -/
set_option linter.unusedVariables false
set_option linter.unusedSimpArgs false
namespace Go.Dor
open Go.Proofs

theorem loopC_s {α R : Type} (F : (α → Option R) → α → Option R) (n : Nat) (y : α) : loopC F (n + 1) y = F (loopC F n) y := rfl
def fiN (x : Nat) : Bool := decide (isF x)
theorem struck_fiN {x : Nat} (hx : x < 18446744073709551616) : p_stat_Finite_c1 x = some (!fiN x) := struck_eq hx
/-- the first that is struck -/
theorem index_loop {x : List Nat} (hx : Fit x) (hb : x.length ≤ 60) (k : Nat) : ∀ (n fuel j : Nat), x.length - j = n → n < fuel → j ≤ x.length → (∀ y ∈ x.take j, fiN y = true) →
    ((loopC (fun (r : List Nat × Int × Int → Option Int) y => p_slices_IndexFunc_float64_float64.b1 k (fun (y : Unit) => p_slices_IndexFunc_float64_float64.j0 k) r y.1 y.2.1 y.2.2) fuel (x, (x.length : Int), (j : Int)) = some (-1) ∧ ∀ y ∈ x, fiN y = true) ∨
     ∃ i : Nat, loopC (fun (r : List Nat × Int × Int → Option Int) y => p_slices_IndexFunc_float64_float64.b1 k (fun (y : Unit) => p_slices_IndexFunc_float64_float64.j0 k) r y.1 y.2.1 y.2.2) fuel (x, (x.length : Int), (j : Int)) = some (i : Int) ∧ ∃ h : i < x.length, fiN x[i] = false ∧ ∀ y ∈ x.take i, fiN y = true) := by
  intro n
  induction n with
  | zero =>
    intro fuel j h1 h2 h3 h4
    obtain ⟨fuel, rfl⟩ : ∃ f, fuel = f + 1 := ⟨fuel - 1, by omega⟩
    have e : j = x.length := by omega
    subst e
    left
    refine ⟨?_, by rw [List.take_length] at h4; exact h4⟩
    rw [loopC_s]
    dsimp only
    unfold p_slices_IndexFunc_float64_float64.b1 p_slices_IndexFunc_float64_float64.j0
    rw [decide_eq_false (Int.lt_irrefl _), cond_false]
  | succ n ih =>
    intro fuel j h1 h2 h3 h4
    obtain ⟨fuel, rfl⟩ : ∃ f, fuel = f + 1 := ⟨fuel - 1, by omega⟩
    have hj : j < x.length := by omega
    have ih' := ih fuel (j + 1) (by omega) (by omega) (by omega)
    rw [loopC_s]
    dsimp only
    generalize loopC (fun (r : List Nat × Int × Int → Option Int) (y : List Nat × Int × Int) => p_slices_IndexFunc_float64_float64.b1 k (fun (y : Unit) => p_slices_IndexFunc_float64_float64.j0 k) r y.1 y.2.1 y.2.2) fuel = rec at ih' ⊢
    unfold p_slices_IndexFunc_float64_float64.b1
    have ew : IntKind.wrap .i64 ((j : Int) + 1) = ((j + 1 : Nat) : Int) := by rw [wrap_i64 (by omega)]; omega
    rw [decide_eq_true (by omega), cond_true, need_yesF ⟨by omega, by omega⟩, at_getF hj, struck_fiN (hx _ (List.getElem_mem hj)), Option.bind_some, ew]
    cases hf : fiN x[j]
    · right
      exact ⟨j, rfl, hj, hf, h4⟩
    · simp only [Bool.not_true, cond_false]
      refine ih' ?_
      rw [List.take_succ_eq_append_getElem hj]
      intro y hy
      rcases List.mem_append.1 hy with h | h
      · exact h4 y h
      · rw [List.mem_singleton.1 h]; exact hf
theorem delete_loop {x : List Nat} (hx : Fit x) (hb : x.length ≤ 60) (k : Nat) : ∀ (n fuel j i : Nat) (s : List Nat), x.length - j = n → n < fuel → j ≤ x.length → s.length = x.length → s.take i = (x.take j).filter fiN → i = ((x.take j).filter fiN).length → i ≤ j → s.drop j = x.drop j →
    loopC (fun (r : Int × Int × List Nat → Option (List Nat)) y => p_slices_DeleteFunc_float64_float64.b1 k (fun (y : Int × List Nat) => p_slices_DeleteFunc_float64_float64.j0 k y.1 y.2) r y.1 y.2.1 y.2.2) fuel ((i : Int), (j : Int), s) = some (x.filter fiN) := by
  intro n
  induction n with
  | zero =>
    intro fuel j i s h1 h2 h3 h4 h5 h6 h7 h8
    obtain ⟨fuel, rfl⟩ : ∃ f, fuel = f + 1 := ⟨fuel - 1, by omega⟩
    have e : j = x.length := by omega
    subst e
    rw [List.take_length] at h5 h6
    rw [loopC_s]
    dsimp only
    unfold p_slices_DeleteFunc_float64_float64.b1 p_slices_DeleteFunc_float64_float64.j0
    have hl : (List.take i s ++ List.replicate (s.length - i) (dflt (T.flt Go.FloatKind.f64))).length = s.length := by rw [List.length_append, List.length_take, List.length_replicate]; omega
    rw [decide_eq_false (by omega), cond_false]
    dsimp only
    rw [Int.toNat_natCast, need_yesF ⟨by omega, by omega⟩, need_yesF ⟨by omega, by omega, by rw [hl]; omega⟩]
    have hl2 : (s.take i).length = i := by rw [List.length_take]; omega
    rw [List.take_append_of_le_length (by omega), List.take_of_length_le (by omega), h5]
  | succ n ih =>
    intro fuel j i s h1 h2 h3 h4 h5 h6 h7 h8
    obtain ⟨fuel, rfl⟩ : ∃ f, fuel = f + 1 := ⟨fuel - 1, by omega⟩
    have hj : j < x.length := by omega
    have hjs : j < s.length := by omega
    have hsj : s[j] = x[j] := by
      have a1 := List.drop_eq_getElem_cons hjs
      have a2 := List.drop_eq_getElem_cons hj
      rw [h8, a2] at a1
      exact (List.cons.inj a1).1.symm
    have h8' : s.drop (j + 1) = x.drop (j + 1) := by
      have a1 := List.drop_eq_getElem_cons hjs
      have a2 := List.drop_eq_getElem_cons hj
      rw [h8, a2] at a1
      exact (List.cons.inj a1).2.symm
    have ih0 := ih fuel (j + 1) i s (by omega) (by omega) (by omega) h4
    have ih1 := ih fuel (j + 1) (i + 1) (s.set i x[j]) (by omega) (by omega) (by omega) (by rw [List.length_set]; exact h4)
    rw [loopC_s]
    dsimp only
    generalize loopC (fun (r : Int × Int × List Nat → Option (List Nat)) (y : Int × Int × List Nat) => p_slices_DeleteFunc_float64_float64.b1 k (fun (y : Int × List Nat) => p_slices_DeleteFunc_float64_float64.j0 k y.1 y.2) r y.1 y.2.1 y.2.2) fuel = rec at ih0 ih1 ⊢
    unfold p_slices_DeleteFunc_float64_float64.b1 joinC
    dsimp only
    have ew : IntKind.wrap .i64 ((j : Int) + 1) = ((j + 1 : Nat) : Int) := by rw [wrap_i64 (by omega)]; omega
    have ew2 : IntKind.wrap .i64 ((i : Int) + 1) = ((i + 1 : Nat) : Int) := by rw [wrap_i64 (by omega)]; omega
    rw [decide_eq_true (by omega), cond_true, need_yesF ⟨by omega, by omega⟩, at_getF hjs, hsj, struck_fiN (hx _ (List.getElem_mem hj)), Option.bind_some]
    have hfil : (x.take (j + 1)).filter fiN = (x.take j).filter fiN ++ (if fiN x[j] then [x[j]] else []) := by
      rw [List.take_succ_eq_append_getElem hj, List.filter_append]
      congr 1
      cases h : fiN x[j] <;> simp [h]
    unfold p_slices_DeleteFunc_float64_float64.j2
    cases hf : fiN x[j]
    · rw [hf] at hfil
      simp only [Bool.false_eq_true, if_false, List.append_nil] at hfil
      simp only [Bool.not_false, Bool.not_true, cond_false]
      rw [ew]
      exact ih0 (by rw [hfil]; exact h5) (by rw [hfil]; exact h6) (by omega) h8'
    · rw [hf] at hfil
      simp only [if_true] at hfil
      simp only [Bool.not_true, Bool.not_false, cond_true]
      rw [need_yesF ⟨by omega, by omega⟩, ew, ew2]
      show rec (((i + 1 : Nat) : Int), ((j + 1 : Nat) : Int), s.set (i : Int).toNat x[j]) = _
      rw [Int.toNat_natCast]
      refine ih1 ?_ (by rw [hfil, List.length_append, ← h6]; rfl) (by omega) ?_
      · rw [hfil, ← h5]
        rw [List.take_succ_eq_append_getElem (by rw [List.length_set]; omega)]
        rw [List.take_set_of_le (Nat.le_refl i), List.getElem_set_self]
      · rw [List.drop_set_of_lt (by omega)]
        exact h8'
theorem finite_eq {x : List Nat} (hx : Fit x) (hb : x.length ≤ 60) : p_stat_Finite 1000 x = some (x.filter fiN) := by
  unfold p_stat_Finite
  rw [clone_eq (by omega), Option.bind_some]
  have key : p_slices_DeleteFunc_float64_float64 1000 x = some (x.filter fiN) := by
    unfold p_slices_DeleteFunc_float64_float64 p_slices_IndexFunc_float64_float64 joinC
    dsimp only
    rcases index_loop hx hb 1000 x.length 1000 0 (by omega) (by omega) (by omega) (by simp) with ⟨h1, h2⟩ | ⟨i, h1, h2, h3, h4⟩
    · have h1' := h1
      rw [show ((0 : Nat) : Int) = 0 from rfl] at h1'
      rw [h1', Option.bind_some]
      have e : x.filter fiN = x := List.filter_eq_self.2 h2
      rw [e]
      rfl
    · have h1' := h1
      rw [show ((0 : Nat) : Int) = 0 from rfl] at h1'
      rw [h1', Option.bind_some]
      have e : (((i : Nat) : Int) == -1) = false := beq_eq_false_iff_ne.2 (by omega)
      have ew : IntKind.wrap .i64 ((i : Int) + 1) = ((i + 1 : Nat) : Int) := by rw [wrap_i64 (by omega)]; omega
      rw [e, cond_false, ew]
      have hfi : (x.take (i + 1)).filter fiN = x.take i := by
        rw [List.take_succ_eq_append_getElem h2, List.filter_append, List.filter_eq_self.2 h4]
        simp [h3]
      refine delete_loop hx hb 1000 (x.length - (i + 1)) 1000 (i + 1) i x rfl (by omega) (by omega) rfl hfi.symm ?_ (by omega) rfl
      rw [hfi, List.length_take]; omega
  rw [key]; rfl
/-- the reference's finite numbers -/
theorem refFinite_eq {x : List Nat} (hb : x.length ≤ 60) : p_dormouseref43_Finite 1000 x = some (x.filter fiN) := by
  unfold p_dormouseref43_Finite joinC
  refine loop_count (body := fun (r : List Nat × Int × List Nat → Option (List Nat)) y => p_dormouseref43_Finite.b1 1000 (p_dormouseref43_Finite.j0 1000) r y.1 y.2.1 y.2.2) x.length 1000 (fun i => (x, (i : Int), (x.take i).filter fiN)) (by omega) (fun i hi rec => ?_) (fun rec => ?_)
  · dsimp only
    unfold p_dormouseref43_Finite.b1 p_dormouseref43_Finite.j2 p_dormouseref43_Finite.j3 joinC
    dsimp only
    have ew : IntKind.wrap .i64 ((i : Int) + 1) = ((i + 1 : Nat) : Int) := by rw [wrap_i64 (by omega)]; omega
    rw [decide_eq_true (by omega), cond_true, need_yesF ⟨by omega, by omega⟩, need_yesF ⟨by omega, by omega⟩, at_getF hi, self_eq, ew]
    have hfil : (x.take (i + 1)).filter fiN = (x.take i).filter fiN ++ (if fiN x[i] then [x[i]] else []) := by
      rw [List.take_succ_eq_append_getElem hi, List.filter_append]
      congr 1
      cases h : fiN x[i] <;> simp [h]
    have hlen : ((x.take i).filter fiN).length ≤ 60 := by
      have a1 := List.length_filter_le fiN (x.take i)
      rw [List.length_take] at a1
      omega
    rw [hfil]
    by_cases hn : isN x[i]
    · have hf : fiN x[i] = false := decide_eq_false (by unfold isN isF at *; omega)
      rw [decide_eq_true hn, hf]
      simp
    · rw [decide_eq_false hn, infinite_eq]
      simp only [Bool.not_false, cond_true]
      rw [need_yesF ⟨by omega, by omega⟩, Option.bind_some]
      by_cases hi2 : isI x[i]
      · have hf : fiN x[i] = false := decide_eq_false (by unfold isI isF at *; omega)
        rw [decide_eq_true hi2, hf]
        simp
      · have hf : fiN x[i] = true := decide_eq_true (by unfold isN isI isF at *; omega)
        rw [decide_eq_false hi2, hf]
        simp only [Bool.not_false, cond_true, if_true]
        rw [need_yesF ⟨by omega, by omega⟩, need_yesF (by simp only [List.length_cons, List.length_nil]; omega)]
  · dsimp only
    unfold p_dormouseref43_Finite.b1 p_dormouseref43_Finite.j0
    rw [decide_eq_false (by omega), cond_false, List.take_length]

/-! ### held against each other -/
theorem eqs_loop {x y : List Nat} (hl : x.length = y.length) (hb : x.length ≤ 60) (k : Nat) : ∀ (n fuel j : Nat), x.length - j = n → n < fuel → j ≤ x.length → x.take j = y.take j →
    loopC (fun (r : List Nat × List Nat × Int × Int → Option Bool) z => p_slices_EqualFunc_float64_float64_float64_float64.b1 k (fun (y : Unit) => p_slices_EqualFunc_float64_float64_float64_float64.j0 k) r z.1 z.2.1 z.2.2.1 z.2.2.2) fuel (y, x, (x.length : Int), (j : Int)) = some (decide (x = y)) := by
  intro n
  induction n with
  | zero =>
    intro fuel j h1 h2 h3 h4
    obtain ⟨fuel, rfl⟩ : ∃ f, fuel = f + 1 := ⟨fuel - 1, by omega⟩
    have e : j = x.length := by omega
    subst e
    rw [List.take_length, hl, List.take_length] at h4
    rw [loopC_s]
    dsimp only
    unfold p_slices_EqualFunc_float64_float64_float64_float64.b1 p_slices_EqualFunc_float64_float64_float64_float64.j0
    rw [decide_eq_false (Int.lt_irrefl _), cond_false, decide_eq_true h4]
  | succ n ih =>
    intro fuel j h1 h2 h3 h4
    obtain ⟨fuel, rfl⟩ : ∃ f, fuel = f + 1 := ⟨fuel - 1, by omega⟩
    have hj : j < x.length := by omega
    have hj2 : j < y.length := by omega
    have ih' := ih fuel (j + 1) (by omega) (by omega) (by omega)
    rw [loopC_s]
    dsimp only
    generalize loopC (fun (r : List Nat × List Nat × Int × Int → Option Bool) (z : List Nat × List Nat × Int × Int) => p_slices_EqualFunc_float64_float64_float64_float64.b1 k (fun (y : Unit) => p_slices_EqualFunc_float64_float64_float64_float64.j0 k) r z.1 z.2.1 z.2.2.1 z.2.2.2) fuel = rec at ih' ⊢
    unfold p_slices_EqualFunc_float64_float64_float64_float64.b1 p_gauge_Same p_gauge_Bits
    have ew : IntKind.wrap .i64 ((j : Int) + 1) = ((j + 1 : Nat) : Int) := by rw [wrap_i64 (by omega)]; omega
    rw [decide_eq_true (by omega), cond_true, need_yesF ⟨by omega, by omega⟩, need_yesF ⟨by omega, by omega⟩, at_getF hj, at_getF hj2, ew]
    simp only [Option.bind_some]
    by_cases he : x[j] = y[j]
    · have : (((x[j] : Nat) : Int) == ((y[j] : Nat) : Int)) = true := by rw [he]; exact beq_self_eq_true _
      rw [this]
      simp only [Bool.not_true, cond_false]
      refine ih' ?_
      rw [List.take_succ_eq_append_getElem hj, List.take_succ_eq_append_getElem hj2, h4, he]
    · have : (((x[j] : Nat) : Int) == ((y[j] : Nat) : Int)) = false := beq_eq_false_iff_ne.2 (by omega)
      rw [this]
      simp only [Bool.not_false, cond_true]
      rw [decide_eq_false]
      rintro rfl
      exact he rfl
theorem statSame_eq {x y : List Nat} (hb : x.length ≤ 60) : p_stat_Same 1000 x y = some (decide (x = y)) := by
  unfold p_stat_Same p_slices_EqualFunc_float64_float64_float64_float64 joinC
  dsimp only
  by_cases hl : x.length = y.length
  · have : ((x.length : Int) != (y.length : Int)) = false := by rw [hl]; simp
    rw [this, cond_false]
    have h := eqs_loop hl hb 1000 x.length 1000 0 (by omega) (by omega) (by omega) rfl
    have h' : loopC (fun (r : List Nat × List Nat × Int × Int → Option Bool) z => p_slices_EqualFunc_float64_float64_float64_float64.b1 1000 (fun (y : Unit) => p_slices_EqualFunc_float64_float64_float64_float64.j0 1000) r z.1 z.2.1 z.2.2.1 z.2.2.2) 1000 (y, x, (x.length : Int), (0 : Int)) = some (decide (x = y)) := h
    rw [h']; rfl
  · have : ((x.length : Int) != (y.length : Int)) = true := bne_iff_ne.2 (by omega)
    rw [this, cond_true]
    have hne : ¬ x = y := by rintro rfl; exact hl rfl
    rw [decide_eq_false hne]; rfl

/-! ### ranks -/
theorem rank_none {x : List Nat} {s : Nat} (h : x.length = 0 ∨ isN s) : p_stat_Rank x s = some 9221120237041090561 := by
  unfold p_stat_Rank p_stat_Rank.j0 joinC
  have e : p_math_NaN = some 9221120237041090561 := rfl
  dsimp only
  by_cases h0 : x.length = 0
  · have : ((x.length : Int) == 0) = true := by simp [h0]
    rw [this, cond_true, e]; rfl
  · have : ((x.length : Int) == 0) = false := beq_eq_false_iff_ne.2 (by omega)
    have hs : isN s := h.resolve_left h0
    rw [this, cond_false, self_eq, decide_eq_true hs, e]; rfl
theorem rank_some {x : List Nat} {s i : Nat} (hx : Fit x) (hb : x.length ≤ 60) (h0 : 0 < x.length) (hn : ¬ isN s) (h : p_stat_Rank_c1 ((x.length - 1 : Nat) : Int) s = some (i : Int)) (hi : i ≤ x.length - 1) :
    p_stat_Rank x s = some ((sortK keyF x)[i]'(by rw [sortK_len]; omega)) := by
  unfold p_stat_Rank p_stat_Rank.j0 joinC
  dsimp only
  have : ((x.length : Int) == 0) = false := beq_eq_false_iff_ne.2 (by omega)
  have ew : IntKind.wrap .i64 ((x.length : Int) - 1) = ((x.length - 1 : Nat) : Int) := by rw [wrap_i64 (by omega)]; omega
  have hl := sortK_len keyF x
  rw [this, cond_false, self_eq, decide_eq_false hn]
  simp only [Bool.not_false, Bool.not_true, cond_false]
  rw [gaugeSort_eq hx hb, Option.bind_some, ew, h, Option.bind_some, need_yesF ⟨by omega, by omega⟩]
  exact congrArg some (at_getF (by omega))

/-! ### what comes at any rate -/
theorem fit_of {l : List Nat} (h : l.all (fun x => decide (x < 18446744073709551616)) = true) : Fit l := fun x hx => of_decide_eq_true (List.all_eq_true.1 h x hx)
set_option maxRecDepth 100000 in
theorem sort3 : p_gauge_Sort [(4613937818241073152 : Nat), (4607182418800017408 : Nat), (4611686018427387904 : Nat)] = some [(4607182418800017408 : Nat), (4611686018427387904 : Nat), (4613937818241073152 : Nat)] := by
  rw [gaugeSort_eq (fit_of (by decide)) (by decide)]
  kernel_rfl
set_option maxRecDepth 100000 in
theorem sort2 : p_gauge_Sort [(4617315517961601024 : Nat), (4619567317775286272 : Nat)] = some [(4617315517961601024 : Nat), (4619567317775286272 : Nat)] := by
  rw [gaugeSort_eq (fit_of (by decide)) (by decide)]
  kernel_rfl
set_option maxRecDepth 100000 in
theorem sort2b : p_gauge_Sort [(4607182418800017408 : Nat), (4616189618054758400 : Nat)] = some [(4607182418800017408 : Nat), (4616189618054758400 : Nat)] := by
  rw [gaugeSort_eq (fit_of (by decide)) (by decide)]
  kernel_rfl
set_option maxRecDepth 100000 in
theorem middle_aw : p_stat_Middle [(4613937818241073152 : Nat), (4607182418800017408 : Nat), (4611686018427387904 : Nat)] = some 4611686018427387904 := by
  unfold p_stat_Middle p_stat_Rank p_stat_Rank.j0 joinC
  dsimp only
  rw [sort3]
  show (_ : Option Nat) = _
  kernel_rfl
set_option maxRecDepth 100000 in
theorem rank_aw : p_stat_Rank [(4617315517961601024 : Nat), (4619567317775286272 : Nat)] (4607182418800017408) = some 4619567317775286272 := by
  unfold p_stat_Rank p_stat_Rank.j0 joinC
  dsimp only
  rw [sort2]
  show (_ : Option Nat) = _
  kernel_rfl
set_option maxRecDepth 100000 in
theorem spread_aw : p_stat_Spread 1000 [(4607182418800017408 : Nat), (9218868437227405312 : Nat), (4616189618054758400 : Nat)] = some 4613937818241073152 := by
  have hf : p_stat_Finite 1000 [(4607182418800017408 : Nat), (9218868437227405312 : Nat), (4616189618054758400 : Nat)] = some [(4607182418800017408 : Nat), (4616189618054758400 : Nat)] := by
    rw [finite_eq (fit_of (by decide)) (by decide)]
    kernel_rfl
  unfold p_stat_Spread
  rw [hf]
  unfold p_gauge_Most p_gauge_Least
  simp only [Option.bind_some, sort2b]
  show (_ : Option Nat) = _
  kernel_rfl
set_option maxRecDepth 100000 in
theorem awake43 : p_dormouselaw43_awake 1000 = some true := by
  unfold p_dormouselaw43_awake joinC
  have e : p_math_Inf (1 : Int) = some 9218868437227405312 := by kernel_rfl
  dsimp only
  rw [e]
  simp only [Option.bind_some]
  rw [middle_aw, rank_aw, spread_aw]
  show (_ : Option Bool) = _
  kernel_rfl
end Go.Dor
end

section
/- StatRanks, BEHIND ITS WALK. -/
set_option linter.unusedVariables false
set_option linter.unusedSimpArgs false
namespace Go.Dor
open Go.Proofs

theorem halfN : ¬ isN 4602678819172646912 := by decide
theorem nanN : isN 9221120237041090561 := by decide
theorem middle_eq (x : List Nat) : p_stat_Middle x = p_stat_Rank x 4602678819172646912 := by
  unfold p_stat_Middle
  cases p_stat_Rank x 4602678819172646912 <;> rfl
theorem ranks_j0 {x : List Nat} {s : Nat} (hx : Fit x) (hb : x.length ≤ 60) (hs : s < 18446744073709551616) : p_dormouselaw43_StatRanks.j0 1000 x s = some true := by
  unfold p_dormouselaw43_StatRanks.j0 p_dormouselaw43_StatRanks.j1 p_dormouselaw43_StatRanks.j2 p_dormouselaw43_StatRanks.j3 joinC
  dsimp only
  rw [middle_eq, awake43]
  by_cases h0 : x.length = 0
  · have e : ((x.length : Int) == 0) = true := by simp [h0]
    rw [rank_none (.inl h0), rank_none (.inl h0), e]
    simp only [Option.bind_some, cond_true, self_eq, decide_eq_true nanN, Bool.not_true, Bool.not_false]
  · have e : ((x.length : Int) == 0) = false := beq_eq_false_iff_ne.2 (by omega)
    have ew : IntKind.wrap .i64 ((x.length : Int) - 1) = ((x.length - 1 : Nat) : Int) := by rw [wrap_i64 (by omega)]; omega
    have hl := sortK_len keyF x
    obtain ⟨i, h1, h2, h3⟩ := rank_idx (s := 4602678819172646912) (n := x.length - 1) (by decide) halfN (by omega)
    rw [rank_some hx hb (by omega) halfN h1 h3, e, refSort_eq hx (by omega) hb, ew, h2]
    by_cases hn : isN s
    · rw [rank_none (.inr hn)]
      simp only [Option.bind_some, cond_false]
      rw [need_yesF ⟨by omega, by omega⟩, at_getF (by omega), same_eq, Option.bind_some, decide_eq_true rfl, self_eq, self_eq, decide_eq_true hn, decide_eq_true nanN]
      rfl
    · obtain ⟨j, k1, k2, k3⟩ := rank_idx (s := s) (n := x.length - 1) hs hn (by omega)
      rw [rank_some hx hb (by omega) hn k1 k3, k2]
      simp only [Option.bind_some, cond_false]
      rw [need_yesF ⟨by omega, by omega⟩, at_getF (by omega), same_eq, Option.bind_some, decide_eq_true rfl, self_eq, decide_eq_false hn]
      simp only [Bool.not_true, Bool.not_false, cond_true, cond_false]
      rw [need_yesF ⟨by omega, by omega⟩, at_getF (by omega), same_eq, Option.bind_some, decide_eq_true rfl]
/-- the law, behind its walk -/
theorem law_StatRanks (x : List Nat) (s : Nat) (okx : okD (.sl (.flt .f64)) x) (oks : okD (.flt .f64) s) : p_dormouselaw43_StatRanks 1000 x s = some true := by
  have hx : Fit x := fun y hy => by
    have h : (Lit.float .f64 y).wf = true := okx.2 y hy
    simpa [Lit.wf] using h
  have hs : s < 18446744073709551616 := by
    have h : (Lit.float .f64 s).wf = true := oks
    simpa [Lit.wf] using h
  unfold p_dormouselaw43_StatRanks joinC
  dsimp only
  by_cases h : x.length ≤ 60
  · rw [decide_eq_false (by omega), cond_false]
    exact ranks_j0 hx h hs
  · rw [decide_eq_true (by omega), cond_true, need_yesF ⟨by omega, by omega, by omega⟩]
    have e : sub_ x (0 : Int) (60 : Int) = x.take 60 := sub_takeF x 60
    rw [e]
    exact ranks_j0 (fun y hy => hx y (List.mem_of_mem_take hy)) (by rw [List.length_take]; omega) hs
end Go.Dor
end

section
/- StatSpreads, BEHIND ITS WALK. -/
set_option linter.unusedVariables false
set_option linter.unusedSimpArgs false
namespace Go.Dor
open Go.Proofs

theorem signed_not (s : Bool) (m u : Nat) : Ieee.signed (!s) m u = - Ieee.signed s m u := by
  unfold Ieee.signed
  cases s <;> simp
theorem sub_ok {a b : Nat} (ha : isF a) (hb : isF b) (h : fv b ≤ fv a) : ∃ d, flOp 1 .f64 a b = some d ∧ ¬ isN d ∧ 0 ≤ fv d := by
  obtain ⟨m, p, e1, _⟩ := read_F ha
  obtain ⟨n, q, e2, _⟩ := read_F hb
  have ho := order_fv (x := a) (y := b) (by unfold isN isF at *; omega) (by unfold isN isF at *; omega)
  unfold Ieee.Format.order at ho
  rw [e1, e2] at ho
  have ho : compare (Ieee.signed (ng a) m ((-1074 + (p : Int)) - min (-1074 + (p : Int)) (-1074 + (q : Int))).toNat) (Ieee.signed (ng b) n ((-1074 + (q : Int)) - min (-1074 + (p : Int)) (-1074 + (q : Int))).toNat) = compare (fv a) (fv b) := Option.some.inj ho
  have hsub : flOp 1 .f64 a b = ((Ieee.double.read a).sum (Ieee.double.read b).opposite).map Ieee.double.write := rfl
  rw [hsub, e1, e2]
  generalize hA : Ieee.signed (ng a) m ((-1074 + (p : Int)) - min (-1074 + (p : Int)) (-1074 + (q : Int))).toNat = A at ho
  generalize hB : Ieee.signed (ng b) n ((-1074 + (q : Int)) - min (-1074 + (p : Int)) (-1074 + (q : Int))).toNat = B at ho
  have hAB : B ≤ A := by
    refine Int.not_lt.1 fun hlt => ?_
    rw [cmp_lt hlt] at ho
    rcases Int.lt_trichotomy (fv a) (fv b) with q1 | q1 | q1
    · omega
    · rw [cmp_eq q1] at ho; cases ho
    · rw [cmp_gt q1] at ho; cases ho
  have hs : ((Ieee.Datum.number (ng a) m (-1074 + (p : Int))).sum (Ieee.Datum.number (ng b) n (-1074 + (q : Int))).opposite) = some (.number (if A - B = 0 then ng a && !ng b else decide (A - B < 0)) (A - B).natAbs (min (-1074 + (p : Int)) (-1074 + (q : Int)))) := by
    show some (Ieee.Datum.number (if Ieee.signed (ng a) m _ + Ieee.signed (!ng b) n _ = 0 then ng a && !ng b else decide (Ieee.signed (ng a) m _ + Ieee.signed (!ng b) n _ < 0)) (Ieee.signed (ng a) m _ + Ieee.signed (!ng b) n _).natAbs _) = _
    rw [signed_not, hA, hB]
    rfl
  rw [hs]
  by_cases h0 : A - B = 0
  · rw [if_pos h0, h0]
    have hz : ∀ z, z = 0 ∨ z = 9223372036854775808 → ¬ isN z ∧ 0 ≤ fv z := by
      rintro z (rfl | rfl) <;> exact ⟨by decide, by decide⟩
    exact ⟨_, rfl, hz _ (near_zero _ _)⟩
  · rw [if_neg h0, decide_eq_false (show ¬ A - B < 0 by omega)]
    refine ⟨_, rfl, ?_⟩
    have := fv_word (q := Ieee.double.nearest false (A - B).natAbs (min (-1074 + (p : Int)) (-1074 + (q : Int)))) near_word
    exact ⟨this.1, by
      show 0 ≤ fv (Ieee.double.nearest false (A - B).natAbs (min (-1074 + (p : Int)) (-1074 + (q : Int))))
      rw [this.2]; omega⟩
theorem fv_key {x y : Nat} (hx : x < 18446744073709551616) (hy : y < 18446744073709551616) (h : fv x < fv y) : keyF x < keyF y := by
  rw [keyF_val hx, keyF_val hy]
  by_cases h1 : x < 9223372036854775808 <;> by_cases h2 : y < 9223372036854775808
  · rw [(fv_lo h1).1, (fv_lo h2).1] at h
    rw [if_neg (by omega), if_neg (by omega)]; omega
  · rw [(fv_lo h1).1, (fv_hi (by omega) hy).1] at h
    omega
  · rw [(fv_hi (by omega) hx).1, (fv_lo h2).1] at h
    rw [if_pos (by omega), if_neg (by omega)]; omega
  · rw [(fv_hi (by omega) hx).1, (fv_hi (by omega) hy).1] at h
    rw [if_pos (by omega), if_pos (by omega)]; omega
theorem fv_sorted {f : List Nat} (hf : Fit f) (h0 : 0 < f.length) : fv ((sortK keyF f)[0]'(by rw [sortK_len]; exact h0)) ≤ fv ((sortK keyF f)[f.length - 1]'(by rw [sortK_len]; omega)) := by
  have hl := sortK_len keyF f
  have hfs : Fit (sortK keyF f) := fit_perm (sortK_perm keyF f) hf
  refine Int.not_lt.1 fun hlt => ?_
  have h1 := fv_key (hfs _ (List.getElem_mem _)) (hfs _ (List.getElem_mem _)) hlt
  by_cases he : f.length - 1 = 0
  · have : (sortK keyF f)[f.length - 1]'(by omega) = (sortK keyF f)[0]'(by omega) := by congr 1
    rw [this] at h1
    omega
  · have h2 := List.pairwise_iff_getElem.1 (sortK_sorted keyF f) 0 (f.length - 1) (by omega) (by omega) (by omega)
    omega
/-- how far a row's finite numbers are apart -/
theorem spread_eq {l : List Nat} (hl : Fit l) (hb : l.length ≤ 60) (h0 : 0 < (l.filter fiN).length) :
    ∃ d, flOp 1 .f64 ((sortK keyF (l.filter fiN))[(l.filter fiN).length - 1]'(by rw [sortK_len]; omega)) ((sortK keyF (l.filter fiN))[0]'(by rw [sortK_len]; exact h0)) = some d ∧ ¬ isN d ∧ 0 ≤ fv d ∧ p_stat_Spread 1000 l = some d := by
  have hf : Fit (l.filter fiN) := fun x hx => hl x (List.mem_filter.1 hx).1
  have hfb : (l.filter fiN).length ≤ 60 := Nat.le_trans (List.length_filter_le _ _) hb
  have hsl := sortK_len keyF (l.filter fiN)
  have hF : ∀ (i : Nat) (h : i < (sortK keyF (l.filter fiN)).length), isF ((sortK keyF (l.filter fiN))[i]) := fun i h => by
    have h1 := (sortK_perm keyF (l.filter fiN)).mem_iff.1 (List.getElem_mem h)
    exact of_decide_eq_true (List.mem_filter.1 h1).2
  obtain ⟨d, h1, h2, h3⟩ := sub_ok (hF _ (by omega)) (hF _ (by omega)) (fv_sorted hf h0)
  refine ⟨d, h1, h2, h3, ?_⟩
  unfold p_stat_Spread
  have e : (((l.filter fiN).length : Int) == 0) = false := beq_eq_false_iff_ne.2 (by omega)
  rw [finite_eq hl hb, Option.bind_some, e, cond_false, most_eq hf hfb h0, Option.bind_some, least_eq hf hfb h0, Option.bind_some, h1]
  rfl
theorem spread_none {l : List Nat} (hl : Fit l) (hb : l.length ≤ 60) (h0 : (l.filter fiN).length = 0) : p_stat_Spread 1000 l = some 0 := by
  unfold p_stat_Spread
  have e : (((l.filter fiN).length : Int) == 0) = true := by rw [h0]; rfl
  rw [finite_eq hl hb, Option.bind_some, e]; rfl
theorem spreads_j2 {l m : List Nat} (hl : Fit l) (hb : l.length ≤ 60) : p_dormouselaw43_StatSpreads.j2 1000 l m (decide (l = m)) (l.filter fiN) = some true := by
  have hf : Fit (l.filter fiN) := fun x hx => hl x (List.mem_filter.1 hx).1
  have hfb : (l.filter fiN).length ≤ 60 := Nat.le_trans (List.length_filter_le _ _) hb
  have hsl := sortK_len keyF (l.filter fiN)
  unfold p_dormouselaw43_StatSpreads.j2 p_dormouselaw43_StatSpreads.j3 p_dormouselaw43_StatSpreads.j4 joinC
  dsimp only
  have hb2 : ∀ b : Bool, (!(b == b)) = false := fun b => by cases b <;> rfl
  rw [statSame_eq hb, Option.bind_some, hb2, cond_false, awake43]
  by_cases h0 : (l.filter fiN).length = 0
  · have e : (((l.filter fiN).length : Int) == 0) = true := by rw [h0]; rfl
    rw [spread_none hl hb h0, Option.bind_some, e, cond_true, Option.bind_some, cond_true, same_eq]
    rfl
  · have e : (((l.filter fiN).length : Int) == 0) = false := beq_eq_false_iff_ne.2 (by omega)
    obtain ⟨d, h1, h2, h3, h4⟩ := spread_eq hl hb (by omega)
    have ew : IntKind.wrap .i64 (((sortK keyF (l.filter fiN)).length : Int) - 1) = (((l.filter fiN).length - 1 : Nat) : Int) := by rw [wrap_i64 (by omega)]; omega
    rw [h4, Option.bind_some, e, cond_false, refSort_eq hf (by omega) hfb, Option.bind_some, Option.bind_some, cond_true, ew, need_yesF ⟨by omega, by omega⟩, need_yesF ⟨by omega, by omega⟩, at_getF (by omega)]
    have a0 : at_ (dflt (T.flt Go.FloatKind.f64)) (sortK keyF (l.filter fiN)) (0 : Int) = (sortK keyF (l.filter fiN))[0]'(by omega) := at_getF (i := 0) (by omega)
    rw [a0, h1, Option.bind_some, alike_q, alike_self, Option.bind_some, cond_true, ge0, decide_eq_false h2, decide_eq_true h3]
    rfl
theorem same_loop {l m f : List Nat} (hl : l.length = m.length) (hb : l.length ≤ 60) (j : List Nat × List Nat × Bool × List Nat → Option Bool) : ∀ (n fuel i : Nat), l.length - i = n → n < fuel → i ≤ l.length → l.take i = m.take i →
    loopC (fun (r : List Nat × List Nat × Bool × Int × List Nat → Option Bool) y => p_dormouselaw43_StatSpreads.b5 1000 j r y.1 y.2.1 y.2.2.1 y.2.2.2.1 y.2.2.2.2) fuel (l, m, true, (i : Int), f) = j (l, m, decide (l = m), f) := by
  intro n
  induction n with
  | zero =>
    intro fuel i h1 h2 h3 h4
    obtain ⟨fuel, rfl⟩ : ∃ f, fuel = f + 1 := ⟨fuel - 1, by omega⟩
    have e : i = l.length := by omega
    subst e
    rw [List.take_length, hl, List.take_length] at h4
    rw [loopC_s]
    dsimp only
    unfold p_dormouselaw43_StatSpreads.b5 p_dormouselaw43_StatSpreads.j6 joinC
    dsimp only
    rw [decide_eq_false (Int.lt_irrefl _), cond_false, decide_eq_true h4]
    rfl
  | succ n ih =>
    intro fuel i h1 h2 h3 h4
    obtain ⟨fuel, rfl⟩ : ∃ f, fuel = f + 1 + 1 := ⟨fuel - 2, by omega⟩
    have hi : i < l.length := by omega
    have hi2 : i < m.length := by omega
    have ih' := ih (fuel + 1) (i + 1) (by omega) (by omega) (by omega)
    have hfalse : loopC (fun (r : List Nat × List Nat × Bool × Int × List Nat → Option Bool) y => p_dormouselaw43_StatSpreads.b5 1000 j r y.1 y.2.1 y.2.2.1 y.2.2.2.1 y.2.2.2.2) (fuel + 1) (l, m, false, ((i + 1 : Nat) : Int), f) = j (l, m, false, f) := by
      rw [loopC_s]
      dsimp only
      unfold p_dormouselaw43_StatSpreads.b5 p_dormouselaw43_StatSpreads.j6 joinC
      by_cases hq : (((i + 1 : Nat) : Int) < (l.length : Int))
      · rw [decide_eq_true hq]; rfl
      · rw [decide_eq_false hq]; rfl
    rw [loopC_s]
    dsimp only
    generalize loopC (fun (r : List Nat × List Nat × Bool × Int × List Nat → Option Bool) (y : List Nat × List Nat × Bool × Int × List Nat) => p_dormouselaw43_StatSpreads.b5 1000 j r y.1 y.2.1 y.2.2.1 y.2.2.2.1 y.2.2.2.2) (fuel + 1) = rec at ih' hfalse ⊢
    unfold p_dormouselaw43_StatSpreads.b5 p_dormouselaw43_StatSpreads.j6 joinC
    dsimp only
    have ew : IntKind.wrap .i64 ((i : Int) + 1) = ((i + 1 : Nat) : Int) := by rw [wrap_i64 (by omega)]; omega
    rw [decide_eq_true (by omega), cond_true, cond_true, need_yesF ⟨by omega, by omega⟩, need_yesF ⟨by omega, by omega⟩, at_getF hi, at_getF hi2, same_eq, Option.bind_some, ew]
    by_cases he : l[i] = m[i]
    · rw [decide_eq_true he]
      exact ih' (by rw [List.take_succ_eq_append_getElem hi, List.take_succ_eq_append_getElem hi2, h4, he])
    · rw [decide_eq_false he, hfalse, decide_eq_false]
      rintro rfl
      exact he rfl
theorem spreads_j1 {l m : List Nat} (hl : Fit l) (hb : l.length ≤ 60) : p_dormouselaw43_StatSpreads.j1 1000 l m (l.filter fiN) = some true := by
  unfold p_dormouselaw43_StatSpreads.j1 joinC
  dsimp only
  by_cases h : l.length = m.length
  · have e : ((l.length : Int) == (m.length : Int)) = true := by rw [h]; exact beq_self_eq_true _
    rw [e]
    have := same_loop (f := l.filter fiN) h hb (fun y => p_dormouselaw43_StatSpreads.j2 1000 y.1 y.2.1 y.2.2.1 y.2.2.2) l.length 1000 0 (by omega) (by omega) (by omega) rfl
    exact this.trans (spreads_j2 hl hb)
  · have e : ((l.length : Int) == (m.length : Int)) = false := beq_eq_false_iff_ne.2 (by omega)
    rw [e, loopC_s (n := 999)]
    dsimp only
    have hne : ¬ l = m := by rintro rfl; exact h rfl
    have h2 := spreads_j2 (m := m) hl hb
    rw [decide_eq_false hne] at h2
    unfold p_dormouselaw43_StatSpreads.b5 p_dormouselaw43_StatSpreads.j6 joinC
    cases decide ((0 : Int) < (l.length : Int))
    · exact h2
    · exact h2
theorem spreads_j0 {l m : List Nat} (hl : Fit l) (hb : l.length ≤ 60) : p_dormouselaw43_StatSpreads.j0 1000 l m false = some true := by
  have hfb : (l.filter fiN).length ≤ 60 := Nat.le_trans (List.length_filter_le _ _) hb
  unfold p_dormouselaw43_StatSpreads.j0 joinC
  dsimp only
  rw [cond_false, refFinite_eq hb, Option.bind_some, finite_eq hl hb, Option.bind_some]
  simp only [bne_self_eq_false, cond_false]
  refine loop_count (body := fun (r : List Nat × List Nat × Int × List Nat × List Nat → Option Bool) y => p_dormouselaw43_StatSpreads.b7 1000 (fun y => p_dormouselaw43_StatSpreads.j1 1000 y.1 y.2.1 y.2.2) r y.1 y.2.1 y.2.2.1 y.2.2.2.1 y.2.2.2.2) (l.filter fiN).length 1000 (fun i => (l, m, (i : Int), l.filter fiN, l.filter fiN)) (by omega) (fun i hi rec => ?_) (fun rec => ?_)
  · dsimp only
    unfold p_dormouselaw43_StatSpreads.b7
    have ew : IntKind.wrap .i64 ((i : Int) + 1) = ((i + 1 : Nat) : Int) := by rw [wrap_i64 (by omega)]; omega
    rw [decide_eq_true (by omega), cond_true, need_yesF ⟨by omega, by omega⟩, need_yesF ⟨by omega, by omega⟩, same_eq, Option.bind_some, decide_eq_true rfl, ew]
    rfl
  · dsimp only
    unfold p_dormouselaw43_StatSpreads.b7
    rw [decide_eq_false (by omega), cond_false]
    exact spreads_j1 hl hb
/-- the law, behind its walk -/
theorem law_StatSpreads (l m : List Nat) (okl : okD (.sl (.flt .f64)) l) : p_dormouselaw43_StatSpreads 1000 l m = some true := by
  have hl : Fit l := fun y hy => by
    have h : (Lit.float .f64 y).wf = true := okl.2 y hy
    simpa [Lit.wf] using h
  have ht : p_dormouselaw43_StatSpreads.j0 1000 l m true = some true := by
    unfold p_dormouselaw43_StatSpreads.j0
    rw [cond_true, awake43]; rfl
  unfold p_dormouselaw43_StatSpreads joinC
  dsimp only
  by_cases h : l.length ≤ 60
  · rw [decide_eq_false (by omega), cond_false]
    by_cases h2 : m.length ≤ 60
    · rw [decide_eq_false (by omega)]
      exact spreads_j0 hl h
    · rw [decide_eq_true (by omega)]
      exact ht
  · rw [decide_eq_true (by omega), cond_true]
    exact ht
end Go.Dor
end

section
/- StatReplies, BEHIND ITS WALK. -/
set_option linter.unusedVariables false
set_option linter.unusedSimpArgs false
namespace Go.Dor
open Go.Proofs

abbrev Rp2 := Int × List UInt8
def LN (l : List Rp2) : List Nat := (l.filter fun r => r.1 == 0).map fun r => flNear .f64 (r.2.length : Int)
theorem fil_take {α : Type} {p : α → Bool} {l : List α} {i : Nat} (hi : i < l.length) : (l.take (i + 1)).filter p = (l.take i).filter p ++ (if p l[i] then [l[i]] else []) := by
  rw [List.take_succ_eq_append_getElem hi, List.filter_append]
  congr 1
  cases h : p l[i] <;> simp [h]
theorem fil_get {α : Type} {p : α → Bool} {l : List α} {i : Nat} (hi : i < l.length) (h : p l[i] = true) : (l.filter p)[((l.take i).filter p).length]? = some l[i] := by
  have e : l = l.take i ++ (l[i] :: l.drop (i + 1)) := by rw [← List.drop_eq_getElem_cons hi, List.take_append_drop]
  have e2 : l.filter p = (l.take i).filter p ++ (l[i] :: (l.drop (i + 1)).filter p) := by
    conv => lhs; rw [e]
    rw [List.filter_append, List.filter_cons, if_pos h]
  rw [e2, List.getElem?_append_right (Nat.le_refl _), Nat.sub_self]
  rfl
theorem lengths_eq {l : List Rp2} (hb : l.length ≤ 60) : p_stat_Lengths 1000 l = some (LN l) := by
  unfold p_stat_Lengths joinC
  refine loop_count (body := fun (r : List (Int × List UInt8) × Int × Int × List Nat → Option (List Nat)) y => p_stat_Lengths.b1 1000 (p_stat_Lengths.j0 1000) r y.1 y.2.1 y.2.2.1 y.2.2.2) l.length 1000 (fun i => (l, (l.length : Int), (i : Int), LN (l.take i))) (by omega) (fun i hi rec => ?_) (fun rec => ?_)
  · dsimp only
    unfold p_stat_Lengths.b1 p_stat_Lengths.j2 joinC
    dsimp only
    have ew : IntKind.wrap .i64 ((i : Int) + 1) = ((i + 1 : Nat) : Int) := by rw [wrap_i64 (by omega)]; omega
    rw [decide_eq_true (by omega), cond_true, need_yesF ⟨by omega, by omega⟩, at_getF hi, ew]
    have hlen : (LN (l.take i)).length ≤ 60 := by
      unfold LN
      rw [List.length_map]
      have a1 := List.length_filter_le (fun r : Rp2 => r.1 == 0) (l.take i)
      rw [List.length_take] at a1
      omega
    have hn : LN (l.take (i + 1)) = LN (l.take i) ++ (if l[i].1 == 0 then [flNear .f64 (l[i].2.length : Int)] else []) := by
      unfold LN
      rw [fil_take hi, List.map_append]
      cases h : (l[i].1 == 0) <;> simp [h]
    rw [hn]
    cases h : (l[i].1 == 0)
    · simp only [cond_false, Bool.false_eq_true, if_false, List.append_nil]
    · simp only [cond_true, if_true]
      rw [need_yesF (by simp only [List.length_cons, List.length_nil]; omega)]
  · dsimp only
    unfold p_stat_Lengths.b1 p_stat_Lengths.j0
    rw [decide_eq_false (by omega), cond_false, List.take_length]
def cnt (l : List Rp2) (e : Int) : Nat := (l.filter fun r => r.1 == e).length
theorem cnt_le (l : List Rp2) (e : Int) : cnt l e ≤ l.length := List.length_filter_le _ _
theorem cnt_take {l : List Rp2} {e : Int} {i : Nat} (hi : i < l.length) : cnt (l.take (i + 1)) e = cnt (l.take i) e + (if l[i].1 == e then 1 else 0) := by
  unfold cnt
  rw [fil_take hi, List.length_append]
  cases h : (l[i].1 == e) <;> simp [h]
theorem count_eq {l : List Rp2} {e : Int} (hb : l.length ≤ 60) : p_dormouseref43_Count 1000 l e = some (cnt l e : Int) := by
  unfold p_dormouseref43_Count joinC
  refine loop_count (body := fun (r : List (Int × List UInt8) × Int × Int × Int → Option Int) y => p_dormouseref43_Count.b1 1000 (p_dormouseref43_Count.j0 1000) r y.1 y.2.1 y.2.2.1 y.2.2.2) l.length 1000 (fun i => (l, e, (cnt (l.take i) e : Int), (i : Int))) (by omega) (fun i hi rec => ?_) (fun rec => ?_)
  · dsimp only
    unfold p_dormouseref43_Count.b1 p_dormouseref43_Count.j2 joinC
    dsimp only
    have ew : IntKind.wrap .i64 ((i : Int) + 1) = ((i + 1 : Nat) : Int) := by rw [wrap_i64 (by omega)]; omega
    have hc := cnt_le (l.take i) e
    rw [List.length_take] at hc
    have ew2 : IntKind.wrap .i64 ((cnt (l.take i) e : Int) + 1) = ((cnt (l.take i) e + 1 : Nat) : Int) := by rw [wrap_i64 (by omega)]; omega
    rw [decide_eq_true (by omega), cond_true, need_yesF ⟨by omega, by omega⟩, at_getF hi, ew, ew2, cnt_take hi]
    cases h : (l[i].1 == e) <;> simp
  · dsimp only
    unfold p_dormouseref43_Count.b1 p_dormouseref43_Count.j0
    rw [decide_eq_false (by omega), cond_false, List.take_length]
theorem statShare_eq {l : List Rp2} {e : Int} (hb : l.length ≤ 60) : p_stat_Share 1000 l e = p_gauge_Share (flNear .f64 (cnt l e : Int)) (flNear .f64 (l.length : Int)) := by
  unfold p_stat_Share joinC
  refine loop_count (body := fun (r : List (Int × List UInt8) × Int × Int × List (Int × List UInt8) × Int × Int → Option Nat) y => p_stat_Share.b1 1000 (fun y => p_stat_Share.j0 1000 y.1 y.2) r y.1 y.2.1 y.2.2.1 y.2.2.2.1 y.2.2.2.2.1 y.2.2.2.2.2) l.length 1000 (fun i => (l, e, (cnt (l.take i) e : Int), l, (l.length : Int), (i : Int))) (by omega) (fun i hi rec => ?_) (fun rec => ?_)
  · dsimp only
    unfold p_stat_Share.b1 p_stat_Share.j2 joinC
    dsimp only
    have ew : IntKind.wrap .i64 ((i : Int) + 1) = ((i + 1 : Nat) : Int) := by rw [wrap_i64 (by omega)]; omega
    have hc := cnt_le (l.take i) e
    rw [List.length_take] at hc
    have ew2 : IntKind.wrap .i64 ((cnt (l.take i) e : Int) + 1) = ((cnt (l.take i) e + 1 : Nat) : Int) := by rw [wrap_i64 (by omega)]; omega
    rw [decide_eq_true (by omega), cond_true, need_yesF ⟨by omega, by omega⟩, at_getF hi, ew, ew2, cnt_take hi]
    cases h : (l[i].1 == e) <;> simp
  · dsimp only
    unfold p_stat_Share.b1 p_stat_Share.j0
    rw [decide_eq_false (by omega), cond_false, List.take_length]
    dsimp only
    cases p_gauge_Share (flNear .f64 (cnt l e : Int)) (flNear .f64 (l.length : Int)) <;> rfl
theorem near_fv {n : Nat} (h : n ≤ 60) : flNear .f64 (n : Int) < 18446744073709551616 ∧ fv (flNear .f64 (n : Int)) = (flNear .f64 (n : Int) : Int) ∧ isF (flNear .f64 (n : Int)) := by
  obtain ⟨h1, h2, h3⟩ := near60 h
  refine ⟨by omega, (fv_word (by omega)).2, ?_⟩
  unfold isF
  have : rg (flNear .f64 (n : Int)) = flNear .f64 (n : Int) := Nat.mod_eq_of_lt (by omega)
  rw [this]; exact h1
/-- a share of so many of so many, on both sides -/
theorem is_share {a b : Nat} (ha : a ≤ b) (hb : b ≤ 60) : ∃ s, p_gauge_Share (flNear .f64 (a : Int)) (flNear .f64 (b : Int)) = some s ∧ p_dormouseref29_Is s (a : Int) (b : Int) = some true := by
  obtain ⟨a1, a2, a3⟩ := near_fv (n := a) (by omega)
  obtain ⟨b1, b2, b3⟩ := near_fv (n := b) hb
  have a4 := (near60 (n := a) (by omega)).2.2
  have b4 := (near60 (n := b) hb).2.2
  have bI : ¬ isI (flNear .f64 (b : Int)) := by unfold isI isF at *; omega
  have sh := share_some (near_notN (a : Int)) (near_notN (b : Int)) (by omega) (by omega) bI
  have za : (if fv (flNear .f64 (a : Int)) = 0 then 0 else flNear .f64 (a : Int)) = flNear .f64 (a : Int) := by
    by_cases q : fv (flNear .f64 (a : Int)) = 0
    · rw [if_pos q]; omega
    · rw [if_neg q]
  have zb : (if fv (flNear .f64 (b : Int)) = 0 then 0 else flNear .f64 (b : Int)) = flNear .f64 (b : Int) := by
    by_cases q : fv (flNear .f64 (b : Int)) = 0
    · rw [if_pos q]; omega
    · rw [if_neg q]
  rw [za, zb] at sh
  have is_ : ∀ s, p_dormouseref29_Share (a : Int) (b : Int) = some (s, true) → p_dormouseref29_Is s (a : Int) (b : Int) = some true := by
    intro s h
    unfold p_dormouseref29_Is p_dormouseref29_Is.j0 joinC
    rw [h, Option.bind_some]
    simp only [same_eq, cond_true, Option.bind_some, decide_true]
  have neg : (decide ((a : Int) < 0)) = false ∧ decide ((b : Int) < 0) = false := ⟨decide_eq_false (by omega), decide_eq_false (by omega)⟩
  by_cases h0 : b = 0
  · have ha0 : a = 0 := by omega
    subst h0 ha0
    refine ⟨0, ?_, is_ 0 ?_⟩
    · rw [sh, if_pos ⟨by omega, by omega⟩]
    · unfold p_dormouseref29_Share p_dormouseref29_Share.j0 p_dormouseref29_Share.j1 joinC
      rfl
  · have pb : 0 < fv (flNear .f64 (b : Int)) := by omega
    have hz : ∃ q, flOp 3 .f64 (flNear .f64 (a : Int)) (flNear .f64 (b : Int)) = some q := by
      by_cases ha0 : a = 0
      · obtain ⟨q, h1, _⟩ := quo_zero (z := flNear .f64 (a : Int)) (.inl (a4.2 ha0)) b1 pb b3
        exact ⟨q, h1⟩
      · obtain ⟨q, h1, _⟩ := quo_fin a1 (by omega) a3 b1 pb b3
        exact ⟨q, h1⟩
    obtain ⟨q, hq⟩ := hz
    refine ⟨q, ?_, is_ q ?_⟩
    · rw [sh, if_neg (fun k => by omega), hq]
    · unfold p_dormouseref29_Share p_dormouseref29_Share.j0 p_dormouseref29_Share.j1 joinC
      dsimp only
      have e : ((b : Int) == 0) = false := beq_eq_false_iff_ne.2 (by omega)
      rw [neg.1, neg.2, hq, e]
      cases ((a : Int) == 0) <;> rfl
theorem replies_j1 {l : List Rp2} {e : Int} (hb : l.length ≤ 60) : p_dormouselaw43_StatReplies.j1 1000 l e ((LN l).length : Int) (LN l) = some true := by
  obtain ⟨s, h1, h2⟩ := is_share (cnt_le l e) hb
  unfold p_dormouselaw43_StatReplies.j1 p_dormouselaw43_StatReplies.j2 joinC
  dsimp only
  rw [awake43, statShare_eq hb, h1, count_eq hb]
  simp only [Option.bind_some, cond_true, beq_self_eq_true, h2]
theorem replies_j0 {l : List Rp2} {e : Int} (hb : l.length ≤ 60) : p_dormouselaw43_StatReplies.j0 1000 l e = some true := by
  unfold p_dormouselaw43_StatReplies.j0 joinC
  rw [lengths_eq hb, Option.bind_some]
  refine loop_count (body := fun (r : List (Int × List UInt8) × Int × Int × Int × List Nat → Option Bool) y => p_dormouselaw43_StatReplies.b3 1000 (fun y => p_dormouselaw43_StatReplies.j1 1000 y.1 y.2.1 y.2.2.1 y.2.2.2) r y.1 y.2.1 y.2.2.1 y.2.2.2.1 y.2.2.2.2) l.length 1000 (fun i => (l, e, ((LN (l.take i)).length : Int), (i : Int), LN l)) (by omega) (fun i hi rec => ?_) (fun rec => ?_)
  · dsimp only
    unfold p_dormouselaw43_StatReplies.b3 p_dormouselaw43_StatReplies.j4 p_dormouselaw43_StatReplies.j5 joinC
    dsimp only
    have hk : ∀ j, (LN (l.take j)).length = cnt (l.take j) 0 := fun j => by unfold LN cnt; rw [List.length_map]
    have hc := cnt_le (l.take i) 0
    rw [List.length_take] at hc
    have ew : IntKind.wrap .i64 ((i : Int) + 1) = ((i + 1 : Nat) : Int) := by rw [wrap_i64 (by omega)]; omega
    have ew2 : IntKind.wrap .i64 ((cnt (l.take i) 0 : Int) + 1) = ((cnt (l.take i) 0 + 1 : Nat) : Int) := by rw [wrap_i64 (by omega)]; omega
    rw [decide_eq_true (by omega), cond_true, need_yesF ⟨by omega, by omega⟩, at_getF hi, hk, hk, cnt_take hi, ew, ew2]
    have hbn : (l[i].1 != 0) = !(l[i].1 == 0) := rfl
    rw [hbn]
    cases h : (l[i].1 == 0)
    · simp
    · have hg := fil_get (p := fun r : Rp2 => r.1 == 0) hi h
      have hg2 : (LN l)[cnt (l.take i) 0]? = some (flNear .f64 (l[i].2.length : Int)) := by
        unfold LN cnt
        rw [List.getElem?_map, hg]; rfl
      obtain ⟨hlt, hg3⟩ := List.getElem?_eq_some_iff.1 hg2
      simp only [Bool.not_true, cond_false, if_true]
      rw [decide_eq_false (by omega), cond_false, need_yesF ⟨by omega, by omega⟩, need_yesF ⟨by omega, by omega⟩, at_getF hlt, hg3, self_eq, decide_eq_false (near_notN _)]
      rfl
  · dsimp only
    unfold p_dormouselaw43_StatReplies.b3
    rw [decide_eq_false (by omega), cond_false, List.take_length]
    exact replies_j1 hb
/-- the law, behind its walk -/
theorem law_StatReplies (l : List (Int × List UInt8)) (e : Int) : p_dormouselaw43_StatReplies 1000 l e = some true := by
  unfold p_dormouselaw43_StatReplies joinC
  dsimp only
  by_cases h : l.length ≤ 60
  · rw [decide_eq_false (by omega), cond_false]
    exact replies_j0 h
  · rw [decide_eq_true (by omega), cond_true, need_yesF ⟨by omega, by omega, by omega⟩]
    have e : sub_ l (0 : Int) (60 : Int) = l.take 60 := sub_takeF l 60
    rw [e]
    exact replies_j0 (by rw [List.length_take]; omega)
end Go.Dor
end

section
/- StatReplies AT EVERY INPUT: true; each argument reads behind the call as it read before. No condition but the row's own. -/
namespace Go.Proofs.Ytaglmapfcjbcfaa
open Go.ChangeShapes Go.WideShapes Go.ChangeAt Go.RowKit

theorem statReplies_ownNone : ownKnob Try.prog.godebug = none := by kernel_rfl
theorem statReplies_laidOk : laidOutB Try.prog = true := by kernel_rfl
set_option maxRecDepth 100000 in
theorem statReplies_lifted (os : Os) (started : os.Started) (H : Type) (enc : TypeId × Value → H) :
    ReturnsInHanded {} Try.checked os 3 .any (Rows.statRepliesSpec.pre6 enc Try.prog Try.f3 Rows.statRepliesRow.domain false) (Rows.statRepliesSpec.post enc Try.prog Try.f3 false true false false) := by
  refine returnsInHanded_of_change_sized (C := Try.checked) statReplies_ownNone started (by kernel_rfl) Try.func3
    (ChangeSpec.witness6 (enc := enc) (C := Try.checked) false ⟨#[], #[.slice none 0 0, .int .i64 0], []⟩ 8 (by kernel_rfl) (by kernel_rfl) (by kernel_rfl) (by kernel_rfl)) ?_
  intro W base args ds gs before hval0 hW _ _ _
  have hval : ∀ (j : Nat) t v, Try.f3.params[j]? = some t → args[j]? = some v → Value.okWide Try.prog W .any base t v := hval0
  have hW' := hW
  obtain ⟨p, q, hA0, hV, rfl, _, _⟩ := hW
  have hA : DataW.TrodAll enc Try.prog W 0 (fun _ => true) true Try.f3.params.toList args.toList ds p := hA0
  have hA2 := hA
  rw [Try.params3] at hA hval
  obtain ⟨rfl, rfl⟩ := trodVars_none hV
  simp only [List.append_nil] at hW'
  have hlt : ∀ x ∈ p, x.block < W.heap.size := fun x hx => by simpa using hW'.lt x hx
  obtain ⟨v0, v1, d0, d1, p0, p1, rfl, rfl, rfl, h0, h1⟩ := trodAll_two hA
  obtain ⟨a0, r0, k0⟩ := Dor.arg_rv (c := .sl (.pair (.int .i64) .str)) (by kernel_rfl) h0 (by kernel_rfl) (by kernel_rfl) (hval 0 _ v0 rfl rfl)
  obtain ⟨a1, r1, k1⟩ := Dor.arg_rv (c := .int .i64) (by kernel_rfl) h1 (by kernel_rfl) (by kernel_rfl) (hval 1 _ v1 rfl rfl)
  have hk := Dor.law_StatReplies a0 a1
  refine (Dor.law_calls (Dor.s_dormouselaw43_StatReplies 1000) (vals := [v0, v1]) (x := (a0, a1)) (w := W) ⟨r0, r1, trivial⟩ hk).mono fun e W' ⟨he, hnx⟩ => ⟨_, he, ?_⟩
  refine ⟨_, _, _, [] ++ [], p0 ++ p1, [], hW', trodAll_mk1 (shut_bool (by kernel_rfl) true), ?_, rfl, hnx.frame _, fun h => by cases h⟩
  exact Dor.trodAll_stays statReplies_laidOk hnx (by decide +kernel) hA2 hlt

theorem statReplies_holds : Rows.StatRepliesSaid :=
  OpenClaim.holds_of_wide 3 Try.f3 rfl rfl rfl rfl rfl rfl rfl ⟨rfl, rfl, rfl, rfl, rfl⟩ rfl rfl rfl rfl rfl (by kernel_rfl) Try.func3 (by kernel_rfl)
    (of_decide_eq_true (by kernel_rfl)) (by unfold Func.isWrapper; first | (rw [if_pos (by decide +kernel)]; kernel_rfl) | (rw [if_neg (by decide +kernel)]; exact ⟨rfl, rfl⟩))
    (fun os started H enc _ => statReplies_lifted os started H enc)

end Go.Proofs.Ytaglmapfcjbcfaa
end
