/- THE LAW OF SUMS, plain. -/
import Derived.Test.YtejhoahklkbgpaaNh
namespace Go.Dor
open Go.Proofs

set_option maxRecDepth 100000 in
theorem awake03 : p_dormouselaw03_awake 1000 = some true := by kernel_rfl

/-- a loop that keeps P and comes nearer to its end -/
theorem loop_inv {α β : Type} {body : (α → Option β) → α → Option β} (P : α → Prop) (m : α → Nat) (Q : Option β → Prop)
    (step : ∀ s, P s → ∀ rec, (∀ s', P s' → m s' < m s → Q (rec s')) → Q (body rec s)) : ∀ k s, P s → m s < k → Q (loopC body k s)
  | k + 1, s, hp, hk => by
    show Q (body (loopC body k) s)
    exact step s hp _ fun s' hp' hm => loop_inv P m Q step k s' hp' (by omega)

theorem law_SumOf (s : List UInt8) (l : List (List UInt8)) : p_dormouselaw03_SumOf 1000 s l = some true := by
  unfold p_dormouselaw03_SumOf joinC
  have haw := awake03
  by_cases h1 : (s.length : Int) > 300
  · have e1 : decide ((s.length : Int) > 300) = true := by simpa using h1
    dsimp only
    rw [e1, cond_true]
    unfold p_dormouselaw03_SumOf.j0
    rw [cond_true, haw]; rfl
  · have e1 : decide ((s.length : Int) > 300) = false := by simpa using h1
    dsimp only
    rw [e1, cond_false]
    unfold p_dormouselaw03_SumOf.j0
    by_cases h2 : (l.length : Int) > 6
    · have e2 : decide ((l.length : Int) > 6) = true := by simpa using h2
      rw [e2, cond_true, haw]; rfl
    · have e2 : decide ((l.length : Int) > 6) = false := by simpa using h2
      rw [e2, cond_false]
      unfold joinC
      refine loop_inv (fun y => ∃ i : Nat, i ≤ l.length ∧ y = (s, l, joinB (l.take i), (i : Int)) ∧ ∀ x ∈ l.take i, x.length ≤ 60) (fun y => l.length - y.2.2.2.toNat) (fun r => r = some true) ?_ 1000 _ ⟨0, by omega, rfl, by simp⟩ ?_
      · rintro y ⟨i, hi, rfl, hx⟩ rec hrec
        dsimp only
        have hb := joinB_len (B := 60) (l.take i) hx
        have hb2 : (joinB (l.take i)).length ≤ 384 := by
          rw [List.length_take] at hb
          have : min i l.length * (60 + 4) ≤ 6 * (60 + 4) := Nat.mul_le_mul_right _ (by omega)
          omega
        unfold p_dormouselaw03_SumOf.b3
        by_cases hil : i < l.length
        · have e3 : decide ((i : Int) < (l.length : Int)) = true := by simpa using hil
          rw [e3, cond_true, need_yes (by omega), at_getN hil]
          by_cases h6 : (l[i].length : Int) > 60
          · have e4 : decide ((l[i].length : Int) > 60) = true := by simpa using h6
            rw [e4, cond_true, haw]; rfl
          · have e4 : decide ((l[i].length : Int) > 60) = false := by simpa using h6
            rw [e4, cond_false, need_yes (by omega), refText_eq (by omega) (by omega), Option.bind_some, need_yes (by rw [lenB_len]; omega), ← joinB_take hil, wrap_i64 (by omega)]
            refine hrec _ ⟨i + 1, hil, rfl, ?_⟩ ?_
            · intro x hx'
              rw [List.take_succ_eq_append_getElem hil, List.mem_append, List.mem_singleton] at hx'
              rcases hx' with hx' | rfl
              · exact hx x hx'
              · omega
            · show l.length - ((i : Int) + 1).toNat < l.length - (i : Int).toNat
              omega
        · have hie : i = l.length := by omega
          subst hie
          have e3 : decide ((l.length : Int) < (l.length : Int)) = false := by simp
          rw [List.take_length] at hx hb2 ⊢
          rw [e3, cond_false]
          dsimp only
          unfold p_dormouselaw03_SumOf.j1 joinC
          rw [haw]
          dsimp only
          unfold p_sum_Parts
          rw [Option.bind_some, cond_true, Of_eq (by omega) (by omega) (by omega), Option.bind_some, sumText_eq (sumN_len s), Option.bind_some, refOf_eq (by omega) (by omega) (by omega), Option.bind_some, Texts_eq (by omega) (by omega) (by omega) (fun x h => by have := hx x h; omega), Option.bind_some, Of_eq (by omega) (by omega) (by omega), Option.bind_some, Option.bind_some, refSum_eq (by omega) (by omega) (by omega), Option.bind_some]
          have eq : (byl (sumN s) == byl (sumN s)) = true := by simp
          rw [eq, cond_true]
          unfold p_dormouselaw03_SumOf.j2
          simp
      · show l.length - (0 : Int).toNat < 1000
        omega
end Go.Dor
