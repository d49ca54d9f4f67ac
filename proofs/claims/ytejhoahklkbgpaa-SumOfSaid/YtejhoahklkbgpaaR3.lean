/- dormouselaw03.SumOf AT EVERY INPUT: true; each argument reads behind the call as it read before. No condition but the row's own. -/
import Derived.Test.YtejhoahklkbgpaaRows
import Derived.Test.YtejhoahklkbgpaaNi
import Derived.Test.YtejhoahklkbgpaaZl
import Derived.ProofKit
import Derived.SizedLaws
namespace Go.Proofs.Ytejhoahklkbgpaa
open Go.ChangeShapes Go.WideShapes Go.ChangeAt Go.RowKit

theorem Try.ownNone : ownKnob Try.prog.godebug = none := by kernel_rfl
theorem Try.laidOk : laidOutB Try.prog = true := by kernel_rfl

set_option maxRecDepth 100000 in
theorem sumOf_lifted (hp : ∀ x1 x2, ∃ k, Dor.p_dormouselaw03_SumOf k x1 x2 = some true) (os : Os) (started : os.Started) (H : Type) (enc : TypeId × Value → H) :
    ReturnsInHanded {} Try.checked os 3 .any (Rows.sumOfSpec.pre6 enc Try.prog Try.f3 Rows.sumOfRow.domain false) (Rows.sumOfSpec.post enc Try.prog Try.f3 false true false false) := by
  refine returnsInHanded_of_change_sized (C := Try.checked) Try.ownNone started (by kernel_rfl) Try.func3
    (ChangeSpec.witness6 (enc := enc) (C := Try.checked) false ⟨#[], #[.string ByteArray.empty, .slice none 0 0], []⟩ 8 (by kernel_rfl) (by kernel_rfl) (by kernel_rfl) (by kernel_rfl)) ?_
  intro W base args ds gs before hval0 hW _ _ _
  have hval : ∀ (j : Nat) t v, Try.f3.params[j]? = some t → args[j]? = some v → Value.okWide Try.prog W .any base t v := hval0
  have hW' := hW
  obtain ⟨p, q, hA0, hV, rfl, _, _⟩ := hW
  have hA : DataW.TrodAll enc Try.prog W 0 (fun _ => true) true Try.f3.params.toList args.toList ds p := hA0
  have hA2 := hA
  rw [Try.params3] at hA hval
  obtain ⟨rfl, rfl⟩ := trodVars_none hV
  simp only [List.append_nil] at hW'
  have hlt : ∀ x ∈ p, x.block < W.heap.size := fun x hx => by simpa using hW'.lt x hx
  obtain ⟨v0, v1, d0, d1, p0, p1, rfl, rfl, rfl, h0, h1⟩ := trodAll_two hA
  obtain ⟨a0, r0⟩ := Dor.arg_at h0 (c := .str) (by kernel_rfl) (by kernel_rfl)
  obtain ⟨a1, r1⟩ := Dor.arg_at h1 (c := .sl .str) (by kernel_rfl) (by kernel_rfl)
  obtain ⟨s0, rfl⟩ := okWide_string (by kernel_rfl) (hval 0 _ v0 rfl rfl)
  obtain ⟨x, y, z, rfl⟩ := okWide_slice (e := 9) (by kernel_rfl) (hval 1 _ v1 rfl rfl)
  obtain ⟨k, hk⟩ := hp a0 a1
  refine (Dor.law_calls (Dor.s_dormouselaw03_SumOf k) (vals := [.string s0, .slice x y z]) (x := (a0, a1)) (w := W) ⟨r0, r1, trivial⟩ hk).mono fun e W' ⟨he, hnx⟩ => ⟨_, he, ?_⟩
  refine ⟨_, _, _, [] ++ [], p0 ++ p1, [], hW', trodAll_mk1 (shut_bool (by kernel_rfl) true), ?_, rfl, hnx.frame _, fun h => by cases h⟩
  exact Dor.trodAll_stays Try.laidOk hnx (by decide +kernel) hA2 hlt

theorem sumOf_of (hp : ∀ x1 x2, ∃ k, Dor.p_dormouselaw03_SumOf k x1 x2 = some true) : Rows.SumOfSaid :=
  OpenClaim.holds_of_wide 3 Try.f3 rfl rfl rfl rfl rfl rfl rfl ⟨rfl, rfl, rfl, rfl, rfl⟩ rfl rfl rfl rfl rfl (by kernel_rfl) Try.func3 (by kernel_rfl)
    (of_decide_eq_true (by kernel_rfl)) (by unfold Func.isWrapper; first | (rw [if_pos (by decide +kernel)]; kernel_rfl) | (rw [if_neg (by decide +kernel)]; exact ⟨rfl, rfl⟩))
    (fun os started H enc _ => sumOf_lifted hp os started H enc)

theorem sumOf_holds : Rows.SumOfSaid := sumOf_of fun x1 x2 => ⟨1000, Dor.law_SumOf x1 x2⟩

end Go.Proofs.Ytejhoahklkbgpaa
