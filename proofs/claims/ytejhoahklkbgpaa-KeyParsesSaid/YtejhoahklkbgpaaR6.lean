/- KeyParses AT EVERY INPUT: true; each argument reads behind the call as it read before. No condition but the row's own. -/
import Derived.Test.YtejhoahklkbgpaaRows
import Derived.Test.YtejhoahklkbgpaaNl
import Derived.Test.YtejhoahklkbgpaaZm
import Derived.ProofKit
import Derived.SizedLaws
namespace Go.Proofs.Ytejhoahklkbgpaa
open Go.ChangeShapes Go.WideShapes Go.ChangeAt Go.RowKit

theorem keyParses_ownNone : ownKnob Try.prog.godebug = none := by kernel_rfl
theorem keyParses_laidOk : laidOutB Try.prog = true := by kernel_rfl
set_option maxRecDepth 100000 in
theorem keyParses_lifted (os : Os) (started : os.Started) (H : Type) (enc : TypeId × Value → H) :
    ReturnsInHanded {} Try.checked os 6 .any (Rows.keyParsesSpec.pre6 enc Try.prog Try.f6 Rows.keyParsesRow.domain false) (Rows.keyParsesSpec.post enc Try.prog Try.f6 false true false false) := by
  refine returnsInHanded_of_change_sized (C := Try.checked) keyParses_ownNone started (by kernel_rfl) Try.func6
    (ChangeSpec.witness6 (enc := enc) (C := Try.checked) false ⟨#[], #[.string ByteArray.empty], []⟩ 8 (by kernel_rfl) (by kernel_rfl) (by kernel_rfl) (by kernel_rfl)) ?_
  intro W base args ds gs before hval0 hW _ _ _
  have hval : ∀ (j : Nat) t v, Try.f6.params[j]? = some t → args[j]? = some v → Value.okWide Try.prog W .any base t v := hval0
  have hW' := hW
  obtain ⟨p, q, hA0, hV, rfl, _, _⟩ := hW
  have hA : DataW.TrodAll enc Try.prog W 0 (fun _ => true) true Try.f6.params.toList args.toList ds p := hA0
  have hA2 := hA
  rw [Try.params6] at hA hval
  obtain ⟨rfl, rfl⟩ := trodVars_none hV
  simp only [List.append_nil] at hW'
  have hlt : ∀ x ∈ p, x.block < W.heap.size := fun x hx => by simpa using hW'.lt x hx
  obtain ⟨v0, d0, rfl, rfl, h0⟩ := trodAll_one hA
  obtain ⟨a0, r0, k0⟩ := Dor.arg_rv (c := .str) (by kernel_rfl) h0 (by kernel_rfl) (by kernel_rfl) (hval 0 _ v0 rfl rfl)
  have hk := Dor.law_KeyParses a0
  refine (Dor.law_calls (Dor.s_dormouselaw16_KeyParses 1000) (vals := [v0]) (x := a0) (w := W) ⟨r0, trivial⟩ hk).mono fun e W' ⟨he, hnx⟩ => ⟨_, he, ?_⟩
  refine ⟨_, _, _, [] ++ [], p, [], hW', trodAll_mk1 (shut_bool (by kernel_rfl) true), ?_, rfl, hnx.frame _, fun h => by cases h⟩
  exact Dor.trodAll_stays keyParses_laidOk hnx (by decide +kernel) hA2 hlt

theorem keyParses_holds : Rows.KeyParsesSaid :=
  OpenClaim.holds_of_wide 6 Try.f6 rfl rfl rfl rfl rfl rfl rfl ⟨rfl, rfl, rfl, rfl, rfl⟩ rfl rfl rfl rfl rfl (by kernel_rfl) Try.func6 (by kernel_rfl)
    (of_decide_eq_true (by kernel_rfl)) (by unfold Func.isWrapper; first | (rw [if_pos (by decide +kernel)]; kernel_rfl) | (rw [if_neg (by decide +kernel)]; exact ⟨rfl, rfl⟩))
    (fun os started H enc _ => keyParses_lifted os started H enc)

end Go.Proofs.Ytejhoahklkbgpaa
