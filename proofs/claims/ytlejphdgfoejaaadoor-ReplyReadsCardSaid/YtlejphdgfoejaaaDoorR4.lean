/- ReplyReads AT EVERY INPUT: true; each argument reads behind the call as it read before. No condition but the row's own. -/
import Derived.Test.YtlejphdgfoejaaaDoorRows
import Derived.Test.YtlejphdgfoejaaaDoorPf
import Derived.Test.YtlejphdgfoejaaaDoorZm
import Derived.ProofKit
import Derived.SizedLaws
import Derived.ChangeSame
import Derived.ChangeVars
import Derived.JoinedOf
import Derived.LaidLaws
import Derived.LaidHandle
import Derived.Lib.LaidIn
import Derived.Handed
import Derived.Test.YtlejphdgfoejaaaDoorTie
import Derived.Test.YtlejphdgfoejaaaDoorCards
import Derived.SevenTiedAt
namespace Go.Proofs.YtlejphdgfoejaaaDoor
open Go.ChangeShapes Go.WideShapes Go.ChangeAt Go.RowKit

theorem replyReads_ownNone : ownKnob Tryd.prog.godebug = none := by kernel_rfl
theorem replyReads_laidOk : laidOutB Tryd.prog = true := by kernel_rfl
/-- A world that meets the condition: the listed variables' cells laid. -/
noncomputable def replyReads_laidWorld (os : Os) : World :=
  let w0 := World.holding Tryd.prog os ⟨#[], #[], []⟩
  let put (h : Array Obj) (g : Nat) (cs : Array Value) : Array Obj := h.modify g fun
    | .cells _ t frozen => .cells cs t frozen
    | o => o
  let h1 := put w0.heap 1 (Go.Pinned.utf8FirstZ.map fun (z : Nat) => Value.int .u8 (z : Int)).toArray
  let h2 := put h1 2 (([128, 191, 160, 191, 128, 159, 144, 191, 128, 143, 0, 0, 0, 0, 0, 0, 0, 0, 0, 0, 0, 0, 0, 0, 0, 0, 0, 0, 0, 0, 0, 0] : List Int).map fun z => Value.int .u8 z).toArray
  { w0 with heap := h2 }
set_option maxRecDepth 100000 in
theorem replyReads_laid_met (os : Os) (args : Array Value) : laidMet Tryd.prog Rows.replyReadsRow.laid ((replyReads_laidWorld os).forCall (fun _ _ => 0) ⟨#[], args, []⟩).memory :=
  (LaidIn.of_run [1, 2] 8 (by kernel_rfl) (by kernel_rfl) (by kernel_rfl) (by kernel_rfl)).met
set_option maxRecDepth 100000 in
theorem replyReads_laidWorld_met (os : Os) (args : Array Value) : laidMetH Tryd.prog Rows.replyReadsRow.laid ((replyReads_laidWorld os).forCall (fun _ _ => 0) ⟨#[], args, []⟩).memory :=
  replyReads_laid_met os args
set_option maxRecDepth 100000 in
theorem replyReads_lifted (os : Os) (started : os.Started) (H : Type) (enc : TypeId × Value → H) :
    ReturnsInHanded {} Tryd.checked os 4 .any (fun w args => (Rows.replyReadsSpec.pre enc Tryd.prog Tryd.f4 [] false w args ∧ laidMetH Tryd.prog Rows.replyReadsRow.laid w) ∧ sizedMet enc Tryd.prog Tryd.f4 (OpenSpec.ofChange Rows.replyReadsSpec) false w args) (Rows.replyReadsSpec.post enc Tryd.prog Tryd.f4 false true false false) := by
  refine returnsInHanded_of_change_and (C := Tryd.checked) (X := fun w _ => laidMetH Tryd.prog Rows.replyReadsRow.laid w) (fun _ _ _ hh h => h.of_heap hh) replyReads_ownNone started (by kernel_rfl) Tryd.func4
    (ChangeSpec.witness_at (enc := enc) (C := Tryd.checked) (os := os) (X := fun w _ => laidMetH Tryd.prog Rows.replyReadsRow.laid w) false (replyReads_laidWorld os) #[.string ⟨#[]⟩] 8 rfl (by kernel_rfl) (by kernel_rfl) (by kernel_rfl) (by kernel_rfl) (by kernel_rfl) (replyReads_laidWorld_met os _)) ?_
  intro W base args ds gs before hval0 hW _ _ _ _
  have hval : ∀ (j : Nat) t v, Tryd.f4.params[j]? = some t → args[j]? = some v → Value.okWide Tryd.prog W .any base t v := hval0
  have hW' := hW
  obtain ⟨p, q, hA0, hV, rfl, _, _⟩ := hW
  have hA : DataW.TrodAll enc Tryd.prog W 0 (fun _ => true) true Tryd.f4.params.toList args.toList ds p := hA0
  have hA2 := hA
  rw [Tryd.params4] at hA hval
  obtain ⟨rfl, rfl⟩ := trodVars_none hV
  simp only [List.append_nil] at hW'
  have hlt : ∀ x ∈ p, x.block < W.heap.size := fun x hx => by simpa using hW'.lt x hx
  obtain ⟨v0, d0, rfl, rfl, h0⟩ := trodAll_one hA
  obtain ⟨a0, r0, k0⟩ := Dor.arg_rv (c := .str) (by kernel_rfl) h0 (by kernel_rfl) (by kernel_rfl) (hval 0 _ v0 rfl rfl)
  have hk := Dor.law_ReplyReads a0
  refine (Dor.law_calls (Dor.s_dormouselaw39_ReplyReads 2000) (vals := [v0]) (x := a0) (w := W) ⟨r0, trivial⟩ hk).mono fun e W' ⟨he, hnx⟩ => ⟨_, he, ?_⟩
  refine ⟨_, _, _, [] ++ [], p, [], hW', trodAll_mk1 (shut_bool (by kernel_rfl) true), ?_, rfl, hnx.frame _, fun h => by cases h⟩
  exact Dor.trodAll_stays replyReads_laidOk hnx (by decide +kernel) hA2 hlt

theorem replyReads_holds : Rows.ReplyReadsSaid :=
  OpenClaim.holds_of_wide 4 Tryd.f4 rfl rfl rfl rfl rfl rfl rfl ⟨rfl, rfl, rfl, rfl, rfl⟩ rfl rfl rfl rfl rfl (by kernel_rfl) Tryd.func4 (by kernel_rfl)
    (of_decide_eq_true (by kernel_rfl)) (by unfold Func.isWrapper; first | (rw [if_pos (by decide +kernel)]; kernel_rfl) | (rw [if_neg (by decide +kernel)]; exact ⟨rfl, rfl⟩))
    (fun os started H enc _ => replyReads_lifted os started H enc)

theorem replyReads_card : Rows.ReplyReadsCardSaid :=
  Claim7.holds_tied_plain_at .later [] [.data, .pinned] true (true, "a7d258ae0b702be9d261bb6c8bd45ae7ef8974bff8ff2809bc8c206916b8e966") false
    replyReads_holds (fun _ h => by cases h) (by kernel_rfl) (fun _ h => by cases h) replyReads_row_tie rfl ⟨rfl, rfl⟩ (by kernel_rfl) rfl
    (fun f fn hf hfn => by
      obtain rfl : f = 4 := Option.some.inj ((show Tryd.prog.funcNamed "dormouse/dormouselaw39.ReplyReads" = some 4 by kernel_rfl).symm.trans hf) |>.symm
      obtain rfl : fn = Tryd.f4 := (Option.some.inj (Tryd.func4.symm.trans hfn)).symm
      exact ⟨by kernel_rfl, fun j t ht => by
        have h3 : (Tryd.f4.params.toList.all fun t => !Tryd.prog.wantsStandIn t) = true := by kernel_rfl
        have hm : t ∈ Tryd.f4.params.toList := by rw [Array.mem_toList_iff]; exact Array.mem_of_getElem? ht
        exact (show Tryd.prog.wantsStandIn t = false by simpa using List.all_eq_true.1 h3 t hm)⟩)
    (by kernel_rfl)

end Go.Proofs.YtlejphdgfoejaaaDoor
