/- AN ARGUMENT OF A LAW, as data of its type: numbers fit, the value reads as the data. -/
import Derived.Test.YtlejphdgfoejaaaDoorZl
import Derived.WideShapes
namespace Go.Dor
section
variable {H : Type} {enc' : TypeId × Value → H} {P : Program} {w : World}

def vOf : (c : T) → den c → V
  | .int k, n => .one (.i k n)
  | .bool, x => .one (.b x)
  | .str, l => .one (.s l)
  | .flt k, n => .one (.f k n)
  | .sl e, xs => .one (.ro e xs)
  | .unit, x => .ag (enc .unit x)
  | .pair a b, x => .ag (enc (.pair a b) x)
  | .arr n e, x => .ag (enc (.arr n e) x)

def aggT : T → Bool
  | .unit | .pair .. | .arr .. => true
  | _ => false

theorem okWide_agg {t : TypeId} {r : Reach} {base : Nat} {v : Value} (hv : Value.okWide P w r base t v) (hg : (∃ fs, P.underlying t = some (.struct fs)) ∨ ∃ m e, P.underlying t = some (.array m e)) : ∃ cs, v = .agg cs := by
  rcases hg with ⟨fs, hg⟩ | ⟨m, e, hg⟩ <;>
  · simp only [Value.okWide, hg] at hv
    obtain ⟨cs, h1, _⟩ := hv
    exact ⟨cs, h1⟩

theorem one_cells {v : Value} (h : ∀ cs, v ≠ .agg cs) : v.cells.toList = [v] := by
  cases v <;> first | rfl | exact absurd rfl (h _)

theorem arg_rv {t : TypeId} {v : Value} {d : DataW H} {p : List MemPlace} {c : T} (hag : (match P.underlying t with | some (.struct _) | some (.array _ _) => true | _ => false) = aggT c)
    (h : DataW.Trod enc' P w 0 (fun _ => true) true t v d p) (hc : codeT P depth t = some c) (ht : tiled P depth t = true) {r : Reach} {base : Nat} (hv : Value.okWide P w r base t v) : ∃ a : den c, Rv (m0 w) (vOf c a) v ∧ okD c a := by
  obtain ⟨a, ha, hk⟩ := arg_ok h hc ht
  refine ⟨a, ?_, hk⟩
  cases hx : aggT c with
  | true =>
    rw [hx] at hag
    have hcs : ∃ cs, v = .agg cs := by
      split at hag
      · rename_i fs hu; exact okWide_agg hv (.inl ⟨_, hu⟩)
      · rename_i m e hu; exact okWide_agg hv (.inr ⟨_, _, hu⟩)
      · cases hag
    obtain ⟨cs, hcs⟩ := hcs
    cases c <;> first | exact rv_ag hcs ha | cases hx
  | false =>
    rw [hx] at hag
    have hne : ∀ cs, v ≠ .agg cs := by
      rintro cs rfl
      split at hag
      · cases hag
      · cases hag
      · rename_i h1 h2
        unfold Value.okWide at hv
        split at hv
        · rename_i hu; exact h1 _ hu
        · rename_i hu; exact h2 _ _ hu
        · unfold Cell.okWide at hv
          cases hu : P.underlying t with
          | none => rw [hu] at hv; simp [Cell.ok, hu] at hv
          | some u => cases u <;> simp_all [Cell.ok]
    rw [one_cells hne] at ha
    cases c <;> first | exact ha | cases hx
end
end Go.Dor
