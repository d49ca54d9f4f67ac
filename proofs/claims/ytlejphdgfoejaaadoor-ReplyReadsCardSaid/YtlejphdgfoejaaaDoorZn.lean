/- A SLICE MADE. Plain lemmas over any program. -/
import Derived.Test.YtlejphdgfoejaaaDoorZh
import Derived.Laws.MakeOwn
namespace Go.Dor
open Go.RowKit (Below)
section
variable {P : Program} {M S : Nat → Prop} {w0 w w' : World} {h : Hm} {g : Nat → Value} {R : Type} {res : R} {K : V → Hm → Option R}
  {d : Option Tmp} {ty : TypeId} {pos : String} {aft : Array Edge} {gd : Option (Nat × Bool)} {e : Ev} {r : Env} {m : Mem}

theorem flat_rep {α : Type} {l : List α} : ∀ (n j : Nat) (x : α), (List.replicate n l).flatten[j]? = some x → j < n * l.length ∧ l[j % l.length]? = some x
  | 0, j, x, h => by simp at h
  | n + 1, j, x, h => by
    rw [List.replicate_succ, List.flatten_cons] at h
    by_cases hj : j < l.length
    · rw [List.getElem?_append_left hj] at h
      refine ⟨by rw [Nat.add_mul]; omega, ?_⟩
      rw [Nat.mod_eq_of_lt hj]; exact h
    · rw [List.getElem?_append_right (by omega)] at h
      obtain ⟨h1, h2⟩ := flat_rep n (j - l.length) x h
      refine ⟨by rw [Nat.add_mul]; omega, ?_⟩
      rw [Nat.mod_eq_sub_mod (by omega)]; exact h2
theorem rep_al2 {α β : Type} {Q : α → β → Prop} {a : α} {b : β} (h : Q a b) : ∀ n, Al2 Q (List.replicate n a) (List.replicate n b)
  | 0 => trivial
  | n + 1 => ⟨h, rep_al2 h n⟩

theorem make_sound {T : TypeId} {x y : Operand} (H : Rel M S w0 h g w) (E : ER (memOf M S w0 h g w) e r) (hk : makeOp P T (opnd e x) (opnd e y) h K = some res) :
    Step P ⟨d, .makeSlice T x y, ty, pos, aft, gd⟩ r w (After M S w0 h g w K res) := by
  have hx := opnd_sound E x
  have hy := opnd_sound E y
  generalize opnd e x = p at hk hx
  generalize opnd e y = q at hk hy
  unfold makeOp at hk
  split at hk
  rotate_left
  · cases hk
  rename_i k1 n k2 m' el hT
  split at hk
  rotate_left
  · cases hk
  rename_i t z b hc he
  split at hk
  rotate_left
  · cases hk
  rename_i cs c hz hcd
  rw [cond_eq_ite] at hk
  split at hk
  rotate_left
  · cases hk
  rename_i hb
  rw [Bool.and_eq_true, Bool.and_eq_true] at hb
  obtain ⟨⟨hzw, _⟩, heq⟩ := hb
  have hzw := Nat.eq_of_beq_eq_true hzw
  obtain ⟨⟨hnm, h0, hbig⟩, hk2⟩ := need_some hk
  clear hk
  subst hnm
  have hx : ev r x = .int k1 n := rv_int hx
  have hy : ev r y = .int k2 n := rv_int hy
  obtain ⟨i, v, hi, hv, rfl, rfl, hvs, hz0, hb0⟩ := elem_spec he
  have hcs : cs = v.cells := by
    have : zeroOf P el = some v.cells := by simp [zeroOf, hi, hv]
    rw [this] at hz; cases hz; rfl
  have hcell := eqZs_eq heq
  have hat := fun I => cellsD_at (w := w.alloc (.cells (madeCells v.cells (n.toNat * i.size)) el)) (I := I) t (dflt t) c hcd
  have hle : n * 1 ≤ n * (i.bytes : Int) := Int.mul_le_mul_of_nonneg_left (by omega) h0
  have hrun := run_make (P := P) w T el i v hT hi hv k1 k2 n n h0 (Int.le_refl _) (by rw [Int.mul_comm]; exact hbig) (by omega)
  have hbel : Below w.heap.size w (w.alloc (.cells (madeCells v.cells (n.toNat * i.size)) el)) := below_alloc w _
  have hlen : c.length = i.size := by rw [← hcell, hcs]; simpa using hvs
  have hown : Own (w.alloc (.cells (madeCells v.cells (n.toNat * i.size)) el)) (.slice (some ⟨w.heap.size, 0, none⟩) n.toNat n.toNat) el (wid t) (List.replicate n.toNat c) := by
    refine ⟨fun y hy => ?_, .inr ⟨w.heap.size, n.toNat, madeCells v.cells (n.toNat * i.size), (0, 0), by simp, by simp, ?_, ?_, fun j _ hj => by omega, ?_, fun j y hj => ?_⟩⟩
    · rw [List.eq_of_mem_replicate hy, hlen, hzw]
    · unfold maxLen; omega
    · exact heap_alloc_new w _
    · rw [size_madeCells, hzw]
    · obtain ⟨h1, h2⟩ := flat_rep _ _ _ hj
      rw [hlen] at h1 h2
      have h3 : v.cells[j % i.size]? = some y := by rw [← hcell, hcs] at h2; simpa using h2
      have h4 : j % i.size < v.cells.size := (Array.getElem?_eq_some_iff.1 h3).1
      rw [madeCells, Array.getElem?_map, Array.getElem?_range, if_pos h1, Option.map_some]
      have h5 : v.cells[j % v.cells.size]! = y := by
        rw [hvs] at h4 ⊢
        rw [getElem!_pos v.cells (j % i.size) (by rw [hvs]; exact h4)]
        exact (Array.getElem?_eq_some_iff.1 h3).2
      rw [h5]
  obtain ⟨H2, le2⟩ := H.add hbel (.arr el t (List.replicate n.toNat (dflt t))) (.slice (some ⟨w.heap.size, 0, none⟩) n.toNat n.toNat) (fun b hb => by
      simp only [foot, vfoot] at hb
      split at hb
      · cases hb
      · simp at hb; omega) fun _ => ⟨_, hown, rep_al2 (hat _) _⟩
  refine .value (v := .slice (some ⟨w.heap.size, 0, none⟩) n.toNat n.toNat) (w' := w.alloc (.cells (madeCells v.cells (n.toNat * i.size)) el)) ?_ ⟨_, _, _, H2, le2, ?_, hk2⟩
  · simp [execOp, hx, hy, hrun]
  · exact ⟨by simp [memOf], _, rfl, rfl, rfl, fun _ => (gx_same g h.length _).symm⟩
end
end Go.Dor
