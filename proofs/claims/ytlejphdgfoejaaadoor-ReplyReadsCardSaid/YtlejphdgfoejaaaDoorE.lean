/- OPERATIONS ON MEMORY: variables of the call's own, by their parts. Plain lemmas over any program. -/
import Derived.Test.YtlejphdgfoejaaaDoorD
namespace Go.Dor
open Go.RowKit (Below)

/-! ### types, by closed facts -/
def isScal (P : Program) (t : TypeId) : Bool :=
  (match P.underlying t with | some (.struct _) | some (.array _ _) | none => false | some _ => true) && P.cellsOf t == 1
def aggOf (P : Program) (t : TypeId) : Option Nat :=
  match P.underlying t with | some (.struct _) | some (.array _ _) => (P.info? t).map (·.size) | _ => none
def zeroOf (P : Program) (t : TypeId) : Option (Array Value) := ((P.info? t).bind (·.zero)).map (·.cells)
def fieldOf (P : Program) (t : TypeId) (f : Nat) : Option (Nat × Nat) :=
  match P.underlying t with | some (.struct fs) => (fs[f]?).bind fun f => (P.info? f.type).map fun i => (f.offset, i.size) | _ => none

section
variable {P : Program} {t : TypeId} {w : World}

theorem info_of_underlying {D : TypeDesc} (h : P.underlying t = some D) : ∃ i, P.info? t = some i := by
  unfold Program.underlying at h
  split at h
  · rename_i i hi; exact ⟨_, hi⟩
  · rename_i i hi; exact ⟨_, hi⟩
  · cases h

theorem scal_spec (h : isScal P t = true) : (isAgg t).run P w = .ok false w ∧ (sizeOf t).run P w = .ok 1 w := by
  unfold isScal at h
  rw [Bool.and_eq_true, beq_iff_eq] at h
  obtain ⟨h1, h2⟩ := h
  cases hu : P.underlying t with
  | none => rw [hu] at h1; cases h1
  | some D =>
    obtain ⟨i, hi⟩ := info_of_underlying hu
    have hs : i.size = 1 := by simpa [Program.cellsOf, hi] using h2
    refine ⟨?_, by simp [sizeOf, typeInfo, hi, hs]⟩
    rw [hu] at h1
    unfold isAgg
    rw [Sem.run_bind, run_underlying hu]
    cases D <;> simp_all

theorem agg_spec {n : Nat} (h : aggOf P t = some n) : (isAgg t).run P w = .ok true w ∧ (sizeOf t).run P w = .ok n w := by
  unfold aggOf at h
  cases hu : P.underlying t with
  | none => rw [hu] at h; cases h
  | some D =>
    rw [hu] at h
    have hi : (P.info? t).map (·.size) = some n := by cases D <;> first | exact h | cases h
    have hD : (match D with | .struct _ | .array _ _ => true | _ => false) = true := by cases D <;> first | rfl | cases h
    obtain ⟨i, hi1, hi2⟩ := Option.map_eq_some_iff.1 hi
    refine ⟨?_, by simp [sizeOf, typeInfo, hi1, hi2]⟩
    unfold isAgg
    rw [Sem.run_bind, run_underlying hu]
    cases D <;> simp_all

theorem add_lit (b off n : Nat) : (⟨b, off, none⟩ : Addr).add n = ⟨b, off + n, none⟩ := by unfold Addr.add; split <;> simp_all
end

section
variable {P : Program} {r : Env} {w w0 : World} {d : Option Tmp} {ty : TypeId} {pos : String} {aft : Array Edge} {g : Option (Nat × Bool)} {M S : Nat → Prop} {L : List Res}

/-! ### addresses -/
theorem ex_fieldAddr {T : TypeId} {x : Operand} {f b off fo fz off' : Nat} (hT : fieldOf P T f = some (fo, fz + 1)) (hx : ev r x = .pointer (some ⟨b, off, none⟩)) (ho : off + fo = off') :
    (execOp (ev r) ⟨d, .fieldAddr T x f, ty, pos, aft, g⟩).run P w = .ok (.value (.pointer (some ⟨b, off', none⟩))) w := by
  unfold fieldOf at hT
  split at hT
  · rename_i fs hu
    cases hf : fs[f]? with
    | none => rw [hf] at hT; cases hT
    | some fl =>
      rw [hf] at hT
      simp only [Option.bind_some] at hT
      obtain ⟨i, hi, he⟩ := Option.map_eq_some_iff.1 hT
      simp only [Prod.mk.injEq] at he
      obtain ⟨h1, h2⟩ := he
      subst ho
      simp [execOp, hx, Instr.fieldAt, run_underlying hu, hf, Instr.sureAddr, fieldPlace, sizeOf, typeInfo, hi, h2, h1, add_lit]
  · cases hT

theorem ex_indexAddrA {T e : TypeId} {x y : Operand} {n b off z : Nat} {k : IntKind} {i : Int} (hT : P.underlying T = some (.array n e)) (hz : (P.info? e).map (·.size) = some z) (hx : ev r x = .pointer (some ⟨b, off, none⟩)) (hy : ev r y = .int k i)
    (h0 : 0 ≤ i) (h1 : i < n) : (execOp (ev r) ⟨d, .indexAddr T x y, ty, pos, aft, g⟩).run P w = .ok (.value (.pointer (some ⟨b, off + i.toNat * z, none⟩))) w := by
  obtain ⟨ii, hi, hs⟩ := Option.map_eq_some_iff.1 hz
  simp [execOp, hx, hy, Instr.indexAt, asIntOf, run_underlying hT, Instr.sureAddr, h0, h1, sizeOf, typeInfo, hi, hs, add_lit]

/-! ### loads -/
theorem cell_at {b : Nat} {bt : TypeId} {s : List (List Value)} {fz : Nat × Nat} (hb : w.heap[b]? = some (.cells (cells s) bt fz)) (j : Nat) : w.cell? ⟨b, j, none⟩ = s.flatten[j]? := by
  rw [cell_of_row w b j _ bt fz hb]; simp [cells]

theorem flat_mid (pre mid post : List (List Value)) (j : Nat) (hj : j < mid.flatten.length) : (pre ++ mid ++ post).flatten[pre.flatten.length + j]? = mid.flatten[j]? := by
  rw [List.flatten_append, List.flatten_append, List.append_assoc, List.getElem?_append_right (by omega), List.getElem?_append_left (by omega)]
  congr 1; omega

theorem run_loadAgg {b off n : Nat} {T bt : TypeId} {s pre mid post : List (List Value)} {fz : Nat × Nat} (hb : w.heap[b]? = some (.cells (cells s) bt fz)) (hs : s = pre ++ mid ++ post) (ho : pre.flatten.length = off) (hT : aggOf P T = some n)
    (hn : mid.flatten.length = n) : (loadVar T ⟨b, off, none⟩).run P w = .ok (ag mid) w := by
  obtain ⟨h1, h2⟩ := agg_spec (w := w) hT
  have hl := run_loadCells_list (P := P) w ⟨b, off, none⟩ mid.flatten fun j v hj => by
    have hjl : j < mid.flatten.length := (List.getElem?_eq_some_iff.1 hj).1
    rw [add_lit, cell_at hb, hs, ← ho, flat_mid _ _ _ _ hjl]; exact hj
  rw [hn] at hl
  simp [loadVar, Sem.run_bind, h1, h2, hl, ag, cells]

theorem run_loadCell {b off : Nat} {T bt : TypeId} {s pre post : List (List Value)} {v : Value} {fz : Nat × Nat} (hb : w.heap[b]? = some (.cells (cells s) bt fz)) (hs : s = pre ++ [[v]] ++ post) (ho : pre.flatten.length = off) (hT : isScal P T = true) :
    (loadVar T ⟨b, off, none⟩).run P w = .ok v w := by
  obtain ⟨h1, _⟩ := scal_spec (w := w) hT
  have hc : w.cell? ⟨b, off, none⟩ = some v := by
    rw [cell_at hb, hs, ← ho]; simp
  simp [loadVar, Sem.run_bind, h1, hc]

theorem run_loadIdx {α : Type} {b off j : Nat} {T bt : TypeId} {s pre post : List (List Value)} {xs : List α} {f : α → Value} {dd : α} {fz : Nat × Nat} (hb : w.heap[b]? = some (.cells (cells s) bt fz)) (hs : s = pre ++ [xs.map f] ++ post) (ho : pre.flatten.length = off)
    (hj : j < xs.length) (hT : isScal P T = true) : (loadVar T ⟨b, off + j, none⟩).run P w = .ok (f (xs.getD j dd)) w := by
  obtain ⟨h1, _⟩ := scal_spec (w := w) hT
  have hc : w.cell? ⟨b, off + j, none⟩ = some (f (xs.getD j dd)) := by
    have := flat_mid pre [xs.map f] post j (by simpa using hj)
    rw [cell_at hb, hs, ← ho, this]
    simp [List.getElem?_eq_getElem hj]
  simp [loadVar, Sem.run_bind, h1, hc]

theorem ex_load {T : TypeId} {x : Operand} {a : Addr} {v : Value} (hx : ev r x = .pointer (some a)) (h : (loadVar T a).run P w = .ok v w) : (execOp (ev r) ⟨d, .load T x, ty, pos, aft, g⟩).run P w = .ok (.value v) w := by
  simp [execOp, hx, Instr.loadAt, Instr.sureAddr, h]

theorem ex_ldA {i b off n : Nat} {T bt : TypeId} {x : Operand} {s : List (List Value)} (pre mid post : List (List Value)) (H : Hp M S w0 w L) (hi : L[i]? = some (.blk b bt s)) (hT : aggOf P T = some n) (hs : s = pre ++ mid ++ post) (ho : pre.flatten.length = off)
    (hn : mid.flatten.length = n) (hx : ev r x = .pointer (some ⟨b, off, none⟩)) : (execOp (ev r) ⟨d, .load T x, ty, pos, aft, g⟩).run P w = .ok (.value (ag mid)) w :=
  ex_load hx (run_loadAgg (H.blk hi) hs ho hT hn)
theorem ex_ld1 {i b off : Nat} {T bt : TypeId} {x : Operand} {s : List (List Value)} {v : Value} (pre post : List (List Value)) (H : Hp M S w0 w L) (hi : L[i]? = some (.blk b bt s)) (hT : isScal P T = true) (hs : s = pre ++ [[v]] ++ post) (ho : pre.flatten.length = off)
    (hx : ev r x = .pointer (some ⟨b, off, none⟩)) : (execOp (ev r) ⟨d, .load T x, ty, pos, aft, g⟩).run P w = .ok (.value v) w :=
  ex_load hx (run_loadCell (H.blk hi) hs ho hT)
theorem ex_ldX {α : Type} {i b off j : Nat} {T bt : TypeId} {x : Operand} {s : List (List Value)} {xs : List α} {f : α → Value} (dd : α) (pre post : List (List Value)) (H : Hp M S w0 w L) (hi : L[i]? = some (.blk b bt s)) (hT : isScal P T = true) (hs : s = pre ++ [xs.map f] ++ post) (ho : pre.flatten.length = off)
    (hj : j < xs.length) (hx : ev r x = .pointer (some ⟨b, off + j * 1, none⟩)) : (execOp (ev r) ⟨d, .load T x, ty, pos, aft, g⟩).run P w = .ok (.value (f (xs.getD j dd))) w :=
  ex_load (by rw [hx, Nat.mul_one]) (run_loadIdx (H.blk hi) hs ho hj hT)

/-! ### variables that are made -/
theorem st_box {T : TypeId} {x : Operand} {v : Value} (s : List (List Value)) (H : Hp M S w0 w L) (hx : ev r x = v) (hv : v.cells = cells s) :
    Step P ⟨d, .box T x, ty, pos, aft, g⟩ r w fun v w' => ∃ b, v = .pointer (some ⟨b, 0, none⟩) ∧ Hp M S w0 w' (L ++ [.blk b T s]) :=
  .value (v := .pointer (some ⟨w.heap.size, 0, none⟩)) (w' := w.alloc (.cells v.cells T)) (by simp [execOp, hx, Instr.box, newVar, newRow]) ⟨_, rfl, by rw [hv]; exact H.alloc T s⟩
theorem st_alloc {T : TypeId} (s : List (List Value)) (H : Hp M S w0 w L) (hz : zeroOf P T = some (cells s)) :
    Step P ⟨d, .alloc T, ty, pos, aft, g⟩ r w fun v w' => ∃ b, v = .pointer (some ⟨b, 0, none⟩) ∧ Hp M S w0 w' (L ++ [.blk b T s]) := by
  obtain ⟨z, h1, h2⟩ := Option.map_eq_some_iff.1 hz
  obtain ⟨i, hi, h3⟩ := Option.bind_eq_some_iff.1 h1
  exact .value (v := .pointer (some ⟨w.heap.size, 0, none⟩)) (w' := w.alloc (.cells z.cells T)) (by simp [execOp, Instr.alloc, zeroValue, typeInfo, hi, h3, newVar, newRow]) ⟨_, rfl, by rw [h2]; exact H.alloc T s⟩

/-! ### stores -/
def One (s : List (List Value)) : Prop := ∀ v ∈ s.flatten, v.oneCell' = true
theorem One.nil : One [] := by simp [One]
theorem One.cons {v : Value} {s : List (List Value)} (h : v.oneCell' = true) (hs : One s) : One ([v] :: s) := by
  intro x hx; simp at hx
  rcases hx with rfl | ⟨l, hl, hx⟩
  · exact h
  · exact hs x (by simp; exact ⟨l, hl, hx⟩)
theorem One.map {α : Type} {xs : List α} {f : α → Value} {s : List (List Value)} (h : ∀ a, (f a).oneCell' = true) (hs : One s) : One (xs.map f :: s) := by
  intro x hx; simp at hx
  rcases hx with ⟨a, _, rfl⟩ | ⟨l, hl, hx⟩
  · exact h a
  · exact hs x (by simp; exact ⟨l, hl, hx⟩)

theorem setRow_grown {b : Nat} {bt : TypeId} {cs cs' : Array Value} {fz : Nat × Nat} (hb : w.heap[b]? = some (.cells cs bt fz)) : w.grownBy (w.setRow b cs') (some b) ∧ (w.setRow b cs').heap[b]? = some (.cells cs' bt fz) := by
  refine ⟨⟨rfl, rfl, rfl, by simp [World.setRow], fun k _ hk => ?_⟩, ?_⟩
  · simp only [World.setRow, Array.getElem?_modify]
    rw [if_neg (fun e => hk (by rw [e]))]
  · simp [World.setRow, Array.getElem?_modify, hb]

theorem splice (A B C D : List Value) (h : D.length = B.length) : (A ++ B ++ C).take A.length ++ D ++ (A ++ B ++ C).drop (A.length + D.length) = A ++ D ++ C := by
  rw [h, List.append_assoc A B C, List.take_left, ← List.drop_drop, List.drop_left, List.drop_left]

theorem run_storeSegs {b off : Nat} {T bt : TypeId} {s pre mid mid' post : List (List Value)} {v : Value} {n : Nat} (hb : w.heap[b]? = some (.cells (cells s) bt (0, 0))) (hs : s = pre ++ mid ++ post) (ho : pre.flatten.length = off)
    (hv : v.cells = cells mid') (hl : mid'.flatten.length = mid.flatten.length) (hn : (P.info? T).map (·.size) = some n) (hm : mid'.flatten.length = n) (h1 : One mid') :
    (storeVar T ⟨b, off, none⟩ v).run P w = .ok () (w.setRow b (cells (pre ++ mid' ++ post))) := by
  obtain ⟨i, hi, hsz⟩ := Option.map_eq_some_iff.1 hn
  have hc : v.cells.size = n := by rw [hv]; simpa [cells] using hm
  have hst := run_storeCells_at P b off bt mid'.flatten 0 (cells s) w hb (by rw [hs, ← ho]; simp only [cells, List.flatten_append, List.size_toArray, List.length_append]; omega) h1
  have e : (cells s).toList.take (off + 0) ++ mid'.flatten ++ (cells s).toList.drop (off + 0 + mid'.flatten.length) = (pre ++ mid' ++ post).flatten := by
    rw [hs, ← ho]
    simp only [cells, List.flatten_append, Nat.add_zero]
    exact splice _ _ _ _ hl
  rw [e] at hst
  have e2 : v.cells.toList = mid'.flatten := by rw [hv]; simp [cells]
  simp [storeVar, sizeOf, typeInfo, hi, hsz, hc, e2, hst, cells]

theorem st_sto {i b off n : Nat} {T bt : TypeId} {x y : Operand} {s : List (List Value)} {v : Value} (pre mid post mid' : List (List Value)) (H : Hp M S w0 w L) (hi : L[i]? = some (.blk b bt s)) (hn : (P.info? T).map (·.size) = some n) (hs : s = pre ++ mid ++ post) (ho : pre.flatten.length = off)
    (hx : ev r x = .pointer (some ⟨b, off, none⟩)) (hy : ev r y = v) (hv : v.cells = cells mid') (hl : mid'.flatten.length = mid.flatten.length) (hm : mid'.flatten.length = n) (h1 : One mid') :
    Step P ⟨d, .store T x y, ty, pos, aft, g⟩ r w fun _ w' => Hp M S w0 w' (L.set i (.blk b bt (pre ++ mid' ++ post))) := by
  have hst := run_storeSegs (P := P) (H.blk hi) hs ho hv hl hn hm h1
  obtain ⟨g1, g2⟩ := setRow_grown (cs' := cells (pre ++ mid' ++ post)) (H.blk hi)
  exact .skip (w' := w.setRow b (cells (pre ++ mid' ++ post))) (by simp [execOp, hx, hy, Instr.storeAt, Instr.sureAddr, hst]) (H.set hi rfl g1 _ g2 fun _ h => .inl h)

theorem map_set_mid {α : Type} (xs : List α) (f : α → Value) (j : Nat) (y : α) (hj : j < xs.length) : ((xs.set j y).map f) = (xs.map f).take j ++ [f y] ++ (xs.map f).drop (j + 1) := by
  rw [List.map_set, List.set_eq_take_append_cons_drop, if_pos (by simpa using hj)]
  simp

theorem st_stX {α : Type} {i b off j : Nat} {T bt : TypeId} {x y : Operand} {s : List (List Value)} {xs : List α} {f : α → Value} {v : Value} (u : α) (pre post : List (List Value)) (H : Hp M S w0 w L) (hi : L[i]? = some (.blk b bt s)) (hT : isScal P T = true) (hs : s = pre ++ [xs.map f] ++ post)
    (ho : pre.flatten.length = off) (hj : j < xs.length) (hx : ev r x = .pointer (some ⟨b, off + j * 1, none⟩)) (hy : ev r y = v) (hv : v = f u) (h1 : v.oneCell' = true) :
    Step P ⟨d, .store T x y, ty, pos, aft, g⟩ r w fun _ w' => Hp M S w0 w' (L.set i (.blk b bt (pre ++ [(xs.set j u).map f] ++ post))) := by
  obtain ⟨_, hsz⟩ := scal_spec (w := w) hT
  have hb := H.blk hi
  have hcv : v.cells = #[v] := by cases v <;> first | rfl | cases h1
  have hcell : w.cell? ⟨b, off + j, none⟩ = some (f (xs.getD j u)) := by
    have := flat_mid pre [xs.map f] post j (by simpa using hj)
    rw [cell_at hb, hs, ← ho, this]
    simp [List.getElem?_eq_getElem hj]
  have hfro : w.frozen? ⟨b, off + j, none⟩ = false := by simp [World.frozen?, hb]
  have hset : w.setCell ⟨b, off + j, none⟩ v = w.setRow b (cells (pre ++ [(xs.set j u).map f] ++ post)) := by
    rw [setCell_eq_setRow w b (off + j) (cells s) bt (0, 0) v hb]
    congr 1
    apply Array.ext'
    rw [Array.toList_setIfInBounds, hs, ← ho]
    simp only [cells, List.flatten_append]
    rw [List.append_assoc, List.set_append_right _ _ (by omega), Nat.add_sub_cancel_left, List.set_append_left _ _ (by simpa using hj)]
    simp [hv, List.map_set]
  obtain ⟨g1, g2⟩ := setRow_grown (cs' := cells (pre ++ [(xs.set j u).map f] ++ post)) hb
  have hrun : (store ⟨b, off + j, none⟩ v).run P w = .ok () (w.setCell ⟨b, off + j, none⟩ v) := by
    rw [run_store P w _ v _ h1, hcell]; simp [hfro]
  have hadd : (⟨b, off + j, none⟩ : Addr).add 0 = ⟨b, off + j, none⟩ := rfl
  rw [Nat.mul_one] at hx
  refine .skip (w' := w.setRow b (cells (pre ++ [(xs.set j u).map f] ++ post))) ?_ (H.set hi rfl g1 _ g2 fun _ h => .inl h)
  simp [execOp, hx, hy, Instr.storeAt, Instr.sureAddr, storeVar, hsz, hcv, storeCells, hadd, hrun, hset]

end
end Go.Dor
