/- SLICES OF THE CALL'S OWN: built, appended to, written, turned into texts. Plain lemmas over any program. -/
import Derived.Test.YtlejphdgfoejaaaDoorS
namespace Go.Dor
open Go.RowKit (Below)

theorem run_storeCells_seg (P : Program) (g o : Nat) (t : TypeId) (fz : Nat × Nat) : ∀ (vs : List Value) (i : Nat) (cur : Array Value) (w : World), w.heap[g]? = some (.cells cur t fz) → (∀ j, j < cur.size → ¬ (fz.1 ≤ j ∧ j < fz.2)) → o + i + vs.length ≤ cur.size → (∀ v ∈ vs, v.oneCell' = true) →
    (storeCells ⟨g, o, none⟩ vs i).run P w = .ok () (w.setRow g (cur.toList.take (o + i) ++ vs ++ cur.toList.drop (o + i + vs.length)).toArray)
  | [], i, cur, w, hg, _, _, _ => by
    simp only [storeCells, List.append_nil, List.length_nil, Nat.add_zero, List.take_append_drop, Array.toArray_toList]
    rw [setRow_self w g cur t fz hg]
    rfl
  | v :: rest, i, cur, w, hg, hfz, hl, h1 => by
    have hi : o + i < cur.size := by simp at hl; omega
    have hadd : (⟨g, o, none⟩ : Addr).add i = ⟨g, o + i, none⟩ := add_lit _ _ _
    have hcell : w.cell? ⟨g, o + i, none⟩ = some cur[o + i] := by simp [World.cell?, hg, hi]
    have hfro : w.frozen? ⟨g, o + i, none⟩ = false := by
      obtain ⟨lo, hi'⟩ := fz
      have := hfz (o + i) hi
      simp only [World.frozen?, hg, Bool.and_eq_false_iff, decide_eq_false_iff_not]
      simp only at this
      omega
    have hst : (store ((⟨g, o, none⟩ : Addr).add i) v).run P w = .ok () (w.setRow g (cur.setIfInBounds (o + i) v)) := by
      rw [hadd, run_store P w _ v _ (h1 v (by simp)), hcell]
      simp [hfro, setCell_eq_setRow w g (o + i) cur t fz v hg]
    have ih := run_storeCells_seg P g o t fz rest (i + 1) (cur.setIfInBounds (o + i) v) (w.setRow g (cur.setIfInBounds (o + i) v)) (setRow_heap w g cur _ t _ hg) (by simpa using hfz) (by simp at hl ⊢; omega) (fun x hx => h1 x (by simp [hx]))
    simp only [storeCells, Sem.run_bind, hst, Result.andThen_ok, ih, setRow_setRow]
    congr 3
    have e := list_seg_step cur.toList (o + i) v rest (by simp at hl ⊢; omega)
    simpa [Array.toList_setIfInBounds, Nat.add_assoc] using e

theorem One.enc {α : Type} {l : List α} {f : α → List Value} (h : ∀ a, ∀ v ∈ f a, v.oneCell' = true) : ∀ v ∈ (l.map f).flatten, v.oneCell' = true := fun v hv => by
  obtain ⟨x, hx, hv⟩ := List.mem_flatten.1 hv
  obtain ⟨a, _, rfl⟩ := List.mem_map.1 hx
  exact h a v hv
theorem one1 {α : Type} {f : α → Value} (h : ∀ a, (f a).oneCell' = true) : ∀ a, ∀ v ∈ [f a], v.oneCell' = true := fun a v hv => by
  simp at hv; subst hv; exact h a

section
variable {P : Program} {w : World}

theorem src_of_rd {tx e' : TypeId} {v : Value} {z : Nat} {xs : List (List Value)} (hk : P.underlying tx = some (.slice e')) (h : Rd w v z xs) (h1 : ∀ v ∈ xs.flatten, v.oneCell' = true) : Src P z tx v xs.length xs.flatten w := by
  have hl := flat_len h.1
  rcases h.2 with ⟨⟨a, rfl⟩, rfl⟩ | ⟨g, off, cap, cur, t, fz, rfl, _, hg, hx⟩
  · cases a with
    | none => exact Src.ofNil w hk 0
    | some a => exact Src.ofSlice w hk a 0 0 [] (by simp) (by simp) (by simp)
  · refine Src.ofSlice w hk _ _ _ _ hl (fun j u hj => ?_) h1
    rw [add_lit, cell_of_row w g _ cur t fz hg]
    exact hx j u hj

theorem own_append {t tx ty e : TypeId} {v x : Value} {z b n : Nat} {xs ys : List (List Value)} (ht : P.underlying t = some (.slice e)) (he : elemOf P e = some (z, b)) (hO : Own w v e z xs) (hs : Src P z tx x n ys.flatten w) (hn : ys.length = n) (hz : ∀ y ∈ ys, y.length = z)
    (hb : (xs.length + n) * b ≤ 140737488355328) :
    ∃ v' w', (Builtin.append_ #[t, tx] ty #[v, x]).run P w = .ok v' w' ∧ Own w' v' e z (xs ++ ys) ∧ w.grownBy w' (vfoot v) ∧ ∀ k, vfoot v' = some k → vfoot v = some k ∨ w.heap.size ≤ k := by
  obtain ⟨i, zv, hi, hzv, hsz, hby, hzs, hz0, hb0⟩ := elem_spec he
  subst hsz hby
  have hxz : ∀ u ∈ xs ++ ys, u.length = i.size := fun u hu => by rcases List.mem_append.1 hu with h | h; exact hO.1 u h; exact hz u h
  have hle : xs.length + n ≤ (xs.length + n) * i.bytes := Nat.le_mul_of_pos_right _ hb0
  have h63 : ((xs.length + n : Nat) : Int) ≤ 9223372036854775807 := by omega
  have hmax : xs.length + n ≤ maxLen := by simp only [maxLen]; omega
  have hxl := flat_len hO.1
  have hyl := hs.newsLen
  -- a new row
  have grown : ∀ (base : Option Addr) (sCap : Nat), v = .slice base xs.length sCap → sCap < xs.length + n → (Builtin.firstCells i.size xs.length (.slice base xs.length sCap)).run P w.drew = .ok xs.flatten.toArray w.drew →
      ∃ v' w', (Builtin.append_ #[t, tx] ty #[v, x]).run P w = .ok v' w' ∧ Own w' v' e i.size (xs ++ ys) ∧ w.grownBy w' (vfoot v) ∧ ∀ k, vfoot v' = some k → vfoot v = some k ∨ w.heap.size ≤ k := by
    intro base sCap hv hlt hold
    have hr := run_append_grow_src (P := P) w t tx ty e i zv ht hi hzv base xs.length sCap xs.flatten hold x n ys.flatten hs hlt h63 (growslice_fits hlt hb)
    have hge := grownCap_ge w (xs.length + n) sCap e
    have hcm := grownCap_le_maxLen w (xs.length + n) sCap e hmax
    rw [hv, hr]
    refine ⟨_, _, rfl, ⟨hxz, .inr ⟨w.heap.size, grownCap w (xs.length + n) sCap e, _, (0, 0), by rw [List.length_append, hn], by rw [List.length_append, hn]; exact hge, hcm, heap_alloc_new w.drew _, by simp, ?_, ?_⟩⟩, ?_, ?_⟩
    · simp only [Array.size_append, List.size_toArray, List.length_append, hxl, hyl, size_zeroCells, hzs, ← Nat.add_mul]
      congr 1; omega
    · intro j u hj
      have hjl : j < (xs.flatten ++ ys.flatten).length := by rw [← List.flatten_append]; exact (List.getElem?_eq_some_iff.1 hj).1
      rw [Array.getElem?_append_left (by simpa using hjl)]
      rw [List.flatten_append] at hj
      simpa using hj
    · exact World.grownBy_alloc w.drew _ _ |> fun h => ⟨h.os, h.tape, h.output, h.size, h.block⟩
    · intro k hk
      simp only [vfoot] at hk
      split at hk
      · cases hk
      · simp only [Option.some.injEq] at hk; exact .inr (by omega)
  rcases hO.2 with ⟨⟨a, rfl⟩, rfl⟩ | ⟨g, cap, cur, fz, rfl, hc, hcm, hg, hfz, hcs, hx⟩
  · by_cases h0 : n = 0
    · subst h0
      have hy : ys = [] := List.eq_nil_of_length_eq_zero hn
      subst hy
      refine ⟨.slice a 0 0, w, ?_, hO, ⟨rfl, rfl, rfl, Nat.le_refl _, fun _ _ _ => rfl⟩, fun k hk => by cases a <;> simp [vfoot] at hk⟩
      have e1 := hs.cells
      have e2 := hs.len w
      rcases hs.kind with ⟨e', hk⟩ | hk <;> cases a <;> simp [Builtin.append_, run_underlying ht, run_underlying hk, sizeOf, typeInfo, hi, e1, e2, storeCells]
    · refine grown a 0 rfl (by simp; omega) ?_
      cases a with
      | none => exact run_firstCells_none w.drew i.size 0 0 0
      | some a => exact run_firstCells_some w.drew i.size 0 a 0 0 [] (by simp) (by simp)
  · by_cases hroom : xs.length + n ≤ cap
    · have hfit : xs.length * i.size + ys.flatten.length ≤ cur.size := by rw [hyl, hcs, ← Nat.add_mul]; exact Nat.mul_le_mul_right _ hroom
      have hst := run_storeCells_seg P g (xs.length * i.size) e fz ys.flatten 0 cur w hg hfz (by simpa using hfit) hs.one
      simp only [Nat.add_zero] at hst
      obtain ⟨g1, g2⟩ := setRow_grown (cs' := (cur.toList.take (xs.length * i.size) ++ ys.flatten ++ cur.toList.drop (xs.length * i.size + ys.flatten.length)).toArray) hg
      have hfoot : w.grownBy (w.setRow g (cur.toList.take (xs.length * i.size) ++ ys.flatten ++ cur.toList.drop (xs.length * i.size + ys.flatten.length)).toArray) (vfoot (.slice (some ⟨g, 0, none⟩) xs.length cap)) := by
        by_cases hcap : cap = 0
        · -- nothing is there, nothing is written
          have hn0 : n = 0 := by omega
          have hx0 : xs = [] := List.eq_nil_of_length_eq_zero (by omega)
          have hy0 : ys = [] := List.eq_nil_of_length_eq_zero (by omega)
          subst hx0 hy0
          simp only [List.length_nil, Nat.zero_mul, List.flatten_nil, List.take_zero, List.append_nil, List.drop_zero, List.nil_append, Nat.add_zero, Array.toArray_toList]
          rw [setRow_self w g cur e fz hg]
          exact ⟨rfl, rfl, rfl, Nat.le_refl _, fun _ _ _ => rfl⟩
        · simpa [vfoot, hcap] using g1
      refine ⟨.slice (some ⟨g, 0, none⟩) (xs.length + n) cap, _, ?_, ⟨hxz, .inr ⟨g, cap, _, fz, by rw [List.length_append, hn], by rw [List.length_append, hn]; exact hroom, hcm, g2, ?_, ?_, ?_⟩⟩, hfoot, ?_⟩
      · rcases hs.kind with ⟨e', hk⟩ | hk <;> simp [Builtin.append_, run_underlying ht, run_underlying hk, sizeOf, typeInfo, hi, hs.len, hroom, hs.cells, add_lit, hst]
      · intro j hj
        refine hfz j ?_
        simp only [List.size_toArray, List.length_append, List.length_take, List.length_drop, Array.length_toList] at hj
        omega
      · simp only [List.size_toArray, List.length_append, List.length_take, List.length_drop, Array.length_toList]
        omega
      · intro j u hj
        have htake : cur.toList.take (xs.length * i.size) = xs.flatten := by
          apply List.ext_getElem?
          intro k
          rw [List.getElem?_take]
          by_cases hk : k < xs.length * i.size
          · rw [if_pos hk]
            have : k < xs.flatten.length := by rw [hxl]; exact hk
            rw [List.getElem?_eq_getElem this]
            simpa using hx k _ (List.getElem?_eq_getElem this)
          · rw [if_neg hk, List.getElem?_eq_none (by rw [hxl]; omega)]
        rw [List.flatten_append] at hj
        have hjl : j < (xs.flatten ++ ys.flatten).length := (List.getElem?_eq_some_iff.1 hj).1
        rw [htake]
        simp only [List.getElem?_toArray]
        rw [List.getElem?_append_left hjl]
        exact hj
      · intro k hk
        exact .inl (by simpa [vfoot] using hk)
    · refine grown _ cap rfl (by omega) (run_firstCells_some w.drew i.size xs.length ⟨g, 0, none⟩ xs.length cap xs.flatten hxl fun j u hj => ?_)
      rw [add_lit, cell_of_row w.drew g _ cur e fz hg, Nat.zero_add]
      exact hx j u hj
end

section
variable {P : Program} {r : Env} {w w0 : World} {d : Option Tmp} {ty : TypeId} {pos : String} {aft : Array Edge} {g : Option (Nat × Bool)} {M S : Nat → Prop} {L : List Res} {α : Type} {l m : List α} {f : α → List Value} {v u : Value} {z i j : Nat} {q q' : Res}

theorem own_set (H : Hp M S w0 w L) {t : TypeId} {w' : World} {v v' : Value} {xs ys : List (List Value)} (hi : L[i]? = some (.own v t z xs)) (hO : Own w' v' t z ys) (hg : w.grownBy w' (vfoot v)) (hf : ∀ k, vfoot v' = some k → vfoot v = some k ∨ w.heap.size ≤ k) : Hp M S w0 w' (L.set i (.own v' t z ys)) :=
  H.set hi rfl hg _ hO hf

theorem st_app {t tx e : TypeId} {x y : Operand} {b : Nat} (H : Hp M S w0 w L) (hi : L[i]? = some (.own v e z (l.map f))) (hrd : Rd w u z (m.map f)) (ht : P.underlying t = some (.slice e)) (he : elemOf P e = some (z, b)) {e' : TypeId} (htx : P.underlying tx = some (.slice e'))
    (h1 : ∀ a, ∀ v ∈ f a, v.oneCell' = true) (hx : ev r x = v) (hy : ev r y = u) (hb : (l.length + m.length) * b ≤ 140737488355328) :
    Step P ⟨d, .call { callee := .builtin .append, args := #[x, y], argTypes := #[t, tx] }, ty, pos, aft, g⟩ r w fun v' w' => Hp M S w0 w' (L.set i (.own v' e z ((l ++ m).map f))) := by
  have hsrc := src_of_rd htx hrd (One.enc h1)
  obtain ⟨v', w', h2, h3, h4, h5⟩ := own_append (ty := ty) ht he (H.own hi) hsrc rfl hrd.1 (by simpa using hb)
  rw [← List.map_append] at h3
  exact .value (v := v') (w' := w') (by simp [execOp, hx, hy, resolve, invoke, builtin, h2]) (H.set hi rfl h4 _ h3 h5)

theorem bytes_flat (s : List UInt8) : byteCells (ByteArray.mk s.toArray) = ((numsOf s).map fun n => [Value.int .u8 n]).flatten := by
  simp only [byteCells, numsOf, List.map_map]
  induction s with
  | nil => rfl
  | cons a s ih => simp at ih ⊢; exact ih
/-- a text's bytes behind a slice of bytes -/
theorem st_appT {t tx e : TypeId} {x y : Operand} {b : Nat} {l : List Int} {s : List UInt8} (H : Hp M S w0 w L) (hi : L[i]? = some (.own v e 1 (l.map fun n => [.int .u8 n]))) (ht : P.underlying t = some (.slice e)) (he : elemOf P e = some (1, b)) (htx : P.underlying tx = some .string)
    (hx : ev r x = v) (hy : ev r y = sv s) (hb : (l.length + s.length) * b ≤ 140737488355328) :
    Step P ⟨d, .call { callee := .builtin .append, args := #[x, y], argTypes := #[t, tx] }, ty, pos, aft, g⟩ r w fun v' w' => Hp M S w0 w' (L.set i (.own v' e 1 ((l ++ numsOf s).map fun n => [.int .u8 n]))) := by
  have hsrc := Src.ofString w htx (ByteArray.mk s.toArray)
  rw [bytes_flat, sv_size] at hsrc
  obtain ⟨v', w', h2, h3, h4, h5⟩ := own_append (ty := ty) ht he (H.own hi) hsrc (by simp [numsOf]) (by simp) (by simpa using hb)
  rw [← List.map_append] at h3
  exact .value (v := v') (w' := w') (by simp only [sv] at hy; simp [execOp, hx, hy, resolve, invoke, builtin, h2]) (H.set hi rfl h4 _ h3 h5)

/-! ### a slice that is built -/
theorem fill_all {α : Type} {gv : α → Value} {f : α → List Value} (hc : ∀ a, (gv a).cells.toList = f a) (hz : ∀ a, (f a).length = z) : ∀ (l : List α) (k : Nat) (c : List Value), (k + l.length) * z ≤ c.length →
    Instr.fill (fun i => some (i * z, z)) c.toArray ((l.zipIdx k).map fun x => (x.2, gv x.1)) = some (c.take (k * z) ++ (l.map f).flatten ++ c.drop ((k + l.length) * z)).toArray := by
  intro l
  induction l with
  | nil => intro k c _; simp [Instr.fill]
  | cons x l ih =>
    intro k c hk
    have hcl : (gv x).cells.size = z := by rw [← Array.length_toList, hc, hz]
    simp only [List.length_cons] at hk
    have hk2 : k * z + z ≤ c.length := by
      have : (k + 1) * z ≤ (k + (l.length + 1)) * z := Nat.mul_le_mul_right _ (by omega)
      rw [Nat.add_mul, Nat.one_mul] at this; omega
    rw [List.zipIdx_cons, List.map_cons]
    unfold Instr.fill
    simp only
    rw [if_neg (by
      rw [Bool.or_eq_true, decide_eq_true_eq, decide_eq_true_eq]
      rintro (h | h)
      · exact h hcl
      · simp only [hcl, List.size_toArray] at h; omega)]
    have e3 : (gv x).cells.zipIdx.foldl (fun cs (y : Value × Nat) => cs.setIfInBounds (k * z + y.2) y.1) c.toArray = (c.take (k * z) ++ f x ++ c.drop (k * z + z)).toArray := by
      rw [← Array.foldl_toList]
      simp only [Array.toList_zipIdx, hc]
      have := foldl_setSegs (f x) (k * z) 0 c (by rw [hz]; omega)
      simpa [hz] using this
    rw [e3]
    have hlen : (c.take (k * z) ++ f x ++ c.drop (k * z + z)).length = c.length := by simp [hz]; omega
    rw [ih (k + 1) _ (by rw [hlen, show k + 1 + l.length = k + (l.length + 1) by omega]; exact hk)]
    congr 2
    have t1 : (c.take (k * z) ++ f x ++ c.drop (k * z + z)).take ((k + 1) * z) = c.take (k * z) ++ f x := by
      rw [List.take_left']
      simp [hz, Nat.add_mul]; omega
    have t2 : (c.take (k * z) ++ f x ++ c.drop (k * z + z)).drop ((k + 1 + l.length) * z) = c.drop ((k + (l.length + 1)) * z) := by
      have e4 : (c.take (k * z) ++ f x).length = k * z + z := by simp [hz]; omega
      rw [List.drop_append, e4, List.drop_drop, List.drop_eq_nil_of_le (by rw [e4, Nat.add_mul, Nat.add_mul]; omega), List.nil_append]
      congr 1
      simp only [Nat.add_mul]; omega
    rw [t1, t2]
    simp only [List.map_cons, List.flatten_cons, List.append_assoc, List.length_cons]

theorem st_build {T e : TypeId} {len b : Nat} {parts : List (Nat × Operand)} {gv : α → Value} (l : List α) (f : α → List Value) (H : Hp M S w0 w L) (hT : P.underlying T = some (.slice e)) (he : elemOf P e = some (z, b)) (hlen : l.length = len)
    (hv : parts.map (fun x => (x.1, ev r x.2)) = (l.zipIdx.map fun x => (x.2, gv x.1))) (hc : ∀ a, (gv a).cells.toList = f a) (hz : ∀ a, (f a).length = z) (hsm : len * z ≤ 16777216) :
    Step P ⟨d, .buildSlice T len parts.toArray, ty, pos, aft, g⟩ r w fun v w' => Hp M S w0 w' (L ++ [.own v e z (l.map f)]) := by
  obtain ⟨i, zv, hi, hzv, hsz, hby, hzs, hz0, hb0⟩ := elem_spec he
  have hxl : ∀ x ∈ l.map f, x.length = z := fun x hx => by obtain ⟨a, _, rfl⟩ := List.mem_map.1 hx; exact hz a
  have hfl := flat_len hxl
  simp only [List.length_map, hlen] at hfl
  have hst : ∀ (c : Array Value), c.size = len * z → Instr.fill (fun i => some (i * z, z)) c (parts.map (fun x => (x.1, ev r x.2))) = some (l.map f).flatten.toArray := fun c hcs => by
    have := fill_all hc hz l 0 c.toList (by simp [hlen, hcs])
    rw [hv]
    simp only [Array.toArray_toList, Nat.zero_mul, List.take_zero, List.nil_append, Nat.zero_add, hlen] at this
    rw [this, List.drop_eq_nil_of_le (by simp [hcs]), List.append_nil]
  have ep : (Array.map (fun (x : Nat × Operand) => match x with | (i, x) => (i, ev r x)) parts.toArray).toList = parts.map (fun x => (x.1, ev r x.2)) := by simp
  refine .value (v := .slice (some ⟨w.heap.size, 0, none⟩) len len) (w' := w.alloc (.cells (l.map f).flatten.toArray e)) ?_ (H.fresh (below_alloc w _) _ ⟨hxl, .inr ⟨w.heap.size, len, _, (0, 0), by simp [hlen], by simp [hlen], ?_, heap_alloc_new w _, by simp, ?_, ?_⟩⟩ ?_)
  · have h24 : ¬ 16777216 < len * z := by omega
    by_cases h0 : len * z = 0
    · have := hst ((Array.range 0).map fun _ => (default : Value)) (by simp [h0])
      simp only [execOp, Instr.buildSlice, Sem.run_bind, run_underlying hT, Result.andThen_ok, sizeOf, typeInfo, run_program, hi, Sem.run_pure, hsz, h0, ep]
      simp [this, newRow]
    · have := hst ((Array.range (len * z)).map (zv.cells[· % zv.cells.size]!)) (by simp)
      simp only [execOp, Instr.buildSlice, Sem.run_bind, run_underlying hT, Result.andThen_ok, sizeOf, typeInfo, run_program, hi, Sem.run_pure, hsz, ep, zeroValue]
      simp [this, newRow, h24, h0, hi, hzv]
  · have : len ≤ len * z := Nat.le_mul_of_pos_right _ hz0
    simp only [maxLen]; omega
  · simp [hfl]
  · intro j u hj; simpa using hj
  · intro b hb
    simp only [Res.foot, vfoot] at hb
    split at hb
    · cases hb
    · simp only [Option.some.injEq] at hb; omega

/-! ### texts and bytes -/
theorem fold_bytes (ns : List Int) : ∀ s : ByteArray, ns.foldl (fun r n => r.push (UInt8.ofNat n.toNat)) s = ⟨s.data ++ (bytesOf ns).toArray⟩ := by
  induction ns with
  | nil => intro s; simp [bytesOf]
  | cons n ns ih =>
    intro s
    rw [List.foldl_cons, ih]
    apply ByteArray.ext
    simp [bytesOf, ByteArray.push]

theorem flat1 {α : Type} (l : List α) (c : α → Value) : (l.map fun x => [c x]).flatten = l.map c := by
  induction l with
  | nil => rfl
  | cons a l ih => simp [ih]

theorem ex_convBT {T U e : TypeId} {x : Operand} {l : List Int} (hrd : Rd w v 1 (l.map fun n => [.int .u8 n])) (hT : P.underlying T = some (.slice e)) (he : P.underlying e = some (.int .u8)) (hU : P.underlying U = some .string) (hx : ev r x = v) :
    (execOp (ev r) ⟨d, .convert T U x, ty, pos, aft, g⟩).run P w = .ok (.value (sv (bytesOf l))) w := by
  rcases hrd.2 with ⟨⟨a, rfl⟩, h0⟩ | ⟨g', off, cap, cur, t, fz, rfl, h1, h2, h3⟩
  · simp only [List.map_eq_nil_iff] at h0
    subst h0
    cases a with
    | none => simp [execOp, hx, convert, run_underlying hT, run_underlying hU, run_underlying he, Conv.bytesToString, bytesOf, sv]; rfl
    | some a =>
      have := run_bytesToString (P := P) w a 0 0 [] (by simpa using run_loadCells_list (P := P) w a [] (by simp))
      simp [execOp, hx, convert, run_underlying hT, run_underlying hU, run_underlying he, this, bytesOf, sv]; rfl
  · have hl := run_loadCells_list (P := P) w ⟨g', off, none⟩ (l.map fun n => Value.int .u8 n) fun j u hj => by
      rw [add_lit, cell_of_row w g' _ cur t fz h2]
      exact h3 j u (by rw [flat1]; exact hj)
    simp only [List.length_map] at hl
    have := run_bytesToString (P := P) w ⟨g', off, none⟩ l.length cap l hl
    simp only [List.length_map] at hx
    rw [fold_bytes] at this
    simp [execOp, hx, convert, run_underlying hT, run_underlying hU, run_underlying he, this, sv]

theorem st_convTB {T U e : TypeId} {x : Operand} {s : List UInt8} (H : Hp M S w0 w L) (hU : P.underlying U = some .string) (hT : P.underlying T = some (.slice e)) (he : P.underlying e = some (.int .u8)) (hx : ev r x = sv s) (hb : s.length * 1 ≤ 140737488355328) :
    Step P ⟨d, .convert U T x, ty, pos, aft, g⟩ r w fun v w' => Hp M S w0 w' (L ++ [.own v e 1 ((numsOf s).map fun n => [.int .u8 n])]) := by
  have hr := Lib.run_convert_string_bytes (P := P) w U T e (ByteArray.mk s.toArray) hU hT he
  have hge := grownCap_ge w s.length 0 e
  have hcm := grownCap_le_maxLen w s.length 0 e (by simp only [maxLen]; omega)
  rw [sv_size] at hr
  have hcells : (Lib.bytesCells w e (ByteArray.mk s.toArray)).size = grownCap w s.length 0 e := by
    simp [Lib.bytesCells, sv_size]; omega
  refine .value (v := .slice (some ⟨w.heap.size, 0, none⟩) s.length (grownCap w s.length 0 e)) (w' := Lib.bytesWorld w e (ByteArray.mk s.toArray)) (by simp only [sv] at hx; simp [execOp, hx, hr]) ?_
  refine H.fresh (w' := Lib.bytesWorld w e (ByteArray.mk s.toArray)) ⟨rfl, rfl, rfl, by rw [Lib.bytesWorld_size]; omega, fun k hk => Lib.bytesWorld_at_old w e _ k hk⟩ (.own _ e 1 ((numsOf s).map fun n => [.int .u8 n])) ⟨by simp, .inr ⟨w.heap.size, _, _, _, by simp [numsOf], by simpa [numsOf] using hge, hcm, Lib.bytesWorld_at_new w e _, ?_, by rw [hcells, Nat.mul_one], ?_⟩⟩ ?_
  · intro j hj; simp only; omega
  · intro j u hj
    rw [flat1, numsOf, List.map_map] at hj
    have hjl : j < s.length := by simpa using (List.getElem?_eq_some_iff.1 hj).1
    simp only [Lib.bytesCells]
    rw [Array.getElem?_append_left (by simpa using hjl)]
    simpa using hj
  · intro b hb
    simp only [Res.foot, vfoot] at hb
    split at hb
    · cases hb
    · simp only [Option.some.injEq] at hb; omega

/-! ### an element that is written -/
theorem st_stE {T t : TypeId} {x y : Operand} {n : Int} {k N : Nat} {u : Value} {new : α} (dd : α) (pre mid post mid' : List (List Value)) (H : Hp M S w0 w L) (hi : L[i]? = some (.own v t z (l.map f))) (hN : (P.info? T).map (·.size) = some N) (hc : 0 ≤ n ∧ n < (l.length : Int)) (hx : ev r x = eptr v (n.toNat * z + k)) (hy : ev r y = u)
    (hf : f (at_ dd l n) = (pre ++ mid ++ post).flatten) (hf' : f new = (pre ++ mid' ++ post).flatten) (ho : pre.flatten.length = k) (hu : u.cells = cells mid') (hl : mid'.flatten.length = mid.flatten.length) (hm : mid'.flatten.length = N) (h1 : One mid') :
    Step P ⟨d, .store T x y, ty, pos, aft, g⟩ r w fun _ w' => Hp M S w0 w' (L.set i (.own v t z ((lset l n new).map f))) := by
  have hO := H.own hi
  have hnl : n.toNat < l.length := by omega
  have hat : (l.map f)[n.toNat]? = some (f (at_ dd l n)) := by rw [List.getElem?_map, at_get hc.1 hc.2]; rfl
  have hlen := hO.1 _ (List.mem_of_getElem? hat)
  rcases hO.2 with ⟨_, h0⟩ | ⟨g', cap, cur, fz, rfl, hc1, hcm, hg, hfz, hcs, hxx⟩
  · simp only [List.map_eq_nil_iff] at h0; subst h0; simp at hnl
  · have hz : pre.flatten.length + mid.flatten.length + post.flatten.length = z := by rw [← hlen, hf]; simp only [List.flatten_append, List.length_append]
    have hpos : k + mid'.flatten.length ≤ z := by omega
    have hrow : n.toNat * z + z ≤ cur.size := by
      have : (n.toNat + 1) * z ≤ cap * z := Nat.mul_le_mul_right _ (by simp at hc1; omega)
      rw [Nat.add_mul, Nat.one_mul] at this; omega
    have hst := run_storeCells_seg P g' (n.toNat * z + k) t fz mid'.flatten 0 cur w hg hfz (by omega) h1
    simp only [Nat.add_zero] at hst
    obtain ⟨ii, hii, hsz⟩ := Option.map_eq_some_iff.1 hN
    have hcsz : u.cells.size = N := by rw [hu]; simpa [cells] using hm
    have e2 : u.cells.toList = mid'.flatten := by rw [hu]; simp [cells]
    obtain ⟨g1, g2⟩ := setRow_grown (cs' := (cur.toList.take (n.toNat * z + k) ++ mid'.flatten ++ cur.toList.drop (n.toNat * z + k + mid'.flatten.length)).toArray) hg
    have hz0 : cap ≠ 0 := by simp at hc1; omega
    refine .skip (w' := _) ?_ (H.set hi rfl (w' := w.setRow g' (cur.toList.take (n.toNat * z + k) ++ mid'.flatten ++ cur.toList.drop (n.toNat * z + k + mid'.flatten.length)).toArray) (by simpa [Res.foot, vfoot, hz0] using g1) (.own _ t z ((lset l n new).map f)) ?_ fun b hb => .inl hb)
    · simp only [eptr, add_lit, Nat.zero_add] at hx
      simp [execOp, hx, hy, Instr.storeAt, Instr.sureAddr, storeVar, sizeOf, typeInfo, hii, hsz, hcsz, e2, hst]
    · have hnew : (f new).length = z := by rw [hf']; simp only [List.flatten_append, List.length_append]; omega
      have hm' : (lset l n new).map f = (l.map f).set n.toNat (f new) := by simp [lset, List.map_set]
      have hall : ∀ x ∈ (lset l n new).map f, x.length = z := by
        rw [hm']
        intro x hx
        rcases List.mem_or_eq_of_mem_set hx with h | h
        · exact hO.1 x h
        · rw [h]; exact hnew
      refine ⟨hall, .inr ⟨g', cap, _, fz, by simp [lset], by simpa [lset] using hc1, hcm, g2, ?_, ?_, ?_⟩⟩
      · intro j hj
        refine hfz j ?_
        simp only [List.size_toArray, List.length_append, List.length_take, List.length_drop, Array.length_toList] at hj
        omega
      · simp only [List.size_toArray, List.length_append, List.length_take, List.length_drop, Array.length_toList]
        omega
      · intro j y hj
        have hjl : j < ((lset l n new).map f).flatten.length := (List.getElem?_eq_some_iff.1 hj).1
        rw [flat_len hall] at hjl
        simp only [lset, List.length_map, List.length_set] at hjl
        -- which element, which cell
        have hz1 : 0 < z := by
          rcases Nat.eq_zero_or_pos z with h | h
          · rw [h] at hjl; simp at hjl
          · exact h
        have hdm : j / z * z + j % z = j := by rw [Nat.mul_comm]; exact Nat.div_add_mod j z
        have hjz : j % z < z := Nat.mod_lt _ hz1
        have hje : j / z < l.length := by rw [Nat.div_lt_iff_lt_mul hz1]; exact hjl
        have hcl : n.toNat * z + k ≤ cur.toList.length := by simp; omega
        have hval : (cur.toList.take (n.toNat * z + k) ++ mid'.flatten ++ cur.toList.drop (n.toNat * z + k + mid'.flatten.length))[j]? = if j < n.toNat * z + k ∨ n.toNat * z + k + mid'.flatten.length ≤ j then cur.toList[j]? else mid'.flatten[j - (n.toNat * z + k)]? := by
          by_cases ha : j < n.toNat * z + k
          · rw [if_pos (.inl ha), List.append_assoc, List.getElem?_append_left (by simp; omega), List.getElem?_take, if_pos ha]
          · by_cases hb : n.toNat * z + k + mid'.flatten.length ≤ j
            · rw [if_pos (.inr hb), List.getElem?_append_right (by rw [List.length_append, List.length_take, Nat.min_eq_left hcl]; omega), List.getElem?_drop]
              rw [List.length_append, List.length_take, Nat.min_eq_left hcl]
              congr 1; omega
            · rw [if_neg (by omega), List.append_assoc, List.getElem?_append_right (by rw [List.length_take, Nat.min_eq_left hcl]; omega), List.length_take, Nat.min_eq_left hcl, List.getElem?_append_left (by omega)]
        simp only [List.getElem?_toArray]
        rw [hval]
        by_cases he : j / z = n.toNat
        · have hthis : ((lset l n new).map f)[j / z]? = some (f new) := by rw [hm', he]; simp [hnl]
          have := flat_at hall hthis hjz
          rw [hdm, hj, hf'] at this
          have hold := flat_at hO.1 (j := j / z) (k := j % z) (x := f (at_ dd l n)) (by rw [he]; exact hat) hjz
          rw [hdm, hf] at hold
          have hjj : j = n.toNat * z + j % z := by rw [← he]; exact hdm.symm
          by_cases ha : j < n.toNat * z + k ∨ n.toNat * z + k + mid'.flatten.length ≤ j
          · rw [if_pos ha]
            have e5 : (pre ++ mid' ++ post).flatten[j % z]? = (pre ++ mid ++ post).flatten[j % z]? := by
              simp only [List.flatten_append]
              rcases ha with ha | ha
              · rw [List.append_assoc, List.append_assoc, List.getElem?_append_left (by omega), List.getElem?_append_left (by omega)]
              · rw [List.getElem?_append_right (by simp only [List.length_append]; omega), List.getElem?_append_right (by simp only [List.length_append]; omega)]
                simp only [List.length_append, hl]
            rw [e5] at this
            rw [← this] at hold
            rw [Array.getElem?_toList]
            exact hxx j y hold
          · rw [if_neg ha]
            have := this
            simp only [List.flatten_append] at this
            rw [List.append_assoc, List.getElem?_append_right (by omega), List.getElem?_append_left (by omega)] at this
            rw [show j - (n.toNat * z + k) = j % z - pre.flatten.length by omega]
            exact this.symm
        · have hne : ((lset l n new).map f)[j / z]? = (l.map f)[j / z]? := by rw [hm', List.getElem?_set_ne (Ne.symm he)]
          obtain ⟨xx, hxx2⟩ : ∃ xx, (l.map f)[j / z]? = some xx := ⟨_, List.getElem?_eq_getElem (by simpa using hje)⟩
          have h6 := flat_at hall (hne.trans hxx2) hjz
          have h7 := flat_at hO.1 hxx2 hjz
          rw [hdm] at h6 h7
          rw [hj, ← h7] at h6
          have hout : j < n.toNat * z + k ∨ n.toNat * z + k + mid'.flatten.length ≤ j := by
            rcases Nat.lt_or_gt_of_ne he with h | h
            · left
              have : (j / z + 1) * z ≤ n.toNat * z := Nat.mul_le_mul_right _ h
              rw [Nat.add_mul, Nat.one_mul] at this; omega
            · right
              have : (n.toNat + 1) * z ≤ j / z * z := Nat.mul_le_mul_right _ h
              rw [Nat.add_mul, Nat.one_mul] at this; omega
          rw [if_pos hout, Array.getElem?_toList]
          exact hxx j y h6.symm

end
end Go.Dor
