/- OPERATIONS THAT READ OR RECKON: what the machine says of them holds. Plain lemmas over any program. -/
import Derived.Test.YtlejphdgfoejaaaDoorO
namespace Go.Dor
open Go.RowKit (Below)

theorem oneCell_cells {v : Value} (h : v.oneCell' = true) : v.cells = #[v] := by cases v <;> first | rfl | (simp [Value.oneCell'] at h)

section
variable {P : Program} {M S : Nat → Prop} {w0 w w' : World} {h : Hm} {g : Nat → Value} {R : Type} {res : R} {K : V → Hm → Option R} {K1 : V → Option R}
  {d : Option Tmp} {ty : TypeId} {pos : String} {aft : Array Edge} {gd : Option (Nat × Bool)} {e : Ev} {r : Env}

def After (M S : Nat → Prop) (w0 : World) (h : Hm) (g : Nat → Value) (w : World) (K : V → Hm → Option R) (res : R) : Value → World → Prop := fun val w' =>
  ∃ v h' g', Rel M S w0 h' g' w' ∧ (memOf M S w0 h g w).Le (memOf M S w0 h' g' w') ∧ Rv (memOf M S w0 h' g' w') v val ∧ K v h' = some res

/-- what is so in any memory that has grown from w -/
structure Pure (P : Program) (M S : Nat → Prop) (w0 : World) (h : Hm) (g : Nat → Value) (w : World) (r : Env) (o : Oper) (K : V → Option R) (res : R) : Prop where
  out : ∃ v val, (∀ w', (execOp (ev r) o).run P w' = .ok (.value val) w') ∧ Rv (memOf M S w0 h g w) v val ∧ K v = some res

theorem Pure.step {o : Oper} (H : Rel M S w0 h g w) (k : Pure P M S w0 h g w r o (fun v => K v h) res) : Step P o r w (After M S w0 h g w K res) := by
  obtain ⟨v, val, h1, h2, h3⟩ := k
  exact .value (h1 w) ⟨v, h, g, H, .refl _, h2, h3⟩
theorem Pure.of {o : Oper} {v : V} {val : Value} (h1 : ∀ w', (execOp (ev r) o).run P w' = .ok (.value val) w') (h2 : Rv (memOf M S w0 h g w) v val) (h3 : K1 v = some res) : Pure P M S w0 h g w r o K1 res := ⟨⟨v, val, h1, h2, h3⟩⟩

theorem Pure.mk' {o : Oper} {v : V} {val : Value} (h3 : K1 v = some res) (h1 : ∀ w', (execOp (ev r) o).run P w' = .ok (.value val) w') (h2 : Rv (memOf M S w0 h g w) v val) : Pure P M S w0 h g w r o K1 res := ⟨⟨v, val, h1, h2, h3⟩⟩

/-! ### operands -/
def ER (m : Mem) (e : Ev) (r : Env) : Prop := ∀ t, Rv m (getE e t) (r t)

theorem constV_sound {m : Mem} (v : Value) : Rv m (constV v) v := by
  unfold constV
  split
  · rfl
  · rfl
  · rfl
  · rfl
  · rfl
  · rfl
  · rfl
  · trivial
theorem opnd_sound {m : Mem} (E : ER m e r) (x : Operand) : Rv m (opnd e x) (ev r x) := by
  cases x with
  | tmp t => exact E t
  | const v => exact constV_sound v
  | global _ => trivial
  | func f => exact ⟨fun i hi => by simp at hi, rfl⟩
theorem ER.mono {m m' : Mem} (h : m.Le m') (E : ER m e r) : ER m' e r := fun t => Rv.mono h _ _ (E t)
theorem ER.put {m : Mem} (E : ER m e r) (d : Option Nat) {v : V} {val : Value} (h : Rv m v val) : ER m (putE e d v) (putO r d val) := by
  cases d with
  | none => exact E
  | some d =>
    intro t
    simp only [putE, getE, putO, Dor.put]
    by_cases ht : t = d
    · subst ht
      simpa using h
    · have h1 : Nat.beq d t = false := Bool.eq_false_iff.2 fun e => ht (Nat.eq_of_beq_eq_true e).symm
      have h2 : Nat.beq t d = false := Bool.eq_false_iff.2 fun e => ht (Nat.eq_of_beq_eq_true e)
      rw [h1, h2]
      exact E t

/-! ### numbers, texts, truths -/
variable {m : Mem}

theorem rv_int {k : IntKind} {n : Int} {v : Value} (h : Rv m (.one (.i k n)) v) : v = .int k n := by have : [v] = _ := h; simpa using this
theorem rv_bool {b : Bool} {v : Value} (h : Rv m (.one (.b b)) v) : v = .bool b := by have : [v] = _ := h; simpa using this
theorem rv_str {l : List UInt8} {v : Value} (h : Rv m (.one (.s l)) v) : v = sv l := by have : [v] = _ := h; simpa using this
theorem rv_nil {v : Value} (h : Rv m (.one .nil) v) : v = .slice none 0 0 := by have : [v] = _ := h; simpa using this
theorem mk_int {k : IntKind} {n : Int} : Rv m (.one (.i k n)) (.int k n) := rfl
theorem mk_bool {b : Bool} : Rv m (.one (.b b)) (.bool b) := rfl
theorem mk_str {l : List UInt8} : Rv m (.one (.s l)) (sv l) := rfl

theorem binI_sound {op : BinOp} {k k' : IntKind} {a b : Int} {x y : Operand} {t u : TypeId} (hk : binI op k a b K1 = some res) (hx : ev r x = .int k a) (hy : ev r y = .int k' b) (hkk : k = k' ∨ op = .shl ∨ op = .shr) :
    Pure P M S w0 h g w r ⟨d, .binOp op t x y u, ty, pos, aft, gd⟩ K1 res := by
  have hs : ∀ (op' : BinOp), op = op' → op' ≠ .shl → op' ≠ .shr → ev r y = .int k b := fun op' e h1 h2 => by
    rcases hkk with h | h | h
    · rw [h]; exact hy
    · exact absurd (e.symm.trans h) h1
    · exact absurd (e.symm.trans h) h2
  cases op <;> simp only [binI] at hk
  · exact .of (fun _ => ex_add hx (hs _ rfl (by simp) (by simp))) mk_int hk
  · exact .of (fun _ => ex_sub hx (hs _ rfl (by simp) (by simp))) mk_int hk
  · exact .of (fun _ => ex_mul hx (hs _ rfl (by simp) (by simp))) mk_int hk
  · obtain ⟨h0, hk⟩ := need_some hk
    exact .of (fun _ => ex_quo hx (hs _ rfl (by simp) (by simp)) h0) mk_int hk
  · obtain ⟨h0, hk⟩ := need_some hk
    exact .of (fun _ => ex_rem hx (hs _ rfl (by simp) (by simp)) h0) mk_int hk
  · exact .of (fun _ => ex_and hx (hs _ rfl (by simp) (by simp))) mk_int hk
  · exact .of (fun _ => ex_or hx (hs _ rfl (by simp) (by simp))) mk_int hk
  · exact .of (fun _ => ex_xor hx (hs _ rfl (by simp) (by simp))) mk_int hk
  · obtain ⟨h0, hk⟩ := need_some hk
    exact .of (fun _ => ex_shl hx hy h0) mk_int hk
  · obtain ⟨h0, hk⟩ := need_some hk
    exact .of (fun _ => ex_shr hx hy h0) mk_int hk
  · exact .of (fun _ => ex_andNot hx (hs _ rfl (by simp) (by simp))) mk_int hk
  · exact .of (fun _ => ex_eql hx (hs _ rfl (by simp) (by simp))) mk_bool hk
  · exact .of (fun _ => ex_neq hx (hs _ rfl (by simp) (by simp))) mk_bool hk
  · exact .of (fun _ => ex_lss hx (hs _ rfl (by simp) (by simp))) mk_bool hk
  · exact .of (fun _ => ex_leq hx (hs _ rfl (by simp) (by simp))) mk_bool hk
  · exact .of (fun _ => ex_gtr hx (hs _ rfl (by simp) (by simp))) mk_bool hk
  · exact .of (fun _ => ex_geq hx (hs _ rfl (by simp) (by simp))) mk_bool hk

theorem binS_sound {op : BinOp} {a b : List UInt8} {x y : Operand} {t u : TypeId} (hk : binS op a b K1 = some res) (hx : ev r x = sv a) (hy : ev r y = sv b) :
    Pure P M S w0 h g w r ⟨d, .binOp op t x y u, ty, pos, aft, gd⟩ K1 res := by
  cases op <;> simp only [binS] at hk <;> try (cases hk)
  · obtain ⟨h0, hk⟩ := need_some hk
    exact .of (fun _ => ex_cat hx hy h0) mk_str hk
  · exact .of (fun _ => ex_eqs hx hy) mk_bool hk
  · exact .of (fun _ => ex_nes hx hy) mk_bool hk
  · exact .of (fun _ => ex_lts hx hy) mk_bool hk

theorem binB_sound {op : BinOp} {a b : Bool} {x y : Operand} {t u : TypeId} (ht : P.underlying t = some .bool) (hk : binB op a b K1 = some res) (hx : ev r x = .bool a) (hy : ev r y = .bool b) :
    Pure P M S w0 h g w r ⟨d, .binOp op t x y u, ty, pos, aft, gd⟩ K1 res := by
  cases op <;> simp only [binB] at hk <;> try (cases hk)
  · exact .of (fun _ => ex_eqb ht hx hy) mk_bool hk
  · exact .of (fun _ => ex_neb ht hx hy) mk_bool hk

/-! ### loads -/
def CA (w : World) (b a : Nat) (l : List Value) : Prop := ∀ (j : Nat) y, l[j]? = some y → w.cell? ⟨b, a + j, none⟩ = some y

theorem CA.sub {b a : Nat} {l1 l2 l3 : List Value} (hc : CA w b a (l1 ++ (l2 ++ l3))) : CA w b (a + l1.length) l2 := fun j y hj => by
  have := hc (l1.length + j) y (by rw [List.getElem?_append_right (by omega), List.getElem?_append_left (by have := (List.getElem?_eq_some_iff.1 hj).1; omega)]; rw [← hj]; congr 1; omega)
  rw [Nat.add_assoc]; exact this

theorem mkV_sound {T : TypeId} {mid : List L} {v : V} {s : List (List Value)} {b a : Nat} (hv : mkV P T mid = some v) (hs : Al2 (Rl m) mid s) :
    ∃ val, Rv m v val ∧ ∀ w', CA w' b a s.flatten → (loadVar T ⟨b, a, none⟩).run P w' = .ok val w' := by
  unfold mkV at hv
  rw [cond_eq_ite] at hv
  split at hv
  · rename_i hsc
    split at hv
    · rename_i x
      rw [cond_eq_ite] at hv
      split at hv
      · rename_i hw
        cases hv
        obtain ⟨c, s', rfl, h1, h2⟩ := hs.cons_left
        have := h2.nil_left
        subst this
        have hl := Rl.len _ _ h1
        rw [Nat.eq_of_beq_eq_true hw] at hl
        match c, hl with
        | [val], _ =>
          refine ⟨val, h1, fun w' hc => ?_⟩
          obtain ⟨h3, _⟩ := scal_spec (w := w') hsc
          have h4 : w'.cell? ⟨b, a, none⟩ = some val := by have := hc 0 val (by simp); simpa using this
          simp [loadVar, Sem.run_bind, h3, h4]
      · cases hv
    · cases hv
  · split at hv
    · rename_i n' hag
      rw [cond_eq_ite] at hv
      split at hv
      · rename_i hw
        cases hv
        refine ⟨ag s, ⟨s, rfl, hs⟩, fun w' hc => ?_⟩
        obtain ⟨h1, h2⟩ := agg_spec (w := w') hag
        have hl : s.flatten.length = n' := by rw [Rls.len hs]; exact Nat.eq_of_beq_eq_true hw
        have hld := run_loadCells_list (P := P) w' ⟨b, a, none⟩ s.flatten fun j v hj => by rw [add_lit]; exact hc j v hj
        rw [hl] at hld
        simp [loadVar, Sem.run_bind, h1, h2, hld, ag, cells]
      · cases hv
    · cases hv

theorem cut_segs {ls pre mid post : List L} {off n : Nat} {s : List (List Value)} (hc : cutL ls off n = some (pre, mid, post)) (hs : Al2 (Rl m) ls s) :
    ∃ s1 s2 s3, s = s1 ++ (s2 ++ s3) ∧ Al2 (Rl m) pre s1 ∧ Al2 (Rl m) mid s2 ∧ Al2 (Rl m) post s3 ∧ s1.flatten.length = off ∧ s2.flatten.length = n ∧ widLs mid = n := by
  obtain ⟨h1, h2, h3⟩ := cutL_sound hc
  subst h1
  obtain ⟨s1, s', rfl, k1, k2⟩ := hs.split
  obtain ⟨s2, s3, rfl, k3, k4⟩ := k2.split
  exact ⟨s1, s2, s3, rfl, k1, k3, k4, (Rls.len k1).trans h2, (Rls.len k3).trans h3, h3⟩

theorem load_cut {T : TypeId} {ls pre mid post : List L} {off n b a : Nat} {v : V} {s : List (List Value)} (hc : cutL ls off n = some (pre, mid, post)) (hv : mkV P T mid = some v) (hs : Al2 (Rl m) ls s) :
    ∃ val, Rv m v val ∧ ∀ w', CA w' b a s.flatten → (loadVar T ⟨b, a + off, none⟩).run P w' = .ok val w' := by
  obtain ⟨s1, s2, s3, rfl, _, k2, _, l1, _, _⟩ := cut_segs hc hs
  obtain ⟨val, h1, h2⟩ := mkV_sound (P := P) (b := b) (a := a + off) hv k2
  refine ⟨val, h1, fun w' hca => h2 w' ?_⟩
  rw [List.flatten_append, List.flatten_append] at hca
  have := hca.sub
  rw [l1] at this
  exact this

/-- the blocks that a state's objects and data lie in -/
def Seen (m : Mem) (h : Hm) (b : Nat) : Prop := m.I b ∨ ∃ id, lives h id ∧ foot (m.g id) = some b
/-- a load, in a memory where what was there has stayed -/
structure Reads (P : Program) (M S : Nat → Prop) (w0 : World) (h : Hm) (g : Nat → Value) (w : World) (r : Env) (o : Oper) (K : V → Option R) (res : R) : Prop where
  out : ∃ v val, (∀ w', (∀ b, Seen (memOf M S w0 h g w) h b → w'.heap[b]? = w.heap[b]?) → (execOp (ev r) o).run P w' = .ok (.value val) w') ∧ Rv (memOf M S w0 h g w) v val ∧ K v = some res
theorem Reads.step {o : Oper} (H : Rel M S w0 h g w) (k : Reads P M S w0 h g w r o (fun v => K v h) res) : Step P o r w (After M S w0 h g w K res) := by
  obtain ⟨v, val, h1, h2, h3⟩ := k
  exact .value (h1 w fun _ _ => rfl) ⟨v, h, g, H, .refl _, h2, h3⟩
theorem Pure.reads {o : Oper} (k : Pure P M S w0 h g w r o K1 res) : Reads P M S w0 h g w r o K1 res := by
  obtain ⟨v, val, h1, h2, h3⟩ := k
  exact ⟨⟨v, val, fun w' _ => h1 w', h2, h3⟩⟩

theorem CA.later {b a : Nat} {l : List Value} (hc : CA w b a l) (hw : b < w.heap.size → w'.heap[b]? = w.heap[b]?) : CA w' b a l := fun j y hj => by
  have h1 := hc j y hj
  have hb : b < w.heap.size := by
    simp only [World.cell?] at h1
    cases e : w.heap[b]? with
    | none => rw [e] at h1; cases h1
    | some o => exact (Array.getElem?_eq_some_iff.1 e).1
  simp only [World.cell?] at h1 ⊢
  rw [hw hb]; exact h1

theorem blk_CA {b : Nat} {t : TypeId} {s : List (List Value)} {fz : Nat × Nat} (hb : w.heap[b]? = some (.cells (cells s) t fz)) : CA w b 0 s.flatten := fun j y hj => by
  rw [cell_at hb, Nat.zero_add]; exact hj

theorem Rel.rdls (H : Rel M S w0 h g w) {id : Nat} {t : TypeId} {ls : List L} (hr : rdLs h[id]? = some (t, ls)) : ∃ b s, g id = .pointer (some ⟨b, 0, none⟩) ∧ w.heap[b]? = some (.cells (cells s) t (0, 0)) ∧ Al2 (Rl (memOf M S w0 h g w)) ls s := by
  cases e : h[id]? with
  | none => rw [e] at hr; cases hr
  | some o =>
    rw [e] at hr
    have := H.obj id o e
    cases o <;> simp only [rdLs] at hr <;> cases hr
    · exact this
    · obtain ⟨b, s, h1, h2, h3, _⟩ := this; exact ⟨b, s, h1, h2, h3⟩

theorem Rel.rdseen (H : Rel M S w0 h g w) {id : Nat} {t : TypeId} {ls : List L} (hr : rdLs h[id]? = some (t, ls)) {b : Nat} (hb : g id = .pointer (some ⟨b, 0, none⟩)) : Seen (memOf M S w0 h g w) h b := by
  cases e : h[id]? with
  | none => rw [e] at hr; cases hr
  | some o =>
    rw [e] at hr
    have := H.obj id o e
    cases o <;> simp only [rdLs] at hr <;> cases hr
    · exact .inr ⟨id, by simp [lives, e, liveO], by show foot (g id) = _; rw [hb]; rfl⟩
    · obtain ⟨b', s, h1, h2, h3, h4⟩ := this
      rw [hb] at h1; cases h1; exact .inl h4
theorem foot_vfoot {v : Value} {b : Nat} (h : vfoot v = some b) : foot v = some b := by
  cases v <;> first | exact h | (simp [vfoot] at h)

theorem CA.elem {b a z j : Nat} {ys : List (List Value)} {y : List Value} (hc : CA w b a ys.flatten) (hz : ∀ x ∈ ys, x.length = z) (hj : ys[j]? = some y) : CA w b (a + j * z) y := fun k v hk => by
  have hy := hz y (List.mem_of_getElem? hj)
  have hk' := (List.getElem?_eq_some_iff.1 hk).1
  have := flat_at hz hj (k := k) (by omega)
  rw [hk] at this
  have h1 := hc _ _ this
  rw [← Nat.add_assoc] at h1; exact h1

/-- where a slice that is not empty lies -/
theorem Rd.ca {v : Value} {z : Nat} {ys : List (List Value)} (h : Rd w v z ys) (h0 : ys ≠ []) : ∃ b a, (∀ n, eptr v n = .pointer (some ⟨b, a + n, none⟩)) ∧ CA w b a ys.flatten ∧ vfoot v = some b ∧ slen v = ys.length := by
  rcases h.2 with ⟨_, rfl⟩ | ⟨b, a, cap, cur, t, fz, rfl, h1, h2, h3⟩
  · exact absurd rfl h0
  · have hl : 0 < ys.length := List.length_pos_iff.2 h0
    refine ⟨b, a, fun n => by simp [eptr, add_lit], fun j y hj => ?_, ?_, rfl⟩
    · rw [cell_of_row w b _ cur t fz h2]; exact h3 j y hj
    · have : cap ≠ 0 := by omega
      simp [vfoot, this]
theorem Rd.slen {v : Value} {z : Nat} {ys : List (List Value)} (h : Rd w v z ys) : slen v = ys.length := by
  rcases h.2 with ⟨⟨a, rfl⟩, rfl⟩ | ⟨b, a, cap, cur, t, fz, rfl, _⟩ <;> rfl

theorem vecOf_toList {α : Type} {n : Nat} {dd : α} {l : List α} (hn : n ≤ l.length) : (vecOf n dd l).toList = l.take n := by
  apply List.ext_getElem?
  intro i
  simp only [vecOf, Vector.toList_mk, List.getElem?_map, List.getElem?_take]
  by_cases h : i < n
  · have : i < l.length := by omega
    simp [h, List.getElem?_eq_getElem this]
  · simp [h]

/-- an element of a list of data, in its cells -/
theorem elem_CA {t : T} {xs : List (den t)} {ys : List (List Value)} {i : Int} (hs : Al2 (At m.w m.I t) xs ys) (h0 : 0 ≤ i) (h1 : i < (xs.length : Int)) : ∃ c, ys[i.toNat]? = some c ∧ At m.w m.I t (at_ (dflt t) xs i) c := by
  have hx : xs[i.toNat]? = some (at_ (dflt t) xs i) := at_get h0 h1
  exact hs.get hx

theorem load_sound {T : TypeId} {x : Operand} (H : Rel M S w0 h g w) (E : ER (memOf M S w0 h g w) e r) (hk : loadOp P T (opnd e x) h K = some res) :
    Reads P M S w0 h g w r ⟨d, .load T x, ty, pos, aft, gd⟩ (fun v => K v h) res := by
  have hx := opnd_sound E x
  generalize opnd e x = p at hk hx
  cases p with
  | one y =>
    cases y <;> simp only [loadOp] at hk <;> try (cases hk)
    rename_i id off
    split at hk
    · rename_i t ls hr
      split at hk
      · rename_i n hn
        split at hk
        · rename_i pre mid post hc
          split at hk
          · rename_i v hv
            obtain ⟨_, b, hb, hval⟩ := hx
            obtain ⟨b', s, hb', hcell, hs⟩ := H.rdls hr
            have hb : g id = _ := hb
            rw [hb'] at hb; cases hb
            have hval : ev r x = .pointer (some ⟨b, off, none⟩) := by simpa using hval
            obtain ⟨val, h1, h2⟩ := load_cut (P := P) (b := b) (a := 0) hc hv hs
            rw [Nat.zero_add] at h2
            exact ⟨⟨v, val, fun w' hw => ex_load hval (h2 w' ((blk_CA hcell).later fun _ => hw _ (H.rdseen hr hb'))), h1, hk⟩⟩
          · cases hk
        · cases hk
      · cases hk
    · cases hk
  | epR t u off =>
    simp only [loadOp] at hk
    split at hk
    · rename_i n hn
      split at hk
      · rename_i pre mid post hc
        split at hk
        · rename_i v hv
          obtain ⟨q, o, c, hval, hI, hat, hca⟩ := hx
          obtain ⟨s, rfl, hs⟩ := At.enc (m := memOf M S w0 h g w) _ _ _ hat
          obtain ⟨val, h1, h2⟩ := load_cut (P := P) (b := q) (a := o) hc hv hs
          exact ⟨⟨v, val, fun w' hw => ex_load hval (h2 w' (CA.later (w := w) hca fun _ => hw _ (.inl hI))), h1, hk⟩⟩
        · cases hk
      · cases hk
    · cases hk
  | epO id z i off =>
    simp only [loadOp] at hk
    split at hk
    · rename_i t' t xs n ho hn
      rw [cond_eq_ite] at hk
      split at hk
      rotate_left
      · cases hk
      rename_i hzt
      have hzt := Nat.eq_of_beq_eq_true hzt
      split at hk
      · rename_i pre mid post hc
        split at hk
        · rename_i v hv
          have hli : lives h id := by simp [lives, ho, liveO]
          obtain ⟨_, hval⟩ := hx
          obtain ⟨hval, h0, h1⟩ := hval hli
          obtain ⟨ys, hO, hs⟩ := H.obj _ _ ho
          have hval : ev r x = eptr (g id) (i.toNat * z + off) := hval
          have h1 : i < (slen (g id) : Int) := h1
          have hz := (hs.flat_len (At.len t)).1
          rw [hO.rd.slen, ← hs.length] at h1
          obtain ⟨c, hc1, hat⟩ := elem_CA hs h0 h1
          have hne : ys ≠ [] := fun e => by rw [e] at hc1; simp at hc1
          obtain ⟨q, a, hp, hca, hvf, _⟩ := hO.rd.ca hne
          rw [hp] at hval
          have hca := hca.elem hz hc1
          obtain ⟨s, rfl, hs⟩ := At.enc (m := memOf M S w0 h g w) _ _ _ hat
          rw [← hzt] at hca
          obtain ⟨val, h1, h2⟩ := load_cut (P := P) (b := q) (a := a + i.toNat * z) hc hv hs
          rw [Nat.add_assoc] at h2
          exact ⟨⟨v, val, fun w' hw => ex_load hval (h2 w' (CA.later (w := w) hca fun _ => hw _ (.inr ⟨id, hli, foot_vfoot hvf⟩))), h1, hk⟩⟩
        · cases hk
      · cases hk
    · rename_i t' t xs n ho hn
      exact (H.obj _ _ ho).elim
    · cases hk
  | epB id off n z i k =>
    simp only [loadOp] at hk
    split at hk
    · rename_i t' ls n' hr hn
      split at hk
      · rename_i pre t m' x' post hsk
        rw [cond_eq_ite] at hk
        split at hk
        · rename_i hb
          rw [Bool.and_eq_true] at hb
          obtain ⟨hb1, hzt⟩ := hb
          have hb1 := Nat.eq_of_beq_eq_true hb1
          have hzt := Nat.eq_of_beq_eq_true hzt
          subst hb1
          split at hk
          · rename_i pr mid po hc
            split at hk
            · rename_i v hv
              obtain ⟨_, h0, h1, b, hgb, hval⟩ := hx
              obtain ⟨b', s, hb', hcell, hs⟩ := H.rdls hr
              have hgb : g id = _ := hgb
              rw [hb'] at hgb; cases hgb
              obtain ⟨h2, h3⟩ := skipL_sound _ _ _ _ hsk
              subst h2
              obtain ⟨s1, s2, rfl, k1, k2⟩ := hs.split
              obtain ⟨c, s3, rfl, k3, k4⟩ := k2.cons_left
              have hca := blk_CA hcell
              rw [List.flatten_append, List.flatten_cons] at hca
              have hca := hca.sub
              rw [Nat.zero_add, (Rls.len k1).trans h3] at hca
              obtain ⟨ys, rfl, k5⟩ := k3
              have hz := (k5.flat_len (At.len t)).1
              have hlen : (x'.toList.length : Int) = n := by simp
              obtain ⟨c, hc1, hat⟩ := elem_CA k5 h0 (by rw [hlen]; exact h1)
              have hca := hca.elem hz hc1
              obtain ⟨s, rfl, hs⟩ := At.enc (m := memOf M S w0 h g w) _ _ _ hat
              rw [← hzt] at hca
              obtain ⟨val, h4, h5⟩ := load_cut (P := P) (b := b) (a := off + i.toNat * z) hc hv hs
              rw [Nat.add_assoc] at h5
              exact ⟨⟨v, val, fun w' hw => ex_load hval (h5 w' (CA.later (w := w) hca fun _ => hw _ (H.rdseen hr hb'))), h4, hk⟩⟩
            · cases hk
          · cases hk
        · cases hk
      · cases hk
    · cases hk
  | toA t n xs =>
    simp only [loadOp] at hk
    rw [cond_eq_ite] at hk
    split at hk
    · rename_i hw1
      split at hk
      · rename_i v hv
        obtain ⟨h0, h1, u, ⟨ys, hrd, hs, hI⟩, hval⟩ := hx
        have hl := hs.length
        have hne : ys ≠ [] := fun e => by subst e; simp only [List.length_nil] at hl; omega
        obtain ⟨q, a, hp, hca, hvf, _⟩ := hrd.ca hne
        rw [hp, Nat.add_zero] at hval
        have hk2 : Al2 (Rl (memOf M S w0 h g w)) [.arr t n (vecOf n (dflt t) xs)] [(ys.take n).flatten] := ⟨⟨ys.take n, rfl, by rw [vecOf_toList h1]; exact hs.take n⟩, trivial⟩
        obtain ⟨val, h4, h5⟩ := mkV_sound (P := P) (b := q) (a := a) hv hk2
        refine ⟨⟨v, val, fun w' hw => ex_load hval (h5 w' ?_), h4, hk⟩⟩
        rw [flat_one]
        have e : ys.flatten = (ys.take n).flatten ++ (ys.drop n).flatten := by rw [← List.flatten_append, List.take_append_drop]
        refine CA.later (w := w) (fun j y hj => hca j y ?_) fun _ => hw _ (.inl (hI _ hvf))
        rw [e, List.getElem?_append_left (List.getElem?_eq_some_iff.1 hj).1]; exact hj
      · cases hk
    · cases hk
  | _ => simp only [loadOp] at hk; cases hk
end
end Go.Dor
