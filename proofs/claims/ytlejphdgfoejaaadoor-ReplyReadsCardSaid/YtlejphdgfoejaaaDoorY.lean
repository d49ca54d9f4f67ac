/- STORES, NEW VARIABLES: what the machine says of them holds. Plain lemmas over any program. -/
import Derived.Test.YtlejphdgfoejaaaDoorYa
namespace Go.Dor
open Go.RowKit (Below)
section
variable {P : Program} {M S : Nat → Prop} {w0 w w' : World} {h : Hm} {g : Nat → Value} {R : Type} {res : R} {K : V → Hm → Option R} {K1 : V → Option R} {m : Mem}
  {d : Option Tmp} {ty : TypeId} {pos : String} {aft : Array Edge} {gd : Option (Nat × Bool)} {e : Ev} {r : Env}

theorem nilOp_sound {T : TypeId} {v : V} {val : Value} (H : Rel M S w0 h g w) (hv : Rv (memOf M S w0 h g w) v val) (hk : nilOp P T v h K = some res) :
    ∃ v' h' g', Rel M S w0 h' g' w ∧ (memOf M S w0 h g w).Le (memOf M S w0 h' g' w) ∧ Rv (memOf M S w0 h' g' w) v' val ∧ K v' h' = some res := by
  unfold nilOp at hk
  split at hk
  · split at hk
    · rename_i el hT
      split at hk
      · rename_i c hc
        obtain ⟨H', le⟩ := H.addNil el c
        have hv := rv_nil hv
        refine ⟨.one (.own h.length), _, _, H', le, ⟨by simp [memOf], _, rfl, ?_, ?_, fun _ => ?_⟩, hk⟩
        · rw [hv]; rfl
        · rw [hv]; rfl
        · rw [hv]; exact (gx_same g h.length _).symm
      · cases hk
    · cases hk
  · exact ⟨v, h, g, H, .refl _, hv, hk⟩

theorem decL_live {h : Hm} : ∀ (t : T) (ls rest : List L) (x : den t) (f : List Nat), decL t ls h = some (x, rest, f) → ∀ id ∈ f, lives h id := by
  intro t
  induction t with
  | int k =>
    intro ls rest x f h1
    cases ls with
    | nil => simp [decL] at h1
    | cons y l =>
      cases y <;> simp only [decL] at h1 <;> try (cases h1)
      split at h1
      · cases h1; simp
      · cases h1
  | bool | str =>
    intro ls rest x f h1
    cases ls with
    | nil => simp [decL] at h1
    | cons y l => cases y <;> simp only [decL] at h1 <;> cases h1; simp
  | flt k =>
    intro ls rest x f h1
    cases ls with
    | nil => simp [decL] at h1
    | cons y l =>
      cases y <;> simp only [decL] at h1 <;> try (cases h1)
      split at h1
      · cases h1; simp
      · cases h1
  | unit =>
    intro ls rest x f h1
    have : decL .unit ls h = some ((), ls, []) := by cases ls with | nil => rfl | cons y l => cases y <;> rfl
    rw [this] at h1; cases h1; simp
  | pair a b iha ihb =>
    intro ls rest x f h1
    have : decL (.pair a b) ls h = (match decL a ls h with
      | some (x, l, f) => (match decL b l h with | some (y, l, g) => some ((x, y), l, f ++ g) | none => none)
      | none => none) := by cases ls with | nil => rfl | cons y l => cases y <;> rfl
    rw [this] at h1
    split at h1
    · rename_i x1 l1 f1 e1
      split at h1
      · rename_i x2 l2 f2 e2
        cases h1
        intro id hid
        rcases List.mem_append.1 hid with h2 | h2
        · exact iha _ _ _ _ e1 id h2
        · exact ihb _ _ _ _ e2 id h2
      · cases h1
    · cases h1
  | arr n e ih =>
    intro ls rest x f h1
    cases ls with
    | nil => simp [decL] at h1
    | cons y l =>
      cases y <;> simp only [decL] at h1 <;> try (cases h1)
      split at h1
      · cases h1; simp
      · cases h1
  | sl e ih =>
    intro ls rest x f h1
    cases ls with
    | nil => simp [decL] at h1
    | cons y l =>
      cases y <;> simp only [decL] at h1 <;> try (cases h1)
      · split at h1
        · cases h1; simp
        · cases h1
      · simp
      · rename_i id
        split at h1
        · rename_i ty t xs e0
          split at h1
          · cases h1
            intro id' hid
            simp at hid; subst hid
            simp [lives, e0, liveO]
          · cases h1
        · cases h1
      · rename_i id off n lo hi
        split at h1
        · rename_i ty q e0
          split at h1
          · cases h1
            intro id' hid
            simp at hid; subst hid
            simp [lives, e0, liveO]
          · cases h1
        · split at h1
          · cases h1; simp
          · cases h1
        · cases h1

theorem toD_sound {t : T} {ls : List L} {s : List (List Value)} {K : den t → Hm → Option R} (H : Rel M S w0 h g w) (hs : Al2 (Rl (memOf M S w0 h g w)) ls s) (hk : toD t ls h K = some res) :
    ∃ x f, Rel M S w0 (freeze h f) g w ∧ (memOf M S w0 h g w).Le (memOf M S w0 (freeze h f) g w) ∧ At w (memOf M S w0 (freeze h f) g w).I t x s.flatten ∧ K x (freeze h f) = some res := by
  unfold toD at hk
  split at hk
  · rename_i x f hd
    obtain ⟨H', le⟩ := H.drops f
    have hlv := decL_live _ _ _ _ _ hd
    obtain ⟨l1, s1, s2, e1, rfl, h2, _, h3⟩ := decL_sound (m' := memOf M S w0 (freeze h f) g w) H.objs le.imm (fun b _ => rfl) _ _ _ _ _ _ hd (fun id hid b hb => H.drops_imm hlv id hid b (by
      have hl := hlv id hid
      cases ho : h[id]? with
      | none => simp [lives, ho, liveO] at hl
      | some o =>
        have := H.obj _ _ ho
        exact hb)) hs
    have := h3.nil_left
    subst this
    exact ⟨x, f, H', le, by rw [List.append_nil]; exact h2, hk⟩
  · cases hk

theorem leaves_sound {v : V} {val : Value} {ls : List L} (hv : Rv m v val) (hl : leaves v = some ls) : ∃ s, val.cells = cells s ∧ Al2 (Rl m) ls s := by
  unfold leaves at hl
  split at hl
  · rename_i x
    cases hl
    have h1 : Rl m x [val] := hv
    exact ⟨[[val]], by rw [oneCell_cells (Rl.one x _ h1 val (by simp))]; rfl, h1, trivial⟩
  · cases hl
    obtain ⟨s, h1, h2⟩ := hv
    exact ⟨s, by rw [h1, cells_ag], h2⟩
  · cases hl

/-- a store into a row -/
theorem run_storeVar {T bt : TypeId} {b a n : Nat} {cur : Array Value} {fz : Nat × Nat} {v : Value} {new : List (List Value)} (hb : w.heap[b]? = some (.cells cur bt fz)) (hfz : ∀ j, j < cur.size → ¬ (fz.1 ≤ j ∧ j < fz.2)) (hn : widT P T = some n)
    (hv : v.cells = cells new) (hl : new.flatten.length = n) (ha : a + n ≤ cur.size) (h1 : One new) :
    (storeVar T ⟨b, a, none⟩ v).run P w = .ok () (w.setRow b (cur.toList.take a ++ new.flatten ++ cur.toList.drop (a + n)).toArray) := by
  obtain ⟨i, hi, hsz⟩ := Option.map_eq_some_iff.1 hn
  have hst := run_storeCells_seg P b a bt fz new.flatten 0 cur w hb hfz (by omega) h1
  simp only [Nat.add_zero, hl] at hst
  have hc : v.cells.size = n := by rw [hv]; simpa [cells] using hl
  have e2 : v.cells.toList = new.flatten := by rw [hv]; simp [cells]
  simp [storeVar, sizeOf, typeInfo, hi, hsz, hc, e2, hst]

theorem ex_store {T : TypeId} {x y : Operand} {a : Addr} {v : Value} (hx : ev r x = .pointer (some a)) (hy : ev r y = v) (hr : (storeVar T a v).run P w = .ok () w') :
    (execOp (ev r) ⟨d, .store T x y, ty, pos, aft, gd⟩).run P w = .ok .skip w' := by
  simp [execOp, hx, hy, Instr.storeAt, Instr.sureAddr, hr]

/-- a piece of a list is changed -/
theorem splice3 {A B C D : List Value} (hl : D.length = B.length) : (A ++ (B ++ C)).take A.length ++ D ++ (A ++ (B ++ C)).drop (A.length + D.length) = A ++ (D ++ C) := by
  have := splice A B C D hl
  simpa [List.append_assoc] using this

/-- an element of rows of one width is changed in part -/
theorem splice_elem {ys : List (List Value)} {z j : Nat} {p q r' D : List Value} (hz : ∀ y ∈ ys, y.length = z) (hj : ys[j]? = some (p ++ (q ++ r'))) (hl : D.length = q.length) :
    ys.flatten.take (j * z + p.length) ++ D ++ ys.flatten.drop (j * z + p.length + D.length) = (ys.set j (p ++ (D ++ r'))).flatten := by
  have hlt : j < ys.length := (List.getElem?_eq_some_iff.1 hj).1
  have e1 : ys = ys.take j ++ ((p ++ (q ++ r')) :: ys.drop (j + 1)) := by
    have : ys.drop j = (p ++ (q ++ r')) :: ys.drop (j + 1) := by
      rw [List.drop_eq_getElem_cons hlt]
      congr 1
      exact Option.some.inj ((List.getElem?_eq_getElem hlt).symm.trans hj)
    rw [← this, List.take_append_drop]
  have hA : (ys.take j).flatten.length = j * z := by
    rw [flat_len fun y hy => hz y (List.mem_of_mem_take hy), List.length_take, Nat.min_eq_left (by omega)]
  have e2 : ys.flatten = ((ys.take j).flatten ++ p) ++ (q ++ (r' ++ (ys.drop (j + 1)).flatten)) := by
    conv => lhs; rw [e1]
    simp
  have e3 : (ys.set j (p ++ (D ++ r'))).flatten = ((ys.take j).flatten ++ p) ++ (D ++ (r' ++ (ys.drop (j + 1)).flatten)) := by
    rw [List.set_eq_take_append_cons_drop, if_pos hlt]
    simp
  rw [e2, e3]
  have := splice3 (A := (ys.take j).flatten ++ p) (B := q) (C := r' ++ (ys.drop (j + 1)).flatten) (D := D) hl
  rw [List.length_append, hA] at this
  exact this

theorem store_sound {T : TypeId} {x y : Operand} {v : V} {K : Hm → Option R} (H : Rel M S w0 h g w) (hx : Rv (memOf M S w0 h g w) (opnd e x) (ev r x)) (hy : Rv (memOf M S w0 h g w) v (ev r y)) (hk : storeOp P T (opnd e x) v h K = some res) :
    Step P ⟨d, .store T x y, ty, pos, aft, gd⟩ r w (After M S w0 h g w (fun _ h => K h) res) := by
  generalize opnd e x = p at hk hx
  unfold storeOp at hk
  split at hk
  · rename_i new n hlv hn
    obtain ⟨sn, hcn, hsn⟩ := leaves_sound hy hlv
    rw [cond_eq_ite] at hk
    split at hk
    · rename_i hwn
      have hwn := Nat.eq_of_beq_eq_true hwn
      have hln : sn.flatten.length = n := (Rls.len hsn).trans hwn
      have hon := Rls.one hsn
      split at hk
      · -- a variable
        rename_i id off
        split at hk
        · rename_i t ls ho
          split at hk
          · rename_i pre mid post hc
            have hli : lives h id := by simp [lives, ho, liveO]
            obtain ⟨b, s, hgb, hcell, hs⟩ := H.obj _ _ ho
            obtain ⟨_, b', hgb', hval⟩ := hx
            have hgb' : g id = _ := hgb'
            rw [hgb] at hgb'; cases hgb'
            have hval : ev r x = .pointer (some ⟨b, off, none⟩) := by simpa using hval
            obtain ⟨s1, s2, s3, rfl, k1, k2, k3, l1, l2, _⟩ := cut_segs hc hs
            have hrun := run_storeVar (P := P) (T := T) (a := off) hcell (by intro j _ hj; simp at hj) hn hcn hln (by simp only [cells, List.flatten_append, List.size_toArray, List.length_append]; omega) hon
            have e1 : (cells (s1 ++ (s2 ++ s3))).toList.take off ++ sn.flatten ++ (cells (s1 ++ (s2 ++ s3))).toList.drop (off + n) = (s1 ++ sn ++ s3).flatten := by
              have := splice3 (A := s1.flatten) (B := s2.flatten) (C := s3.flatten) (D := sn.flatten) (by omega)
              rw [l1, hln] at this
              simp only [cells, List.flatten_append, List.append_assoc] at this ⊢
              exact this
            rw [e1] at hrun
            have hfo : foot (g id) = some b := by rw [hgb]; rfl
            obtain ⟨g1, g2⟩ := setRow_grown (cs' := (s1 ++ sn ++ s3).flatten.toArray) hcell
            obtain ⟨H', le⟩ := H.set (w' := w.setRow b (s1 ++ sn ++ s3).flatten.toArray) hli (.blk t (pre ++ new ++ post)) (by rw [hfo]; exact g1) fun le => ⟨b, s1 ++ sn ++ s3, hgb, g2, ((Rls.mono le k1).append (Rls.mono le hsn)).append (Rls.mono le k3)⟩
            exact .skip (ex_store hval rfl hrun) ⟨.u, _, _, H', le, trivial, hk⟩
          · cases hk
        · cases hk
      · -- an element of a slice of the call's own
        rename_i id z i off
        split at hk
        · rename_i t' t xs ho
          rw [cond_eq_ite] at hk
          split at hk
          · rename_i hzt
            have hzt := Nat.eq_of_beq_eq_true hzt
            subst hzt
            split at hk
            · rename_i pre mid post hc
              have hli : lives h id := by simp [lives, ho, liveO]
              obtain ⟨h0, h1, ys, b, a, hO, hs, hp, hca, hval, hfo⟩ := H.epO ho hx
              obtain ⟨c, hc1, hat⟩ := elem_CA (m := memOf M S w0 h g w) hs h0 h1
              obtain ⟨s, rfl, hss⟩ := At.enc (m := memOf M S w0 h g w) _ _ _ hat
              obtain ⟨s1, s2, s3, rfl, k1, k2, k3, l1, l2, _⟩ := cut_segs hc hss
              obtain ⟨y', f, H1, le1, hat', hk⟩ := toD_sound H ((k1.append hsn).append k3) hk
              rw [cond_eq_ite] at hk
              split at hk
              · rename_i hl1
                have hl1 : lives (freeze h f) id := hl1
                -- where it lies
                rcases hO.2 with ⟨_, h00⟩ | ⟨q, cap, cur, fz, hgq, hcp, hcm, hg, hfz, hcs, hxx⟩
                · subst h00; simp at hc1
                · have hb : b = q ∧ a = 0 := by
                    have h2 := hp 0
                    rw [hgq] at h2
                    simp only [eptr, add_lit, Value.pointer.injEq, Option.some.injEq, Addr.mk.injEq] at h2
                    omega
                  obtain ⟨rfl, rfl⟩ := hb
                  have hall := (hs.flat_len (At.len t)).1
                  have hjl : i.toNat < ys.length := (List.getElem?_eq_some_iff.1 hc1).1
                  have hyl := flat_len hall
                  have hzl := hall _ (List.mem_of_getElem? hc1)
                  simp only [List.flatten_append, List.length_append] at hzl
                  have hrow : (i.toNat + 1) * wid t ≤ ys.length * wid t := Nat.mul_le_mul_right _ hjl
                  have hcap : ys.length * wid t ≤ cap * wid t := Nat.mul_le_mul_right _ hcp
                  rw [Nat.add_mul, Nat.one_mul] at hrow
                  have hrun := run_storeVar (P := P) (T := T) (a := i.toNat * wid t + off) hg hfz hn hcn hln (by omega) hon
                  have hpre : cur.toList = ys.flatten ++ cur.toList.drop ys.flatten.length := by
                    have : cur.toList.take ys.flatten.length = ys.flatten := by
                      apply List.ext_getElem?
                      intro k
                      rw [List.getElem?_take]
                      by_cases hk : k < ys.flatten.length
                      · rw [if_pos hk, List.getElem?_eq_getElem hk]
                        simpa using hxx k _ (List.getElem?_eq_getElem hk)
                      · rw [if_neg hk, List.getElem?_eq_none (by omega)]
                    conv => lhs; rw [← List.take_append_drop ys.flatten.length cur.toList, this]
                  have e1 : cur.toList.take (i.toNat * wid t + off) ++ sn.flatten ++ cur.toList.drop (i.toNat * wid t + off + n) = (ys.set i.toNat (s1 ++ sn ++ s3).flatten).flatten ++ cur.toList.drop ys.flatten.length := by
                    have hsp := splice_elem (p := s1.flatten) (q := s2.flatten) (r' := s3.flatten) (D := sn.flatten) hall (by rw [hc1]; simp) (by omega)
                    rw [l1, hln] at hsp
                    rw [show (s1 ++ sn ++ s3).flatten = s1.flatten ++ (sn.flatten ++ s3.flatten) by simp, ← hsp]
                    conv => lhs; rw [hpre]
                    rw [List.take_append_of_le_length (by omega), List.drop_append_of_le_length (by omega)]
                    simp only [List.append_assoc]
                  rw [e1] at hrun
                  obtain ⟨g1, g2⟩ := setRow_grown (cs' := ((ys.set i.toNat (s1 ++ sn ++ s3).flatten).flatten ++ cur.toList.drop ys.flatten.length).toArray) hg
                  have hnl : (s1 ++ sn ++ s3).flatten.length = wid t := by simp only [List.flatten_append, List.length_append]; omega
                  have hall' : ∀ y ∈ ys.set i.toNat (s1 ++ sn ++ s3).flatten, y.length = wid t := fun y hy => by
                    rcases List.mem_or_eq_of_mem_set hy with h | h
                    · exact hall y h
                    · rw [h]; exact hnl
                  have hnl2 := flat_len hall'
                  rw [List.length_set] at hnl2
                  have hsz : ((ys.set i.toNat (s1 ++ sn ++ s3).flatten).flatten ++ cur.toList.drop ys.flatten.length).toArray.size = cur.size := by
                    simp only [List.size_toArray, List.length_append, List.length_drop, Array.length_toList]; omega
                  have hval' : ev r x = .pointer (some ⟨b, i.toNat * wid t + off, none⟩) := by rw [hval]; congr 3; omega
                  have ho1 : (freeze h f)[id]? ≠ some .gone := fun e => by rw [lives, e] at hl1; cases hl1
                  have hho : ∀ (le : (memOf M S w0 (freeze h f) g w).Le (memOf M S w0 ((freeze h f).set id (.arr t' t (lset xs i y'))) g (w.setRow b ((ys.set i.toNat (s1 ++ sn ++ s3).flatten).flatten ++ cur.toList.drop ys.flatten.length).toArray))),
                      Ho (memOf M S w0 ((freeze h f).set id (.arr t' t (lset xs i y'))) g (w.setRow b ((ys.set i.toNat (s1 ++ sn ++ s3).flatten).flatten ++ cur.toList.drop ys.flatten.length).toArray)) (g id) (.arr t' t (lset xs i y')) := by
                    intro le
                    refine ⟨ys.set i.toNat (s1 ++ sn ++ s3).flatten, ⟨hall', .inr ⟨b, cap, _, fz, by rw [List.length_set]; exact hgq, by rw [List.length_set]; exact hcp, hcm, g2, fun j hj => hfz j (by rw [hsz] at hj; exact hj), by rw [hsz]; exact hcs, fun j u hj => ?_⟩⟩, ?_⟩
                    · have hjl' := (List.getElem?_eq_some_iff.1 hj).1
                      simp only [List.getElem?_toArray]
                      rw [List.getElem?_append_left hjl']; exact hj
                    · exact (hs.mono (At.mono (le1.trans le).imm t)).set i.toNat (At.mono le.imm t _ _ hat')
                  obtain ⟨H', le⟩ := H1.set (w' := w.setRow b ((ys.set i.toNat (s1 ++ sn ++ s3).flatten).flatten ++ cur.toList.drop ys.flatten.length).toArray) hl1 (.arr t' t (lset xs i y')) (by rw [hO.foot_eq, hfo]; exact g1) hho
                  exact .skip (ex_store hval' rfl hrun) ⟨.u, _, _, H', le1.trans le, trivial, hk⟩
              · cases hk
            · cases hk
          · cases hk
        · cases hk
      · -- an element of an array in a variable
        rename_i id off m' z i k
        split at hk
        · rename_i t0 ls ho
          split at hk
          · rename_i pre t m'' x' post hsk
            rw [cond_eq_ite] at hk
            split at hk
            · rename_i hb
              rw [Bool.and_eq_true] at hb
              obtain ⟨hb1, hzt⟩ := hb
              have hb1 := Nat.eq_of_beq_eq_true hb1
              have hzt := Nat.eq_of_beq_eq_true hzt
              subst hb1
              subst hzt
              split at hk
              · rename_i pr mid po hc
                have hli : lives h id := by simp [lives, ho, liveO]
                obtain ⟨b, s, hgb, hcell, hs⟩ := H.obj _ _ ho
                obtain ⟨_, h0, h1, b', hgb', hval⟩ := hx
                have hgb' : g id = _ := hgb'
                rw [hgb] at hgb'; cases hgb'
                obtain ⟨h2, h3⟩ := skipL_sound _ _ _ _ hsk
                subst h2
                obtain ⟨s1, s2, rfl, k1, k2⟩ := hs.split
                obtain ⟨c, s3, rfl, k3, k4⟩ := k2.cons_left
                obtain ⟨ys, rfl, k5⟩ := k3
                have hall := (k5.flat_len (At.len t)).1
                have hlen : (x'.toList.length : Int) = m' := by simp
                obtain ⟨c, hc1, hat⟩ := elem_CA (m := memOf M S w0 h g w) k5 h0 (by rw [hlen]; exact h1)
                obtain ⟨s, rfl, hss⟩ := At.enc (m := memOf M S w0 h g w) _ _ _ hat
                obtain ⟨q1, q2, q3, rfl, j1, j2, j3, l1, l2, _⟩ := cut_segs hc hss
                obtain ⟨y', f, H1, le1, hat', hk⟩ := toD_sound H ((j1.append hsn).append j3) hk
                rw [cond_eq_ite] at hk
                split at hk
                rotate_left
                · cases hk
                rename_i hl1
                have hl1 : lives (freeze h f) id := hl1
                have hoff : s1.flatten.length = off := (Rls.len k1).trans h3
                have hjl : i.toNat < ys.length := (List.getElem?_eq_some_iff.1 hc1).1
                have hyl := flat_len hall
                have hzl := hall _ (List.mem_of_getElem? hc1)
                simp only [List.flatten_append, List.length_append] at hzl
                have hrow : (i.toNat + 1) * wid t ≤ ys.length * wid t := Nat.mul_le_mul_right _ hjl
                rw [Nat.add_mul, Nat.one_mul] at hrow
                have hrun := run_storeVar (P := P) (T := T) (a := off + (i.toNat * wid t + k)) hcell (by intro j _ hj; simp at hj) hn hcn hln (by simp only [cells, List.flatten_append, List.flatten_cons, List.size_toArray, List.length_append]; omega) hon
                have e1 : (cells (s1 ++ ys.flatten :: s3)).toList.take (off + (i.toNat * wid t + k)) ++ sn.flatten ++ (cells (s1 ++ ys.flatten :: s3)).toList.drop (off + (i.toNat * wid t + k) + n) = (s1 ++ (ys.set i.toNat (q1 ++ sn ++ q3).flatten).flatten :: s3).flatten := by
                  have hsp := splice_elem (p := q1.flatten) (q := q2.flatten) (r' := q3.flatten) (D := sn.flatten) hall (by rw [hc1]; simp) (by omega)
                  rw [l1, hln] at hsp
                  simp only [cells, List.flatten_append, List.flatten_cons]
                  rw [show q1.flatten ++ sn.flatten ++ q3.flatten = q1.flatten ++ (sn.flatten ++ q3.flatten) by simp, ← hsp, ← hoff]
                  rw [List.take_append, List.drop_append]
                  have e2 : s1.flatten.take (s1.flatten.length + (i.toNat * wid t + k)) = s1.flatten := List.take_of_length_le (by omega)
                  have e3 : s1.flatten.drop (s1.flatten.length + (i.toNat * wid t + k) + n) = [] := List.drop_eq_nil_of_le (by omega)
                  rw [e2, e3, show s1.flatten.length + (i.toNat * wid t + k) - s1.flatten.length = i.toNat * wid t + k by omega, show s1.flatten.length + (i.toNat * wid t + k) + n - s1.flatten.length = i.toNat * wid t + k + n by omega]
                  rw [List.take_append_of_le_length (by omega), List.drop_append_of_le_length (by omega)]
                  simp only [List.append_assoc, List.nil_append]
                rw [e1] at hrun
                have hfo : foot (g id) = some b := by rw [hgb]; rfl
                obtain ⟨g1, g2⟩ := setRow_grown (cs' := (s1 ++ (ys.set i.toNat (q1 ++ sn ++ q3).flatten).flatten :: s3).flatten.toArray) hcell
                have hho : ∀ (le : (memOf M S w0 (freeze h f) g w).Le (memOf M S w0 ((freeze h f).set id (.blk t0 (pre ++ .arr t m' (vset x' i y') :: post))) g (w.setRow b (s1 ++ (ys.set i.toNat (q1 ++ sn ++ q3).flatten).flatten :: s3).flatten.toArray))),
                    Ho (memOf M S w0 ((freeze h f).set id (.blk t0 (pre ++ .arr t m' (vset x' i y') :: post))) g (w.setRow b (s1 ++ (ys.set i.toNat (q1 ++ sn ++ q3).flatten).flatten :: s3).flatten.toArray)) (g id) (.blk t0 (pre ++ .arr t m' (vset x' i y') :: post)) := by
                  intro le
                  refine ⟨b, s1 ++ (ys.set i.toNat (q1 ++ sn ++ q3).flatten).flatten :: s3, hgb, g2, (Rls.mono (le1.trans le) k1).append ⟨⟨_, rfl, ?_⟩, Rls.mono (le1.trans le) k4⟩⟩
                  have := (k5.mono (At.mono (le1.trans le).imm t)).set i.toNat (At.mono le.imm t _ _ hat')
                  simpa [vset] using this
                obtain ⟨H', le⟩ := H1.set (w' := w.setRow b (s1 ++ (ys.set i.toNat (q1 ++ sn ++ q3).flatten).flatten :: s3).flatten.toArray) hl1 (.blk t0 (pre ++ .arr t m' (vset x' i y') :: post)) (by rw [hfo]; exact g1) hho
                exact .skip (ex_store hval rfl hrun) ⟨.u, _, _, H', le1.trans le, trivial, hk⟩
              · cases hk
            · cases hk
          · cases hk
        · cases hk
      · cases hk
    · cases hk
  · cases hk
end
end Go.Dor
