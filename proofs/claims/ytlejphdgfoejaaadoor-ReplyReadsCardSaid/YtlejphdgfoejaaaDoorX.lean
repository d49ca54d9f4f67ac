/- SLICES: read, cut, measured, turned into texts. Plain lemmas over any program. -/
import Derived.Test.YtlejphdgfoejaaaDoorV
namespace Go.Dor
open Go.RowKit (Below)
section
variable {P : Program} {M S : Nat → Prop} {w0 w w' : World} {h : Hm} {g : Nat → Value} {R : Type} {res : R} {K : V → Hm → Option R} {K1 : V → Option R}
  {d : Option Tmp} {ty : TypeId} {pos : String} {aft : Array Edge} {gd : Option (Nat × Bool)} {e : Ev} {r : Env}

theorem singles : ∀ {ys : List (List Value)}, (∀ y ∈ ys, y.length = 1) → ys.flatten.map (fun v => [v]) = ys
  | [], _ => rfl
  | y :: ys, h => by
    have h1 := h y (by simp)
    match y, h1 with
    | [v], _ =>
      have ih := singles (ys := ys) (fun y hy => h y (List.mem_cons_of_mem _ hy))
      simp only [List.flatten_cons, List.map_cons, List.cons_append, List.nil_append, ih]
theorem flat_single {ys : List (List Value)} (h : ∀ y ∈ ys, y.length = 1) : ys.flatten.length = ys.length := by
  have := flat_len h
  omega
theorem sub_single {ys : List (List Value)} (h : ∀ y ∈ ys, y.length = 1) (a b : Int) : (sub_ ys a b).flatten = sub_ ys.flatten a b := by
  have e := singles h
  have : sub_ ys a b = (sub_ ys.flatten a b).map fun v => [v] := by rw [sub_map (fun v : Value => [v]), e]
  rw [this, flat1]; simp

theorem rd_bsv {b A n : Nat} {a c : Int} {ys : List (List Value)} (hca : CA w b A ys.flatten) (h1 : ∀ y ∈ ys, y.length = 1) (hn : ys.length = n) (hc : 0 ≤ a ∧ a ≤ c ∧ c ≤ (n : Int)) : Rd w (bsv b A n a c) 1 (sub_ ys a c) := by
  have hlen : (sub_ ys a c).length = c.toNat - a.toNat := by simp only [sub_, List.length_drop, List.length_take]; omega
  refine ⟨fun y hy => h1 y (List.mem_of_mem_take (List.mem_of_mem_drop hy)), ?_⟩
  by_cases h0 : n = 0
  · left
    have hn0 : ys = [] := List.eq_nil_of_length_eq_zero (by omega)
    subst hn0
    refine ⟨⟨_, by simp only [bsv]; congr 1 <;> omega⟩, by simp [sub_]⟩
  · right
    have hb : ∃ cur t fz, w.heap[b]? = some (.cells cur t fz) := by
      have hl := flat_single h1
      have : 0 < ys.flatten.length := by omega
      have := hca 0 _ (List.getElem?_eq_getElem this)
      simp only [World.cell?] at this
      cases e : w.heap[b]? with
      | none => rw [e] at this; cases this
      | some o => rw [e] at this; cases o <;> first | exact ⟨_, _, _, rfl⟩ | cases this
    obtain ⟨cur, t, fz, hb⟩ := hb
    refine ⟨b, if n = a.toNat then A else A + a.toNat, n - a.toNat, cur, t, fz, by rw [hlen]; rfl, by rw [hlen]; omega, hb, fun j x hj => ?_⟩
    rw [sub_single h1] at hj
    have hjl := (List.getElem?_eq_some_iff.1 hj).1
    simp only [sub_, List.length_drop, List.length_take] at hjl
    have hl := flat_single h1
    have hne : n ≠ a.toNat := by omega
    rw [if_neg hne]
    have : ys.flatten[a.toNat + j]? = some x := by
      simp only [sub_, List.getElem?_drop, List.getElem?_take] at hj
      split at hj
      · exact hj
      · cases hj
    have := hca _ _ this
    rw [cell_of_row w b _ cur t fz hb] at this
    rw [Nat.add_assoc]; exact this

theorem foot_bsv {b A n : Nat} {a c : Int} {q : Nat} (h : vfoot (bsv b A n a c) = some q) : q = b := by
  simp only [bsv, vfoot] at h
  split at h
  · cases h
  · simpa using h.symm

theorem readS_seen {v : V} {val : Value} {t : T} {xs : List (den t)} (H : Rel M S w0 h g w) (hx : Rv (memOf M S w0 h g w) v val) (hr : readS h v = some ⟨t, xs⟩) :
    ∃ ys, Rd w val (wid t) ys ∧ Al2 (At w (memOf M S w0 h g w).I t) xs ys ∧ ∀ b, vfoot val = some b → Seen (memOf M S w0 h g w) h b := by
  unfold readS at hr
  split at hr
  · cases hr
    obtain ⟨v, hv, ys, h1, h2, h3⟩ := hx
    have hv : val = v := by simpa using hv
    subst hv
    exact ⟨ys, h1, h2, fun b hb => .inl (h3 b hb)⟩
  · rename_i id
    split at hr
    · rename_i ty' t' xs' ho
      cases hr
      have hli : lives h id := by simp [lives, ho, liveO]
      obtain ⟨_, v, hv, _, _, hv2⟩ := hx
      have hv : val = v := by simpa using hv
      have hv2 := hv2 hli
      have hv2 : v = g id := hv2
      obtain ⟨ys, hO, hs⟩ := H.obj _ _ ho
      exact ⟨ys, by rw [hv, hv2]; exact hO.rd, hs, fun b hb => .inr ⟨id, hli, foot_vfoot (by show vfoot (g id) = some b; rw [← hv2, ← hv]; exact hb)⟩⟩
    · rename_i ho; exact (H.obj _ _ ho).elim
    · cases hr
  · rename_i id off n lo hi
    split at hr
    · rename_i t' ls hrd
      split at hr
      · rename_i pre u n' x post hsk
        rw [cond_eq_ite] at hr
        split at hr
        · rename_i hb
          rw [Bool.and_eq_true] at hb
          obtain ⟨hb1, hw1⟩ := hb
          have hb1 := Nat.eq_of_beq_eq_true hb1
          have hw1 := Nat.eq_of_beq_eq_true hw1
          subst hb1
          cases hr
          obtain ⟨_, h0, h1, h2, b, hgb, hval⟩ := hx
          have hval : val = bsv b off n lo hi := by simpa using hval
          obtain ⟨b', s, hb', hcell, hs⟩ := H.rdls hrd
          have hgb : g id = _ := hgb
          rw [hb'] at hgb; cases hgb
          obtain ⟨h3, h4⟩ := skipL_sound _ _ _ _ hsk
          subst h3
          obtain ⟨s1, s2, rfl, k1, k2⟩ := hs.split
          obtain ⟨c, s3, rfl, k3, k4⟩ := k2.cons_left
          have hca := blk_CA hcell
          rw [List.flatten_append, List.flatten_cons] at hca
          have hca := hca.sub
          rw [Nat.zero_add, (Rls.len k1).trans h4] at hca
          obtain ⟨ys, rfl, k5⟩ := k3
          have hz := (k5.flat_len (At.len _)).1
          rw [hw1] at hz
          have hl := k5.length
          refine ⟨sub_ ys lo hi, ?_, sub_al2 k5 lo hi, fun q hq => ?_⟩
          · rw [hval, hw1]
            exact rd_bsv hca hz (by rw [← hl]; simp) ⟨h0, h1, h2⟩
          · rw [hval] at hq
            rw [foot_bsv hq]; exact H.rdseen hrd hb'
        · cases hr
      · cases hr
    · cases hr
  · cases hr

theorem readS_sound {v : V} {val : Value} {t : T} {xs : List (den t)} (H : Rel M S w0 h g w) (hx : Rv (memOf M S w0 h g w) v val) (hr : readS h v = some ⟨t, xs⟩) :
    ∃ ys, Rd w val (wid t) ys ∧ Al2 (At w (memOf M S w0 h g w).I t) xs ys := by
  obtain ⟨ys, h1, h2, _⟩ := readS_seen H hx hr
  exact ⟨ys, h1, h2⟩

theorem lenOp_sound {T : TypeId} {x : Operand} (H : Rel M S w0 h g w) (E : ER (memOf M S w0 h g w) e r) (hk : lenOp P T (opnd e x) h K1 = some res) :
    Pure P M S w0 h g w r ⟨d, .call { callee := .builtin .len, args := #[x], argTypes := #[T] }, ty, pos, aft, gd⟩ K1 res := by
  have hx := opnd_sound E x
  generalize opnd e x = p at hk hx
  unfold lenOp at hk
  split at hk
  · split at hk
    · rename_i hT; exact .mk' hk (fun _ => ex_lens hT (rv_str hx)) mk_int
    · cases hk
  · split at hk
    · rename_i hT
      have hx := rv_nil hx
      refine .mk' (val := .int .i64 0) hk (fun w' => ?_) mk_int
      have := ex_lenS (P := P) (w := w') (d := d) (ty := ty) (pos := pos) (aft := aft) (g := gd) (α := List Value) (l := []) (f := fun y => y) (z := 0) (w1 := w') (x := x) (r := r) ⟨by simp, .inl ⟨⟨none, hx⟩, rfl⟩⟩ hT rfl
      simpa using this
    · cases hk
  · rename_i id off n lo hi
    split at hk
    · rename_i hT
      obtain ⟨_, h0, h1, h2, b, hgb, hval⟩ := hx
      have hval : ev r x = bsv b off n lo hi := by simpa using hval
      refine .mk' (val := .int .i64 (hi - lo)) hk (fun w' => ?_) mk_int
      simp only [bsv] at hval
      have e1 : ((hi.toNat - lo.toNat : Nat) : Int) = hi - lo := by omega
      simp [execOp, hval, resolve, invoke, builtin, Builtin.len_, run_underlying hT, goInt, e1]
    · cases hk
  · split at hk
    · rename_i t xs _ hr hT
      obtain ⟨ys, hrd, hs⟩ := readS_sound H hx hr
      refine .mk' hk (fun w' => ?_) mk_int
      have := ex_lenS (P := P) (w := w') (d := d) (ty := ty) (pos := pos) (aft := aft) (g := gd) (l := ys) (f := fun y => y) (z := wid t) (w1 := w) (x := x) (r := r) (by rw [map_id_list]; exact hrd) hT rfl
      rw [← hs.length] at this
      exact this
    · cases hk

theorem Own.take {v : Value} {t : TypeId} {z : Nat} {ys : List (List Value)} (hO : Own w v t z ys) {b : Int} (hb : 0 ≤ b ∧ b ≤ (ys.length : Int)) : Own w (slv v 0 b z) t z (ys.take b.toNat) ∧ ∀ q, foot (slv v 0 b z) = some q → foot v = some q := by
  have hl : (ys.take b.toNat).length = b.toNat := by rw [List.length_take]; omega
  have hall : ∀ y ∈ ys.take b.toNat, y.length = z := fun y hy => hO.1 y (List.mem_of_mem_take hy)
  rcases hO.2 with ⟨⟨a, rfl⟩, rfl⟩ | ⟨q, cap, cur, fz, rfl, h1, h2, h3, h4, h5, h6⟩
  · have hb0 : b = 0 := by simp at hb; omega
    subst hb0
    refine ⟨⟨by simp, .inl ⟨⟨_, by simp only [slv]; rfl⟩, by simp⟩⟩, fun q hq => ?_⟩
    simp only [slv] at hq
    cases a <;> simp [foot, vfoot] at hq
  · have e1 : slv (.slice (some ⟨q, 0, none⟩) ys.length cap) 0 b z = .slice (some ⟨q, 0, none⟩) b.toNat cap := by
      simp only [slv]
      congr 1
      split <;> simp [Addr.add]
    rw [e1]
    refine ⟨⟨hall, .inr ⟨q, cap, cur, fz, by rw [hl], by rw [hl]; omega, h2, h3, h4, h5, fun j x hj => ?_⟩⟩, fun q hq => hq⟩
    refine h6 j x ?_
    rw [← hj]
    have e2 : ys.flatten = (ys.take b.toNat).flatten ++ (ys.drop b.toNat).flatten := by rw [← List.flatten_append, List.take_append_drop]
    rw [e2, List.getElem?_append_left (List.getElem?_eq_some_iff.1 hj).1]

theorem grown_refl (w : World) (q : Option Nat) : w.grownBy w q := ⟨rfl, rfl, rfl, Nat.le_refl _, fun _ _ _ => rfl⟩

theorem foot_of_slice {v : Value} {a : Option Addr} {n c : Nat} (h : v = .slice a n c) : foot v = vfoot v := by rw [h]; rfl
theorem Own.foot_eq {v : Value} {t : TypeId} {z : Nat} {ys : List (List Value)} (hO : Own w v t z ys) : foot v = vfoot v := by
  rcases hO.2 with ⟨⟨a, rfl⟩, _⟩ | ⟨q, cap, cur, fz, rfl, _⟩ <;> rfl

theorem Own.isSlice {v : Value} {t : TypeId} {z : Nat} {ys : List (List Value)} (hO : Own w v t z ys) : ∃ a n c, v = .slice a n c := by
  rcases hO.2 with ⟨⟨a, rfl⟩, _⟩ | ⟨q, cap, cur, fz, rfl, _⟩ <;> exact ⟨_, _, _, rfl⟩
theorem slice_cells (a : Option Addr) (n c : Nat) : (Value.slice a n c).oneCell' = true ∧ (Value.slice a n c).cells = #[.slice a n c] := ⟨rfl, rfl⟩

theorem zIs_eq {T : TypeId} {z : Nat} (h : zIs P T z = true) : widT P T = some z := by
  unfold zIs at h
  split at h
  · rename_i y hy; rw [hy, Nat.eq_of_beq_eq_true h]
  · cases h

theorem sliceP_sound {T : TypeId} {x : Operand} {lo hi : Option Operand} (E : ER (memOf M S w0 h g w) e r) (hk : sliceP P T (opnd e x) lo hi e K1 = some res) :
    Pure P M S w0 h g w r ⟨d, .slice T x lo hi none, ty, pos, aft, gd⟩ K1 res := by
  have hx := opnd_sound E x
  generalize opnd e x = p at hk hx
  unfold sliceP at hk
  split at hk
  · -- a text
    split at hk
    · rename_i a b hT ha hb
      obtain ⟨hc, hk⟩ := need_some hk
      exact (Pure.mk' hk (fun _ => ex_subT (rv_str hx) hT (bound_sound E ha) (bound_sound E hb) hc) mk_str)
    · cases hk
  · -- read alone
    rename_i t xs
    split at hk
    · rename_i el a b hT ha hb
      rw [cond_eq_ite] at hk
      split at hk
      · rename_i hz
        have hz := zIs_eq hz
        · obtain ⟨hc, hk⟩ := need_some hk
          obtain ⟨v, hv, ys, hrd, hs, hI⟩ := hx
          have hv : ev r x = v := by simpa using hv
          subst hv
          have hl := hs.length
          rw [hl] at hb hc
          refine (Pure.mk' hk (fun _ => ex_subS hrd hT hz (bound_sound E ha) (bound_sound E hb) hc) ⟨_, rfl, sub_ ys a b, hrd.sub hc.1 hc.2.1 hc.2.2, sub_al2 hs a b, fun q hq => hI q (foot_slv hq)⟩)
      · cases hk
    · cases hk
  · -- an array in a variable
    rename_i id off
    split at hk
    · rename_i n el hT
      split at hk
      · rename_i a b ha hb
        rw [cond_eq_ite] at hk
        split at hk
        · rename_i hz
          have hz := zIs_eq hz
          · obtain ⟨hc, hk⟩ := need_some hk
            obtain ⟨hlt, q, hq, hval⟩ := hx
            have hval : ev r x = .pointer (some ⟨q, off, none⟩) := by simpa using hval
            exact (Pure.mk' hk (fun _ => ex_subP hval hT hz (bound_sound E ha) (bound_sound E hb) hc) ⟨hlt, hc.1, hc.2.1, hc.2.2, q, hq, rfl⟩)
        · cases hk
      · cases hk
    · cases hk
  · -- an array that no one writes
    rename_i t u off
    split at hk
    · rename_i n el _ u' n' v post hT hsk
      split at hk
      · rename_i a b ha hb
        rw [cond_eq_ite] at hk
        split at hk
        · rename_i hz
          rw [Bool.and_eq_true, Bool.and_eq_true] at hz
          obtain ⟨⟨hnn, hw1⟩, hz⟩ := hz
          have hnn := Nat.eq_of_beq_eq_true hnn
          have hw1 := Nat.eq_of_beq_eq_true hw1
          subst hnn
          have hzz := zIs_eq hz
          · obtain ⟨hc, hk⟩ := need_some hk
            obtain ⟨q, o, c, h1, h2, h3, h4⟩ := hx
            obtain ⟨s, rfl, hs⟩ := At.enc (m := memOf M S w0 h g w) _ _ _ h3
            obtain ⟨h5, h6⟩ := skipL_sound _ _ _ _ hsk
            rw [h5] at hs
            obtain ⟨s1, s2, rfl, k1, k2⟩ := hs.split
            obtain ⟨c, s3, rfl, k3, k4⟩ := k2.cons_left
            have hca : CA w q o (s1 ++ c :: s3).flatten := h4
            rw [List.flatten_append, List.flatten_cons] at hca
            have hca := hca.sub
            rw [(Rls.len k1).trans h6] at hca
            obtain ⟨ys, rfl, k5⟩ := k3
            have hz := (k5.flat_len (At.len _)).1
            rw [hw1] at hz
            have hl := k5.length
            refine (Pure.mk' hk (fun _ => ex_subP h1 hT hzz (bound_sound E ha) (bound_sound E hb) hc) ⟨_, rfl, sub_ ys a b, ?_, sub_al2 k5 a b, fun q' hq' => ?_⟩)
            · rw [hw1]; exact rd_bsv hca hz (by rw [← hl]; simp) hc
            · rw [foot_bsv hq']; exact h2
        · cases hk
      · cases hk
    · cases hk
  · cases hk
theorem sliceOp_sound {T : TypeId} {x : Operand} {lo hi mx : Option Operand} (H : Rel M S w0 h g w) (E : ER (memOf M S w0 h g w) e r) (hk : sliceOp P T (opnd e x) lo hi mx e h K = some res) :
    Step P ⟨d, .slice T x lo hi mx, ty, pos, aft, gd⟩ r w (After M S w0 h g w K res) := by
  have hx := opnd_sound E x
  generalize hp : opnd e x = p at hk hx
  unfold sliceOp at hk
  split at hk
  · cases hk
  split at hk
  · -- of the call's own
    rename_i id
    split at hk
    · rename_i ty' t xs ho
      have hli : lives h id := by simp [lives, ho, liveO]
      obtain ⟨hlt, v, hv, _, _, hv2⟩ := hx
      have hv : ev r x = v := by simpa using hv
      have hv2 := hv2 hli
      have hv2 : v = g id := hv2
      subst hv
      obtain ⟨ys, hO, hs⟩ := H.obj _ _ ho
      have hl := hs.length
      split at hk
      · rename_i el a b hT ha hb
        rw [cond_eq_ite] at hk
        split at hk
        · rename_i hz
          have hz := zIs_eq hz
          · rw [hl] at hb
            split at hk
            · -- from the beginning: still of the call's own
              obtain ⟨hc, hk2⟩ := need_some hk
              rw [hl] at hc
              have ha0 : a = 0 := by rcases bound_sound E ha with ⟨_, h1⟩ | ⟨x, _, h1, _⟩; exact h1; cases h1
              subst ha0
              obtain ⟨hO', hf⟩ := Own.take hO ⟨by omega, hc.2.2⟩
              obtain ⟨H', le⟩ := H.turn hli (.arr ty' t (xs.take b.toNat)) (slv (g id) 0 b (wid t)) (grown_refl w _) (fun q hq => .inl (hf q hq)) fun le => ⟨_, hO', (hs.take _).mono (At.mono le.imm t)⟩
              refine .value (w' := w) (ex_subS (w1 := w) (z := wid t) (by rw [hv2]; exact hO.rd) hT hz (bound_sound E ha) (bound_sound E hb) hc) ⟨_, _, _, H', le, ?_, hk2⟩
              refine ⟨by simp [memOf], _, rfl, ?_, ?_, fun _ => ?_⟩
              · obtain ⟨a1, n1, c1, e1⟩ := hO.isSlice; have e1 : g id = _ := e1; rw [hv2, e1]; rfl
              · obtain ⟨a1, n1, c1, e1⟩ := hO.isSlice; have e1 : g id = _ := e1; rw [hv2, e1]; rfl
              · rw [hv2]; exact (gx_same g h.length _).symm
            · -- a part: read for good
              obtain ⟨hc, hk⟩ := need_some hk
              rw [hl] at hc
              obtain ⟨H', le⟩ := H.drop id
              refine .value (w' := w) (ex_subS (w1 := w) (z := wid t) (by rw [hv2]; exact hO.rd) hT hz (bound_sound E ha) (bound_sound E hb) hc) ⟨_, _, _, H', le, ?_, hk⟩
              refine ⟨_, rfl, sub_ ys a b, ?_, sub_al2 (hs.mono (At.mono le.imm t)) a b, fun q hq => ?_⟩
              · rw [hv2]; exact hO.rd.sub hc.1 hc.2.1 hc.2.2
              · rw [hv2] at hq
                have := H.drops_imm (f := [id]) (fun i hi => by simp at hi; subst hi; exact hli) id (by simp) q (by rw [hO.foot_eq]; exact foot_slv hq)
                exact this
        · cases hk
      · cases hk
    · cases hk
  · rw [← hp] at hk
    exact (sliceP_sound E hk).step H
end
end Go.Dor
