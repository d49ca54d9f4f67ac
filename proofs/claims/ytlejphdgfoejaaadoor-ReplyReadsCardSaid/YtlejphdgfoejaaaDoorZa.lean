/- COPIES, BUILT VALUES, VALUES HELD AGAINST EACH OTHER. Plain lemmas over any program. -/
import Derived.Test.YtlejphdgfoejaaaDoorZ
namespace Go.Dor
open Go.RowKit (Below)
section
variable {P : Program} {M S : Nat → Prop} {w0 w w' : World} {h : Hm} {g : Nat → Value} {R : Type} {res : R} {K : V → Hm → Option R} {K1 : V → Option R} {m : Mem}
  {d : Option Tmp} {ty : TypeId} {pos : String} {aft : Array Edge} {gd : Option (Nat × Bool)} {e : Ev} {r : Env}

/-! ### copies into an array -/
theorem hp_one {b : Nat} {bt : TypeId} {s : List (List Value)} (hb : w.heap[b]? = some (.cells (cells s) bt (0, 0))) : Hp (· = b) (· = b) w w [.blk b bt s] := by
  refine ⟨rfl, rfl, rfl, Nat.le_refl _, fun _ _ _ => rfl, fun i x hi => ?_, fun i x hi _ c hc => ?_, fun i x hi c hc => ?_, fun i j x y hi hj hne => ?_⟩
  · cases i with
    | zero => simp at hi; subst hi; exact hb
    | succ i => simp at hi
  · cases i with
    | zero => simp at hi; subst hi; simp [Res.foot] at hc; exact .inr hc.symm
    | succ i => simp at hi
  · cases i with
    | zero => simp at hi; subst hi; simp [Res.foot] at hc; exact .inr hc.symm
    | succ i => simp at hi
  · cases i with
    | zero => cases j with
      | zero => exact absurd rfl hne
      | succ j => simp at hj
    | succ i => simp at hi
theorem hp_grown {b : Nat} {L : List Res} (H : Hp (· = b) (· = b) w w' L) : w.grownBy w' (some b) := ⟨H.os, H.tape, H.output, H.size, fun k hk hne => H.old k hk fun e => hne (by rw [e])⟩

theorem copy_sound {T U : TypeId} {x y : Operand} (H : Rel M S w0 h g w) (E : ER (memOf M S w0 h g w) e r) (hk : copyOp P T U (opnd e x) (opnd e y) h K = some res) :
    Step P ⟨d, .call { callee := .builtin .copy, args := #[x, y], argTypes := #[T, U] }, ty, pos, aft, gd⟩ r w (After M S w0 h g w K res) := by
  have hx := opnd_sound E x
  have hy := opnd_sound E y
  generalize opnd e x = p at hk hx
  unfold copyOp at hk
  split at hk
  · rename_i id off n lo hi el hT
    split at hk
    · rename_i t0 ls ho hz
      split at hk
      · rename_i pre t n' x' post hsk
        split at hk
        · rename_i ys hsrc
          rw [cond_eq_ite] at hk
          split at hk
          · rename_i hb
            rw [Bool.and_eq_true, Bool.and_eq_true] at hb
            obtain ⟨⟨hb1, hw1⟩, _⟩ := hb
            have hb1 := Nat.eq_of_beq_eq_true hb1
            have hw1 := Nat.eq_of_beq_eq_true hw1
            subst hb1
            obtain ⟨hc, hk⟩ := need_some hk
            have hli : lives h id := by simp [lives, ho, liveO]
            obtain ⟨b, s, hgb, hcell, hs⟩ := H.obj _ _ ho
            obtain ⟨_, h0, h1, h2, b', hgb', hval⟩ := hx
            have hgb' : g id = _ := hgb'
            rw [hgb] at hgb'; cases hgb'
            have hval : ev r x = bsv b off n lo hi := by simpa using hval
            obtain ⟨h3, h4⟩ := skipL_sound _ _ _ _ hsk
            subst h3
            obtain ⟨s1, s2, rfl, k1, k2⟩ := hs.split
            obtain ⟨c, s3, rfl, k3, k4⟩ := k2.cons_left
            obtain ⟨zs, rfl, k5⟩ := k3
            obtain ⟨us, hS, hus⟩ := source_sound H hy hsrc
            have hzl := k5.all_len
            have hul := hus.all_len
            rw [hw1] at hzl hul hS
            have hzn : zs.flatten.length = n := by rw [flat_single hzl, ← k5.length]; simp
            have hun : us.flatten.length = ys.length := by rw [flat_single hul, hus.length]
            -- the array's cells as a row of values
            let av : Vector Value n := ⟨zs.flatten.toArray, by simpa using hzn⟩
            have hav : av.toList.map (fun v : Value => v) = zs.flatten := by simp [av]
            have hS' : Src P 1 U (ev r y) us.flatten.length (us.flatten.map fun v => v) w := by rw [List.map_id', hun]; exact hS
            have st := st_copyBs (P := P) (r := r) (d := d) (ty := ty) (pos := pos) (aft := aft) (g := gd) (x := x) (y := y) (i := 0) (k := fun v : Value => v) (av := av) (xs := us.flatten) s1 s3 (hp_one hcell) rfl (by rw [hav]; simp) ((Rls.len k1).trans h4) ⟨h0, h1, h2⟩ hT hz hS' hval rfl (by rw [hun]; exact hc)
            refine st.mono fun v w' hv => ?_
            obtain ⟨rfl, Hp'⟩ := hv
            have hcell' := Hp'.blk (i := 0) rfl
            have hfo : foot (g id) = some b := by rw [hgb]; rfl
            have hlo : lo.toNat + us.flatten.length ≤ n := by omega
            have hvl : (vcopy av lo us.flatten).toList.map (fun v : Value => v) = (zs.take lo.toNat ++ us ++ zs.drop (lo.toNat + ys.length)).flatten := by
              rw [List.map_id']
              have e1 : (vcopy av lo us.flatten).toList = av.toList.take lo.toNat ++ us.flatten ++ av.toList.drop (lo.toNat + us.flatten.length) := by
                unfold vcopy; rw [dif_pos hlo]; rfl
              have e2 : av.toList = zs.flatten := by simp [av]
              have e3 : (zs.take lo.toNat).flatten = zs.flatten.take lo.toNat := by
                have := sub_single hzl 0 lo
                simpa [sub_] using this
              have e4 : (zs.drop (lo.toNat + ys.length)).flatten = zs.flatten.drop (lo.toNat + ys.length) := by
                have := sub_single hzl ((lo.toNat + ys.length : Nat) : Int) (zs.length : Int)
                have e5 := flat_single hzl
                simp only [sub_, Int.toNat_natCast] at this
                rw [List.take_of_length_le (Nat.le_refl _), List.take_of_length_le (by omega)] at this
                exact this
              rw [e1, e2, List.flatten_append, List.flatten_append, e3, e4, hun]
            rw [hvl] at hcell'
            have hcell2 : w'.heap[b]? = some (.cells (cells (s1 ++ (zs.take lo.toNat ++ us ++ zs.drop (lo.toNat + ys.length)).flatten :: s3)) t0 (0, 0)) := by rw [hcell']; simp
            obtain ⟨H', le⟩ := H.set (w' := w') hli (.blk t0 (pre ++ .arr t n (vcopy x' lo ys) :: post)) (by rw [hfo]; exact hp_grown Hp') fun le => ⟨b, s1 ++ (zs.take lo.toNat ++ us ++ zs.drop (lo.toNat + ys.length)).flatten :: s3, hgb, hcell2, (Rls.mono le k1).append ⟨⟨_, rfl, by
                have e1 : (vcopy x' lo ys).toList = x'.toList.take lo.toNat ++ ys ++ x'.toList.drop (lo.toNat + ys.length) := by
                  unfold vcopy; rw [dif_pos (by omega)]; rfl
                rw [e1]
                have k5' := k5.mono (At.mono le.imm t)
                exact ((k5'.take _).append (hus.mono (At.mono le.imm t))).append (k5'.drop _)⟩, Rls.mono le k4⟩⟩
            exact ⟨_, _, _, H', le, by rw [hun]; exact mk_int, hk⟩
          · cases hk
        · cases hk
      · cases hk
    · cases hk
  · cases hk

/-! ### values that are built -/
theorem allLeaves_sound (E : ER m e r) : ∀ {parts : List (Nat × Operand)} {ps : List (Nat × List L)}, allLeaves e parts = some ps →
    ps.map (·.1) = parts.map (·.1) ∧ Al2 (fun (p : Nat × List L) (v : Value) => ∃ s, v.cells = cells s ∧ Al2 (Rl m) p.2 s) ps (parts.map fun x => ev r x.2)
  | [], ps, h => by cases h; exact ⟨rfl, trivial⟩
  | (i, x) :: l, ps, h => by
    simp only [allLeaves] at h
    split at h
    · rename_i a q h1 h2
      cases h
      obtain ⟨h3, h4⟩ := allLeaves_sound E h2
      exact ⟨by simp [h3], leaves_sound (opnd_sound E x) h1, h4⟩
    · cases h

theorem fillL_sound {pl : List (Nat × Nat)} : ∀ {ps : List (Nat × List L)} {vals : List Value} {ls ls' : List L} {s : List (List Value)}, fillL pl ps ls = some ls' → Al2 (Rl m) ls s →
    Al2 (fun (p : Nat × List L) (v : Value) => ∃ s, v.cells = cells s ∧ Al2 (Rl m) p.2 s) ps vals → ∃ s', Instr.fill (fun i => pl[i]?) (cells s) ((ps.map (·.1)).zip vals) = some (cells s') ∧ Al2 (Rl m) ls' s'
  | [], vals, ls, ls', s, h, hs, hv => by
    cases h
    exact ⟨s, rfl, hs⟩
  | (i, new) :: q, vals, ls, ls', s, h, hs, hv => by
    obtain ⟨v, vals, rfl, ⟨sn, hcn, hsn⟩, hv⟩ := hv.cons_left
    simp only [fillL] at h
    split at h
    · rename_i off n hp
      rw [cond_eq_ite] at h
      split at h
      · rename_i hw
        have hw := Nat.eq_of_beq_eq_true hw
        split at h
        · rename_i pre mid post hc
          obtain ⟨s1, s2, s3, rfl, k1, k2, k3, l1, l2, _⟩ := cut_segs hc hs
          obtain ⟨s', h1, h2⟩ := fillL_sound (vals := vals) h ((k1.append hsn).append k3) hv
          have hln := (Rls.len hsn).trans hw
          refine ⟨s', ?_, h2⟩
          simp only [List.map_cons, List.zip_cons_cons]
          exact fill_cons (off := off) (sz := n) s1 s2 s3 sn (by simp) l1 (by omega) hln h1 hp hcn
        · cases h
      · cases h
    · cases h

theorem zip_fst_map {parts : List (Nat × Operand)} (f : Operand → Value) : (parts.map (·.1)).zip (parts.map fun x => f x.2) = parts.map fun x => (x.1, f x.2) := by
  induction parts with
  | nil => rfl
  | cons x l ih => simp [ih]

theorem scal_at {t : T} (ht : scalT t = true) : ∃ f : den t → Value, (∀ a, (f a).oneCell' = true) ∧ (∀ (w : World) (I : Nat → Prop) (x : den t) (c : List Value), At w I t x c ↔ c = [f x]) ∧ cellsD t (dflt t) = some [f (dflt t)] := by
  cases t <;> simp only [scalT] at ht <;> first | exact ⟨fun a => .int _ a, fun _ => rfl, fun _ _ _ _ => Iff.rfl, rfl⟩ | exact ⟨fun a => .bool a, fun _ => rfl, fun _ _ _ _ => Iff.rfl, rfl⟩ | exact ⟨fun a => sv a, fun _ => rfl, fun _ _ _ _ => Iff.rfl, rfl⟩ | exact ⟨fun a => .float _ a, fun _ => rfl, fun _ _ _ _ => Iff.rfl, rfl⟩ | cases ht

theorem arrParts_sound {t : T} (E : ER m e r) {f : den t → Value} (hf : ∀ (w : World) (I : Nat → Prop) (x : den t) (c : List Value), At w I t x c ↔ c = [f x]) : ∀ {parts : List (Nat × Operand)} {xs : List (Nat × den t)}, arrParts t e parts = some xs →
    parts.map (fun x => (x.1, ev r x.2)) = xs.map (fun x => (x.1, f x.2))
  | [], xs, h => by cases h; rfl
  | (i, x) :: l, xs, h => by
    simp only [arrParts] at h
    have hx := opnd_sound E x
    split at h
    · rename_i y hy
      rw [hy] at hx
      split at h
      · rename_i z f' q h1 h2
        cases h
        have h3 := arrParts_sound E hf h2
        have hx : Al2 (Rl m) [y] [[ev r x]] := ⟨hx, trivial⟩
        obtain ⟨l1, s1, s2, e1, e2, h5, _, h6⟩ := decL_sound (m := m) (m' := m) (h := []) ⟨by simp, fun id hid => by simp [lives, liveO] at hid⟩ (Mem.Le.refl m).imm (fun _ _ => rfl) _ _ _ _ _ _ h1 (fun id hid => by have := decL_live _ _ _ _ _ h1 id hid; simp [lives, liveO] at this) hx
        have h7 := h6.nil_left
        subst h7
        rw [List.append_nil] at e2
        subst e2
        have h8 := (hf _ _ _ _).1 h5
        simp only [List.flatten_cons, List.flatten_nil, List.append_nil, List.cons.injEq, and_true] at h8
        simp [h3, h8]
      · cases h
    · cases h

theorem build_sound {T : TypeId} {parts : Array (Nat × Operand)} (H : Rel M S w0 h g w) (E : ER (memOf M S w0 h g w) e r) (hk : buildOp P T parts.toList e h K = some res) :
    Step P ⟨d, .build T parts, ty, pos, aft, gd⟩ r w (After M S w0 h g w K res) := by
  obtain ⟨parts⟩ := parts
  unfold buildOp at hk
  split at hk
  · rename_i fs hT
    split at hk
    · rename_i ps pl ls hs hp hpl hz
      rw [cond_eq_ite] at hk
      split at hk
      · rename_i hck
        split at hk
        · rename_i ls' hf
          obtain ⟨g1, s, H1, le1, hzo, hs1⟩ := zeroCk_sound H hck
          obtain ⟨e1, hv⟩ := allLeaves_sound (ER.mono le1 E) hp
          obtain ⟨s', hfill, hs'⟩ := fillL_sound hf hs1 hv
          refine .value (v := ag s') (w' := w) (ex_buildS hpl hzo rfl ?_) ⟨.ag ls', _, _, H1, le1, ⟨s', rfl, hs'⟩, hk⟩
          rw [e1, zip_fst_map] at hfill
          exact hfill
        · cases hk
      · cases hk
    · cases hk
  · rename_i n el hT
    split at hk
    · rename_i t hct
      rw [cond_eq_ite] at hk
      split at hk
      · rename_i hb
        rw [Bool.and_eq_true, Bool.and_eq_true] at hb
        obtain ⟨⟨hsc, hst⟩, hck⟩ := hb
        split at hk
        · rename_i xs hxs
          rw [cond_eq_ite] at hk
          split at hk
          · rename_i hlt
            obtain ⟨f, hf1, hf2, hf3⟩ := scal_at hst
            obtain ⟨g1, s, _, _, hzo, hs1⟩ := zeroCk_sound H hck
            obtain ⟨c, s', rfl, h1, h2⟩ := hs1.cons_left
            have := h2.nil_left
            subst this
            obtain ⟨ys, rfl, h3⟩ := h1
            have hys : ∀ {l : List (den t)} {ys : List (List Value)} {w : World} {I : Nat → Prop}, Al2 (At w I t) l ys → ys.flatten = l.map f := by
              intro l
              induction l with
              | nil => intro ys w I h; have := h.nil_left; subst this; rfl
              | cons x l ih =>
                intro ys w I h
                obtain ⟨y, ys, rfl, h1, h2⟩ := h.cons_left
                rw [List.flatten_cons, ih h2, (hf2 _ _ _ _).1 h1]; rfl
            rw [hys h3] at hzo
            obtain ⟨_, hsz⟩ := scal_spec (w := w) hsc
            have he : (P.info? el).map (·.size) = some 1 := by
              have : P.cellsOf el = 1 := by unfold isScal at hsc; rw [Bool.and_eq_true, beq_iff_eq] at hsc; exact hsc.2
              simp only [Program.cellsOf] at this
              cases hi : P.info? el with
              | none => rw [hi] at this; simp at this
              | some i => rw [hi] at this; simpa using this
            have hps := arrParts_sound E hf2 hxs
            have hall : ∀ x ∈ xs.map (·.1), x < n := fun x hx => by
              obtain ⟨p, hp, rfl⟩ := List.mem_map.1 hx
              have := List.all_eq_true.1 hlt _ hp
              simpa using this
            refine .value (w' := w) (ex_buildP (ps := xs) (f := f) (z0 := dflt t) hT hzo he hps rfl hall hf1) ⟨.ag [.arr t n (bparts n (dflt t) xs)], h, g, H, .refl _, ⟨_, rfl, ⟨(bparts n (dflt t) xs).toList.map fun x => [f x], by rw [flat1], ?_⟩, trivial⟩, hk⟩
            have key : ∀ l : List (den t), Al2 (At w (memOf M S w0 h g w).I t) l (l.map fun x => [f x]) := by
              intro l
              induction l with
              | nil => trivial
              | cons x l ih => exact ⟨(hf2 _ _ _ _).2 rfl, ih⟩
            exact key _
          · cases hk
        · cases hk
      · cases hk
    · cases hk
  · cases hk

theorem elems_sound {t : T} : ∀ {ps : List (Nat × List L)} {i : Nat} {h : Hm} {K : List (den t) → Hm → Option R} {vals : List Value}, Rel M S w0 h g w → elems t i ps h K = some res →
    Al2 (fun (p : Nat × List L) (v : Value) => ∃ s, v.cells = cells s ∧ Al2 (Rl (memOf M S w0 h g w)) p.2 s) ps vals →
    ∃ xs h', Rel M S w0 h' g w ∧ (memOf M S w0 h g w).Le (memOf M S w0 h' g w) ∧ K xs h' = some res ∧ Al2 (fun x (v : Value) => At w (memOf M S w0 h' g w).I t x v.cells.toList) xs vals ∧ ps.map (·.1) = List.range' i ps.length
  | [], i, h, K, vals, H, hk, hv => by
    have := hv.nil_left; subst this
    exact ⟨[], h, H, .refl _, hk, trivial, rfl⟩
  | (j, ls) :: l, i, h, K, vals, H, hk, hv => by
    obtain ⟨v, vals, rfl, ⟨s, hc, hs⟩, hv2⟩ := hv.cons_left
    simp only [elems, cond_eq_ite] at hk
    split at hk
    · rename_i hij
      have hij := Nat.eq_of_beq_eq_true hij
      subst hij
      obtain ⟨x, f, H1, le1, hat, hk⟩ := toD_sound H hs hk
      obtain ⟨xs, h', H2, le2, hk, hxs, hps⟩ := elems_sound H1 hk (hv2.mono fun p v (q : ∃ s, v.cells = cells s ∧ Al2 (Rl (memOf M S w0 h g w)) p.2 s) => (by obtain ⟨s, a, b⟩ := q; exact ⟨s, a, Rls.mono le1 b⟩))
      refine ⟨x :: xs, h', H2, le1.trans le2, hk, ⟨?_, hxs⟩, by simp [hps, List.range'_succ]⟩
      have h5 := At.mono le2.imm t _ _ hat
      have h6 : v.cells.toList = s.flatten := by rw [hc]; simp [cells]
      show At w (memOf M S w0 h' g w).I t x v.cells.toList
      rw [h6]; exact h5
    · cases hk

theorem zipIdx_eq {β γ : Type} (f : β → γ) : ∀ (l : List β) (k : Nat), (List.range' k l.length).zip (l.map f) = (l.zipIdx k).map fun x => (x.2, f x.1)
  | [], _ => rfl
  | x :: l, k => by simp [List.range'_succ, List.zipIdx_cons, zipIdx_eq f l (k + 1)]

theorem buildSlice_sound {T : TypeId} {len : Nat} {parts : Array (Nat × Operand)} (H : Rel M S w0 h g w) (E : ER (memOf M S w0 h g w) e r) (hk : buildSl P T len parts.toList e h K = some res) :
    Step P ⟨d, .buildSlice T len parts, ty, pos, aft, gd⟩ r w (After M S w0 h g w K res) := by
  obtain ⟨parts⟩ := parts
  unfold buildSl at hk
  split at hk
  · rename_i ps el hp hT
    split at hk
    · rename_i t z b _ he
      rw [cond_eq_ite] at hk
      split at hk
      · rename_i hb
        rw [Bool.and_eq_true, Bool.and_eq_true, Nat.ble_eq] at hb
        obtain ⟨⟨hz, hlen⟩, hsm⟩ := hb
        have hz := Nat.eq_of_beq_eq_true hz
        have hlen := Nat.eq_of_beq_eq_true hlen
        obtain ⟨e1, hv⟩ := allLeaves_sound E hp
        obtain ⟨xs, h', H1, le1, hk, hxs, hps⟩ := elems_sound H hk hv
        -- the parts' values, all of one width
        have hall : ∀ v ∈ parts.map (fun x => ev r x.2), v.cells.toList.length = z := by
          have key : ∀ {xs : List (den t)} {vals : List Value}, Al2 (fun x (v : Value) => At w (memOf M S w0 h' g w).I t x v.cells.toList) xs vals → ∀ v ∈ vals, v.cells.toList.length = z := by
            intro xs
            induction xs with
            | nil => intro vals h v hv; have := h.nil_left; subst this; cases hv
            | cons x xs ih =>
              intro vals h v hv
              obtain ⟨u, us, rfl, h1, h2⟩ := h.cons_left
              rcases List.mem_cons.1 hv with rfl | hv
              · rw [At.len _ _ _ h1, hz]
              · exact ih h2 v hv
          exact key hxs
        let l : List { v : Value // v.cells.toList.length = z } := (parts.map fun x => ev r x.2).attachWith _ hall
        have hl : l.map (·.1) = parts.map fun x => ev r x.2 := by simp [l]
        have hll : l.length = parts.length := by have := congrArg List.length hl; simpa using this
        have hpl : ps.length = parts.length := by have := congrArg List.length e1; simpa using this
        have hparts : parts.map (fun x => (x.1, ev r x.2)) = l.zipIdx.map fun x => (x.2, x.1.1) := by
          have h1 : parts.map (fun x => (x.1, ev r x.2)) = (parts.map (·.1)).zip (parts.map fun x => ev r x.2) := (zip_fst_map _).symm
          rw [h1, ← e1, hps, ← hl, hpl, ← hll]
          exact zipIdx_eq _ l 0
        have st := st_build (P := P) (r := r) (d := d) (ty := ty) (pos := pos) (aft := aft) (g := gd) (T := T) (z := z) (parts := parts) (gv := fun v : { v : Value // v.cells.toList.length = z } => v.1) l (fun v => v.1.cells.toList) (Hp.nil NoM NoM w) hT he (by rw [hll, ← hpl]; exact hlen) hparts (fun _ => rfl) (fun v => v.2) hsm
        refine st.mono fun v w' Hv => ?_
        have hO := Hv.own (i := 0) rfl
        have hbel := Hv.below
        obtain ⟨a1, n1, c1, ev1⟩ := hO.isSlice
        have hcells : l.map (fun v => v.1.cells.toList) = (parts.map fun x => ev r x.2).map fun v => v.cells.toList := by
          rw [← hl, List.map_map]; rfl
        rw [hcells] at hO
        have hxs' : Al2 (At w (memOf M S w0 h' g w).I t) xs ((parts.map fun x => ev r x.2).map fun v => v.cells.toList) := by
          have key : ∀ {xs : List (den t)} {vals : List Value}, Al2 (fun x (v : Value) => At w (memOf M S w0 h' g w).I t x v.cells.toList) xs vals → Al2 (At w (memOf M S w0 h' g w).I t) xs (vals.map fun v => v.cells.toList) := by
            intro xs
            induction xs with
            | nil => intro vals h; have := h.nil_left; subst this; trivial
            | cons x xs ih =>
              intro vals h
              obtain ⟨u, us, rfl, h1, h2⟩ := h.cons_left
              exact ⟨h1, ih h2⟩
          exact key hxs
        obtain ⟨H2, le2⟩ := H1.add (w' := w') hbel (.arr el t xs) v (fun q hq => by
          have h3 := Hv.mine 0 _ rfl rfl q (by rw [hO.foot_eq] at hq; exact hq)
          rcases h3 with h3 | h3
          · exact h3
          · exact h3.elim) fun le => ⟨_, by rw [← hz]; exact hO, hxs'.mono (At.mono le.imm t)⟩
        exact ⟨.one (.own h'.length), _, _, H2, le1.trans le2, ⟨by simp [memOf], v, rfl, by rw [ev1]; rfl, by rw [ev1]; rfl, fun _ => (gx_same g h'.length _).symm⟩, hk⟩
      · cases hk
    · cases hk
  · cases hk
end
end Go.Dor
