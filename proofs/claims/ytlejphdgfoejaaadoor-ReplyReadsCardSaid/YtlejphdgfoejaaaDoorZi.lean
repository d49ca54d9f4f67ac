/- OPERATIONS ALL TOLD: what the machine says of one operation holds. Plain lemmas over any program. -/
import Derived.Test.YtlejphdgfoejaaaDoorZn
namespace Go.Dor
open Go.RowKit (Below)

structure CxOk (X : Cx) : Prop where
  D : ∀ f en, (f, en) ∈ X.D → Entry.Sound X.P f en
  ext : ∀ f k, findA X.ext f = some k → ExternOf X.P f (externFn k)
  mo : X.P.follows .mixedOrders = true

section
variable {P : Program} {M S : Nat → Prop} {w0 w w' : World} {h : Hm} {g : Nat → Value} {R : Type} {res : R} {K : V → Hm → Option R} {K1 : V → Option R}
  {d : Option Tmp} {ty : TypeId} {pos : String} {aft : Array Edge} {gd : Option (Nat × Bool)} {e : Ev} {r : Env} {m : Mem}

theorem isPtr_rv {i : Nat} (h1 : i < m.n) (h2 : isPtr (m.g i)) : Rv m (.one (.ptr i 0)) (m.g i) := by
  unfold isPtr at h2
  split at h2
  · rename_i a ha
    obtain ⟨b, o, s⟩ := a
    obtain ⟨h3, h4⟩ := h2
    dsimp only at h3 h4
    subst h3 h4
    exact ⟨h1, b, ha, by rw [ha]⟩
  · exact h2.elim
theorem ptrs_al2 : ∀ {ids : List Nat}, (∀ i ∈ ids, i < m.n ∧ isPtr (m.g i)) → Al2 (Rv m) (ptrsOf ids) (ids.map m.g)
  | [], _ => trivial
  | i :: l, h => ⟨isPtr_rv (h i (by simp)).1 (h i (by simp)).2, ptrs_al2 fun j hj => h j (List.mem_cons_of_mem _ hj)⟩
theorem opndS_al2 (E : ER m e r) : ∀ l : List Operand, Al2 (Rv m) (opndS e l) (l.map (ev r))
  | [] => trivial
  | x :: l => ⟨opnd_sound E x, opndS_al2 E l⟩

theorem callF_sound {oops : Nat → List V → Hm → Option Unit} {f : FuncId} {vs : List V} {vals : List Value} (H : Rel M S w0 h g w) (hv : Al2 (Rv (memOf M S w0 h g w)) vs vals) :
    ∀ {D : List (Nat × Entry)}, (∀ f en, (f, en) ∈ D → Entry.Sound P f en) → callF oops D f vs h K = some res → Calls P f vals.toArray w fun e w' => ∃ v, e = .returned v ∧ After M S w0 h g w K res v w'
  | [], _, hk => by simp [callF] at hk
  | (q, en) :: D, hD, hk => by
    simp only [callF, cond_eq_ite] at hk
    split at hk
    · rename_i hc
      rw [Bool.and_eq_true] at hc
      have := Nat.eq_of_beq_eq_true hc.1
      subst this
      exact enterE_sound (hD _ _ (by simp)) H hv hk
    · exact callF_sound H hv (fun f en hm => hD f en (List.mem_cons_of_mem _ hm)) hk

theorem ofAfter {o : Oper} (k : Step P o r w (After M S w0 h g w K res)) : Step P o r w (After M S w0 h g w K res) := k

theorem equalIn_nil {T el : TypeId} {q : Nat} {a : Option Addr} {n c : Nat} (hT : P.underlying T = some (.slice el)) : (Op.equalIn (q + 1) T (.slice a n c) (.slice none 0 0)).run P w = .ok a.isNone w := by
  cases a <;> simp [Op.equalIn, run_underlying hT]
theorem run_nil {T el : TypeId} {x y : Operand} {u : TypeId} {a : Option Addr} {n c : Nat} (hT : P.underlying T = some (.slice el)) (hx : ev r x = .slice a n c) (hy : ev r y = .slice none 0 0) :
    (execOp (ev r) ⟨d, .binOp .eql T x y u, ty, pos, aft, gd⟩).run P w = .ok (.value (.bool a.isNone)) w ∧ (execOp (ev r) ⟨d, .binOp .neq T x y u, ty, pos, aft, gd⟩).run P w = .ok (.value (.bool (!a.isNone))) w := by
  have h := equalIn_nil (P := P) (w := w) (q := 9999) (a := a) (n := n) (c := c) hT
  rw [← equal_run] at h
  constructor <;> simp [execOp, hx, hy, eqGuard, binOp, h]

theorem bothC_some {a b : Option R} (h : bothC a b = some res) : a = some res ∧ b = some res := by
  unfold bothC at h
  split at h
  · rename_i e; exact ⟨h, by rw [← e]; exact h⟩
  · cases h

/-- what a comparison with nil comes to -/
theorem nilEq_val {T : TypeId} {x : Operand} {KB : Bool → Option R} (H : Rel M S w0 h g w) (E : ER (memOf M S w0 h g w) e r) (hk : nilEq P T (opnd e x) h KB = some res) :
    ∃ el a n c, P.underlying T = some (.slice el) ∧ ev r x = .slice a n c ∧ KB a.isNone = some res := by
  have hx := opnd_sound E x
  generalize opnd e x = y at hk hx
  unfold nilEq at hk
  split at hk
  · rename_i el hT
    split at hk
    · exact ⟨el, none, 0, 0, hT, rv_nil hx, hk⟩
    · rename_i id off n lo hi
      obtain ⟨_, _, _, _, b, _, h6⟩ := hx
      have h6 : ev r x = bsv b off n lo hi := by simpa using h6
      exact ⟨el, _, _, _, hT, h6, hk⟩
    · split at hk
      · rename_i t xs hr
        obtain ⟨ys, hrd, hal⟩ := readS_sound H hx hr
        have hl := hal.length
        rw [cond_eq_ite] at hk
        rcases hrd.2 with ⟨⟨a, hv⟩, rfl⟩ | ⟨b, off, cap, cur, t', fz, hv, h1, h2, h3⟩
        · split at hk
          · obtain ⟨k1, k2⟩ := bothC_some hk
            refine ⟨el, a, 0, _, hT, hv, ?_⟩
            cases a.isNone
            · exact k2
            · exact k1
          · rename_i hne
            exact absurd (by simpa using hl) (by simpa using hne)
        · refine ⟨el, _, _, _, hT, hv, ?_⟩
          split at hk
          · exact (bothC_some hk).2
          · exact hk
      · cases hk
  · cases hk

theorem nilEq_sound {op : BinOp} {T u : TypeId} {x y : Operand} (H : Rel M S w0 h g w) (E : ER (memOf M S w0 h g w) e r) (hn : isNil (opnd e y) = true)
    (hk : (match op with | .eql => nilEq P T (opnd e x) h fun b => K1 (.one (.b b)) | .neq => nilEq P T (opnd e x) h fun b => K1 (.one (.b (!b))) | _ => none) = some res) :
    Pure P M S w0 h g w r ⟨d, .binOp op T x y u, ty, pos, aft, gd⟩ K1 res := by
  have hy := opnd_sound E y
  generalize opnd e y = z at hn hy
  have hy : ev r y = .slice none 0 0 := by
    unfold isNil at hn
    split at hn
    · exact rv_nil hy
    · cases hn
  cases op <;> simp only [] at hk <;> first | (cases hk; done) | skip
  · obtain ⟨el, a, n, c, hT, hx, hk⟩ := nilEq_val H E hk
    exact .of (fun _ => (run_nil hT hx hy).1) mk_bool hk
  · obtain ⟨el, a, n, c, hT, hx, hk⟩ := nilEq_val H E hk
    exact .of (fun _ => (run_nil hT hx hy).2) mk_bool hk

/-! ### parts of what is known -/
theorem notNil_some {v : V} (h : notNil v K1 = some res) : isNil v = false ∧ K1 v = some res := by
  unfold notNil at h
  cases e : isNil v
  · rw [e] at h; exact ⟨rfl, h⟩
  · rw [e] at h; cases h

theorem extract_val {t : Operand} {i : Nat} (E : ER m e r) (hk : (match opnd e t with | .tup vs => (match vs[i]? with | some (.inl x) => K1 (.one x) | some (.inr l) => K1 (.ag l) | none => none) | _ => none) = some res) :
    ∃ v val, (∀ w, (execOp (ev r) ⟨d, .extract t i, ty, pos, aft, gd⟩).run P w = .ok (.value val) w) ∧ Rv m v val ∧ K1 v = some res := by
  have hx := opnd_sound E t
  generalize opnd e t = y at hk hx
  split at hk
  · rename_i vs
    obtain ⟨l, hl, hal⟩ := hx
    split at hk
    · rename_i x hi
      obtain ⟨y, hy, h1⟩ := hal.get hi
      exact ⟨.one x, y, fun _ => ex_extract hl hy, h1, hk⟩
    · rename_i x hi
      obtain ⟨y, hy, h1⟩ := hal.get hi
      exact ⟨.ag x, y, fun _ => ex_extract hl hy, h1, hk⟩
    · cases hk
  · cases hk

theorem idsOf_sound (E : ER m e r) : ∀ {l : List Operand} {ids : List Nat}, idsOf e l = some ids → (∀ i ∈ ids, i < m.n ∧ isPtr (m.g i)) ∧ l.map (ev r) = ids.map m.g
  | [], ids, h => by cases h; exact ⟨by simp, rfl⟩
  | x :: l, ids, h => by
    simp only [idsOf] at h
    have hx := opnd_sound E x
    split at h
    · rename_i id q h1 h2
      cases h
      rw [h1] at hx
      obtain ⟨h3, h4⟩ := idsOf_sound E h2
      obtain ⟨h5, b, h6, h7⟩ := hx
      have h7 : ev r x = .pointer (some ⟨b, 0, none⟩) := by simpa using h7
      refine ⟨fun i hi => ?_, by rw [List.map_cons, List.map_cons, h4, h7, h6]⟩
      rcases List.mem_cons.1 hi with rfl | hi
      · exact ⟨h5, by rw [h6]; exact ⟨rfl, rfl⟩⟩
      · exact h3 i hi
    · cases h

/-- what is known of a value that is looked at -/
theorem step_val {o : Oper} {v : V} {val : Value} (H : Rel M S w0 h g w) (h1 : (execOp (ev r) o).run P w = .ok (.value val) w) (h2 : Rv (memOf M S w0 h g w) v val) (h3 : K v h = some res) : Step P o r w (After M S w0 h g w K res) :=
  .value h1 ⟨v, h, g, H, .refl _, h2, h3⟩

theorem move_sound {T : TypeId} {x : Operand} (H : Rel M S w0 h g w) (E : ER (memOf M S w0 h g w) e r) (hk : nilOp P T (opnd e x) h K = some res) {o : Oper} (ho : (execOp (ev r) o).run P w = .ok (.value (ev r x)) w) :
    Step P o r w (After M S w0 h g w K res) := by
  obtain ⟨v', h', g', H1, le, h2, h3⟩ := nilOp_sound H (opnd_sound E x) hk
  exact .value ho ⟨v', h', g', H1, le, h2, h3⟩

theorem unOp_val {u : UnOp} {T : TypeId} {x : Operand} (E : ER m e r) (hk : (match u, opnd e x with | .not, .one (.b b) => K1 (.one (.b (!b))) | .neg, .one (.i k n) => K1 (int1 k (k.wrap (0 - n))) | .xor, .one (.i k n) => K1 (int1 k (inot k n)) | _, _ => none) = some res) :
    ∃ v val, (∀ w, (execOp (ev r) ⟨d, .unOp u T x, ty, pos, aft, gd⟩).run P w = .ok (.value val) w) ∧ Rv m v val ∧ K1 v = some res := by
  have hx := opnd_sound E x
  generalize opnd e x = y at hk hx
  split at hk
  · exact ⟨_, _, fun _ => ex_not (rv_bool hx), mk_bool, hk⟩
  · exact ⟨_, _, fun _ => ex_neg (rv_int hx), mk_int, hk⟩
  · exact ⟨_, _, fun _ => ex_inot (rv_int hx), mk_int, hk⟩
  · cases hk

theorem makeFunc_val {fn : Fn} {first caps : Array Operand} (E : ER m e r) (hk : (match fn with | .func f => (match first.toList, idsOf e caps.toList with | [], some ids => K1 (.one (.fn f ids)) | _, _ => none) | _ => none) = some res) :
    ∃ v val, (∀ w, (execOp (ev r) ⟨d, .makeFunc fn first caps, ty, pos, aft, gd⟩).run P w = .ok (.value val) w) ∧ Rv m v val ∧ K1 v = some res := by
  split at hk
  · split at hk
    · rename_i f _ _ ids hf hc
      obtain ⟨h1, h2⟩ := idsOf_sound E hc
      obtain ⟨l⟩ := first
      obtain ⟨l'⟩ := caps
      dsimp only at hf h2
      subst hf
      exact ⟨.one (.fn f ids), _, fun _ => ex_makeFunc h2, ⟨h1, rfl⟩, hk⟩
    · cases hk
  · cases hk

theorem nilCheck_val {x : Operand} (E : ER m e r) (hk : (match opnd e x with | .one (.ptr id off) => K1 (.one (.ptr id off)) | _ => none) = some res) :
    ∃ v val, (∀ w, (execOp (ev r) ⟨d, .nilCheck x, ty, pos, aft, gd⟩).run P w = .ok (.value val) w) ∧ Rv m v val ∧ K1 v = some res := by
  have hx := opnd_sound E x
  generalize opnd e x = y at hk hx
  split at hk
  · rename_i id off
    obtain ⟨h1, b, h2, h3⟩ := hx
    have h4 := (List.cons.inj h3).1
    exact ⟨.one (.ptr id off), _, fun _ => ex_nilCheck h4, ⟨h1, b, h2, rfl⟩, hk⟩
  · cases hk

theorem toArrQ_sound {T : TypeId} {x : Operand} (E : ER (memOf M S w0 h g w) e r) (hk : toArrQ P T (opnd e x) K1 = some res) : Pure P M S w0 h g w r ⟨d, .sliceToArrayPointer T x, ty, pos, aft, gd⟩ K1 res := by
  have hx := opnd_sound E x
  generalize opnd e x = y at hk hx
  unfold toArrQ at hk
  split at hk
  · rename_i n el t xs hT
    rw [cond_eq_ite] at hk
    split at hk
    · rename_i h0
      obtain ⟨hn, hk⟩ := need_some hk
      have h0 : 0 < n := by simpa [Nat.blt_eq] using h0
      have hs : SlR w (memOf M S w0 h g w).I (wid t) (At w (memOf M S w0 h g w).I t) xs (ev r x) := by
        obtain ⟨v, h1, h2⟩ := hx
        cases h1; exact h2
      obtain ⟨ys, hrd, hal, _⟩ := id hs
      exact .of (v := .toA t n xs) (fun _ => ex_toArr (l := ys) (f := id) (v := ev r x) (w1 := w) (z := wid t) (by simpa using hrd) hT rfl (by rw [← hal.length]; exact hn) h0) ⟨h0, hn, ev r x, hs, rfl⟩ hk
    · cases hk
  · cases hk

theorem toArrOp_sound {T : TypeId} {x : Operand} (H : Rel M S w0 h g w) (E : ER (memOf M S w0 h g w) e r) (hk : toArrOp P T (opnd e x) h K = some res) : Step P ⟨d, .sliceToArrayPointer T x, ty, pos, aft, gd⟩ r w (After M S w0 h g w K res) := by
  unfold toArrOp at hk
  split at hk
  · rename_i id hid
    have hx := opnd_sound E x
    rw [hid] at hx
    split at hk
    · rename_i tt t xs n el ho hT
      rw [cond_eq_ite] at hk
      split at hk
      · rename_i h0
        obtain ⟨hn, hk⟩ := need_some hk
        have h0 : 0 < n := by simpa [Nat.blt_eq] using h0
        have hli : lives h id := by simp [lives, ho, liveO]
        obtain ⟨_, v, h1, _, _, h4⟩ := hx
        have h1 : ev r x = v := by simpa using h1
        have h4 : v = g id := h4 hli
        rw [h4] at h1
        obtain ⟨ys, hO, hal⟩ := H.obj _ _ ho
        obtain ⟨H1, le⟩ := H.drops [id]
        have hI := H.drops_imm (f := [id]) (by simpa using hli) id (by simp)
        refine .value (ex_toArr (l := ys) (f := fun y => y) (v := g id) (w1 := w) (z := wid t) (by have := hO.rd; simpa using (show Rd w (g id) (wid t) ys from this)) hT h1 (by rw [← hal.length]; exact hn) h0)
          ⟨.toA t n xs, _, g, H1, le, ⟨h0, hn, g id, ⟨ys, hO.rd, hal.mono (At.mono le.imm t), fun b hb => hI b (foot_vfoot hb)⟩, rfl⟩, hk⟩
      · cases hk
    · cases hk
  · exact (toArrQ_sound E hk).step H

theorem opndS_one {l : List Operand} {a : V} (h : opndS e l = [a]) : ∃ x, l = [x] ∧ opnd e x = a := by
  match l, h with
  | [x], h => simp only [opndS, List.cons.injEq, and_true] at h; exact ⟨x, rfl, h⟩
  | [], h => cases h
  | _ :: _ :: _, h => simp [opndS] at h
theorem opndS_two {l : List Operand} {a b : V} (h : opndS e l = [a, b]) : ∃ x y, l = [x, y] ∧ opnd e x = a ∧ opnd e y = b := by
  match l, h with
  | [x, y], h => simp only [opndS, List.cons.injEq, and_true] at h; exact ⟨x, y, rfl, h⟩
  | [], h => cases h
  | [_], h => simp [opndS] at h
  | _ :: _ :: _ :: _, h => simp [opndS] at h

theorem extOp_val {X : Cx} (hX : CxOk X) {f : Operand} {q kind : Nat} {args : List Operand} {ats : Array TypeId} (E : ER m e r) (hext : findA X.ext q = some kind) (hf : ev r f = .func (.func q) #[] #[]) (hk : extOp kind (opndS e args) K1 = some res) :
    ∃ v val, (∀ w, (execOp (ev r) ⟨d, .call { callee := .value f, args := args.toArray, argTypes := ats }, ty, pos, aft, gd⟩).run X.P w = .ok (.value val) w) ∧ Rv m v val ∧ K1 v = some res := by
  unfold extOp at hk
  split at hk
  · rename_i _ a c ha
    obtain ⟨x, y, rfl, h1, h2⟩ := opndS_two ha
    have hx := opnd_sound E x
    have hy := opnd_sound E y
    rw [h1] at hx
    rw [h2] at hy
    exact ⟨_, _, fun _ => ex_indexByte (hX.ext _ _ hext) hf (rv_str hx) (rv_int hy), mk_int, hk⟩
  · rename_i _ a c ha
    obtain ⟨x, y, rfl, h1, h2⟩ := opndS_two ha
    have hx := opnd_sound E x
    have hy := opnd_sound E y
    rw [h1] at hx
    rw [h2] at hy
    exact ⟨_, _, fun _ => ex_countByte (hX.ext _ _ hext) hf (rv_str hx) (rv_int hy), mk_int, hk⟩
  · cases hk

theorem callOp_sound {X : Cx} (hX : CxOk X) {c : Call} (H : Rel M S w0 h g w) (E : ER (memOf M S w0 h g w) e r) (hk : callOp X c e h K = some res) :
    Step X.P ⟨d, .call c, ty, pos, aft, gd⟩ r w (After M S w0 h g w K res) := by
  obtain ⟨callee, ⟨args⟩, ⟨ats⟩⟩ := c
  unfold callOp at hk
  dsimp only at hk
  split at hk
  · rename_i f
    have hf := opnd_sound E f
    split at hk
    · rename_i q ids hfe
      rw [hfe] at hf
      obtain ⟨h1, h2⟩ := hf
      have h2 := (List.cons.inj h2).1
      split at hk
      · rename_i kind hext
        split at hk
        · obtain ⟨v, val, h3, h4, h5⟩ := extOp_val (d := d) (ty := ty) (pos := pos) (aft := aft) (gd := gd) (ats := ats.toArray) hX E hext h2 hk
          exact step_val H (h3 w) h4 h5
        · cases hk
      · rw [cond_eq_ite] at hk
        split at hk
        · rename_i hc
          exact .enter (ex_call hc h2 rfl) (callF_sound H ((opndS_al2 E args).append (ptrs_al2 h1)) hX.D hk)
        · cases hk
    · cases hk
  · rename_i b
    split at hk
    · rename_i x T ha
      obtain ⟨x, rfl, rfl⟩ := opndS_one ha
      exact (lenOp_sound H E hk).step H
    · rename_i x y T U ha
      obtain ⟨x, y, rfl, rfl, rfl⟩ := opndS_two ha
      exact append_sound H E hk
    · rename_i x y T U ha
      obtain ⟨x, y, rfl, rfl, rfl⟩ := opndS_two ha
      exact copy_sound H E hk
    · rename_i k a k' b ha
      obtain ⟨x, y, rfl, hx, hy⟩ := opndS_two ha
      have h1 := opnd_sound E x
      have h2 := opnd_sound E y
      rw [hx] at h1
      rw [hy] at h2
      split at hk
      · rename_i e; subst e
        exact step_val H (ex_max2 (rv_int h1) (rv_int h2)) mk_int hk
      · cases hk
    · rename_i k a k' b ha
      obtain ⟨x, y, rfl, hx, hy⟩ := opndS_two ha
      have h1 := opnd_sound E x
      have h2 := opnd_sound E y
      rw [hx] at h1
      rw [hy] at h2
      split at hk
      · rename_i e; subst e
        exact step_val H (ex_min2 (rv_int h1) (rv_int h2)) mk_int hk
      · cases hk
    · cases hk
  · cases hk

theorem stepOp_sound {X : Cx} (hX : CxOk X) {op : Op} {T : TypeId} (H : Rel M S w0 h g w) (E : ER (memOf M S w0 h g w) e r) (hk : stepOp X op T e h K = some res) :
    Step X.P ⟨d, op, T, pos, aft, gd⟩ r w (After M S w0 h g w K res) := by
  unfold stepOp at hk
  split at hk
  · exact move_sound H E hk (ex_move rfl)
  · exact move_sound H E hk (ex_assign rfl)
  · rename_i c x y
    have hc := opnd_sound E c
    split at hk
    · rename_i b hb
      rw [hb] at hc
      cases b
      · exact move_sound H E hk (ex_pick (rv_bool hc) (u := ev r x) (v := ev r y) rfl rfl)
      · exact move_sound H E hk (ex_pick (rv_bool hc) (u := ev r x) (v := ev r y) rfl rfl)
    · cases hk
  · obtain ⟨v, val, h1, h2, h3⟩ := extract_val (K1 := fun v => K v h) (d := d) (ty := T) (pos := pos) (aft := aft) (gd := gd) (P := X.P) E hk
    exact step_val H (h1 w) h2 h3
  · rename_i f first caps
    obtain ⟨v, val, h1, h2, h3⟩ := makeFunc_val (K1 := fun v => K v h) (fn := .func f) (first := first) (caps := caps) (d := d) (ty := T) (pos := pos) (aft := aft) (gd := gd) (P := X.P) E hk
    exact step_val H (h1 w) h2 h3
  · rename_i op t x y u
    have hx := opnd_sound E x
    have hy := opnd_sound E y
    split at hk
    · rename_i k a k' b hxe hye
      rw [hxe] at hx
      rw [hye] at hy
      split at hk
      · exact (binI_sound hk (rv_int hx) (rv_int hy) (.inr (.inl rfl))).step H
      · exact (binI_sound hk (rv_int hx) (rv_int hy) (.inr (.inr rfl))).step H
      · split at hk
        · rename_i e
          exact (binI_sound hk (rv_int hx) (rv_int hy) (.inl e)).step H
        · cases hk
    · rename_i a b hxe hye
      rw [hxe] at hx
      rw [hye] at hy
      exact (binS_sound hk (rv_str hx) (rv_str hy)).step H
    · rename_i a b hxe hye
      rw [hxe] at hx
      rw [hye] at hy
      split at hk
      · rename_i ht
        exact (binB_sound ht hk (rv_bool hx) (rv_bool hy)).step H
      · cases hk
    · rename_i l l' hxe hye
      rw [hxe] at hx
      rw [hye] at hy
      exact eqAgg_sound H hx hy hk
    · rw [cond_eq_ite] at hk
      split at hk
      · rename_i hn
        exact (nilEq_sound (K1 := fun v => K v h) H E hn hk).step H
      · cases hk
  · obtain ⟨v, val, h1, h2, h3⟩ := unOp_val (K1 := fun v => K v h) (d := d) (ty := T) (pos := pos) (aft := aft) (gd := gd) (P := X.P) E hk
    exact step_val H (h1 w) h2 h3
  · exact conv_sound H E hk
  · exact (idxOp_sound E hk).step H
  · exact sliceOp_sound H E hk
  · exact (fieldOp_sound H E hk).step H
  · exact (idxAddr_sound H E hk).step H
  · exact (load_sound H E hk).step H
  · exact box_sound H E hk
  · split at hk
    · rename_i ls hs hz
      rw [cond_eq_ite] at hk
      split at hk
      · rename_i hc
        exact alloc_sound H hc hk
      · cases hk
    · cases hk
  · rename_i t p v
    obtain ⟨v', h', g', H1, le, h2, h3⟩ := nilOp_sound H (opnd_sound E v) hk
    have E1 := E.mono le
    refine (store_sound (d := d) (ty := T) (pos := pos) (aft := aft) (gd := gd) H1 (opnd_sound E1 p) h2 h3).mono fun val w' q => ?_
    obtain ⟨v, h4, g4, H4, le4, h5, h6⟩ := q
    exact ⟨.u, h4, g4, H4, le.trans le4, trivial, h6⟩
  · exact build_sound H E hk
  · exact buildSlice_sound H E hk
  · exact toArrOp_sound H E hk
  · obtain ⟨v, val, h1, h2, h3⟩ := nilCheck_val (K1 := fun v => K v h) (d := d) (ty := T) (pos := pos) (aft := aft) (gd := gd) (P := X.P) E hk
    exact step_val H (h1 w) h2 h3
  · exact make_sound H E hk
  · exact callOp_sound hX H E hk
  · cases hk

end
end Go.Dor
