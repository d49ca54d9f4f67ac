/- REGIONS: operations one behind the other, quiet ones in whatever order. Plain lemmas over any program. -/
import Derived.Test.YtlejphdgfoejaaaDoorZi
namespace Go.Dor
open Go.RowKit (Below)

section
variable {P : Program} {M S : Nat → Prop} {w0 w w' : World} {h : Hm} {g : Nat → Value} {R : Type} {res : R} {K : V → Hm → Option R} {K1 : V → Option R}
  {e : Ev} {r : Env} {m m' : Mem}

/-! ### values without an address -/
theorem At.uniq {w w' : World} {I I' : Nat → Prop} : ∀ (t : T) (x : den t) (c c' : List Value), Dor.flat t = true → At w I t x c → At w' I' t x c' → c = c'
  | .int _, _, _, _, _, h, h' => Eq.trans h (Eq.symm h')
  | .bool, _, _, _, _, h, h' => Eq.trans h (Eq.symm h')
  | .str, _, _, _, _, h, h' => Eq.trans h (Eq.symm h')
  | .flt _, _, _, _, _, h, h' => Eq.trans h (Eq.symm h')
  | .unit, _, _, _, _, h, h' => Eq.trans h (Eq.symm h')
  | .pair a b, x, c, c', hf, ⟨d1, d2, e, h1, h2⟩, ⟨d3, d4, e', h3, h4⟩ => by
    simp only [Dor.flat, Bool.and_eq_true] at hf
    rw [e, e', At.uniq a _ _ _ hf.1 h1 h3, At.uniq b _ _ _ hf.2 h2 h4]
  | .arr n e, x, c, c', hf, ⟨ys, e1, hs⟩, ⟨zs, e2, hs'⟩ => by
    simp only [Dor.flat] at hf
    have key : ∀ (l : List (den e)) (ys zs : List (List Value)), Al2 (At w I e) l ys → Al2 (At w' I' e) l zs → ys = zs := by
      intro l
      induction l with
      | nil => intro ys zs h h'; rw [h.nil_left, h'.nil_left]
      | cons y l ih =>
        intro ys zs h h'
        obtain ⟨a, ys, rfl, h1, h2⟩ := h.cons_left
        obtain ⟨b, zs, rfl, h3, h4⟩ := h'.cons_left
        rw [At.uniq e _ _ _ hf h1 h3, ih _ _ h2 h4]
    rw [e1, e2, key _ _ _ hs hs']
  | .sl _, _, _, _, hf, _, _ => by cases hf
theorem At.ex (w : World) (I : Nat → Prop) : ∀ (t : T) (x : den t), Dor.flat t = true → ∃ c, At w I t x c
  | .int _, _, _ => ⟨_, rfl⟩
  | .bool, _, _ => ⟨_, rfl⟩
  | .str, _, _ => ⟨_, rfl⟩
  | .flt _, _, _ => ⟨_, rfl⟩
  | .unit, _, _ => ⟨_, rfl⟩
  | .pair a b, x, hf => by
    simp only [Dor.flat, Bool.and_eq_true] at hf
    obtain ⟨c1, h1⟩ := At.ex w I a x.1 hf.1
    obtain ⟨c2, h2⟩ := At.ex w I b x.2 hf.2
    exact ⟨_, c1, c2, rfl, h1, h2⟩
  | .arr n e, x, hf => by
    simp only [Dor.flat] at hf
    have key : ∀ (l : List (den e)), ∃ ys, Al2 (At w I e) l ys := by
      intro l
      induction l with
      | nil => exact ⟨[], trivial⟩
      | cons y l ih =>
        obtain ⟨ys, h⟩ := ih
        obtain ⟨c, h1⟩ := At.ex w I e y hf
        exact ⟨c :: ys, h1, h⟩
    obtain ⟨ys, h⟩ := key x.toList
    exact ⟨_, ys, rfl, h⟩
  | .sl _, _, hf => by cases hf

theorem detL_eq {x : L} {c c' : List Value} (hd : detL x = true) (h : Rl m x c) (h' : Rl m' x c') : c = c' := by
  cases x with
  | arr t n x => exact At.uniq (.arr n t) _ _ _ hd h h'
  | i | b | s | f | nil | np | nf => exact Eq.trans h (Eq.symm h')
  | _ => cases hd
theorem detLs_eq : ∀ {ls : List L} {s s' : List (List Value)}, ls.all detL = true → Al2 (Rl m) ls s → Al2 (Rl m') ls s' → s = s'
  | [], s, s', _, h, h' => by rw [h.nil_left, h'.nil_left]
  | x :: l, s, s', hd, h, h' => by
    rw [List.all_cons, Bool.and_eq_true] at hd
    obtain ⟨c, s, rfl, h1, h2⟩ := h.cons_left
    obtain ⟨c', s', rfl, h3, h4⟩ := h'.cons_left
    rw [detL_eq hd.1 h1 h3, detLs_eq hd.2 h2 h4]
theorem detV_eq {v : V} {a b : Value} (hd : detV v = true) (h : Rv m v a) (h' : Rv m' v b) : a = b := by
  unfold detV at hd
  split at hd
  · cases hd
  · exact (List.cons.inj (detL_eq hd h h')).1
  · obtain ⟨s, rfl, h⟩ := h
    obtain ⟨s', rfl, h'⟩ := h'
    rw [detLs_eq hd h h']
  · cases hd
theorem detVs_eq : ∀ {vs : List V} {a b : List Value}, vs.all detV = true → Al2 (Rv m) vs a → Al2 (Rv m') vs b → a = b
  | [], s, s', _, h, h' => by rw [h.nil_left, h'.nil_left]
  | x :: l, s, s', hd, h, h' => by
    rw [List.all_cons, Bool.and_eq_true] at hd
    obtain ⟨c, s, rfl, h1, h2⟩ := h.cons_left
    obtain ⟨c', s', rfl, h3, h4⟩ := h'.cons_left
    rw [detV_eq hd.1 h1 h3, detVs_eq hd.2 h2 h4]

theorem detL_any {x : L} {c : List Value} (hd : detL x = true) (h : Rl m x c) : Rl m' x c := by
  cases x with
  | arr t n x => exact At.flat (.arr n t) _ _ hd h
  | i | b | s | f | nil | np | nf => exact h
  | _ => cases hd
theorem detL_ex (m : Mem) {x : L} (hd : detL x = true) : ∃ c, Rl m x c := by
  cases x with
  | arr t n x => exact At.ex _ _ (.arr n t) _ hd
  | i | b | s | f | nil | np | nf => exact ⟨_, rfl⟩
  | _ => cases hd
theorem detV_any {v : V} {a : Value} (hd : detV v = true) (h : Rv m v a) : Rv m' v a := by
  unfold detV at hd
  split at hd
  · cases hd
  · exact detL_any hd h
  rotate_left
  · cases hd
  · rename_i ls
    obtain ⟨s, e, h⟩ := h
    refine ⟨s, e, ?_⟩
    have key : ∀ {ls : List L} {s : List (List Value)}, ls.all detL = true → Al2 (Rl m) ls s → Al2 (Rl m') ls s := by
      intro ls
      induction ls with
      | nil => intro s _ h; rw [h.nil_left]; trivial
      | cons x l ih =>
        intro s hd h
        rw [List.all_cons, Bool.and_eq_true] at hd
        obtain ⟨c, s, rfl, h1, h2⟩ := h.cons_left
        exact ⟨detL_any hd.1 h1, ih hd.2 h2⟩
    exact key hd h
theorem detVs_any : ∀ {vs : List V} {a : List Value}, vs.all detV = true → Al2 (Rv m) vs a → Al2 (Rv m') vs a
  | [], s, _, h => by rw [h.nil_left]; trivial
  | x :: l, s, hd, h => by
    rw [List.all_cons, Bool.and_eq_true] at hd
    obtain ⟨c, s, rfl, h1, h2⟩ := h.cons_left
    exact ⟨detV_any hd.1 h1, detVs_any hd.2 h2⟩

/-- how a call begins -/
theorem pre_start {d : Ds} {vs : List V} {vals : List Value} {l : List Dt} {k : Tk} {x : HL d.ts} (H : Rel M S w0 h g w) (hv : Al2 (Rv (memOf M S w0 h g w)) vs vals) (ht : takeDs h ⟨[], []⟩ d vs = some (l, k)) (hx : ofL d.ts l = some x) :
    ∃ S' g1, Start d x S' w g1 vals := by
  obtain ⟨vs', os, t⟩ := takeDs_sound H.objs ht hv (by simp) (fun i j id hi => by cases hi)
  obtain ⟨do', hg1, hg2⟩ := t.gv
  have el := ofL_toL _ _ _ hx
  have eV : givenV d id x = (vs', do') := by unfold givenV; rw [el]; exact hg1
  have eO : givenO d id x = os := by unfold givenO; rw [eV]; exact hg2
  generalize hg1e : ren k g = g1
  have g1e : ∀ i id, findN k.r i = some id → g1 i = g id := fun i id hi => by rw [← hg1e]; exact ren_eq hi
  have hlive : ∀ i, lives os i → ∃ id, findN k.r i = some id ∧ lives h id := fun i hi => by
    obtain ⟨id, hid⟩ := t.all i _ (List.getElem?_eq_getElem (lives_lt hi))
    exact ⟨id, hid, t.live i id hid hi⟩
  -- what the callee may read
  let S' : Nat → Prop := fun b => (memOf M S w0 h g w).I b ∨ ∃ id, (id ∈ k.fz ∨ ∃ i, findN k.r i = some id ∧ ¬ lives os i) ∧ lives h id ∧ foot (g id) = some b
  have lent : ∀ b, lentOf os g1 b → ∃ i id, lives os i ∧ findN k.r i = some id ∧ lives h id ∧ foot (g id) = some b := fun b ⟨i, hi, hb⟩ => by
    obtain ⟨id, h1, h2⟩ := hlive i hi
    rw [g1e i id h1] at hb
    exact ⟨i, id, hi, h1, h2, hb⟩
  -- a lent object and one that is read lie apart
  have apart : ∀ {i id id' b}, lives os i → findN k.r i = some id → lives h id → foot (g id) = some b → (id' ∈ k.fz ∨ ∃ i, findN k.r i = some id' ∧ ¬ lives os i) → lives h id' → foot (g id') = some b → False := by
    intro i id id' b hi hf hl hb hor hl' hb'
    have hne : id ≠ id' := fun q => by
      subst q
      rcases hor with h1 | ⟨i', h1, h2⟩
      · exact t.free _ h1 i hf
      · have := t.inj i i' _ hf h1
        subst this
        exact h2 hi
    exact H.inj id id' hl hl' hne b hb hb'
  have dis : ∀ b, S' b → ¬ lentOf os g1 b := fun b hSb hL => by
    obtain ⟨i, id, hi, hf, hl, hb⟩ := lent b hL
    rcases hSb with h1 | ⟨id', hor, hl', hb'⟩
    · exact h1.2.2 id hl hb
    · exact apart hi hf hl hb hor hl' hb'
  have G : Goal (memOf M S w0 h g w) (memOf (lentOf os g1) S' w os g1 w) h k := by
    have nof : ∀ {b}, S' b → ∀ i, lives os i → foot (g1 i) ≠ some b := fun hSb i hi hf => dis _ hSb ⟨i, hi, hf⟩
    refine ⟨rfl, fun b hb => ⟨hb.1, .inr (.inl (.inl hb)), nof (.inl hb)⟩, fun id hid b hb => ?_, fun i id hi hnl b hb hor => ?_, fun i id hi => ⟨g1e i id hi, by show i < os.length; rw [t.len]; exact t.bound i id hi, fun hl => t.live i id hi hl⟩⟩
    · have hSb : S' b := .inr ⟨id, .inl hid, t.fz id hid, hb⟩
      exact ⟨H.foot_lt (t.fz id hid) hb, .inr (.inl hSb), nof hSb⟩
    · rcases hor with h1 | h1
      · have hSb : S' b := .inr ⟨id, .inr ⟨i, hi, hnl⟩, h1, hb⟩
        exact ⟨H.foot_lt h1 hb, .inr (.inl hSb), nof hSb⟩
      · exact ⟨h1.1, .inr (.inl (.inl h1)), nof (.inl h1)⟩
  obtain ⟨hv', ho'⟩ := t.rep _ G (fun j hj => hj)
  have Hs : Start d x S' w g1 vals := by
    refine ⟨?_, ?_⟩
    · rw [eO]
      refine ⟨rfl, rfl, rfl, Nat.le_refl _, fun _ _ _ => rfl, dis, fun i o hi => ?_, fun i hi b hb => .inr ⟨i, hi, hb⟩, fun i j hi hj hne b hb hb' => ?_⟩
      · obtain ⟨id, h1, h2⟩ := ho' i o hi
        rw [g1e i id h1]; exact h2
      · obtain ⟨id, h1, h2⟩ := hlive i hi
        obtain ⟨id', h3, h4⟩ := hlive j hj
        rw [g1e i id h1] at hb
        rw [g1e j id' h3] at hb'
        have : id ≠ id' := fun q => by subst q; exact hne (t.inj i j id h1 h3)
        exact H.inj id id' h2 h4 this b hb hb'
    · rw [eO, eV]; exact hv'
  exact ⟨S', g1, Hs⟩

theorem detV_ex (m : Mem) {v : V} (hd : detV v = true) : ∃ a, Rv m v a ∧ ∃ ls, leaves v = some ls := by
  unfold detV at hd
  split at hd
  · cases hd
  · rename_i x hx
    suffices h : ∃ a, Rl m x [a] by obtain ⟨a, h⟩ := h; exact ⟨a, h, _, rfl⟩
    cases x with
    | arr t n y => exact absurd rfl (hx t n y)
    | i | b | s | f | nil | np | nf => exact ⟨_, rfl⟩
    | _ => cases hd
  · rename_i ls
    have key : ∀ ls : List L, ls.all detL = true → ∃ s, Al2 (Rl m) ls s := by
      intro ls
      induction ls with
      | nil => intro _; exact ⟨[], trivial⟩
      | cons x l ih =>
        intro hd
        rw [List.all_cons, Bool.and_eq_true] at hd
        obtain ⟨s, hs⟩ := ih hd.2
        obtain ⟨c, h⟩ := detL_ex m hd.1
        exact ⟨c :: s, h, hs⟩
    obtain ⟨s, hs⟩ := key ls hd
    exact ⟨_, ⟨s, rfl, hs⟩, _, rfl⟩
  · cases hd
theorem detVs_ex (m : Mem) : ∀ {vs : List V}, vs.all detV = true → (∃ l, Al2 (Rv m) vs l) ∧ ∀ v ∈ vs, ∃ ls, leaves v = some ls
  | [], _ => ⟨⟨[], trivial⟩, by simp⟩
  | x :: l, hd => by
    rw [List.all_cons, Bool.and_eq_true] at hd
    obtain ⟨a, h1, h2⟩ := detV_ex m hd.1
    obtain ⟨⟨s, hs⟩, h3⟩ := detVs_ex m hd.2
    refine ⟨⟨a :: s, h1, hs⟩, fun v hv => ?_⟩
    rcases List.mem_cons.1 hv with rfl | hv
    · exact h2
    · exact h3 v hv

/-- what a quiet call leaves as it was -/
theorem enterQ_sound {fid : FuncId} {en : Entry} {vs : List V} {vals : List Value} (hS : Entry.Sound P fid en) (H : Rel M S w0 h g w) (hv : Al2 (Rv (memOf M S w0 h g w)) vs vals) (hk : enterQ en vs h K1 = some res) :
    ∃ v val, (∀ w', Below w.heap.size w w' → Calls P fid vals.toArray w' fun e w'' => e = .returned val ∧ Below w.heap.size w w'') ∧ Rv (memOf M S w0 h g w) v val ∧ K1 v = some res := by
  unfold enterQ at hk
  split at hk
  rotate_left
  · cases hk
  rename_i l k ht
  split at hk
  rotate_left
  · cases hk
  rename_i x hx
  rw [cond_eq_ite] at hk
  split at hk
  rotate_left
  · cases hk
  rename_i hq
  obtain ⟨y, hfn, hk⟩ := bind_some hk
  rw [cond_eq_ite] at hk
  split at hk
  rotate_left
  · cases hk
  rename_i hd
  obtain ⟨⟨a, ha⟩, hl⟩ := detVs_ex (memOf M S w0 h g w) hd
  refine ⟨_, one a, fun w' hb => ?_, resV_one ha hl, hk⟩
  obtain ⟨H', le⟩ := H.below hb
  obtain ⟨S', g1, Hs⟩ := pre_start H' (hv.mono (Rv.mono le)) ht hx
  refine (hS.out x y hfn S' w' g1 vals Hs).mono fun e w'' ⟨vs2, g2, he, R2, hv2, _⟩ => ?_
  have e1 := detVs_eq hd ha hv2
  subst e1
  refine ⟨he, hb.trans ⟨R2.os, R2.tape, R2.output, R2.size, fun b hlt => R2.old b (Nat.lt_of_lt_of_le hlt hb.size) ?_⟩⟩
  rintro ⟨i, hi, _⟩
  obtain ⟨l1, l2, _, _, e3, _, e5⟩ := given_types en.pre x
  rw [e5, lives, giveOds_live e3] at hi
  cases hp : en.pre.objs[i]? with
  | none => rw [hp] at hi; cases hi
  | some p =>
    rw [hp] at hi
    have := List.all_eq_true.1 hq p (List.mem_of_getElem? hp)
    simp only [Option.map_some, Option.getD_some] at hi
    rw [hi] at this
    cases this

theorem callQ_sound {oops : Nat → List V → Hm → Option Unit} {f : FuncId} {vs : List V} {vals : List Value} (H : Rel M S w0 h g w) (hv : Al2 (Rv (memOf M S w0 h g w)) vs vals) :
    ∀ {D : List (Nat × Entry)}, (∀ f en, (f, en) ∈ D → Entry.Sound P f en) → callQ oops D f vs h K1 = some res →
      ∃ v val, (∀ w', Below w.heap.size w w' → Calls P f vals.toArray w' fun e w'' => e = .returned val ∧ Below w.heap.size w w'') ∧ Rv (memOf M S w0 h g w) v val ∧ K1 v = some res
  | [], _, hk => by simp [callQ] at hk
  | (q, en) :: D, hD, hk => by
    simp only [callQ, cond_eq_ite] at hk
    split at hk
    · rename_i hc
      rw [Bool.and_eq_true] at hc
      have := Nat.eq_of_beq_eq_true hc.1
      subst this
      exact enterQ_sound (hD _ _ (by simp)) H hv hk
    · exact callQ_sound H hv (fun f en hm => hD f en (List.mem_cons_of_mem _ hm)) hk

/-! ### guards -/
theorem ER.same {e : Ev} {t : Nat} {v : V} (E : ER m e r) (h : getE e t = v) : ER m (putE e (some t) v) r := by
  intro t'
  simp only [putE, getE]
  cases hb : Nat.beq t t'
  · exact E t'
  · have := Nat.eq_of_beq_eq_true hb
    subst this
    simp only [cond_true]
    rw [← h]; exact E t

theorem wantV_sound {ops : List Oper} {o : Oper} {e : Ev} (E : ER m e r) :
    match wantV ops o e with
    | .yes => wantedE ops.toArray o r = true
    | .no => wantedE ops.toArray o r = false
    | .ask t x want => getE e t = .one (.b x) ∧ wantedE ops.toArray o r = (x == want)
    | .bad => True := by
  unfold wantV wantedE
  cases o.guard with
  | none => rfl
  | some gw =>
    obtain ⟨q, want⟩ := gw
    dsimp only
    rw [show ops.toArray[q]? = ops[q]? by simp]
    cases (ops[q]?).bind (·.dst) with
    | none => trivial
    | some t =>
      dsimp only
      have ht := E t
      cases hg : getE e t with
      | one x =>
        rw [hg] at ht
        cases x with
        | b x => rw [rv_bool ht]; exact ⟨hg, rfl⟩
        | _ => trivial
      | sk =>
        rw [hg] at ht
        have ht : r t = undef := ht
        dsimp only
        rw [ht]; rfl
      | _ => trivial

/-- what is known behind some code: a state of the machine's, from which the rest comes to res -/
structure St (M S : Nat → Prop) (w0 : World) (keep : Nat) (G0 : Nat → Value) (K : Ev → Hm → Option R) (res : R) (r : Env) (w : World) : Prop where
  out : ∃ e h g, Rel M S w0 h g w ∧ ER (memOf M S w0 h g w) e r ∧ (∀ i, i < keep → i < h.length ∧ g i = G0 i) ∧ K e h = some res

theorem kept_le {keep : Nat} {G0 : Nat → Value} {h' : Hm} {g' : Nat → Value} (hk : ∀ i, i < keep → i < h.length ∧ g i = G0 i) (le : (memOf M S w0 h g w).Le (memOf M S w0 h' g' w')) : ∀ i, i < keep → i < h'.length ∧ g' i = G0 i := fun i hi => by
  obtain ⟨h1, h2⟩ := hk i hi
  exact ⟨Nat.lt_of_lt_of_le h1 le.n, (le.g i h1).trans h2⟩

theorem runL_sound {X : Cx} (hX : CxOk X) {ops : List Oper} {keep : Nat} {G0 : Nat → Value} {KE : Ev → Hm → Option R} : ∀ (l : List Oper) {e : Ev} {h : Hm} {g : Nat → Value} {r : Env} {w : World}, l.all (dstOk X.nt) = true →
    Rel M S w0 h g w → ER (memOf M S w0 h g w) e r → (∀ i, i < keep → i < h.length ∧ g i = G0 i) → runL X ops l e h KE = some res → WlD X.P X.nt ops.toArray (St M S w0 keep G0 KE res) l r w
  | [], e, h, g, r, w, _, H, E, hg, hk => ⟨e, h, g, H, E, hg, hk⟩
  | o :: l, e, h, g, r, w, hd, H, E, hg, hk => by
    rw [List.all_cons, Bool.and_eq_true] at hd
    have hd1 : ∀ d, o.dst = some d → d < X.nt := fun d hdd => by
      have := hd.1
      rw [dstOk, hdd] at this
      simpa [Nat.blt_eq] using this
    refine ⟨hd1, ?_⟩
    have yes : ∀ e', ER (memOf M S w0 h g w) e' r → (stepOp X o.op o.type e' h fun v h => runL X ops l (putE e' o.dst v) h KE) = some res → Step X.P o r w (fun v w' => WlD X.P X.nt ops.toArray (St M S w0 keep G0 KE res) l (putO r o.dst v) w') := fun e' E' hk => by
      obtain ⟨d, op, T, pos, aft, gd⟩ := o
      refine (stepOp_sound (d := d) (pos := pos) (aft := aft) (gd := gd) hX H E' hk).mono fun val w' ⟨v, h', g', H', le, hv, hk'⟩ => ?_
      exact runL_sound hX l hd.2 H' ((E'.mono le).put d hv) (kept_le hg le) hk'
    have no : ∀ e', ER (memOf M S w0 h g w) e' r → runL X ops l (putE e' o.dst .sk) h KE = some res → WlD X.P X.nt ops.toArray (St M S w0 keep G0 KE res) l (putO r o.dst undef) w := fun e' E' hk =>
      runL_sound hX l hd.2 H (E'.put o.dst (v := .sk) (val := undef) rfl) hg hk
    simp only [runL] at hk
    have hw := wantV_sound (ops := ops) (o := o) E
    cases hwv : wantV ops o e with
    | yes => rw [hwv] at hk hw; rw [if_pos hw]; exact yes e E hk
    | no => rw [hwv] at hk hw; rw [if_neg (by simpa using hw)]; exact no e E hk
    | bad => rw [hwv] at hk; cases hk
    | ask t x want =>
      rw [hwv] at hk hw
      obtain ⟨h1, h2⟩ := hw
      have E' := E.same h1
      cases x <;> cases want <;> simp only [cond_true, cond_false] at hk
      · rw [if_pos (by rw [h2]; rfl)]; exact yes _ E' hk
      · rw [if_neg (by rw [h2]; decide)]; exact no _ E' hk
      · rw [if_neg (by rw [h2]; decide)]; exact no _ E' hk
      · rw [if_pos (by rw [h2]; rfl)]; exact yes _ E' hk

theorem WlD.toWt {n : Nat} {ops : Array Oper} {C : World → Prop} {KQ : Env → World → Prop} : ∀ {l : List (Oper × Bool)} {r : Env} {w : World}, (∀ x ∈ l, x.2 = false) → WlD P n ops KQ (l.map (·.1)) r w → WtD P n ops C KQ l r w
  | [], _, _, _, h => h
  | (o, fl) :: l, r, w, hf, ⟨hd, h⟩ => by
    have h0 : fl = false := hf (o, fl) (by simp)
    have ht : ∀ x ∈ l, x.2 = false := fun x hx => hf x (List.mem_cons_of_mem _ hx)
    refine ⟨hd, ?_⟩
    by_cases hw : wantedE ops o r = true
    · rw [if_pos hw] at h ⊢
      exact h.mono fun v w' q => ⟨fun e => (by rw [h0] at e; cases e), WlD.toWt ht q⟩
    · rw [if_neg hw] at h ⊢
      exact WlD.toWt ht h

/-! ### operations whose order is open -/
variable {d : Option Tmp} {ty : TypeId} {pos : String} {aft : Array Edge} {gd : Option (Nat × Bool)}

/-- what a state reads is as it was -/
def Kept (M S : Nat → Prop) (w0 : World) (h : Hm) (g : Nat → Value) (w : World) (w' : World) : Prop := ∀ b, Seen (memOf M S w0 h g w) h b → w'.heap[b]? = w.heap[b]?
theorem Rel.seen_lt (H : Rel M S w0 h g w) {b : Nat} (hb : Seen (memOf M S w0 h g w) h b) : b < w.heap.size := by
  rcases hb with hb | ⟨id, h1, h2⟩
  · exact hb.1
  · exact H.foot_lt h1 h2
theorem Rel.kept (H : Rel M S w0 h g w) : ∀ w', Below w.heap.size w w' → Kept M S w0 h g w w' := fun _ hb b hs => hb.block b (H.seen_lt hs)
def Quiets (P : Program) (M S : Nat → Prop) (w0 : World) (h : Hm) (g : Nat → Value) (w : World) (r : Env) (o : Oper) (fl : Nat) (K1 : V → Option R) (res : R) : Prop :=
  ∃ v val, HOk P (Below w.heap.size w) (Kept M S w0 h g w) o val r fl ∧ Rv (memOf M S w0 h g w) v val ∧ K1 v = some res

theorem Quiets.pure {o : Oper} {fl : Nat} {v : V} {val : Value} (h1 : ∀ w', (execOp (ev r) o).run P w' = .ok (.value val) w') (h2 : Rv (memOf M S w0 h g w) v val) (h3 : K1 v = some res) : Quiets P M S w0 h g w r o fl K1 res := by
  refine ⟨v, val, ?_, h2, h3⟩
  match fl with
  | 0 => exact fun w' _ => .same (.value (h1 w'))
  | 1 => exact fun w' _ => .value (h1 w')
  | _ + 2 => exact fun w' => .value (h1 w')
theorem Quiets.of {o : Oper} {fl : Nat} (k : Pure P M S w0 h g w r o K1 res) : Quiets P M S w0 h g w r o fl K1 res := by
  obtain ⟨v, val, h1, h2, h3⟩ := k
  exact .pure h1 h2 h3
theorem Quiets.reads {o : Oper} {fl : Nat} (H : Rel M S w0 h g w) (hfl : fl ≤ 1) {v : V} {val : Value} (h1 : ∀ w', (∀ b, Seen (memOf M S w0 h g w) h b → w'.heap[b]? = w.heap[b]?) → (execOp (ev r) o).run P w' = .ok (.value val) w') (h2 : Rv (memOf M S w0 h g w) v val) (h3 : K1 v = some res) : Quiets P M S w0 h g w r o fl K1 res := by
  refine ⟨v, val, ?_, h2, h3⟩
  match fl, hfl with
  | 0, _ => exact fun w' hb => .same (.value (h1 w' (H.kept w' hb)))
  | 1, _ => exact fun w' hb => .value (h1 w' hb)

theorem convQ_sound {A B : TypeId} {x : Operand} {fl : Nat} (H : Rel M S w0 h g w) (E : ER (memOf M S w0 h g w) e r)
    (hk : (match P.underlying A, P.underlying B, opnd e x with
      | some (.int _), some (.int k), .one (.i _ n) => K1 (int1 k (k.wrap n))
      | some .string, some .string, .one (.s l) => K1 (.one (.s l))
      | some (.slice el), some .string, x =>
        match P.underlying el, readS h x with
        | some (.int .u8), some ⟨.int .u8, xs⟩ => bif Nat.ble fl 1 then K1 (.one (.s (bytesOf xs))) else none
        | _, _ => none
      | _, _, _ => none) = some res) : Quiets P M S w0 h g w r ⟨d, .convert A B x, ty, pos, aft, gd⟩ fl K1 res := by
  have hx := opnd_sound E x
  generalize opnd e x = p at hk hx
  split at hk
  · rename_i hA hB
    exact .of (.mk' hk (fun _ => ex_convInt hA hB (rv_int hx)) mk_int)
  · rename_i hA hB
    exact .of (.mk' hk (fun _ => ex_convStr hA hB (rv_str hx)) mk_str)
  · rename_i el hA hB
    split at hk
    · rename_i xs he hr
      rw [cond_eq_ite] at hk
      split at hk
      · rename_i hfl
        obtain ⟨ys, h1, h2, h3⟩ := readS_seen H hx hr
        have := al2_nums h2
        subst this
        exact .reads H (Nat.le_of_ble_eq_true hfl) (fun w' hb => ex_convBT (h1.kept fun b hf => hb b (h3 b hf)) hA he hB rfl) mk_str hk
      · cases hk
    · cases hk
  · cases hk

theorem eqQ_sound {t u : TypeId} {op : BinOp} {x y : Operand} {l l' : List L} {fl : Nat} (hx : Rv (memOf M S w0 h g w) (.ag l) (ev r x)) (hy : Rv (memOf M S w0 h g w) (.ag l') (ev r y))
    (hk : (bif P.eqGuardType P.depth t || isScal P t then none else match eqTy P depth t l l', op with | some b, .eql => K1 (.one (.b b)) | some b, .neq => K1 (.one (.b (!b))) | _, _ => none) = some res) :
    Quiets P M S w0 h g w r ⟨d, .binOp op t x y u, ty, pos, aft, gd⟩ fl K1 res := by
  rw [cond_eq_ite] at hk
  split at hk
  · cases hk
  · rename_i hb
    rw [Bool.or_eq_true, not_or] at hb
    obtain ⟨hb1, hb2⟩ := hb
    have hb1 : P.eqGuardType P.depth t = false := by simpa using hb1
    obtain ⟨s, ex, hs⟩ := hx
    obtain ⟨s', ey, hs'⟩ := hy
    split at hk
    · rename_i b _ hE
      obtain ⟨vx, vy, h1, h2, h3⟩ := eqTy_sound _ _ _ _ _ _ _ hE hs hs'
      have h3 := h3 (9999 - depth)
      rcases h1 with ⟨h1, _⟩ | ⟨_, rfl⟩
      · exact absurd h1 hb2
      rcases h2 with ⟨h2, _⟩ | ⟨_, rfl⟩
      · exact absurd h2 hb2
      exact .pure (fun _ => ex_eqA hb1 ex ey h3) mk_bool hk
    · rename_i b _ hE
      obtain ⟨vx, vy, h1, h2, h3⟩ := eqTy_sound _ _ _ _ _ _ _ hE hs hs'
      have h3 := h3 (9999 - depth)
      rcases h1 with ⟨h1, _⟩ | ⟨_, rfl⟩
      · exact absurd h1 hb2
      rcases h2 with ⟨h2, _⟩ | ⟨_, rfl⟩
      · exact absurd h2 hb2
      exact .pure (fun _ => ex_neA hb1 ex ey h3) mk_bool hk
    · cases hk

theorem moveQ {x : Operand} {fl : Nat} {o : Oper} (E : ER (memOf M S w0 h g w) e r) (ho : ∀ w', (execOp (ev r) o).run P w' = .ok (.value (ev r x)) w') (hk : notNil (opnd e x) K1 = some res) : Quiets P M S w0 h g w r o fl K1 res := by
  obtain ⟨_, hk⟩ := notNil_some hk
  exact .pure ho (opnd_sound E x) hk

theorem stepQ_sound {X : Cx} (hX : CxOk X) {fl : Nat} {op : Op} {T : TypeId} (H : Rel M S w0 h g w) (E : ER (memOf M S w0 h g w) e r) (hk : stepQ X fl op e h K1 = some res) :
    Quiets X.P M S w0 h g w r ⟨d, op, T, pos, aft, gd⟩ fl K1 res := by
  unfold stepQ at hk
  split at hk
  · exact moveQ E (fun _ => ex_move rfl) hk
  · exact moveQ E (fun _ => ex_assign rfl) hk
  · rename_i c x y
    have hc := opnd_sound E c
    split at hk
    · rename_i b hb
      rw [hb] at hc
      cases b
      · exact moveQ E (fun _ => ex_pick (rv_bool hc) (u := ev r x) (v := ev r y) rfl rfl) hk
      · exact moveQ E (fun _ => ex_pick (rv_bool hc) (u := ev r x) (v := ev r y) rfl rfl) hk
    · cases hk
  · obtain ⟨v, val, h1, h2, h3⟩ := extract_val (d := d) (ty := T) (pos := pos) (aft := aft) (gd := gd) (P := X.P) E hk
    exact .pure h1 h2 h3
  · rename_i f first caps
    obtain ⟨v, val, h1, h2, h3⟩ := makeFunc_val (fn := .func f) (first := first) (caps := caps) (d := d) (ty := T) (pos := pos) (aft := aft) (gd := gd) (P := X.P) E hk
    exact .pure h1 h2 h3
  · rename_i op t x y u
    have hx := opnd_sound E x
    have hy := opnd_sound E y
    split at hk
    · rename_i k a k' b hxe hye
      rw [hxe] at hx
      rw [hye] at hy
      split at hk
      · exact .of (binI_sound hk (rv_int hx) (rv_int hy) (.inr (.inl rfl)))
      · exact .of (binI_sound hk (rv_int hx) (rv_int hy) (.inr (.inr rfl)))
      · split at hk
        · rename_i e
          exact .of (binI_sound hk (rv_int hx) (rv_int hy) (.inl e))
        · cases hk
    · rename_i a b hxe hye
      rw [hxe] at hx
      rw [hye] at hy
      exact .of (binS_sound hk (rv_str hx) (rv_str hy))
    · rename_i a b hxe hye
      rw [hxe] at hx
      rw [hye] at hy
      split at hk
      · rename_i ht
        exact .of (binB_sound ht hk (rv_bool hx) (rv_bool hy))
      · cases hk
    · rename_i l l' hxe hye
      rw [hxe] at hx
      rw [hye] at hy
      exact eqQ_sound hx hy hk
    · cases hk
  · obtain ⟨v, val, h1, h2, h3⟩ := unOp_val (d := d) (ty := T) (pos := pos) (aft := aft) (gd := gd) (P := X.P) E hk
    exact .pure h1 h2 h3
  · exact convQ_sound H E hk
  · exact .of (idxOp_sound E hk)
  · exact .of (sliceP_sound E hk)
  · exact .of (fieldOp_sound H E hk)
  · exact .of (idxAddr_sound H E hk)
  · rw [cond_eq_ite] at hk
    split at hk
    · rename_i hfl
      obtain ⟨v, val, h1, h2, h3⟩ := load_sound (d := d) (ty := T) (pos := pos) (aft := aft) (gd := gd) H E hk
      exact .reads H (Nat.le_of_ble_eq_true hfl) h1 h2 h3
    · cases hk
  · exact .of (toArrQ_sound E hk)
  · obtain ⟨v, val, h1, h2, h3⟩ := nilCheck_val (d := d) (ty := T) (pos := pos) (aft := aft) (gd := gd) (P := X.P) E hk
    exact .pure h1 h2 h3
  · rename_i c
    obtain ⟨callee, ⟨args⟩, ⟨ats⟩⟩ := c
    dsimp only at hk
    split at hk
    · rename_i f
      have hf := opnd_sound E f
      split at hk
      · rename_i q ids hfe
        rw [hfe] at hf
        obtain ⟨h1, h2⟩ := hf
        have h2 := (List.cons.inj h2).1
        split at hk
        · rename_i kind hext
          split at hk
          · obtain ⟨v, val, h3, h4, h5⟩ := extOp_val (d := d) (ty := T) (pos := pos) (aft := aft) (gd := gd) (ats := ats.toArray) hX E hext h2 hk
            exact .pure h3 h4 h5
          · cases hk
        · rw [cond_eq_ite] at hk
          split at hk
          · rename_i hc
            rw [Bool.and_eq_true] at hc
            have hfl := Nat.eq_of_beq_eq_true hc.2
            subst hfl
            obtain ⟨v, val, h3, h4, h5⟩ := callQ_sound H ((opndS_al2 E args).append (ptrs_al2 h1)) hX.D hk
            exact ⟨v, val, fun w' hb => .enter (ex_call hc.1 h2 rfl) (h3 w' hb), h4, h5⟩
          · cases hk
      · cases hk
    · split at hk
      · exact .of (lenOp_sound H E hk)
      · rename_i x y
        have h1 := opnd_sound E x
        have h2 := opnd_sound E y
        split at hk
        · rename_i k a k' b hx hy
          rw [hx] at h1
          rw [hy] at h2
          split at hk
          · rename_i e; subst e
            exact .pure (fun _ => ex_max2 (rv_int h1) (rv_int h2)) mk_int hk
          · cases hk
        · cases hk
      · rename_i x y
        have h1 := opnd_sound E x
        have h2 := opnd_sound E y
        split at hk
        · rename_i k a k' b hx hy
          rw [hx] at h1
          rw [hy] at h2
          split at hk
          · rename_i e; subst e
            exact .pure (fun _ => ex_min2 (rv_int h1) (rv_int h2)) mk_int hk
          · cases hk
        · cases hk
      · cases hk
    · cases hk
  · cases hk

theorem WhD.mono {n : Nat} {ops : Array Oper} {C0 C : World → Prop} {KQ KQ' : Env → Prop} (hm : ∀ r, KQ r → KQ' r) : ∀ {l : List (Oper × Nat)} {r : Env}, WhD P n ops C0 C KQ l r → WhD P n ops C0 C KQ' l r
  | [], _, h => hm _ h
  | (o, fl) :: l, r, ⟨hd, h⟩ => by
    refine ⟨hd, ?_⟩
    by_cases hw : wantedE ops o r = true
    · rw [if_pos hw] at h ⊢
      obtain ⟨v, h1, h2⟩ := h
      exact ⟨v, h1, WhD.mono hm h2⟩
    · rw [if_neg hw] at h ⊢
      exact WhD.mono hm h

theorem runH_sound {X : Cx} (hX : CxOk X) {ops : List Oper} {KE : Ev → Option R} (H : Rel M S w0 h g w) : ∀ (l : List (Oper × Nat)) {e : Ev} {r : Env}, (∀ x ∈ l, dstOk X.nt x.1 = true) →
    ER (memOf M S w0 h g w) e r → runH X ops l e h KE = some res → WhD X.P X.nt ops.toArray (Below w.heap.size w) (Kept M S w0 h g w) (fun r' => ∃ e', ER (memOf M S w0 h g w) e' r' ∧ KE e' = some res) l r
  | [], e, r, _, E, hk => ⟨e, E, hk⟩
  | (o, fl) :: l, e, r, hd, E, hk => by
    have hd1 : ∀ d, o.dst = some d → d < X.nt := fun d hdd => by
      have := hd (o, fl) (by simp)
      rw [dstOk, hdd] at this
      simpa [Nat.blt_eq] using this
    have hd2 : ∀ x ∈ l, dstOk X.nt x.1 = true := fun x hx => hd x (List.mem_cons_of_mem _ hx)
    refine ⟨hd1, ?_⟩
    have yes : ∀ e', ER (memOf M S w0 h g w) e' r → (stepQ X fl o.op e' h fun v => runH X ops l (putE e' o.dst v) h KE) = some res →
        ∃ v, HOk X.P (Below w.heap.size w) (Kept M S w0 h g w) o v r fl ∧ WhD X.P X.nt ops.toArray (Below w.heap.size w) (Kept M S w0 h g w) (fun r' => ∃ e', ER (memOf M S w0 h g w) e' r' ∧ KE e' = some res) l (putO r o.dst v) := fun e' E' hk => by
      obtain ⟨d, op, T, pos, aft, gd⟩ := o
      obtain ⟨v, val, h1, h2, h3⟩ := stepQ_sound (d := d) (T := T) (pos := pos) (aft := aft) (gd := gd) hX H E' hk
      exact ⟨val, h1, runH_sound hX H l hd2 (E'.put d h2) h3⟩
    have no : ∀ e', ER (memOf M S w0 h g w) e' r → runH X ops l (putE e' o.dst .sk) h KE = some res → WhD X.P X.nt ops.toArray (Below w.heap.size w) (Kept M S w0 h g w) (fun r' => ∃ e', ER (memOf M S w0 h g w) e' r' ∧ KE e' = some res) l (putO r o.dst undef) := fun e' E' hk =>
      runH_sound hX H l hd2 (E'.put o.dst (v := .sk) (val := undef) rfl) hk
    simp only [runH] at hk
    have hw := wantV_sound (ops := ops) (o := o) E
    cases hwv : wantV ops o e with
    | yes => rw [hwv] at hk hw; rw [if_pos hw]; exact yes e E hk
    | no => rw [hwv] at hk hw; rw [if_neg (by simpa using hw)]; exact no e E hk
    | bad => rw [hwv] at hk; cases hk
    | ask t x want =>
      rw [hwv] at hk hw
      obtain ⟨h1, h2⟩ := hw
      have E' := E.same h1
      cases x <;> cases want <;> simp only [cond_true, cond_false] at hk
      · rw [if_pos (by rw [h2]; rfl)]; exact yes _ E' hk
      · rw [if_neg (by rw [h2]; decide)]; exact no _ E' hk
      · rw [if_neg (by rw [h2]; decide)]; exact no _ E' hk
      · rw [if_pos (by rw [h2]; rfl)]; exact yes _ E' hk

theorem picks_mem {α : Type} {ops : List Oper} : ∀ {l : List (Nat × α)} {x : Oper × α}, x ∈ picks ops l → x.1 ∈ ops ∧ ∃ i, (i, x.2) ∈ l
  | [], _, h => by cases h
  | (i, a) :: l, x, h => by
    simp only [picks] at h
    split at h
    · rename_i o ho
      rcases List.mem_cons.1 h with rfl | h
      · exact ⟨List.mem_of_getElem? ho, i, by simp⟩
      · obtain ⟨h1, j, h2⟩ := picks_mem h
        exact ⟨h1, j, List.mem_cons_of_mem _ h2⟩
    · obtain ⟨h1, j, h2⟩ := picks_mem h
      exact ⟨h1, j, List.mem_cons_of_mem _ h2⟩

end
end Go.Dor
