/- PART 4 OF WHAT THE ROW STANDS ON: the texts Zp Zk Ia Ib Ie, one behind the other. -/
import Derived.Test.YtpbcchljlhkonaaX83
import Derived.Scope
import Derived.Shelf.Spec.SlicesInsertGrow
import Derived.Shelf.SlGeneric
import Derived.Test.YtpbcchljlhkonaaProg
import Derived.KernelRfl
section
/- REGIONS WHOSE ORDER IS OPEN, with a tail beside the heads. Plain lemmas over any program. -/
namespace Go.Dor
open Go.RowKit (Below)
section
variable {P : Program} {M S : Nat → Prop} {w0 w w' : World} {h : Hm} {g : Nat → Value} {R : Type} {res : R} {K : V → Hm → Option R} {K1 : V → Option R} {m m' : Mem} {e : Ev} {r : Env}

/-! ### memory that has changed but for some objects -/
structure LeX (bad : Nat → Bool) (m m' : Mem) : Prop where
  n : m.n ≤ m'.n
  g : ∀ id, id < m.n → m'.g id = m.g id
  live : ∀ id, id < m.n → m'.live id → m.live id ∨ bad id = true
  imm : ∀ b, m.I b → m'.I b ∧ m'.w.heap[b]? = m.w.heap[b]?
  size : m.w.heap.size ≤ m'.w.heap.size

theorem okL_mono {bad : Nat → Bool} (h : LeX bad m m') : ∀ (x : L) (c : List Value), okL bad x = true → Rl m x c → Rl m' x c := by
  intro x c hb hx
  cases x with
  | i | b | s | f | fx | nil | np | nf | ni => exact hx
  | arr t n x => exact At.mono h.imm _ _ _ hx
  | ro t xs => exact At.mono h.imm _ _ _ hx
  | own id =>
    obtain ⟨h1, v, h2, h3, h5, h4⟩ := hx
    refine ⟨Nat.lt_of_lt_of_le h1 h.n, v, h2, h3, h5, fun hl => ?_⟩
    rw [h.g id h1]
    rcases h.live id h1 hl with hl | hl
    · exact h4 hl
    · simp only [okL, hl, Bool.not_true] at hb; cases hb
  | ptr id off =>
    obtain ⟨h1, b, h2, h3⟩ := hx
    exact ⟨Nat.lt_of_lt_of_le h1 h.n, b, by rw [h.g id h1]; exact h2, h3⟩
  | fn f ids =>
    obtain ⟨h1, h2⟩ := hx
    refine ⟨fun i hi => ⟨Nat.lt_of_lt_of_le (h1 i hi).1 h.n, by rw [h.g i (h1 i hi).1]; exact (h1 i hi).2⟩, ?_⟩
    rw [h2]
    congr 3
    exact List.map_congr_left fun i hi => (h.g i (h1 i hi).1).symm
  | sub id off n lo hi =>
    obtain ⟨h1, h2, h3, h4, b, h5, h6⟩ := hx
    exact ⟨Nat.lt_of_lt_of_le h1 h.n, h2, h3, h4, b, by rw [h.g id h1]; exact h5, h6⟩
  | mp id off =>
    rcases hx with hx | ⟨h1, b, h2, h3⟩
    · exact .inl hx
    · exact .inr ⟨Nat.lt_of_lt_of_le h1 h.n, b, by rw [h.g id h1]; exact h2, h3⟩
  | vw id z lo =>
    obtain ⟨h1, h2⟩ := hx
    exact ⟨Nat.lt_of_lt_of_le h1 h.n, by rw [h.g id h1]; exact h2⟩
theorem okLs_mono {bad : Nat → Bool} (h : LeX bad m m') : ∀ {ls : List L} {s : List (List Value)}, ls.all (okL bad) = true → Al2 (Rl m) ls s → Al2 (Rl m') ls s
  | [], [], _, _ => trivial
  | x :: ls, c :: s, hb, k => by
    rw [List.all_cons, Bool.and_eq_true] at hb
    exact ⟨okL_mono h _ _ hb.1 k.1, okLs_mono h hb.2 k.2⟩
theorem okTs_mono {bad : Nat → Bool} (h : LeX bad m m') : ∀ {vs : List (L ⊕ List L)} {l : List Value}, (vs.all fun x => match x with | .inl x => okL bad x | .inr ls => ls.all (okL bad)) = true → Al2 (Rp m) vs l → Al2 (Rp m') vs l
  | [], [], _, _ => trivial
  | x :: vs, c :: l, hb, k => by
    rw [List.all_cons, Bool.and_eq_true] at hb
    refine ⟨?_, okTs_mono h hb.2 k.2⟩
    cases x with
    | inl x => exact okL_mono h _ _ hb.1 k.1
    | inr ls => obtain ⟨s, h1, h2⟩ := k.1; exact ⟨s, h1, okLs_mono h hb.1 h2⟩
theorem okV_mono {bad : Nat → Bool} (h : LeX bad m m') : ∀ (x : V) (v : Value), okV bad x = true → Rv m x v → Rv m' x v := by
  intro x v hb hx
  cases x with
  | one x => exact okL_mono h _ _ hb hx
  | ag ls => obtain ⟨s, h1, h2⟩ := hx; exact ⟨s, h1, okLs_mono h hb h2⟩
  | tup vs => obtain ⟨l, h1, h2⟩ := hx; exact ⟨l, h1, okTs_mono h hb h2⟩
  | epR t x off =>
    obtain ⟨g, o, c, h1, h2, h3, h4⟩ := hx
    refine ⟨g, o, c, h1, (h.imm g h2).1, At.mono h.imm _ _ _ h3, fun j y hj => ?_⟩
    have := h4 j y hj
    simp only [World.cell?] at this ⊢
    rw [(h.imm g h2).2]; exact this
  | epO id z i off =>
    obtain ⟨h1, h2⟩ := hx
    refine ⟨Nat.lt_of_lt_of_le h1 h.n, fun hl => ?_⟩
    rw [h.g id h1]
    rcases h.live id h1 hl with hl | hl
    · exact h2 hl
    · simp only [okV, hl, Bool.not_true] at hb; cases hb
  | epB id off n z i k =>
    obtain ⟨h1, h2, h3, b, h4, h5⟩ := hx
    exact ⟨Nat.lt_of_lt_of_le h1 h.n, h2, h3, b, by rw [h.g id h1]; exact h4, h5⟩
  | toA t n xs =>
    obtain ⟨h0, h1, u, h2, h3⟩ := hx
    exact ⟨h0, h1, u, h2.mono h.imm (At.mono h.imm t), h3⟩
  | sk => exact hx
  | u => trivial

theorem Mem.Le.x (h : m.Le m') : LeX (fun _ => false) m m' := ⟨h.n, h.g, fun id hi hl => .inl (h.live id hi hl), h.imm, h.size⟩

/-- an object in a memory that has changed elsewhere -/
theorem okO_mono {bad : Nat → Bool} (h : LeX bad m m') {v : Value} {o : Ob} (hb : okO bad o = true) (hs : ∀ b, liveO (some o) = true → foot v = some b → m'.w.heap[b]? = m.w.heap[b]?) (k : Ho m v o) : Ho m' v o := by
  cases o with
  | gone => trivial
  | blk ty ls =>
    obtain ⟨b, s, h1, h2, h3⟩ := k
    exact ⟨b, s, h1, (hs b rfl (by rw [h1]; rfl)).trans h2, okLs_mono h hb h3⟩
  | rd ty ls =>
    obtain ⟨b, s, h1, h2, h3, h4⟩ := k
    exact ⟨b, s, h1, (h.imm b h4).2.trans h2, okLs_mono h hb h3, (h.imm b h4).1⟩
  | arr ty t xs =>
    obtain ⟨ys, h1, h2⟩ := k
    exact ⟨ys, h1.kept h.size fun b hb => hs b rfl (foot_vfoot hb), h2.mono (At.mono h.imm t)⟩
  | fix => exact k.elim
theorem ho_mono (h : m.Le m') {v : Value} {o : Ob} (hs : ∀ b, liveO (some o) = true → foot v = some b → m'.w.heap[b]? = m.w.heap[b]?) (k : Ho m v o) : Ho m' v o := by
  cases o with
  | gone => trivial
  | blk ty ls =>
    obtain ⟨b, s, h1, h2, h3⟩ := k
    exact ⟨b, s, h1, (hs b rfl (by rw [h1]; rfl)).trans h2, Rls.mono h h3⟩
  | rd ty ls =>
    obtain ⟨b, s, h1, h2, h3, h4⟩ := k
    exact ⟨b, s, h1, (h.imm b h4).2.trans h2, Rls.mono h h3, (h.imm b h4).1⟩
  | arr ty t xs =>
    obtain ⟨ys, h1, h2⟩ := k
    exact ⟨ys, h1.kept h.size fun b hb => hs b rfl (foot_vfoot hb), h2.mono (At.mono h.imm t)⟩
  | fix => exact k.elim

/-- a state seen from where it stands: what it has is lent to what comes -/
theorem Rel.rebase (H : Rel M S w0 h g w) {h1 : Hm} (hn : h1.length = h.length) (hs : ∀ (id : Nat) (o : Ob), h1[id]? = some o → o = .gone ∨ h[id]? = some o) :
    Rel (lentOf h1 g) (memOf M S w0 h g w).I w h1 g w ∧ (memOf M S w0 h g w).Le (memOf (lentOf h1 g) (memOf M S w0 h g w).I w h1 g w) := by
  have sub : ∀ id, lives h1 id → lives h id := fun id hl => by
    unfold lives at hl
    cases e : h1[id]? with
    | none => rw [e] at hl; cases hl
    | some o =>
      rw [e] at hl
      rcases hs id o e with rfl | h2
      · cases hl
      · unfold lives; rw [h2]; exact hl
  have le : (memOf M S w0 h g w).Le (memOf (lentOf h1 g) (memOf M S w0 h g w).I w h1 g w) :=
    ⟨Nat.le_of_eq hn.symm, fun _ _ => rfl, fun id _ hl => sub id hl, fun b hb => ⟨⟨hb.1, .inr (.inl hb), fun id hl hf => hb.2.2 id (sub id hl) hf⟩, rfl⟩, Nat.le_refl _⟩
  refine ⟨⟨rfl, rfl, .refl _, rfl, Nat.le_refl _, fun _ _ _ => rfl, fun b hb => ?_, fun id o ho => ?_, fun id hl b hf => .inr ⟨id, hl, hf⟩, fun i j hi hj hne b hb hb' => H.inj i j (sub i hi) (sub j hj) hne b hb hb'⟩, le⟩
  · rintro ⟨id, hl, hf⟩
    exact hb.2.2 id (sub id hl) hf
  · rcases hs id o ho with rfl | h2
    · trivial
    · exact ho_mono le (fun _ _ _ => rfl) (H.obj id o h2)

/-! ### lists of objects -/
theorem lockH_get (xs : List Nat) : ∀ (h : Hm) (i j : Nat), (lockH xs i h)[j]? = (h[j]?).map fun o => bif memN xs (i + j) then o else .gone
  | [], _, _ => rfl
  | o :: h, i, 0 => rfl
  | o :: h, i, j + 1 => by
    have := lockH_get xs h (i + 1) j
    simp only [lockH, List.getElem?_cons_succ]
    rw [this, show i + 1 + j = i + (j + 1) from by omega]
theorem lockH_len (xs : List Nat) : ∀ (h : Hm) (i : Nat), (lockH xs i h).length = h.length
  | [], _ => rfl
  | _ :: h, i => by simp [lockH, lockH_len xs h (i + 1)]
theorem dropH_get (xs : List Nat) : ∀ (h : Hm) (i j : Nat), (dropH xs i h)[j]? = (h[j]?).map fun o => bif memN xs (i + j) then .gone else o
  | [], _, _ => rfl
  | o :: h, i, 0 => rfl
  | o :: h, i, j + 1 => by
    have := dropH_get xs h (i + 1) j
    simp only [dropH, List.getElem?_cons_succ]
    rw [this, show i + 1 + j = i + (j + 1) from by omega]
theorem dropH_len (xs : List Nat) : ∀ (h : Hm) (i : Nat), (dropH xs i h).length = h.length
  | [], _ => rfl
  | _ :: h, i => by simp [dropH, dropH_len xs h (i + 1)]
theorem unlockH_get (xs : List Nat) : ∀ (h h' : Hm) (i j : Nat), h.length ≤ h'.length → (unlockH xs i h h')[j]? = if j < h.length then (bif memN xs (i + j) then h'[j]? else h[j]?) else h'[j]?
  | [], h', _, _, _ => by simp [unlockH]
  | o :: h, [], _, _, hl => by simp at hl
  | o :: h, o' :: h', i, 0, _ => by
    simp only [unlockH, List.getElem?_cons_zero, List.length_cons, Nat.add_zero]
    rw [if_pos (by omega)]
    cases memN xs i <;> rfl
  | o :: h, o' :: h', i, j + 1, hl => by
    have := unlockH_get xs h h' (i + 1) j (by simpa using hl)
    simp only [unlockH, List.getElem?_cons_succ, List.length_cons]
    rw [this, show i + 1 + j = i + (j + 1) from by omega]
    by_cases hj : j < h.length
    · rw [if_pos hj, if_pos (by omega)]
    · rw [if_neg hj, if_neg (by omega)]
theorem unlockH_len (xs : List Nat) : ∀ (h h' : Hm) (i : Nat), h.length ≤ h'.length → (unlockH xs i h h').length = h'.length
  | [], _, _, _ => by simp [unlockH]
  | _ :: _, [], _, hl => by simp at hl
  | o :: h, o' :: h', i, hl => by simp [unlockH, unlockH_len xs h h' (i + 1) (by simpa using hl)]

theorem mergeE_get {e2 : Ev} : ∀ (ds : List Nat) (e : Ev) (t : Nat), getE (mergeE e e2 ds) t = if t ∈ ds then getE e2 t else getE e t
  | [], e, t => by simp [mergeE]
  | d :: ds, e, t => by
    simp only [mergeE, getE]
    cases hb : Nat.beq d t with
    | true =>
      have := Nat.eq_of_beq_eq_true hb
      subst this; simp
    | false =>
      have hne : ¬ t = d := fun q => by subst q; simp at hb
      rw [cond_false, mergeE_get ds e t]
      simp [hne]

/-! ### what is not written stays -/
theorem putO_other {r : Env} {d : Option Nat} {v : Value} {t : Nat} (h : d ≠ some t) : putO r d v t = r t := by
  cases d with
  | none => rfl
  | some d => exact put_other _ _ (fun q => h (by rw [q]))
theorem slots_dst {ops : List Oper} {o : Oper} {l : List Oper} {t : Nat} (h : t ∉ slotsOf ops (o :: l)) : o.dst ≠ some t ∧ t ∉ slotsOf ops l := by
  simp only [slotsOf, List.mem_append, not_or] at h
  refine ⟨fun q => ?_, h.2⟩
  rw [q] at h
  exact h.1.1 (by simp)
theorem WhD.keep {n : Nat} {ops : List Oper} {C0 C : World → Prop} {KQ : Env → Prop} : ∀ {l : List (Oper × Nat)} {r : Env}, WhD P n ops.toArray C0 C KQ l r → WhD P n ops.toArray C0 C (fun r' => KQ r' ∧ ∀ t, t ∉ slotsOf ops (l.map (·.1)) → r' t = r t) l r
  | [], _, h => ⟨h, fun _ _ => rfl⟩
  | (o, fl) :: l, r, ⟨hd, h⟩ => by
    refine ⟨hd, ?_⟩
    have go : ∀ v, WhD P n ops.toArray C0 C KQ l (putO r o.dst v) → WhD P n ops.toArray C0 C (fun r' => KQ r' ∧ ∀ t, t ∉ slotsOf ops (((o, fl) :: l).map (·.1)) → r' t = r t) l (putO r o.dst v) := fun v q =>
      WhD.mono (fun r' ⟨k1, k2⟩ => ⟨k1, fun t ht => by
        obtain ⟨h1, h2⟩ := slots_dst ht
        rw [k2 t h2, putO_other h1]⟩) (WhD.keep q)
    by_cases hw : wantedE ops.toArray o r = true
    · rw [if_pos hw] at h ⊢
      obtain ⟨v, h1, h2⟩ := h
      exact ⟨v, h1, go v h2⟩
    · rw [if_neg hw] at h ⊢
      exact go undef h
theorem WtD.mono' {n : Nat} {ops : Array Oper} {C : World → Prop} {KQ KQ' : Env → World → Prop} (hm : ∀ r w, KQ r w → KQ' r w) : ∀ {l : List (Oper × Bool)} {r : Env} {w : World}, WtD P n ops C KQ l r w → WtD P n ops C KQ' l r w
  | [], _, _, h => fun w1 k => hm _ _ (h w1 k)
  | (o, fl) :: l, r, w, ⟨hd, h⟩ => by
    refine ⟨hd, fun w1 k => ?_⟩
    have h := h w1 k
    by_cases hw : wantedE ops o r = true
    · rw [if_pos hw] at h ⊢
      exact h.mono fun v w' q => ⟨q.1, WtD.mono' hm q.2⟩
    · rw [if_neg hw] at h ⊢
      exact WtD.mono' hm h
theorem WtD.keep {n : Nat} {ops : List Oper} {C : World → Prop} {KQ : Env → World → Prop} : ∀ {l : List (Oper × Bool)} {r : Env} {w : World}, WtD P n ops.toArray C KQ l r w → WtD P n ops.toArray C (fun r' w' => KQ r' w' ∧ ∀ t, t ∉ slotsOf ops (l.map (·.1)) → r' t = r t) l r w
  | [], _, _, h => fun w1 k => ⟨h w1 k, fun _ _ => rfl⟩
  | (o, fl) :: l, r, w, ⟨hd, h⟩ => by
    refine ⟨hd, fun w1 k => ?_⟩
    have h := h w1 k
    have go : ∀ v w', WtD P n ops.toArray C KQ l (putO r o.dst v) w' → WtD P n ops.toArray C (fun r' w' => KQ r' w' ∧ ∀ t, t ∉ slotsOf ops (((o, fl) :: l).map (·.1)) → r' t = r t) l (putO r o.dst v) w' := fun v w' q =>
      WtD.mono' (fun r' w'' ⟨k1, k2⟩ => ⟨k1, fun t ht => by
        obtain ⟨h1, h2⟩ := slots_dst ht
        rw [k2 t h2, putO_other h1]⟩) (WtD.keep q)
    by_cases hw : wantedE ops.toArray o r = true
    · rw [if_pos hw] at h ⊢
      exact h.mono fun v w' q => ⟨q.1, go v w' q.2⟩
    · rw [if_neg hw] at h ⊢
      exact go undef w1 h
theorem WtD.append {n : Nat} {ops : Array Oper} {C : World → Prop} {KQ : Env → World → Prop} {l2 : List (Oper × Bool)} : ∀ {l : List (Oper × Bool)} {r : Env} {w : World}, WtD P n ops C (fun r w => WtD P n ops C KQ l2 r w) l r w → WtD P n ops C KQ (l ++ l2) r w
  | [], _, w, h => h w (.refl w)
  | (o, fl) :: l, r, w, ⟨hd, h⟩ => by
    refine ⟨hd, fun w1 k => ?_⟩
    have h := h w1 k
    by_cases hw : wantedE ops o r = true
    · rw [if_pos hw] at h ⊢
      exact h.mono fun v w' q => ⟨q.1, WtD.append q.2⟩
    · rw [if_neg hw] at h ⊢
      exact WtD.append h

/-- operations one behind the other, each of which keeps C -/
theorem runT_sound {X : Cx} (hX : CxOk X) {ops : List Oper} {KE : Ev → Hm → Option R} {C : World → Prop} {m0 : Mem} {l0 : List (Oper × Bool)} (hC : ∀ x ∈ l0, x.2 = true → ∀ h g w', Rel M S w0 h g w' → C w') : ∀ (l : List (Oper × Bool)) (_ : ∀ x ∈ l, x ∈ l0) {e : Ev} {h : Hm} {g : Nat → Value} {r : Env} {w : World}, (∀ x ∈ l, dstOk X.nt x.1 = true) →
    Rel M S w0 h g w → ER (memOf M S w0 h g w) e r → m0.Le (memOf M S w0 h g w) → runL X ops (l.map (·.1)) e h KE = some res →
    WtD X.P X.nt ops.toArray C (fun r' w' => ∃ e' h' g', Rel M S w0 h' g' w' ∧ ER (memOf M S w0 h' g' w') e' r' ∧ m0.Le (memOf M S w0 h' g' w') ∧ KE e' h' = some res) l r w
  | [], _, e, h, g, r, w, _, H, E, hg, hk => fun w1 k => by
    obtain ⟨H', le⟩ := H.below k.b k.d
    exact ⟨e, h, g, H', E.mono le, hg.trans le, hk⟩
  | (o, fl) :: l, hl0, e, h, g, r, w, hd, H, E, hg, hk => by
    have hl1 : ∀ x ∈ l, x ∈ l0 := fun x hx => hl0 x (List.mem_cons_of_mem _ hx)
    have hd1 : ∀ d, o.dst = some d → d < X.nt := fun d hdd => by
      have := hd (o, fl) (by simp)
      rw [dstOk, hdd] at this
      simpa [Nat.blt_eq] using this
    have hd2 : ∀ x ∈ l, dstOk X.nt x.1 = true := fun x hx => hd x (List.mem_cons_of_mem _ hx)
    refine ⟨hd1, fun w1 hb1 => ?_⟩
    obtain ⟨H, le1⟩ := H.below hb1.b hb1.d
    replace E := E.mono le1
    replace hg := hg.trans le1
    clear le1
    have yes : ∀ e', ER (memOf M S w0 h g w1) e' r → (stepOp X o.op o.type e' h fun v h => runL X ops (l.map (·.1)) (putE e' o.dst v) h KE) = some res → Step X.P o r w1 (fun v w' => (fl = true → C w') ∧ WtD X.P X.nt ops.toArray C (fun r' w' => ∃ e' h' g', Rel M S w0 h' g' w' ∧ ER (memOf M S w0 h' g' w') e' r' ∧ m0.Le (memOf M S w0 h' g' w') ∧ KE e' h' = some res) l (putO r o.dst v) w') := fun e' E' hk => by
      obtain ⟨d, op, T, pos, aft, gd⟩ := o
      refine (stepOp_sound (d := d) (pos := pos) (aft := aft) (gd := gd) hX H E' hk).mono fun val w' ⟨v, h', g', H', le, hv, hk'⟩ => ⟨fun hf => hC _ (hl0 (⟨d, op, T, pos, aft, gd⟩, fl) (by simp)) hf _ _ _ H', ?_⟩
      exact runT_sound hX hC l hl1 hd2 H' ((E'.mono le).put d hv) (hg.trans le) hk'
    have no : ∀ e', ER (memOf M S w0 h g w1) e' r → runL X ops (l.map (·.1)) (putE e' o.dst .sk) h KE = some res → WtD X.P X.nt ops.toArray C (fun r' w' => ∃ e' h' g', Rel M S w0 h' g' w' ∧ ER (memOf M S w0 h' g' w') e' r' ∧ m0.Le (memOf M S w0 h' g' w') ∧ KE e' h' = some res) l (putO r o.dst undef) w1 := fun e' E' hk =>
      runT_sound hX hC l hl1 hd2 H (E'.put o.dst (v := .sk) (val := undef) rfl) hg hk
    simp only [List.map_cons, runL] at hk
    have hw := wantV_sound (ops := ops) (o := o) E
    cases hwv : wantV ops o e with
    | yes => rw [hwv] at hk hw; rw [if_pos hw]; exact yes e E hk
    | no => rw [hwv] at hk hw; rw [if_neg (by simpa using hw)]; exact no e E hk
    | bad => rw [hwv] at hk; cases hk
    | ask t x want =>
      rw [hwv] at hk hw
      obtain ⟨h1, h2⟩ := hw
      have E' := E.same h1
      cases x <;> cases want <;> simp only [cond_true, cond_false] at hk
      · rw [if_pos (by rw [h2]; rfl)]; exact yes _ E' hk
      · rw [if_neg (by rw [h2]; decide)]; exact no _ E' hk
      · rw [if_neg (by rw [h2]; decide)]; exact no _ E' hk
      · rw [if_pos (by rw [h2]; rfl)]; exact yes _ E' hk

/-- the same, where nothing is asked of what lies between -/
theorem runW_sound {X : Cx} (hX : CxOk X) {ops : List Oper} {keep : Nat} {G0 : Nat → Value} {KE : Ev → Hm → Option R} {C : World → Prop} (l : List (Oper × Bool)) (hf : ∀ x ∈ l, x.2 = false) {e : Ev} {h : Hm} {g : Nat → Value} {r : Env} {w : World} (hd : ∀ x ∈ l, dstOk X.nt x.1 = true)
    (H : Rel M S w0 h g w) (E : ER (memOf M S w0 h g w) e r) (hg : ∀ i, i < keep → i < h.length ∧ g i = G0 i) (hk : runL X ops (l.map (·.1)) e h KE = some res) : WtD X.P X.nt ops.toArray C (St M S w0 keep G0 KE res) l r w :=
  WtD.mono' (fun r' w' ⟨e', h', g', H', E', le, hk'⟩ => ⟨e', h', g', H', E', kept_le hg le, hk'⟩) (runT_sound (l0 := l) hX (fun x hx ht => by rw [hf x hx] at ht; cases ht) l (fun _ hx => hx) hd H E (.refl _) hk)

theorem WtR.mono' {n : Nat} {ops : List Oper} {C : World → Prop} {KQ KQ' : Env → World → Prop} (hm : ∀ r w, KQ r w → KQ' r w) : ∀ {l : Tr} {r : Env} {w : World}, WtR P n ops C KQ l r w → WtR P n ops C KQ' l r w
  | .done, _, _, h => fun w1 k => hm _ _ (h w1 k)
  | .step _ _ _, r, w, h => by
    refine ⟨fun o ho => ⟨(h.1 o ho).1, fun w1 k => ?_⟩, fun ho => WtR.mono' hm (h.2 ho)⟩
    have h := (h.1 o ho).2 w1 k
    by_cases hw : wantedE ops.toArray o r = true
    · rw [if_pos hw] at h ⊢
      exact h.mono fun v w' q => ⟨q.1, WtR.mono' hm q.2⟩
    · rw [if_neg hw] at h ⊢
      exact WtR.mono' hm h
  | .alt _ _, _, _, h => ⟨WtR.mono' hm h.1, WtR.mono' hm h.2⟩
theorem slots_app {ops : List Oper} : ∀ (l m : List Oper) (t : Nat), t ∉ slotsOf ops (l ++ m) → t ∉ slotsOf ops l ∧ t ∉ slotsOf ops m
  | [], _, _, h => ⟨by simp [slotsOf], h⟩
  | o :: l, m, t, h => by
    simp only [List.cons_append, slotsOf, List.mem_append, not_or] at h ⊢
    obtain ⟨h1, h2⟩ := h
    obtain ⟨h3, h4⟩ := slots_app l m t h2
    exact ⟨⟨h1, h3⟩, h4⟩
theorem WtR.keep {n : Nat} {ops : List Oper} {C : World → Prop} {KQ : Env → World → Prop} : ∀ {l : Tr} {r : Env} {w : World}, WtR P n ops C KQ l r w → WtR P n ops C (fun r' w' => KQ r' w' ∧ ∀ t, t ∉ slotsOf ops (opsTr ops l) → r' t = r t) l r w
  | .done, _, _, h => fun w1 k => ⟨h w1 k, fun _ _ => rfl⟩
  | .step i fl l, r, w, h => by
    refine ⟨fun o ho => ⟨(h.1 o ho).1, fun w1 k => ?_⟩, fun ho => ?_⟩
    · have h := (h.1 o ho).2 w1 k
      have go : ∀ v w', WtR P n ops C KQ l (putO r o.dst v) w' → WtR P n ops C (fun r' w' => KQ r' w' ∧ ∀ t, t ∉ slotsOf ops (opsTr ops (.step i fl l)) → r' t = r t) l (putO r o.dst v) w' := fun v w' q =>
        WtR.mono' (fun r' w'' ⟨k1, k2⟩ => ⟨k1, fun t ht => by
          simp only [opsTr, ho, List.cons_append, List.nil_append] at ht
          obtain ⟨h1, h2⟩ := slots_dst ht
          rw [k2 t h2, putO_other h1]⟩) (WtR.keep q)
      by_cases hw : wantedE ops.toArray o r = true
      · rw [if_pos hw] at h ⊢
        exact h.mono fun v w' q => ⟨q.1, go v w' q.2⟩
      · rw [if_neg hw] at h ⊢
        exact go undef w1 h
    · refine WtR.mono' (fun r' w'' ⟨k1, k2⟩ => ⟨k1, fun t ht => k2 t ?_⟩) (WtR.keep (h.2 ho))
      simpa only [opsTr, ho, List.nil_append] using ht
  | .alt a b, r, w, h => by
    refine ⟨WtR.mono' (fun r' w'' ⟨k1, k2⟩ => ⟨k1, fun t ht => k2 t ?_⟩) (WtR.keep h.1), WtR.mono' (fun r' w'' ⟨k1, k2⟩ => ⟨k1, fun t ht => k2 t ?_⟩) (WtR.keep h.2)⟩
    · exact (slots_app _ _ t (by simpa only [opsTr] using ht)).1
    · exact (slots_app _ _ t (by simpa only [opsTr] using ht)).2

/-- a tail in any of its orders, which keeps C all along -/
theorem runTr_sound {X : Cx} (hX : CxOk X) {ops : List Oper} (hd : ops.all (dstOk X.nt) = true) {KE : Ev → Hm → Option R} {C : World → Prop} {m0 : Mem} (hC : ∀ h g w', Rel M S w0 h g w' → C w') : ∀ (l : Tr) {e : Ev} {h : Hm} {g : Nat → Value} {r : Env} {w : World},
    Rel M S w0 h g w → ER (memOf M S w0 h g w) e r → m0.Le (memOf M S w0 h g w) → runTr X ops l e h KE = some res →
    WtR X.P X.nt ops C (fun r' w' => ∃ e' h' g', Rel M S w0 h' g' w' ∧ ER (memOf M S w0 h' g' w') e' r' ∧ m0.Le (memOf M S w0 h' g' w') ∧ KE e' h' = some res) l r w
  | .done, e, h, g, r, w, H, E, hg, hk => fun w1 k => by
    obtain ⟨H', le⟩ := H.below k.b k.d
    exact ⟨e, h, g, H', E.mono le, hg.trans le, hk⟩
  | .alt a b, e, h, g, r, w, H, E, hg, hk => by
    obtain ⟨h1, h2⟩ := bothC_some hk
    exact ⟨runTr_sound hX hd hC a H E hg h1, runTr_sound hX hd hC b H E hg h2⟩
  | .step i fl l, e, h, g, r, w, H, E, hg, hk => by
    simp only [runTr] at hk
    split at hk
    rotate_left
    · cases hk
    rename_i o ho
    refine ⟨fun o' ho' => ?_, fun hn => by rw [ho] at hn; cases hn⟩
    have := Option.some.inj (ho.symm.trans ho')
    subst this
    have hd1 : ∀ d, o.dst = some d → d < X.nt := fun d hdd => by
      have := List.all_eq_true.1 hd o (List.mem_of_getElem? ho)
      rw [dstOk, hdd] at this
      simpa [Nat.blt_eq] using this
    refine ⟨hd1, fun w1 hb1 => ?_⟩
    obtain ⟨H, le1⟩ := H.below hb1.b hb1.d
    replace E := E.mono le1
    replace hg := hg.trans le1
    clear le1
    have yes : ∀ e', ER (memOf M S w0 h g w1) e' r → (stepOp X o.op o.type e' h fun v h => runTr X ops l (putE e' o.dst v) h KE) = some res → Step X.P o r w1 (fun v w' => (fl = true → C w') ∧ WtR X.P X.nt ops C (fun r' w' => ∃ e' h' g', Rel M S w0 h' g' w' ∧ ER (memOf M S w0 h' g' w') e' r' ∧ m0.Le (memOf M S w0 h' g' w') ∧ KE e' h' = some res) l (putO r o.dst v) w') := fun e' E' hk => by
      obtain ⟨d, op, T, pos, aft, gd⟩ := o
      refine (stepOp_sound (d := d) (pos := pos) (aft := aft) (gd := gd) hX H E' hk).mono fun val w' ⟨v, h', g', H', le, hv, hk'⟩ => ⟨fun _ => hC _ _ _ H', ?_⟩
      exact runTr_sound hX hd hC l H' ((E'.mono le).put d hv) (hg.trans le) hk'
    have no : ∀ e', ER (memOf M S w0 h g w1) e' r → runTr X ops l (putE e' o.dst .sk) h KE = some res → WtR X.P X.nt ops C (fun r' w' => ∃ e' h' g', Rel M S w0 h' g' w' ∧ ER (memOf M S w0 h' g' w') e' r' ∧ m0.Le (memOf M S w0 h' g' w') ∧ KE e' h' = some res) l (putO r o.dst undef) w1 := fun e' E' hk =>
      runTr_sound hX hd hC l H (E'.put o.dst (v := .sk) (val := undef) rfl) hg hk
    have hw := wantV_sound (ops := ops) (o := o) E
    cases hwv : wantV ops o e with
    | yes => rw [hwv] at hk hw; rw [if_pos hw]; exact yes e E hk
    | no => rw [hwv] at hk hw; rw [if_neg (by simpa using hw)]; exact no e E hk
    | bad => rw [hwv] at hk; cases hk
    | ask t x want =>
      rw [hwv] at hk hw
      obtain ⟨h1, h2⟩ := hw
      have E' := E.same h1
      cases x <;> cases want <;> simp only [cond_true, cond_false] at hk
      · rw [if_pos (by rw [h2]; rfl)]; exact yes _ E' hk
      · rw [if_neg (by rw [h2]; decide)]; exact no _ E' hk
      · rw [if_neg (by rw [h2]; decide)]; exact no _ E' hk
      · rw [if_pos (by rw [h2]; rfl)]; exact yes _ E' hk

theorem picks_app {α : Type} {ops : List Oper} : ∀ (l m : List (Nat × α)), picks ops (l ++ m) = picks ops l ++ picks ops m
  | [], _ => rfl
  | (i, a) :: l, m => by
    simp only [List.cons_append, picks]
    cases ops[i]? with
    | none => exact picks_app l m
    | some o => simp [picks_app l m]
theorem take_dropF : ∀ (l : List (Nat × Bool)), takeF l ++ dropF l = l
  | [] => rfl
  | (i, true) :: l => by simp [takeF, dropF, take_dropF l]
  | (i, false) :: l => rfl

/-- what was lent out and locked away comes together again -/
theorem Rel.unlock (H : Rel M S w0 h g w) {xs : List Nat} {h2 : Hm} {g2 : Nat → Value} {w2 : World}
    (R2 : Rel (lentOf (lockH xs 0 h) g) (memOf M S w0 h g w).I w h2 g2 w2) (le2 : (memOf (lentOf (lockH xs 0 h) g) (memOf M S w0 h g w).I w (lockH xs 0 h) g w).Le (memOf (lentOf (lockH xs 0 h) g) (memOf M S w0 h g w).I w h2 g2 w2))
    (ho : h2.all (okO (stillB xs h)) = true) :
    Rel M S w0 (unlockH xs 0 h h2) g2 w2 ∧ (memOf M S w0 h g w).Le (memOf M S w0 (unlockH xs 0 h h2) g2 w2) ∧ LeX (stillB xs h) (memOf (lentOf (lockH xs 0 h) g) (memOf M S w0 h g w).I w h2 g2 w2) (memOf M S w0 (unlockH xs 0 h h2) g2 w2) := by
  have hlen : h.length ≤ h2.length := by
    have := le2.n
    simpa [memOf, lockH_len] using this
  have hget := fun j => unlockH_get xs h h2 0 j hlen
  simp only [Nat.zero_add] at hget
  have hg : ∀ id, id < h.length → g2 id = g id := fun id hi => le2.g id (by simpa [memOf, lockH_len] using hi)
  have locked : ∀ id, lives (lockH xs 0 h) id ↔ (lives h id ∧ memN xs id = true) := fun id => by
    unfold lives
    rw [lockH_get, Nat.zero_add]
    cases e : h[id]? with
    | none => simp [liveO]
    | some o => cases memN xs id <;> simp [liveO]
  -- which objects live
  have hl : ∀ id, lives (unlockH xs 0 h h2) id → (lives h2 id ∧ (h.length ≤ id ∨ memN xs id = true)) ∨ (lives h id ∧ id < h.length ∧ memN xs id = false) := fun id q => by
    unfold lives at q
    rw [hget] at q
    by_cases hi : id < h.length
    · rw [if_pos hi] at q
      cases hm : memN xs id with
      | true => rw [hm] at q; exact .inl ⟨q, .inr rfl⟩
      | false => rw [hm] at q; exact .inr ⟨q, hi, rfl⟩
    · rw [if_neg hi] at q; exact .inl ⟨q, .inl (by omega)⟩
  have old2 : ∀ id, lives h2 id → id < h.length → lives h id ∧ memN xs id = true := fun id q hi =>
    (locked id).1 (le2.live id (by simpa [memOf, lockH_len] using hi) q)
  -- a block of what was locked away is as it was
  have away : ∀ b, b < w.heap.size → (∀ id, lives h id → memN xs id = true → foot (g id) ≠ some b) → w2.heap[b]? = w.heap[b]? := fun b hb hx => by
    refine R2.old b hb ?_
    rintro ⟨id, h1, h3⟩
    obtain ⟨h4, h5⟩ := (locked id).1 h1
    exact hx id h4 h5 h3
  have where2 : ∀ id, lives h2 id → ∀ b, foot (g2 id) = some b → w.heap.size ≤ b ∨ ∃ j, lives h j ∧ memN xs j = true ∧ foot (g j) = some b := fun id q b hb => by
    rcases R2.mine id q b hb with h1 | ⟨j, h1, h3⟩
    · exact .inl h1
    · obtain ⟨h4, h5⟩ := (locked j).1 h1
      exact .inr ⟨j, h4, h5, h3⟩
  have immA : ∀ b, (memOf M S w0 h g w).I b → (memOf M S w0 (unlockH xs 0 h h2) g2 w2).I b ∧ w2.heap[b]? = w.heap[b]? := fun b hb => by
    have hsame := away b hb.1 fun id h1 _ => hb.2.2 id h1
    refine ⟨⟨Nat.lt_of_lt_of_le hb.1 R2.size, hb.2.1, fun id q hf => ?_⟩, hsame⟩
    rcases hl id q with ⟨q2, _⟩ | ⟨q2, hi, _⟩
    · rcases where2 id q2 b hf with h1 | ⟨j, h1, _, h3⟩
      · have := hb.1; omega
      · exact hb.2.2 j h1 h3
    · rw [hg id hi] at hf
      exact hb.2.2 id q2 hf
  have le : (memOf M S w0 h g w).Le (memOf M S w0 (unlockH xs 0 h h2) g2 w2) := by
    refine ⟨by simpa [memOf, unlockH_len _ _ _ _ hlen] using hlen, hg, fun id hi q => ?_, immA, R2.size⟩
    rcases hl id q with ⟨q2, _⟩ | ⟨q2, _⟩
    · exact (old2 id q2 hi).1
    · exact q2
  have lex : LeX (stillB xs h) (memOf (lentOf (lockH xs 0 h) g) (memOf M S w0 h g w).I w h2 g2 w2) (memOf M S w0 (unlockH xs 0 h h2) g2 w2) := by
    refine ⟨by simp [memOf, unlockH_len _ _ _ _ hlen], fun _ _ => rfl, fun id _ q => ?_, fun b hb => ⟨?_, rfl⟩, Nat.le_refl _⟩
    · rcases hl id q with ⟨q2, _⟩ | ⟨q2, hi, hm⟩
      · exact .inl q2
      · exact .inr (by simp [stillB, hm, Nat.blt_eq, hi])
    · obtain ⟨h1, h3, h4⟩ := hb
      refine ⟨h1, ?_, fun id q hf => ?_⟩
      · rcases h3 with h3 | h3 | ⟨j, h5, h6⟩
        · exact .inl (Nat.le_trans H.size h3)
        · exact h3.2.1
        · rcases H.mine j ((locked j).1 h5).1 b h6 with h7 | h7
          · exact .inl h7
          · exact .inr (.inr h7)
      · rcases hl id q with ⟨q2, _⟩ | ⟨q2, hi, hm⟩
        · exact h4 id q2 hf
        · rw [hg id hi] at hf
          rcases h3 with h3 | h3 | ⟨j, h5, h6⟩
          · have := H.foot_lt q2 hf; omega
          · exact h3.2.2 id q2 hf
          · obtain ⟨h7, h8⟩ := (locked j).1 h5
            have hne : j ≠ id := fun q => by subst q; rw [hm] at h8; cases h8
            exact H.inj j id h7 q2 hne b h6 hf
  refine ⟨⟨R2.os.trans H.os, R2.tape.trans H.tape, H.drawn.trans R2.drawn, R2.output.trans H.output, Nat.le_trans H.size R2.size, fun k h1 h3 => ?_, H.dis, fun id o hid => ?_, fun id q b hf => ?_, fun i j hi hj hne b hb hb' => ?_⟩, le, lex⟩
  · rw [away k (Nat.lt_of_lt_of_le h1 H.size) fun id h4 _ hf => ?_]
    · exact H.old k h1 h3
    · rcases H.mine id h4 k hf with h5 | h5
      · omega
      · exact h3 h5
  · rw [hget] at hid
    by_cases hi : id < h.length
    · rw [if_pos hi] at hid
      cases hm : memN xs id with
      | true =>
        rw [hm] at hid
        exact okO_mono lex (List.all_eq_true.1 ho o (List.mem_of_getElem? hid)) (fun _ _ _ => rfl) (R2.obj id o hid)
      | false =>
        rw [hm] at hid
        have hid : h[id]? = some o := hid
        rw [hg id hi]
        refine ho_mono le (fun b hlv hf => ?_) (H.obj id o hid)
        have hli : lives h id := by unfold lives; rw [hid]; exact hlv
        refine away b (H.foot_lt hli hf) fun j h4 h5 hf' => ?_
        have hne : j ≠ id := fun q => by subst q; rw [hm] at h5; cases h5
        exact H.inj j id h4 hli hne b hf' hf
    · rw [if_neg hi] at hid
      exact okO_mono lex (List.all_eq_true.1 ho o (List.mem_of_getElem? hid)) (fun _ _ _ => rfl) (R2.obj id o hid)
  · rcases hl id q with ⟨q2, _⟩ | ⟨q2, hi, _⟩
    · rcases where2 id q2 b hf with h1 | ⟨j, h1, _, h3⟩
      · exact .inl (Nat.le_trans H.size h1)
      · exact H.mine j h1 b h3
    · rw [hg id hi] at hf
      exact H.mine id q2 b hf
  · have mixed : ∀ i j b, lives h2 i → (h.length ≤ i ∨ memN xs i = true) → (lives h j ∧ j < h.length ∧ memN xs j = false) → foot (g2 i) = some b → foot (g2 j) = some b → False := fun i j b q1 _ ⟨q2, q3, q4⟩ hb hb' => by
      rw [hg j q3] at hb'
      rcases where2 i q1 b hb with h1 | ⟨x, h1, h3, h4⟩
      · have := H.foot_lt q2 hb'; omega
      · have hne : x ≠ j := fun q => by subst q; rw [h3] at q4; cases q4
        exact H.inj x j h1 q2 hne b h4 hb'
    rcases hl i hi with ⟨q1, q1'⟩ | q1 <;> rcases hl j hj with ⟨q2, q2'⟩ | q2
    · exact R2.inj i j q1 q2 hne b hb hb'
    · exact mixed i j b q1 q1' q2 hb hb'
    · exact mixed j i b q2 q2' q1 hb' hb
    · rw [hg i q1.2.1] at hb
      rw [hg j q2.2.1] at hb'
      exact H.inj i j q1.1 q2.1 hne b hb hb'

theorem Rel.kept_gr (H : Rel M S w0 h g w) : ∀ w1 w2, Kept M S w0 h g w w1 → Gr w1 w2 → Kept M S w0 h g w w2 := fun w1 w2 hk hg b hs => by
  have h1 := hk b hs
  have hb := H.seen_lt hs
  have hlt : b < w1.heap.size := by
    by_cases hh : b < w1.heap.size
    · exact hh
    · rw [Array.getElem?_eq_none (by omega), Array.getElem?_eq_getElem hb] at h1
      cases h1
  rw [hg.b.block b hlt, h1]
theorem bel_gr {n : Nat} {w0 : World} : ∀ w w' : World, Bel n w0 w → Gr w w' → n ≤ w0.heap.size → Bel n w0 w' := fun _ _ h k hn =>
  ⟨h.b.trans ⟨k.b.os, k.b.tape, k.b.output, k.b.size, fun i hi => k.b.block i (Nat.lt_of_lt_of_le hi (Nat.le_trans hn h.b.size))⟩, h.d.trans k.d⟩
theorem runPh_sound {X : Cx} (hX : CxOk X) {ops : List Oper} (hd : ops.all (dstOk X.nt) = true) {keep : Nat} {G0 : Nat → Value} {KE : Ev → Hm → Option R} :
    ∀ (l : List (List (Nat × Nat) × List (Nat × Bool) × List Nat × Tr)) {e : Ev} {h : Hm} {g : Nat → Value} {r : Env} {w : World}, Rel M S w0 h g w → ER (memOf M S w0 h g w) e r → (∀ i, i < keep → i < h.length ∧ g i = G0 i) →
      runPh X ops l e h KE = some res → PhD X.P X.nt ops (St M S w0 keep G0 KE res) (l.map fun q => (q.1, treeOf q)) r w
  | [], e, h, g, r, w, H, E, hg, hk => ⟨e, h, g, H, E, hg, hk⟩
  | (Hs, Tl, XS, A) :: l, e, h, g, r, w, H, E, hg, hk => by
    have dstP : ∀ {α : Type} (l : List (Nat × α)), ∀ x ∈ picks ops l, dstOk X.nt x.1 = true := fun l x hx => List.all_eq_true.1 hd _ (picks_mem hx).1
    have dstL : ∀ {α : Type} (l : List (Nat × α)), ((picks ops l).map (·.1)).all (dstOk X.nt) = true := fun l => by
      rw [List.all_eq_true]
      intro o ho
      obtain ⟨x, hx, rfl⟩ := List.mem_map.1 ho
      exact dstP l x hx
    have hfl : ∀ (l : List (Nat × Bool)), l.all (fun t => !t.2) = true → ∀ x ∈ picks ops l, x.2 = false := fun l hT x hx => by
      obtain ⟨_, i, hi⟩ := picks_mem hx
      simpa using List.all_eq_true.1 hT _ hi
    have next : ∀ r w, St M S w0 keep G0 (fun e h => runPh X ops l e h KE) res r w → PhD X.P X.nt ops (St M S w0 keep G0 KE res) (l.map fun q => (q.1, treeOf q)) r w := fun r w ⟨e, h, g, H, E, hg, hk⟩ =>
      runPh_sound hX hd l H E hg hk
    by_cases hA : A = .done
    · subst hA
      unfold runPh at hk
      rw [cond_eq_ite] at hk
      split at hk
      · rename_i hT
        have h1 := runH_sound hX H _ (dstP Hs) E hk
        refine ⟨Bel w.heap.size w, Kept M S w0 h g w, H.kept, ⟨fun a b p q => bel_gr a b p q (Nat.le_refl _), H.kept_gr⟩, Bel.refl _ _, ⟨?_⟩⟩
        refine WhD.mono ?_ h1
        rintro r' ⟨e', E', hk'⟩ w' hb
        obtain ⟨H', le⟩ := H.below hb.b hb.d
        exact WtD.toR (WtD.mono' next (runW_sound hX _ (hfl Tl hT) (dstP Tl) H' (E'.mono le) (kept_le hg le) hk'))
      · split at hk
        rotate_left
        · cases hk
        rename_i xs hxs
        rw [cond_eq_ite] at hk
        split at hk
        rotate_left
        · cases hk
        rename_i hT
        -- the heads, over what the tail does not write
        have hdl : (dropH xs 0 h).length = h.length := dropH_len xs h 0
        have hdg : ∀ (id : Nat) (o : Ob), (dropH xs 0 h)[id]? = some o → o = .gone ∨ h[id]? = some o := fun id o q => by
          rw [dropH_get, Nat.zero_add] at q
          cases e : h[id]? with
          | none => rw [e] at q; cases q
          | some o' => rw [e] at q; cases hm : memN xs id <;> rw [hm] at q <;> cases q <;> simp
        have hll : (lockH xs 0 h).length = h.length := lockH_len xs h 0
        have hlg : ∀ (id : Nat) (o : Ob), (lockH xs 0 h)[id]? = some o → o = .gone ∨ h[id]? = some o := fun id o q => by
          rw [lockH_get, Nat.zero_add] at q
          cases e : h[id]? with
          | none => rw [e] at q; cases q
          | some o' => rw [e] at q; cases hm : memN xs id <;> rw [hm] at q <;> cases q <;> simp
        obtain ⟨H1, le1⟩ := H.rebase hdl hdg
        have h1 := WhD.keep (runH_sound hX H1 _ (dstP Hs) (E.mono le1) hk)
        have lex1 : LeX (memN xs) (memOf (lentOf (dropH xs 0 h) g) (memOf M S w0 h g w).I w (dropH xs 0 h) g w) (memOf M S w0 h g w) := by
          refine ⟨by simp [memOf, hdl], fun _ _ => rfl, fun id _ q => ?_, fun b hb => ⟨?_, rfl⟩, Nat.le_refl _⟩
          · have q : lives h id := q
            cases hm : memN xs id with
            | true => exact .inr rfl
            | false =>
              refine .inl ?_
              show lives (dropH xs 0 h) id
              unfold lives at q ⊢
              rw [dropH_get, Nat.zero_add, hm]
              cases e : h[id]? with
              | none => rw [e] at q; cases q
              | some o => rw [e] at q; exact q
          · obtain ⟨k1, k2, k3⟩ := hb
            rcases k2 with k2 | k2 | ⟨j, k4, k5⟩
            · omega
            · exact k2
            · exact absurd k5 (k3 j k4)
        refine ⟨Bel w.heap.size w, Kept (lentOf (dropH xs 0 h) g) (memOf M S w0 h g w).I w (dropH xs 0 h) g w, H1.kept, ⟨fun a b p q => bel_gr a b p q (Nat.le_refl _), H1.kept_gr⟩, Bel.refl _ _, ⟨?_⟩⟩
        refine WhD.mono ?_ h1
        rintro r' ⟨⟨e1, E1, hk1⟩, hsame⟩ w1 hb
        rw [cond_eq_ite] at hk1
        split at hk1
        rotate_left
        · cases hk1
        rename_i hsafe
        generalize hds : slotsOf ops ((picks ops Hs).map (·.1)) = ds at *
        have EA : ER (memOf M S w0 h g w) (mergeE e e1 ds) r' := fun t => by
          rw [mergeE_get]
          by_cases ht : t ∈ ds
          · rw [if_pos ht]; exact okV_mono lex1 _ _ (List.all_eq_true.1 hsafe t ht) (E1 t)
          · rw [if_neg ht, hsame t ht]; exact E t
        obtain ⟨Hw1, lew1⟩ := H.below hb.b hb.d
        have EA1 := EA.mono lew1
        generalize mergeE e e1 ds = eA at *
        obtain ⟨H2, le2⟩ := Hw1.rebase hll hlg
        have hC : ∀ h' g' w', Rel (lentOf (lockH xs 0 h) g) (memOf M S w0 h g w1).I w1 h' g' w' → Kept (lentOf (dropH xs 0 h) g) (memOf M S w0 h g w).I w (dropH xs 0 h) g w w' := fun h' g' w' R' b hs => by
          have hbl : b < w.heap.size := H1.seen_lt hs
          have hbl1 : b < w1.heap.size := Nat.lt_of_lt_of_le hbl hb.b.size
          rw [R'.old b hbl1 ?_, hb.b.block b hbl]
          rintro ⟨j, k1, k2⟩
          have kj : lives h j ∧ memN xs j = true := by
            unfold lives at k1 ⊢
            rw [lockH_get, Nat.zero_add] at k1
            cases e : h[j]? with
            | none => rw [e] at k1; cases k1
            | some o => rw [e] at k1; cases hm : memN xs j <;> rw [hm] at k1 <;> first | exact ⟨k1, rfl⟩ | cases k1
          rcases hs with hs | ⟨i, k3, k4⟩
          · obtain ⟨k5, k6, k7⟩ := hs
            rcases k6 with k6 | k6 | ⟨i, k8, k9⟩
            · omega
            · exact k6.2.2 j kj.1 k2
            · exact k7 i k8 k9
          · have ki : lives h i ∧ memN xs i = false := by
              unfold lives at k3 ⊢
              rw [dropH_get, Nat.zero_add] at k3
              cases e : h[i]? with
              | none => rw [e] at k3; cases k3
              | some o => rw [e] at k3; cases hm : memN xs i <;> rw [hm] at k3 <;> first | exact ⟨k3, rfl⟩ | cases k3
            have hne : j ≠ i := fun q => by subst q; rw [ki.2] at kj; cases kj.2
            exact H.inj j i kj.1 ki.1 hne b k2 k4
        have hT1 := WtD.keep (runT_sound (m0 := memOf (lentOf (lockH xs 0 h) g) (memOf M S w0 h g w1).I w1 (lockH xs 0 h) g w1) hX (l0 := picks ops (takeF Tl)) (fun _ _ _ => hC) (picks ops (takeF Tl)) (fun _ hx => hx) (dstP _) H2 (EA1.mono le2) (.refl _) hk1)
        refine WtD.toR ?_
        rw [← take_dropF Tl, picks_app]
        refine WtD.append (WtD.mono' ?_ hT1)
        rintro r'' w'' ⟨⟨e2, h2, g2, R2, E2, le3, hk2⟩, hsame2⟩
        rw [cond_eq_ite] at hk2
        split at hk2
        rotate_left
        · cases hk2
        rename_i hs2
        rw [Bool.and_eq_true] at hs2
        obtain ⟨hs2, ho2⟩ := hs2
        generalize slotsOf ops ((picks ops (takeF Tl)).map (·.1)) = ds2 at *
        obtain ⟨R3, le4, lex3⟩ := Hw1.unlock R2 le3 ho2
        have E3 : ER (memOf M S w0 (unlockH xs 0 h h2) g2 w'') (mergeE eA e2 ds2) r'' := fun t => by
          rw [mergeE_get]
          by_cases ht : t ∈ ds2
          · rw [if_pos ht]; exact okV_mono lex3 _ _ (List.all_eq_true.1 hs2 t ht) (E2 t)
          · rw [if_neg ht, hsame2 t ht]; exact (EA1.mono le4) t
        exact WtD.mono' next (runW_sound hX _ (hfl _ hT) (dstP _) R3 E3 (kept_le (kept_le hg lew1) le4) hk2)
    · have hA2 : treeOf (Hs, Tl, XS, A) = A := by cases A <;> first | exact absurd rfl hA | rfl
      rw [List.map_cons, hA2]
      have hk : (match ptrIds e XS with
        | some xs =>
          bif A.allF then
            runH X ops (picks ops Hs) e (dropH xs 0 h) fun e1 =>
              bif (slotsOf ops ((picks ops Hs).map (·.1))).all (fun d => okV (memN xs) (getE e1 d)) then
                runTr X ops A (mergeE e e1 (slotsOf ops ((picks ops Hs).map (·.1)))) (lockH xs 0 h) fun e2 h2 =>
                  bif (slotsOf ops (opsTr ops A)).all (fun d => okV (stillB xs h) (getE e2 d)) && h2.all (okO (stillB xs h)) then
                    runPh X ops l (mergeE (mergeE e e1 (slotsOf ops ((picks ops Hs).map (·.1)))) e2 (slotsOf ops (opsTr ops A))) (unlockH xs 0 h h2) KE
                  else none
              else none
          else none
        | none => none) = some res := by cases A <;> first | exact absurd rfl hA | exact hk
      split at hk
      rotate_left
      · cases hk
      rename_i xs hxs
      rw [cond_eq_ite] at hk
      split at hk
      rotate_left
      · cases hk
      rename_i hT
      -- the heads, over what the tail does not write
      have hdl : (dropH xs 0 h).length = h.length := dropH_len xs h 0
      have hdg : ∀ (id : Nat) (o : Ob), (dropH xs 0 h)[id]? = some o → o = .gone ∨ h[id]? = some o := fun id o q => by
        rw [dropH_get, Nat.zero_add] at q
        cases e : h[id]? with
        | none => rw [e] at q; cases q
        | some o' => rw [e] at q; cases hm : memN xs id <;> rw [hm] at q <;> cases q <;> simp
      have hll : (lockH xs 0 h).length = h.length := lockH_len xs h 0
      have hlg : ∀ (id : Nat) (o : Ob), (lockH xs 0 h)[id]? = some o → o = .gone ∨ h[id]? = some o := fun id o q => by
        rw [lockH_get, Nat.zero_add] at q
        cases e : h[id]? with
        | none => rw [e] at q; cases q
        | some o' => rw [e] at q; cases hm : memN xs id <;> rw [hm] at q <;> cases q <;> simp
      obtain ⟨H1, le1⟩ := H.rebase hdl hdg
      have h1 := WhD.keep (runH_sound hX H1 _ (dstP Hs) (E.mono le1) hk)
      have lex1 : LeX (memN xs) (memOf (lentOf (dropH xs 0 h) g) (memOf M S w0 h g w).I w (dropH xs 0 h) g w) (memOf M S w0 h g w) := by
        refine ⟨by simp [memOf, hdl], fun _ _ => rfl, fun id _ q => ?_, fun b hb => ⟨?_, rfl⟩, Nat.le_refl _⟩
        · have q : lives h id := q
          cases hm : memN xs id with
          | true => exact .inr rfl
          | false =>
            refine .inl ?_
            show lives (dropH xs 0 h) id
            unfold lives at q ⊢
            rw [dropH_get, Nat.zero_add, hm]
            cases e : h[id]? with
            | none => rw [e] at q; cases q
            | some o => rw [e] at q; exact q
        · obtain ⟨k1, k2, k3⟩ := hb
          rcases k2 with k2 | k2 | ⟨j, k4, k5⟩
          · omega
          · exact k2
          · exact absurd k5 (k3 j k4)
      refine ⟨Bel w.heap.size w, Kept (lentOf (dropH xs 0 h) g) (memOf M S w0 h g w).I w (dropH xs 0 h) g w, H1.kept, ⟨fun a b p q => bel_gr a b p q (Nat.le_refl _), H1.kept_gr⟩, Bel.refl _ _, ⟨?_⟩⟩
      refine WhD.mono ?_ h1
      rintro r' ⟨⟨e1, E1, hk1⟩, hsame⟩ w1 hb
      rw [cond_eq_ite] at hk1
      split at hk1
      rotate_left
      · cases hk1
      rename_i hsafe
      generalize hds : slotsOf ops ((picks ops Hs).map (·.1)) = ds at *
      have EA : ER (memOf M S w0 h g w) (mergeE e e1 ds) r' := fun t => by
        rw [mergeE_get]
        by_cases ht : t ∈ ds
        · rw [if_pos ht]; exact okV_mono lex1 _ _ (List.all_eq_true.1 hsafe t ht) (E1 t)
        · rw [if_neg ht, hsame t ht]; exact E t
      obtain ⟨Hw1, lew1⟩ := H.below hb.b hb.d
      have EA1 := EA.mono lew1
      generalize mergeE e e1 ds = eA at *
      obtain ⟨H2, le2⟩ := Hw1.rebase hll hlg
      have hC : ∀ h' g' w', Rel (lentOf (lockH xs 0 h) g) (memOf M S w0 h g w1).I w1 h' g' w' → Kept (lentOf (dropH xs 0 h) g) (memOf M S w0 h g w).I w (dropH xs 0 h) g w w' := fun h' g' w' R' b hs => by
        have hbl : b < w.heap.size := H1.seen_lt hs
        have hbl1 : b < w1.heap.size := Nat.lt_of_lt_of_le hbl hb.b.size
        rw [R'.old b hbl1 ?_, hb.b.block b hbl]
        rintro ⟨j, k1, k2⟩
        have kj : lives h j ∧ memN xs j = true := by
          unfold lives at k1 ⊢
          rw [lockH_get, Nat.zero_add] at k1
          cases e : h[j]? with
          | none => rw [e] at k1; cases k1
          | some o => rw [e] at k1; cases hm : memN xs j <;> rw [hm] at k1 <;> first | exact ⟨k1, rfl⟩ | cases k1
        rcases hs with hs | ⟨i, k3, k4⟩
        · obtain ⟨k5, k6, k7⟩ := hs
          rcases k6 with k6 | k6 | ⟨i, k8, k9⟩
          · omega
          · exact k6.2.2 j kj.1 k2
          · exact k7 i k8 k9
        · have ki : lives h i ∧ memN xs i = false := by
            unfold lives at k3 ⊢
            rw [dropH_get, Nat.zero_add] at k3
            cases e : h[i]? with
            | none => rw [e] at k3; cases k3
            | some o => rw [e] at k3; cases hm : memN xs i <;> rw [hm] at k3 <;> first | exact ⟨k3, rfl⟩ | cases k3
          have hne : j ≠ i := fun q => by subst q; rw [ki.2] at kj; cases kj.2
          exact H.inj j i kj.1 ki.1 hne b k2 k4
      have hT1 := WtR.keep (runTr_sound (m0 := memOf (lentOf (lockH xs 0 h) g) (memOf M S w0 h g w1).I w1 (lockH xs 0 h) g w1) hX hd hC A H2 (EA1.mono le2) (.refl _) hk1)
      refine WtR.mono' ?_ hT1
      rintro r'' w'' ⟨⟨e2, h2, g2, R2, E2, le3, hk2⟩, hsame2⟩
      rw [cond_eq_ite] at hk2
      split at hk2
      rotate_left
      · cases hk2
      rename_i hs2
      rw [Bool.and_eq_true] at hs2
      obtain ⟨hs2, ho2⟩ := hs2
      generalize slotsOf ops (opsTr ops A) = ds2 at *
      obtain ⟨R3, le4, lex3⟩ := Hw1.unlock R2 le3 ho2
      have E3 : ER (memOf M S w0 (unlockH xs 0 h h2) g2 w'') (mergeE eA e2 ds2) r'' := fun t => by
        rw [mergeE_get]
        by_cases ht : t ∈ ds2
        · rw [if_pos ht]; exact okV_mono lex3 _ _ (List.all_eq_true.1 hs2 t ht) (E2 t)
        · rw [if_neg ht, hsame2 t ht]; exact (EA1.mono le4) t
      exact next _ _ ⟨_, _, _, R3, E3, kept_le (kept_le hg lew1) le4, hk2⟩


theorem runRg_sound {X : Cx} (hX : CxOk X) {id : Nat} {ops : Array Oper} {draw : Bool} {keep : Nat} {G0 : Nat → Value} {KE : Ev → Hm → Option R} {Q : Post}
    (H : Rel M S w0 h g w) (E : ER (memOf M S w0 h g w) e r) (hg : ∀ i, i < keep → i < h.length ∧ g i = G0 i) (hk : runRg X id ops.toList draw e h KE = some res) (hQ : ∀ r w, St M S w0 keep G0 KE res r w → Q.normal r w) :
    Wc X.P X.nt (.region id ops draw) Q r w := by
  obtain ⟨ops⟩ := ops
  unfold runRg at hk
  dsimp only at hk
  rw [cond_eq_ite] at hk
  split at hk
  rotate_left
  · cases hk
  rename_i hd
  cases draw with
  | false =>
    simp only [cond_false] at hk
    have h1 := runL_sound hX ops hd H E hg hk
    exact (Wc.region (Q := { Q with normal := St M S w0 keep G0 KE res }) ⟨h1⟩).mono hQ (fun _ _ _ q => q) (fun _ _ q => q)
  | true =>
    simp only [cond_true] at hk
    rw [cond_eq_ite] at hk
    split at hk
    rotate_left
    · cases hk
    rename_i hok
    obtain ⟨H', le⟩ := H.below (w' := { w with drawn := w.drawn + 1 }) ⟨rfl, rfl, rfl, Nat.le_refl _, fun _ _ => rfl⟩
    exact (Wc.draw (Q := { Q with normal := St M S w0 keep G0 KE res }) hX.mo _ hok (runPh_sound hX hd _ H' (E.mono le) (kept_le hg le) hk)).mono hQ (fun _ _ _ q => q) (fun _ _ q => q)

end
end Go.Dor
end

section
/- CODE: what the machine says of a function holds. Plain lemmas over any program. -/
namespace Go.Dor
open Go.RowKit (Below)

section
variable {M S : Nat → Prop} {w0 w w' : World} {h : Hm} {g : Nat → Value} {R : Type} {res : R} {e : Ev} {r : Env} {m m' : Mem}

theorem St.arrive {X : Cx} {d : Sd} {G0 : Nat → Value} {J : HL d.ds.ts → Option R} (s : St M S w0 X.keep G0 (arrive X d J) res r w) :
    ∃ x, J x = some res ∧ ∀ {R' : Type} {res' : R'} (KE : Ev → Hm → Option R'), resume d KE x = some res' → St M S w0 X.keep G0 KE res' r w := by
  obtain ⟨e, h, g, H, E, hg, hk⟩ := s
  obtain ⟨x, g', h1, H', E', hg'⟩ := arrive_sound H E hk
  refine ⟨x, h1, fun KE hk' => ⟨_, _, g', H', E', fun i hi => ?_, hk'⟩⟩
  obtain ⟨h2, h3⟩ := hg' i hi (hg i hi).1
  exact ⟨by rw [givenO_len]; exact h2, h3.trans (hg i hi).2⟩

theorem Wc.scope {P : Program} {n : Nat} {c : Code} {Q : Post} {r : Env} {w : World} (h : Wc P n c Q r w) : Wc P n (.scope c) Q r w :=
  ⟨fun a ha => wp_scope_straight (wp_mono (h.out a ha) fun e a w q => by cases e <;> exact q)⟩
theorem Wc.label {P : Program} {n l : Nat} {Q : Post} {r : Env} {w : World} (h : Q.normal r w) : Wc P n (.label l) Q r w := ⟨fun _ ha => wp_label ⟨r, ha, h⟩⟩
theorem exec_sound {X : Cx} (hX : CxOk X) {k : Nat} {G0 : Nat → Value} : ∀ (c : Code) {KQ : KK R} {Q : Post} {r : Env} {w : World}, St M S w0 X.keep G0 (exec X k c KQ) res r w →
    (∀ r w, St M S w0 X.keep G0 KQ.normal res r w → Q.normal r w) → (∀ i r w, St M S w0 X.keep G0 (KQ.exit i) res r w → Q.exit i r w) → (∀ r w, St M S w0 X.keep G0 KQ.ret res r w → Q.ret r w) → Wc X.P X.nt c Q r w
  | .skip, KQ, Q, r, w, s, hn, hx, hr => by
    simp only [exec] at s
    exact .skip (hn _ _ s)
  | .ret, KQ, Q, r, w, s, hn, hx, hr => by
    simp only [exec] at s
    exact .ret (hr _ _ s)
  | .exit i, KQ, Q, r, w, s, hn, hx, hr => by
    simp only [exec] at s
    exact .exit (hx _ _ _ s)
  | .seq a b, KQ, Q, r, w, s, hn, hx, hr => by
    simp only [exec] at s
    refine .seq ?_
    split at s
    · rename_i d hd
      simp only [joinC] at s
      refine exec_sound hX a s (fun r w s => ?_) hx hr
      obtain ⟨x, h1, h2⟩ := s.arrive
      exact exec_sound hX b (h2 _ h1) hn hx hr
    · exact exec_sound hX a s (fun r w s => exec_sound hX b s hn hx hr) hx hr
  | .cond c a b, KQ, Q, r, w, s, hn, hx, hr => by
    obtain ⟨e, h, g, H, E, hg, hk⟩ := s
    simp only [exec] at hk
    have hc := opnd_sound E c
    split at hk
    · rename_i x hxe
      rw [hxe] at hc
      refine .iff (rv_bool hc) (fun ht => ?_) fun hf => ?_
      · subst ht; exact exec_sound hX a ⟨e, h, g, H, E, hg, hk⟩ hn hx hr
      · subst hf; exact exec_sound hX b ⟨e, h, g, H, E, hg, hk⟩ hn hx hr
    · cases hk
  | .block i c, KQ, Q, r, w, s, hn, hx, hr => by
    simp only [exec] at s
    refine .block (exec_sound hX c s hn (fun j r w s => ?_) hr)
    dsimp only at s ⊢
    by_cases hj : j = i
    · subst hj
      simp only [show Nat.beq j j = true from Nat.beq_refl j, cond_true, if_true] at s ⊢
      exact hn _ _ s
    · have : Nat.beq j i = false := Bool.eq_false_iff.2 fun q => hj (Nat.eq_of_beq_eq_true q)
      simp only [this, cond_false] at s
      rw [if_neg hj]
      exact hx _ _ _ s
  | .region id ops draw, KQ, Q, r, w, s, hn, hx, hr => by
    obtain ⟨e, h, g, H, E, hg, hk⟩ := s
    simp only [exec] at hk
    split at hk
    · rename_i d hd
      simp only [joinC] at hk
      refine runRg_sound hX H E hg hk fun r w s => ?_
      obtain ⟨x, h1, h2⟩ := s.arrive
      exact hn _ _ (h2 _ h1)
    · exact runRg_sound hX H E hg hk hn
  | .loop c, KQ, Q, r, w, s, hn, hx, hr => by
    simp only [exec] at s
    split at s
    · rename_i d hd
      refine .loop (fun j r w => St M S w0 X.keep G0 (arrive X d (loopC (fun rec => resume d (exec X k c { KQ with normal := arrive X d rec })) j)) res r w) k s fun j r w s => ?_
      obtain ⟨x, h1, h2⟩ := s.arrive
      cases j with
      | zero => cases h1
      | succ j => exact exec_sound hX c (h2 _ h1) (fun r w s => ⟨j, Nat.lt_succ_self j, s⟩) hx hr
    · obtain ⟨e, h, g, H, E, hg, hk⟩ := s
      cases hk
  | .rangeFunc .., KQ, Q, r, w, s, hn, hx, hr => by
    obtain ⟨e, h, g, H, E, hg, hk⟩ := s
    simp only [exec] at hk; cases hk
  | .scope c, KQ, Q, r, w, s, hn, hx, hr => by
    simp only [exec] at s
    exact .scope (exec_sound hX c s hn hx hr)
  | .label _, KQ, Q, r, w, s, hn, hx, hr => by
    simp only [exec] at s
    exact .label (hn _ _ s)

/-! ### how a function ends and begins -/
theorem load_inv {P : Program} {d : Option Tmp} {ty : TypeId} {pos : String} {aft : Array Edge} {gd : Option (Nat × Bool)} {x : Operand} {T : TypeId} {v : Value} (hl : (execOp (ev r) ⟨d, .load T x, ty, pos, aft, gd⟩).run P w = .ok (.value v) w') :
    ∃ a, ev r x = .pointer (some a) ∧ (loadVar T a).run P w = .ok v w' := by
  cases hx : ev r x with
  | pointer a =>
    cases a with
    | none => simp [execOp, hx, Instr.loadAt, Instr.sureAddr, stuck] at hl
    | some a =>
      refine ⟨a, rfl, ?_⟩
      simp [execOp, hx, Instr.loadAt, Instr.sureAddr] at hl
      cases hq : (loadVar T a).run P w with
      | ok v' w'' => rw [hq] at hl; simpa using hl
      | _ => rw [hq] at hl; simp at hl
  | _ => simp [execOp, hx, Instr.loadAt, Instr.sureAddr, stuck] at hl

theorem resAll_sound {P : Program} (H : Rel M S w0 h g w) (E : ER (memOf M S w0 h g w) e r) : ∀ {rs : List ResultVar} {KV : List V → Option R}, resAll P e h rs KV = some res →
    ∃ vs vals, ResV P r w rs vals ∧ Al2 (Rv (memOf M S w0 h g w)) vs vals ∧ KV vs = some res
  | [], KV, hk => ⟨[], [], .nil, trivial, hk⟩
  | .tmp t :: l, KV, hk => by
    simp only [resAll, resOne] at hk
    obtain ⟨vs, vals, h1, h2, h3⟩ := resAll_sound H E hk
    exact ⟨getE e t :: vs, _, .tmp rfl h1, ⟨E t, h2⟩, h3⟩
  | .cell t T :: l, KV, hk => by
    simp only [resAll, resOne] at hk
    obtain ⟨v, val, k1, k2, k3⟩ := load_sound (d := none) (ty := 0) (pos := "") (aft := #[]) (gd := none) (x := .tmp t) (K := fun v _ => resAll P e h l fun vs => KV (v :: vs)) H E hk
    obtain ⟨a, k4, k5⟩ := load_inv (k1 w fun _ _ => rfl)
    obtain ⟨vs, vals, h1, h2, h3⟩ := resAll_sound H E k3
    exact ⟨v :: vs, _, .cell k4 k5 h1, ⟨k2, h2⟩, h3⟩

theorem natsTo_map (l : List Value) : ∀ (pre suf : List Value), l = pre ++ suf → (natsTo pre.length suf.length).map (envL l) = suf
  | pre, [], _ => rfl
  | pre, v :: suf, h => by
    have ih := natsTo_map l (pre ++ [v]) suf (by rw [h]; simp)
    simp only [List.length_append, List.length_cons, List.length_nil, Nat.zero_add] at ih
    simp only [List.length_cons, natsTo, List.map_cons, ih, List.cons.injEq, and_true]
    simp [envL, h]
theorem giveVds_len (f : Nat → Nat) : ∀ (d : List Vd) (l : List Dt), (giveVds f d l).1.length = d.length
  | [], _ => rfl
  | x :: d, l => by
    simp only [giveVds]
    rw [List.length_cons, List.length_cons, giveVds_len f d]

/-- what a function comes to holds of the program -/
theorem runF_sound {X : Cx} (hX : CxOk X) {fid : FuncId} {fn : Func} {k : Nat} {pre post : Ds} {q : HL pre.ts → Option (HL post.ts)} (hf : X.P.funcs[fid]? = some fn) (hq : ∀ x, runF X k fn pre post x = q x) : Entry.Sound X.P fid ⟨pre, post, q⟩ := by
  refine ⟨fun x y hy S w g vals Hs => ?_⟩
  dsimp only at x y hy Hs ⊢
  rw [← hq] at hy
  unfold runF at hy
  split at hy
  rotate_left
  · cases hy
  rename_i c hc
  rw [cond_eq_ite] at hy
  split at hy
  rotate_left
  · cases hy
  rename_i hb
  simp only [Bool.and_eq_true] at hb
  obtain ⟨⟨⟨hb1, hb2⟩, hb3⟩, hb4⟩ := hb
  have hb1 := Nat.eq_of_beq_eq_true hb1
  have hb2 := Nat.le_of_ble_eq_true hb2
  have hb3 := Nat.eq_of_beq_eq_true hb3
  have hlen : vals.length = pre.vals.length := by
    rw [← Hs.vals.length]; exact giveVds_len _ _ _
  refine enter (n := X.nt) (R := fun v w' => ∃ vs g', v = one vs ∧ Rel (lentOf (givenO pre id x) g) S w (givenO post id y) g' w' ∧
      Al2 (Rv (memOf (lentOf (givenO pre id x) g) S w (givenO post id y) g' w')) (givenV post id y).1 vs ∧ ∀ i, i < pre.objs.length → g' i = g i) hf hc hb3.symm (by omega) ?_ |>.mono fun e w' ⟨v, he, vs, g', hv, h1⟩ => ⟨vs, g', by rw [he, hv], h1⟩
  have E0 : ER (memOf (lentOf (givenO pre id x) g) S w (givenO pre id x) g w) (zipE (natsTo 0 pre.vals.length) (givenV pre id x).1) (envL vals) := by
    refine zipE_er ?_
    rw [← hlen]
    have := natsTo_map vals [] vals rfl
    simp only [List.length_nil] at this
    rw [this]
    exact Hs.vals
  have s0 : St (lentOf (givenO pre id x) g) S w X.keep g (exec X k c ⟨leave X fn.results.toList post, fun _ _ _ => none, leave X fn.results.toList post⟩) y (envL vals) w :=
    ⟨_, _, g, Hs.rel, E0, fun i hi => ⟨by rw [givenO_len, ← hb1]; exact hi, rfl⟩, hy⟩
  have fin_ : ∀ r w', St (lentOf (givenO pre id x) g) S w X.keep g (leave X fn.results.toList post) y r w' → fin X.P fn (fun v w' => ∃ vs g', v = one vs ∧ Rel (lentOf (givenO pre id x) g) S w (givenO post id y) g' w' ∧
      Al2 (Rv (memOf (lentOf (givenO pre id x) g) S w (givenO post id y) g' w')) (givenV post id y).1 vs ∧ ∀ i, i < pre.objs.length → g' i = g i) r w' := by
    rintro r w' ⟨e, h, g1, H, E, hg, hk⟩
    unfold leave at hk
    obtain ⟨vs, vals', h1, h2, h3⟩ := resAll_sound H E hk
    split at h3
    rotate_left
    · cases h3
    rename_i l kk ht
    obtain ⟨g3, H3, hv3, eg3, _⟩ := renewAll_sound (goneN 0 X.keep post.objs) H h2
    obtain ⟨vs', os, t⟩ := takeDs_sound H3.objs ht hv3 (by simp) (keepN_inj _)
    obtain ⟨H', hv⟩ := t.rel H3
    obtain ⟨do', k1, k2⟩ := t.gv
    have e1 := ofL_toL _ _ _ h3
    have e2 : givenV post id y = (vs', do') := by unfold givenV; rw [e1]; exact k1
    have e3 : givenO post id y = os := by unfold givenO; rw [e2]; exact k2
    refine ⟨vals', h1, vals', ren kk g3, rfl, by rw [e3]; exact H', by rw [e3, e2]; exact hv, fun i hi => ?_⟩
    have hi' : i < X.keep := by omega
    rw [ren_eq (t.le.r i i (keepN_has hi')), eg3 i (hg i hi').1]
    exact (hg i hi').2
  exact exec_sound hX c s0 fin_ (fun i r w' s => (by obtain ⟨e, h, g1, H, E, hg, hk⟩ := s; cases hk)) fin_

theorem dOk_nil {P : Program} : ∀ f en, (f, en) ∈ ([] : List (Nat × Entry)) → Entry.Sound P f en := fun _ _ h => by cases h
theorem dOk_cons {P : Program} {f : Nat} {en : Entry} {D : List (Nat × Entry)} (h : Entry.Sound P f en) (k : ∀ f en, (f, en) ∈ D → Entry.Sound P f en) : ∀ f' en', (f', en') ∈ (f, en) :: D → Entry.Sound P f' en' := fun f' en' q => by
  rcases List.mem_cons.1 q with q | q
  · cases q; exact h
  · exact k _ _ q
theorem ext_nil {P : Program} : ∀ f kd, findA ([] : List (Nat × Nat)) f = some kd → ExternOf P f (externFn kd) := fun _ _ h => by cases h
end
end Go.Dor
end

section
/- slices.Insert AT ELEMENTS OF K CELLS, over any program that bears it: the four roads. (The shelf's text for one cell, turned.) -/
set_option linter.unusedVariables false
set_option linter.unusedSimpArgs false
namespace Go.Proofs
open Go.Shelf Go.RowKit Go.Lib
variable {P : Program} {ρ : Go.Shelf.Ren} {K bts : Nat} {zv : Value}

structure InsL (P : Program) (ρ : Go.Shelf.Ren) (K bts : Nat) (zv : Value) : Prop where
  mixed : P.follows .mixedOrders = true
  f22 : Bears P (ρ.f 22) (Body2.n22 ρ)
  f29 : Go.Dor.ExternOf P (ρ.f 29) (Extern.SlicesOverlaps.overlaps #[(ρ.t 24), (ρ.t 24)] #[(ρ.t 4)])
  t0 : P.underlying (ρ.t 0) = some (TypeDesc.tuple #[])
  a0 : ∀ w, (isAgg (ρ.t 0)).run P w = .ok false w
  z0 : ∀ w, (Go.sizeOf (ρ.t 0)).run P w = .ok 1 w
  v0 : ∀ w, (zeroValue (ρ.t 0)).run P w = .ok (Value.tuple #[]) w
  t3 : P.underlying (ρ.t 3) = some (TypeDesc.int IntKind.i64)
  a3 : ∀ w, (isAgg (ρ.t 3)).run P w = .ok false w
  z3 : ∀ w, (Go.sizeOf (ρ.t 3)).run P w = .ok 1 w
  v3 : ∀ w, (zeroValue (ρ.t 3)).run P w = .ok (Value.int IntKind.i64 0) w
  t4 : P.underlying (ρ.t 4) = some (TypeDesc.bool)
  a4 : ∀ w, (isAgg (ρ.t 4)).run P w = .ok false w
  z4 : ∀ w, (Go.sizeOf (ρ.t 4)).run P w = .ok 1 w
  v4 : ∀ w, (zeroValue (ρ.t 4)).run P w = .ok (Value.bool false) w
  z9 : ∀ w, (Go.sizeOf (ρ.t 9)).run P w = .ok K w
  v9 : ∀ w, (zeroValue (ρ.t 9)).run P w = .ok zv w
  t24 : P.underlying (ρ.t 24) = some (TypeDesc.slice (ρ.t 9))
  a24 : ∀ w, (isAgg (ρ.t 24)).run P w = .ok false w
  z24 : ∀ w, (Go.sizeOf (ρ.t 24)).run P w = .ok 1 w
  v24 : ∀ w, (zeroValue (ρ.t 24)).run P w = .ok (Value.slice none 0 0) w
  i9 : (P.info? (ρ.t 9)).map (fun i => (i.zero, i.size, i.bytes)) = some (some zv, K, bts)
  zc : zv.cells.size = K

/-- ALL IS READ BEFORE ANYTHING IS WRITTEN: at elements of K cells. -/
theorem run_copy_cellsK (w : World) (dT sT ty elem : TypeId) (b o dLen dCap : Nat) (a : Addr) (sLen sCap : Nat) (cs : List Value)
    (hu : P.underlying dT = some (.slice elem)) (hs : (P.info? elem).map (·.size) = some K) (hn : cs.length = Nat.min sLen dLen * K)
    (hsrc : ∀ j v, cs[j]? = some v → w.cell? (a.add j) = some v) (hc : ∀ j, j < cs.length → (w.cell? ⟨b, o + j, none⟩).isSome = true) (hf : ∀ j, j < cs.length → w.frozen? ⟨b, o + j, none⟩ = false) (h1 : ∀ v ∈ cs, v.oneCell' = true) :
    (Builtin.copy_ #[dT, sT] ty #[.slice (some ⟨b, o, none⟩) dLen dCap, .slice (some a) sLen sCap]).run P w = .ok (goInt (Nat.min sLen dLen)) (w.setCells b o cs) := by
  have hl := run_loadCells_list (P := P) w a cs hsrc
  have hst := run_storeCells_cells (P := P) b o cs 0 w (by simpa using hc) (by simpa using hf) h1
  cases hq : P.info? elem with
  | none => simp [hq] at hs
  | some i =>
    have hi : i.size = K := by simpa [hq] using hs
    simp [Builtin.copy_, run_underlying hu, Builtin.lenOf, Builtin.firstCells, sizeOf, typeInfo, hq, hi, ← hn, hl, hst]

set_option maxHeartbeats 4000000 in
set_option maxRecDepth 100000 in
/-- AT THE END, THERE IS ROOM: in place. -/
theorem insK_end_room (L : InsL P ρ K bts zv) (b off n c vb voff m vc : Nat) (vs : List Value) (w : World) (hm : 0 < m) (hroom : n + m ≤ c) (hc63 : c ≤ 9223372036854775807)
    (hvl : vs.length = m * K) (hsp : ∀ j, j < m * K → (w.cell? ⟨b, off + n * K + j, none⟩).isSome = true) (hfz : ∀ j, j < m * K → w.frozen? ⟨b, off + n * K + j, none⟩ = false)
    (hvs : ∀ j v, vs[j]? = some v → w.cell? ⟨vb, voff + j, none⟩ = some v) (h1v : ∀ v ∈ vs, v.oneCell' = true) :
    Calls P (ρ.f 22) #[.slice (some ⟨b, off, none⟩) n c, .int .i64 n, .slice (some ⟨vb, voff, none⟩) m vc] w fun e w' =>
      e = .returned (.slice (some ⟨b, off, none⟩) (n + m) c) ∧ w' = w.setCells b (off + n * K) vs := by
  have t0 := L.t0; have a0 := L.a0; have z0 := L.z0; have v0 := L.v0; have t3 := L.t3; have a3 := L.a3; have z3 := L.z3; have v3 := L.v3; have t4 := L.t4; have a4 := L.a4; have z4 := L.z4; have v4 := L.v4; have z9 := L.z9; have v9 := L.v9; have t24 := L.t24; have a24 := L.a24; have z24 := L.z24; have v24 := L.v24
  have u0 := run_underlying L.t0; have u3 := run_underlying L.t3; have u4 := run_underlying L.t4; have u24 := run_underlying L.t24
  have mixed := L.mixed
  obtain ⟨i0, hi0, hz0, hzs, hzb⟩ := info_parts L.i9
  have hz1 : ¬ ((m : Int) = 0) := by omega
  have hsrc : Src P i0.size (ρ.t 24) (.slice (some ⟨vb, voff, none⟩) m vc) m vs w := by
    rw [hzs]
    exact Src.ofSlice w L.t24 ⟨vb, voff, none⟩ m vc vs hvl (fun j u hj => by rw [Addr.add_lit]; exact hvs j u hj) h1v
  have hrun : ∀ ty, (Builtin.append_ #[(ρ.t 24), (ρ.t 24)] ty #[.slice (some ⟨b, off, none⟩) n c, .slice (some ⟨vb, voff, none⟩) m vc]).run P w = .ok (.slice (some ⟨b, off, none⟩) (n + m) c) (w.setCells b (off + n * K) vs) := fun ty => by
    have h := run_append_room_src (P := P) (w := w) (ρ.t 24) (ρ.t 24) ty (ρ.t 9) i0 L.t24 hi0 b off n c _ m vs hsrc hroom (by rw [hzs, hvl]; exact hsp) (by rw [hzs, hvl]; exact hfz)
    rw [hzs] at h
    exact h
  obtain ⟨nm, _, F22⟩ := L.f22
  go_enter F22, Body2.n22_ntmps ρ
  go_wp2_with (at_builtin; refine Lib.wpList_append_run _ rfl _ _ _ _ rfl _ _ rfl rfl _ _ (hrun _) ?_)
  go_ret
  exact ⟨rfl, rfl⟩

set_option maxHeartbeats 4000000 in
set_option maxRecDepth 100000 in
/-- AT THE END, NO ROOM: a new row. -/
theorem insK_end_grow (L : InsL P ρ K bts zv) (base : Option Addr) (n c vb voff m vc : Nat) (cs vs : List Value) (w : World) (hm : 0 < m) (hnc : n ≤ c) (hroom : c < n + m) (hbig : (n + m) * bts ≤ 140737488355328) (h63 : n + m ≤ 9223372036854775807)
    (hcl : cs.length = n * K) (hvl : vs.length = m * K) (hnil : base = none → n = 0)
    (hcs : ∀ a, base = some a → ∀ j v, cs[j]? = some v → w.cell? (a.add j) = some v)
    (hvs : ∀ j v, vs[j]? = some v → w.cell? ⟨vb, voff + j, none⟩ = some v) (h1v : ∀ v ∈ vs, v.oneCell' = true) :
    Calls P (ρ.f 22) #[.slice base n c, .int .i64 n, .slice (some ⟨vb, voff, none⟩) m vc] w fun e w' =>
      e = .returned (.slice (some ⟨w.heap.size, 0, none⟩) (n + m) (grownCap w (n + m) c (ρ.t 9))) ∧
      w' = w.drew.alloc (.cells ((cs ++ vs).toArray ++ Builtin.zeroCells zv.cells (grownCap w (n + m) c (ρ.t 9) - (n + m))) (ρ.t 9)) := by
  have t0 := L.t0; have a0 := L.a0; have z0 := L.z0; have v0 := L.v0; have t3 := L.t3; have a3 := L.a3; have z3 := L.z3; have v3 := L.v3; have t4 := L.t4; have a4 := L.a4; have z4 := L.z4; have v4 := L.v4; have z9 := L.z9; have v9 := L.v9; have t24 := L.t24; have a24 := L.a24; have z24 := L.z24; have v24 := L.v24
  have u0 := run_underlying L.t0; have u3 := run_underlying L.t3; have u4 := run_underlying L.t4; have u24 := run_underlying L.t24
  have mixed := L.mixed
  obtain ⟨i0, hi0, hz0, hzs, hzb⟩ := info_parts L.i9
  have hz1 : ¬ ((m : Int) = 0) := by omega
  have hsrc : Src P i0.size (ρ.t 24) (.slice (some ⟨vb, voff, none⟩) m vc) m vs w := by
    rw [hzs]
    exact Src.ofSlice w L.t24 ⟨vb, voff, none⟩ m vc vs hvl (fun j u hj => by rw [Addr.add_lit]; exact hvs j u hj) h1v
  have hold : (Builtin.firstCells i0.size n (.slice base n c)).run P w.drew = .ok cs.toArray w.drew := by
    rw [hzs]
    cases base with
    | none =>
      have h0 := hnil rfl
      subst h0
      have e0 : cs = [] := List.length_eq_zero_iff.1 (by rw [hcl, Nat.zero_mul])
      rw [e0]
      exact run_firstCells_none w.drew K 0 0 c
    | some a => exact run_firstCells_some w.drew K n a n c cs hcl (fun j v hj => hcs a rfl j v hj)
  have hrun : ∀ ty, (Builtin.append_ #[(ρ.t 24), (ρ.t 24)] ty #[.slice base n c, .slice (some ⟨vb, voff, none⟩) m vc]).run P w = _ := fun ty =>
    run_append_grow_src w (ρ.t 24) (ρ.t 24) ty (ρ.t 9) i0 _ L.t24 hi0 hz0 base n c cs hold _ m vs hsrc hroom (by omega) (by rw [hzb]; exact growslice_fits hroom hbig)
  generalize zv.cells = zc at hrun ⊢
  obtain ⟨nm, _, F22⟩ := L.f22
  go_enter F22, Body2.n22_ntmps ρ
  cases base with
  | none =>
    have h0 := hnil rfl
    subst h0
    go_wp2_with (at_builtin; refine Lib.wpList_append_run _ rfl _ _ _ _ rfl _ _ rfl rfl _ _ (hrun _) ?_)
    go_ret
    exact ⟨rfl, rfl⟩
  | some a =>
    obtain ⟨ab, ao, asp⟩ := a
    go_wp2_with (at_builtin; refine Lib.wpList_append_run _ rfl _ _ _ _ rfl _ _ rfl rfl _ _ (hrun _) ?_)
    all_goals (go_ret; exact ⟨rfl, rfl⟩)

set_option maxHeartbeats 4000000 in
set_option maxRecDepth 100000 in
/-- THERE IS ROOM, i < len(s): in place. -/
theorem insK_shift (L : InsL P ρ K bts zv) (hK : 0 < K) (b off n c i vb voff m vc : Nat) (cs vs : List Value) (w : World) (hi : i < n) (hm : 0 < m) (hroom : n + m ≤ c) (hc63 : c ≤ 9223372036854775807) (hvb : vb ≠ b)
    (hcl : cs.length = n * K) (hvl : vs.length = m * K)
    (hcs : ∀ j v, cs[j]? = some v → w.cell? ⟨b, off + j, none⟩ = some v) (hsp : ∀ j, j < (n + m) * K → (w.cell? ⟨b, off + j, none⟩).isSome = true) (hfz : ∀ j, j < (n + m) * K → w.frozen? ⟨b, off + j, none⟩ = false)
    (hvs : ∀ j v, vs[j]? = some v → w.cell? ⟨vb, voff + j, none⟩ = some v) (h1c : ∀ v ∈ cs, v.oneCell' = true) (h1v : ∀ v ∈ vs, v.oneCell' = true)
    (tA tB : TypeId) (kA kB : Nat) (hsa : w.shape? vb = some (tA, kA)) (hsb : w.shape? b = some (tB, kB)) (hkB : kB ≠ 0) (hfa : w.frozen? ⟨vb, voff, none⟩ = false) (hfe : w.frozen? ⟨vb, kA, none⟩ = false) :
    Calls P (ρ.f 22) #[.slice (some ⟨b, off, none⟩) n c, .int .i64 i, .slice (some ⟨vb, voff, none⟩) m vc] w fun e w' =>
      e = .returned (.slice (some ⟨b, off, none⟩) (n + m) c) ∧ w' = (w.drew.setCells b (off + (i + m) * K) (cs.drop (i * K))).setCells b (off + i * K) vs := by
  have t0 := L.t0; have a0 := L.a0; have z0 := L.z0; have v0 := L.v0; have t3 := L.t3; have a3 := L.a3; have z3 := L.z3; have v3 := L.v3; have t4 := L.t4; have a4 := L.a4; have z4 := L.z4; have v4 := L.v4; have z9 := L.z9; have v9 := L.v9; have t24 := L.t24; have a24 := L.a24; have z24 := L.z24; have v24 := L.v24
  have u0 := run_underlying L.t0; have u3 := run_underlying L.t3; have u4 := run_underlying L.t4; have u24 := run_underlying L.t24
  have mixed := L.mixed
  have hz1 : ¬ ((m : Int) = 0) := by omega
  have hz2 : ¬ ((i : Int) = (n : Int)) := by omega
  have hsz : (P.info? (ρ.t 9)).map (·.size) = some K := by
    obtain ⟨i0, hi0, h0, h1, h2⟩ := info_parts L.i9
    rw [hi0]; simp [h1]
  have hov : ∀ lb cb, (callFunc (ρ.f 29) #[.slice (some ⟨vb, voff, none⟩) m vc, .slice (some ⟨b, off + (i + m) * K, none⟩) lb cb]).run P w = .ok (.value (.bool false)) w := fun lb cb => by
    obtain ⟨fn, h1, h2, h3, h4, h5⟩ := L.f29.fn
    rw [run_callFunc_extern h1 h2 h3 h4 h5,
      Lib.run_overlaps_apart w (ρ.t 24) (ρ.t 4) (ρ.t 9) L.t24 K L.z9 ⟨vb, voff, none⟩ ⟨b, off + (i + m) * K, none⟩ m vc lb cb hvb tA tB kA kB hsa hsb hkB hfa hfe]
    rfl
  have hdl : (cs.drop (i * K)).length = (n - i) * K := by rw [List.length_drop, hcl, Nat.sub_mul]
  have hw1 : IntKind.i64.wrap ((i : Int) + (m : Int)) = (i : Int) + (m : Int) := by rw [IntKind.wrap_i64]; omega
  have hb1 : (0 : Int) ≤ (i : Int) + (m : Int) := by omega
  have hin : i ≤ n := by omega
  have htn : ((i : Int) + (m : Int)).toNat = i + m := by omega
  have hb2 : ¬ (c = i + m) := by omega
  have hb3 : (i : Int) ≤ (n : Int) + (m : Int) := by omega
  have hb4 : ¬ (c = i) := by omega
  have k1 : (i + m) * K + (n - i) * K = (n + m) * K := by rw [← Nat.add_mul]; congr 1; omega
  have k2 : i * K + m * K ≤ (n + m) * K := by rw [← Nat.add_mul]; exact Nat.mul_le_mul_right _ (by omega)
  have min1 : Nat.min (n + m - i) (n + m - (i + m)) = n - i := by simp only [Nat.min_def]; split <;> omega
  have min2 : Nat.min m (n + m - i) = m := by simp only [Nat.min_def]; split <;> omega
  have hcp1 : ∀ ty dc sc, (Builtin.copy_ #[(ρ.t 24), (ρ.t 24)] ty #[.slice (some ⟨b, off + (i + m) * K, none⟩) (n + m - (i + m)) dc, .slice (some ⟨b, off + i * K, none⟩) (n + m - i) sc]).run P w.drew = .ok (goInt ((n - i : Nat) : Int)) (w.drew.setCells b (off + (i + m) * K) (cs.drop (i * K))) := fun ty dc sc => by
    have h := run_copy_cellsK (K := K) w.drew (ρ.t 24) (ρ.t 24) ty (ρ.t 9) b (off + (i + m) * K) (n + m - (i + m)) dc ⟨b, off + i * K, none⟩ (n + m - i) sc (cs.drop (i * K)) L.t24 hsz (by rw [hdl, min1])
      (fun j v hj => by rw [Addr.add_lit, Nat.add_assoc]; exact hcs (i * K + j) v (by rwa [List.getElem?_drop] at hj))
      (fun j hj => by rw [Nat.add_assoc]; exact hsp _ (by omega)) (fun j hj => by rw [Nat.add_assoc]; exact hfz _ (by omega)) (fun v hv => h1c v (List.mem_of_mem_drop hv))
    rw [min1] at h
    exact h
  obtain ⟨W1, hW1⟩ : ∃ W1, W1 = w.drew.setCells b (off + (i + m) * K) (cs.drop (i * K)) := ⟨_, rfl⟩
  have hsp1 : ∀ k, k < (n + m) * K → (W1.cell? ⟨b, off + k, none⟩).isSome = true := fun k hk => by
    rw [hW1]
    exact isSome_setCells b _ _ _ (fun j hj => by rw [Nat.add_assoc]; exact hsp _ (by omega)) _ (hsp k hk)
  have hcp2 : ∀ (W : World), (∀ x, W.cell? x = W1.cell? x) → (∀ x, W.frozen? x = W1.frozen? x) → ∀ ty dc, (Builtin.copy_ #[(ρ.t 24), (ρ.t 24)] ty #[.slice (some ⟨b, off + i * K, none⟩) (n + m - i) dc, .slice (some ⟨vb, voff, none⟩) m vc]).run P W = .ok (goInt m) (W.setCells b (off + i * K) vs) := fun W hWc hWf ty dc => by
    have h := run_copy_cellsK (K := K) W (ρ.t 24) (ρ.t 24) ty (ρ.t 9) b (off + i * K) (n + m - i) dc ⟨vb, voff, none⟩ m vc vs L.t24 hsz (by rw [hvl, min2])
      (fun j v hj => by
        rw [Addr.add_lit, hWc, hW1, World.cell?_setCells_out b _ _ _ _ (fun h _ => absurd h hvb)]
        exact hvs j v hj)
      (fun j hj => by rw [hWc, Nat.add_assoc]; exact hsp1 _ (by omega)) (fun j hj => by rw [hWf, hW1, World.frozen?_setCells, Nat.add_assoc]; exact hfz _ (by omega)) h1v
    rw [min2] at h
    exact h
  rw [← hW1] at hcp1
  obtain ⟨nm, _, F22⟩ := L.f22
  go_enter F22, Body2.n22_ntmps ρ
  go_wp2_with (simp only [hov])
  go_region_law_o (refine step_copy_runI rfl _ _ (ρ.t 24) (ρ.t 24) rfl _ _ (by simp [Act.eval, Act.put]) (by simp [Act.eval, Act.put]) (hcp1 _ _ _) ?_)
  go_wp2_with (at_builtin; refine wpList_copy_runI _ rfl _ _ (ρ.t 24) (ρ.t 24) rfl _ _ rfl rfl (hcp2 _ (fun _ => rfl) (fun _ => rfl) _ _) ?_)
  go_ret
  first | exact ⟨rfl, rfl⟩ | exact ⟨rfl, by rw [hW1]⟩

set_option maxHeartbeats 4000000 in
set_option maxRecDepth 100000 in
/-- i < len(s), NO ROOM: a new row: what stood ahead of i, v, what stood from i on. -/
theorem insK_grow (L : InsL P ρ K bts zv) (hK : 0 < K) (b off n c i vb voff m vc : Nat) (cs vs : List Value) (w : World) (hi : i < n) (hm : 0 < m) (hnc : n ≤ c) (hroom : c < n + m) (hbig : (n + m) * bts ≤ 140737488355328) (h63 : n + m ≤ 140737488355328)
    (hcl : cs.length = n * K) (hvl : vs.length = m * K)
    (hcs : ∀ j v, cs[j]? = some v → w.cell? ⟨b, off + j, none⟩ = some v)
    (hvs : ∀ j v, vs[j]? = some v → w.cell? ⟨vb, voff + j, none⟩ = some v) (h1c : ∀ v ∈ cs, v.oneCell' = true) (h1v : ∀ v ∈ vs, v.oneCell' = true) :
    Calls P (ρ.f 22) #[.slice (some ⟨b, off, none⟩) n c, .int .i64 i, .slice (some ⟨vb, voff, none⟩) m vc] w fun e w' =>
      e = .returned (.slice (some ⟨w.heap.size, 0, none⟩) (n + m) (grownCap w (n + m) c (ρ.t 9))) ∧
      w' = (((w.alloc (.cells ((cs.take (i * K)).toArray ++ Builtin.zeroCells zv.cells (n + m - i) ++ Builtin.zeroCells zv.cells (grownCap w (n + m) c (ρ.t 9) - (n + m))) (ρ.t 9))).drew.setCells w.heap.size (i * K) vs).drew).setCells w.heap.size ((i + m) * K) (cs.drop (i * K)) := by
  have t0 := L.t0; have a0 := L.a0; have z0 := L.z0; have v0 := L.v0; have t3 := L.t3; have a3 := L.a3; have z3 := L.z3; have v3 := L.v3; have t4 := L.t4; have a4 := L.a4; have z4 := L.z4; have v4 := L.v4; have z9 := L.z9; have v9 := L.v9; have t24 := L.t24; have a24 := L.a24; have z24 := L.z24; have v24 := L.v24
  have u0 := run_underlying L.t0; have u3 := run_underlying L.t3; have u4 := run_underlying L.t4; have u24 := run_underlying L.t24
  have mixed := L.mixed
  obtain ⟨i0, hi0, hz0, hzs, hzb⟩ := info_parts L.i9
  have hz1 : ¬ ((m : Int) = 0) := by omega
  have hz2 : ¬ ((i : Int) = (n : Int)) := by omega
  have hz3 : (c : Int) < (n : Int) + (m : Int) := by omega
  have hsz : (P.info? (ρ.t 9)).map (·.size) = some K := by rw [hi0]; simp [hzs]
  have kn : i * K < n * K := Nat.mul_lt_mul_of_pos_right hi hK
  have km : 0 < m * K := Nat.mul_pos hm hK
  have hbw : b < w.heap.size := block_lt_of_cell (hcs 0 _ (List.getElem?_eq_getElem (by omega)))
  have hvw : vb < w.heap.size := block_lt_of_cell (hvs 0 _ (List.getElem?_eq_getElem (by omega)))
  have hkk : (n : Int) + (m : Int) - (i : Int) = ((n + m - i : Nat) : Int) := by omega
  have hik : i + (n + m - i) = n + m := by omega
  have hold : (Builtin.firstCells i0.size i (.slice (some ⟨b, off, none⟩) i c)).run P w.drew = .ok (cs.take (i * K)).toArray w.drew := by
    rw [hzs]
    exact run_firstCells_some w.drew K i ⟨b, off, none⟩ i c (cs.take (i * K)) (by rw [List.length_take]; omega) (fun j v hj => by
      rw [Addr.add_lit]
      rw [List.getElem?_take] at hj
      split at hj
      · exact hcs j v hj
      · cases hj)
  have hbig2 : (n + m - i) * bts ≤ 140737488355328 := Nat.le_trans (Nat.mul_le_mul_right _ (Nat.sub_le _ _)) hbig
  have hrz : ∀ ty, (Builtin.append_ #[(ρ.t 24), (ρ.t 3)] ty #[.slice (some ⟨b, off, none⟩) i c, .int .i64 ((n : Int) + (m : Int) - (i : Int))]).run P w =
      .ok (.slice (some ⟨w.heap.size, 0, none⟩) (n + m) (grownCap w (n + m) c (ρ.t 9))) (w.drew.alloc (.cells ((cs.take (i * K)).toArray ++ Builtin.zeroCells zv.cells (n + m - i) ++ Builtin.zeroCells zv.cells (grownCap w (n + m) c (ρ.t 9) - (n + m))) (ρ.t 9))) := fun ty => by
    have h := Lib.run_append_grow_zeros w (ρ.t 24) (ρ.t 3) ty (ρ.t 9) i0 _ .i64 .i64 L.t24 L.t3 hi0 hz0 (some ⟨b, off, none⟩) i c (cs.take (i * K)) hold (n + m - i) (by omega) (by omega) (by omega) (by omega) (by rw [hzb]; omega) (by rw [hzb, hik]; exact growslice_fits hroom hbig)
    rw [hik] at h
    rw [hkk]
    exact h
  obtain ⟨G, hG⟩ : ∃ G, G = grownCap w (n + m) c (ρ.t 9) := ⟨_, rfl⟩
  obtain ⟨ROW, hROW⟩ : ∃ ROW : Array Value, ROW = (cs.take (i * K)).toArray ++ Builtin.zeroCells zv.cells (n + m - i) ++ Builtin.zeroCells zv.cells (G - (n + m)) := ⟨_, rfl⟩
  rw [← hG] at hrz ⊢
  rw [← hROW] at hrz ⊢
  have ks : i * K + (n + m - i) * K = (n + m) * K := by rw [← Nat.add_mul, hik]
  have hRl : (n + m) * K ≤ ROW.size := by
    rw [hROW]
    have e1 : (Builtin.zeroCells zv.cells (n + m - i)).size = (n + m - i) * K := by simp [Builtin.zeroCells, L.zc]
    have e2 : (cs.take (i * K)).length = i * K := by rw [List.length_take]; omega
    rw [Array.size_append, Array.size_append, List.size_toArray, e1, e2]
    omega
  obtain ⟨W1, hW1⟩ : ∃ W1, W1 = w.drew.alloc (.cells ROW (ρ.t 9)) := ⟨_, rfl⟩
  rw [← hW1] at hrz
  have hN : ∀ j, j < (n + m) * K → (W1.cell? ⟨w.heap.size, j, none⟩).isSome = true := fun j hj => by
    rw [hW1, World.cell?_alloc_at (w := w.drew) ROW _ w.heap.size j rfl, Array.getElem?_eq_getElem (by omega)]; rfl
  have hNf : ∀ j, W1.frozen? ⟨w.heap.size, j, none⟩ = false := fun j => by rw [hW1]; exact World.frozen?_alloc_at (w := w.drew) ROW _ w.heap.size j rfl
  have hOb : ∀ j v, w.cell? ⟨b, j, none⟩ = some v → W1.cell? ⟨b, j, none⟩ = some v := fun j v h => by rw [hW1, World.cell?_alloc_past (w := w.drew) _ b j hbw]; exact h
  have hOv : ∀ j v, w.cell? ⟨vb, j, none⟩ = some v → W1.cell? ⟨vb, j, none⟩ = some v := fun j v h => by rw [hW1, World.cell?_alloc_past (w := w.drew) _ vb j hvw]; exact h
  have min2 : Nat.min m (n + m - i) = m := by simp only [Nat.min_def]; split <;> omega
  have min3 : Nat.min (n - i) (n + m - (i + m)) = n - i := by simp only [Nat.min_def]; split <;> omega
  have k2 : i * K + m * K ≤ (n + m) * K := by rw [← Nat.add_mul]; exact Nat.mul_le_mul_right _ (by omega)
  have k1 : (i + m) * K + (n - i) * K = (n + m) * K := by rw [← Nat.add_mul]; congr 1; omega
  have hcpA : ∀ (W : World), (∀ x, W.cell? x = W1.cell? x) → (∀ x, W.frozen? x = W1.frozen? x) → ∀ ty dc, (Builtin.copy_ #[(ρ.t 24), (ρ.t 24)] ty #[.slice (some ⟨w.heap.size, i * K, none⟩) (n + m - i) dc, .slice (some ⟨vb, voff, none⟩) m vc]).run P W = .ok (goInt m) (W.setCells w.heap.size (i * K) vs) := fun W hWc hWf ty dc => by
    have h := run_copy_cellsK (K := K) W (ρ.t 24) (ρ.t 24) ty (ρ.t 9) w.heap.size (i * K) (n + m - i) dc ⟨vb, voff, none⟩ m vc vs L.t24 hsz (by rw [hvl, min2])
      (fun j v hj => by rw [Addr.add_lit, hWc]; exact hOv _ v (hvs j v hj))
      (fun j hj => by rw [hWc]; exact hN _ (by omega)) (fun j hj => by rw [hWf]; exact hNf _) h1v
    rw [min2] at h
    exact h
  have hGn : n + m ≤ G := by rw [hG]; exact grownCap_ge w _ _ _
  have hG63 : G ≤ 9223372036854775807 := by
    have := grownCap_le_maxLen w (n + m) c (ρ.t 9) (by unfold maxLen; omega)
    rw [← hG] at this
    unfold maxLen at this
    omega
  have hGi : ¬ (G = i) := by omega
  have hGim : ¬ (G = i + m) := by omega
  have hci : ¬ (c = i) := by omega
  have hbN : b ≠ w.heap.size := by omega
  have hdl : (cs.drop (i * K)).length = (n - i) * K := by rw [List.length_drop, hcl, Nat.sub_mul]
  have hcpB : ∀ (W : World), (∀ x, W.cell? x = (W1.setCells w.heap.size (i * K) vs).cell? x) → (∀ x, W.frozen? x = (W1.setCells w.heap.size (i * K) vs).frozen? x) → ∀ ty dc sc, (Builtin.copy_ #[(ρ.t 24), (ρ.t 24)] ty #[.slice (some ⟨w.heap.size, (i + m) * K, none⟩) (n + m - (i + m)) dc, .slice (some ⟨b, off + i * K, none⟩) (n - i) sc]).run P W = .ok (goInt ((n - i : Nat) : Int)) (W.setCells w.heap.size ((i + m) * K) (cs.drop (i * K))) := fun W hWc hWf ty dc sc => by
    have h := run_copy_cellsK (K := K) W (ρ.t 24) (ρ.t 24) ty (ρ.t 9) w.heap.size ((i + m) * K) (n + m - (i + m)) dc ⟨b, off + i * K, none⟩ (n - i) sc (cs.drop (i * K)) L.t24 hsz (by rw [hdl, min3])
      (fun j v hj => by
        rw [Addr.add_lit, hWc, World.cell?_setCells_out _ _ _ _ _ (fun h _ => absurd h hbN), Nat.add_assoc]
        exact hOb _ v (hcs (i * K + j) v (by rwa [List.getElem?_drop] at hj)))
      (fun j hj => by rw [hWc]; exact isSome_setCells _ _ _ _ (fun t ht => hN _ (by omega)) _ (hN _ (by omega)))
      (fun j hj => by rw [hWf, World.frozen?_setCells]; exact hNf _) (fun v hv => h1c v (List.mem_of_mem_drop hv))
    rw [min3] at h
    exact h
  subst hW1
  have hE1 : ∀ x, ((w.alloc (.cells ROW (ρ.t 9))).drew).cell? x = (w.drew.alloc (.cells ROW (ρ.t 9))).cell? x := fun x => rfl
  have hE2 : ∀ x, ((w.alloc (.cells ROW (ρ.t 9))).drew).frozen? x = (w.drew.alloc (.cells ROW (ρ.t 9))).frozen? x := fun x => rfl
  have hF1 : ∀ x, (((w.alloc (.cells ROW (ρ.t 9))).drew.setCells w.heap.size (i * K) vs).drew).cell? x = ((w.drew.alloc (.cells ROW (ρ.t 9))).setCells w.heap.size (i * K) vs).cell? x := fun x => rfl
  have hF2 : ∀ x, (((w.alloc (.cells ROW (ρ.t 9))).drew.setCells w.heap.size (i * K) vs).drew).frozen? x = ((w.drew.alloc (.cells ROW (ρ.t 9))).setCells w.heap.size (i * K) vs).frozen? x := fun x => rfl
  have hw1 : IntKind.i64.wrap ((i : Int) + (m : Int)) = (i : Int) + (m : Int) := by rw [IntKind.wrap_i64]; omega
  have hb1 : (0 : Int) ≤ (i : Int) + (m : Int) := by omega
  have hin : i ≤ n := by omega
  have htn : ((i : Int) + (m : Int)).toNat = i + m := by omega
  have hb3 : (i : Int) ≤ (n : Int) := by omega
  clear hkk hik hold hROW hG hRl hbig hbig2 ks kn km k1 k2 hN
  obtain ⟨nm, _, F22⟩ := L.f22
  go_enter F22, Body2.n22_ntmps ρ
  go_wp2_with (first
    | (at_builtin; refine Lib.wpList_append_run _ rfl _ _ _ _ rfl _ _ rfl rfl _ _ (hrz _) ?_)
    | (at_builtin; refine wpList_copy_runI _ rfl _ _ (ρ.t 24) (ρ.t 24) rfl _ _ rfl rfl (hcpA _ hE1 hE2 _ _) ?_)
    | (at_builtin; refine wpList_copy_runI _ rfl _ _ (ρ.t 24) (ρ.t 24) rfl _ _ rfl rfl (hcpB _ (fun _ => rfl) (fun _ => rfl) _ _ _) ?_))
  go_region_law_o (refine step_copy_runI rfl _ _ (ρ.t 24) (ρ.t 24) rfl (.slice (some ⟨w.heap.size, (i + m) * K, none⟩) (n + m - (i + m)) (G - (i + m))) (.slice (some ⟨b, off + i * K, none⟩) (n - i) (c - i)) (by simp [Act.eval, Act.put]) (by simp [Act.eval, Act.put]) (hcpB _ hF1 hF2 (ρ.t 3) (G - (i + m)) (c - i)) ?_)
  go_wp2
  go_ret
  exact ⟨rfl, rfl⟩
end Go.Proofs
end

section
/- slices.Insert AT ELEMENTS OF K CELLS: slices of the call's own, and the entry. -/
set_option linter.unusedVariables false
set_option linter.unusedSimpArgs false
namespace Go.Dor
open Go.Proofs Go.Shelf Go.RowKit

theorem setCells_setRow {g : Nat} {t : TypeId} {fz : Nat × Nat} : ∀ (vs : List Value) (o : Nat) (w : World) (cur : Array Value), w.heap[g]? = some (.cells cur t fz) → o + vs.length ≤ cur.size →
    w.setCells g o vs = w.setRow g (cur.toList.take o ++ vs ++ cur.toList.drop (o + vs.length)).toArray
  | [], o, w, cur, hg, _ => by
    simp only [World.setCells, List.append_nil, List.length_nil, Nat.add_zero, List.take_append_drop, Array.toArray_toList]
    rw [setRow_self w g cur t fz hg]
  | v :: rest, o, w, cur, hg, hl => by
    rw [World.setCells, setCell_eq_setRow w g o cur t fz v hg, setCells_setRow rest (o + 1) _ (cur.setIfInBounds o v) (setRow_heap w g cur _ t _ hg) (by simp at hl ⊢; omega), setRow_setRow]
    congr 2
    have e := list_seg_step cur.toList o v rest (by simp at hl ⊢; omega)
    simpa [Array.toList_setIfInBounds, Nat.add_assoc] using e

theorem flat_take {α : Type} {z : Nat} : ∀ (xs : List (List α)) (i : Nat), (∀ x ∈ xs, x.length = z) → (xs.take i).flatten = xs.flatten.take (i * z)
  | [], i, _ => by simp
  | x :: xs, 0, _ => by simp
  | x :: xs, i + 1, h => by
    have hx := h x (by simp)
    rw [List.take_succ_cons, List.flatten_cons, List.flatten_cons, flat_take xs i fun y hy => h y (by simp [hy]), List.take_append, Nat.add_mul, hx, Nat.one_mul, Nat.add_sub_cancel, List.take_of_length_le (show x.length ≤ i * z + z by omega)]
theorem flat_drop {α : Type} {z : Nat} : ∀ (xs : List (List α)) (i : Nat), (∀ x ∈ xs, x.length = z) → (xs.drop i).flatten = xs.flatten.drop (i * z)
  | [], i, _ => by simp
  | x :: xs, 0, _ => by simp
  | x :: xs, i + 1, h => by
    have hx := h x (by simp)
    rw [List.drop_succ_cons, List.flatten_cons, flat_drop xs i fun y hy => h y (by simp [hy]), List.drop_append, Nat.add_mul, hx, Nat.one_mul, Nat.add_sub_cancel, List.drop_eq_nil_of_le (show x.length ≤ i * z + z by omega), List.nil_append]

/-- a row that begins with these cells -/
theorem own_row {w : World} {g cap : Nat} {t : TypeId} {z : Nat} {L : List (List Value)} {B rest : List Value} {fz : Nat × Nat} {n : Nat} (hz : ∀ x ∈ L, x.length = z) (hn : L.length = n) (hc : n ≤ cap) (hcm : cap ≤ maxLen) (hg : w.heap[g]? = some (.cells B.toArray t fz))
    (hfz : ∀ j, j < B.length ∨ (j = B.length ∧ z ≠ 1) → ¬ (fz.1 ≤ j ∧ j < fz.2)) (hs : B.length = cap * z) (hB : B = L.flatten ++ rest) : Own w (.slice (some ⟨g, 0, none⟩) n cap) t z L := by
  subst hn
  refine ⟨hz, .inr ⟨g, cap, B.toArray, fz, rfl, hc, hcm, hg, by simpa using hfz, by simpa using hs, fun j x hj => ?_⟩⟩
  have hjl : j < L.flatten.length := (List.getElem?_eq_some_iff.1 hj).1
  rw [hB]
  simp only [List.getElem?_toArray]
  rw [List.getElem?_append_left hjl]
  exact hj

theorem take_pre {α : Type} (A B : List α) (n : Nat) (h : A.length = n) : (A ++ B).take n = A := by subst h; simp
theorem drop_pre {α : Type} (A B : List α) (n : Nat) (h : A.length = n) : (A ++ B).drop n = B := by subst h; simp

/-- what stands in a row of which a piece has been put further back, and another one into the gap -/
theorem gap_row {α : Type} (C F Z : List α) (a b : Nat) (ha : a ≤ F.length) (hb : b = a + Z.length) (hl : F.length + Z.length ≤ C.length) (hC : C.take F.length = F) :
    let A := C.take b ++ F.drop a ++ C.drop (b + (F.drop a).length)
    A.take a ++ Z ++ A.drop (a + Z.length) = F.take a ++ Z ++ F.drop a ++ C.drop (b + (F.drop a).length) := by
  intro A
  have e1 : C.take a = F.take a := by rw [← hC, List.take_take, Nat.min_eq_left ha]
  have e2 : A.take a = F.take a := by
    show (C.take b ++ F.drop a ++ _).take a = _
    rw [List.append_assoc, List.take_append, List.take_take, List.length_take, Nat.min_eq_left (by omega), Nat.min_eq_left (by omega : b ≤ C.length), show a - b = 0 by omega, List.take_zero, List.append_nil, e1]
  have e3 : A.drop (a + Z.length) = F.drop a ++ C.drop (b + (F.drop a).length) := by
    show (C.take b ++ F.drop a ++ _).drop (a + Z.length) = _
    rw [List.append_assoc, drop_pre _ _ _ (by rw [List.length_take, Nat.min_eq_left (by omega)]; omega)]
  rw [e2, e3]
  simp only [List.append_assoc]

/-- the same, into a new row -/
theorem gap_new {α : Type} (F Z R : List α) (a b : Nat) (ha : a ≤ F.length) (hb : b = a + Z.length) (hl : F.length + Z.length ≤ a + R.length) :
    let A := (F.take a ++ R).take a ++ Z ++ (F.take a ++ R).drop (a + Z.length)
    A.take b ++ F.drop a ++ A.drop (b + (F.drop a).length) = F.take a ++ Z ++ F.drop a ++ R.drop (Z.length + (F.drop a).length) := by
  intro A
  have hta : (F.take a).length = a := by rw [List.length_take, Nat.min_eq_left ha]
  have e1 : A = F.take a ++ Z ++ R.drop Z.length := by
    show (F.take a ++ R).take a ++ Z ++ (F.take a ++ R).drop (a + Z.length) = _
    rw [take_pre _ _ _ hta, ← List.drop_drop, drop_pre _ _ _ hta]
  have e2 : (F.take a ++ Z).length = b := by rw [List.length_append, hta, hb]
  rw [e1, take_pre _ _ _ e2, ← List.drop_drop, drop_pre _ _ _ e2, List.drop_drop]

section
variable {P : Program} {w : World} {ρ : Go.Shelf.Ren} {K bts : Nat} {zv : Value}
theorem own_insert (L : InsL P ρ K bts zv) (hK : 1 < K) (he : elemOf P (ρ.t 9) = some (K, bts)) {v u : Value} {te : TypeId} {xs zs : List (List Value)} {i : Nat} (hO : Own w v (ρ.t 9) K xs) (hU : Own w u te K zs) (hne : ∀ b, vfoot u = some b → vfoot v ≠ some b)
    (hx1 : ∀ x ∈ xs.flatten, x.oneCell' = true) (hz1 : ∀ x ∈ zs.flatten, x.oneCell' = true) (hi : i ≤ xs.length) (hm : 0 < zs.length) (hb : (xs.length + zs.length) * bts ≤ 140737488355328) :
    Calls P (ρ.f 22) #[v, .int .i64 i, u] w fun e w' => ∃ v', e = .returned v' ∧ Own w' v' (ρ.t 9) K (xs.take i ++ zs ++ xs.drop i) ∧ w.grownBy w' (vfoot v) ∧ (∀ k, vfoot v' = some k → vfoot v = some k ∨ w.heap.size ≤ k) ∧ Dr w w' := by
  obtain ⟨i0, zv0, hi0, hzv0, hsz0, hby0, hzs0, hz0, hb0⟩ := elem_spec he
  have hle : xs.length + zs.length ≤ (xs.length + zs.length) * bts := Nat.le_mul_of_pos_right _ hb0
  have hxl : xs.flatten.length = xs.length * K := flat_len hO.1
  have hzl : zs.flatten.length = zs.length * K := flat_len hU.1
  rcases hU.2 with ⟨_, hn⟩ | ⟨vb, vc, vcur, vfz, hu, hvnc, hvcm, hvg, hvfz, hvcs, hvx⟩
  · rw [hn] at hm; cases hm
  have hmK : 0 < zs.length * K := Nat.mul_pos hm (by omega)
  have hvc0 : vc ≠ 0 := by omega
  have hub : vfoot u = some vb := by rw [hu]; simp [vfoot, hvc0]
  have hvs : ∀ j x, zs.flatten[j]? = some x → w.cell? ⟨vb, 0 + j, none⟩ = some x := fun j x hj => by
    rw [cell_of_row w vb _ vcur te vfz hvg, Nat.zero_add]; exact hvx j x hj
  have hsrc : Src P K (ρ.t 24) u zs.length zs.flatten w := by
    rw [hu]
    exact Src.ofSlice w L.t24 ⟨vb, 0, none⟩ _ vc _ hzl (fun j x hj => by rw [Addr.add_lit]; exact hvs j x hj) hz1
  have hxz : ∀ x ∈ xs.take i ++ zs ++ xs.drop i, x.length = K := fun x hx => by
    simp only [List.mem_append] at hx
    rcases hx with (h | h) | h
    · exact hO.1 x (List.mem_of_mem_take h)
    · exact hU.1 x h
    · exact hO.1 x (List.mem_of_mem_drop h)
  have hLl : (xs.take i ++ zs ++ xs.drop i).length = xs.length + zs.length := by simp; omega
  have hfl : (xs.take i ++ zs ++ xs.drop i).flatten = xs.flatten.take (i * K) ++ zs.flatten ++ xs.flatten.drop (i * K) := by
    rw [List.flatten_append, List.flatten_append, flat_take _ _ hO.1, flat_drop _ _ hO.1]
  -- at the end
  by_cases hin : i = xs.length
  · subst hin
    obtain ⟨v', w', h2, h3, h4, h5, hdr⟩ := own_append (ty := (ρ.t 24)) L.t24 he hO hsrc rfl hU.1 hb
    rw [List.take_length, List.drop_length, List.append_nil]
    have grow : ∀ (base : Option Addr) (c : Nat), v = .slice base xs.length c → xs.length ≤ c → c < xs.length + zs.length → (base = none → xs.length = 0) → (∀ a, base = some a → ∀ j x, xs.flatten[j]? = some x → w.cell? (a.add j) = some x) →
        Calls P (ρ.f 22) #[v, .int .i64 (xs.length : Nat), u] w fun e w' => ∃ v', e = .returned v' ∧ Own w' v' (ρ.t 9) K (xs ++ zs) ∧ w.grownBy w' (vfoot v) ∧ (∀ k, vfoot v' = some k → vfoot v = some k ∨ w.heap.size ≤ k) ∧ Dr w w' := fun base c hv hnc hroom hnil hcs => by
      have hold : (Builtin.firstCells i0.size xs.length (.slice base xs.length c)).run P w.drew = .ok xs.flatten.toArray w.drew := by
        rw [hsz0]
        cases base with
        | none =>
          have h0 := hnil rfl
          have e0 : xs = [] := List.length_eq_zero_iff.1 h0
          rw [e0]
          exact run_firstCells_none w.drew K 0 0 c
        | some a => exact run_firstCells_some w.drew K xs.length a xs.length c _ hxl (fun j x hj => hcs a rfl j x hj)
      have hr := run_append_grow_src (P := P) w (ρ.t 24) (ρ.t 24) (ρ.t 24) (ρ.t 9) i0 zv0 L.t24 hi0 hzv0 base xs.length c xs.flatten hold u zs.length zs.flatten (by rw [hsz0]; exact hsrc) hroom (by omega) (by rw [hby0]; exact growslice_fits hroom hb)
      obtain ⟨i1, hi1, hz1', hs1, hb1⟩ := info_parts L.i9
      rw [hi0] at hi1
      cases hi1
      rw [hzv0] at hz1'
      cases hz1'
      rw [hv] at h2
      rw [hr] at h2
      cases h2
      have key := insK_end_grow L base xs.length c vb 0 zs.length vc xs.flatten zs.flatten w hm hnc hroom hb (by omega) hxl hzl hnil hcs hvs hz1
      rw [hv, hu]
      refine key.mono fun e w' ⟨h6, h7⟩ => ?_
      subst h6 h7
      rw [← hv]
      exact ⟨_, rfl, h3, h4, h5, hdr⟩
    rcases hO.2 with ⟨⟨a, hv, _⟩, hx0⟩ | ⟨g, cap, cur, fz, hv, hc, hcm, hg, hfz, hcs, hx⟩
    · have hl0 : xs.length = 0 := by rw [hx0]; rfl
      refine grow a 0 (by rw [hv, hl0]) (by omega) (by omega) (fun _ => hl0) fun a' _ j x hj => ?_
      rw [hx0] at hj
      cases hj
    · by_cases hroom : xs.length + zs.length ≤ cap
      · have hfit : xs.length * K + zs.length * K ≤ cur.size := by rw [hcs, ← Nat.add_mul]; exact Nat.mul_le_mul_right _ hroom
        have hsp : ∀ j, j < zs.length * K → (w.cell? ⟨g, 0 + xs.length * K + j, none⟩).isSome = true := fun j hj => by
          rw [cell_of_row w g _ cur _ fz hg, Array.getElem?_eq_getElem (by omega)]; rfl
        have hff : ∀ j, j < zs.length * K → w.frozen? ⟨g, 0 + xs.length * K + j, none⟩ = false := fun j hj => by
          have := hfz (0 + xs.length * K + j) (.inl (by omega))
          obtain ⟨lo, hi'⟩ := fz
          simp only [World.frozen?, hg, Bool.and_eq_false_iff, decide_eq_false_iff_not]
          simp only at this
          omega
        have hr := run_append_room_src (P := P) (w := w) (ρ.t 24) (ρ.t 24) (ρ.t 24) (ρ.t 9) i0 L.t24 hi0 g 0 xs.length cap u zs.length zs.flatten (by rw [hsz0]; exact hsrc) hroom (by rw [hsz0, hzl]; exact hsp) (by rw [hsz0, hzl]; exact hff)
        rw [hv, hr] at h2
        cases h2
        have key := insK_end_room L g 0 xs.length cap vb 0 zs.length vc zs.flatten w hm hroom (by unfold maxLen at hcm; omega) hzl hsp hff hvs hz1
        rw [hv, hu]
        refine key.mono fun e w' ⟨h6, h7⟩ => ?_
        subst h6 h7
        rw [← hv]
        rw [hsz0] at h3 h4 hdr
        exact ⟨_, rfl, h3, h4, h5, hdr⟩
      · refine grow _ cap hv hc (by omega) (fun h => by cases h) fun a ha j x hj => ?_
        cases ha
        rw [Addr.add_lit, cell_of_row w g _ cur _ fz hg, Nat.zero_add]
        exact hx j x hj
  · have hlt : i < xs.length := by omega
    have hik : i * K ≤ xs.length * K := Nat.mul_le_mul_right _ hi
    rcases hO.2 with ⟨⟨a, hv, _⟩, hx0⟩ | ⟨g, cap, cur, fz, hv, hc, hcm, hg, hfz, hcs, hx⟩
    · rw [hx0] at hlt; cases hlt
    have hcap : cap ≠ 0 := by omega
    have hvf : vfoot v = some g := by rw [hv]; simp [vfoot, hcap]
    have hvb : vb ≠ g := fun h => hne vb hub (by rw [hvf, h])
    have hcx : ∀ j x, xs.flatten[j]? = some x → w.cell? ⟨g, 0 + j, none⟩ = some x := fun j x hj => by
      rw [cell_of_row w g _ cur _ fz hg, Nat.zero_add]; exact hx j x hj
    have hgl : g < w.heap.size := (Array.getElem?_eq_some_iff.1 hg).1
    have hbl : (i + zs.length) * K = i * K + zs.flatten.length := by rw [Nat.add_mul, hzl]
    have hdl : (xs.flatten.drop (i * K)).length = xs.length * K - i * K := by rw [List.length_drop, hxl]
    by_cases hroom : xs.length + zs.length ≤ cap
    · have hfit : xs.length * K + zs.length * K ≤ cur.size := by rw [hcs, ← Nat.add_mul]; exact Nat.mul_le_mul_right _ hroom
      have hadd : (xs.length + zs.length) * K = xs.length * K + zs.length * K := Nat.add_mul _ _ _
      have hkB : cur.size ≠ 0 := by omega
      have hff : ∀ j, j < (xs.length + zs.length) * K → w.frozen? ⟨g, 0 + j, none⟩ = false := fun j hj => by
        have := hfz (0 + j) (.inl (by omega))
        obtain ⟨lo, hi'⟩ := fz
        simp only [World.frozen?, hg, Bool.and_eq_false_iff, decide_eq_false_iff_not]
        simp only at this
        omega
      have hvff : ∀ j, j < vcur.size ∨ (j = vcur.size ∧ K ≠ 1) → w.frozen? ⟨vb, j, none⟩ = false := fun j hj => by
        have := hvfz j hj
        obtain ⟨lo, hi'⟩ := vfz
        simp only [World.frozen?, hvg, Bool.and_eq_false_iff, decide_eq_false_iff_not]
        simp only at this
        omega
      have hvpos : 0 < vcur.size := by
        rw [hvcs]; exact Nat.mul_pos (by omega) (by omega)
      have key := insK_shift L (by omega) g 0 xs.length cap i vb 0 zs.length vc xs.flatten zs.flatten w hlt hm hroom (by unfold maxLen at hcm; omega) hvb hxl hzl hcx
        (fun j hj => by rw [cell_of_row w g _ cur _ fz hg, Array.getElem?_eq_getElem (by omega)]; rfl) hff hvs hx1 hz1 te (ρ.t 9) vcur.size cur.size (by simp [World.shape?, hvg]) (by simp [World.shape?, hg]) hkB (hvff 0 (.inl hvpos)) (hvff _ (.inr ⟨rfl, by omega⟩))
      rw [hv, hu]
      refine key.mono fun e w' ⟨h6, h7⟩ => ?_
      subst h6
      have hC : cur.toList.take xs.flatten.length = xs.flatten := by
        apply List.ext_getElem?
        intro k
        rw [List.getElem?_take]
        by_cases hk : k < xs.flatten.length
        · rw [if_pos hk, List.getElem?_eq_getElem hk]
          simpa using hx k _ (List.getElem?_eq_getElem hk)
        · rw [if_neg hk, List.getElem?_eq_none (by omega)]
      have hg' : w.drew.heap[g]? = some (.cells cur (ρ.t 9) fz) := hg
      have e1 := setCells_setRow (xs.flatten.drop (i * K)) (0 + (i + zs.length) * K) w.drew cur hg' (by rw [hdl, Nat.zero_add, hbl]; omega)
      obtain ⟨A, hA⟩ : ∃ A, A = cur.toList.take (0 + (i + zs.length) * K) ++ xs.flatten.drop (i * K) ++ cur.toList.drop (0 + (i + zs.length) * K + (xs.flatten.drop (i * K)).length) := ⟨_, rfl⟩
      rw [← hA] at e1
      have hAl : A.length = cur.size := by
        rw [hA]
        simp only [List.length_append, List.length_take, Array.length_toList, List.length_drop]
        omega
      have e2 := setCells_setRow zs.flatten (0 + i * K) (w.drew.setRow g A.toArray) A.toArray (setRow_heap w.drew g cur _ _ _ hg') (by rw [hzl, List.size_toArray, hAl]; omega)
      rw [e1, e2, setRow_setRow] at h7
      have hgap := gap_row cur.toList xs.flatten zs.flatten (i * K) (0 + (i + zs.length) * K) (by omega) (by omega) (by rw [hxl, hzl, Array.length_toList]; omega) hC
      simp only [← hA] at hgap
      simp only [Nat.zero_add] at h7 hgap
      rw [hgap] at h7
      obtain ⟨g1, g2⟩ := setRow_grown (w := w.drew) (cs' := (xs.flatten.take (i * K) ++ zs.flatten ++ xs.flatten.drop (i * K) ++ cur.toList.drop ((i + zs.length) * K + (xs.flatten.drop (i * K)).length)).toArray) hg'
      rw [← h7] at g1 g2
      have hBl : (xs.flatten.take (i * K) ++ zs.flatten ++ xs.flatten.drop (i * K) ++ cur.toList.drop ((i + zs.length) * K + (xs.flatten.drop (i * K)).length)).length = cur.size := by
        simp only [List.length_append, List.length_take, Array.length_toList, List.length_drop]
        omega
      refine ⟨_, rfl, own_row hxz hLl hroom hcm g2 (by rw [hBl]; exact hfz) (by rw [hBl]; exact hcs) (by rw [hfl]), ?_, fun k hk => .inl ?_, by rw [h7]; exact .of (Nat.le_succ _)⟩
      · rw [← hv, hvf]
        exact ⟨g1.os, g1.tape, g1.output, g1.size, g1.block⟩
      · rw [← hk]; simp [vfoot]
    · have key := insK_grow L (by omega) g 0 xs.length cap i vb 0 zs.length vc xs.flatten zs.flatten w hlt hm hc (by omega) hb (by omega) hxl hzl hcx hvs hx1 hz1
      rw [hv, hu]
      refine key.mono fun e w' ⟨h6, h7⟩ => ?_
      subst h6
      obtain ⟨G, hG⟩ : ∃ G, G = grownCap w (xs.length + zs.length) cap (ρ.t 9) := ⟨_, rfl⟩
      have hGn : xs.length + zs.length ≤ G := by rw [hG]; exact grownCap_ge w _ _ _
      have hGm : G ≤ maxLen := by rw [hG]; exact grownCap_le_maxLen w _ _ _ (by unfold maxLen; omega)
      rw [← hG] at h7 ⊢
      obtain ⟨R, hR⟩ : ∃ R, R = (Builtin.zeroCells zv.cells (xs.length + zs.length - i)).toList ++ (Builtin.zeroCells zv.cells (G - (xs.length + zs.length))).toList := ⟨_, rfl⟩
      have hrow : (xs.flatten.take (i * K)).toArray ++ Builtin.zeroCells zv.cells (xs.length + zs.length - i) ++ Builtin.zeroCells zv.cells (G - (xs.length + zs.length)) = (xs.flatten.take (i * K) ++ R).toArray := by
        rw [hR]
        apply Array.toList_inj.1
        simp
      rw [hrow] at h7
      have htl : (xs.flatten.take (i * K)).length = i * K := by rw [List.length_take, hxl]; omega
      have hRl : R.length = (G - i) * K := by
        rw [hR]
        simp only [List.length_append, Array.length_toList, size_zeroCells, L.zc, ← Nat.add_mul]
        congr 1
        omega
      have hGi : (G - i) * K + i * K = G * K := by rw [← Nat.add_mul]; congr 1; omega
      have hGK : (xs.length + zs.length) * K ≤ G * K := Nat.mul_le_mul_right _ hGn
      rw [Nat.add_mul] at hGK
      have hN0 : (w.alloc (.cells (xs.flatten.take (i * K) ++ R).toArray (ρ.t 9))).drew.heap[w.heap.size]? = some (.cells (xs.flatten.take (i * K) ++ R).toArray (ρ.t 9) (0, 0)) := heap_alloc_new w _
      obtain ⟨W0, hW0⟩ : ∃ W0, W0 = (w.alloc (.cells (xs.flatten.take (i * K) ++ R).toArray (ρ.t 9))).drew := ⟨_, rfl⟩
      have hgb : w.grownBy W0 (vfoot v) := by
        rw [hW0]
        exact World.grownBy_alloc w _ _ |> fun h => ⟨h.os, h.tape, h.output, h.size, h.block⟩
      have hdr0 : w.drawn ≤ W0.drawn := by rw [hW0]; exact Nat.le_succ _
      rw [← hW0] at h7 hN0
      have e1 := setCells_setRow zs.flatten (i * K) W0 _ hN0 (by simp only [List.size_toArray, List.length_append, htl, hRl]; omega)
      obtain ⟨A, hA⟩ : ∃ A, A = (xs.flatten.take (i * K) ++ R).take (i * K) ++ zs.flatten ++ (xs.flatten.take (i * K) ++ R).drop (i * K + zs.flatten.length) := ⟨_, rfl⟩
      simp only [List.toList_toArray] at e1
      rw [← hA] at e1
      have hAl : A.length = G * K := by
        rw [hA]
        simp only [List.length_append, List.length_take, List.length_drop, htl, hRl]
        omega
      have hN1 : (W0.setRow w.heap.size A.toArray).drew.heap[w.heap.size]? = some (.cells A.toArray (ρ.t 9) (0, 0)) := setRow_heap W0 _ _ _ _ _ hN0
      have e2 := setCells_setRow (xs.flatten.drop (i * K)) ((i + zs.length) * K) (W0.setRow w.heap.size A.toArray).drew A.toArray hN1 (by rw [hdl, List.size_toArray, hAl]; omega)
      rw [e1, e2] at h7
      have hgap := gap_new xs.flatten zs.flatten R (i * K) ((i + zs.length) * K) (by omega) hbl (by rw [hxl, hzl, hRl]; omega)
      simp only [← hA] at hgap
      simp only [List.toList_toArray] at h7
      rw [hgap] at h7
      obtain ⟨g1, g2⟩ := setRow_grown (w := (W0.setRow w.heap.size A.toArray).drew) (cs' := (xs.flatten.take (i * K) ++ zs.flatten ++ xs.flatten.drop (i * K) ++ R.drop (zs.flatten.length + (xs.flatten.drop (i * K)).length)).toArray) hN1
      obtain ⟨g3, g4⟩ := setRow_grown (w := W0) (cs' := A.toArray) hN0
      rw [← h7] at g1 g2
      have hBl : (xs.flatten.take (i * K) ++ zs.flatten ++ xs.flatten.drop (i * K) ++ R.drop (zs.flatten.length + (xs.flatten.drop (i * K)).length)).length = G * K := by
        simp only [List.length_append, List.length_take, List.length_drop, hRl]
        omega
      refine ⟨_, rfl, own_row hxz hLl hGn hGm g2 (by intro j _; simp) hBl (by rw [hfl]), ?_, fun k hk => .inr ?_, by rw [h7]; exact .of (Nat.le_succ_of_le hdr0)⟩
      · refine ⟨g1.os.trans (g3.os.trans hgb.os), g1.tape.trans (g3.tape.trans hgb.tape), g1.output.trans (g3.output.trans hgb.output), Nat.le_trans hgb.size (Nat.le_trans g3.size g1.size), fun k hk hf => ?_⟩
        have hk2 : k ≠ w.heap.size := by omega
        have hkW : k < W0.heap.size := Nat.lt_of_lt_of_le hk hgb.size
        have a1 := g1.block k (Nat.lt_of_lt_of_le hkW g3.size) (fun h => hk2 (by injection h))
        have a2 := g3.block k hkW (fun h => hk2 (by injection h))
        exact a1.trans (a2.trans (hgb.block k hk (by rw [hv]; exact hf)))
      · simp only [vfoot] at hk
        split at hk
        · cases hk
        · simp only [Option.some.injEq] at hk; omega
end

/-! ### the entry -/
abbrev insE (t : T) (ty : TypeId) (fn : Int × List (den t) × List (den t) → Option (List (den t) × List (den t))) : Entry :=
  ⟨Ds.mk [Vd.one (Ld.own 0), Vd.one (Ld.im (.int .i64)), Vd.one (Ld.own 1)] [Od.arr ty t, Od.arr ty t], Ds.mk [Vd.one (Ld.own 2)] [Od.gone, Od.arr ty t, Od.arr ty t], fn⟩
def insL {α : Type} (bts : Nat) (i : Int) (xs zs : List α) : Option (List α × List α) :=
  need ((0 ≤ i ∧ i ≤ xs.length) ∧ 0 < zs.length ∧ (xs.length + zs.length) * bts ≤ 140737488355328) (some (zs, xs.take i.toNat ++ zs ++ xs.drop i.toNat))
theorem ins_sound {P : Program} {ρ : Go.Shelf.Ren} {K bts : Nat} {zv : Value} (L : InsL P ρ K bts zv) (hK : 1 < K) (he : elemOf P (ρ.t 9) = some (K, bts)) {t : T} (hw : wid t = K) :
    Entry.Sound P (ρ.f 22) (insE t (ρ.t 9) fun x => insL bts x.1 x.2.1 x.2.2) := ⟨fun (x : Int × List (den t) × List (den t)) (y : List (den t) × List (den t)) hy S w g vals hst => by
  obtain ⟨i, xs, zs⟩ := x
  obtain ⟨⟨⟨hi0, hi1⟩, hm, hb⟩, hy⟩ := need_some (show need ((0 ≤ i ∧ i ≤ xs.length) ∧ 0 < zs.length ∧ (xs.length + zs.length) * bts ≤ 140737488355328) (some (zs, xs.take i.toNat ++ zs ++ xs.drop i.toNat)) = some y from hy)
  cases hy
  subst hw
  have hrel := hst.rel
  obtain ⟨v0, vs1, rfl, h0, hv1⟩ := hst.vals.cons_left
  obtain ⟨v1, vs2, rfl, h1, hv2⟩ := hv1.cons_left
  obtain ⟨v2, vs3, rfl, h2, hv3⟩ := hv2.cons_left
  obtain rfl := hv3.nil_left
  obtain ⟨_, v, hv, _, _, hlive⟩ := h0
  cases hv
  obtain ⟨_, v, hv, _, _, hlive2⟩ := h2
  cases hv
  have live0 : lives (givenO (insE t (ρ.t 9) fun x => insL bts x.1 x.2.1 x.2.2).pre id (i, xs, zs)) 0 := rfl
  have live1 : lives (givenO (insE t (ρ.t 9) fun x => insL bts x.1 x.2.1 x.2.2).pre id (i, xs, zs)) 1 := rfl
  have e0 : v0 = g 0 := hlive live0
  have e2 : v2 = g 1 := hlive2 live1
  subst e0 e2
  have h1 : [v1] = [Value.int .i64 i] := h1
  cases h1
  obtain ⟨ys, hO, hal⟩ := hrel.obj 0 (.arr (ρ.t 9) t xs) rfl
  obtain ⟨us, hU, hau⟩ := hrel.obj 1 (.arr (ρ.t 9) t zs) rfl
  have hf0 := hO.foot_eq
  have hf1 := hU.foot_eq
  have hin : i.toNat ≤ ys.length := by rw [← hal.length]; omega
  obtain ⟨n, rfl⟩ : ∃ n : Nat, i = n := ⟨i.toNat, by omega⟩
  simp only [Int.toNat_natCast] at *
  refine (own_insert L hK he hO hU (fun b hb0 => by rw [← hf0]; exact hrel.inj 1 0 live1 live0 (by decide) b (by rw [hf1]; exact hb0)) (hal.all (At.one t)) (hau.all (At.one t)) hin (by rw [← hau.length]; exact hm) (by rw [← hal.length, ← hau.length]; exact hb)).mono fun e w' ⟨v', he', hO', hg', hfo, hdr⟩ => ?_
  have hfo' := hO'.foot_eq
  obtain ⟨H2, le2⟩ := hrel.turn (w' := w') live0 (.arr (ρ.t 9) t (xs.take n ++ zs ++ xs.drop n)) v' (by rw [hf0]; exact hg') (fun q hq => by rw [hf0]; rw [hfo'] at hq; exact hfo q hq) fun le => ⟨_, hO', ((hal.take n).mono (At.mono le.imm t) |>.append (hau.mono (At.mono le.imm t))).append ((hal.drop n).mono (At.mono le.imm t))⟩
  obtain ⟨a1, n1, c1, ev⟩ := hO'.isSlice
  refine ⟨[v'], gx g 2 v', he', H2, ⟨⟨(show 2 < 3 by omega), v', rfl, by rw [ev]; rfl, by rw [ev]; rfl, fun _ => (gx_same g 2 _).symm⟩, trivial⟩, fun j hj => gx_lt g v' hj⟩⟩
end Go.Dor
end

section
/- slices.Insert AT THIS PROGRAM's PAIRS. -/
set_option linter.unusedVariables false
namespace Go.Dor
open Go.Proofs Go.Shelf
def insRen : Go.Shelf.Ren := ⟨fun | 22 => 61 | 29 => 86 | 30 => 87 | n => n, fun | 9 => 56 | 24 => 23 | n => n, fun n => n⟩
noncomputable def zPair : Value := ((Try.prog.info? 56).bind fun i => i.zero).getD .nilFunc
theorem insLays : InsL Try.prog insRen 33 48 zPair where
  mixed := by kernel_rfl
  f22 := ⟨"slices.Insert[[]dormouse/api.Pair,dormouse/api.Pair]", by decide, Try.func61.trans (congrArg some (by kernel_rfl))⟩
  f29 := ⟨_, Try.func86, by kernel_rfl, by kernel_rfl, by kernel_rfl, by kernel_rfl⟩
  t0 := Try.underlying0
  a0 := Try.isAgg0
  z0 := Try.sizeOf0
  v0 := Try.zeroValue0
  t3 := Try.underlying3
  a3 := Try.isAgg3
  z3 := Try.sizeOf3
  v3 := Try.zeroValue3
  t4 := Try.underlying4
  a4 := Try.isAgg4
  z4 := Try.sizeOf4
  v4 := Try.zeroValue4
  z9 := Try.sizeOf56
  v9 := fun w => (Try.zeroValue56 w).trans (congrArg (fun v => Result.ok v w) (by kernel_rfl))
  t24 := Try.underlying23
  a24 := Try.isAgg23
  z24 := Try.sizeOf23
  v24 := Try.zeroValue23
  i9 := by kernel_rfl
  zc := by kernel_rfl
noncomputable def p_Insert_Pair (i : Int) (xs zs : List (Vector Int (32) × List UInt8)) : Option (List (Vector Int (32) × List UInt8) × List (Vector Int (32) × List UInt8)) := insL 48 i xs zs
noncomputable def e_Insert_Pair : Entry := ⟨Ds.mk [Vd.one (Ld.own 0), Vd.one (Ld.im (T.int IntKind.i64)), Vd.one (Ld.own 1)] [Od.arr 56 (T.pair (T.arr (32) (T.int IntKind.u8)) T.str), Od.arr 56 (T.pair (T.arr (32) (T.int IntKind.u8)) T.str)], Ds.mk [Vd.one (Ld.own 2)] [Od.gone, Od.arr 56 (T.pair (T.arr (32) (T.int IntKind.u8)) T.str), Od.arr 56 (T.pair (T.arr (32) (T.int IntKind.u8)) T.str)], fun x => p_Insert_Pair x.1 x.2.1 x.2.2⟩
theorem s_Insert_Pair : Entry.Sound Try.prog 61 e_Insert_Pair :=
  ins_sound (t := T.pair (T.arr (32) (T.int IntKind.u8)) T.str) insLays (by decide) (by kernel_rfl) rfl
end Go.Dor
end
