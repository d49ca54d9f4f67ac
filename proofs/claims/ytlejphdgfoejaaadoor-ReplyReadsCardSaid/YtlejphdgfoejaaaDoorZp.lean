/- REGIONS WHOSE ORDER IS OPEN, with a tail beside the heads. Plain lemmas over any program. -/
import Derived.Test.YtlejphdgfoejaaaDoorZj
namespace Go.Dor
open Go.RowKit (Below)
section
variable {P : Program} {M S : Nat → Prop} {w0 w w' : World} {h : Hm} {g : Nat → Value} {R : Type} {res : R} {K : V → Hm → Option R} {K1 : V → Option R} {m m' : Mem} {e : Ev} {r : Env}

/-! ### memory that has changed but for some objects -/
structure LeX (bad : Nat → Bool) (m m' : Mem) : Prop where
  n : m.n ≤ m'.n
  g : ∀ id, id < m.n → m'.g id = m.g id
  live : ∀ id, id < m.n → m'.live id → m.live id ∨ bad id = true
  imm : ∀ b, m.I b → m'.I b ∧ m'.w.heap[b]? = m.w.heap[b]?

theorem okL_mono {bad : Nat → Bool} (h : LeX bad m m') : ∀ (x : L) (c : List Value), okL bad x = true → Rl m x c → Rl m' x c := by
  intro x c hb hx
  cases x with
  | i | b | s | f | nil | np | nf => exact hx
  | arr t n x => exact At.mono h.imm _ _ _ hx
  | ro t xs => exact At.mono h.imm _ _ _ hx
  | own id =>
    obtain ⟨h1, v, h2, h3, h5, h4⟩ := hx
    refine ⟨Nat.lt_of_lt_of_le h1 h.n, v, h2, h3, h5, fun hl => ?_⟩
    rw [h.g id h1]
    rcases h.live id h1 hl with hl | hl
    · exact h4 hl
    · simp only [okL, hl, Bool.not_true] at hb; cases hb
  | ptr id off =>
    obtain ⟨h1, b, h2, h3⟩ := hx
    exact ⟨Nat.lt_of_lt_of_le h1 h.n, b, by rw [h.g id h1]; exact h2, h3⟩
  | fn f ids =>
    obtain ⟨h1, h2⟩ := hx
    refine ⟨fun i hi => ⟨Nat.lt_of_lt_of_le (h1 i hi).1 h.n, by rw [h.g i (h1 i hi).1]; exact (h1 i hi).2⟩, ?_⟩
    rw [h2]
    congr 3
    exact List.map_congr_left fun i hi => (h.g i (h1 i hi).1).symm
  | sub id off n lo hi =>
    obtain ⟨h1, h2, h3, h4, b, h5, h6⟩ := hx
    exact ⟨Nat.lt_of_lt_of_le h1 h.n, h2, h3, h4, b, by rw [h.g id h1]; exact h5, h6⟩
theorem okLs_mono {bad : Nat → Bool} (h : LeX bad m m') : ∀ {ls : List L} {s : List (List Value)}, ls.all (okL bad) = true → Al2 (Rl m) ls s → Al2 (Rl m') ls s
  | [], [], _, _ => trivial
  | x :: ls, c :: s, hb, k => by
    rw [List.all_cons, Bool.and_eq_true] at hb
    exact ⟨okL_mono h _ _ hb.1 k.1, okLs_mono h hb.2 k.2⟩
theorem okTs_mono {bad : Nat → Bool} (h : LeX bad m m') : ∀ {vs : List (L ⊕ List L)} {l : List Value}, (vs.all fun x => match x with | .inl x => okL bad x | .inr ls => ls.all (okL bad)) = true → Al2 (Rp m) vs l → Al2 (Rp m') vs l
  | [], [], _, _ => trivial
  | x :: vs, c :: l, hb, k => by
    rw [List.all_cons, Bool.and_eq_true] at hb
    refine ⟨?_, okTs_mono h hb.2 k.2⟩
    cases x with
    | inl x => exact okL_mono h _ _ hb.1 k.1
    | inr ls => obtain ⟨s, h1, h2⟩ := k.1; exact ⟨s, h1, okLs_mono h hb.1 h2⟩
theorem okV_mono {bad : Nat → Bool} (h : LeX bad m m') : ∀ (x : V) (v : Value), okV bad x = true → Rv m x v → Rv m' x v := by
  intro x v hb hx
  cases x with
  | one x => exact okL_mono h _ _ hb hx
  | ag ls => obtain ⟨s, h1, h2⟩ := hx; exact ⟨s, h1, okLs_mono h hb h2⟩
  | tup vs => obtain ⟨l, h1, h2⟩ := hx; exact ⟨l, h1, okTs_mono h hb h2⟩
  | epR t x off =>
    obtain ⟨g, o, c, h1, h2, h3, h4⟩ := hx
    refine ⟨g, o, c, h1, (h.imm g h2).1, At.mono h.imm _ _ _ h3, fun j y hj => ?_⟩
    have := h4 j y hj
    simp only [World.cell?] at this ⊢
    rw [(h.imm g h2).2]; exact this
  | epO id z i off =>
    obtain ⟨h1, h2⟩ := hx
    refine ⟨Nat.lt_of_lt_of_le h1 h.n, fun hl => ?_⟩
    rw [h.g id h1]
    rcases h.live id h1 hl with hl | hl
    · exact h2 hl
    · simp only [okV, hl, Bool.not_true] at hb; cases hb
  | epB id off n z i k =>
    obtain ⟨h1, h2, h3, b, h4, h5⟩ := hx
    exact ⟨Nat.lt_of_lt_of_le h1 h.n, h2, h3, b, by rw [h.g id h1]; exact h4, h5⟩
  | toA t n xs =>
    obtain ⟨h0, h1, u, h2, h3⟩ := hx
    exact ⟨h0, h1, u, h2.mono h.imm (At.mono h.imm t), h3⟩
  | sk => exact hx
  | u => trivial

theorem Mem.Le.x (h : m.Le m') : LeX (fun _ => false) m m' := ⟨h.n, h.g, fun id hi hl => .inl (h.live id hi hl), h.imm⟩

/-- an object in a memory that has changed elsewhere -/
theorem okO_mono {bad : Nat → Bool} (h : LeX bad m m') {v : Value} {o : Ob} (hb : okO bad o = true) (hs : ∀ b, liveO (some o) = true → foot v = some b → m'.w.heap[b]? = m.w.heap[b]?) (k : Ho m v o) : Ho m' v o := by
  cases o with
  | gone => trivial
  | blk ty ls =>
    obtain ⟨b, s, h1, h2, h3⟩ := k
    exact ⟨b, s, h1, (hs b rfl (by rw [h1]; rfl)).trans h2, okLs_mono h hb h3⟩
  | rd ty ls =>
    obtain ⟨b, s, h1, h2, h3, h4⟩ := k
    exact ⟨b, s, h1, (h.imm b h4).2.trans h2, okLs_mono h hb h3, (h.imm b h4).1⟩
  | arr ty t xs =>
    obtain ⟨ys, h1, h2⟩ := k
    exact ⟨ys, h1.kept fun b hb => hs b rfl (foot_vfoot hb), h2.mono (At.mono h.imm t)⟩
  | fix => exact k.elim
theorem ho_mono (h : m.Le m') {v : Value} {o : Ob} (hs : ∀ b, liveO (some o) = true → foot v = some b → m'.w.heap[b]? = m.w.heap[b]?) (k : Ho m v o) : Ho m' v o := by
  cases o with
  | gone => trivial
  | blk ty ls =>
    obtain ⟨b, s, h1, h2, h3⟩ := k
    exact ⟨b, s, h1, (hs b rfl (by rw [h1]; rfl)).trans h2, Rls.mono h h3⟩
  | rd ty ls =>
    obtain ⟨b, s, h1, h2, h3, h4⟩ := k
    exact ⟨b, s, h1, (h.imm b h4).2.trans h2, Rls.mono h h3, (h.imm b h4).1⟩
  | arr ty t xs =>
    obtain ⟨ys, h1, h2⟩ := k
    exact ⟨ys, h1.kept fun b hb => hs b rfl (foot_vfoot hb), h2.mono (At.mono h.imm t)⟩
  | fix => exact k.elim

/-- a state seen from where it stands: what it has is lent to what comes -/
theorem Rel.rebase (H : Rel M S w0 h g w) {h1 : Hm} (hn : h1.length = h.length) (hs : ∀ (id : Nat) (o : Ob), h1[id]? = some o → o = .gone ∨ h[id]? = some o) :
    Rel (lentOf h1 g) (memOf M S w0 h g w).I w h1 g w ∧ (memOf M S w0 h g w).Le (memOf (lentOf h1 g) (memOf M S w0 h g w).I w h1 g w) := by
  have sub : ∀ id, lives h1 id → lives h id := fun id hl => by
    unfold lives at hl
    cases e : h1[id]? with
    | none => rw [e] at hl; cases hl
    | some o =>
      rw [e] at hl
      rcases hs id o e with rfl | h2
      · cases hl
      · unfold lives; rw [h2]; exact hl
  have le : (memOf M S w0 h g w).Le (memOf (lentOf h1 g) (memOf M S w0 h g w).I w h1 g w) :=
    ⟨Nat.le_of_eq hn.symm, fun _ _ => rfl, fun id _ hl => sub id hl, fun b hb => ⟨⟨hb.1, .inr (.inl hb), fun id hl hf => hb.2.2 id (sub id hl) hf⟩, rfl⟩⟩
  refine ⟨⟨rfl, rfl, rfl, Nat.le_refl _, fun _ _ _ => rfl, fun b hb => ?_, fun id o ho => ?_, fun id hl b hf => .inr ⟨id, hl, hf⟩, fun i j hi hj hne b hb hb' => H.inj i j (sub i hi) (sub j hj) hne b hb hb'⟩, le⟩
  · rintro ⟨id, hl, hf⟩
    exact hb.2.2 id (sub id hl) hf
  · rcases hs id o ho with rfl | h2
    · trivial
    · exact ho_mono le (fun _ _ _ => rfl) (H.obj id o h2)

/-! ### lists of objects -/
theorem lockH_get (xs : List Nat) : ∀ (h : Hm) (i j : Nat), (lockH xs i h)[j]? = (h[j]?).map fun o => bif memN xs (i + j) then o else .gone
  | [], _, _ => rfl
  | o :: h, i, 0 => rfl
  | o :: h, i, j + 1 => by
    have := lockH_get xs h (i + 1) j
    simp only [lockH, List.getElem?_cons_succ]
    rw [this, show i + 1 + j = i + (j + 1) from by omega]
theorem lockH_len (xs : List Nat) : ∀ (h : Hm) (i : Nat), (lockH xs i h).length = h.length
  | [], _ => rfl
  | _ :: h, i => by simp [lockH, lockH_len xs h (i + 1)]
theorem dropH_get (xs : List Nat) : ∀ (h : Hm) (i j : Nat), (dropH xs i h)[j]? = (h[j]?).map fun o => bif memN xs (i + j) then .gone else o
  | [], _, _ => rfl
  | o :: h, i, 0 => rfl
  | o :: h, i, j + 1 => by
    have := dropH_get xs h (i + 1) j
    simp only [dropH, List.getElem?_cons_succ]
    rw [this, show i + 1 + j = i + (j + 1) from by omega]
theorem dropH_len (xs : List Nat) : ∀ (h : Hm) (i : Nat), (dropH xs i h).length = h.length
  | [], _ => rfl
  | _ :: h, i => by simp [dropH, dropH_len xs h (i + 1)]
theorem unlockH_get (xs : List Nat) : ∀ (h h' : Hm) (i j : Nat), h.length ≤ h'.length → (unlockH xs i h h')[j]? = if j < h.length then (bif memN xs (i + j) then h'[j]? else h[j]?) else h'[j]?
  | [], h', _, _, _ => by simp [unlockH]
  | o :: h, [], _, _, hl => by simp at hl
  | o :: h, o' :: h', i, 0, _ => by
    simp only [unlockH, List.getElem?_cons_zero, List.length_cons, Nat.add_zero]
    rw [if_pos (by omega)]
    cases memN xs i <;> rfl
  | o :: h, o' :: h', i, j + 1, hl => by
    have := unlockH_get xs h h' (i + 1) j (by simpa using hl)
    simp only [unlockH, List.getElem?_cons_succ, List.length_cons]
    rw [this, show i + 1 + j = i + (j + 1) from by omega]
    by_cases hj : j < h.length
    · rw [if_pos hj, if_pos (by omega)]
    · rw [if_neg hj, if_neg (by omega)]
theorem unlockH_len (xs : List Nat) : ∀ (h h' : Hm) (i : Nat), h.length ≤ h'.length → (unlockH xs i h h').length = h'.length
  | [], _, _, _ => by simp [unlockH]
  | _ :: _, [], _, hl => by simp at hl
  | o :: h, o' :: h', i, hl => by simp [unlockH, unlockH_len xs h h' (i + 1) (by simpa using hl)]

theorem mergeE_get {e2 : Ev} : ∀ (ds : List Nat) (e : Ev) (t : Nat), getE (mergeE e e2 ds) t = if t ∈ ds then getE e2 t else getE e t
  | [], e, t => by simp [mergeE]
  | d :: ds, e, t => by
    simp only [mergeE, getE]
    cases hb : Nat.beq d t with
    | true =>
      have := Nat.eq_of_beq_eq_true hb
      subst this; simp
    | false =>
      have hne : ¬ t = d := fun q => by subst q; simp at hb
      rw [cond_false, mergeE_get ds e t]
      simp [hne]

/-! ### what is not written stays -/
theorem putO_other {r : Env} {d : Option Nat} {v : Value} {t : Nat} (h : d ≠ some t) : putO r d v t = r t := by
  cases d with
  | none => rfl
  | some d => exact put_other _ _ (fun q => h (by rw [q]))
theorem slots_dst {ops : List Oper} {o : Oper} {l : List Oper} {t : Nat} (h : t ∉ slotsOf ops (o :: l)) : o.dst ≠ some t ∧ t ∉ slotsOf ops l := by
  simp only [slotsOf, List.mem_append, not_or] at h
  refine ⟨fun q => ?_, h.2⟩
  rw [q] at h
  exact h.1.1 (by simp)
theorem WhD.keep {n : Nat} {ops : List Oper} {C0 C : World → Prop} {KQ : Env → Prop} : ∀ {l : List (Oper × Nat)} {r : Env}, WhD P n ops.toArray C0 C KQ l r → WhD P n ops.toArray C0 C (fun r' => KQ r' ∧ ∀ t, t ∉ slotsOf ops (l.map (·.1)) → r' t = r t) l r
  | [], _, h => ⟨h, fun _ _ => rfl⟩
  | (o, fl) :: l, r, ⟨hd, h⟩ => by
    refine ⟨hd, ?_⟩
    have go : ∀ v, WhD P n ops.toArray C0 C KQ l (putO r o.dst v) → WhD P n ops.toArray C0 C (fun r' => KQ r' ∧ ∀ t, t ∉ slotsOf ops (((o, fl) :: l).map (·.1)) → r' t = r t) l (putO r o.dst v) := fun v q =>
      WhD.mono (fun r' ⟨k1, k2⟩ => ⟨k1, fun t ht => by
        obtain ⟨h1, h2⟩ := slots_dst ht
        rw [k2 t h2, putO_other h1]⟩) (WhD.keep q)
    by_cases hw : wantedE ops.toArray o r = true
    · rw [if_pos hw] at h ⊢
      obtain ⟨v, h1, h2⟩ := h
      exact ⟨v, h1, go v h2⟩
    · rw [if_neg hw] at h ⊢
      exact go undef h
theorem WtD.mono' {n : Nat} {ops : Array Oper} {C : World → Prop} {KQ KQ' : Env → World → Prop} (hm : ∀ r w, KQ r w → KQ' r w) : ∀ {l : List (Oper × Bool)} {r : Env} {w : World}, WtD P n ops C KQ l r w → WtD P n ops C KQ' l r w
  | [], _, _, h => hm _ _ h
  | (o, fl) :: l, r, w, ⟨hd, h⟩ => by
    refine ⟨hd, ?_⟩
    by_cases hw : wantedE ops o r = true
    · rw [if_pos hw] at h ⊢
      exact h.mono fun v w' q => ⟨q.1, WtD.mono' hm q.2⟩
    · rw [if_neg hw] at h ⊢
      exact WtD.mono' hm h
theorem WtD.keep {n : Nat} {ops : List Oper} {C : World → Prop} {KQ : Env → World → Prop} : ∀ {l : List (Oper × Bool)} {r : Env} {w : World}, WtD P n ops.toArray C KQ l r w → WtD P n ops.toArray C (fun r' w' => KQ r' w' ∧ ∀ t, t ∉ slotsOf ops (l.map (·.1)) → r' t = r t) l r w
  | [], _, _, h => ⟨h, fun _ _ => rfl⟩
  | (o, fl) :: l, r, w, ⟨hd, h⟩ => by
    refine ⟨hd, ?_⟩
    have go : ∀ v w', WtD P n ops.toArray C KQ l (putO r o.dst v) w' → WtD P n ops.toArray C (fun r' w' => KQ r' w' ∧ ∀ t, t ∉ slotsOf ops (((o, fl) :: l).map (·.1)) → r' t = r t) l (putO r o.dst v) w' := fun v w' q =>
      WtD.mono' (fun r' w'' ⟨k1, k2⟩ => ⟨k1, fun t ht => by
        obtain ⟨h1, h2⟩ := slots_dst ht
        rw [k2 t h2, putO_other h1]⟩) (WtD.keep q)
    by_cases hw : wantedE ops.toArray o r = true
    · rw [if_pos hw] at h ⊢
      exact h.mono fun v w' q => ⟨q.1, go v w' q.2⟩
    · rw [if_neg hw] at h ⊢
      exact go undef w h
theorem WtD.append {n : Nat} {ops : Array Oper} {C : World → Prop} {KQ : Env → World → Prop} {l2 : List (Oper × Bool)} : ∀ {l : List (Oper × Bool)} {r : Env} {w : World}, WtD P n ops C (fun r w => WtD P n ops C KQ l2 r w) l r w → WtD P n ops C KQ (l ++ l2) r w
  | [], _, _, h => h
  | (o, fl) :: l, r, w, ⟨hd, h⟩ => by
    refine ⟨hd, ?_⟩
    by_cases hw : wantedE ops o r = true
    · rw [if_pos hw] at h ⊢
      exact h.mono fun v w' q => ⟨q.1, WtD.append q.2⟩
    · rw [if_neg hw] at h ⊢
      exact WtD.append h

/-- operations one behind the other, each of which keeps C -/
theorem runT_sound {X : Cx} (hX : CxOk X) {ops : List Oper} {KE : Ev → Hm → Option R} {C : World → Prop} {m0 : Mem} (hC : ∀ h g w', Rel M S w0 h g w' → C w') : ∀ (l : List (Oper × Bool)) {e : Ev} {h : Hm} {g : Nat → Value} {r : Env} {w : World}, (∀ x ∈ l, dstOk X.nt x.1 = true) →
    Rel M S w0 h g w → ER (memOf M S w0 h g w) e r → m0.Le (memOf M S w0 h g w) → runL X ops (l.map (·.1)) e h KE = some res →
    WtD X.P X.nt ops.toArray C (fun r' w' => ∃ e' h' g', Rel M S w0 h' g' w' ∧ ER (memOf M S w0 h' g' w') e' r' ∧ m0.Le (memOf M S w0 h' g' w') ∧ KE e' h' = some res) l r w
  | [], e, h, g, r, w, _, H, E, hg, hk => ⟨e, h, g, H, E, hg, hk⟩
  | (o, fl) :: l, e, h, g, r, w, hd, H, E, hg, hk => by
    have hd1 : ∀ d, o.dst = some d → d < X.nt := fun d hdd => by
      have := hd (o, fl) (by simp)
      rw [dstOk, hdd] at this
      simpa [Nat.blt_eq] using this
    have hd2 : ∀ x ∈ l, dstOk X.nt x.1 = true := fun x hx => hd x (List.mem_cons_of_mem _ hx)
    refine ⟨hd1, ?_⟩
    have yes : ∀ e', ER (memOf M S w0 h g w) e' r → (stepOp X o.op o.type e' h fun v h => runL X ops (l.map (·.1)) (putE e' o.dst v) h KE) = some res → Step X.P o r w (fun v w' => (fl = true → C w') ∧ WtD X.P X.nt ops.toArray C (fun r' w' => ∃ e' h' g', Rel M S w0 h' g' w' ∧ ER (memOf M S w0 h' g' w') e' r' ∧ m0.Le (memOf M S w0 h' g' w') ∧ KE e' h' = some res) l (putO r o.dst v) w') := fun e' E' hk => by
      obtain ⟨d, op, T, pos, aft, gd⟩ := o
      refine (stepOp_sound (d := d) (pos := pos) (aft := aft) (gd := gd) hX H E' hk).mono fun val w' ⟨v, h', g', H', le, hv, hk'⟩ => ⟨fun _ => hC _ _ _ H', ?_⟩
      exact runT_sound hX hC l hd2 H' ((E'.mono le).put d hv) (hg.trans le) hk'
    have no : ∀ e', ER (memOf M S w0 h g w) e' r → runL X ops (l.map (·.1)) (putE e' o.dst .sk) h KE = some res → WtD X.P X.nt ops.toArray C (fun r' w' => ∃ e' h' g', Rel M S w0 h' g' w' ∧ ER (memOf M S w0 h' g' w') e' r' ∧ m0.Le (memOf M S w0 h' g' w') ∧ KE e' h' = some res) l (putO r o.dst undef) w := fun e' E' hk =>
      runT_sound hX hC l hd2 H (E'.put o.dst (v := .sk) (val := undef) rfl) hg hk
    simp only [List.map_cons, runL] at hk
    have hw := wantV_sound (ops := ops) (o := o) E
    cases hwv : wantV ops o e with
    | yes => rw [hwv] at hk hw; rw [if_pos hw]; exact yes e E hk
    | no => rw [hwv] at hk hw; rw [if_neg (by simpa using hw)]; exact no e E hk
    | bad => rw [hwv] at hk; cases hk
    | ask t x want =>
      rw [hwv] at hk hw
      obtain ⟨h1, h2⟩ := hw
      have E' := E.same h1
      cases x <;> cases want <;> simp only [cond_true, cond_false] at hk
      · rw [if_pos (by rw [h2]; rfl)]; exact yes _ E' hk
      · rw [if_neg (by rw [h2]; decide)]; exact no _ E' hk
      · rw [if_neg (by rw [h2]; decide)]; exact no _ E' hk
      · rw [if_pos (by rw [h2]; rfl)]; exact yes _ E' hk

theorem picks_app {α : Type} {ops : List Oper} : ∀ (l m : List (Nat × α)), picks ops (l ++ m) = picks ops l ++ picks ops m
  | [], _ => rfl
  | (i, a) :: l, m => by
    simp only [List.cons_append, picks]
    cases ops[i]? with
    | none => exact picks_app l m
    | some o => simp [picks_app l m]
theorem take_dropF : ∀ (l : List (Nat × Bool)), takeF l ++ dropF l = l
  | [] => rfl
  | (i, true) :: l => by simp [takeF, dropF, take_dropF l]
  | (i, false) :: l => rfl

/-- what was lent out and locked away comes together again -/
theorem Rel.unlock (H : Rel M S w0 h g w) {xs : List Nat} {h2 : Hm} {g2 : Nat → Value} {w2 : World}
    (R2 : Rel (lentOf (lockH xs 0 h) g) (memOf M S w0 h g w).I w h2 g2 w2) (le2 : (memOf (lentOf (lockH xs 0 h) g) (memOf M S w0 h g w).I w (lockH xs 0 h) g w).Le (memOf (lentOf (lockH xs 0 h) g) (memOf M S w0 h g w).I w h2 g2 w2))
    (ho : h2.all (okO (stillB xs h)) = true) :
    Rel M S w0 (unlockH xs 0 h h2) g2 w2 ∧ (memOf M S w0 h g w).Le (memOf M S w0 (unlockH xs 0 h h2) g2 w2) ∧ LeX (stillB xs h) (memOf (lentOf (lockH xs 0 h) g) (memOf M S w0 h g w).I w h2 g2 w2) (memOf M S w0 (unlockH xs 0 h h2) g2 w2) := by
  have hlen : h.length ≤ h2.length := by
    have := le2.n
    simpa [memOf, lockH_len] using this
  have hget := fun j => unlockH_get xs h h2 0 j hlen
  simp only [Nat.zero_add] at hget
  have hg : ∀ id, id < h.length → g2 id = g id := fun id hi => le2.g id (by simpa [memOf, lockH_len] using hi)
  have locked : ∀ id, lives (lockH xs 0 h) id ↔ (lives h id ∧ memN xs id = true) := fun id => by
    unfold lives
    rw [lockH_get, Nat.zero_add]
    cases e : h[id]? with
    | none => simp [liveO]
    | some o => cases memN xs id <;> simp [liveO]
  -- which objects live
  have hl : ∀ id, lives (unlockH xs 0 h h2) id → (lives h2 id ∧ (h.length ≤ id ∨ memN xs id = true)) ∨ (lives h id ∧ id < h.length ∧ memN xs id = false) := fun id q => by
    unfold lives at q
    rw [hget] at q
    by_cases hi : id < h.length
    · rw [if_pos hi] at q
      cases hm : memN xs id with
      | true => rw [hm] at q; exact .inl ⟨q, .inr rfl⟩
      | false => rw [hm] at q; exact .inr ⟨q, hi, rfl⟩
    · rw [if_neg hi] at q; exact .inl ⟨q, .inl (by omega)⟩
  have old2 : ∀ id, lives h2 id → id < h.length → lives h id ∧ memN xs id = true := fun id q hi =>
    (locked id).1 (le2.live id (by simpa [memOf, lockH_len] using hi) q)
  -- a block of what was locked away is as it was
  have away : ∀ b, b < w.heap.size → (∀ id, lives h id → memN xs id = true → foot (g id) ≠ some b) → w2.heap[b]? = w.heap[b]? := fun b hb hx => by
    refine R2.old b hb ?_
    rintro ⟨id, h1, h3⟩
    obtain ⟨h4, h5⟩ := (locked id).1 h1
    exact hx id h4 h5 h3
  have where2 : ∀ id, lives h2 id → ∀ b, foot (g2 id) = some b → w.heap.size ≤ b ∨ ∃ j, lives h j ∧ memN xs j = true ∧ foot (g j) = some b := fun id q b hb => by
    rcases R2.mine id q b hb with h1 | ⟨j, h1, h3⟩
    · exact .inl h1
    · obtain ⟨h4, h5⟩ := (locked j).1 h1
      exact .inr ⟨j, h4, h5, h3⟩
  have immA : ∀ b, (memOf M S w0 h g w).I b → (memOf M S w0 (unlockH xs 0 h h2) g2 w2).I b ∧ w2.heap[b]? = w.heap[b]? := fun b hb => by
    have hsame := away b hb.1 fun id h1 _ => hb.2.2 id h1
    refine ⟨⟨Nat.lt_of_lt_of_le hb.1 R2.size, hb.2.1, fun id q hf => ?_⟩, hsame⟩
    rcases hl id q with ⟨q2, _⟩ | ⟨q2, hi, _⟩
    · rcases where2 id q2 b hf with h1 | ⟨j, h1, _, h3⟩
      · have := hb.1; omega
      · exact hb.2.2 j h1 h3
    · rw [hg id hi] at hf
      exact hb.2.2 id q2 hf
  have le : (memOf M S w0 h g w).Le (memOf M S w0 (unlockH xs 0 h h2) g2 w2) := by
    refine ⟨by simpa [memOf, unlockH_len _ _ _ _ hlen] using hlen, hg, fun id hi q => ?_, immA⟩
    rcases hl id q with ⟨q2, _⟩ | ⟨q2, _⟩
    · exact (old2 id q2 hi).1
    · exact q2
  have lex : LeX (stillB xs h) (memOf (lentOf (lockH xs 0 h) g) (memOf M S w0 h g w).I w h2 g2 w2) (memOf M S w0 (unlockH xs 0 h h2) g2 w2) := by
    refine ⟨by simp [memOf, unlockH_len _ _ _ _ hlen], fun _ _ => rfl, fun id _ q => ?_, fun b hb => ⟨?_, rfl⟩⟩
    · rcases hl id q with ⟨q2, _⟩ | ⟨q2, hi, hm⟩
      · exact .inl q2
      · exact .inr (by simp [stillB, hm, Nat.blt_eq, hi])
    · obtain ⟨h1, h3, h4⟩ := hb
      refine ⟨h1, ?_, fun id q hf => ?_⟩
      · rcases h3 with h3 | h3 | ⟨j, h5, h6⟩
        · exact .inl (Nat.le_trans H.size h3)
        · exact h3.2.1
        · rcases H.mine j ((locked j).1 h5).1 b h6 with h7 | h7
          · exact .inl h7
          · exact .inr (.inr h7)
      · rcases hl id q with ⟨q2, _⟩ | ⟨q2, hi, hm⟩
        · exact h4 id q2 hf
        · rw [hg id hi] at hf
          rcases h3 with h3 | h3 | ⟨j, h5, h6⟩
          · have := H.foot_lt q2 hf; omega
          · exact h3.2.2 id q2 hf
          · obtain ⟨h7, h8⟩ := (locked j).1 h5
            have hne : j ≠ id := fun q => by subst q; rw [hm] at h8; cases h8
            exact H.inj j id h7 q2 hne b h6 hf
  refine ⟨⟨R2.os.trans H.os, R2.tape.trans H.tape, R2.output.trans H.output, Nat.le_trans H.size R2.size, fun k h1 h3 => ?_, H.dis, fun id o hid => ?_, fun id q b hf => ?_, fun i j hi hj hne b hb hb' => ?_⟩, le, lex⟩
  · rw [away k (Nat.lt_of_lt_of_le h1 H.size) fun id h4 _ hf => ?_]
    · exact H.old k h1 h3
    · rcases H.mine id h4 k hf with h5 | h5
      · omega
      · exact h3 h5
  · rw [hget] at hid
    by_cases hi : id < h.length
    · rw [if_pos hi] at hid
      cases hm : memN xs id with
      | true =>
        rw [hm] at hid
        exact okO_mono lex (List.all_eq_true.1 ho o (List.mem_of_getElem? hid)) (fun _ _ _ => rfl) (R2.obj id o hid)
      | false =>
        rw [hm] at hid
        have hid : h[id]? = some o := hid
        rw [hg id hi]
        refine ho_mono le (fun b hlv hf => ?_) (H.obj id o hid)
        have hli : lives h id := by unfold lives; rw [hid]; exact hlv
        refine away b (H.foot_lt hli hf) fun j h4 h5 hf' => ?_
        have hne : j ≠ id := fun q => by subst q; rw [hm] at h5; cases h5
        exact H.inj j id h4 hli hne b hf' hf
    · rw [if_neg hi] at hid
      exact okO_mono lex (List.all_eq_true.1 ho o (List.mem_of_getElem? hid)) (fun _ _ _ => rfl) (R2.obj id o hid)
  · rcases hl id q with ⟨q2, _⟩ | ⟨q2, hi, _⟩
    · rcases where2 id q2 b hf with h1 | ⟨j, h1, _, h3⟩
      · exact .inl (Nat.le_trans H.size h1)
      · exact H.mine j h1 b h3
    · rw [hg id hi] at hf
      exact H.mine id q2 b hf
  · have mixed : ∀ i j b, lives h2 i → (h.length ≤ i ∨ memN xs i = true) → (lives h j ∧ j < h.length ∧ memN xs j = false) → foot (g2 i) = some b → foot (g2 j) = some b → False := fun i j b q1 _ ⟨q2, q3, q4⟩ hb hb' => by
      rw [hg j q3] at hb'
      rcases where2 i q1 b hb with h1 | ⟨x, h1, h3, h4⟩
      · have := H.foot_lt q2 hb'; omega
      · have hne : x ≠ j := fun q => by subst q; rw [h3] at q4; cases q4
        exact H.inj x j h1 q2 hne b h4 hb'
    rcases hl i hi with ⟨q1, q1'⟩ | q1 <;> rcases hl j hj with ⟨q2, q2'⟩ | q2
    · exact R2.inj i j q1 q2 hne b hb hb'
    · exact mixed i j b q1 q1' q2 hb hb'
    · exact mixed j i b q2 q2' q1 hb' hb
    · rw [hg i q1.2.1] at hb
      rw [hg j q2.2.1] at hb'
      exact H.inj i j q1.1 q2.1 hne b hb hb'

theorem runRg_sound {X : Cx} (hX : CxOk X) {id : Nat} {ops : Array Oper} {draw : Bool} {keep : Nat} {G0 : Nat → Value} {KE : Ev → Hm → Option R} {Q : Post}
    (H : Rel M S w0 h g w) (E : ER (memOf M S w0 h g w) e r) (hg : ∀ i, i < keep → i < h.length ∧ g i = G0 i) (hk : runRg X id ops.toList draw e h KE = some res) (hQ : ∀ r w, St M S w0 keep G0 KE res r w → Q.normal r w) :
    Wc X.P X.nt (.region id ops draw) Q r w := by
  obtain ⟨ops⟩ := ops
  unfold runRg at hk
  dsimp only at hk
  rw [cond_eq_ite] at hk
  split at hk
  rotate_left
  · cases hk
  rename_i hd
  cases draw with
  | false =>
    simp only [cond_false] at hk
    have h1 := runL_sound hX ops hd H E hg hk
    exact (Wc.region (Q := { Q with normal := St M S w0 keep G0 KE res }) ⟨h1⟩).mono hQ (fun _ _ _ q => q) (fun _ _ q => q)
  | true =>
    simp only [cond_true] at hk
    split at hk
    rotate_left
    · cases hk
    rename_i Hs Tl XS hdr
    rw [cond_eq_ite] at hk
    split at hk
    rotate_left
    · cases hk
    rename_i hok
    have dstP : ∀ {α : Type} (l : List (Nat × α)), ∀ x ∈ picks ops l, dstOk X.nt x.1 = true := fun l x hx => List.all_eq_true.1 hd _ (picks_mem hx).1
    have dstL : ∀ {α : Type} (l : List (Nat × α)), ((picks ops l).map (·.1)).all (dstOk X.nt) = true := fun l => by
      rw [List.all_eq_true]
      intro o ho
      obtain ⟨x, hx, rfl⟩ := List.mem_map.1 ho
      exact dstP l x hx
    have hfl : ∀ (l : List (Nat × Bool)), l.all (fun t => !t.2) = true → ∀ x ∈ picks ops l, x.2 = false := fun l hT x hx => by
      obtain ⟨_, i, hi⟩ := picks_mem hx
      simpa using List.all_eq_true.1 hT _ hi
    rw [cond_eq_ite] at hk
    split at hk
    · rename_i hT
      have h1 := runH_sound hX H _ (dstP Hs) E hk
      refine (Wc.draw (Q := { Q with normal := St M S w0 keep G0 KE res }) hX.mo Hs Tl hok (Below w.heap.size w) (Kept M S w0 h g w) H.kept ⟨rfl, rfl, rfl, Nat.le_refl _, fun _ _ => rfl⟩ ⟨?_⟩).mono hQ (fun _ _ _ q => q) (fun _ _ q => q)
      refine WhD.mono ?_ h1
      rintro r' ⟨e', E', hk'⟩ w' hb
      obtain ⟨H', le⟩ := H.below hb
      exact ⟨WlD.toWt (hfl Tl hT) (runL_sound hX _ (dstL Tl) H' (E'.mono le) (kept_le hg le) hk')⟩
    · split at hk
      rotate_left
      · cases hk
      rename_i xs hxs
      rw [cond_eq_ite] at hk
      split at hk
      rotate_left
      · cases hk
      rename_i hT
      -- the heads, over what the tail does not write
      have hdl : (dropH xs 0 h).length = h.length := dropH_len xs h 0
      have hdg : ∀ (id : Nat) (o : Ob), (dropH xs 0 h)[id]? = some o → o = .gone ∨ h[id]? = some o := fun id o q => by
        rw [dropH_get, Nat.zero_add] at q
        cases e : h[id]? with
        | none => rw [e] at q; cases q
        | some o' => rw [e] at q; cases hm : memN xs id <;> rw [hm] at q <;> cases q <;> simp
      have hll : (lockH xs 0 h).length = h.length := lockH_len xs h 0
      have hlg : ∀ (id : Nat) (o : Ob), (lockH xs 0 h)[id]? = some o → o = .gone ∨ h[id]? = some o := fun id o q => by
        rw [lockH_get, Nat.zero_add] at q
        cases e : h[id]? with
        | none => rw [e] at q; cases q
        | some o' => rw [e] at q; cases hm : memN xs id <;> rw [hm] at q <;> cases q <;> simp
      obtain ⟨H1, le1⟩ := H.rebase hdl hdg
      have h1 := WhD.keep (runH_sound hX H1 _ (dstP Hs) (E.mono le1) hk)
      have lex1 : LeX (memN xs) (memOf (lentOf (dropH xs 0 h) g) (memOf M S w0 h g w).I w (dropH xs 0 h) g w) (memOf M S w0 h g w) := by
        refine ⟨by simp [memOf, hdl], fun _ _ => rfl, fun id _ q => ?_, fun b hb => ⟨?_, rfl⟩⟩
        · have q : lives h id := q
          cases hm : memN xs id with
          | true => exact .inr rfl
          | false =>
            refine .inl ?_
            show lives (dropH xs 0 h) id
            unfold lives at q ⊢
            rw [dropH_get, Nat.zero_add, hm]
            cases e : h[id]? with
            | none => rw [e] at q; cases q
            | some o => rw [e] at q; exact q
        · obtain ⟨k1, k2, k3⟩ := hb
          rcases k2 with k2 | k2 | ⟨j, k4, k5⟩
          · omega
          · exact k2
          · exact absurd k5 (k3 j k4)
      refine (Wc.draw (Q := { Q with normal := St M S w0 keep G0 KE res }) hX.mo Hs Tl hok (Below w.heap.size w) (Kept (lentOf (dropH xs 0 h) g) (memOf M S w0 h g w).I w (dropH xs 0 h) g w) H1.kept ⟨rfl, rfl, rfl, Nat.le_refl _, fun _ _ => rfl⟩ ⟨?_⟩).mono hQ (fun _ _ _ q => q) (fun _ _ q => q)
      refine WhD.mono ?_ h1
      rintro r' ⟨⟨e1, E1, hk1⟩, hsame⟩ w1 hb
      rw [cond_eq_ite] at hk1
      split at hk1
      rotate_left
      · cases hk1
      rename_i hsafe
      generalize hds : slotsOf ops ((picks ops Hs).map (·.1)) = ds at *
      have EA : ER (memOf M S w0 h g w) (mergeE e e1 ds) r' := fun t => by
        rw [mergeE_get]
        by_cases ht : t ∈ ds
        · rw [if_pos ht]; exact okV_mono lex1 _ _ (List.all_eq_true.1 hsafe t ht) (E1 t)
        · rw [if_neg ht, hsame t ht]; exact E t
      obtain ⟨Hw1, lew1⟩ := H.below hb
      have EA1 := EA.mono lew1
      generalize mergeE e e1 ds = eA at *
      obtain ⟨H2, le2⟩ := Hw1.rebase hll hlg
      have hC : ∀ h' g' w', Rel (lentOf (lockH xs 0 h) g) (memOf M S w0 h g w1).I w1 h' g' w' → Kept (lentOf (dropH xs 0 h) g) (memOf M S w0 h g w).I w (dropH xs 0 h) g w w' := fun h' g' w' R' b hs => by
        have hbl : b < w.heap.size := H1.seen_lt hs
        have hbl1 : b < w1.heap.size := Nat.lt_of_lt_of_le hbl hb.size
        rw [R'.old b hbl1 ?_, hb.block b hbl]
        rintro ⟨j, k1, k2⟩
        have kj : lives h j ∧ memN xs j = true := by
          unfold lives at k1 ⊢
          rw [lockH_get, Nat.zero_add] at k1
          cases e : h[j]? with
          | none => rw [e] at k1; cases k1
          | some o => rw [e] at k1; cases hm : memN xs j <;> rw [hm] at k1 <;> first | exact ⟨k1, rfl⟩ | cases k1
        rcases hs with hs | ⟨i, k3, k4⟩
        · obtain ⟨k5, k6, k7⟩ := hs
          rcases k6 with k6 | k6 | ⟨i, k8, k9⟩
          · omega
          · exact k6.2.2 j kj.1 k2
          · exact k7 i k8 k9
        · have ki : lives h i ∧ memN xs i = false := by
            unfold lives at k3 ⊢
            rw [dropH_get, Nat.zero_add] at k3
            cases e : h[i]? with
            | none => rw [e] at k3; cases k3
            | some o => rw [e] at k3; cases hm : memN xs i <;> rw [hm] at k3 <;> first | exact ⟨k3, rfl⟩ | cases k3
          have hne : j ≠ i := fun q => by subst q; rw [ki.2] at kj; cases kj.2
          exact H.inj j i kj.1 ki.1 hne b k2 k4
      have hT1 := WtD.keep (runT_sound (m0 := memOf (lentOf (lockH xs 0 h) g) (memOf M S w0 h g w1).I w1 (lockH xs 0 h) g w1) hX hC (picks ops (takeF Tl)) (dstP _) H2 (EA1.mono le2) (.refl _) hk1)
      rw [← take_dropF Tl, picks_app]
      refine ⟨WtD.append (WtD.mono' ?_ hT1)⟩
      rintro r'' w'' ⟨⟨e2, h2, g2, R2, E2, le3, hk2⟩, hsame2⟩
      rw [cond_eq_ite] at hk2
      split at hk2
      rotate_left
      · cases hk2
      rename_i hs2
      rw [Bool.and_eq_true] at hs2
      obtain ⟨hs2, ho2⟩ := hs2
      generalize slotsOf ops ((picks ops (takeF Tl)).map (·.1)) = ds2 at *
      obtain ⟨R3, le4, lex3⟩ := Hw1.unlock R2 le3 ho2
      have E3 : ER (memOf M S w0 (unlockH xs 0 h h2) g2 w'') (mergeE eA e2 ds2) r'' := fun t => by
        rw [mergeE_get]
        by_cases ht : t ∈ ds2
        · rw [if_pos ht]; exact okV_mono lex3 _ _ (List.all_eq_true.1 hs2 t ht) (E2 t)
        · rw [if_neg ht, hsame2 t ht]; exact (EA1.mono le4) t
      exact WlD.toWt (hfl _ hT) (runL_sound hX _ (dstL _) R3 E3 (kept_le (kept_le hg lew1) le4) hk2)

end
end Go.Dor
