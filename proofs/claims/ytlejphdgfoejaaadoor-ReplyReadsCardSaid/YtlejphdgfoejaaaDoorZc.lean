/- SHAPES: what is taken stands for what is given. Plain lemmas over any program. -/
import Derived.Test.YtlejphdgfoejaaaDoorZb
namespace Go.Dor
open Go.RowKit (Below)

/-! ### numbers -/
structure Tk.Le (a b : Tk) : Prop where
  r : ∀ i id, findN a.r i = some id → findN b.r i = some id
  fz : ∀ id ∈ a.fz, id ∈ b.fz
theorem Tk.Le.refl (a : Tk) : a.Le a := ⟨fun _ _ h => h, fun _ h => h⟩
theorem Tk.Le.trans {a b c : Tk} (h : a.Le b) (k : b.Le c) : a.Le c := ⟨fun i id q => k.r i id (h.r i id q), fun id q => k.fz id (h.fz id q)⟩

theorem bindN_sound {k k' : Tk} {i id : Nat} (h : bindN k i id = some k') : k.Le k' ∧ findN k'.r i = some id := by
  unfold bindN at h
  split at h
  · rename_i id' h1
    rw [cond_eq_ite] at h
    split at h
    · rename_i h2
      cases h
      exact ⟨.refl _, by rw [h1, Nat.eq_of_beq_eq_true h2]⟩
    · cases h
  · rename_i h1
    rw [cond_eq_ite] at h
    split at h
    · cases h
    · cases h
      refine ⟨⟨fun j id' hj => ?_, fun _ q => q⟩, by simp [findN]⟩
      simp only [findN]
      by_cases e : i = j
      · subst e; rw [h1] at hj; cases hj
      · rw [Bool.eq_false_iff.2 fun q => e (Nat.eq_of_beq_eq_true q)]; exact hj
theorem bindNs_sound : ∀ {is ids : List Nat} {k k' : Tk}, bindNs k is ids = some k' → k.Le k' ∧ Al2 (fun i id => findN k'.r i = some id) is ids
  | [], [], k, k', h => by cases h; exact ⟨.refl _, trivial⟩
  | i :: is, id :: ids, k, k', h => by
    simp only [bindNs] at h
    split at h
    · rename_i k1 h1
      obtain ⟨h2, h3⟩ := bindN_sound h1
      obtain ⟨h4, h5⟩ := bindNs_sound h
      exact ⟨h2.trans h4, h4.r _ _ h3, h5⟩
    · cases h
  | [], _ :: _, _, _, h => by cases h
  | _ :: _, [], _, _, h => by cases h

/-- no number stands for two -/
def Tk.Inj (k : Tk) : Prop := ∀ i j id, findN k.r i = some id → findN k.r j = some id → i = j
theorem usedN_of : ∀ {r : List (Nat × Nat)} {i id : Nat}, findN r i = some id → usedN r id = true
  | [], _, _, h => by cases h
  | (a, b) :: l, i, id, h => by
    simp only [findN, usedN] at h ⊢
    cases e : Nat.beq a i with
    | true => rw [e] at h; cases h; simp
    | false => rw [e] at h; rw [usedN_of h]; cases Nat.beq b id <;> rfl
theorem bindN_inj {k k' : Tk} {i id : Nat} (h : bindN k i id = some k') (hk : k.Inj) : k'.Inj := by
  unfold bindN at h
  split at h
  · rw [cond_eq_ite] at h
    split at h
    · cases h; exact hk
    · cases h
  · rename_i h1
    rw [cond_eq_ite] at h
    split at h
    · cases h
    · rename_i h2
      cases h
      have hne : ∀ j, findN k.r j ≠ some id := fun j hj => h2 (usedN_of hj)
      intro a b x ha hb
      simp only [findN] at ha hb
      cases ea : Nat.beq i a with
      | true =>
        rw [ea] at ha; cases ha
        cases eb : Nat.beq i b with
        | true => rw [← Nat.eq_of_beq_eq_true ea, ← Nat.eq_of_beq_eq_true eb]
        | false => rw [eb] at hb; exact absurd hb (hne b)
      | false =>
        rw [ea] at ha
        cases eb : Nat.beq i b with
        | true => rw [eb] at hb; cases hb; exact absurd ha (hne a)
        | false => rw [eb] at hb; exact hk a b x ha hb
theorem bindNs_inj : ∀ {is ids : List Nat} {k k' : Tk}, bindNs k is ids = some k' → k.Inj → k'.Inj
  | [], [], k, k', h, hk => by cases h; exact hk
  | i :: is, id :: ids, k, k', h, hk => by
    simp only [bindNs] at h
    split at h
    · rename_i k1 h1; exact bindNs_inj h (bindN_inj h1 hk)
    · cases h
  | [], _ :: _, _, _, h, _ => by cases h
  | _ :: _, [], _, _, h, _ => by cases h

/-! ### what is given for what is taken -/
structure Goal (m m' : Mem) (h : Hm) (k : Tk) : Prop where
  w : m'.w = m.w
  imm : ∀ b, m.I b → m'.I b
  fz : ∀ id ∈ k.fz, ∀ b, foot (m.g id) = some b → m'.I b
  rd : ∀ i id, findN k.r i = some id → ¬ m'.live i → ∀ b, foot (m.g id) = some b → (liveO h[id]? = true ∨ m.I b) → m'.I b
  r : ∀ i id, findN k.r i = some id → m'.g i = m.g id ∧ i < m'.n ∧ (m'.live i → m.live id)

theorem Goal.hI {m m' : Mem} {h : Hm} {k : Tk} (G : Goal m m' h k) : ∀ b, m.I b → m'.I b ∧ m'.w.heap[b]? = m.w.heap[b]? := fun b hb => ⟨G.imm b hb, by rw [G.w]⟩
theorem Goal.le {m m' : Mem} {h : Hm} {k k' : Tk} (G : Goal m m' h k') (l : k.Le k') : Goal m m' h k :=
  ⟨G.w, G.imm, fun id hid => G.fz id (l.fz id hid), fun i id hi => G.rd i id (l.r i id hi), fun i id hi => G.r i id (l.r i id hi)⟩

theorem giveL_at {m : Mem} {t : T} (ht : leafT t = true) {x : den t} {c : List Value} (h : At m.w m.I t x c) : Rl m (giveL ⟨t, x⟩) c := by
  cases t <;> first | exact h | (simp [leafT] at ht)

section
variable {m m' : Mem} {h : Hm}

theorem takeLd_sound (H : Objs m h) {k k' : Tk} {d : Ld} {ls rest : List L} {ds : List Dt} {s : List (List Value)} (ht : takeLd h k d ls = some (ds, rest, k')) (hs : Al2 (Rl m) ls s) :
    k.Le k' ∧ (k.Inj → k'.Inj) ∧ ∃ c s2, s = c :: s2 ∧ Al2 (Rl m) rest s2 ∧ ds.map (·.1) = d.ts ∧ ∀ (m' : Mem), Goal m m' h k' → ∀ more, ∃ y, giveLd id d (ds ++ more) = (y, more) ∧ Rl m' y c := by
  cases d with
  | im t =>
    simp only [takeLd] at ht
    rw [cond_eq_ite] at ht
    split at ht
    · rename_i hlt
      split at ht
      · rename_i x l f hd
        cases ht
        have one : ∃ y, ls = y :: rest := by
          cases t with
          | unit => simp [leafT] at hlt
          | pair => simp [leafT] at hlt
          | _ =>
            cases ls with
            | nil => simp [decL] at hd
            | cons y l =>
              refine ⟨y, ?_⟩
              cases y <;> simp only [decL] at hd <;> first | (cases hd; done) | (cases hd; rfl) | (split at hd <;> first | (cases hd; done) | (cases hd; rfl) | (split at hd <;> first | (cases hd; done) | (cases hd; rfl)))
        obtain ⟨y, rfl⟩ := one
        obtain ⟨c, s2, rfl, h1, h2⟩ := hs.cons_left
        refine ⟨⟨fun _ _ q => q, fun id q => List.mem_append_left _ q⟩, fun q => q, c, s2, rfl, h2, rfl, fun m' G more => ⟨giveL ⟨t, x⟩, rfl, giveL_at hlt ?_⟩⟩
        have hlv := decL_live _ _ _ _ _ hd
        have hsingle : Al2 (Rl m) (y :: rest) (c :: s2) := ⟨h1, h2⟩
        obtain ⟨l1, s1, s2', e1, e2, h3, h4, h5⟩ := decL_sound (m' := m') H G.hI (fun b _ => by rw [G.w]) _ _ _ _ _ _ hd (fun id hid b hb => G.fz id (List.mem_append_right _ hid) b hb) hsingle
        have e3 : l1 = [y] := by
          have : [y] ++ rest = l1 ++ rest := e1
          exact (List.append_cancel_right this).symm
        subst e3
        obtain ⟨c', s', rfl, h6, h7⟩ := h4.cons_left
        have := h7.nil_left
        subst this
        simp only [List.cons_append, List.nil_append, List.cons.injEq] at e2
        rw [flat_one, ← e2.1] at h3
        exact h3
      · cases ht
    · cases ht
  | own i =>
    cases ls with
    | nil => simp [takeLd] at ht
    | cons y l =>
      cases y <;> simp only [takeLd] at ht <;> try (cases ht)
      split at ht
      · rename_i id _ k1 hb
        cases ht
        obtain ⟨c, s2, rfl, h1, h2⟩ := hs.cons_left
        obtain ⟨h3, h4⟩ := bindN_sound hb
        refine ⟨h3, bindN_inj hb, c, s2, rfl, h2, rfl, fun m' G more => ⟨_, rfl, ?_⟩⟩
        obtain ⟨_, v, h5, h6, h7, h8⟩ := h1
        obtain ⟨g1, g2, g3⟩ := G.r _ _ h4
        exact ⟨g2, v, h5, h6, h7, fun q => by rw [show (_root_.id i : Nat) = i from rfl, g1]; exact h8 (g3 q)⟩
      · cases ht
  | ptr i off =>
    cases ls with
    | nil => simp [takeLd] at ht
    | cons y l =>
      cases y <;> simp only [takeLd] at ht <;> try (cases ht)
      rw [cond_eq_ite] at ht
      split at ht
      · rename_i hoff
        have hoff := Nat.eq_of_beq_eq_true hoff
        subst hoff
        split at ht
        · rename_i k1 hb
          cases ht
          obtain ⟨c, s2, rfl, h1, h2⟩ := hs.cons_left
          obtain ⟨h3, h4⟩ := bindN_sound hb
          refine ⟨h3, bindN_inj hb, c, s2, rfl, h2, rfl, fun m' G more => ⟨_, rfl, ?_⟩⟩
          obtain ⟨_, b, h5, h6⟩ := h1
          obtain ⟨g1, g2, g3⟩ := G.r _ _ h4
          exact ⟨g2, b, by rw [show (_root_.id i : Nat) = i from rfl, g1]; exact h5, h6⟩
        · cases ht
      · cases ht
  | np | nil | nf =>
    cases ls with
    | nil => simp [takeLd] at ht
    | cons y l =>
      cases y <;> simp only [takeLd] at ht <;> cases ht
      obtain ⟨c, s2, rfl, h1, h2⟩ := hs.cons_left
      exact ⟨.refl _, fun q => q, c, s2, rfl, h2, rfl, fun m' G more => ⟨_, rfl, h1⟩⟩
  | lb b =>
    cases ls with
    | nil => cases b <;> simp [takeLd] at ht
    | cons y l =>
      cases b <;> cases y <;> simp only [takeLd] at ht <;> try (cases ht)
      all_goals
        rename_i x
        cases x <;> simp only at ht <;> cases ht
        obtain ⟨c, s2, rfl, h1, h2⟩ := hs.cons_left
        exact ⟨.refl _, fun q => q, c, s2, rfl, h2, rfl, fun m' G more => ⟨_, rfl, h1⟩⟩
  | fn f is =>
    cases ls with
    | nil => simp [takeLd] at ht
    | cons y l =>
      cases y <;> simp only [takeLd] at ht <;> try (cases ht)
      rw [cond_eq_ite] at ht
      split at ht
      · rename_i hff
        have hff := Nat.eq_of_beq_eq_true hff
        subst hff
        split at ht
        · rename_i ids _ k1 hb
          cases ht
          obtain ⟨c, s2, rfl, h1, h2⟩ := hs.cons_left
          obtain ⟨h3, h4⟩ := bindNs_sound hb
          refine ⟨h3, bindNs_inj hb, c, s2, rfl, h2, rfl, fun m' G more => ⟨_, rfl, ?_⟩⟩
          obtain ⟨h5, h6⟩ := h1
          have key : ∀ {is ids : List Nat}, Al2 (fun i id => findN k'.r i = some id) is ids → (∀ i ∈ ids, i < m.n ∧ isPtr (m.g i)) → (∀ i ∈ is, i < m'.n ∧ isPtr (m'.g i)) ∧ is.map m'.g = ids.map m.g := by
            intro is
            induction is with
            | nil => intro ids h _; have := h.nil_left; subst this; simp
            | cons i is ih =>
              intro ids h hq
              obtain ⟨id, ids, rfl, h7, h8⟩ := h.cons_left
              obtain ⟨g1, g2, g3⟩ := G.r _ _ h7
              obtain ⟨i1, i2⟩ := ih h8 fun j hj => hq j (List.mem_cons_of_mem _ hj)
              refine ⟨fun j hj => ?_, by simp [g1, i2]⟩
              rcases List.mem_cons.1 hj with rfl | hj
              · exact ⟨g2, by rw [g1]; exact (hq id (by simp)).2⟩
              · exact i1 j hj
          obtain ⟨i1, i2⟩ := key h4 h5
          have e : is.map _root_.id = is := by simp
          refine ⟨?_, ?_⟩
          · rw [e]; exact i1
          · rw [e, i2]; exact h6
        · cases ht
      · cases ht

theorem takeLds_sound (H : Objs m h) : ∀ {d : List Ld} {k k' : Tk} {ls rest : List L} {ds : List Dt} {s : List (List Value)}, takeLds h k d ls = some (ds, rest, k') → Al2 (Rl m) ls s →
    k.Le k' ∧ (k.Inj → k'.Inj) ∧ ∃ s1 s2, s = s1 ++ s2 ∧ Al2 (Rl m) rest s2 ∧ ds.map (·.1) = Lds.ts d ∧ ∀ (m' : Mem), Goal m m' h k' → ∀ more, ∃ y, giveLds id d (ds ++ more) = (y, more) ∧ Al2 (Rl m') y s1
  | [], k, k', ls, rest, ds, s, ht, hs => by
    cases ht
    exact ⟨.refl _, fun q => q, [], s, rfl, hs, rfl, fun m' G more => ⟨[], rfl, trivial⟩⟩
  | x :: d, k, k', ls, rest, ds, s, ht, hs => by
    simp only [takeLds] at ht
    split at ht
    · rename_i ds1 l1 k1 h1
      split at ht
      · rename_i ds2 l2 k2 h2
        cases ht
        obtain ⟨a1, a2, c, s2, rfl, a3, a4, a5⟩ := takeLd_sound H h1 hs
        obtain ⟨b1, b2, s3, s4, rfl, b3, b4, b5⟩ := takeLds_sound H h2 a3
        refine ⟨a1.trans b1, fun q => b2 (a2 q), c :: s3, s4, rfl, b3, by simp [a4, b4, Lds.ts], fun m' G more => ?_⟩
        obtain ⟨y, e1, r1⟩ := a5 m' (G.le b1) (ds2 ++ more)
        obtain ⟨ys, e2, r2⟩ := b5 m' G more
        refine ⟨y :: ys, ?_, r1, r2⟩
        simp only [giveLds, List.append_assoc, e1, e2]
      · cases ht
    · cases ht

theorem decWhole (H : Objs m h) {t : T} {ls : List L} {x : den t} {f : List Nat} {s : List (List Value)} {k : Tk} (hd : decL t ls h = some (x, [], f)) (hs : Al2 (Rl m) ls s) (G : Goal m m' h ⟨k.r, k.fz ++ f⟩) : ∃ s', s.flatten = s'.flatten ∧ Al2 (Rl m') (enc t x) s' := by
  obtain ⟨l1, s1, s2, e1, e2, h3, _, h5⟩ := decL_sound (m' := m') H G.hI (fun b _ => by rw [G.w]) _ _ _ _ _ _ hd (fun id hid b hb => G.fz id (List.mem_append_right _ hid) b hb) hs
  have := h5.nil_left
  subst this
  rw [List.append_nil] at e2
  subst e2
  obtain ⟨s', h6, h7⟩ := At.enc (m := m') _ _ _ h3
  exact ⟨s', h6, h7⟩

theorem ag_flat {s s' : List (List Value)} (h : s.flatten = s'.flatten) : ag s = ag s' := by simp [ag, cells, h]
theorem cells_flat {s s' : List (List Value)} (h : s.flatten = s'.flatten) : cells s = cells s' := by simp [cells, h]

theorem takeVd_sound (H : Objs m h) {k k' : Tk} {d : Vd} {v : V} {ds : List Dt} {val : Value} (ht : takeVd h k d v = some (ds, k')) (hv : Rv m v val) :
    k.Le k' ∧ (k.Inj → k'.Inj) ∧ ds.map (·.1) = d.ts ∧ ∀ (m' : Mem), Goal m m' h k' → ∀ more, ∃ y, giveVd id d (ds ++ more) = (y, more) ∧ Rv m' y val := by
  unfold takeVd at ht
  split at ht
  · rename_i x y
    split at ht
    · rename_i ds1 k1 h1
      cases ht
      obtain ⟨a1, a2, c, s2, e, a3, a4, a5⟩ := takeLd_sound H h1 (s := [[val]]) ⟨hv, trivial⟩
      cases e
      refine ⟨a1, a2, a4, fun m' G more => ?_⟩
      obtain ⟨y, e1, r1⟩ := a5 m' G more
      exact ⟨.one y, by simp only [giveVd, e1], r1⟩
    · cases ht
  · rename_i ls l
    split at ht
    · rename_i ds1 k1 h1
      cases ht
      obtain ⟨s, e, hs⟩ := hv
      obtain ⟨a1, a2, s1, s2, e', a3, a4, a5⟩ := takeLds_sound H h1 hs
      have := a3.nil_left
      subst this
      rw [List.append_nil] at e'
      subst e'
      refine ⟨a1, a2, a4, fun m' G more => ?_⟩
      obtain ⟨y, e1, r1⟩ := a5 m' G more
      exact ⟨.ag y, by simp only [giveVd, e1], s, e, r1⟩
    · cases ht
  · rename_i t l
    split at ht
    · rename_i x f hd
      cases ht
      obtain ⟨s, e, hs⟩ := hv
      refine ⟨⟨fun _ _ q => q, fun id q => List.mem_append_left _ q⟩, fun q => q, rfl, fun m' G more => ?_⟩
      obtain ⟨s', e1, r1⟩ := decWhole H hd hs G
      exact ⟨.ag (enc t x), rfl, s', by rw [e, ag_flat e1], r1⟩
    · cases ht
  · cases ht

theorem takeVds_sound (H : Objs m h) : ∀ {d : List Vd} {k k' : Tk} {vs : List V} {ds : List Dt} {vals : List Value}, takeVds h k d vs = some (ds, k') → Al2 (Rv m) vs vals →
    k.Le k' ∧ (k.Inj → k'.Inj) ∧ ds.map (·.1) = Vds.ts d ∧ ∀ (m' : Mem), Goal m m' h k' → ∀ more, ∃ y, giveVds id d (ds ++ more) = (y, more) ∧ Al2 (Rv m') y vals
  | [], k, k', vs, ds, vals, ht, hs => by
    cases vs with
    | nil => cases ht; have := hs.nil_left; subst this; exact ⟨.refl _, fun q => q, rfl, fun m' G more => ⟨[], rfl, trivial⟩⟩
    | cons v vs => cases ht
  | x :: d, k, k', vs, ds, vals, ht, hs => by
    cases vs with
    | nil => cases ht
    | cons v vs =>
      simp only [takeVds] at ht
      split at ht
      · rename_i ds1 k1 h1
        split at ht
        · rename_i ds2 k2 h2
          cases ht
          obtain ⟨val, vals, rfl, hv, hs⟩ := hs.cons_left
          obtain ⟨a1, a2, a4, a5⟩ := takeVd_sound H h1 hv
          obtain ⟨b1, b2, b4, b5⟩ := takeVds_sound H h2 hs
          refine ⟨a1.trans b1, fun q => b2 (a2 q), by simp [a4, b4, Vds.ts], fun m' G more => ?_⟩
          obtain ⟨y, e1, r1⟩ := a5 m' (G.le b1) (ds2 ++ more)
          obtain ⟨ys, e2, r2⟩ := b5 m' G more
          refine ⟨y :: ys, ?_, r1, r2⟩
          simp only [giveVds, List.append_assoc, e1, e2]
        · cases ht
      · cases ht
end
end Go.Dor
