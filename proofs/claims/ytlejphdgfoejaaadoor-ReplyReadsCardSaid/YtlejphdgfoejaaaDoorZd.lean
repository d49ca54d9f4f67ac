/- STATES OF A SHAPE: where ways meet, where loops begin. Plain lemmas over any program. -/
import Derived.Test.YtlejphdgfoejaaaDoorZc
namespace Go.Dor
open Go.RowKit (Below)

section
variable {m m' : Mem} {h : Hm}

theorem takeLd_fz {k k' : Tk} {d : Ld} {ls rest : List L} {ds : List Dt} (ht : takeLd h k d ls = some (ds, rest, k')) (hk : ∀ id ∈ k.fz, lives h id) : ∀ id ∈ k'.fz, lives h id := by
  have bn : ∀ {k k' : Tk} {i id : Nat}, bindN k i id = some k' → k'.fz = k.fz := by
    intro k k' i id hb
    unfold bindN at hb
    split at hb
    · rw [cond_eq_ite] at hb; split at hb <;> cases hb; rfl
    · rw [cond_eq_ite] at hb; split at hb <;> cases hb; rfl
  have bns : ∀ {is ids : List Nat} {k k' : Tk}, bindNs k is ids = some k' → k'.fz = k.fz := by
    intro is
    induction is with
    | nil => intro ids k k' hb; cases ids <;> cases hb; rfl
    | cons i is ih =>
      intro ids k k' hb
      cases ids with
      | nil => cases hb
      | cons id ids =>
        simp only [bindNs] at hb
        split at hb
        · rename_i k1 h1; rw [ih hb, bn h1]
        · cases hb
  cases d with
  | im t =>
    simp only [takeLd] at ht
    rw [cond_eq_ite] at ht
    split at ht
    · split at ht
      · rename_i x l f hd
        cases ht
        intro id hid
        rcases List.mem_append.1 hid with h1 | h1
        · exact hk id h1
        · exact decL_live _ _ _ _ _ hd id h1
      · cases ht
    · cases ht
  | own i =>
    cases ls with
    | nil => simp [takeLd] at ht
    | cons y l =>
      cases y <;> simp only [takeLd] at ht <;> try (cases ht)
      split at ht
      · rename_i k1 hb; cases ht; rw [bn hb]; exact hk
      · cases ht
  | ptr i off =>
    cases ls with
    | nil => simp [takeLd] at ht
    | cons y l =>
      cases y <;> simp only [takeLd] at ht <;> try (cases ht)
      rw [cond_eq_ite] at ht
      split at ht
      · split at ht
        · rename_i k1 hb; cases ht; rw [bn hb]; exact hk
        · cases ht
      · cases ht
  | np | nil | nf =>
    cases ls with
    | nil => simp [takeLd] at ht
    | cons y l => cases y <;> simp only [takeLd] at ht <;> cases ht; exact hk
  | lb b =>
    cases ls with
    | nil => cases b <;> simp [takeLd] at ht
    | cons y l =>
      cases b <;> cases y <;> simp only [takeLd] at ht <;> try (cases ht)
      all_goals
        rename_i x
        cases x <;> simp only at ht <;> cases ht
        exact hk
  | fn f is =>
    cases ls with
    | nil => simp [takeLd] at ht
    | cons y l =>
      cases y <;> simp only [takeLd] at ht <;> try (cases ht)
      rw [cond_eq_ite] at ht
      split at ht
      · split at ht
        · rename_i k1 hb; cases ht; rw [bns hb]; exact hk
        · cases ht
      · cases ht
theorem takeLds_fz : ∀ {d : List Ld} {k k' : Tk} {ls rest : List L} {ds : List Dt}, takeLds h k d ls = some (ds, rest, k') → (∀ id ∈ k.fz, lives h id) → ∀ id ∈ k'.fz, lives h id
  | [], k, k', ls, rest, ds, ht, hk => by cases ht; exact hk
  | x :: d, k, k', ls, rest, ds, ht, hk => by
    simp only [takeLds] at ht
    split at ht
    · rename_i ds1 l1 k1 h1
      split at ht
      · rename_i ds2 l2 k2 h2
        cases ht
        exact takeLds_fz h2 (takeLd_fz h1 hk)
      · cases ht
    · cases ht
theorem takeVd_fz {k k' : Tk} {d : Vd} {v : V} {ds : List Dt} (ht : takeVd h k d v = some (ds, k')) (hk : ∀ id ∈ k.fz, lives h id) : ∀ id ∈ k'.fz, lives h id := by
  unfold takeVd at ht
  split at ht
  · split at ht
    · rename_i h1; cases ht; exact takeLd_fz h1 hk
    · cases ht
  · split at ht
    · rename_i h1; cases ht; exact takeLds_fz h1 hk
    · cases ht
  · split at ht
    · rename_i x f hd
      cases ht
      intro id hid
      rcases List.mem_append.1 hid with h1 | h1
      · exact hk id h1
      · exact decL_live _ _ _ _ _ hd id h1
    · cases ht
  · cases ht
theorem takeVds_fz : ∀ {d : List Vd} {k k' : Tk} {vs : List V} {ds : List Dt}, takeVds h k d vs = some (ds, k') → (∀ id ∈ k.fz, lives h id) → ∀ id ∈ k'.fz, lives h id
  | [], k, k', vs, ds, ht, hk => by cases vs <;> cases ht; exact hk
  | x :: d, k, k', vs, ds, ht, hk => by
    cases vs with
    | nil => cases ht
    | cons v vs =>
      simp only [takeVds] at ht
      split at ht
      · rename_i ds1 k1 h1
        split at ht
        · rename_i ds2 k2 h2; cases ht; exact takeVds_fz h2 (takeVd_fz h1 hk)
        · cases ht
      · cases ht

theorem beqN {a b : Nat} (h : Nat.beq a b = true) : a = b := Nat.eq_of_beq_eq_true h

/-! #### what is given hangs on its data alone -/
theorem map_split {α β : Type} {f : α → β} : ∀ {l : List α} {a b : List β}, l.map f = a ++ b → ∃ l1 l2, l = l1 ++ l2 ∧ l1.map f = a ∧ l2.map f = b
  | l, [], b, h => ⟨[], l, rfl, rfl, h⟩
  | [], a :: as, b, h => by simp at h
  | x :: l, a :: as, b, h => by
    simp only [List.map_cons, List.cons_append, List.cons.injEq] at h
    obtain ⟨l1, l2, rfl, h1, h2⟩ := map_split h.2
    exact ⟨x :: l1, l2, rfl, by simp [h.1, h1], h2⟩
variable {f : Nat → Nat}
theorem giveLd_app {d : Ld} {ds : List Dt} (h : ds.map (·.1) = d.ts) (more : List Dt) : giveLd f d (ds ++ more) = ((giveLd f d ds).1, more) := by
  cases d with
  | im t =>
    cases ds with
    | nil => simp [Ld.ts] at h
    | cons x l =>
      have : l = [] := by simp [Ld.ts] at h; exact h.2
      subst this; rfl
  | _ =>
    have : ds = [] := by simpa [Ld.ts] using h
    subst this; rfl
theorem giveLds_app : ∀ {d : List Ld} {ds : List Dt} (_ : ds.map (·.1) = Lds.ts d) (more : List Dt), giveLds f d (ds ++ more) = ((giveLds f d ds).1, more)
  | [], ds, h, more => by
    have : ds = [] := by simpa [Lds.ts] using h
    subst this; rfl
  | x :: d, ds, h, more => by
    obtain ⟨l1, l2, rfl, h1, h2⟩ := map_split h
    simp only [giveLds, List.append_assoc, giveLd_app h1, giveLds_app h2]
theorem giveVd_app {d : Vd} {ds : List Dt} (h : ds.map (·.1) = d.ts) (more : List Dt) : giveVd f d (ds ++ more) = ((giveVd f d ds).1, more) := by
  cases d with
  | one x => simp only [giveVd, giveLd_app (d := x) h]
  | ag ls => simp only [giveVd, giveLds_app (d := ls) h]
  | st t =>
    cases ds with
    | nil => simp [Vd.ts] at h
    | cons x l =>
      have : l = [] := by simp [Vd.ts] at h; exact h.2
      subst this; rfl
theorem giveVds_app : ∀ {d : List Vd} {ds : List Dt} (_ : ds.map (·.1) = Vds.ts d) (more : List Dt), giveVds f d (ds ++ more) = ((giveVds f d ds).1, more)
  | [], ds, h, more => by
    have : ds = [] := by simpa [Vds.ts] using h
    subst this; rfl
  | x :: d, ds, h, more => by
    obtain ⟨l1, l2, rfl, h1, h2⟩ := map_split h
    simp only [giveVds, List.append_assoc, giveVd_app h1, giveVds_app h2]
theorem giveOd_app {d : Od} {ds : List Dt} (h : ds.map (·.1) = d.ts) (more : List Dt) : giveOd f d (ds ++ more) = ((giveOd f d ds).1, more) := by
  cases d with
  | blk ty ls => simp only [giveOd, giveLds_app (d := ls) h]
  | rd ty ls => simp only [giveOd, giveLds_app (d := ls) h]
  | gone =>
    have : ds = [] := by simpa [Od.ts] using h
    subst this; rfl
  | blkT ty t | rdT ty t =>
    cases ds with
    | nil => simp [Od.ts] at h
    | cons x l =>
      have : l = [] := by simp [Od.ts] at h; exact h.2
      subst this; rfl
  | arr ty t | fix ty t =>
    cases ds with
    | nil => simp [Od.ts] at h
    | cons x l =>
      simp only [Od.ts, List.map_cons, List.cons.injEq, List.map_eq_nil_iff] at h
      obtain ⟨h1, rfl⟩ := h
      obtain ⟨t', x⟩ := x
      dsimp only at h1; subst h1; rfl
theorem giveOds_app : ∀ {d : List Od} {ds : List Dt} (_ : ds.map (·.1) = Ods.ts d) (more : List Dt), giveOds f d (ds ++ more) = ((giveOds f d ds).1, more)
  | [], ds, h, more => by
    have : ds = [] := by simpa [Ods.ts] using h
    subst this; rfl
  | x :: d, ds, h, more => by
    obtain ⟨l1, l2, rfl, h1, h2⟩ := map_split h
    simp only [giveOds, List.append_assoc, giveOd_app h1, giveOds_app h2]

theorem takeOd_sound (H : Objs m h) {k k' : Tk} {d : Od} {o : Ob} {i id : Nat} {ds : List Dt} (ht : takeOd h k d o = some (ds, k')) (ho : h[id]? = some o) (hi : findN k.r i = some id) (hk : ∀ id ∈ k.fz, lives h id) :
    k.Le k' ∧ (k.Inj → k'.Inj) ∧ (∀ id ∈ k'.fz, lives h id) ∧ ds.map (·.1) = d.ts ∧ (odLive d = true → lives h id) ∧
      liveO (some (giveOd _root_.id d ds).1) = odLive d ∧ ∀ m', Goal m m' h k' → (odLive d = false → ¬ m'.live i) → Ho m' (m.g id) (giveOd _root_.id d ds).1 := by
  have hO := H.ho _ _ ho
  -- a variable's leaves; its whole data
  have leavesCase : ∀ {ls : List Ld} {l : List L} {ds : List Dt} {k1 : Tk} {s : List (List Value)}, takeLds h k ls l = some (ds, [], k1) → Al2 (Rl m) l s → k.Le k1 ∧ (k.Inj → k1.Inj) ∧ (∀ id ∈ k1.fz, lives h id) ∧ ds.map (·.1) = Lds.ts ls ∧
      ∀ m', Goal m m' h k1 → Al2 (Rl m') (giveLds _root_.id ls ds).1 s := by
    intro ls l ds k1 s h1 hs
    obtain ⟨a1, a2, s1, s2, e', a3, a4, a5⟩ := takeLds_sound H h1 hs
    have := a3.nil_left
    subst this
    rw [List.append_nil] at e'
    subst e'
    refine ⟨a1, a2, takeLds_fz h1 hk, a4, fun m' G => ?_⟩
    obtain ⟨y, e3, r1⟩ := a5 m' G []
    rw [List.append_nil] at e3
    rw [e3]; exact r1
  have dataCase : ∀ {t : T} {l : List L} {x : den t} {f : List Nat} {s : List (List Value)}, decL t l h = some (x, [], f) → Al2 (Rl m) l s → k.Le ⟨k.r, k.fz ++ f⟩ ∧ (k.Inj → Tk.Inj ⟨k.r, k.fz ++ f⟩) ∧ (∀ id ∈ k.fz ++ f, lives h id) ∧
      ∀ m', Goal m m' h ⟨k.r, k.fz ++ f⟩ → ∃ s', s.flatten = s'.flatten ∧ Al2 (Rl m') (enc t x) s' := by
    intro t l x f s hd hs
    refine ⟨⟨fun _ _ q => q, fun id q => List.mem_append_left _ q⟩, fun q => q, fun id hid => ?_, fun m' G => decWhole H hd hs G⟩
    rcases List.mem_append.1 hid with h1 | h1
    · exact hk id h1
    · exact decL_live _ _ _ _ _ hd id h1
  -- read alone: nobody writes it
  have rdCase : ∀ {m' : Mem} {k1 : Tk} {b : Nat}, k.Le k1 → Goal m m' h k1 → ¬ m'.live i → m.g id = .pointer (some ⟨b, 0, none⟩) → (liveO h[id]? = true ∨ m.I b) → m'.I b := fun l G hl e hb =>
    G.rd i id (l.r _ _ hi) hl _ (by rw [e]; rfl) hb
  unfold takeOd at ht
  split at ht
  · -- blk
    rename_i ty ls ty' l
    rw [cond_eq_ite] at ht
    split at ht
    · rename_i hty
      have := beqN hty; subst this
      split at ht
      · rename_i h1
        cases ht
        obtain ⟨b, s, e1, e2, hs⟩ := hO
        obtain ⟨a1, a2, a3, a4, a5⟩ := leavesCase h1 hs
        exact ⟨a1, a2, a3, a4, fun _ => by simp [lives, ho, liveO], rfl, fun m' G _ => ⟨b, s, e1, by rw [G.w]; exact e2, a5 m' G⟩⟩
      · cases ht
    · cases ht
  · rename_i ty t ty' l
    rw [cond_eq_ite] at ht
    split at ht
    · rename_i hty
      have := beqN hty; subst this
      split at ht
      · rename_i x f hd
        cases ht
        obtain ⟨b, s, e1, e2, hs⟩ := hO
        obtain ⟨a1, a2, a3, a5⟩ := dataCase hd hs
        refine ⟨a1, a2, a3, rfl, fun _ => by simp [lives, ho, liveO], rfl, fun m' G _ => ?_⟩
        obtain ⟨s', e3, r1⟩ := a5 m' G
        exact ⟨b, s', e1, by rw [G.w, ← cells_flat e3]; exact e2, r1⟩
      · cases ht
    · cases ht
  · rename_i ty t ty' t' xs
    rw [cond_eq_ite] at ht
    split at ht
    · rename_i hty
      have := beqN hty; subst this
      split at ht
      · rename_i ys hc
        cases ht
        obtain ⟨e1, e2⟩ := castL_sound hc
        subst e1; dsimp only at e2; subst e2
        obtain ⟨zs, h1, h2⟩ := hO
        exact ⟨.refl _, fun q => q, hk, rfl, fun _ => by simp [lives, ho, liveO], rfl, fun m' G _ => ⟨zs, by rw [G.w]; exact h1, h2.mono (At.mono G.hI _)⟩⟩
      · cases ht
    · cases ht
  · exact hO.elim
  · -- rd of blk
    rename_i ty ls ty' l
    rw [cond_eq_ite] at ht
    split at ht
    · rename_i hty
      have := beqN hty; subst this
      split at ht
      · rename_i h1
        cases ht
        obtain ⟨b, s, e1, e2, hs⟩ := hO
        obtain ⟨a1, a2, a3, a4, a5⟩ := leavesCase h1 hs
        exact ⟨a1, a2, a3, a4, (fun q => (by cases q)), rfl, fun m' G hl => ⟨b, s, e1, by rw [G.w]; exact e2, a5 m' G, rdCase a1 G (hl rfl) e1 (.inl (by rw [ho]; rfl))⟩⟩
      · cases ht
    · cases ht
  · rename_i ty ls ty' l
    rw [cond_eq_ite] at ht
    split at ht
    · rename_i hty
      have := beqN hty; subst this
      split at ht
      · rename_i h1
        cases ht
        obtain ⟨b, s, e1, e2, hs, hI⟩ := hO
        obtain ⟨a1, a2, a3, a4, a5⟩ := leavesCase h1 hs
        exact ⟨a1, a2, a3, a4, (fun q => (by cases q)), rfl, fun m' G hl => ⟨b, s, e1, by rw [G.w]; exact e2, a5 m' G, rdCase a1 G (hl rfl) e1 (.inr hI)⟩⟩
      · cases ht
    · cases ht
  · rename_i ty t ty' l
    rw [cond_eq_ite] at ht
    split at ht
    · rename_i hty
      have := beqN hty; subst this
      split at ht
      · rename_i x f hd
        cases ht
        obtain ⟨b, s, e1, e2, hs⟩ := hO
        obtain ⟨a1, a2, a3, a5⟩ := dataCase hd hs
        refine ⟨a1, a2, a3, rfl, (fun q => (by cases q)), rfl, fun m' G hl => ?_⟩
        obtain ⟨s', e3, r1⟩ := a5 m' G
        exact ⟨b, s', e1, by rw [G.w, ← cells_flat e3]; exact e2, r1, rdCase a1 G (hl rfl) e1 (.inl (by rw [ho]; rfl))⟩
      · cases ht
    · cases ht
  · rename_i ty t ty' l
    rw [cond_eq_ite] at ht
    split at ht
    · rename_i hty
      have := beqN hty; subst this
      split at ht
      · rename_i x f hd
        cases ht
        obtain ⟨b, s, e1, e2, hs, hI⟩ := hO
        obtain ⟨a1, a2, a3, a5⟩ := dataCase hd hs
        refine ⟨a1, a2, a3, rfl, (fun q => (by cases q)), rfl, fun m' G hl => ?_⟩
        obtain ⟨s', e3, r1⟩ := a5 m' G
        exact ⟨b, s', e1, by rw [G.w, ← cells_flat e3]; exact e2, r1, rdCase a1 G (hl rfl) e1 (.inr hI)⟩
      · cases ht
    · cases ht
  · cases ht
    exact ⟨.refl _, fun q => q, hk, rfl, (fun q => (by cases q)), rfl, fun m' G _ => trivial⟩
  · cases ht

theorem takeOds_sound (H : Objs m h) : ∀ {d : List Od} {k k' : Tk} {i : Nat} {ds : List Dt}, takeOds h k i d = some (ds, k') → (∀ id ∈ k.fz, lives h id) →
    k.Le k' ∧ (k.Inj → k'.Inj) ∧ (∀ id ∈ k'.fz, lives h id) ∧ ds.map (·.1) = Ods.ts d ∧ (giveOds _root_.id d ds).1.length = d.length ∧
      (∀ j o, (giveOds _root_.id d ds).1[j]? = some o → ∃ id, findN k'.r (i + j) = some id ∧ (liveO (some o) = true → lives h id) ∧ id < h.length) ∧
      ∀ m', Goal m m' h k' → (∀ j, m'.live (i + j) → liveO (giveOds _root_.id d ds).1[j]? = true) → ∀ j o, (giveOds _root_.id d ds).1[j]? = some o → ∃ id, findN k'.r (i + j) = some id ∧ Ho m' (m.g id) o
  | [], k, k', i, ds, ht, hk => by
    cases ht
    exact ⟨.refl _, fun q => q, hk, rfl, rfl, fun j o h => by simp [giveOds] at h, fun m' G _ j o h => by simp [giveOds] at h⟩
  | x :: d, k, k', i, ds, ht, hk => by
    simp only [takeOds] at ht
    split at ht
    · rename_i id hi
      split at ht
      · rename_i o ho
        split at ht
        · rename_i ds1 k1 h1
          split at ht
          · rename_i ds2 k2 h2
            cases ht
            obtain ⟨a1, a2, a3, a4, a5, a6, a7⟩ := takeOd_sound H h1 ho hi hk
            obtain ⟨b1, b2, b3, b4, b5, b6, b7⟩ := takeOds_sound H h2 a3
            have e1 : giveOds _root_.id (x :: d) (ds1 ++ ds2) = ((giveOd _root_.id x ds1).1 :: (giveOds _root_.id d ds2).1, (giveOds _root_.id d ds2).2) := by
              simp only [giveOds, giveOd_app a4]
            refine ⟨a1.trans b1, fun q => b2 (a2 q), b3, by simp [a4, b4, Ods.ts], by rw [e1]; simp [b5], fun j o h => ?_, fun m' G hlv j o h => ?_⟩
            · rw [e1] at h
              cases j with
              | zero =>
                simp at h; subst h
                exact ⟨id, b1.r _ _ (a1.r _ _ hi), fun q => a5 (by rw [← a6]; exact q), (List.getElem?_eq_some_iff.1 ho).1⟩
              | succ j =>
                simp at h
                obtain ⟨id', h3, h4⟩ := b6 j o h
                exact ⟨id', by rw [show i + (j + 1) = i + 1 + j by omega]; exact h3, h4⟩
            · rw [e1] at h hlv
              cases j with
              | zero =>
                simp at h; subst h
                refine ⟨id, b1.r _ _ (a1.r _ _ hi), a7 m' (G.le b1) fun hd hl => ?_⟩
                have := hlv 0 hl
                simp only [List.getElem?_cons_zero] at this
                rw [a6, hd] at this; cases this
              | succ j =>
                simp at h
                obtain ⟨id', h3, h4⟩ := b7 m' G (fun j hl => by have := hlv (j + 1) (by rw [show i + (j + 1) = i + 1 + j by omega]; exact hl); simpa using this) j o h
                exact ⟨id', by rw [show i + (j + 1) = i + 1 + j by omega]; exact h3, h4⟩
          · cases ht
        · cases ht
      · cases ht
    · cases ht
end
end Go.Dor
