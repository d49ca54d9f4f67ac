/- ONE LEAF OF DATA, taken: it stands for what is there. Plain lemmas over any program. -/
import Derived.Test.YtlejphdgfoejaaaDoorX
namespace Go.Dor
section
variable {m : Mem}

theorem decL_sound {m' : Mem} {h : Hm} (H : Objs m h) (hI : ∀ b, m.I b → m'.I b ∧ m'.w.heap[b]? = m.w.heap[b]?) (hw : ∀ b, m.I b ∨ (∃ id, lives h id ∧ foot (m.g id) = some b) → m'.w.heap[b]? = m.w.heap[b]?) :
    ∀ (t : T) (ls rest : List L) (x : den t) (f : List Nat) (s : List (List Value)), decL t ls h = some (x, rest, f) →
    (∀ id ∈ f, ∀ b, foot (m.g id) = some b → m'.I b) → Al2 (Rl m) ls s → ∃ l1 s1 s2, ls = l1 ++ rest ∧ s = s1 ++ s2 ∧ At m'.w m'.I t x s1.flatten ∧ Al2 (Rl m) l1 s1 ∧ Al2 (Rl m) rest s2 := by
  intro t
  induction t with
  | int k =>
    intro ls rest x f s h1 hf hs
    cases ls with
    | nil => simp [decL] at h1
    | cons y l =>
      cases y <;> simp only [decL] at h1 <;> try (cases h1)
      rename_i k' n
      split at h1
      · rename_i e; cases h1; subst e
        obtain ⟨c, s', rfl, h2, h3⟩ := hs.cons_left
        exact ⟨[_], [c], s', rfl, rfl, by rw [flat_one]; exact h2, ⟨h2, trivial⟩, h3⟩
      · cases h1
  | bool =>
    intro ls rest x f s h1 hf hs
    cases ls with
    | nil => simp [decL] at h1
    | cons y l =>
      cases y <;> simp only [decL] at h1 <;> cases h1
      obtain ⟨c, s', rfl, h2, h3⟩ := hs.cons_left
      exact ⟨[_], [c], s', rfl, rfl, by rw [flat_one]; exact h2, ⟨h2, trivial⟩, h3⟩
  | str =>
    intro ls rest x f s h1 hf hs
    cases ls with
    | nil => simp [decL] at h1
    | cons y l =>
      cases y <;> simp only [decL] at h1 <;> cases h1
      obtain ⟨c, s', rfl, h2, h3⟩ := hs.cons_left
      exact ⟨[_], [c], s', rfl, rfl, by rw [flat_one]; exact h2, ⟨h2, trivial⟩, h3⟩
  | flt k =>
    intro ls rest x f s h1 hf hs
    cases ls with
    | nil => simp [decL] at h1
    | cons y l =>
      cases y <;> simp only [decL] at h1 <;> try (cases h1)
      split at h1
      · rename_i e; cases h1; subst e
        obtain ⟨c, s', rfl, h2, h3⟩ := hs.cons_left
        exact ⟨[_], [c], s', rfl, rfl, by rw [flat_one]; exact h2, ⟨h2, trivial⟩, h3⟩
      · cases h1
  | unit =>
    intro ls rest x f s h1 hf hs
    have : decL .unit ls h = some ((), ls, []) := by cases ls with | nil => rfl | cons y l => cases y <;> rfl
    rw [this] at h1; cases h1
    exact ⟨[], [], s, rfl, rfl, rfl, trivial, hs⟩
  | pair a b iha ihb =>
    intro ls rest x f s h1 hf hs
    have : decL (.pair a b) ls h = (match decL a ls h with
      | some (x, l, f) => (match decL b l h with | some (y, l, g) => some ((x, y), l, f ++ g) | none => none)
      | none => none) := by cases ls with | nil => rfl | cons y l => cases y <;> rfl
    rw [this] at h1
    split at h1
    · rename_i x1 l1 f1 e1
      split at h1
      · rename_i x2 l2 f2 e2
        cases h1
        obtain ⟨p1, s1, s2, r1, rfl, h2, q1, h3⟩ := iha _ _ _ _ _ e1 (fun id hid => hf id (List.mem_append_left _ hid)) hs
        obtain ⟨p2, s3, s4, r2, rfl, h4, q2, h5⟩ := ihb _ _ _ _ _ e2 (fun id hid => hf id (List.mem_append_right _ hid)) h3
        exact ⟨p1 ++ p2, s1 ++ s3, s4, by rw [r1, r2, List.append_assoc], by rw [List.append_assoc], ⟨_, _, by rw [List.flatten_append], h2, h4⟩, q1.append q2, h5⟩
      · cases h1
    · cases h1
  | arr n e ih =>
    intro ls rest x f s h1 hf hs
    cases ls with
    | nil => simp [decL] at h1
    | cons y l =>
      cases y <;> simp only [decL] at h1 <;> try (cases h1)
      split at h1
      · rename_i _ _ y e1
        cases h1
        obtain ⟨e2, e3, e4⟩ := castV_sound e1
        subst e2 e3
        dsimp only at e4; subst e4
        obtain ⟨c, s', rfl, h2, h3⟩ := hs.cons_left
        exact ⟨[_], [c], s', rfl, rfl, by rw [flat_one]; exact At.mono hI _ _ _ h2, ⟨h2, trivial⟩, h3⟩
      · cases h1
  | sl e ih =>
    intro ls rest x f s h1 hf hs
    cases ls with
    | nil => simp [decL] at h1
    | cons y l =>
      cases y <;> simp only [decL] at h1 <;> try (cases h1)
      · -- ro
        split at h1
        · rename_i _ _ ys e1
          cases h1
          obtain ⟨e2, e4⟩ := castL_sound e1
          subst e2; dsimp only at e4; subst e4
          obtain ⟨c, s', rfl, h2, h3⟩ := hs.cons_left
          exact ⟨[_], [c], s', rfl, rfl, by rw [flat_one]; exact At.mono hI _ _ _ h2, ⟨h2, trivial⟩, h3⟩
        · cases h1
      · -- nil
        obtain ⟨c, s', rfl, h2, h3⟩ := hs.cons_left
        refine ⟨[_], [c], s', rfl, rfl, ?_, ⟨h2, trivial⟩, h3⟩
        rw [show c = _ from h2]
        exact ⟨_, by simp, [], ⟨by simp, .inl ⟨⟨none, rfl⟩, rfl⟩⟩, trivial, fun b hb => by simp [vfoot] at hb⟩
      · -- own
        rename_i id
        split at h1
        · rename_i ty t xs e0
          split at h1
          · rename_i ys e1
            cases h1
            obtain ⟨e2, e4⟩ := castL_sound e1
            subst e2; dsimp only at e4; subst e4
            obtain ⟨c, s', rfl, h2, h3⟩ := hs.cons_left
            have hli : lives h id := by simp [lives, e0, liveO]
            have h22 := h2
            obtain ⟨h4, v, rfl, h5, h55, h6⟩ := h22
            have hv := h6 (H.lv _ hli)
            obtain ⟨zs, h7, h8⟩ := H.ho _ _ e0
            refine ⟨[_], [[v]], s', rfl, rfl, ⟨v, by simp, ?_⟩, ⟨h2, trivial⟩, h3⟩
            rw [hv]
            refine Own.slR (h7.kept fun b hb => hw b (.inr ⟨_, hli, ?_⟩)) (h8.mono (At.mono hI t)) fun b hb => hf id (by simp) b (by rw [h7.foot_eq]; exact hb)
            rcases h7.2 with ⟨⟨a, e⟩, _⟩ | ⟨q, cap, cur, fz, e, _⟩ <;> rw [e] at hb ⊢ <;> exact hb
          · cases h1
        · cases h1
      · -- sub
        rename_i id off n lo hi
        have main : ∀ (ty : TypeId) (q : List L) (ys : List (den e)), subD e q off n lo hi = some ys → (∃ b s, m.g id = .pointer (some ⟨b, 0, none⟩) ∧ m.w.heap[b]? = some (.cells (cells s) ty (0, 0)) ∧ Al2 (Rl m) q s ∧ m'.w.heap[b]? = m.w.heap[b]? ∧ m'.I b) →
            ∃ l1 s1 s2, L.sub id off n lo hi :: l = l1 ++ l ∧ s = s1 ++ s2 ∧ At m'.w m'.I (.sl e) ys s1.flatten ∧ Al2 (Rl m) l1 s1 ∧ Al2 (Rl m) l s2 := by
          rintro ty q ys hd ⟨b, s', hb', hcell, hq, hsame, hib⟩
          obtain ⟨c, s'', rfl, h2, h3⟩ := hs.cons_left
          have h22 := h2
          obtain ⟨_, k0, k1, k2, b2, hgb, rfl⟩ := h22
          rw [hb'] at hgb; cases hgb
          refine ⟨[_], [_], s'', rfl, rfl, ?_, ⟨h2, trivial⟩, h3⟩
          rw [flat_one]
          unfold subD at hd
          split at hd
          · rename_i pre u n' x post hsk
            rw [cond_eq_ite] at hd
            split at hd
            · rename_i hbb
              rw [Bool.and_eq_true] at hbb
              obtain ⟨hb1, hw1⟩ := hbb
              have hb1 := Nat.eq_of_beq_eq_true hb1
              have hw1 := Nat.eq_of_beq_eq_true hw1
              subst hb1
              obtain ⟨e2, e4⟩ := castL_sound hd
              subst e2; dsimp only at e4; subst e4
              obtain ⟨q1, q2⟩ := skipL_sound _ _ _ _ hsk
              subst q1
              obtain ⟨s1, s2, rfl, k1', k2'⟩ := hq.split
              obtain ⟨c, s3, rfl, k3, k4⟩ := k2'.cons_left
              rw [← hsame] at hcell
              have hca := blk_CA hcell
              rw [List.flatten_append, List.flatten_cons] at hca
              have hca := hca.sub
              rw [Nat.zero_add, (Rls.len k1').trans q2] at hca
              obtain ⟨ys, rfl, k5⟩ := k3
              have hz := (k5.flat_len (At.len _)).1
              rw [hw1] at hz
              have hl := k5.length
              refine ⟨_, rfl, sub_ ys lo hi, ?_, (sub_al2 k5 lo hi).mono (At.mono hI _), fun b' hb' => ?_⟩
              · rw [hw1]; exact rd_bsv hca hz (by rw [← hl]; simp) ⟨k0, k1, k2⟩
              · rw [foot_bsv hb']; exact hib
            · cases hd
          · cases hd
        split at h1
        · rename_i ty q e0
          split at h1
          · rename_i ys e1
            cases h1
            have hli : lives h id := by simp [lives, e0, liveO]
            obtain ⟨b, s', h5, h6, h7⟩ := H.ho _ _ e0
            exact main ty q _ e1 ⟨b, s', h5, h6, h7, hw b (.inr ⟨_, hli, by rw [h5]; rfl⟩), hf id (by simp) b (by rw [h5]; rfl)⟩
          · cases h1
        · rename_i ty q e0
          split at h1
          · rename_i ys e1
            cases h1
            obtain ⟨b, s', h5, h6, h7, h8⟩ := H.ho _ _ e0
            exact main ty q _ e1 ⟨b, s', h5, h6, h7, hw b (.inl h8), (hI b h8).1⟩
          · cases h1
        · cases h1
end
end Go.Dor
