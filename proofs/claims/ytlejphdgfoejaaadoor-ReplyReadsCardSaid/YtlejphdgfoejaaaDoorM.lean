/- LEAVES: widths, cells, data made of leaves and leaves of data. Plain lemmas over any program. -/
import Derived.Test.YtlejphdgfoejaaaDoorK
namespace Go.Dor
open Go.RowKit (Below)

theorem Al2.flat_len {α : Type} {R : α → List Value → Prop} {z : Nat} (hz : ∀ x c, R x c → c.length = z) : ∀ {xs : List α} {ys : List (List Value)}, Al2 R xs ys → (∀ y ∈ ys, y.length = z) ∧ ys.flatten.length = xs.length * z
  | [], [], _ => by simp
  | x :: xs, y :: ys, ⟨a, b⟩ => by
    obtain ⟨h1, h2⟩ := Al2.flat_len hz b
    have := hz _ _ a
    refine ⟨fun u hu => ?_, ?_⟩
    · rcases List.mem_cons.1 hu with rfl | hu
      · exact this
      · exact h1 u hu
    · simp only [List.flatten_cons, List.length_append, List.length_cons, h2, this, Nat.add_mul]; omega
theorem Al2.all {α : Type} {R : α → List Value → Prop} {p : Value → Prop} (hz : ∀ x c, R x c → ∀ v ∈ c, p v) : ∀ {xs : List α} {ys : List (List Value)}, Al2 R xs ys → ∀ v ∈ ys.flatten, p v
  | [], [], _, v, hv => by simp at hv
  | x :: xs, y :: ys, ⟨a, b⟩, v, hv => by
    simp only [List.flatten_cons, List.mem_append] at hv
    rcases hv with hv | hv
    · exact hz _ _ a v hv
    · exact Al2.all hz b v hv

theorem flat_one (c : List Value) : [c].flatten = c := by simp

section
variable {w : World} {I : Nat → Prop}
theorem At.len : ∀ (t : T) (x : den t) (c : List Value), At w I t x c → c.length = wid t
  | .int _, _, _, h => by rw [show _ = _ from h]; rfl
  | .bool, _, _, h => by rw [show _ = _ from h]; rfl
  | .str, _, _, h => by rw [show _ = _ from h]; rfl
  | .flt _, _, _, h => by rw [show _ = _ from h]; rfl
  | .unit, _, _, h => by rw [show _ = _ from h]; rfl
  | .pair a b, _, _, ⟨c1, c2, h, h1, h2⟩ => by rw [h, List.length_append, At.len a _ _ h1, At.len b _ _ h2]; rfl
  | .arr n e, x, _, ⟨ys, h, h1⟩ => by
    have := (h1.flat_len (At.len e)).2
    rw [h, this]; simp [wid]
  | .sl e, _, _, ⟨v, h, h1⟩ => by rw [h]; rfl
theorem At.one : ∀ (t : T) (x : den t) (c : List Value), At w I t x c → ∀ v ∈ c, v.oneCell' = true
  | .int _, _, _, h, v, hv => by rw [show _ = _ from h] at hv; simp at hv; subst hv; rfl
  | .bool, _, _, h, v, hv => by rw [show _ = _ from h] at hv; simp at hv; subst hv; rfl
  | .str, _, _, h, v, hv => by rw [show _ = _ from h] at hv; simp at hv; subst hv; rfl
  | .flt _, _, _, h, v, hv => by rw [show _ = _ from h] at hv; simp at hv; subst hv; rfl
  | .unit, _, _, h, v, hv => by rw [show _ = _ from h] at hv; simp at hv
  | .pair a b, _, _, ⟨c1, c2, h, h1, h2⟩, v, hv => by
    rw [h] at hv
    rcases List.mem_append.1 hv with hv | hv
    · exact At.one a _ _ h1 v hv
    · exact At.one b _ _ h2 v hv
  | .arr n e, x, _, ⟨ys, h, h1⟩, v, hv => by rw [h] at hv; exact h1.all (At.one e) v hv
  | .sl e, _, _, ⟨u, h, ys, h1, _⟩, v, hv => by rw [h] at hv; simp at hv; subst hv; exact h1.one
end

section
variable {m : Mem}
theorem Rl.len : ∀ (x : L) (c : List Value), Rl m x c → c.length = widL x := by
  intro x c h
  cases x with
  | i | b | s | f | nil | np | nf => rw [show _ = _ from h]; rfl
  | arr t n x => exact At.len _ _ _ h
  | ro t xs => exact At.len (.sl t) _ _ h
  | own id => obtain ⟨_, v, h, _⟩ := h; rw [h]; rfl
  | ptr id off => obtain ⟨_, b, _, h⟩ := h; rw [h]; rfl
  | fn f ids => rw [h.2]; rfl
  | sub id off n lo hi => obtain ⟨_, _, _, _, b, _, h⟩ := h; rw [h]; rfl
theorem Rl.one : ∀ (x : L) (c : List Value), Rl m x c → ∀ v ∈ c, v.oneCell' = true := by
  intro x c h v hv
  cases x with
  | i | b | s | f | nil | np | nf => rw [show _ = _ from h] at hv; simp at hv; subst hv; rfl
  | arr t n x => exact At.one _ _ _ h v hv
  | ro t xs => exact At.one (.sl t) _ _ h v hv
  | own id => obtain ⟨_, u, h, h2, _⟩ := h; rw [h] at hv; simp at hv; subst hv; exact h2
  | ptr id off => obtain ⟨_, b, _, h⟩ := h; rw [h] at hv; simp at hv; subst hv; rfl
  | fn f ids => rw [h.2] at hv; simp at hv; subst hv; rfl
  | sub id off n lo hi => obtain ⟨_, _, _, _, b, _, h⟩ := h; rw [h] at hv; simp at hv; subst hv; rfl
theorem Rls.len : ∀ {ls : List L} {s : List (List Value)}, Al2 (Rl m) ls s → s.flatten.length = widLs ls
  | [], [], _ => rfl
  | x :: ls, c :: s, ⟨a, b⟩ => by simp [widLs, Rl.len x c a, Rls.len b]
theorem Rls.one {ls : List L} {s : List (List Value)} (h : Al2 (Rl m) ls s) : One s := h.all Rl.one

theorem skipL_sound : ∀ (ls : List L) (n : Nat) (a b : List L), skipL ls n = some (a, b) → ls = a ++ b ∧ widLs a = n
  | [], n, a, b, h => by
    simp only [skipL, cond_eq_ite] at h
    split at h
    · rename_i h0; cases h; exact ⟨rfl, (Nat.eq_of_beq_eq_true h0).symm⟩
    · cases h
  | x :: l, n, a, b, h => by
    simp only [skipL, cond_eq_ite, Nat.ble_eq] at h
    split at h
    · rename_i h0; cases h; exact ⟨rfl, (Nat.eq_of_beq_eq_true h0).symm⟩
    · split at h
      · split at h
        · rename_i h1 _ a' b' h2
          cases h
          obtain ⟨h3, h4⟩ := skipL_sound l _ _ _ h2
          exact ⟨by rw [h3]; rfl, by simp only [widLs, h4]; omega⟩
        · cases h
      · cases h
theorem cutL_sound {ls pre mid post : List L} {off n : Nat} (h : cutL ls off n = some (pre, mid, post)) : ls = pre ++ (mid ++ post) ∧ widLs pre = off ∧ widLs mid = n := by
  unfold cutL at h
  split at h
  · rename_i p l h1
    split at h
    · rename_i a b h2
      cases h
      obtain ⟨h3, h4⟩ := skipL_sound _ _ _ _ h1
      obtain ⟨h5, h6⟩ := skipL_sound _ _ _ _ h2
      exact ⟨by rw [h3, h5], h4, h6⟩
    · cases h
  · cases h

/-- leaves of data -/
theorem At.enc : ∀ (t : T) (x : den t) (c : List Value), At m.w m.I t x c → ∃ s, c = s.flatten ∧ Al2 (Rl m) (enc t x) s
  | .int _, _, c, h => ⟨[c], by simp, h, trivial⟩
  | .bool, _, c, h => ⟨[c], by simp, h, trivial⟩
  | .str, _, c, h => ⟨[c], by simp, h, trivial⟩
  | .flt _, _, c, h => ⟨[c], by simp, h, trivial⟩
  | .unit, _, c, h => ⟨[], by rw [show _ = _ from h]; rfl, trivial⟩
  | .pair a b, _, _, ⟨c1, c2, h, h1, h2⟩ => by
    obtain ⟨s1, e1, k1⟩ := At.enc a _ _ h1
    obtain ⟨s2, e2, k2⟩ := At.enc b _ _ h2
    exact ⟨s1 ++ s2, by rw [h, e1, e2, List.flatten_append], k1.append k2⟩
  | .arr n e, _, c, h => ⟨[c], by simp, h, trivial⟩
  | .sl e, _, c, h => ⟨[c], by simp, h, trivial⟩

theorem castL_sound {t u : T} {xs : List (den t)} {ys : List (den u)} (h : castL t u xs = some ys) : ∃ e : t = u, ys = e ▸ xs := by
  unfold castL at h
  split at h
  · rename_i e; exact ⟨e, (Option.some.inj h).symm⟩
  · cases h
theorem castV_sound {t u : T} {n k : Nat} {x : Vector (den t) n} {y : Vector (den u) k} (h : castV t u n k x = some y) : ∃ (e : t = u) (e' : n = k), y = e ▸ e' ▸ x := by
  unfold castV at h
  split at h
  · rename_i e; exact ⟨e.1, e.2, (Option.some.inj h).symm⟩
  · cases h

/-- what is known of all objects -/
structure Objs (m : Mem) (h : Hm) : Prop where
  ho : ∀ id o, h[id]? = some o → Ho m (m.g id) o
  lv : ∀ id, lives h id → m.live id

theorem Own.slR {t : TypeId} {z : Nat} {v : Value} {ys : List (List Value)} {m' : Mem} {α : Type} {R : α → List Value → Prop} {xs : List α} (hO : Own m'.w v t z ys) (h : Al2 R xs ys) (hI : ∀ b, vfoot v = some b → m'.I b) : SlR m'.w m'.I z R xs v :=
  ⟨ys, hO.rd, h, hI⟩

end
end Go.Dor
