/- OBJECTS: new ones, written ones, ones that are read for good. Plain lemmas over any program. -/
import Derived.Test.YtlejphdgfoejaaaDoorM
namespace Go.Dor
open Go.RowKit (Below)

def gx (g : Nat → Value) (n : Nat) (v : Value) : Nat → Value := fun i => if i = n then v else g i
theorem gx_same (g : Nat → Value) (n : Nat) (v : Value) : gx g n v n = v := by simp [gx]
theorem gx_lt (g : Nat → Value) {n i : Nat} (v : Value) (h : i < n) : gx g n v i = g i := by simp [gx, Nat.ne_of_lt h]

section
variable {h : Hm} {o : Ob} {id : Nat}
theorem lives_app_lt (hl : id < h.length) : lives (h ++ [o]) id ↔ lives h id := by
  unfold lives; rw [List.getElem?_append_left hl]
theorem lives_app (k : lives (h ++ [o]) id) : lives h id ∨ (id = h.length ∧ liveO (some o) = true) := by
  have hlt := lives_lt k
  simp only [List.length_append, List.length_cons, List.length_nil] at hlt
  by_cases e : id < h.length
  · exact .inl ((lives_app_lt e).1 k)
  · have e : id = h.length := by omega
    subst e
    refine .inr ⟨rfl, ?_⟩
    unfold lives at k
    rw [List.getElem?_append_right (Nat.le_refl _)] at k
    simpa using k
theorem lives_set {id' : Nat} (k : lives (h.set id o) id') : (id' ≠ id ∧ lives h id') ∨ (id' = id ∧ liveO (some o) = true) := by
  unfold lives at k ⊢
  rw [List.getElem?_set] at k
  by_cases e : id = id'
  · subst e
    rw [if_pos rfl] at k
    split at k
    · exact .inr ⟨rfl, k⟩
    · cases k
  · rw [if_neg e] at k
    exact .inl ⟨Ne.symm e, k⟩
theorem lives_set_ne {id' : Nat} (e : id' ≠ id) (k : lives h id') : lives (h.set id o) id' := by
  unfold lives at k ⊢
  rw [List.getElem?_set, if_neg (Ne.symm e)]; exact k
end

section
variable {M S : Nat → Prop} {w0 w w' : World} {h : Hm} {g : Nat → Value}

theorem Rel.objs (H : Rel M S w0 h g w) : Objs (memOf M S w0 h g w) h := ⟨H.obj, fun _ k => k⟩

/-- the same objects, memory grown -/
theorem Rel.below (H : Rel M S w0 h g w) (hb : Below w.heap.size w w') : Rel M S w0 h g w' ∧ (memOf M S w0 h g w).Le (memOf M S w0 h g w') :=
  H.step (fun _ => False) (Nat.le_refl _) (fun _ _ => rfl) (fun _ _ k => k) hb.os hb.tape hb.output hb.size (fun b h1 _ => hb.block b h1) (fun _ _ _ hid => .inl ⟨hid, fun h => h⟩)
    (fun id hid _ hfb => .inr ⟨id, hid, hfb⟩) H.inj

/-- one object more -/
theorem Rel.add (H : Rel M S w0 h g w) (hb : Below w.heap.size w w') (o : Ob) (v : Value) (hf : ∀ b, foot v = some b → w.heap.size ≤ b)
    (ho : (memOf M S w0 h g w).Le (memOf M S w0 (h ++ [o]) (gx g h.length v) w') → Ho (memOf M S w0 (h ++ [o]) (gx g h.length v) w') v o) :
    Rel M S w0 (h ++ [o]) (gx g h.length v) w' ∧ (memOf M S w0 h g w).Le (memOf M S w0 (h ++ [o]) (gx g h.length v) w') := by
  refine H.step (fun _ => False) (by simp) (fun id hid => gx_lt g v hid) (fun id hid k => (lives_app_lt hid).1 k) hb.os hb.tape hb.output hb.size (fun b h1 _ => hb.block b h1) (fun le id o' hid => ?_) (fun id hid b hfb => ?_) fun i j hi hj hne b hbi hbj => ?_
  · by_cases e : id < h.length
    · rw [List.getElem?_append_left e] at hid; exact .inl ⟨hid, fun h => h⟩
    · have hlt := (List.getElem?_eq_some_iff.1 hid).1
      simp only [List.length_append, List.length_cons, List.length_nil] at hlt
      have e : id = h.length := by omega
      subst e
      rw [List.getElem?_append_right (Nat.le_refl _)] at hid
      simp at hid; subst hid
      rw [gx_same]; exact .inr (ho le)
  · rcases lives_app hid with h1 | ⟨h1, _⟩
    · rw [gx_lt g v (lives_lt h1)] at hfb; exact .inr ⟨id, h1, hfb⟩
    · subst h1; rw [gx_same] at hfb; exact .inl (hf b hfb)
  · rcases lives_app hi with h1 | ⟨h1, _⟩ <;> rcases lives_app hj with h2 | ⟨h2, _⟩
    · rw [gx_lt g v (lives_lt h1)] at hbi; rw [gx_lt g v (lives_lt h2)] at hbj
      exact H.inj i j h1 h2 hne b hbi hbj
    · subst h2; rw [gx_lt g v (lives_lt h1)] at hbi; rw [gx_same] at hbj
      have := H.foot_lt h1 hbi; have := hf b hbj; omega
    · subst h1; rw [gx_lt g v (lives_lt h2)] at hbj; rw [gx_same] at hbi
      have := H.foot_lt h2 hbj; have := hf b hbi; omega
    · subst h1; subst h2; exact hne rfl

theorem Rel.addNil (H : Rel M S w0 h g w) (ty : TypeId) (t : T) : Rel M S w0 (h ++ [.arr ty t []]) (gx g h.length (.slice none 0 0)) w ∧ (memOf M S w0 h g w).Le (memOf M S w0 (h ++ [.arr ty t []]) (gx g h.length (.slice none 0 0)) w) :=
  H.add (Below.refl _ w) _ _ (fun b hb => by simp [foot, vfoot] at hb) fun _ => ⟨[], ⟨by simp, .inl ⟨⟨none, rfl⟩, rfl⟩⟩, trivial⟩

theorem Rel.alloc (H : Rel M S w0 h g w) (ty : TypeId) (ls : List L) (s : List (List Value)) (hs : Al2 (Rl (memOf M S w0 h g w)) ls s) :
    Rel M S w0 (h ++ [.blk ty ls]) (gx g h.length (.pointer (some ⟨w.heap.size, 0, none⟩))) (w.alloc (.cells (cells s) ty)) ∧
    (memOf M S w0 h g w).Le (memOf M S w0 (h ++ [.blk ty ls]) (gx g h.length (.pointer (some ⟨w.heap.size, 0, none⟩))) (w.alloc (.cells (cells s) ty))) :=
  H.add (below_alloc w _) _ _ (fun b hb => by simp [foot] at hb; omega) fun le => ⟨_, s, rfl, heap_alloc_new w _, Rls.mono le hs⟩

/-- an object is written; w' is w but for its block and new ones -/
theorem Rel.set (H : Rel M S w0 h g w) {id : Nat} (hid : lives h id) (o : Ob) (hg : w.grownBy w' (foot (g id)))
    (ho : (memOf M S w0 h g w).Le (memOf M S w0 (h.set id o) g w') → Ho (memOf M S w0 (h.set id o) g w') (g id) o) :
    Rel M S w0 (h.set id o) g w' ∧ (memOf M S w0 h g w).Le (memOf M S w0 (h.set id o) g w') := by
  have lv : ∀ j, lives (h.set id o) j → lives h j := fun j hj => by
    rcases lives_set hj with ⟨_, h1⟩ | ⟨h1, _⟩
    · exact h1
    · subst h1; exact hid
  refine H.step (· = id) (by simp) (fun _ _ => rfl) (fun j _ => lv j) hg.os hg.tape hg.output hg.size (fun b h1 h2 => hg.block b h1 fun e => h2 id hid rfl e.symm) (fun le j o' hj => ?_) (fun j hj b hfb => .inr ⟨j, lv j hj, hfb⟩) fun i j hi hj => H.inj i j (lv i hi) (lv j hj)
  rw [List.getElem?_set] at hj
  by_cases e : id = j
  · subst e
    rw [if_pos rfl, if_pos (lives_lt hid)] at hj
    cases hj
    exact .inr (ho le)
  · rw [if_neg e] at hj
    exact .inl ⟨hj, Ne.symm e⟩

/-- an object is given up -/
theorem Rel.drop (H : Rel M S w0 h g w) (id : Nat) : Rel M S w0 (h.set id .gone) g w ∧ (memOf M S w0 h g w).Le (memOf M S w0 (h.set id .gone) g w) := by
  have lv : ∀ j, lives (h.set id .gone) j → lives h j := fun j hj => by
    rcases lives_set hj with ⟨_, h1⟩ | ⟨_, h1⟩
    · exact h1
    · cases h1
  refine H.step (fun _ => False) (by simp) (fun _ _ => rfl) (fun j _ => lv j) rfl rfl rfl (Nat.le_refl _) (fun _ _ _ => rfl) (fun le j o' hj => ?_) (fun j hj b hfb => .inr ⟨j, lv j hj, hfb⟩) fun i j hi hj => H.inj i j (lv i hi) (lv j hj)
  rw [List.getElem?_set] at hj
  by_cases e : id = j
  · subst e
    rw [if_pos rfl] at hj
    split at hj
    · cases hj; exact .inr trivial
    · cases hj
  · rw [if_neg e] at hj
    exact .inl ⟨hj, fun h => h⟩
theorem Rel.drops (H : Rel M S w0 h g w) (f : List Nat) : Rel M S w0 (freeze h f) g w ∧ (memOf M S w0 h g w).Le (memOf M S w0 (freeze h f) g w) := by
  induction f generalizing h with
  | nil => exact ⟨H, .refl _⟩
  | cons i f ih =>
    obtain ⟨h1, h2⟩ := H.drop i
    obtain ⟨h3, h4⟩ := ih h1
    exact ⟨h3, h2.trans h4⟩
theorem freeze_gone : ∀ (f : List Nat) (h : Hm) (id : Nat), id ∈ f → ¬ lives (freeze h f) id
  | i :: f, h, id, hid => by
    have key : ∀ (f : List Nat) (h : Hm) (id : Nat), ¬ lives h id → ¬ lives (freeze h f) id := by
      intro f
      induction f with
      | nil => intro h id k; exact k
      | cons i f ih =>
        intro h id k
        refine ih _ _ fun k' => ?_
        rcases lives_set k' with ⟨_, h1⟩ | ⟨_, h1⟩
        · exact k h1
        · cases h1
    by_cases e : id = i
    · subst e
      refine key f _ _ fun k' => ?_
      rcases lives_set k' with ⟨h1, _⟩ | ⟨_, h1⟩
      · exact h1 rfl
      · cases h1
    · exact freeze_gone f _ _ ((List.mem_cons.1 hid).resolve_left e)

/-- the slices that are read for good lie in what no one writes any more -/
theorem Rel.drops_imm (H : Rel M S w0 h g w) {f : List Nat} (hf : ∀ id ∈ f, lives h id) : ∀ id ∈ f, ∀ b, foot (g id) = some b → (memOf M S w0 (freeze h f) g w).I b := by
  intro id hid b hb
  have hl := hf id hid
  refine ⟨H.foot_lt hl hb, ?_, fun j hj hbj => ?_⟩
  · rcases H.mine id hl b hb with h1 | h1
    · exact .inl h1
    · exact .inr (.inr h1)
  · have le := (H.drops f).2
    have hjn : j < h.length := by
      have := lives_lt hj
      have e : (freeze h f).length = h.length := by
        have key : ∀ (f : List Nat) (h : Hm), (freeze h f).length = h.length := by
          intro f; induction f with
          | nil => intro h; rfl
          | cons i f ih => intro h; rw [freeze, ih]; simp
        exact key f h
      omega
    have hjl : lives h j := le.live j hjn hj
    by_cases e : id = j
    · subst e; exact freeze_gone f h id hid hj
    · exact H.inj id j hl hjl e b hb hbj

/-- an object goes over into another one -/
theorem Rel.turn (H : Rel M S w0 h g w) {id : Nat} (hid : lives h id) (o : Ob) (v : Value) (hg : w.grownBy w' (foot (g id))) (hf : ∀ b, foot v = some b → foot (g id) = some b ∨ w.heap.size ≤ b)
    (ho : (memOf M S w0 h g w).Le (memOf M S w0 (h.set id .gone ++ [o]) (gx g h.length v) w') → Ho (memOf M S w0 (h.set id .gone ++ [o]) (gx g h.length v) w') v o) :
    Rel M S w0 (h.set id .gone ++ [o]) (gx g h.length v) w' ∧ (memOf M S w0 h g w).Le (memOf M S w0 (h.set id .gone ++ [o]) (gx g h.length v) w') := by
  have hlen : (h.set id .gone).length = h.length := by simp
  have lv : ∀ j, lives (h.set id .gone) j → j ≠ id ∧ lives h j := fun j hj => by
    rcases lives_set hj with h1 | ⟨_, h1⟩
    · exact h1
    · cases h1
  have la : ∀ j, lives (h.set id .gone ++ [o]) j → (j ≠ id ∧ lives h j) ∨ j = h.length := fun j hj => by
    rcases lives_app hj with h1 | ⟨h1, _⟩
    · exact .inl (lv j h1)
    · exact .inr (by rw [h1, hlen])
  refine H.step (· = id) (by simp) (fun j hj => gx_lt g v hj) (fun j hj k => ?_) hg.os hg.tape hg.output hg.size (fun b h1 h2 => hg.block b h1 fun e => h2 id hid rfl e.symm) (fun le j o' hj => ?_) (fun j hj b hfb => ?_) fun i j hi hj hne b hbi hbj => ?_
  · rcases la j k with h1 | h1
    · exact h1.2
    · omega
  · by_cases e : j < h.length
    · rw [List.getElem?_append_left (by rw [hlen]; exact e), List.getElem?_set] at hj
      by_cases e2 : id = j
      · subst e2; rw [if_pos rfl, if_pos e] at hj; cases hj; exact .inr trivial
      · rw [if_neg e2] at hj; exact .inl ⟨hj, Ne.symm e2⟩
    · have hlt := (List.getElem?_eq_some_iff.1 hj).1
      simp only [List.length_append, List.length_cons, List.length_nil, hlen] at hlt
      have e : j = h.length := by omega
      subst e
      rw [List.getElem?_append_right (by rw [hlen]; exact Nat.le_refl _), hlen] at hj
      simp at hj; subst hj
      rw [gx_same]; exact .inr (ho le)
  · rcases la j hj with h1 | h1
    · rw [gx_lt g v (lives_lt h1.2)] at hfb; exact .inr ⟨j, h1.2, hfb⟩
    · subst h1; rw [gx_same] at hfb
      rcases hf b hfb with h2 | h2
      · exact .inr ⟨id, hid, h2⟩
      · exact .inl h2
  · rcases la i hi with h1 | h1 <;> rcases la j hj with h2 | h2
    · rw [gx_lt g v (lives_lt h1.2)] at hbi; rw [gx_lt g v (lives_lt h2.2)] at hbj
      exact H.inj i j h1.2 h2.2 hne b hbi hbj
    · subst h2; rw [gx_lt g v (lives_lt h1.2)] at hbi; rw [gx_same] at hbj
      rcases hf b hbj with h3 | h3
      · exact H.inj id i hid h1.2 (Ne.symm h1.1) b h3 hbi
      · have := H.foot_lt h1.2 hbi; omega
    · subst h1; rw [gx_lt g v (lives_lt h2.2)] at hbj; rw [gx_same] at hbi
      rcases hf b hbi with h3 | h3
      · exact H.inj id j hid h2.2 (Ne.symm h2.1) b h3 hbj
      · have := H.foot_lt h2.2 hbj; omega
    · subst h1; subst h2; exact hne rfl
end
end Go.Dor
