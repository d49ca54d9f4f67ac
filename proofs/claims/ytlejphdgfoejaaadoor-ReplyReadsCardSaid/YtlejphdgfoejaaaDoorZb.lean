/- VALUES HELD AGAINST EACH OTHER; what is left of the operations. Plain lemmas over any program. -/
import Derived.Test.YtlejphdgfoejaaaDoorZa
namespace Go.Dor
open Go.RowKit (Below)
section
variable {P : Program} {M S : Nat → Prop} {w0 w w' : World} {h : Hm} {g : Nat → Value} {R : Type} {res : R} {K : V → Hm → Option R} {K1 : V → Option R} {m : Mem}
  {d : Option Tmp} {ty : TypeId} {pos : String} {aft : Array Edge} {gd : Option (Nat × Bool)} {e : Ev} {r : Env}

/-- the value that cells of a type make -/
def VP (P : Program) (t : TypeId) (s : List (List Value)) (v : Value) : Prop :=
  (isScal P t = true ∧ s = [[v]]) ∨ (((∃ fs, P.underlying t = some (.struct fs)) ∨ ∃ n el, P.underlying t = some (.array n el)) ∧ v = ag s)

theorem VP.part {t : TypeId} {off n : Nat} {s mid : List (List Value)} {v : Value} (pre post : List (List Value)) (hv : VP P t mid v) (hw : widT P t = some n) (hn : mid.flatten.length = n) (hs : s = pre ++ (mid ++ post)) (ho : pre.flatten.length = off) (w : World) :
    (part t (cells s) off).run P w = .ok v w := by
  rcases hv with ⟨h1, rfl⟩ | ⟨h1, rfl⟩
  · exact part_scal pre post h1 (by rw [hs, List.append_assoc]) ho w
  · refine part_agg (n := n) pre mid post ?_ (by rw [hs, List.append_assoc]) ho hn w
    unfold aggOf
    rcases h1 with ⟨fs, h1⟩ | ⟨n', el, h1⟩ <;> rw [h1] <;> exact hw

theorem vec_al2 {w : World} {I : Nat → Prop} {t : T} {f : den t → Value} (hf : ∀ (x : den t) (c : List Value), At w I t x c → c = [f x]) : ∀ {l : List (den t)} {ys : List (List Value)}, Al2 (At w I t) l ys → ys.flatten = l.map f
  | [], ys, h => by have := h.nil_left; subst this; rfl
  | x :: l, ys, h => by
    obtain ⟨y, ys, rfl, h1, h2⟩ := h.cons_left
    rw [List.flatten_cons, vec_al2 hf h2, hf _ _ h1]; rfl

theorem castV_self {t u : T} {n k : Nat} {x : Vector (den t) n} {y : Vector (den u) k} {c : List Value} {I : Nat → Prop} (h : castV t u n k x = some y) (ha : At w I (.arr n t) x c) : At w I (.arr k u) y c := by
  obtain ⟨e1, e2, e3⟩ := castV_sound h
  subst e1 e2
  dsimp only at e3; subst e3
  exact ha

theorem arr_seg {t : T} {n : Nat} {x : Vector (den t) n} {s : List (List Value)} (hs : Al2 (Rl m) [.arr t n x] s) : ∃ c, s = [c] ∧ At m.w m.I (.arr n t) x c := by
  obtain ⟨c, s', rfl, h1, h2⟩ := hs.cons_left
  have := h2.nil_left
  subst this
  exact ⟨c, rfl, h1⟩

theorem eqTy_sound : ∀ (k : Nat) (t : TypeId) (x y : List L) (b : Bool) (sx sy : List (List Value)), eqTy P k t x y = some b → Al2 (Rl m) x sx → Al2 (Rl m) y sy →
    ∃ vx vy, VP P t sx vx ∧ VP P t sy vy ∧ ∀ q, Eqs P (q + k + 1) t vx vy b := by
  intro k
  induction k with
  | zero => intro t x y b sx sy h; simp [eqTy] at h
  | succ k ih =>
    intro t x y b sx sy h hx hy
    unfold eqTy at h
    split at h
    · rename_i k0 hT
      split at h
      · rename_i k1 n k2 n'
        rw [cond_eq_ite] at h
        split at h
        · rename_i hsc
          split at h
          · rename_i hkk
            cases h; subst hkk
            obtain ⟨c, s', rfl, h1, h2⟩ := hx.cons_left
            have := h2.nil_left; subst this
            obtain ⟨c', s', rfl, h3, h4⟩ := hy.cons_left
            have := h4.nil_left; subst this
            have h1 : c = _ := h1
            have h3 : c' = _ := h3
            subst h1 h3
            exact ⟨_, _, .inl ⟨hsc, rfl⟩, .inl ⟨hsc, rfl⟩, fun q => eqs_int hT⟩
          · cases h
        · cases h
      · cases h
    · rename_i hT
      split at h
      · rename_i a c
        rw [cond_eq_ite] at h
        split at h
        · rename_i hsc
          cases h
          obtain ⟨c, s', rfl, h1, h2⟩ := hx.cons_left
          have := h2.nil_left; subst this
          obtain ⟨c', s', rfl, h3, h4⟩ := hy.cons_left
          have := h4.nil_left; subst this
          have h1 : c = _ := h1
          have h3 : c' = _ := h3
          subst h1 h3
          exact ⟨_, _, .inl ⟨hsc, rfl⟩, .inl ⟨hsc, rfl⟩, fun q => eqs_bool hT⟩
        · cases h
      · cases h
    · rename_i hT
      split at h
      · rename_i a c
        rw [cond_eq_ite] at h
        split at h
        · rename_i hsc
          cases h
          obtain ⟨c, s', rfl, h1, h2⟩ := hx.cons_left
          have := h2.nil_left; subst this
          obtain ⟨c', s', rfl, h3, h4⟩ := hy.cons_left
          have := h4.nil_left; subst this
          have h1 : c = _ := h1
          have h3 : c' = _ := h3
          subst h1 h3
          exact ⟨_, _, .inl ⟨hsc, rfl⟩, .inl ⟨hsc, rfl⟩, fun q => eqs_str hT⟩
        · cases h
      · cases h
    · rename_i n el hT
      split at h
      · rename_i u n1 v u' n2 v'
        split at h
        · rename_i v'' hc
          obtain ⟨c1, rfl, h1⟩ := arr_seg hx
          obtain ⟨c2, rfl, h2⟩ := arr_seg hy
          have h2 := castV_self hc h2
          obtain ⟨ys1, rfl, h3⟩ := h1
          obtain ⟨ys2, rfl, h4⟩ := h2
          split at h
          · rw [cond_eq_ite] at h
            split at h
            · rename_i hb
              rw [Bool.and_eq_true] at hb
              have hn := Nat.eq_of_beq_eq_true hb.2
              subst hn
              cases h
              rw [vec_al2 (f := fun z => Value.int _ z) (by intro _ _ h; exact h) h3, vec_al2 (f := fun z => Value.int _ z) (by intro _ _ h; exact h) h4]
              exact ⟨_, _, .inr ⟨.inr ⟨_, _, hT⟩, rfl⟩, .inr ⟨.inr ⟨_, _, hT⟩, rfl⟩, fun q => eqs_arr hT hb.1 fun a b => by have h8 : decide (a = b) = (a == b) := by { rw [Bool.eq_iff_iff]; simp }; rw [h8]; exact eqs_int (by assumption)⟩
            · cases h
          · rw [cond_eq_ite] at h
            split at h
            · rename_i hb
              rw [Bool.and_eq_true] at hb
              have hn := Nat.eq_of_beq_eq_true hb.2
              subst hn
              cases h
              rw [vec_al2 (f := fun z => Value.bool z) (by intro _ _ h; exact h) h3, vec_al2 (f := fun z => Value.bool z) (by intro _ _ h; exact h) h4]
              exact ⟨_, _, .inr ⟨.inr ⟨_, _, hT⟩, rfl⟩, .inr ⟨.inr ⟨_, _, hT⟩, rfl⟩, fun q => eqs_arr hT hb.1 fun a b => by have h8 : decide (a = b) = (a == b) := by { rw [Bool.eq_iff_iff]; simp }; rw [h8]; exact eqs_bool (by assumption)⟩
            · cases h
          · rw [cond_eq_ite] at h
            split at h
            · rename_i hb
              rw [Bool.and_eq_true] at hb
              have hn := Nat.eq_of_beq_eq_true hb.2
              subst hn
              cases h
              rw [vec_al2 (f := fun z => sv z) (by intro _ _ h; exact h) h3, vec_al2 (f := fun z => sv z) (by intro _ _ h; exact h) h4]
              exact ⟨_, _, .inr ⟨.inr ⟨_, _, hT⟩, rfl⟩, .inr ⟨.inr ⟨_, _, hT⟩, rfl⟩, fun q => eqs_arr hT hb.1 fun a b => by have h8 : decide (a = b) = (a == b) := by { rw [Bool.eq_iff_iff]; simp }; rw [h8]; exact eqs_str (by assumption)⟩
            · cases h
          · cases h
        · cases h
      · cases h
    · rename_i fs hT
      rw [cond_eq_ite] at h
      split at h
      · rename_i hb
        rw [Bool.and_eq_true] at hb
        obtain ⟨hb1, hb2⟩ := hb
        have hb1 : P.stoodInHeld t = false := by simpa using hb1
        refine ⟨ag sx, ag sy, .inr ⟨.inl ⟨fs, hT⟩, rfl⟩, .inr ⟨.inl ⟨fs, hT⟩, rfl⟩, fun q => ?_⟩
        refine eqs_struct hT hb1 hb2 ?_
        clear hb2
        generalize fs.toList = l at h
        induction l generalizing b with
        | nil => cases h; exact .nil
        | cons f l ihl =>
          simp only [List.foldr_cons] at h
          split at h
          · rename_i n b' hw hacc
            split at h
            · rename_i p1 a p2 q1 c q2 hc1 hc2
              split at h
              · rename_i b1 hE
                cases h
                obtain ⟨s1, s2, s3, e1, k1, k2, k3, l1, l2, _⟩ := cut_segs hc1 hx
                obtain ⟨r1, r2, r3, e2, j1, j2, j3, m1, m2, _⟩ := cut_segs hc2 hy
                obtain ⟨vx, vy, hvx, hvy, hE⟩ := ih _ _ _ _ _ _ hE k2 j2
                exact .cons (hvx.part s1 s3 hw l2 e1 l1) (hvy.part r1 r3 hw m2 e2 m1) (hE q) (ihl _ hacc)
              · cases h
            · cases h
          · cases h
      · cases h
    · cases h

theorem eqAgg_sound {t u : TypeId} {op : BinOp} {x y : Operand} {l l' : List L} (H : Rel M S w0 h g w) (hx : Rv (memOf M S w0 h g w) (.ag l) (ev r x)) (hy : Rv (memOf M S w0 h g w) (.ag l') (ev r y))
    (hk : (bif P.eqGuardType P.depth t || isScal P t then none else match eqTy P depth t l l', op with | some b, .eql => K (.one (.b b)) h | some b, .neq => K (.one (.b (!b))) h | _, _ => none) = some res) :
    Step P ⟨d, .binOp op t x y u, ty, pos, aft, gd⟩ r w (After M S w0 h g w K res) := by
  rw [cond_eq_ite] at hk
  split at hk
  · cases hk
  · rename_i hb
    rw [Bool.or_eq_true, not_or] at hb
    obtain ⟨hb1, hb2⟩ := hb
    have hb1 : P.eqGuardType P.depth t = false := by simpa using hb1
    obtain ⟨s, ex, hs⟩ := hx
    obtain ⟨s', ey, hs'⟩ := hy
    split at hk
    · rename_i b _ hE
      obtain ⟨vx, vy, h1, h2, h3⟩ := eqTy_sound _ _ _ _ _ _ _ hE hs hs'
      have h3 := h3 (9999 - depth)
      rcases h1 with ⟨h1, _⟩ | ⟨_, rfl⟩
      · exact absurd h1 hb2
      rcases h2 with ⟨h2, _⟩ | ⟨_, rfl⟩
      · exact absurd h2 hb2
      exact .value (w' := w) (ex_eqA hb1 ex ey h3) ⟨_, h, g, H, .refl _, mk_bool, hk⟩
    · rename_i b _ hE
      obtain ⟨vx, vy, h1, h2, h3⟩ := eqTy_sound _ _ _ _ _ _ _ hE hs hs'
      have h3 := h3 (9999 - depth)
      rcases h1 with ⟨h1, _⟩ | ⟨_, rfl⟩
      · exact absurd h1 hb2
      rcases h2 with ⟨h2, _⟩ | ⟨_, rfl⟩
      · exact absurd h2 hb2
      exact .value (w' := w) (ex_neA hb1 ex ey h3) ⟨_, h, g, H, .refl _, mk_bool, hk⟩
    · cases hk
end
end Go.Dor
