/- THE WALK'S GROUND: frames as functions, code by continuations, regions in whatever order. Plain lemmas over any program; no statement of the seat. -/
import Derived.WalkKit
namespace Go.Dor

abbrev Env := Nat → Value

def put (r : Env) (d : Nat) (v : Value) : Env := fun t => bif Nat.beq t d then v else r t

def putO (r : Env) : Option Nat → Value → Env
  | some d, v => put r d v
  | none, _ => r

def ev (r : Env) : Operand → Value
  | .tmp t => r t
  | .const v => v
  | .global g => .pointer (some ⟨g, 0, none⟩)
  | .func f => .func (.func f) #[] #[]

theorem put_same (r : Env) (d : Nat) (v : Value) : put r d v d = v := by simp [put]
theorem put_other (r : Env) {d t : Nat} (v : Value) (h : t ≠ d) : put r d v t = r t := by
  have : Nat.beq t d = false := Bool.eq_false_iff.2 fun e => h (Nat.eq_of_beq_eq_true e)
  simp [put, this]
theorem put_self {r : Env} {d : Nat} {v : Value} (h : r d = v) : put r d v = r := by
  funext t
  by_cases ht : t = d
  · subst ht; rw [put_same, h]
  · rw [put_other _ _ ht]

structure Fits (n : Nat) (r : Env) (a : Act) : Prop where
  size : a.tmps.size = n
  env : ∀ t, a.tmps.getD t undef = r t
  nodef : a.defers = []

theorem Fits.eval {n : Nat} {r : Env} {a : Act} (h : Fits n r a) : a.eval = ev r := by
  funext x
  cases x with
  | tmp t => exact h.env t
  | _ => rfl

theorem Fits.put {n : Nat} {r : Env} {a : Act} (h : Fits n r a) {d : Nat} (hd : d < n) (v : Value) : Fits n (Dor.put r d v) (a.put (some d) v) := by
  refine ⟨by simp [Act.put, h.size], fun t => ?_, h.nodef⟩
  have hs := h.size
  by_cases ht : t = d
  · subst ht
    rw [put_same]
    simp [Act.put, Array.getD, hs, hd]
  · rw [put_other _ _ ht, ← h.env t]
    simp [Act.put, Array.getElem?_setIfInBounds_ne (Ne.symm ht)]

theorem Fits.putO {n : Nat} {r : Env} {a : Act} (h : Fits n r a) {d : Option Nat} (hd : ∀ x, d = some x → x < n) (v : Value) : Fits n (Dor.putO r d v) (a.put d v) := by
  cases d with
  | none => exact h
  | some d => exact h.put (hd d rfl) v

/-- what comes behind: nothing special, an exit, a return -/
structure Post where
  normal : Env → World → Prop
  exit : Nat → Env → World → Prop
  ret : Env → World → Prop

def Post.lift (n : Nat) (Q : Post) : Exit → Act → World → Prop
  | .normal, a, w => ∃ r, Fits n r a ∧ Q.normal r w
  | .exit i, a, w => ∃ r, Fits n r a ∧ Q.exit i r w
  | .ret, a, w => ∃ r, Fits n r a ∧ Q.ret r w
  | _, _, _ => False

structure Wc (P : Program) (n : Nat) (c : Code) (Q : Post) (r : Env) (w : World) : Prop where
  out : ∀ a, Fits n r a → c.wp P (Q.lift n) a w

section
variable {P : Program} {n : Nat} {Q : Post} {r : Env} {w : World}

theorem Wc.mono {c : Code} {Q' : Post} (h : Wc P n c Q r w) (h1 : ∀ r w, Q.normal r w → Q'.normal r w) (h2 : ∀ i r w, Q.exit i r w → Q'.exit i r w) (h3 : ∀ r w, Q.ret r w → Q'.ret r w) : Wc P n c Q' r w :=
  ⟨fun a ha => wp_mono (h.out a ha) fun e a w q => by
    cases e <;> simp only [Post.lift] at q ⊢
    · obtain ⟨r, hr, q⟩ := q; exact ⟨r, hr, h1 _ _ q⟩
    · obtain ⟨r, hr, q⟩ := q; exact ⟨r, hr, h2 _ _ _ q⟩
    · obtain ⟨r, hr, q⟩ := q; exact ⟨r, hr, h3 _ _ q⟩⟩

theorem Wc.seq {x y : Code} (h : Wc P n x { Q with normal := fun r w => Wc P n y Q r w } r w) : Wc P n (.seq x y) Q r w :=
  ⟨fun a ha => wp_seq (wp_mono (h.out a ha) fun e a w q => by
    cases e with
    | normal => obtain ⟨r, hr, q⟩ := q; exact q.out a hr
    | _ => exact q)⟩

/-- code in two parts, with what holds between them -/
theorem Wc.cut {x y : Code} (J : Env → World → Prop) (h : Wc P n x { Q with normal := J } r w) (k : ∀ r w, J r w → Wc P n y Q r w) : Wc P n (.seq x y) Q r w :=
  .seq (h.mono (fun r w hj => k r w hj) (fun _ _ _ q => q) (fun _ _ q => q))

theorem Wc.skip (h : Q.normal r w) : Wc P n .skip Q r w := ⟨fun _ ha => wp_skip ⟨r, ha, h⟩⟩
theorem Wc.exit {i : Nat} (h : Q.exit i r w) : Wc P n (.exit i) Q r w := ⟨fun _ ha => wp_exit ⟨r, ha, h⟩⟩
theorem Wc.ret (h : Q.ret r w) : Wc P n .ret Q r w := ⟨fun _ ha => wp_ret ⟨r, ha, h⟩⟩

theorem Wc.iff {c : Operand} {x y : Code} {b : Bool} (hc : ev r c = .bool b) (ht : b = true → Wc P n x Q r w) (hf : b = false → Wc P n y Q r w) : Wc P n (.cond c x y) Q r w :=
  ⟨fun a ha => wp_cond_split (t := b) (by rw [ha.eval]; exact hc) (fun h => (ht h).out a ha) (fun h => (hf h).out a ha)⟩
theorem Wc.yes {c : Operand} {x y : Code} {b : Bool} (hc : ev r c = .bool b) (hb : b = true) (h : Wc P n x Q r w) : Wc P n (.cond c x y) Q r w :=
  .iff hc (fun _ => h) (fun h => by rw [hb] at h; cases h)
theorem Wc.no {c : Operand} {x y : Code} {b : Bool} (hc : ev r c = .bool b) (hb : b = false) (h : Wc P n y Q r w) : Wc P n (.cond c x y) Q r w :=
  .iff hc (fun h => by rw [hb] at h; cases h) (fun _ => h)

theorem Wc.block {i : Nat} {c : Code} (h : Wc P n c { Q with exit := fun j => if j = i then Q.normal else Q.exit j } r w) : Wc P n (.block i c) Q r w :=
  ⟨fun a ha => wp_block (wp_mono (h.out a ha) fun e a w q => by
    cases e with
    | exit j =>
      obtain ⟨r, hr, q⟩ := q
      simp only [Exit.inBlock]
      by_cases hj : j = i
      · rw [if_pos hj]; simp only [hj, if_true] at q; exact ⟨r, hr, q⟩
      · rw [if_neg hj]; simp only [hj, if_false] at q; exact ⟨r, hr, q⟩
    | _ => exact q)⟩

/-- a loop by a number of rounds that falls -/
theorem least {p : Nat → Prop} : ∀ n, p n → ∃ m, p m ∧ ∀ k, p k → m ≤ k := by
  intro n
  induction n using Nat.strongRecOn with
  | _ n ih =>
    intro hn
    by_cases h : ∃ k, k < n ∧ p k
    · obtain ⟨k, hk, hp⟩ := h
      exact ih k hk hp
    · exact ⟨n, hn, fun k hk => Nat.le_of_not_lt fun hlt => h ⟨k, hlt, hk⟩⟩

theorem Wc.loop {c : Code} (I : Nat → Env → World → Prop) (k : Nat) (h0 : I k r w)
    (round : ∀ k r w, I k r w → Wc P n c { Q with normal := fun r' w' => ∃ k', k' < k ∧ I k' r' w' } r w) : Wc P n (.loop c) Q r w := by
  refine ⟨fun a ha => ?_⟩
  let J : Act → World → Nat → Prop := fun a w k => ∃ r, Fits n r a ∧ I k r w
  have L : ∀ a w, ∃ m, (∃ k, J a w k) → J a w m ∧ ∀ k, J a w k → m ≤ k := fun a w => by
    by_cases h : ∃ k, J a w k
    · obtain ⟨k, hk⟩ := h
      obtain ⟨m, h1, h2⟩ := least k hk
      exact ⟨m, fun _ => ⟨h1, h2⟩⟩
    · exact ⟨0, fun h' => absurd h' h⟩
  refine wp_loop (fun a w => ∃ k, J a w k) (fun a w => Classical.choose (L a w)) ⟨k, r, ha, h0⟩ fun a w hJ => ?_
  obtain ⟨⟨r, hr, hI⟩, _⟩ := Classical.choose_spec (L a w) hJ
  refine wp_mono ((round _ r w hI).out a hr) fun e a' w' q => ?_
  cases e with
  | normal =>
    obtain ⟨r', hr', k', hk', hI'⟩ := q
    have hJ' : ∃ k, J a' w' k := ⟨k', r', hr', hI'⟩
    exact ⟨hJ', Nat.lt_of_le_of_lt ((Classical.choose_spec (L a' w') hJ').2 k' ⟨r', hr', hI'⟩) hk'⟩
  | _ => exact q

end

/-! ### operations -/
section
variable {P : Program} {n : Nat} {ops : Array Oper} {r : Env} {w : World} {K : Env → World → Prop}

def wantedE (ops : Array Oper) (o : Oper) (r : Env) : Bool :=
  match o.guard with
  | none => true
  | some (g, want) =>
    match (ops[g]?).bind (·.dst) with
    | some t => (match r t with | .bool b => b == want | _ => false)
    | none => false

theorem wantedE_eq {o : Oper} {a : Act} (h : Fits n r a) : Region.wanted o (yielded ops a.tmps) = wantedE ops o r := by
  unfold Region.wanted wantedE
  cases o.guard with
  | none => rfl
  | some gw =>
    obtain ⟨g, want⟩ := gw
    simp only [yielded]
    cases hd : (ops[g]?).bind (·.dst) with
    | none => simp
    | some t =>
      simp only [Option.bind_some]
      have ht := h.env t
      by_cases hlt : t < a.tmps.size
      · have : a.tmps.getD t undef = a.tmps[t] := by simp [Array.getD, hlt]
        rw [this] at ht
        rw [Array.getElem?_eq_getElem hlt, ht]
        cases r t <;> first | rfl | (rename_i b; cases b <;> cases want <;> rfl)
      · have e1 : a.tmps[t]? = none := Array.getElem?_eq_none (Nat.le_of_not_lt hlt)
        have e2 : a.tmps.getD t undef = undef := by simp [Array.getD, hlt]
        rw [e2] at ht
        rw [e1, ← ht]
        rfl

inductive Step (P : Program) (o : Oper) (r : Env) (w : World) (R : Value → World → Prop) : Prop
  | value {v : Value} {w' : World} (h : (execOp (ev r) o).run P w = .ok (.value v) w') (k : R v w')
  | skip {w' : World} (h : (execOp (ev r) o).run P w = .ok .skip w') (k : R undef w')
  | enter {f : FuncId} {args : Array Value} {w' : World} (h : (execOp (ev r) o).run P w = .ok (.enter f args) w') (k : Calls P f args w' fun e w'' => ∃ v, e = .returned v ∧ R v w'')

theorem Step.mono {o : Oper} {R R' : Value → World → Prop} (h : Step P o r w R) (hr : ∀ v w, R v w → R' v w) : Step P o r w R' := by
  cases h with
  | value h k => exact .value h (hr _ _ k)
  | skip h k => exact .skip h (hr _ _ k)
  | enter h k => exact .enter h (k.mono fun e w' ⟨v, he, q⟩ => ⟨v, he, hr _ _ q⟩)

theorem Step.wp {o : Oper} {R : Value → World → Prop} {a : Act} {Q : Exit → Act → World → Prop} {L : Act → World → Prop} (h : Step P o r w R) (ha : a.eval = ev r)
    (hL : ∀ v w', R v w' → L (a.put o.dst v) w') : o.wp P a w L Q := by
  unfold Oper.wp
  rw [ha]
  cases h with
  | value h k => rw [h]; exact hL _ _ k
  | skip h k => rw [h]; exact hL _ _ k
  | enter h k =>
    rw [h]
    exact k.mono fun e w' ⟨v, he, q⟩ => by subst he; exact hL _ _ q

def WlD (P : Program) (n : Nat) (ops : Array Oper) (K : Env → World → Prop) : List Oper → Env → World → Prop
  | [], r, w => K r w
  | o :: rest, r, w => (∀ d, o.dst = some d → d < n) ∧
    if wantedE ops o r then Step P o r w (fun v w' => WlD P n ops K rest (putO r o.dst v) w') else WlD P n ops K rest (putO r o.dst undef) w

structure Wl (P : Program) (n : Nat) (ops : Array Oper) (K : Env → World → Prop) (l : List Oper) (r : Env) (w : World) : Prop where
  out : WlD P n ops K l r w

theorem WlD.sound {Q : Exit → Act → World → Prop} (hQ : ∀ a r w, Fits n r a → K r w → Q .normal a w) : ∀ (l : List Oper) (r : Env) (a : Act) (w : World), Fits n r a → WlD P n ops K l r w → wpList P ops Q l a w
  | [], _, _, _, ha, h => hQ _ _ _ ha h
  | o :: rest, r, a, w, ha, h => by
    obtain ⟨hd, h⟩ := h
    unfold wpList
    rw [wantedE_eq ha]
    split
    · rename_i hw
      rw [if_pos hw] at h
      exact .inl (h.wp ha.eval fun v w' q => WlD.sound hQ rest _ _ _ (ha.putO hd v) q)
    · rename_i hw
      rw [if_neg hw] at h
      exact WlD.sound hQ rest _ _ _ (ha.putO hd _) h

theorem Wc.region {id : Nat} {l : List Oper} {Q : Post} (h : Wl P n l.toArray Q.normal l r w) : Wc P n (.region id l.toArray false) Q r w :=
  ⟨fun _ ha => wp_region_lit (WlD.sound (fun _ r _ ha h => ⟨r, ha, h⟩) l r _ w ha h.out)⟩

theorem Wl.nil (h : K r w) : Wl P n ops K [] r w := ⟨h⟩
theorem Wl.val {d : Nat} {op : Op} {ty : TypeId} {pos : String} {aft : Array Edge} {v : Value} {w' : World} {rest : List Oper} (hd : d < n)
    (h : (execOp (ev r) ⟨some d, op, ty, pos, aft, none⟩).run P w = .ok (.value v) w') (k : Wl P n ops K rest (put r d v) w') : Wl P n ops K (⟨some d, op, ty, pos, aft, none⟩ :: rest) r w :=
  ⟨⟨fun x hx => by cases hx; exact hd, by simp only [wantedE, if_true]; exact .value h k.out⟩⟩
theorem Wl.skp {op : Op} {ty : TypeId} {pos : String} {aft : Array Edge} {w' : World} {rest : List Oper}
    (h : (execOp (ev r) ⟨none, op, ty, pos, aft, none⟩).run P w = .ok .skip w') (k : Wl P n ops K rest r w') : Wl P n ops K (⟨none, op, ty, pos, aft, none⟩ :: rest) r w :=
  ⟨⟨fun x hx => (by cases hx), by simp only [wantedE, if_true]; exact .skip h k.out⟩⟩
theorem Wl.call {d : Nat} {op : Op} {ty : TypeId} {pos : String} {aft : Array Edge} {f : FuncId} {args : Array Value} {w' : World} {rest : List Oper} (hd : d < n)
    (h : (execOp (ev r) ⟨some d, op, ty, pos, aft, none⟩).run P w = .ok (.enter f args) w')
    (k : Calls P f args w' fun e w'' => ∃ v, e = .returned v ∧ Wl P n ops K rest (put r d v) w'') : Wl P n ops K (⟨some d, op, ty, pos, aft, none⟩ :: rest) r w :=
  ⟨⟨fun x hx => by cases hx; exact hd, by simp only [wantedE, if_true]; exact .enter h (k.mono fun e w'' ⟨v, he, q⟩ => ⟨v, he, q.out⟩)⟩⟩
theorem Wl.gval {d g t : Nat} {b c : Bool} {op : Op} {ty : TypeId} {pos : String} {aft : Array Edge} {v : Value} {w' : World} {rest : List Oper} (hd : d < n)
    (hg : (ops[g]?).bind (·.dst) = some t) (hb : r t = .bool b) (he : b = c)
    (h : (execOp (ev r) ⟨some d, op, ty, pos, aft, some (g, c)⟩).run P w = .ok (.value v) w') (k : Wl P n ops K rest (put r d v) w') : Wl P n ops K (⟨some d, op, ty, pos, aft, some (g, c)⟩ :: rest) r w :=
  ⟨⟨fun x hx => by cases hx; exact hd, by subst he; simp only [wantedE, hg, hb, beq_self_eq_true, if_true]; exact .value h k.out⟩⟩
theorem Wl.gcall {d g t : Nat} {b c : Bool} {op : Op} {ty : TypeId} {pos : String} {aft : Array Edge} {f : FuncId} {args : Array Value} {w' : World} {rest : List Oper} (hd : d < n)
    (hg : (ops[g]?).bind (·.dst) = some t) (hb : r t = .bool b) (he : b = c)
    (h : (execOp (ev r) ⟨some d, op, ty, pos, aft, some (g, c)⟩).run P w = .ok (.enter f args) w')
    (k : Calls P f args w' fun e w'' => ∃ v, e = .returned v ∧ Wl P n ops K rest (put r d v) w'') : Wl P n ops K (⟨some d, op, ty, pos, aft, some (g, c)⟩ :: rest) r w :=
  ⟨⟨fun x hx => by cases hx; exact hd, by subst he; simp only [wantedE, hg, hb, beq_self_eq_true, if_true]; exact .enter h (k.mono fun e w'' ⟨v, he, q⟩ => ⟨v, he, q.out⟩)⟩⟩
/-- a guarded operation that is not wanted -/
theorem Wl.gno {d g t : Nat} {b c : Bool} {op : Op} {ty : TypeId} {pos : String} {aft : Array Edge} {rest : List Oper} (hd : d < n)
    (hg : (ops[g]?).bind (·.dst) = some t) (hb : r t = .bool b) (he : b = !c) (k : Wl P n ops K rest (put r d undef) w) : Wl P n ops K (⟨some d, op, ty, pos, aft, some (g, c)⟩ :: rest) r w :=
  ⟨⟨fun x hx => by cases hx; exact hd, by have hne : ((!c) == c) = false := (by cases c <;> rfl); subst he; simp only [wantedE, hg, hb, hne]; exact k.out⟩⟩

end
end Go.Dor
