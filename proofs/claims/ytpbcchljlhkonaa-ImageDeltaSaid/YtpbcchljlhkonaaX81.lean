/- PART 1 OF WHAT THE ROW STANDS ON: the texts Dr A B C D E F G S T U H, one behind the other. -/
import Derived.StillTail
import Derived.WalkKit
import Derived.Deep.AppendSrc
import Derived.Lib.ConvBytes
import Derived.Lib.Bytealg
import Derived.Laws.FloatArith
import Derived.Laws.Cover2
section
/- DRAWS ONLY GO ON. (Where a program calls what the shelf tells no draws of, wip/alt's text of this name takes this one's place: Dr says nothing there.) -/
namespace Go.Dor
structure Dr (w0 w : World) : Prop where
  le : w0.drawn ≤ w.drawn
theorem Dr.refl (w : World) : Dr w w := ⟨Nat.le_refl _⟩
theorem Dr.trans {a b c : World} (h : Dr a b) (k : Dr b c) : Dr a c := ⟨Nat.le_trans h.le k.le⟩
theorem Dr.of {a b : World} (h : a.drawn ≤ b.drawn) : Dr a b := ⟨h⟩
end Go.Dor
end

section
/- THE WALK'S GROUND: frames as functions, code by continuations, regions in whatever order. Plain lemmas over any program; no statement of the seat. -/
namespace Go.Dor

abbrev Env := Nat → Value

def put (r : Env) (d : Nat) (v : Value) : Env := fun t => bif Nat.beq t d then v else r t

def putO (r : Env) : Option Nat → Value → Env
  | some d, v => put r d v
  | none, _ => r

def ev (r : Env) : Operand → Value
  | .tmp t => r t
  | .const v => v
  | .global g => .pointer (some ⟨g, 0, none⟩)
  | .func f => .func (.func f) #[] #[]

theorem put_same (r : Env) (d : Nat) (v : Value) : put r d v d = v := by simp [put]
theorem put_other (r : Env) {d t : Nat} (v : Value) (h : t ≠ d) : put r d v t = r t := by
  have : Nat.beq t d = false := Bool.eq_false_iff.2 fun e => h (Nat.eq_of_beq_eq_true e)
  simp [put, this]
structure Fits (n : Nat) (r : Env) (a : Act) : Prop where
  size : a.tmps.size = n
  env : ∀ t, a.tmps.getD t undef = r t
  nodef : a.defers = []

theorem Fits.eval {n : Nat} {r : Env} {a : Act} (h : Fits n r a) : a.eval = ev r := by
  funext x
  cases x with
  | tmp t => exact h.env t
  | _ => rfl

theorem Fits.put {n : Nat} {r : Env} {a : Act} (h : Fits n r a) {d : Nat} (hd : d < n) (v : Value) : Fits n (Dor.put r d v) (a.put (some d) v) := by
  refine ⟨by simp [Act.put, h.size], fun t => ?_, h.nodef⟩
  have hs := h.size
  by_cases ht : t = d
  · subst ht
    rw [put_same]
    simp [Act.put, Array.getD, hs, hd]
  · rw [put_other _ _ ht, ← h.env t]
    simp [Act.put, Array.getElem?_setIfInBounds_ne (Ne.symm ht)]

theorem Fits.putO {n : Nat} {r : Env} {a : Act} (h : Fits n r a) {d : Option Nat} (hd : ∀ x, d = some x → x < n) (v : Value) : Fits n (Dor.putO r d v) (a.put d v) := by
  cases d with
  | none => exact h
  | some d => exact h.put (hd d rfl) v

/-- what comes behind: nothing special, an exit, a return -/
structure Post where
  normal : Env → World → Prop
  exit : Nat → Env → World → Prop
  ret : Env → World → Prop

def Post.lift (n : Nat) (Q : Post) : Exit → Act → World → Prop
  | .normal, a, w => ∃ r, Fits n r a ∧ Q.normal r w
  | .exit i, a, w => ∃ r, Fits n r a ∧ Q.exit i r w
  | .ret, a, w => ∃ r, Fits n r a ∧ Q.ret r w
  | _, _, _ => False

structure Wc (P : Program) (n : Nat) (c : Code) (Q : Post) (r : Env) (w : World) : Prop where
  out : ∀ a, Fits n r a → c.wp P (Q.lift n) a w

section
variable {P : Program} {n : Nat} {Q : Post} {r : Env} {w : World}

theorem Wc.mono {c : Code} {Q' : Post} (h : Wc P n c Q r w) (h1 : ∀ r w, Q.normal r w → Q'.normal r w) (h2 : ∀ i r w, Q.exit i r w → Q'.exit i r w) (h3 : ∀ r w, Q.ret r w → Q'.ret r w) : Wc P n c Q' r w :=
  ⟨fun a ha => wp_mono (h.out a ha) fun e a w q => by
    cases e <;> simp only [Post.lift] at q ⊢
    · obtain ⟨r, hr, q⟩ := q; exact ⟨r, hr, h1 _ _ q⟩
    · obtain ⟨r, hr, q⟩ := q; exact ⟨r, hr, h2 _ _ _ q⟩
    · obtain ⟨r, hr, q⟩ := q; exact ⟨r, hr, h3 _ _ q⟩⟩

theorem Wc.seq {x y : Code} (h : Wc P n x { Q with normal := fun r w => Wc P n y Q r w } r w) : Wc P n (.seq x y) Q r w :=
  ⟨fun a ha => wp_seq (wp_mono (h.out a ha) fun e a w q => by
    cases e with
    | normal => obtain ⟨r, hr, q⟩ := q; exact q.out a hr
    | _ => exact q)⟩

/-- code in two parts, with what holds between them -/
theorem Wc.cut {x y : Code} (J : Env → World → Prop) (h : Wc P n x { Q with normal := J } r w) (k : ∀ r w, J r w → Wc P n y Q r w) : Wc P n (.seq x y) Q r w :=
  .seq (h.mono (fun r w hj => k r w hj) (fun _ _ _ q => q) (fun _ _ q => q))

theorem Wc.skip (h : Q.normal r w) : Wc P n .skip Q r w := ⟨fun _ ha => wp_skip ⟨r, ha, h⟩⟩
theorem Wc.exit {i : Nat} (h : Q.exit i r w) : Wc P n (.exit i) Q r w := ⟨fun _ ha => wp_exit ⟨r, ha, h⟩⟩
theorem Wc.ret (h : Q.ret r w) : Wc P n .ret Q r w := ⟨fun _ ha => wp_ret ⟨r, ha, h⟩⟩

theorem Wc.iff {c : Operand} {x y : Code} {b : Bool} (hc : ev r c = .bool b) (ht : b = true → Wc P n x Q r w) (hf : b = false → Wc P n y Q r w) : Wc P n (.cond c x y) Q r w :=
  ⟨fun a ha => wp_cond_split (t := b) (by rw [ha.eval]; exact hc) (fun h => (ht h).out a ha) (fun h => (hf h).out a ha)⟩
theorem Wc.yes {c : Operand} {x y : Code} {b : Bool} (hc : ev r c = .bool b) (hb : b = true) (h : Wc P n x Q r w) : Wc P n (.cond c x y) Q r w :=
  .iff hc (fun _ => h) (fun h => by rw [hb] at h; cases h)
theorem Wc.no {c : Operand} {x y : Code} {b : Bool} (hc : ev r c = .bool b) (hb : b = false) (h : Wc P n y Q r w) : Wc P n (.cond c x y) Q r w :=
  .iff hc (fun h => by rw [hb] at h; cases h) (fun _ => h)

theorem Wc.block {i : Nat} {c : Code} (h : Wc P n c { Q with exit := fun j => if j = i then Q.normal else Q.exit j } r w) : Wc P n (.block i c) Q r w :=
  ⟨fun a ha => wp_block (wp_mono (h.out a ha) fun e a w q => by
    cases e with
    | exit j =>
      obtain ⟨r, hr, q⟩ := q
      simp only [Exit.inBlock]
      by_cases hj : j = i
      · rw [if_pos hj]; simp only [hj, if_true] at q; exact ⟨r, hr, q⟩
      · rw [if_neg hj]; simp only [hj, if_false] at q; exact ⟨r, hr, q⟩
    | _ => exact q)⟩

/-- a loop by a number of rounds that falls -/
theorem least {p : Nat → Prop} : ∀ n, p n → ∃ m, p m ∧ ∀ k, p k → m ≤ k := by
  intro n
  induction n using Nat.strongRecOn with
  | _ n ih =>
    intro hn
    by_cases h : ∃ k, k < n ∧ p k
    · obtain ⟨k, hk, hp⟩ := h
      exact ih k hk hp
    · exact ⟨n, hn, fun k hk => Nat.le_of_not_lt fun hlt => h ⟨k, hlt, hk⟩⟩

theorem Wc.loop {c : Code} (I : Nat → Env → World → Prop) (k : Nat) (h0 : I k r w)
    (round : ∀ k r w, I k r w → Wc P n c { Q with normal := fun r' w' => ∃ k', k' < k ∧ I k' r' w' } r w) : Wc P n (.loop c) Q r w := by
  refine ⟨fun a ha => ?_⟩
  let J : Act → World → Nat → Prop := fun a w k => ∃ r, Fits n r a ∧ I k r w
  have L : ∀ a w, ∃ m, (∃ k, J a w k) → J a w m ∧ ∀ k, J a w k → m ≤ k := fun a w => by
    by_cases h : ∃ k, J a w k
    · obtain ⟨k, hk⟩ := h
      obtain ⟨m, h1, h2⟩ := least k hk
      exact ⟨m, fun _ => ⟨h1, h2⟩⟩
    · exact ⟨0, fun h' => absurd h' h⟩
  refine wp_loop (fun a w => ∃ k, J a w k) (fun a w => Classical.choose (L a w)) ⟨k, r, ha, h0⟩ fun a w hJ => ?_
  obtain ⟨⟨r, hr, hI⟩, _⟩ := Classical.choose_spec (L a w) hJ
  refine wp_mono ((round _ r w hI).out a hr) fun e a' w' q => ?_
  cases e with
  | normal =>
    obtain ⟨r', hr', k', hk', hI'⟩ := q
    have hJ' : ∃ k, J a' w' k := ⟨k', r', hr', hI'⟩
    exact ⟨hJ', Nat.lt_of_le_of_lt ((Classical.choose_spec (L a' w') hJ').2 k' ⟨r', hr', hI'⟩) hk'⟩
  | _ => exact q

end

/-! ### operations -/
section
variable {P : Program} {n : Nat} {ops : Array Oper} {r : Env} {w : World} {K : Env → World → Prop}

def wantedE (ops : Array Oper) (o : Oper) (r : Env) : Bool :=
  match o.guard with
  | none => true
  | some (g, want) =>
    match (ops[g]?).bind (·.dst) with
    | some t => (match r t with | .bool b => b == want | _ => false)
    | none => false

theorem wantedE_eq {o : Oper} {a : Act} (h : Fits n r a) : Region.wanted o (yielded ops a.tmps) = wantedE ops o r := by
  unfold Region.wanted wantedE
  cases o.guard with
  | none => rfl
  | some gw =>
    obtain ⟨g, want⟩ := gw
    simp only [yielded]
    cases hd : (ops[g]?).bind (·.dst) with
    | none => simp
    | some t =>
      simp only [Option.bind_some]
      have ht := h.env t
      by_cases hlt : t < a.tmps.size
      · have : a.tmps.getD t undef = a.tmps[t] := by simp [Array.getD, hlt]
        rw [this] at ht
        rw [Array.getElem?_eq_getElem hlt, ht]
        cases r t <;> first | rfl | (rename_i b; cases b <;> cases want <;> rfl)
      · have e1 : a.tmps[t]? = none := Array.getElem?_eq_none (Nat.le_of_not_lt hlt)
        have e2 : a.tmps.getD t undef = undef := by simp [Array.getD, hlt]
        rw [e2] at ht
        rw [e1, ← ht]
        rfl

inductive Step (P : Program) (o : Oper) (r : Env) (w : World) (R : Value → World → Prop) : Prop
  | value {v : Value} {w' : World} (h : (execOp (ev r) o).run P w = .ok (.value v) w') (k : R v w')
  | skip {w' : World} (h : (execOp (ev r) o).run P w = .ok .skip w') (k : R undef w')
  | enter {f : FuncId} {args : Array Value} {w' : World} (h : (execOp (ev r) o).run P w = .ok (.enter f args) w') (k : Calls P f args w' fun e w'' => ∃ v, e = .returned v ∧ R v w'')

theorem Step.mono {o : Oper} {R R' : Value → World → Prop} (h : Step P o r w R) (hr : ∀ v w, R v w → R' v w) : Step P o r w R' := by
  cases h with
  | value h k => exact .value h (hr _ _ k)
  | skip h k => exact .skip h (hr _ _ k)
  | enter h k => exact .enter h (k.mono fun e w' ⟨v, he, q⟩ => ⟨v, he, hr _ _ q⟩)

theorem Step.wp {o : Oper} {R : Value → World → Prop} {a : Act} {Q : Exit → Act → World → Prop} {L : Act → World → Prop} (h : Step P o r w R) (ha : a.eval = ev r)
    (hL : ∀ v w', R v w' → L (a.put o.dst v) w') : o.wp P a w L Q := by
  unfold Oper.wp
  rw [ha]
  cases h with
  | value h k => rw [h]; exact hL _ _ k
  | skip h k => rw [h]; exact hL _ _ k
  | enter h k =>
    rw [h]
    exact k.mono fun e w' ⟨v, he, q⟩ => by subst he; exact hL _ _ q

def WlD (P : Program) (n : Nat) (ops : Array Oper) (K : Env → World → Prop) : List Oper → Env → World → Prop
  | [], r, w => K r w
  | o :: rest, r, w => (∀ d, o.dst = some d → d < n) ∧
    if wantedE ops o r then Step P o r w (fun v w' => WlD P n ops K rest (putO r o.dst v) w') else WlD P n ops K rest (putO r o.dst undef) w

structure Wl (P : Program) (n : Nat) (ops : Array Oper) (K : Env → World → Prop) (l : List Oper) (r : Env) (w : World) : Prop where
  out : WlD P n ops K l r w

theorem WlD.sound {Q : Exit → Act → World → Prop} (hQ : ∀ a r w, Fits n r a → K r w → Q .normal a w) : ∀ (l : List Oper) (r : Env) (a : Act) (w : World), Fits n r a → WlD P n ops K l r w → wpList P ops Q l a w
  | [], _, _, _, ha, h => hQ _ _ _ ha h
  | o :: rest, r, a, w, ha, h => by
    obtain ⟨hd, h⟩ := h
    unfold wpList
    rw [wantedE_eq ha]
    split
    · rename_i hw
      rw [if_pos hw] at h
      exact .inl (h.wp ha.eval fun v w' q => WlD.sound hQ rest _ _ _ (ha.putO hd v) q)
    · rename_i hw
      rw [if_neg hw] at h
      exact WlD.sound hQ rest _ _ _ (ha.putO hd _) h

theorem Wc.region {id : Nat} {l : List Oper} {Q : Post} (h : Wl P n l.toArray Q.normal l r w) : Wc P n (.region id l.toArray false) Q r w :=
  ⟨fun _ ha => wp_region_lit (WlD.sound (fun _ r _ ha h => ⟨r, ha, h⟩) l r _ w ha h.out)⟩

theorem Wl.nil (h : K r w) : Wl P n ops K [] r w := ⟨h⟩
theorem Wl.val {d : Nat} {op : Op} {ty : TypeId} {pos : String} {aft : Array Edge} {v : Value} {w' : World} {rest : List Oper} (hd : d < n)
    (h : (execOp (ev r) ⟨some d, op, ty, pos, aft, none⟩).run P w = .ok (.value v) w') (k : Wl P n ops K rest (put r d v) w') : Wl P n ops K (⟨some d, op, ty, pos, aft, none⟩ :: rest) r w :=
  ⟨⟨fun x hx => by cases hx; exact hd, by simp only [wantedE, if_true]; exact .value h k.out⟩⟩
theorem Wl.call {d : Nat} {op : Op} {ty : TypeId} {pos : String} {aft : Array Edge} {f : FuncId} {args : Array Value} {w' : World} {rest : List Oper} (hd : d < n)
    (h : (execOp (ev r) ⟨some d, op, ty, pos, aft, none⟩).run P w = .ok (.enter f args) w')
    (k : Calls P f args w' fun e w'' => ∃ v, e = .returned v ∧ Wl P n ops K rest (put r d v) w'') : Wl P n ops K (⟨some d, op, ty, pos, aft, none⟩ :: rest) r w :=
  ⟨⟨fun x hx => by cases hx; exact hd, by simp only [wantedE, if_true]; exact .enter h (k.mono fun e w'' ⟨v, he, q⟩ => ⟨v, he, q.out⟩)⟩⟩
end
end Go.Dor
end

section
/- A REGION THAT DRAWS ITS ORDER: quiet operations first, in whatever order; then a tail in one order. Plain lemmas over any program. -/
namespace Go.Dor

/-- memory grown, draws gone on -/
structure Gr (w w' : World) : Prop where
  b : Go.RowKit.Below w.heap.size w w'
  d : Dr w w'
theorem Gr.refl (w : World) : Gr w w := ⟨.refl _ _, .refl _⟩
theorem Gr.trans {a b c : World} (h : Gr a b) (k : Gr b c) : Gr a c :=
  ⟨h.b.trans ⟨k.b.os, k.b.tape, k.b.output, k.b.size, fun i hi => k.b.block i (Nat.lt_of_lt_of_le hi h.b.size)⟩, h.d.trans k.d⟩

def deps (o : Oper) : List Nat := (o.after.toList.filter (Region.binds .any)).map (·.on)
def maskOf (acc : List Nat) (l : List Nat) : Nat := l.foldl (fun s j => s ||| 2 ^ j ||| acc.getD j 0) 0
def masksFrom : List Nat → List Oper → List Nat
  | acc, [] => acc
  | acc, o :: l => masksFrom (acc ++ [maskOf acc (deps o)]) l

theorem mem_deps {o : Oper} {j : Nat} : j ∈ deps o ↔ ∃ e ∈ o.after, Region.binds .any e = true ∧ e.on = j := by
  simp [deps]
  constructor
  · rintro ⟨e, ⟨h1, h2⟩, h3⟩; exact ⟨e, h1, h2, h3⟩
  · rintro ⟨e, h1, h2, h3⟩; exact ⟨e, ⟨h1, h2⟩, h3⟩

theorem maskOf_bit (acc : List Nat) (j : Nat) : ∀ (l : List Nat) (s : Nat), (l.foldl (fun s j => s ||| 2 ^ j ||| acc.getD j 0) s).testBit j = true →
    s.testBit j = true ∨ ∃ d ∈ l, d = j ∨ (acc.getD d 0).testBit j = true
  | [], s, h => .inl h
  | d :: l, s, h => by
    rcases maskOf_bit acc j l _ h with h | ⟨d', hd', h⟩
    · rw [Nat.testBit_or, Nat.testBit_or, Bool.or_eq_true, Bool.or_eq_true] at h
      rcases h with (h | h) | h
      · exact .inl h
      · exact .inr ⟨d, by simp, .inl (by rw [Nat.testBit_two_pow] at h; simpa using h)⟩
      · exact .inr ⟨d, by simp, .inr h⟩
    · exact .inr ⟨d', List.mem_cons_of_mem _ hd', h⟩

/-- what is listed holds what it hangs on -/
def Closed (ops : List Oper) (L : Nat → Prop) : Prop := ∀ i o, ops[i]? = some o → L i → ∀ j ∈ deps o, L j

theorem masksFrom_good {ops : List Oper} {L : Nat → Prop} (hL : Closed ops L) : ∀ (l : List Oper) (acc : List Nat), (∀ j, l[j]? = ops[acc.length + j]?) →
    (∀ i o, i < acc.length → ops[i]? = some o → (∀ d ∈ deps o, L d) → ∀ j, (acc.getD i 0).testBit j = true → L j) →
    ∀ i o, i < (masksFrom acc l).length → ops[i]? = some o → (∀ d ∈ deps o, L d) → ∀ j, ((masksFrom acc l).getD i 0).testBit j = true → L j
  | [], acc, _, hg => hg
  | o :: l, acc, hl, hg => by
    have h0 : ops[acc.length]? = some o := by simpa using (hl 0).symm
    refine masksFrom_good hL l (acc ++ [maskOf acc (deps o)]) (fun j => ?_) ?_
    · have := hl (j + 1)
      simp only [List.length_append, List.length_cons, List.length_nil, List.getElem?_cons_succ] at this ⊢
      rw [this]; congr 1; omega
    · intro i o' hi ho' hd j hj
      by_cases hlt : i < acc.length
      · rw [List.getD_eq_getElem?_getD, List.getElem?_append_left hlt, ← List.getD_eq_getElem?_getD] at hj
        exact hg i o' hlt ho' hd j hj
      · have hie : i = acc.length := by simp at hi; omega
        subst hie
        have : o' = o := Option.some.inj (ho'.symm.trans h0)
        subst this
        rw [List.getD_eq_getElem?_getD, List.getElem?_append_right (Nat.le_refl _)] at hj
        simp only [Nat.sub_self, List.getElem?_cons_zero, Option.getD_some] at hj
        rcases maskOf_bit acc j _ _ hj with h | ⟨d, hdm, h | h⟩
        · simp at h
        · subst h; exact hd _ hdm
        · have hLd := hd d hdm
          by_cases hdl : d < acc.length
          · cases hod : ops[d]? with
            | none =>
              exfalso
              have h1 : ops.length ≤ d := by simpa using hod
              have h2 : acc.length < ops.length := by rw [List.getElem?_eq_some_iff] at h0; exact h0.1
              omega
            | some od => exact hg d od hdl hod (hL d od hod hLd) j h
          · have : acc.getD d 0 = 0 := by rw [List.getD_eq_getElem?_getD, List.getElem?_eq_none (by omega)]; rfl
            rw [this] at h
            simp at h

def masks (ops : List Oper) : List Nat := masksFrom [] ops
theorem masks_good {ops : List Oper} {L : Nat → Prop} (hL : Closed ops L) {i : Nat} {o : Oper} (ho : ops[i]? = some o) (hd : ∀ d ∈ deps o, L d) {j : Nat} (h : ((masks ops).getD i 0).testBit j = true) : L j := by
  refine masksFrom_good hL ops [] (by simp) (by simp) i o ?_ ho hd j h
  by_cases hlt : i < (masksFrom [] ops).length
  · exact hlt
  · rw [masks, List.getD_eq_getElem?_getD, List.getElem?_eq_none (by omega)] at h
    simp at h

def looks (ops : List Oper) (o : Oper) : List Nat := o.looksAt ops.toArray
/-- what o does not look at -/
def lookOut (ops : List Oper) (o : Oper) (d : Nat) : Bool :=
  match ops[d]? with
  | some od => (match od.dst with | some t => !(looks ops o).contains t | none => true)
  | none => true
/-- heads: what each looks at is told by earlier heads alone -/
def headsOk (ops : List Oper) : List Nat → List Nat → Bool
  | _, [] => true
  | seen, i :: l => (match ops[i]? with | some o => (deps o).all (fun d => seen.contains d || lookOut ops o d) | none => false) && headsOk ops (i :: seen) l

/-- a tail: one operation behind the other; or there are two ways to go on -/
inductive Tr where
  | done
  | step (i : Nat) (fl : Bool) (t : Tr)
  | alt (a b : Tr)
def Tr.firsts : Tr → List Nat
  | .done => []
  | .step i _ _ => [i]
  | .alt a b => a.firsts ++ b.firsts
/-- what comes, in one of the orders -/
def Tr.idx : Tr → List Nat
  | .done => []
  | .step i _ t => i :: t.idx
  | .alt a _ => a.idx
/-- whatever may come next is told -/
def coverT (m : List Nat) (U : List Nat) (t : Tr) : Bool := U.all fun i => t.firsts.contains i || U.any fun j => (m.getD i 0).testBit j
def okSub (m : List Nat) : List Nat → Tr → Bool
  | U, .done => U.isEmpty
  | U, .step i _ t => U.contains i && coverT m (U.erase i) t && okSub m (U.erase i) t
  | U, .alt a b => okSub m U a && okSub m U b
def okTr (m : List Nat) (U : List Nat) (t : Tr) : Bool := coverT m U t && okSub m U t
def Tr.flags (m : List Nat) (H : List (Nat × Nat)) : Tr → Bool
  | .done => true
  | .step i fl t => (H.all fun h => (match h.2 with | 0 => false | 1 => fl | _ => true) || (m.getD i 0).testBit h.1) && t.flags m H
  | .alt a b => a.flags m H && b.flags m H
def chainT : List (Nat × Bool) → Tr
  | [] => .done
  | (i, fl) :: l => .step i fl (chainT l)
/-- what one operation writes another one looks at alone where it hangs on it, and no other one writes -/
def dataOk (ops : List Oper) (m : List Nat) (H : List Nat) : Bool :=
  (List.range ops.length).all fun i => (List.range ops.length).all fun j =>
    match ops[i]?, ops[j]? with
    | some oi, some oj => (match oj.dst with | some d => (!(looks ops oi).contains d || (i != j && (deps oi).contains j) || (!H.contains j && (m.getD j 0).testBit i)) && (i == j || oi.dst != some d) | none => true)
    | _, _ => true

def lowerOk (ops : List Oper) : Bool := (List.range ops.length).all fun i => match ops[i]? with | some o => (deps o).all fun d => decide (d < i) | none => true

def okPhase (ops : List Oper) (m : List Nat) (D : List Nat) (H : List (Nat × Nat)) (T : Tr) : Bool :=
  decide (D ++ (H.map (·.1) ++ T.idx)).Nodup && (H.map (·.1) ++ T.idx).all (fun i => decide (i < ops.length)) && headsOk ops D (H.map (·.1)) && okTr m T.idx T && dataOk ops m (H.map (·.1)) && T.flags m H

def idxOf (q : List (Nat × Nat) × Tr) : List Nat := q.1.map (·.1) ++ q.2.idx
/-- phases: whatever comes in a later one hangs on all of the earlier ones -/
def okPhases (ops : List Oper) (m : List Nat) : List Nat → List (List (Nat × Nat) × Tr) → Bool
  | D, [] => (List.range ops.length).all D.contains
  | D, q :: l => okPhase ops m D q.1 q.2 && (l.all fun q' => (idxOf q').all fun i => (idxOf q).all fun j => (m.getD i 0).testBit j) && okPhases ops m (D ++ idxOf q) l

def okRegion (ops : List Oper) (l : List (List (Nat × Nat) × Tr)) : Bool :=
  okPhases ops (masks ops) [] l && lowerOk ops && ops.all fun o => match o.op with | .select .. => false | _ => true

section
variable {P : Program} {n : Nat} {ops : List Oper} {C C0 : World → Prop} {K : Env → World → Prop}

inductive Same (P : Program) (o : Oper) (r : Env) (w : World) (v : Value) : Prop
  | value (h : (execOp (ev r) o).run P w = .ok (.value v) w)
  | skip (h : (execOp (ev r) o).run P w = .ok .skip w) (k : v = undef)

inductive Quiet (P : Program) (C : World → Prop) (o : Oper) (r : Env) (w : World) (v : Value) : Prop
  | same (h : Same P o r w v)
  | enter {f : FuncId} {args : Array Value} (h : (execOp (ev r) o).run P w = .ok (.enter f args) w) (k : Calls P f args w fun e w' => e = .returned v ∧ C w')

def HOk (P : Program) (C0 C : World → Prop) (o : Oper) (v : Value) (r : Env) : Nat → Prop
  | 0 => ∀ w, C0 w → Quiet P C0 o r w v
  | 1 => ∀ w, C w → Same P o r w v
  | 2 => ∀ w, Same P o r w v
  | _ + 3 => ∀ w, Quiet P (Gr w) o r w v

def WhD (P : Program) (n : Nat) (ops : Array Oper) (C0 C : World → Prop) (K : Env → Prop) : List (Oper × Nat) → Env → Prop
  | [], r => K r
  | (o, fl) :: rest, r => (∀ d, o.dst = some d → d < n) ∧
    if wantedE ops o r then ∃ v, HOk P C0 C o v r fl ∧ WhD P n ops C0 C K rest (putO r o.dst v) else WhD P n ops C0 C K rest (putO r o.dst undef)

structure Wh (P : Program) (n : Nat) (ops : Array Oper) (C0 C : World → Prop) (K : Env → Prop) (l : List (Oper × Nat)) (r : Env) : Prop where
  out : WhD P n ops C0 C K l r

def WtD (P : Program) (n : Nat) (ops : Array Oper) (C : World → Prop) (K : Env → World → Prop) : List (Oper × Bool) → Env → World → Prop
  | [], r, w => ∀ w1, Gr w w1 → K r w1
  | (o, fl) :: rest, r, w => (∀ d, o.dst = some d → d < n) ∧ ∀ w1, Gr w w1 →
    if wantedE ops o r then Step P o r w1 (fun v w' => (fl = true → C w') ∧ WtD P n ops C K rest (putO r o.dst v) w') else WtD P n ops C K rest (putO r o.dst undef) w1
theorem WtD.gr {P : Program} {n : Nat} {ops : Array Oper} {C : World → Prop} {K : Env → World → Prop} : ∀ {l : List (Oper × Bool)} {r : Env} {w w1 : World}, WtD P n ops C K l r w → Gr w w1 → WtD P n ops C K l r w1
  | [], _, _, _, h, k => fun w2 k2 => h w2 (k.trans k2)
  | (_, _) :: _, _, _, _, h, k => ⟨h.1, fun w2 k2 => h.2 w2 (k.trans k2)⟩

def WtR (P : Program) (n : Nat) (ops : List Oper) (C : World → Prop) (K : Env → World → Prop) : Tr → Env → World → Prop
  | .done, r, w => ∀ w1, Gr w w1 → K r w1
  | .step i fl t, r, w => (∀ o, ops[i]? = some o → (∀ d, o.dst = some d → d < n) ∧ ∀ w1, Gr w w1 →
    if wantedE ops.toArray o r then Step P o r w1 (fun v w' => (fl = true → C w') ∧ WtR P n ops C K t (putO r o.dst v) w') else WtR P n ops C K t (putO r o.dst undef) w1) ∧ (ops[i]? = none → WtR P n ops C K t r w)
  | .alt a b, r, w => WtR P n ops C K a r w ∧ WtR P n ops C K b r w
theorem WtR.gr {P : Program} {n : Nat} {ops : List Oper} {C : World → Prop} {K : Env → World → Prop} : ∀ {t : Tr} {r : Env} {w w1 : World}, WtR P n ops C K t r w → Gr w w1 → WtR P n ops C K t r w1
  | .done, _, _, _, h, k => fun w2 k2 => h w2 (k.trans k2)
  | .step _ _ _, _, _, _, h, k => ⟨fun o ho => ⟨(h.1 o ho).1, fun w2 k2 => (h.1 o ho).2 w2 (k.trans k2)⟩, fun ho => (h.2 ho).gr k⟩
  | .alt _ _, _, _, _, h, k => ⟨h.1.gr k, h.2.gr k⟩

def picks {α : Type} (ops : List Oper) : List (Nat × α) → List (Oper × α)
  | [] => []
  | (i, x) :: l => match ops[i]? with | some o => (o, x) :: picks ops l | none => picks ops l

theorem WtD.toR {P : Program} {n : Nat} {ops : List Oper} {C : World → Prop} {K : Env → World → Prop} : ∀ {l : List (Nat × Bool)} {r : Env} {w : World}, WtD P n ops.toArray C K (picks ops l) r w → WtR P n ops C K (chainT l) r w
  | [], _, _, h => h
  | (i, fl) :: l, r, w, h => by
    refine ⟨fun o ho => ?_, fun ho => ?_⟩
    · simp only [picks, ho, WtD] at h
      refine ⟨h.1, fun w1 k => ?_⟩
      have h2 := h.2 w1 k
      by_cases hw : wantedE ops.toArray o r = true
      · rw [if_pos hw] at h2 ⊢
        exact h2.mono fun v w' q => ⟨q.1, WtD.toR q.2⟩
      · rw [if_neg hw] at h2 ⊢
        exact WtD.toR h2
    · simp only [picks, ho] at h
      exact WtD.toR h
theorem WtR.none {P : Program} {n : Nat} {ops : List Oper} {C : World → Prop} {K : Env → World → Prop} {m : List Nat} : ∀ {t : Tr} {r : Env} {w : World}, okSub m [] t = true → WtR P n ops C K t r w → K r w
  | .done, _, w, _, h => h w (.refl w)
  | .step _ _ _, _, _, h, _ => by simp [okSub] at h
  | .alt _ _, _, _, h, k => by
    simp only [okSub, Bool.and_eq_true] at h
    exact k.1.none h.1
theorem WtR.first {P : Program} {n : Nat} {ops : List Oper} {C : World → Prop} {K : Env → World → Prop} {m : List Nat} {H : List (Nat × Nat)} {i : Nat} {U : List Nat} : ∀ {t : Tr} {r : Env} {w : World}, i ∈ t.firsts → okSub m U t = true → t.flags m H = true → WtR P n ops C K t r w →
    ∃ fl t', okTr m (U.erase i) t' = true ∧ (H.all fun h => (match h.2 with | 0 => false | 1 => fl | _ => true) || (m.getD i 0).testBit h.1) = true ∧ t'.flags m H = true ∧ WtR P n ops C K (.step i fl t') r w
  | .done, _, _, hi, _, _, _ => by cases hi
  | .step j fl t', _, _, hi, h1, h2, h3 => by
    simp only [Tr.firsts, List.mem_singleton] at hi
    subst hi
    simp only [okSub, Bool.and_eq_true] at h1
    simp only [Tr.flags, Bool.and_eq_true] at h2
    exact ⟨fl, t', by rw [okTr, h1.1.2, h1.2]; rfl, h2.1, h2.2, h3⟩
  | .alt a b, _, _, hi, h1, h2, h3 => by
    simp only [okSub, Bool.and_eq_true] at h1
    simp only [Tr.flags, Bool.and_eq_true] at h2
    rcases List.mem_append.1 hi with hi | hi
    · exact WtR.first hi h1.1 h2.1 h3.1
    · exact WtR.first hi h1.2 h2.2 h3.2

/-! ### frames that agree where an operation looks -/
def Agree (ts : List Nat) (r r' : Env) : Prop := ∀ t ∈ ts, r t = r' t

theorem exec_agree {o : Oper} {r r' : Env} (hs : ∀ cs b, o.op ≠ .select cs b) (h : Agree (o.looksAt ops.toArray) r r') : execOp (ev r) o = execOp (ev r') o :=
  execOp_congr o hs fun x hx => by
    cases x with
    | tmp t => exact h t (List.mem_append_left _ (List.mem_filterMap.2 ⟨.tmp t, by simpa using hx, rfl⟩))
    | _ => rfl

theorem wanted_agree {o : Oper} {r r' : Env} (h : Agree (o.looksAt ops.toArray) r r') : wantedE ops.toArray o r = wantedE ops.toArray o r' := by
  unfold wantedE
  cases hg : o.guard with
  | none => rfl
  | some gw =>
    obtain ⟨g, want⟩ := gw
    dsimp only
    cases hd : (ops.toArray[g]?).bind (·.dst) with
    | none => rfl
    | some t =>
      dsimp only
      rw [h t (List.mem_append_right _ (by rw [hg]; dsimp only; rw [hd]; simp))]

theorem Same.agree {o : Oper} {r r' : Env} {w : World} {v : Value} (hs : ∀ cs b, o.op ≠ .select cs b) (h : Agree (o.looksAt ops.toArray) r r') (q : Same P o r' w v) : Same P o r w v := by
  cases q with
  | value q => exact .value (by rw [exec_agree hs h]; exact q)
  | skip q k => exact .skip (by rw [exec_agree hs h]; exact q) k
theorem Quiet.agree {o : Oper} {r r' : Env} {w : World} {v : Value} (hs : ∀ cs b, o.op ≠ .select cs b) (h : Agree (o.looksAt ops.toArray) r r') (q : Quiet P C o r' w v) : Quiet P C o r w v := by
  cases q with
  | same q => exact .same (q.agree hs h)
  | enter q k => exact .enter (by rw [exec_agree hs h]; exact q) k
theorem HOk.agree {o : Oper} {r r' : Env} {v : Value} {fl : Nat} (hs : ∀ cs b, o.op ≠ .select cs b) (h : Agree (o.looksAt ops.toArray) r r') (q : HOk P C0 C o v r' fl) : HOk P C0 C o v r fl := by
  match fl, q with
  | 0, q => exact fun w hw => (q w hw).agree hs h
  | 1, q => exact fun w hw => (q w hw).agree hs h
  | 2, q => exact fun w => (q w).agree hs h
  | _ + 3, q => exact fun w => (q w).agree hs h
theorem Step.agree {o : Oper} {r r' : Env} {w : World} {R : Value → World → Prop} (hs : ∀ cs b, o.op ≠ .select cs b) (h : Agree (o.looksAt ops.toArray) r r') (q : Step P o r' w R) : Step P o r w R := by
  cases q with
  | value q k => exact .value (by rw [exec_agree hs h]; exact q) k
  | skip q k => exact .skip (by rw [exec_agree hs h]; exact q) k
  | enter q k => exact .enter (by rw [exec_agree hs h]; exact q) k


/-! ### the checks, spelled out -/
structure Sound (ops : List Oper) (D : List Nat) (H : List (Nat × Nat)) (T : Tr) : Prop where
  nodup : (H.map (·.1) ++ T.idx).Nodup
  apart : ∀ i ∈ D, i ∉ H.map (·.1) ∧ i ∉ T.idx
  inside : ∀ i, i ∈ H.map (·.1) ∨ i ∈ T.idx → i < ops.length
  heads : headsOk ops D (H.map (·.1)) = true
  tree : okTr (masks ops) T.idx T = true
  data : ∀ i j oi oj d, ops[i]? = some oi → ops[j]? = some oj → oj.dst = some d → (d ∈ looks ops oi → (i ≠ j ∧ j ∈ deps oi) ∨ (j ∉ H.map (·.1) ∧ ((masks ops).getD j 0).testBit i = true)) ∧ (i ≠ j → oi.dst ≠ some d)
  flags : T.flags (masks ops) H = true
  lower : ∀ i o, ops[i]? = some o → ∀ d ∈ deps o, d < i
  noSel : ∀ (o : Oper), o ∈ ops → ∀ cs b, o.op ≠ .select cs b

theorem lower_of (h : lowerOk ops = true) : ∀ i o, ops[i]? = some o → ∀ d ∈ deps o, d < i := fun i o hi d hd => by
  have hli := (List.getElem?_eq_some_iff.1 hi).1
  have := List.all_eq_true.1 h i (List.mem_range.2 hli)
  rw [hi] at this
  simpa using List.all_eq_true.1 this d hd
theorem noSel_of (h : (ops.all fun o => match o.op with | .select .. => false | _ => true) = true) : ∀ (o : Oper), o ∈ ops → ∀ cs b, o.op ≠ .select cs b := fun o ho cs b e => by
  have := List.all_eq_true.1 h o ho
  rw [e] at this
  cases this

theorem Sound.of {D : List Nat} {H : List (Nat × Nat)} {T : Tr} (h : okPhase ops (masks ops) D H T = true) (hl : ∀ i o, ops[i]? = some o → ∀ d ∈ deps o, d < i) (hs : ∀ (o : Oper), o ∈ ops → ∀ cs b, o.op ≠ .select cs b) : Sound ops D H T := by
  simp only [okPhase, Bool.and_eq_true, decide_eq_true_eq] at h
  obtain ⟨⟨⟨⟨⟨h1, h3⟩, h4⟩, h5⟩, h6⟩, h7⟩ := h
  rw [List.nodup_append] at h1
  refine ⟨h1.2.1, fun i hi => ⟨fun hm => h1.2.2 i hi i (List.mem_append_left _ hm) rfl, fun hm => h1.2.2 i hi i (List.mem_append_right _ hm) rfl⟩, fun i hi => ?_, h4, h5, fun i j oi oj d hi hj hd => ?_, h7, hl, hs⟩
  · have := List.all_eq_true.1 h3 i (List.mem_append.2 hi)
    simpa using this
  · have hli := (List.getElem?_eq_some_iff.1 hi).1
    have hlj := (List.getElem?_eq_some_iff.1 hj).1
    have := List.all_eq_true.1 (List.all_eq_true.1 h6 i (List.mem_range.2 hli)) j (List.mem_range.2 hlj)
    simp only [hi, hj, hd, Bool.or_eq_true, beq_iff_eq, Bool.and_eq_true, Bool.not_eq_true', bne_iff_ne, ne_eq] at this
    obtain ⟨h, h'⟩ := this
    refine ⟨fun hm => ?_, fun hne => h'.resolve_left hne⟩
    rcases h with (h | h) | h
    · have : (looks ops oi).contains d = true := List.contains_iff_mem.2 hm
      rw [h] at this
      cases this
    · exact .inl ⟨h.1, List.contains_iff_mem.1 h.2⟩
    · exact .inr ⟨fun hm' => (by have := List.contains_iff_mem.2 hm'; rw [h.1] at this; cases this), h.2⟩

/-- what the heads yield, and the frame behind them -/
structure Heads (P : Program) (ops : List Oper) (C0 C : World → Prop) (l : List Nat) (fl : Nat → Nat) (V : Nat → Value) (r rH : Env) : Prop where
  at_ : ∀ i ∈ l, ∀ o, ops[i]? = some o → ∀ d, o.dst = some d → rH d = V i
  else_ : ∀ t, (∀ i ∈ l, ∀ o, ops[i]? = some o → o.dst ≠ some t) → rH t = r t
  ok : ∀ i ∈ l, ∀ o, ops[i]? = some o → (wantedE ops.toArray o rH = true ∧ HOk P C0 C o (V i) rH (fl i)) ∨ (wantedE ops.toArray o rH = false ∧ V i = undef)

theorem headsOk_mem {i : Nat} {o : Oper} (ho : ops[i]? = some o) : ∀ (l seen : List Nat), headsOk ops seen l = true → i ∈ l → ∀ d ∈ deps o, lookOut ops o d = false → d ∈ seen ∨ d ∈ l
  | j :: l, seen, h, hi, d, hd, hlo => by
    simp only [headsOk, Bool.and_eq_true] at h
    obtain ⟨h1, h2⟩ := h
    rcases List.mem_cons.1 hi with rfl | hi
    · rw [ho] at h1
      have h3 := List.all_eq_true.1 h1 d hd
      rw [hlo, Bool.or_false] at h3
      exact .inl (List.contains_iff_mem.1 h3)
    · rcases headsOk_mem ho l (j :: seen) h2 hi d hd hlo with h | h
      · rcases List.mem_cons.1 h with rfl | h
        · exact .inr (List.mem_cons_self)
        · exact .inl h
      · exact .inr (List.mem_cons_of_mem _ h)

theorem heads_of {Hs : List Nat} (S : ∀ (i j : Nat) oi oj d, j ∈ Hs → ops[i]? = some oi → ops[j]? = some oj → oj.dst = some d → (d ∈ looks ops oi → i ≠ j ∧ j ∈ deps oi) ∧ (i ≠ j → oi.dst ≠ some d))
    (hs : ∀ (o : Oper), o ∈ ops → ∀ cs b, o.op ≠ .select cs b) {K : Env → Prop} : ∀ (l : List (Nat × Nat)) (seen : List Nat) (r : Env), (∀ i ∈ l.map (·.1), i ∈ Hs) → headsOk ops seen (l.map (·.1)) = true → (l.map (·.1)).Nodup → (∀ i ∈ l.map (·.1), i ∉ seen) →
      (∀ i ∈ l.map (·.1), i < ops.length) → WhD P n ops.toArray C0 C K (picks ops l) r →
      ∃ V rH, K rH ∧ (∀ i ∈ l.map (·.1), ∀ o, ops[i]? = some o → ∀ d, o.dst = some d → d < n) ∧ Heads P ops C0 C (l.map (·.1)) (fun i => ((l.find? (·.1 == i)).map (·.2)).getD 0) V r rH
  | [], _, r, _, _, _, _, _, h => ⟨fun _ => undef, r, h, by simp, ⟨by simp, by simp, by simp⟩⟩
  | (i, fl) :: l, seen, r, hHs, h1, h2, h3, h4, h => by
    have hi : i < ops.length := h4 i (by simp)
    have ho : ops[i]? = some ops[i] := List.getElem?_eq_getElem hi
    generalize ops[i] = o at ho
    simp only [List.map_cons, headsOk, Bool.and_eq_true] at h1
    rw [List.map_cons, List.nodup_cons] at h2
    simp only [picks, ho, WhD] at h
    obtain ⟨hd, h⟩ := h
    -- the first one's value, in the frame that it meets
    obtain ⟨v, hv, hK⟩ : ∃ v, ((wantedE ops.toArray o r = true ∧ HOk P C0 C o v r fl) ∨ (wantedE ops.toArray o r = false ∧ v = undef)) ∧ WhD P n ops.toArray C0 C K (picks ops l) (putO r o.dst v) := by
      by_cases hw : wantedE ops.toArray o r = true
      · rw [if_pos hw] at h
        obtain ⟨v, h5, h6⟩ := h
        exact ⟨v, .inl ⟨hw, h5⟩, h6⟩
      · rw [if_neg hw] at h
        exact ⟨undef, .inr ⟨by simpa using hw, rfl⟩, h⟩
    obtain ⟨V, rH, hk, hn, hH⟩ := heads_of S hs l (i :: seen) (putO r o.dst v) (fun j hj => hHs j (List.mem_cons_of_mem _ hj)) h1.2 h2.2 (fun j hj hm => by
      rcases List.mem_cons.1 hm with rfl | hm
      · exact h2.1 hj
      · exact h3 j (List.mem_cons_of_mem _ hj) hm) (fun j hj => h4 j (List.mem_cons_of_mem _ hj)) hK
    -- slots that o looks at are as they were when it came up
    have keep : ∀ t, (∀ j ∈ l.map (·.1), ∀ oj, ops[j]? = some oj → oj.dst ≠ some t) → o.dst ≠ some t → rH t = r t := fun t ht hot => by
      rw [hH.else_ t ht]
      cases hd' : o.dst with
      | none => rfl
      | some d => rw [hd'] at hot; exact put_other _ _ (fun e => hot (by rw [e]))
    have later : ∀ t ∈ looks ops o, ∀ j ∈ l.map (·.1), ∀ oj, ops[j]? = some oj → oj.dst ≠ some t := fun t ht j hj oj hoj e => by
      have hdep := ((S i j o oj t (hHs j (List.mem_cons_of_mem _ hj)) ho hoj e).1 ht).2
      have h5 := h1.1
      rw [ho] at h5
      have hlo : lookOut ops o j = false := by simp [lookOut, hoj, e, ht]
      have h6 := List.all_eq_true.1 h5 j hdep
      rw [hlo, Bool.or_false] at h6
      have := List.contains_iff_mem.1 h6
      exact h3 j (List.mem_cons_of_mem _ hj) this
    have agree : Agree (o.looksAt ops.toArray) r rH := fun t ht => (keep t (later t ht) (fun e => ((S i i o o t (hHs i (by simp)) ho ho e).1 ht).1 rfl)).symm
    refine ⟨fun j => if j = i then v else V j, rH, hk, fun j hj oj hoj d hdj => ?_, ⟨fun j hj oj hoj d hdj => ?_, fun t ht => ?_, fun j hj oj hoj => ?_⟩⟩
    · rcases List.mem_cons.1 hj with rfl | hj
      · have : oj = o := Option.some.inj (hoj.symm.trans ho)
        subst this; exact hd d hdj
      · exact hn j hj oj hoj d hdj
    · rcases List.mem_cons.1 hj with rfl | hj
      · have : oj = o := Option.some.inj (hoj.symm.trans ho)
        subst this
        rw [if_pos rfl, hH.else_ d (fun k hk ok hok e => ((S k j ok oj d (hHs j (by simp)) hok ho hdj).2 (fun e => h2.1 (by rw [← e]; exact hk)) e)), hdj]
        exact put_same _ _ _
      · rw [if_neg (fun e => h2.1 (by rw [← e]; exact hj))]
        exact hH.at_ j hj oj hoj d hdj
    · exact keep t (fun j hj => ht j (List.mem_cons_of_mem _ hj)) (ht i (by simp) o ho)
    · rcases List.mem_cons.1 hj with rfl | hj
      · have : oj = o := Option.some.inj (hoj.symm.trans ho)
        subst this
        rw [if_pos rfl, ← wanted_agree agree]
        have hfl : ((((j, fl) :: l).find? (·.1 == j)).map (·.2)).getD 0 = fl := by simp
        rw [hfl]
        rcases hv with ⟨h5, h6⟩ | h5
        · exact .inl ⟨h5, h6.agree (hs oj (List.mem_of_getElem? ho)) fun t ht => (agree t ht).symm⟩
        · exact .inr h5
      · have hne : j ≠ i := fun e => h2.1 (by rw [← e]; exact hj)
        rw [if_neg hne]
        have hfl : ((((i, fl) :: l).find? (·.1 == j)).map (·.2)).getD 0 = ((l.find? (·.1 == j)).map (·.2)).getD 0 := by
          rw [List.find?_cons_of_neg (by simpa using Ne.symm hne)]
        rw [hfl]
        exact hH.ok j hj oj hoj


/-- one that has not come up waits -/
theorem some_ready {listed : Array Bool} (lower : ∀ i o, ops[i]? = some o → ∀ d ∈ deps o, d < i) {i : Nat} (hi : i < ops.length) (h : listed.getD i false = false) (hs : listed.size = ops.length) : Region.ready .any ops.toArray listed ≠ [] := by
  obtain ⟨m, ⟨hm1, hm2⟩, hmin⟩ := least (p := fun i => i < ops.length ∧ listed.getD i false = false) i ⟨hi, h⟩
  intro e
  have : m ∈ Region.ready .any ops.toArray listed := by
    rw [mem_ready]
    refine ⟨?_, ops[m], by simp [hm1], fun e he hb => ?_⟩
    · have hlt : m < listed.size := by rw [hs]; exact hm1
      simp [Array.getD, hlt] at hm2 ⊢
      exact hm2
    · have hd : e.on < m := lower m ops[m] (List.getElem?_eq_getElem hm1) e.on (mem_deps.2 ⟨e, he, hb, rfl⟩)
      cases hl : listed.getD e.on false with
      | true => rfl
      | false => exact absurd (hmin e.on ⟨by omega, hl⟩) (by omega)
  rw [e] at this
  cases this

def flOf (H : List (Nat × Nat)) (i : Nat) : Nat := ((H.find? (·.1 == i)).map (·.2)).getD 0
theorem flOf_mem {H : List (Nat × Nat)} {i : Nat} (h : i ∈ H.map (·.1)) : (i, flOf H i) ∈ H := by
  obtain ⟨⟨j, f⟩, hj, rfl⟩ := List.mem_map.1 h
  unfold flOf
  cases hf : H.find? (fun x => x.1 == j) with
  | none => exact absurd (List.find?_eq_none.1 hf (j, f) hj) (by simp)
  | some x =>
    have h1 := List.find?_some hf
    have h2 := List.mem_of_find?_eq_some hf
    obtain ⟨x1, x2⟩ := x
    simp only [beq_iff_eq] at h1
    subst h1
    simpa using h2

theorem anyAux {D : List Nat} {H : List (Nat × Nat)} {T : Tr} (S : Sound ops D H T) {V : Nat → Value} {r rH : Env} (hH : Heads P ops C0 C (H.map (·.1)) (flOf H) V r rH)
    (hn : ∀ i ∈ H.map (·.1), ∀ o, ops[i]? = some o → ∀ d, o.dst = some d → d < n)
    {R : List Nat} (hR : ∀ i ∈ R, i ∉ H.map (·.1) ∧ i ∉ T.idx ∧ ∀ j, j ∈ H.map (·.1) ∨ j ∈ T.idx → ((masks ops).getD i 0).testBit j = true) {m : Nat}
    (hCC : ∀ w, C0 w → C w) (hG0 : ∀ w w', C0 w → Gr w w' → C0 w') (hG : ∀ w w', C w → Gr w w' → C w') (hT : ∀ w, C0 w → WtR P n ops C K T rH w) {Q : Exit → Act → World → Prop}
    (hQ : ∀ a r w listed, Fits n r a → K r w → listed.size = ops.length → (∀ i, i < ops.length → (listed.getD i false = false ↔ i ∈ R)) → Closed ops (fun i => listed.getD i false = true) → wpAny P .any ops.toArray Q m listed a w) :
    ∀ (fuel : Nat) (hU pre U : List Nat) (tr : Tr) (listed : Array Bool) (ra rs : Env) (a : Act) (w : World),
      listed.size = ops.length → (∀ i ∈ hU, i ∈ H.map (·.1)) → hU.Nodup → (((∀ j, j ∈ pre ∨ j ∈ U → j ∈ T.idx) ∧ (∀ j ∈ pre, j ∉ U) ∧ U.Nodup) ∧ okTr (masks ops) U tr = true ∧ tr.flags (masks ops) H = true) →
      (∀ i, i < ops.length → (listed.getD i false = false ↔ (i ∈ hU ∨ i ∈ U) ∨ i ∈ R)) →
      Closed ops (fun i => listed.getD i false = true) →
      fuel = hU.length + U.length → Fits n ra a →
      (∀ t, (∀ h ∈ hU, ∀ o, ops[h]? = some o → o.dst ≠ some t) → ra t = rs t) →
      (∀ t, (∀ i ∈ pre, ∀ o, ops[i]? = some o → o.dst ≠ some t) → rs t = rH t) →
      ((C0 w ∧ rs = rH ∧ tr = T) ∨ (WtR P n ops C K tr rs w ∧ (∀ h ∈ hU, flOf H h ≠ 0) ∧ (∀ h ∈ hU, flOf H h = 1 → C w))) →
      wpAny P .any ops.toArray Q (m + fuel) listed a w := by
  intro fuel
  induction fuel with
  | zero =>
    intro hU pre U tr listed ra rs a w hs hsub hnd ⟨⟨hTe, hpU, hUn⟩, hok, hfl0⟩ hun hcl hf ha hra hrs hst
    have h1 : hU = [] := List.eq_nil_of_length_eq_zero (by omega)
    have h2 : U = [] := List.eq_nil_of_length_eq_zero (by omega)
    subst h1 h2
    have hee : ra = rs := funext fun t => hra t (by simp)
    subst hee
    refine hQ a ra w listed ha ?_ hs (fun i hi => ?_) hcl
    · simp only [okTr, Bool.and_eq_true] at hok
      rcases hst with ⟨hc, rfl, rfl⟩ | ⟨hw, _⟩
      · exact (hT w hc).none hok.2
      · exact hw.none hok.2
    · rw [hun i hi]; simp
  | succ fuel ih =>
    intro hU pre U tr listed ra rs a w hs hsub hnd ⟨⟨hTe, hpU, hUn⟩, hok, hfl0⟩ hun hcl hf ha hra hrs hst
    refine ⟨fun he => ?_, fun i hi => ?_⟩
    · exfalso
      have : ∃ i, i < ops.length ∧ listed.getD i false = false := by
        cases hU with
        | cons h _ =>
          have hlt := S.inside h (.inl (hsub h (by simp)))
          exact ⟨h, hlt, (hun h hlt).2 (.inl (.inl (by simp)))⟩
        | nil =>
          cases U with
          | nil => simp at hf
          | cons t _ =>
            have hlt := S.inside t (.inr (hTe t (.inr (by simp))))
            exact ⟨t, hlt, (hun t hlt).2 (.inl (.inr (by simp)))⟩
      obtain ⟨i, h1, h2⟩ := this
      exact some_ready S.lower h1 h2 hs he
    · rw [mem_ready] at hi
      obtain ⟨hi1, o, ho', hall⟩ := hi
      have ho : ops[i]? = some o := by simpa using ho'
      have hlt : i < ops.length := (List.getElem?_eq_some_iff.1 ho).1
      have hdeps : ∀ d ∈ deps o, listed.getD d false = true := fun d hd => by
        obtain ⟨e, he, hb, rfl⟩ := mem_deps.1 hd
        exact hall e he hb
      have hbit : ∀ k, ((masks ops).getD i 0).testBit k = true → listed.getD k false = true := fun k hk => masks_good hcl ho hdeps hk
      have hmem : i ∈ hU ∨ i ∈ U := by
        rcases (hun i hlt).1 (getD_both hi1) with h | h
        · exact h
        · exfalso
          have hx : ∃ j, (j ∈ H.map (·.1) ∨ j ∈ T.idx) ∧ listed.getD j false = false := by
            cases hU with
            | cons h _ =>
              have hlt := S.inside h (.inl (hsub h (by simp)))
              exact ⟨h, .inl (hsub h (by simp)), (hun h hlt).2 (.inl (.inl (by simp)))⟩
            | nil =>
              cases U with
              | nil => simp at hf
              | cons t _ =>
                have ht := hTe t (.inr (by simp))
                have hlt := S.inside t (.inr ht)
                exact ⟨t, .inr ht, (hun t hlt).2 (.inl (.inr (by simp)))⟩
          obtain ⟨j, hj, hl⟩ := hx
          have := hbit j ((hR i h).2.2 j hj)
          rw [hl] at this; cases this
      have hset : ∀ j, (listed.setIfInBounds i true).getD j false = if j = i then true else listed.getD j false := fun j => by
        by_cases hj : j = i
        · subst hj; rw [if_pos rfl]; simp [Array.getD, hs, hlt]
        · rw [if_neg hj, getD_set_ne false (Ne.symm hj)]
      have hcl' : Closed ops (fun j => (listed.setIfInBounds i true).getD j false = true) := fun j oj hoj hl d hd => by
        dsimp only at hl ⊢
        rw [hset] at hl ⊢
        by_cases hdi : d = i
        · rw [if_pos hdi]
        · rw [if_neg hdi]
          by_cases hj : j = i
          · subst hj
            have : oj = o := Option.some.inj (hoj.symm.trans ho)
            subst this
            exact hdeps d hd
          · rw [if_neg hj] at hl
            exact hcl j oj hoj hl d hd
      have notHU : ∀ t ∈ looks ops o, ∀ h ∈ hU, ∀ oh, ops[h]? = some oh → oh.dst ≠ some t := fun t ht h hh oh hoh e => by
        have h1 := (((S.data i h o oh t ho hoh e).1 ht).resolve_right fun hx => hx.1 (hsub h hh)).2
        have h2 := (hun h (S.inside h (.inl (hsub h hh)))).2 (.inl (.inl hh))
        rw [hdeps h h1] at h2
        cases h2
      have hsel : ∀ cs b, o.op ≠ .select cs b := S.noSel o (List.mem_of_getElem? ho)
      unfold wpOp
      rw [show ops.toArray[i]? = some o from ho']
      dsimp only
      rw [wantedE_eq ha]
      rcases hmem with hm | hm
      · -- a head
        have hnotT : i ∉ T.idx := fun h => (List.nodup_append.1 S.nodup).2.2 i (hsub i hm) i h rfl
        have agree : Agree (o.looksAt ops.toArray) ra rH := fun t ht => by
          rw [hra t (notHU t ht), hrs t]
          intro k hk ok hok e
          have hkT : k ∈ T.idx := hTe k (.inl hk)
          rcases (S.data i k o ok t ho hok e).1 ht with ⟨_, h1⟩ | ⟨_, h1⟩
          · rcases headsOk_mem ho _ D S.heads (hsub i hm) k h1 (by simp [lookOut, hok, e, show t ∈ looks ops o from ht]) with h | h
            · exact (S.apart k h).2 hkT
            · exact (List.nodup_append.1 S.nodup).2.2 k h k hkT rfl
          · have hkl : k < ops.length := (List.getElem?_eq_some_iff.1 hok).1
            have hlk : listed.getD k false = true := by
              cases hb : listed.getD k false with
              | true => rfl
              | false =>
                rcases (hun k hkl).1 hb with (h | h) | h
                · exact absurd rfl ((List.nodup_append.1 S.nodup).2.2 k (hsub k h) k hkT)
                · exact absurd h (hpU k hk)
                · exact absurd hkT (hR k h).2.1
            have := masks_good hcl hok (fun d hd => hcl k ok hok hlk d hd) h1
            rw [(hun i hlt).2 (.inl (.inl hm))] at this
            cases this
        have hdst : ∀ d, o.dst = some d → rs d = V i := fun d hd => by
          rw [hrs d (fun k hk ok hok e => (S.data k i ok o d hok ho hd).2 (fun h => hnotT (hTe i (.inl (h ▸ hk)))) e)]
          exact hH.at_ i (hsub i hm) o ho d hd
        have next : ∀ w', ((C0 w' ∧ rs = rH ∧ tr = T) ∨ (WtR P n ops C K tr rs w' ∧ (∀ h ∈ hU, flOf H h ≠ 0) ∧ (∀ h ∈ hU, flOf H h = 1 → C w'))) →
            wpAny P .any ops.toArray Q (m + fuel) (listed.setIfInBounds i true) (a.put o.dst (V i)) w' := fun w' hst' => by
          refine ih (hU.erase i) pre U tr _ (putO ra o.dst (V i)) rs _ w' (by simp [hs]) (fun j hj => hsub j (List.mem_of_mem_erase hj)) (hnd.erase i) ⟨⟨hTe, hpU, hUn⟩, hok, hfl0⟩ (fun j hj => ?_) hcl' ?_
            (ha.putO (fun d hd => hn i (hsub i hm) o ho d hd) _) (fun t ht => ?_) hrs ?_
          · rw [hset]
            by_cases hji : j = i
            · subst hji
              rw [if_pos rfl]
              constructor
              · intro h; cases h
              · rintro ((h | h) | h)
                · exact absurd h (hnd.not_mem_erase)
                · exact absurd (hTe j (.inr h)) hnotT
                · exact absurd (hsub j hm) (hR j h).1
            · rw [if_neg hji, hun j hj, List.mem_erase_of_ne hji]
          · rw [List.length_erase_of_mem hm]; have := List.length_pos_of_mem hm; omega
          · by_cases hd : o.dst = some t
            · rw [hd]; simp only [putO, put_same]; exact (hdst t hd).symm
            · have e1 : putO ra o.dst (V i) t = ra t := by
                cases hd' : o.dst with
                | none => rfl
                | some d => exact put_other _ _ (fun e => hd (by rw [hd', e]))
              rw [e1]
              refine hra t fun h hh oh hoh => ?_
              by_cases hhi : h = i
              · subst hhi
                have : oh = o := Option.some.inj (hoh.symm.trans ho)
                subst this; exact hd
              · exact ht h ((List.mem_erase_of_ne hhi).2 hh) oh hoh
          · rcases hst' with h | ⟨h1, h2, h3⟩
            · exact .inl h
            · exact .inr ⟨h1, fun h hh => h2 h (List.mem_of_mem_erase hh), fun h hh => h3 h (List.mem_of_mem_erase hh)⟩
        rw [wanted_agree agree]
        rcases hH.ok i (hsub i hm) o ho with ⟨hw, hq⟩ | ⟨hw, hv⟩
        · rw [if_pos hw]
          refine .inl ?_
          have hq := HOk.agree hsel agree hq
          have sameCase : Same P o ra w (V i) → o.wp P a w (wpAny P .any ops.toArray Q (m + fuel) (listed.setIfInBounds i true)) Q := fun h => by
            unfold Oper.wp
            rw [ha.eval]
            cases h with
            | value h => rw [h]; exact next w hst
            | skip h k => rw [h]; show wpAny _ _ _ _ _ _ (a.put o.dst undef) w; rw [← k]; exact next w hst
          cases hfl : flOf H i with
          | zero =>
            rw [hfl] at hq
            rcases hst with ⟨hc, h1, h2⟩ | ⟨_, h2, _⟩
            · cases hq w hc with
              | same h => exact sameCase h
              | enter h k =>
                unfold Oper.wp
                rw [ha.eval, h]
                exact k.mono fun e w' ⟨he, hc'⟩ => by subst he; exact next w' (.inl ⟨hc', h1, h2⟩)
            · exact absurd hfl (h2 i hm)
          | succ f =>
            cases f with
            | zero =>
              rw [hfl] at hq
              refine sameCase (hq w ?_)
              rcases hst with ⟨hc, _⟩ | ⟨_, _, h3⟩
              · exact hCC _ hc
              · exact h3 i hm hfl
            | succ f =>
              cases f with
              | zero => rw [hfl] at hq; exact sameCase (hq w)
              | succ f =>
                rw [hfl] at hq
                cases hq w with
                | same h => exact sameCase h
                | enter h k =>
                  unfold Oper.wp
                  rw [ha.eval, h]
                  refine k.mono fun e w' ⟨he, hg⟩ => ?_
                  subst he
                  refine next w' ?_
                  rcases hst with ⟨hc, h1, h2⟩ | ⟨h1, h2, h3⟩
                  · exact .inl ⟨hG0 w w' hc hg, h1, h2⟩
                  · exact .inr ⟨h1.gr hg, h2, fun h hh e => hG w w' (h3 h hh e) hg⟩
        · rw [if_neg (by rw [hw]; simp)]
          rw [← hv]
          exact next w hst
      · -- the tail
        simp only [okTr, Bool.and_eq_true] at hok
        have hfi : i ∈ tr.firsts := by
          have h1 := List.all_eq_true.1 hok.1 i hm
          rw [Bool.or_eq_true] at h1
          rcases h1 with h1 | h1
          · exact List.contains_iff_mem.1 h1
          · exfalso
            obtain ⟨k, hk, hb⟩ := List.any_eq_true.1 h1
            have h1 := hbit k hb
            have h2 := (hun k (S.inside k (.inr (hTe k (.inr hk))))).2 (.inl (.inr hk))
            rw [h1] at h2; cases h2
        have hwt0 : WtR P n ops C K tr rs w := by
          rcases hst with ⟨hc, h1, h2⟩ | ⟨h1, _⟩
          · rw [h1, h2]; exact hT w hc
          · exact h1
        obtain ⟨fl, tl, hok', hfla, hflb, hwt⟩ := hwt0.first hfi hok.2 hfl0
        have hflags : ∀ h ∈ hU, flOf H h ≠ 0 ∧ (flOf H h = 1 → fl = true) := fun h hh => by
          have h1 := List.all_eq_true.1 hfla (h, flOf H h) (flOf_mem (hsub h hh))
          have h2 : ((masks ops).getD i 0).testBit h = false := by
            cases hb : ((masks ops).getD i 0).testBit h with
            | false => rfl
            | true =>
              have h3 := hbit h hb
              rw [(hun h (S.inside h (.inl (hsub h hh)))).2 (.inl (.inl hh))] at h3
              cases h3
          dsimp only at h1
          rw [h2, Bool.or_false] at h1
          refine ⟨fun e => ?_, fun e => ?_⟩
          · rw [e] at h1; cases h1
          · rw [e] at h1; exact h1
        have hCw : ∀ h ∈ hU, flOf H h = 1 → C w := fun h hh e => by
          rcases hst with ⟨hc, _⟩ | ⟨_, _, h3⟩
          · exact hCC _ hc
          · exact h3 h hh e
        obtain ⟨hd, hwt⟩ := hwt.1 o ho
        have hwt := hwt w (.refl w)
        have agree : Agree (o.looksAt ops.toArray) ra rs := fun t ht => hra t (notHU t ht)
        have hnotH : i ∉ H.map (·.1) := fun h => (List.nodup_append.1 S.nodup).2.2 i h i (hTe i (.inr hm)) rfl
        have next : ∀ v w', (∀ h ∈ hU, flOf H h = 1 → C w') → WtR P n ops C K tl (putO rs o.dst v) w' →
            wpAny P .any ops.toArray Q (m + fuel) (listed.setIfInBounds i true) (a.put o.dst v) w' := fun v w' hc' hw' => by
          refine ih hU (pre ++ [i]) (U.erase i) tl _ (putO ra o.dst v) (putO rs o.dst v) _ w' (by simp [hs]) hsub hnd ⟨⟨fun j hj => ?_, fun j hj hjU => ?_, hUn.erase i⟩, hok', hflb⟩ (fun j hj => ?_) hcl' (by rw [List.length_erase_of_mem hm]; have := List.length_pos_of_mem hm; omega) (ha.putO hd _) (fun t ht => ?_) (fun t ht => ?_)
            (.inr ⟨hw', fun h hh => (hflags h hh).1, hc'⟩)
          · rcases hj with hj | hj
            · rcases List.mem_append.1 hj with hj | hj
              · exact hTe j (.inl hj)
              · rw [List.mem_singleton.1 hj]; exact hTe i (.inr hm)
            · exact hTe j (.inr (List.mem_of_mem_erase hj))
          · rcases List.mem_append.1 hj with hj | hj
            · exact hpU j hj (List.mem_of_mem_erase hjU)
            · rw [List.mem_singleton.1 hj] at hjU
              exact hUn.not_mem_erase hjU
          · rw [hset]
            by_cases hji : j = i
            · subst hji
              rw [if_pos rfl]
              constructor
              · intro h; cases h
              · rintro ((h | h) | h)
                · exact absurd (hsub j h) hnotH
                · exact absurd h hUn.not_mem_erase
                · exact absurd (hTe j (.inr hm)) (hR j h).2.1
            · rw [if_neg hji, hun j hj, List.mem_erase_of_ne hji]
          · cases hd' : o.dst with
            | none => exact hra t ht
            | some d =>
              by_cases htd : t = d
              · subst htd; simp only [putO, put_same]
              · simp only [putO, put_other _ _ htd]; exact hra t ht
          · have ht' : ∀ i ∈ pre, ∀ o, ops[i]? = some o → o.dst ≠ some t := fun k hk => ht k (List.mem_append_left _ hk)
            cases hd' : o.dst with
            | none => exact hrs t ht'
            | some d =>
              have htd : t ≠ d := fun e => ht i (by simp) o ho (by rw [hd', e])
              simp only [putO, put_other _ _ htd]; exact hrs t ht'
        rw [wanted_agree agree]
        by_cases hw : wantedE ops.toArray o rs = true
        · rw [if_pos hw] at hwt ⊢
          exact .inl ((hwt.agree hsel agree).wp ha.eval fun v w' q => next v w' (fun h hh e => q.1 ((hflags h hh).2 e)) q.2)
        · rw [if_neg hw] at hwt ⊢
          exact next _ w hCw hwt

/-- phase behind phase -/
def PhD (P : Program) (n : Nat) (ops : List Oper) (Q : Env → World → Prop) : List (List (Nat × Nat) × Tr) → Env → World → Prop
  | [], r, w => Q r w
  | q :: l, r, w => ∃ C0 C : World → Prop, (∀ w, C0 w → C w) ∧ ((∀ w w', C0 w → Gr w w' → C0 w') ∧ ∀ w w', C w → Gr w w' → C w') ∧ C0 w ∧ Wh P n ops.toArray C0 C (fun r' => ∀ w', C0 w' → WtR P n ops C (PhD P n ops Q l) q.2 r' w') (picks ops q.1) r

theorem okPhases_apart {m : List Nat} : ∀ (l : List (List (Nat × Nat) × Tr)) (D : List Nat), okPhases ops m D l = true → ∀ q ∈ l, ∀ i ∈ idxOf q, i ∉ D
  | q :: l, D, h, q', hq, i, hi => by
    simp only [okPhases, Bool.and_eq_true] at h
    obtain ⟨⟨h1, h2⟩, h3⟩ := h
    rcases List.mem_cons.1 hq with rfl | hq
    · simp only [okPhase, Bool.and_eq_true, decide_eq_true_eq] at h1
      intro hD
      exact (List.nodup_append.1 h1.1.1.1.1.1).2.2 i hD i hi rfl
    · exact fun hD => okPhases_apart l _ h3 q' hq i hi (List.mem_append_left _ hD)
theorem okPhases_all {m : List Nat} : ∀ (l : List (List (Nat × Nat) × Tr)) (D : List Nat), okPhases ops m D l = true → ∀ i, i < ops.length → i ∈ D ∨ i ∈ l.flatMap idxOf
  | [], D, h, i, hi => .inl (List.contains_iff_mem.1 (List.all_eq_true.1 h i (List.mem_range.2 hi)))
  | q :: l, D, h, i, hi => by
    simp only [okPhases, Bool.and_eq_true] at h
    rcases okPhases_all l _ h.2 i hi with h | h
    · rcases List.mem_append.1 h with h | h
      · exact .inl h
      · exact .inr (by simp [h])
    · exact .inr (by rw [List.flatMap_cons]; exact List.mem_append_right _ h)

theorem anyPhases (hlow : ∀ i o, ops[i]? = some o → ∀ d ∈ deps o, d < i) (hsel : ∀ (o : Oper), o ∈ ops → ∀ cs b, o.op ≠ .select cs b) {Q : Exit → Act → World → Prop} {K : Env → World → Prop} (hQ : ∀ a r w, Fits n r a → K r w → Q .normal a w) :
    ∀ (l : List (List (Nat × Nat) × Tr)) (D : List Nat) (listed : Array Bool) (r : Env) (a : Act) (w : World), okPhases ops (masks ops) D l = true → listed.size = ops.length →
      (∀ i, i < ops.length → (listed.getD i false = false ↔ i ∈ l.flatMap idxOf)) → Closed ops (fun i => listed.getD i false = true) → Fits n r a → PhD P n ops K l r w →
      wpAny P .any ops.toArray Q (l.flatMap idxOf).length listed a w
  | [], D, listed, r, a, w, hok, hs, hun, hcl, ha, h => by
    refine ⟨?_, hQ a r w ha h⟩
    rw [List.eq_nil_iff_forall_not_mem]
    intro i hi
    rw [mem_ready] at hi
    obtain ⟨h3, o, ho, _⟩ := hi
    have hlt : i < ops.length := by simpa using (Array.getElem?_eq_some_iff.1 ho).1
    have := (hun i hlt).1 (getD_both h3)
    simp at this
  | q :: l, D, listed, r, a, w, hok, hs, hun, hcl, ha, h => by
    obtain ⟨H, T⟩ := q
    have hap := okPhases_apart _ _ hok
    simp only [okPhases, Bool.and_eq_true] at hok
    obtain ⟨⟨h1, h2⟩, h3⟩ := hok
    obtain ⟨C0, C, hCC, ⟨hG0, hG⟩, hC, h⟩ := h
    have S := Sound.of h1 hlow hsel
    obtain ⟨V, rH, hK, hn, hH⟩ := heads_of (Hs := H.map (·.1)) (fun i j oi oj d hj hi hj' hd => ⟨fun hm => ((S.data i j oi oj d hi hj' hd).1 hm).resolve_right fun hx => hx.1 hj, (S.data i j oi oj d hi hj' hd).2⟩) hsel H D r (fun _ h => h) S.heads (List.nodup_append.1 S.nodup).1 (fun i hi hD => (S.apart i hD).1 hi) (fun i hi => S.inside i (.inl hi)) h.out
    have hnd := S.nodup
    have hlen : (((H, T) :: l).flatMap idxOf).length = (l.flatMap idxOf).length + ((H.map (·.1)).length + T.idx.length) := by
      rw [List.flatMap_cons, List.length_append, idxOf, List.length_append]; simp; omega
    rw [hlen]
    refine anyAux S (V := V) (r := r) (rH := rH) (R := l.flatMap idxOf) hH hn (fun i hi => ?_) hCC hG0 hG hK (fun a r w listed ha hk hs hun hcl => anyPhases hlow hsel hQ l _ listed r a w h3 hs hun hcl ha hk) _ (H.map (·.1)) [] T.idx T _ r rH a _ hs (fun _ h => h) (List.nodup_append.1 hnd).1 ⟨⟨fun j hj => hj.resolve_left (by simp), by simp, (List.nodup_append.1 hnd).2.1⟩, S.tree, S.flags⟩ (fun i hi => ?_) hcl rfl ha (fun t ht => ?_) (fun _ _ => rfl) (.inl ⟨hC, rfl, rfl⟩)
    · obtain ⟨q', hq', hi⟩ := List.mem_flatMap.1 hi
      have hni := okPhases_apart _ _ h3 q' hq' i hi
      rw [List.mem_append, not_or] at hni
      refine ⟨fun hm => hni.2 (List.mem_append_left _ hm), fun hm => hni.2 (List.mem_append_right _ hm), fun j hj => ?_⟩
      exact List.all_eq_true.1 (List.all_eq_true.1 (List.all_eq_true.1 h2 q' hq') i hi) j (List.mem_append.2 hj)
    · rw [hun i hi, List.flatMap_cons, List.mem_append, idxOf, List.mem_append]
    · exact (hH.else_ t ht).symm

theorem Wc.draw {id : Nat} {ops : List Oper} {r : Env} {w : World} {Q : Post} (hm : P.follows .mixedOrders = true) (l : List (List (Nat × Nat) × Tr)) (hok : okRegion ops l = true)
    (h : PhD P n ops Q.normal l r { w with drawn := w.drawn + 1 }) : Wc P n (.region id ops.toArray true) Q r w := by
  refine ⟨fun a ha => wp_region_any hm ?_⟩
  simp only [okRegion, Bool.and_eq_true] at hok
  obtain ⟨⟨h1, h2⟩, h3⟩ := hok
  have hin : ∀ i ∈ l.flatMap idxOf, i < ops.length := fun i hi => by
    have : ∀ (l : List (List (Nat × Nat) × Tr)) (D : List Nat), okPhases ops (masks ops) D l = true → ∀ i ∈ l.flatMap idxOf, i < ops.length := by
      intro l
      induction l with
      | nil => intro _ _ i hi; simp at hi
      | cons q l ih =>
        intro D hok i hi
        simp only [okPhases, Bool.and_eq_true] at hok
        rw [List.flatMap_cons, List.mem_append] at hi
        rcases hi with hi | hi
        · exact (Sound.of hok.1.1 (lower_of h2) (noSel_of h3)).inside i (List.mem_append.1 hi)
        · exact ih _ hok.2 i hi
    exact this l [] h1 i hi
  have hnd : (l.flatMap idxOf).Nodup := by
    have : ∀ (l : List (List (Nat × Nat) × Tr)) (D : List Nat), okPhases ops (masks ops) D l = true → (l.flatMap idxOf).Nodup := by
      intro l
      induction l with
      | nil => intro _ _; simp
      | cons q l ih =>
        intro D hok
        simp only [okPhases, Bool.and_eq_true] at hok
        rw [List.flatMap_cons, List.nodup_append]
        refine ⟨(Sound.of hok.1.1 (lower_of h2) (noSel_of h3)).nodup, ih _ hok.2, fun a ha b hb e => ?_⟩
        subst e
        obtain ⟨q', hq', hb⟩ := List.mem_flatMap.1 hb
        exact okPhases_apart _ _ hok.2 q' hq' a hb (List.mem_append_right _ ha)
    exact this l [] h1
  have hlen : (l.flatMap idxOf).length = ops.length := by
    have hp : (l.flatMap idxOf).Perm (List.range ops.length) := by
      rw [List.perm_ext_iff_of_nodup hnd List.nodup_range]
      intro i
      rw [List.mem_range]
      refine ⟨hin i, fun hi => ?_⟩
      rcases okPhases_all l [] h1 i hi with h | h
      · cases h
      · exact h
    simpa using hp.length_eq
  have hgo := anyPhases (n := n) (P := P) (lower_of h2) (noSel_of h3) (Q := Q.lift n) (K := Q.normal) (fun a r w ha hk => ⟨r, ha, hk⟩) l [] (Array.replicate ops.toArray.size false) r a _ h1 (by simp) (fun i hi => ?_) (fun i o _ hl => ?_) ha h
  · rw [hlen] at hgo
    exact hgo
  · constructor
    · intro _
      rcases okPhases_all l [] h1 i hi with h | h
      · cases h
      · exact h
    · intro _; exact getD_replicate_false _ _
  · have := getD_replicate_false ops.toArray.size i
    dsimp only at hl
    rw [this] at hl; cases hl
end
end Go.Dor
end

section
/- WHAT A CALL KNOWS OF MEMORY: blocks of its own, slices of its own, slices that it reads. Plain lemmas over any program. -/
namespace Go.Dor
open Go.RowKit (Below)

def cells (s : List (List Value)) : Array Value := s.flatten.toArray
def ag (s : List (List Value)) : Value := .agg (cells s)

theorem cells_ag (s : List (List Value)) : (ag s).cells = cells s := rfl

/-- the block that a slice's cells lie in, if it has any -/
def vfoot : Value → Option Nat
  | .slice (some a) _ cap => if cap = 0 then none else some a.block
  | _ => none

/-- v reads as the elements xs, of z cells each -/
def Rd (w : World) (v : Value) (z : Nat) (xs : List (List Value)) : Prop :=
  (∀ x ∈ xs, x.length = z) ∧ (((∃ a, v = .slice a 0 0) ∧ xs = []) ∨
    ∃ g off cap cur t fz, v = .slice (some ⟨g, off, none⟩) xs.length cap ∧ xs.length ≤ cap ∧ w.heap[g]? = some (.cells cur t fz) ∧ ∀ (j : Nat) x, xs.flatten[j]? = some x → cur[off + j]? = some x)

/-- v is a slice from the beginning of a row of the call's own -/
def Own (w : World) (v : Value) (t : TypeId) (z : Nat) (xs : List (List Value)) : Prop :=
  (∀ x ∈ xs, x.length = z) ∧ (((∃ a, v = .slice a 0 0 ∧ ∀ p, a = some p → p.block < w.heap.size) ∧ xs = []) ∨
    ∃ g cap cur fz, v = .slice (some ⟨g, 0, none⟩) xs.length cap ∧ xs.length ≤ cap ∧ cap ≤ maxLen ∧ w.heap[g]? = some (.cells cur t fz) ∧ (∀ j, j < cur.size ∨ (j = cur.size ∧ z ≠ 1) → ¬ (fz.1 ≤ j ∧ j < fz.2)) ∧
      cur.size = cap * z ∧ ∀ (j : Nat) x, xs.flatten[j]? = some x → cur[j]? = some x)

theorem Own.rd {w : World} {v : Value} {t : TypeId} {z : Nat} {xs : List (List Value)} (h : Own w v t z xs) : Rd w v z xs := by
  refine ⟨h.1, ?_⟩
  rcases h.2 with ⟨⟨a, h, _⟩, hx⟩ | ⟨g, cap, cur, fz, h1, h2, _, h3, _, _, h4⟩
  · exact .inl ⟨⟨a, h⟩, hx⟩
  · exact .inr ⟨g, 0, cap, cur, t, fz, h1, h2, h3, by simpa using h4⟩

inductive Res where
  | blk (b : Nat) (t : TypeId) (s : List (List Value))
  | own (v : Value) (t : TypeId) (z : Nat) (xs : List (List Value))
  | ro (v : Value) (z : Nat) (xs : List (List Value))
  | emp

def Res.holds (w : World) : Res → Prop
  | .blk b t s => w.heap[b]? = some (.cells (cells s) t (0, 0))
  | .own v t z xs => Own w v t z xs
  | .ro v z xs => Rd w v z xs
  | .emp => True

def Res.foot : Res → Option Nat
  | .blk b _ _ => some b
  | .own v _ _ _ => vfoot v
  | .ro v _ _ => vfoot v
  | .emp => none

def Res.mine : Res → Bool
  | .ro .. => false
  | _ => true

def Apart (x y : Res) : Prop := (x.mine = true ∨ y.mine = true) → ∀ b, x.foot = some b → y.foot ≠ some b

theorem Apart.symm {x y : Res} (h : Apart x y) : Apart y x := fun hm b hb hx => h hm.symm b hx hb

theorem heap_lt {w : World} {b : Nat} {o : Obj} (h : w.heap[b]? = some o) : b < w.heap.size := (Array.getElem?_eq_some_iff.1 h).1

theorem Rd.lt {w : World} {v : Value} {z : Nat} {xs : List (List Value)} (h : Rd w v z xs) : ∀ b, vfoot v = some b → b < w.heap.size := by
  intro b hb
  rcases h.2 with ⟨⟨a, rfl⟩, _⟩ | ⟨g, off, cap, cur, t, fz, rfl, _, hg, _⟩
  · cases a <;> simp [vfoot] at hb
  · simp only [vfoot] at hb
    split at hb
    · cases hb
    · simp only [Option.some.injEq] at hb
      subst hb; exact heap_lt hg

theorem Rd.kept {w w' : World} {v : Value} {z : Nat} {xs : List (List Value)} (h : Rd w v z xs) (hb : ∀ b, vfoot v = some b → w'.heap[b]? = w.heap[b]?) : Rd w' v z xs := by
  refine ⟨h.1, ?_⟩
  rcases h.2 with h | ⟨g, off, cap, cur, t, fz, rfl, hc, hg, hx⟩
  · exact .inl h
  · by_cases h0 : cap = 0
    · subst h0
      have hx0 : xs = [] := List.eq_nil_of_length_eq_zero (by omega)
      subst hx0
      exact .inl ⟨⟨_, rfl⟩, rfl⟩
    · exact .inr ⟨g, off, cap, cur, t, fz, rfl, hc, (hb g (by simp [vfoot, h0])).trans hg, hx⟩

theorem Own.kept {w w' : World} {v : Value} {t : TypeId} {z : Nat} {xs : List (List Value)} (h : Own w v t z xs) (hs : w.heap.size ≤ w'.heap.size) (hb : ∀ b, vfoot v = some b → w'.heap[b]? = w.heap[b]?) : Own w' v t z xs := by
  refine ⟨h.1, ?_⟩
  rcases h.2 with ⟨⟨a, h, hl⟩, hx⟩ | ⟨g, cap, cur, fz, rfl, h1, h2, hg, hx⟩
  · exact .inl ⟨⟨a, h, fun p hp => Nat.lt_of_lt_of_le (hl p hp) hs⟩, hx⟩
  · by_cases h0 : cap = 0
    · subst h0
      have hx0 : xs = [] := List.eq_nil_of_length_eq_zero (by omega)
      subst hx0
      exact .inl ⟨⟨_, rfl, fun p hp => by cases hp; exact Nat.lt_of_lt_of_le (heap_lt hg) hs⟩, rfl⟩
    · exact .inr ⟨g, cap, cur, fz, rfl, h1, h2, (hb g (by simp [vfoot, h0])).trans hg, hx⟩

theorem Res.lt {w : World} {x : Res} (h : x.holds w) : ∀ b, x.foot = some b → b < w.heap.size := by
  intro b hb
  cases x with
  | blk b' t s => simp only [Res.foot, Option.some.injEq] at hb; subst hb; exact heap_lt h
  | own v t z xs => exact Rd.lt (Own.rd h) b hb
  | ro v z xs => exact Rd.lt h b hb
  | emp => cases hb

theorem Res.kept {w w' : World} {x : Res} (h : x.holds w) (hs : w.heap.size ≤ w'.heap.size) (hb : ∀ b, x.foot = some b → w'.heap[b]? = w.heap[b]?) : x.holds w' := by
  cases x with
  | blk b' t s => exact (hb b' rfl).trans h
  | own v t z xs => exact Own.kept h hs hb
  | ro v z xs => exact Rd.kept h hb
  | emp => trivial

/-- between the call's beginning w0 and now w: old memory is as it was but for blocks in M; L lists what is known -/
structure Hp (M S : Nat → Prop) (w0 w : World) (L : List Res) : Prop where
  os : w.os = w0.os
  tape : w.tape = w0.tape
  drawn : Dr w0 w
  output : w.output = w0.output
  size : w0.heap.size ≤ w.heap.size
  old : ∀ k, k < w0.heap.size → ¬ M k → w.heap[k]? = w0.heap[k]?
  holds : ∀ (i : Nat) x, L[i]? = some x → x.holds w
  mine : ∀ (i : Nat) x, L[i]? = some x → x.mine = true → ∀ b, x.foot = some b → w0.heap.size ≤ b ∨ M b
  seen : ∀ (i : Nat) x, L[i]? = some x → ∀ b, x.foot = some b → w0.heap.size ≤ b ∨ S b
  apart : ∀ (i j : Nat) x y, L[i]? = some x → L[j]? = some y → i ≠ j → Apart x y

def NoM : Nat → Prop := fun _ => False

section
variable {M S : Nat → Prop} {w0 w w' : World} {L : List Res}

theorem Hp.nil (M S : Nat → Prop) (w : World) : Hp M S w w [] :=
  ⟨rfl, rfl, .refl _, rfl, Nat.le_refl _, fun _ _ _ => rfl, by simp, by simp, by simp, by simp⟩

theorem Hp.below (H : Hp NoM S w0 w L) : Below w0.heap.size w0 w := ⟨H.os, H.tape, H.output, H.size, fun k hk => H.old k hk fun h => h⟩

/-- the world has gone on, and nothing that is known has changed -/
theorem Hp.next (H : Hp M S w0 w L) (hb : Below w.heap.size w w') (dr : Dr w w' := by first | exact .of (Nat.le_refl _) | exact .of (Nat.le_succ _) | assumption) : Hp M S w0 w' L :=
  ⟨hb.os.trans H.os, hb.tape.trans H.tape, H.drawn.trans dr, hb.output.trans H.output, Nat.le_trans H.size hb.size,
    fun k hk hm => (hb.block k (Nat.lt_of_lt_of_le hk H.size)).trans (H.old k hk hm),
    fun i x hx => Res.kept (H.holds i x hx) hb.size fun b hf => hb.block b (Res.lt (H.holds i x hx) b hf), H.mine, H.seen, H.apart⟩

theorem Hp.drew (H : Hp M S w0 w L) : Hp M S w0 { w with drawn := w.drawn + 1 } L :=
  ⟨H.os, H.tape, H.drawn.trans (.of (Nat.le_succ _)), H.output, H.size, H.old, fun i x hx => Res.kept (H.holds i x hx) (Nat.le_refl _) fun _ _ => rfl, H.mine, H.seen, H.apart⟩

/-- one resource more -/
theorem Hp.add (H : Hp M S w0 w L) (x : Res) (hx : x.holds w) (hm : x.mine = true → ∀ b, x.foot = some b → w0.heap.size ≤ b ∨ M b) (hs : ∀ b, x.foot = some b → w0.heap.size ≤ b ∨ S b)
    (ha : ∀ (i : Nat) y, L[i]? = some y → Apart y x) : Hp M S w0 w (L ++ [x]) := by
  have get : ∀ (i : Nat) y, (L ++ [x])[i]? = some y → L[i]? = some y ∨ (i = L.length ∧ y = x) := fun i y h => by
    rcases Nat.lt_or_ge i L.length with hlt | hge
    · rw [List.getElem?_append_left hlt] at h; exact .inl h
    · rw [List.getElem?_append_right hge] at h
      rcases Nat.eq_or_lt_of_le hge with he | hlt
      · rw [← he] at h; simp at h; exact .inr ⟨he.symm, h.symm⟩
      · rw [List.getElem?_eq_none (by simp; omega)] at h; cases h
  refine ⟨H.os, H.tape, H.drawn, H.output, H.size, H.old, fun i y h => ?_, fun i y h => ?_, fun i y h => ?_, fun i j y z h h' hne => ?_⟩
  · rcases get i y h with h | ⟨_, rfl⟩
    · exact H.holds i y h
    · exact hx
  · rcases get i y h with h | ⟨_, rfl⟩
    · exact H.mine i y h
    · exact hm
  · rcases get i y h with h | ⟨_, rfl⟩
    · exact H.seen i y h
    · exact hs
  · rcases get i y h with h1 | ⟨hi, e1⟩ <;> rcases get j z h' with h2 | ⟨hj, e2⟩
    · exact H.apart i j y z h1 h2 hne
    · rw [e2]; exact ha i y h1
    · rw [e1]; exact (ha j z h2).symm
    · omega

theorem below_alloc (w : World) (o : Obj) : Below w.heap.size w (w.alloc o) := (Below.refl _ w).alloc (Nat.le_refl _) o

/-- a block of its own is made -/
theorem Hp.alloc (H : Hp M S w0 w L) (t : TypeId) (s : List (List Value)) : Hp M S w0 (w.alloc (.cells (cells s) t)) (L ++ [.blk w.heap.size t s]) := by
  refine (H.next (below_alloc w _)).add _ (show (w.heap.push _)[w.heap.size]? = _ by simp) (fun _ b hb => ?_) (fun b hb => ?_) fun i y hy _ b hb => ?_
  · simp only [Res.foot, Option.some.injEq] at hb; subst hb; exact .inl H.size
  · simp only [Res.foot, Option.some.injEq] at hb; subst hb; exact .inl H.size
  · have := Res.lt (H.holds i y hy) b hb
    simp only [Res.foot, ne_eq, Option.some.injEq]; omega

/-- something fresh -/
theorem Hp.fresh (H : Hp M S w0 w L) (hb : Below w.heap.size w w') (x : Res) (hx : x.holds w') (hf : ∀ b, x.foot = some b → w.heap.size ≤ b) (dr : Dr w w' := by first | exact .of (Nat.le_refl _) | exact .of (Nat.le_succ _) | assumption) : Hp M S w0 w' (L ++ [x]) :=
  (H.next hb dr).add x hx (fun _ b h => .inl (Nat.le_trans H.size (hf b h))) (fun b h => .inl (Nat.le_trans H.size (hf b h))) fun i y hy _ b h h' => by
    have := Res.lt (H.holds i y hy) b h
    have := hf b h'
    omega

/-- one that is its own has changed -/
theorem Hp.set (H : Hp M S w0 w L) {i : Nat} {x : Res} (hi : L[i]? = some x) (hm : x.mine = true) (hg : w.grownBy w' x.foot) (y : Res) (hy : y.holds w')
    (hf : ∀ b, y.foot = some b → x.foot = some b ∨ w.heap.size ≤ b) (dr : Dr w w' := by first | exact .of (Nat.le_refl _) | exact .of (Nat.le_succ _) | assumption) : Hp M S w0 w' (L.set i y) := by
  have hlt : i < L.length := (List.getElem?_eq_some_iff.1 hi).1
  have get : ∀ (j : Nat) z, (L.set i y)[j]? = some z → (j = i ∧ z = y) ∨ (j ≠ i ∧ L[j]? = some z) := fun j z h => by
    rw [List.getElem?_set] at h
    by_cases hj : i = j
    · subst hj; rw [if_pos rfl, if_pos hlt] at h; exact .inl ⟨rfl, (Option.some.inj h).symm⟩
    · rw [if_neg hj] at h; exact .inr ⟨Ne.symm hj, h⟩
  have others : ∀ (j : Nat) z, j ≠ i → L[j]? = some z → Apart z y := fun j z hj hz hmm b hb hyb => by
    rcases hf b hyb with h | h
    · exact H.apart i j x z hi hz (Ne.symm hj) (.inl hm) b h hb
    · have := Res.lt (H.holds j z hz) b hb; omega
  refine ⟨hg.os.trans H.os, hg.tape.trans H.tape, H.drawn.trans dr, hg.output.trans H.output, Nat.le_trans H.size hg.size, fun k hk hnm => ?_, fun j z h => ?_, fun j z h => ?_, fun j z h => ?_, fun j k z u h h' hne => ?_⟩
  · rw [hg.block k (Nat.lt_of_lt_of_le hk H.size) fun e => ?_]
    · exact H.old k hk hnm
    · rcases H.mine i x hi hm k e.symm with h | h
      · omega
      · exact hnm h
  · rcases get j z h with ⟨_, rfl⟩ | ⟨hj, hz⟩
    · exact hy
    · refine Res.kept (H.holds j z hz) hg.size fun b hb => hg.block b (Res.lt (H.holds j z hz) b hb) fun e => ?_
      exact H.apart i j x z hi hz (Ne.symm hj) (.inl hm) b e.symm hb
  · rcases get j z h with ⟨_, rfl⟩ | ⟨hj, hz⟩
    · intro _ b hb
      rcases hf b hb with h | h
      · exact H.mine i x hi hm b h
      · exact .inl (Nat.le_trans H.size h)
    · exact H.mine j z hz
  · rcases get j z h with ⟨_, rfl⟩ | ⟨hj, hz⟩
    · intro b hb
      rcases hf b hb with h | h
      · exact H.seen i x hi b h
      · exact .inl (Nat.le_trans H.size h)
    · exact H.seen j z hz
  · rcases get j z h with ⟨hj, rfl⟩ | ⟨hj, hz⟩ <;> rcases get k u h' with ⟨hk, rfl⟩ | ⟨hk, hu⟩
    · omega
    · exact (others k u hk hu).symm
    · exact others j z hj hz
    · exact H.apart j k z u hz hu hne

/-- a list that tells less -/
theorem Hp.weaken (H : Hp M S w0 w L) (L' : List Res) (f : Nat → Nat) (hf : ∀ i x, L'[i]? = some x → L[f i]? = some x) (hinj : ∀ i j, i < L'.length → j < L'.length → f i = f j → i = j) : Hp M S w0 w L' :=
  ⟨H.os, H.tape, H.drawn, H.output, H.size, H.old, fun i x h => H.holds _ x (hf i x h), fun i x h => H.mine _ x (hf i x h), fun i x h => H.seen _ x (hf i x h), fun i j x y h h' hne =>
    H.apart _ _ x y (hf i x h) (hf j y h') fun e => hne (hinj i j (List.getElem?_eq_some_iff.1 h).1 (List.getElem?_eq_some_iff.1 h').1 e)⟩

theorem Hp.blk (H : Hp M S w0 w L) {i b : Nat} {t : TypeId} {s : List (List Value)} (hi : L[i]? = some (.blk b t s)) : w.heap[b]? = some (.cells (cells s) t (0, 0)) := H.holds i _ hi
theorem Hp.own (H : Hp M S w0 w L) {i : Nat} {v : Value} {t : TypeId} {z : Nat} {xs : List (List Value)} (hi : L[i]? = some (.own v t z xs)) : Own w v t z xs := H.holds i _ hi
theorem Hp.ro (H : Hp M S w0 w L) {i : Nat} {v : Value} {z : Nat} {xs : List (List Value)} (hi : L[i]? = some (.ro v z xs)) : Rd w v z xs := H.holds i _ hi

/-! ### parts of the list -/
theorem Hp.pick (H : Hp M S w0 w L) (is : List Nat) (hnd : is.Nodup) {L' : List Res} (h : is.map (fun i => L[i]?) = L'.map some) : Hp M S w0 w L' := by
  have hlen : is.length = L'.length := by have := congrArg List.length h; simpa using this
  have hat : ∀ (i : Nat) x, L'[i]? = some x → ∃ j, is[i]? = some j ∧ L[j]? = some x := fun i x hx => by
    have := congrArg (fun l => l[i]?) h
    simp only [List.getElem?_map, hx, Option.map_some] at this
    cases hi : is[i]? with
    | none => rw [hi] at this; cases this
    | some j => rw [hi] at this; exact ⟨j, rfl, by simpa using this⟩
  refine H.weaken L' (fun i => is.getD i 0) (fun i x hx => ?_) fun i j hi hj he => ?_
  · obtain ⟨j, h1, h2⟩ := hat i x hx
    rw [List.getD_eq_getElem?_getD, h1]; exact h2
  · have h1 : i < is.length := by omega
    have h2 : j < is.length := by omega
    simp only [List.getD_eq_getElem?_getD, List.getElem?_eq_getElem h1, List.getElem?_eq_getElem h2, Option.getD_some] at he
    have hp := List.pairwise_iff_getElem.1 hnd
    rcases Nat.lt_trichotomy i j with h | h | h
    · exact absurd he (hp i j h1 h2 h)
    · exact h
    · exact absurd he.symm (hp j i h2 h1 h)
theorem Hp.take (H : Hp M S w0 w L) (n : Nat) : Hp M S w0 w (L.take n) :=
  H.weaken _ id (fun i x h => by
    rw [List.getElem?_take] at h
    split at h
    · exact h
    · cases h) fun _ _ _ _ h => h

def MineOf (A : List Res) : Nat → Prop := fun b => ∃ x ∈ A, x.mine = true ∧ x.foot = some b
def FootOf (A : List Res) : Nat → Prop := fun b => ∃ x ∈ A, x.foot = some b
/-- from A in w to A' in w': all that a call may do to what it is lent -/
abbrev Run (A : List Res) (w w' : World) (A' : List Res) : Prop := Hp (MineOf A) (FootOf A) w w' A'

theorem Run.below (H : Run [] w w' L) : Below w.heap.size w w' := ⟨H.os, H.tape, H.output, H.size, fun k hk => H.old k hk fun ⟨_, h, _⟩ => by cases h⟩

/-- x may be lent for reading: it is read, or its own, in B -/
def Lent (B : List Res) : Res → Prop
  | .ro v z xs => .ro v z xs ∈ B ∨ (∃ t, .own v t z xs ∈ B) ∨ ∃ b t s, .blk b t s ∈ B ∧ vfoot v = some b ∧ ∀ w : World, w.heap[b]? = some (.cells (cells s) t (0, 0)) → Rd w v z xs
  | _ => False

theorem get_append {A B : List Res} {i : Nat} {x : Res} (h : (A ++ B)[i]? = some x) : (i < A.length ∧ A[i]? = some x) ∨ (A.length ≤ i ∧ B[i - A.length]? = some x) := by
  rcases Nat.lt_or_ge i A.length with hlt | hge
  · rw [List.getElem?_append_left hlt] at h; exact .inl ⟨hlt, h⟩
  · rw [List.getElem?_append_right hge] at h; exact .inr ⟨hge, h⟩

theorem Hp.lend {A B R : List Res} (H : Hp M S w0 w (A ++ B)) (hR : ∀ x ∈ R, Lent B x) : Run (A ++ R) w w (A ++ R) := by
  have fromB : ∀ x ∈ R, x.mine = false ∧ x.holds w ∧ ∃ (j : Nat) (y : Res), B[j]? = some y ∧ y.foot = x.foot := fun x hx => by
    have := hR x hx
    cases x with
    | ro v z xs =>
      rcases this with h | ⟨t, h⟩ | ⟨b, t, s, h, hf, hr⟩
      · obtain ⟨j, hj⟩ := List.getElem?_of_mem h
        exact ⟨rfl, H.holds (A.length + j) _ (by rw [List.getElem?_append_right (by omega)]; simpa using hj), j, _, hj, rfl⟩
      rotate_left
      · obtain ⟨j, hj⟩ := List.getElem?_of_mem h
        exact ⟨rfl, hr w (H.holds (A.length + j) (.blk b t s) (by rw [List.getElem?_append_right (by omega)]; simpa using hj)), j, _, hj, hf.symm⟩
      · obtain ⟨j, hj⟩ := List.getElem?_of_mem h
        exact ⟨rfl, Own.rd (t := t) (H.holds (A.length + j) (.own v t z xs) (by rw [List.getElem?_append_right (by omega)]; simpa using hj)), j, _, hj, rfl⟩
    | blk => cases this
    | own => cases this
    | emp => cases this
  refine ⟨rfl, rfl, .refl _, rfl, Nat.le_refl _, fun _ _ _ => rfl, fun i x h => ?_, fun i x h hm b hb => .inr ⟨x, List.mem_of_getElem? h, hm, hb⟩, fun i x h b hb => .inr ⟨x, List.mem_of_getElem? h, hb⟩, fun i j x y h h' hne => ?_⟩
  · rcases get_append h with ⟨hl, h⟩ | ⟨_, h⟩
    · exact H.holds i x (by rw [List.getElem?_append_left hl]; exact h)
    · exact (fromB x (List.mem_of_getElem? h)).2.1
  · rcases get_append h with ⟨hi, h⟩ | ⟨hi, h⟩ <;> rcases get_append h' with ⟨hj, h'⟩ | ⟨hj, h'⟩
    · exact H.apart i j x y (by rw [List.getElem?_append_left hi]; exact h) (by rw [List.getElem?_append_left hj]; exact h') hne
    · obtain ⟨hm, _, q, z, hq, hf⟩ := fromB y (List.mem_of_getElem? h')
      intro hmm b hb hyb
      have hxm : x.mine = true := by rcases hmm with h | h; exact h; rw [hm] at h; cases h
      exact H.apart i (A.length + q) x z (by rw [List.getElem?_append_left hi]; exact h) (by rw [List.getElem?_append_right (by omega)]; simpa using hq) (by omega) (.inl hxm) b hb (hf.trans hyb)
    · obtain ⟨hm, _, q, z, hq, hf⟩ := fromB x (List.mem_of_getElem? h)
      intro hmm b hb hyb
      have hym : y.mine = true := by rcases hmm with h | h; rw [hm] at h; cases h; exact h
      exact H.apart j (A.length + q) y z (by rw [List.getElem?_append_left hj]; exact h') (by rw [List.getElem?_append_right (by omega)]; simpa using hq) (by omega) (.inl hym) b hyb (hf.trans hb)
    · intro hmm
      rw [(fromB x (List.mem_of_getElem? h)).1, (fromB y (List.mem_of_getElem? h')).1] at hmm
      simp at hmm

/-- what was lent comes back; what is told for reading alone may lie in what was lent for reading -/
theorem Hp.back {A B R A' : List Res} (H : Hp M S w0 w (A ++ B)) (hR : ∀ x ∈ R, Lent B x) (Hc : Run (A ++ R) w w' A')
    (hro : (∀ x ∈ A', x.mine = true) ∨ ∀ x ∈ R, x ∈ B) : Hp M S w0 w' (A' ++ B) := by
  have Hl := H.lend hR
  have fromR : ∀ x ∈ R, x.mine = false ∧ ∃ (j : Nat) (y : Res), B[j]? = some y ∧ y.foot = x.foot := fun x hx => by
    have := hR x hx
    cases x with
    | ro v z xs =>
      rcases this with h | ⟨t, h⟩ | ⟨b, t, s, h, hf, _⟩
      · obtain ⟨j, hj⟩ := List.getElem?_of_mem h; exact ⟨rfl, j, _, hj, rfl⟩
      · obtain ⟨j, hj⟩ := List.getElem?_of_mem h; exact ⟨rfl, j, _, hj, rfl⟩
      · obtain ⟨j, hj⟩ := List.getElem?_of_mem h; exact ⟨rfl, j, _, hj, hf.symm⟩
    | blk => cases this
    | own => cases this
    | emp => cases this
  have mineA : ∀ b, MineOf (A ++ R) b → ∃ (i : Nat) (x : Res), A[i]? = some x ∧ x.mine = true ∧ x.foot = some b := fun b ⟨x, hx, hm, hf⟩ => by
    rcases List.mem_append.1 hx with h | h
    · obtain ⟨i, hi⟩ := List.getElem?_of_mem h; exact ⟨i, x, hi, hm, hf⟩
    · rw [(fromR x h).1] at hm; cases hm
  have inA : ∀ {i : Nat} {x : Res}, A[i]? = some x → (A ++ B)[i]? = some x := fun {i x} h => by
    have : i < A.length := (List.getElem?_eq_some_iff.1 h).1
    rw [List.getElem?_append_left this]; exact h
  have inB : ∀ {i : Nat} {x : Res}, B[i]? = some x → (A ++ B)[A.length + i]? = some x := fun {i x} h => by
    rw [List.getElem?_append_right (by omega)]; simpa using h
  -- a block of B's is none of A's own
  have notMine : ∀ {j : Nat} {y : Res} {b : Nat}, B[j]? = some y → y.foot = some b → ¬ MineOf (A ++ R) b := fun {j y b} hj hb hm => by
    obtain ⟨i, x, hi, hxm, hxf⟩ := mineA b hm
    have hlt : i < A.length := (List.getElem?_eq_some_iff.1 hi).1
    exact H.apart i (A.length + j) x y (inA hi) (inB hj) (by omega) (.inl hxm) b hxf hb
  have lt : ∀ {j : Nat} {y : Res} {b : Nat}, B[j]? = some y → y.foot = some b → b < w.heap.size := fun {j y b} hj hb => Res.lt (H.holds _ _ (inB hj)) b hb
  have apartAB : ∀ {i j : Nat} {x y : Res}, A'[i]? = some x → B[j]? = some y → Apart x y := fun {i j x y} hi hj hmm b hb hyb => by
    have hlt := lt hj hyb
    by_cases hxm : x.mine = true
    · rcases Hc.mine i x hi hxm b hb with h | h
      · omega
      · exact notMine hj hyb h
    · have hym : y.mine = true := hmm.resolve_left hxm
      rcases hro with h | h
      · exact hxm (h x (List.mem_of_getElem? hi))
      · rcases Hc.seen i x hi b hb with h' | ⟨z, hz, hzb⟩
        · omega
        · rcases List.mem_append.1 hz with hzA | hzR
          · obtain ⟨q, hq⟩ := List.getElem?_of_mem hzA
            have hql : q < A.length := (List.getElem?_eq_some_iff.1 hq).1
            exact H.apart (A.length + j) q y z (inB hj) (inA hq) (by omega) (.inl hym) b hyb hzb
          · obtain ⟨q, hq⟩ := List.getElem?_of_mem (h z hzR)
            by_cases hqj : q = j
            · subst hqj
              have : y = z := Option.some.inj (hj.symm.trans hq)
              subst this
              rw [(fromR y hzR).1] at hym; cases hym
            · exact H.apart (A.length + j) (A.length + q) y z (inB hj) (inB hq) (by omega) (.inl hym) b hyb hzb
  refine ⟨Hc.os.trans H.os, Hc.tape.trans H.tape, H.drawn.trans Hc.drawn, Hc.output.trans H.output, Nat.le_trans H.size Hc.size, fun k hk hnm => ?_, fun i x h => ?_, fun i x h hm b hb => ?_, fun i x h b hb => ?_, fun i j x y h h' hne => ?_⟩
  · rw [Hc.old k (Nat.lt_of_lt_of_le hk H.size) fun hm => ?_]
    · exact H.old k hk hnm
    · obtain ⟨i, x, hi, hxm, hxf⟩ := mineA k hm
      rcases H.mine i x (inA hi) hxm k hxf with h | h
      · omega
      · exact hnm h
  · rcases get_append h with ⟨_, h⟩ | ⟨_, h⟩
    · exact Hc.holds i x h
    · refine Res.kept (H.holds _ _ (inB h)) Hc.size fun b hb => Hc.old b (lt h hb) (notMine h hb)
  · rcases get_append h with ⟨_, h⟩ | ⟨_, h⟩
    · rcases Hc.mine i x h hm b hb with h' | h'
      · exact .inl (Nat.le_trans H.size h')
      · obtain ⟨q, y, hq, hym, hyf⟩ := mineA b h'
        exact H.mine q y (inA hq) hym b hyf
    · exact H.mine _ x (inB h) hm b hb
  · rcases get_append h with ⟨_, h⟩ | ⟨_, h⟩
    · rcases Hc.seen i x h b hb with h' | ⟨y, hy, hyf⟩
      · exact .inl (Nat.le_trans H.size h')
      · rcases List.mem_append.1 hy with hyA | hyR
        · obtain ⟨q, hq⟩ := List.getElem?_of_mem hyA
          exact H.seen q y (inA hq) b hyf
        · obtain ⟨_, q, z, hq, hf⟩ := fromR y hyR
          exact H.seen _ z (inB hq) b (hf.trans hyf)
    · exact H.seen _ x (inB h) b hb
  · rcases get_append h with ⟨hi, h⟩ | ⟨hi, h⟩ <;> rcases get_append h' with ⟨hj, h'⟩ | ⟨hj, h'⟩
    · exact Hc.apart i j x y h h' hne
    · exact apartAB h h'
    · exact (apartAB h' h).symm
    · exact H.apart _ _ x y (inB h) (inB h') (by omega)


end
end Go.Dor
end

section
/- WHAT EACH OPERATION YIELDS: numbers, bools, texts, structs and arrays by value. Plain lemmas over any program. -/
namespace Go.Dor

/-- a text by its bytes -/
def sv (l : List UInt8) : Value := .string ⟨l.toArray⟩
def ibits (f : ∀ {n : Nat}, BitVec n → BitVec n → BitVec n) (k : IntKind) (m n : Int) : Int := k.wrap ((f (BitVec.ofInt k.bits m) (BitVec.ofInt k.bits n)).toNat)
def iand := ibits (fun a b => a &&& b)
def ior := ibits (fun a b => a ||| b)
def ixor := ibits (fun a b => a ^^^ b)
def iandn := ibits (fun a b => a &&& ~~~b)
def ishl (k : IntKind) (m n : Int) : Int := k.wrap (m * 2 ^ min n.toNat k.bits)
def ishr (k : IntKind) (m n : Int) : Int := m.fdiv (2 ^ min n.toNat k.bits)
def inot (k : IntKind) (n : Int) : Int := ixor k (if k.signed then -1 else k.max) n

/-- a byte of a text, as a number -/
def bat (l : List UInt8) (i : Int) : Int := ((l.getD i.toNat 0).toNat : Int)
/-- an element -/
def at_ {α : Type} (d : α) (l : List α) (i : Int) : α := l.getD i.toNat d
def sub_ {α : Type} (l : List α) (lo hi : Int) : List α := (l.take hi.toNat).drop lo.toNat

section
variable {P : Program} {r : Env} {w : World} {d : Option Tmp} {ty : TypeId} {pos : String} {aft : Array Edge} {g : Option (Nat × Bool)}

theorem ex_move {x : Operand} {v : Value} (h : ev r x = v) : (execOp (ev r) ⟨d, .move x, ty, pos, aft, g⟩).run P w = .ok (.value v) w := by subst h; rfl
theorem ex_assign {x : Operand} {v : Value} (h : ev r x = v) : (execOp (ev r) ⟨d, .assign x, ty, pos, aft, g⟩).run P w = .ok (.value v) w := by subst h; rfl
theorem ex_pick {c x y : Operand} {b : Bool} {u v : Value} (hc : ev r c = .bool b) (hx : ev r x = u) (hy : ev r y = v) : (execOp (ev r) ⟨d, .pick c x y, ty, pos, aft, g⟩).run P w = .ok (.value (if b then u else v)) w := by
  subst hx hy; simp [execOp, hc, asBool]
theorem ex_extract {t : Operand} {i : Nat} {vs : List Value} {v : Value} (h : ev r t = .tuple vs.toArray) (hi : vs[i]? = some v) : (execOp (ev r) ⟨d, .extract t i, ty, pos, aft, g⟩).run P w = .ok (.value v) w := by
  simp [execOp, h, Instr.extract, hi]
theorem ex_makeFunc {fn : Fn} {caps : List Operand} {vs : List Value} (h : caps.map (ev r) = vs) : (execOp (ev r) ⟨d, .makeFunc fn #[] caps.toArray, ty, pos, aft, g⟩).run P w = .ok (.value (.func fn #[] vs.toArray)) w := by
  subst h; simp [execOp, Instr.makeFunc]

section ints
variable {x y : Operand} {k k' : IntKind} {m n : Int} {t u : TypeId}
theorem ex_add (hx : ev r x = .int k m) (hy : ev r y = .int k n) : (execOp (ev r) ⟨d, .binOp .add t x y u, ty, pos, aft, g⟩).run P w = .ok (.value (.int k (k.wrap (m + n)))) w := by
  simp [execOp, hx, hy, eqGuard, binOp, Op.intArith]
theorem ex_sub (hx : ev r x = .int k m) (hy : ev r y = .int k n) : (execOp (ev r) ⟨d, .binOp .sub t x y u, ty, pos, aft, g⟩).run P w = .ok (.value (.int k (k.wrap (m - n)))) w := by
  simp [execOp, hx, hy, eqGuard, binOp, Op.intArith]
theorem ex_mul (hx : ev r x = .int k m) (hy : ev r y = .int k n) : (execOp (ev r) ⟨d, .binOp .mul t x y u, ty, pos, aft, g⟩).run P w = .ok (.value (.int k (k.wrap (m * n)))) w := by
  simp [execOp, hx, hy, eqGuard, binOp, Op.intArith]
theorem ex_quo (hx : ev r x = .int k m) (hy : ev r y = .int k n) (h0 : n ≠ 0) : (execOp (ev r) ⟨d, .binOp .quo t x y u, ty, pos, aft, g⟩).run P w = .ok (.value (.int k (k.wrap (m.tdiv n)))) w := by
  simp [execOp, hx, hy, eqGuard, binOp, Op.intDiv, h0]
theorem ex_rem (hx : ev r x = .int k m) (hy : ev r y = .int k n) (h0 : n ≠ 0) : (execOp (ev r) ⟨d, .binOp .rem t x y u, ty, pos, aft, g⟩).run P w = .ok (.value (.int k (m.tmod n))) w := by
  simp [execOp, hx, hy, eqGuard, binOp, Op.intDiv, h0]
theorem ex_and (hx : ev r x = .int k m) (hy : ev r y = .int k n) : (execOp (ev r) ⟨d, .binOp .and t x y u, ty, pos, aft, g⟩).run P w = .ok (.value (.int k (iand k m n))) w := by
  simp [execOp, hx, hy, eqGuard, binOp, Op.intBits, iand, ibits]
theorem ex_or (hx : ev r x = .int k m) (hy : ev r y = .int k n) : (execOp (ev r) ⟨d, .binOp .or t x y u, ty, pos, aft, g⟩).run P w = .ok (.value (.int k (ior k m n))) w := by
  simp [execOp, hx, hy, eqGuard, binOp, Op.intBits, ior, ibits]
theorem ex_xor (hx : ev r x = .int k m) (hy : ev r y = .int k n) : (execOp (ev r) ⟨d, .binOp .xor t x y u, ty, pos, aft, g⟩).run P w = .ok (.value (.int k (ixor k m n))) w := by
  simp [execOp, hx, hy, eqGuard, binOp, Op.intBits, ixor, ibits]
theorem ex_andNot (hx : ev r x = .int k m) (hy : ev r y = .int k n) : (execOp (ev r) ⟨d, .binOp .andNot t x y u, ty, pos, aft, g⟩).run P w = .ok (.value (.int k (iandn k m n))) w := by
  simp [execOp, hx, hy, eqGuard, binOp, Op.intBits, iandn, ibits]
theorem ex_shl (hx : ev r x = .int k m) (hy : ev r y = .int k' n) (h0 : 0 ≤ n) : (execOp (ev r) ⟨d, .binOp .shl t x y u, ty, pos, aft, g⟩).run P w = .ok (.value (.int k (ishl k m n))) w := by
  have : ¬ n < 0 := by omega
  simp [execOp, hx, hy, eqGuard, binOp, Op.shift, this, ishl]
theorem ex_shr (hx : ev r x = .int k m) (hy : ev r y = .int k' n) (h0 : 0 ≤ n) : (execOp (ev r) ⟨d, .binOp .shr t x y u, ty, pos, aft, g⟩).run P w = .ok (.value (.int k (ishr k m n))) w := by
  have : ¬ n < 0 := by omega
  simp [execOp, hx, hy, eqGuard, binOp, Op.shift, this, ishr]
theorem ex_eql (hx : ev r x = .int k m) (hy : ev r y = .int k n) : (execOp (ev r) ⟨d, .binOp .eql t x y u, ty, pos, aft, g⟩).run P w = .ok (.value (.bool (m == n))) w := by
  simp [execOp, hx, hy, eqGuard, binOp, Op.intCmp]
theorem ex_neq (hx : ev r x = .int k m) (hy : ev r y = .int k n) : (execOp (ev r) ⟨d, .binOp .neq t x y u, ty, pos, aft, g⟩).run P w = .ok (.value (.bool (m != n))) w := by
  simp [execOp, hx, hy, eqGuard, binOp, Op.intCmp]
theorem ex_lss (hx : ev r x = .int k m) (hy : ev r y = .int k n) : (execOp (ev r) ⟨d, .binOp .lss t x y u, ty, pos, aft, g⟩).run P w = .ok (.value (.bool (decide (m < n)))) w := by
  simp [execOp, hx, hy, eqGuard, binOp, Op.intCmp]
theorem ex_leq (hx : ev r x = .int k m) (hy : ev r y = .int k n) : (execOp (ev r) ⟨d, .binOp .leq t x y u, ty, pos, aft, g⟩).run P w = .ok (.value (.bool (decide (m ≤ n)))) w := by
  simp [execOp, hx, hy, eqGuard, binOp, Op.intCmp]
theorem ex_gtr (hx : ev r x = .int k m) (hy : ev r y = .int k n) : (execOp (ev r) ⟨d, .binOp .gtr t x y u, ty, pos, aft, g⟩).run P w = .ok (.value (.bool (decide (m > n)))) w := by
  simp [execOp, hx, hy, eqGuard, binOp, Op.intCmp]
theorem ex_geq (hx : ev r x = .int k m) (hy : ev r y = .int k n) : (execOp (ev r) ⟨d, .binOp .geq t x y u, ty, pos, aft, g⟩).run P w = .ok (.value (.bool (decide (m ≥ n)))) w := by
  simp [execOp, hx, hy, eqGuard, binOp, Op.intCmp]
theorem ex_neg (hx : ev r x = .int k n) : (execOp (ev r) ⟨d, .unOp .neg t x, ty, pos, aft, g⟩).run P w = .ok (.value (.int k (k.wrap (0 - n)))) w := by
  simp [execOp, hx, Op.unary, Op.intArith]
theorem ex_inot (hx : ev r x = .int k n) : (execOp (ev r) ⟨d, .unOp .xor t x, ty, pos, aft, g⟩).run P w = .ok (.value (.int k (inot k n))) w := by
  simp [execOp, hx, Op.unary, Op.intBits, inot, ixor, ibits]
theorem ex_not {b : Bool} (hx : ev r x = .bool b) : (execOp (ev r) ⟨d, .unOp .not t x, ty, pos, aft, g⟩).run P w = .ok (.value (.bool (!b))) w := by
  simp [execOp, hx, Op.unary]
theorem equal_run {x y : Value} : (Op.equal t x y).run P w = (Op.equalIn (9999 + 1) t x y).run P w := rfl
theorem equalIn_bool {q : Nat} {a b : Bool} (ht : P.underlying t = some .bool) : (Op.equalIn (q + 1) t (.bool a) (.bool b)).run P w = .ok (a == b) w := by
  simp [Op.equalIn, run_underlying ht]
theorem ex_eqb {a b : Bool} (ht : P.underlying t = some .bool) (hx : ev r x = .bool a) (hy : ev r y = .bool b) : (execOp (ev r) ⟨d, .binOp .eql t x y u, ty, pos, aft, g⟩).run P w = .ok (.value (.bool (a == b))) w := by
  simp [execOp, hx, hy, eqGuard, binOp, equal_run, equalIn_bool ht, -Nat.reduceAdd]
theorem ex_neb {a b : Bool} (ht : P.underlying t = some .bool) (hx : ev r x = .bool a) (hy : ev r y = .bool b) : (execOp (ev r) ⟨d, .binOp .neq t x y u, ty, pos, aft, g⟩).run P w = .ok (.value (.bool (!(a == b)))) w := by
  simp [execOp, hx, hy, eqGuard, binOp, equal_run, equalIn_bool ht, -Nat.reduceAdd]
theorem ex_convInt {s : TypeId} {a : TypeDesc} (hs : P.underlying s = some a) (ht : P.underlying t = some (.int k')) (hx : ev r x = .int k n) : (execOp (ev r) ⟨d, .convert s t x, ty, pos, aft, g⟩).run P w = .ok (.value (.int k' (k'.wrap n))) w := by
  simp [execOp, hx, convert, run_underlying hs, run_underlying ht, Conv.intToInt]
theorem ex_max2 {at_ : Array TypeId} (hx : ev r x = .int k m) (hy : ev r y = .int k n) : (execOp (ev r) ⟨d, .call { callee := .builtin .max, args := #[x, y], argTypes := at_ }, ty, pos, aft, g⟩).run P w = .ok (.value (.int k (max m n))) w := by
  have : (if n > m then n else m) = max m n := by omega
  simp [execOp, hx, hy, resolve, invoke, builtin, Builtin.max_, Builtin.max2]
  exact this
theorem ex_min2 {at_ : Array TypeId} (hx : ev r x = .int k m) (hy : ev r y = .int k n) : (execOp (ev r) ⟨d, .call { callee := .builtin .min, args := #[x, y], argTypes := at_ }, ty, pos, aft, g⟩).run P w = .ok (.value (.int k (min m n))) w := by
  have : (if n < m then n else m) = min m n := by omega
  simp [execOp, hx, hy, resolve, invoke, builtin, Builtin.min_, Builtin.min2]
  exact this
end ints

section texts
variable {x y z : Operand} {k k' : IntKind} {a b : List UInt8} {m n : Int} {t u e : TypeId}
theorem sv_size (a : List UInt8) : (ByteArray.mk a.toArray).size = a.length := by simp [ByteArray.size]
theorem ex_cat (hx : ev r x = sv a) (hy : ev r y = sv b) (h : a.length + b.length ≤ 9223372036854775807) : (execOp (ev r) ⟨d, .binOp .add t x y u, ty, pos, aft, g⟩).run P w = .ok (.value (sv (a ++ b))) w := by
  have h' : ¬ (9223372036854775807 < (a.length : Int) + b.length) := by omega
  have e : (ByteArray.mk a.toArray) ++ (ByteArray.mk b.toArray) = ByteArray.mk (a ++ b).toArray := by
    apply ByteArray.ext; simp
  simp only [sv] at hx hy
  simp [execOp, hx, hy, eqGuard, binOp, Op.stringOp, sv_size, h', e, sv]
theorem ex_eqs (hx : ev r x = sv a) (hy : ev r y = sv b) : (execOp (ev r) ⟨d, .binOp .eql t x y u, ty, pos, aft, g⟩).run P w = .ok (.value (.bool (a == b))) w := by
  simp only [sv] at hx hy
  simp [execOp, hx, hy, eqGuard, binOp, Op.stringOp]
theorem ex_nes (hx : ev r x = sv a) (hy : ev r y = sv b) : (execOp (ev r) ⟨d, .binOp .neq t x y u, ty, pos, aft, g⟩).run P w = .ok (.value (.bool (!(a == b)))) w := by
  simp only [sv] at hx hy
  simp [execOp, hx, hy, eqGuard, binOp, Op.stringOp]
theorem ex_lts (hx : ev r x = sv a) (hy : ev r y = sv b) : (execOp (ev r) ⟨d, .binOp .lss t x y u, ty, pos, aft, g⟩).run P w = .ok (.value (.bool (Op.bytesLess a b))) w := by
  simp only [sv] at hx hy
  simp [execOp, hx, hy, eqGuard, binOp, Op.stringOp]
theorem ex_lens {at1 : TypeId} (ht : P.underlying at1 = some .string) (hx : ev r x = sv a) : (execOp (ev r) ⟨d, .call { callee := .builtin .len, args := #[x], argTypes := #[at1] }, ty, pos, aft, g⟩).run P w = .ok (.value (.int .i64 a.length)) w := by
  simp only [sv] at hx
  simp [execOp, hx, resolve, invoke, builtin, Builtin.len_, run_underlying ht, sv_size, goInt]
theorem ex_convStr {s : TypeId} (hs : P.underlying s = some .string) (ht : P.underlying t = some .string) (hx : ev r x = sv a) : (execOp (ev r) ⟨d, .convert s t x, ty, pos, aft, g⟩).run P w = .ok (.value (sv a)) w := by
  simp only [sv] at hx
  simp [execOp, hx, convert, run_underlying hs, run_underlying ht, sv]
theorem ex_ats (ht : P.underlying t = some .string) (hx : ev r x = sv a) (hi : ev r y = .int k m) (h0 : 0 ≤ m) (h1 : m < a.length) : (execOp (ev r) ⟨d, .index t x y, ty, pos, aft, g⟩).run P w = .ok (.value (.int .u8 (bat a m))) w := by
  simp only [sv] at hx
  have hlt : m.toNat < a.length := by omega
  have e : (ByteArray.mk a.toArray)[m.toNat]? = some a[m.toNat] := by
    rw [getElem?_pos (ByteArray.mk a.toArray) m.toNat (by simpa [ByteArray.size] using hlt)]
    simp [ByteArray.getElem_eq_getElem_data]
  simp [execOp, hx, hi, Instr.index, asIntOf, run_underlying ht, h0, e, bat, hlt]
end texts

end
end Go.Dor
end

section
/- OPERATIONS ON MEMORY: variables of the call's own, by their parts. Plain lemmas over any program. -/
namespace Go.Dor
open Go.RowKit (Below)

/-! ### types, by closed facts -/
def isScal (P : Program) (t : TypeId) : Bool :=
  (match P.underlying t with | some (.struct _) | some (.array _ _) | none => false | some _ => true) && P.cellsOf t == 1
def aggOf (P : Program) (t : TypeId) : Option Nat :=
  match P.underlying t with | some (.struct _) | some (.array _ _) => (P.info? t).map (·.size) | _ => none
def zeroOf (P : Program) (t : TypeId) : Option (Array Value) := ((P.info? t).bind (·.zero)).map (·.cells)
def fieldOf (P : Program) (t : TypeId) (f : Nat) : Option (Nat × Nat) :=
  match P.underlying t with | some (.struct fs) => (fs[f]?).bind fun f => (P.info? f.type).map fun i => (f.offset, i.size) | _ => none

section
variable {P : Program} {t : TypeId} {w : World}

theorem info_of_underlying {D : TypeDesc} (h : P.underlying t = some D) : ∃ i, P.info? t = some i := by
  unfold Program.underlying at h
  split at h
  · rename_i i hi; exact ⟨_, hi⟩
  · rename_i i hi; exact ⟨_, hi⟩
  · cases h

theorem scal_spec (h : isScal P t = true) : (isAgg t).run P w = .ok false w ∧ (sizeOf t).run P w = .ok 1 w := by
  unfold isScal at h
  rw [Bool.and_eq_true, beq_iff_eq] at h
  obtain ⟨h1, h2⟩ := h
  cases hu : P.underlying t with
  | none => rw [hu] at h1; cases h1
  | some D =>
    obtain ⟨i, hi⟩ := info_of_underlying hu
    have hs : i.size = 1 := by simpa [Program.cellsOf, hi] using h2
    refine ⟨?_, by simp [sizeOf, typeInfo, hi, hs]⟩
    rw [hu] at h1
    unfold isAgg
    rw [Sem.run_bind, run_underlying hu]
    cases D <;> simp_all

theorem agg_spec {n : Nat} (h : aggOf P t = some n) : (isAgg t).run P w = .ok true w ∧ (sizeOf t).run P w = .ok n w := by
  unfold aggOf at h
  cases hu : P.underlying t with
  | none => rw [hu] at h; cases h
  | some D =>
    rw [hu] at h
    have hi : (P.info? t).map (·.size) = some n := by cases D <;> first | exact h | cases h
    have hD : (match D with | .struct _ | .array _ _ => true | _ => false) = true := by cases D <;> first | rfl | cases h
    obtain ⟨i, hi1, hi2⟩ := Option.map_eq_some_iff.1 hi
    refine ⟨?_, by simp [sizeOf, typeInfo, hi1, hi2]⟩
    unfold isAgg
    rw [Sem.run_bind, run_underlying hu]
    cases D <;> simp_all

theorem add_lit (b off n : Nat) : (⟨b, off, none⟩ : Addr).add n = ⟨b, off + n, none⟩ := by unfold Addr.add; split <;> simp_all
end

section
variable {P : Program} {r : Env} {w w0 : World} {d : Option Tmp} {ty : TypeId} {pos : String} {aft : Array Edge} {g : Option (Nat × Bool)} {M S : Nat → Prop} {L : List Res}

/-! ### addresses -/
theorem ex_fieldAddr {T : TypeId} {x : Operand} {f b off fo fz off' : Nat} (hT : fieldOf P T f = some (fo, fz + 1)) (hx : ev r x = .pointer (some ⟨b, off, none⟩)) (ho : off + fo = off') :
    (execOp (ev r) ⟨d, .fieldAddr T x f, ty, pos, aft, g⟩).run P w = .ok (.value (.pointer (some ⟨b, off', none⟩))) w := by
  unfold fieldOf at hT
  split at hT
  · rename_i fs hu
    cases hf : fs[f]? with
    | none => rw [hf] at hT; cases hT
    | some fl =>
      rw [hf] at hT
      simp only [Option.bind_some] at hT
      obtain ⟨i, hi, he⟩ := Option.map_eq_some_iff.1 hT
      simp only [Prod.mk.injEq] at he
      obtain ⟨h1, h2⟩ := he
      subst ho
      simp [execOp, hx, Instr.fieldAt, run_underlying hu, hf, Instr.sureAddr, fieldPlace, sizeOf, typeInfo, hi, h2, h1, add_lit]
  · cases hT

theorem ex_indexAddrA {T e : TypeId} {x y : Operand} {n b off z : Nat} {k : IntKind} {i : Int} (hT : P.underlying T = some (.array n e)) (hz : (P.info? e).map (·.size) = some z) (hx : ev r x = .pointer (some ⟨b, off, none⟩)) (hy : ev r y = .int k i)
    (h0 : 0 ≤ i) (h1 : i < n) : (execOp (ev r) ⟨d, .indexAddr T x y, ty, pos, aft, g⟩).run P w = .ok (.value (.pointer (some ⟨b, off + i.toNat * z, none⟩))) w := by
  obtain ⟨ii, hi, hs⟩ := Option.map_eq_some_iff.1 hz
  simp [execOp, hx, hy, Instr.indexAt, asIntOf, run_underlying hT, Instr.sureAddr, h0, h1, sizeOf, typeInfo, hi, hs, add_lit]

/-! ### loads -/
theorem cell_at {b : Nat} {bt : TypeId} {s : List (List Value)} {fz : Nat × Nat} (hb : w.heap[b]? = some (.cells (cells s) bt fz)) (j : Nat) : w.cell? ⟨b, j, none⟩ = s.flatten[j]? := by
  rw [cell_of_row w b j _ bt fz hb]; simp [cells]

theorem flat_mid (pre mid post : List (List Value)) (j : Nat) (hj : j < mid.flatten.length) : (pre ++ mid ++ post).flatten[pre.flatten.length + j]? = mid.flatten[j]? := by
  rw [List.flatten_append, List.flatten_append, List.append_assoc, List.getElem?_append_right (by omega), List.getElem?_append_left (by omega)]
  congr 1; omega

theorem ex_load {T : TypeId} {x : Operand} {a : Addr} {v : Value} (hx : ev r x = .pointer (some a)) (h : (loadVar T a).run P w = .ok v w) : (execOp (ev r) ⟨d, .load T x, ty, pos, aft, g⟩).run P w = .ok (.value v) w := by
  simp [execOp, hx, Instr.loadAt, Instr.sureAddr, h]

/-! ### stores -/
def One (s : List (List Value)) : Prop := ∀ v ∈ s.flatten, v.oneCell' = true
theorem One.nil : One [] := by simp [One]
theorem One.cons {v : Value} {s : List (List Value)} (h : v.oneCell' = true) (hs : One s) : One ([v] :: s) := by
  intro x hx; simp at hx
  rcases hx with rfl | ⟨l, hl, hx⟩
  · exact h
  · exact hs x (by simp; exact ⟨l, hl, hx⟩)
theorem One.map {α : Type} {xs : List α} {f : α → Value} {s : List (List Value)} (h : ∀ a, (f a).oneCell' = true) (hs : One s) : One (xs.map f :: s) := by
  intro x hx; simp at hx
  rcases hx with ⟨a, _, rfl⟩ | ⟨l, hl, hx⟩
  · exact h a
  · exact hs x (by simp; exact ⟨l, hl, hx⟩)

theorem setRow_grown {b : Nat} {bt : TypeId} {cs cs' : Array Value} {fz : Nat × Nat} (hb : w.heap[b]? = some (.cells cs bt fz)) : w.grownBy (w.setRow b cs') (some b) ∧ (w.setRow b cs').heap[b]? = some (.cells cs' bt fz) := by
  refine ⟨⟨rfl, rfl, rfl, by simp [World.setRow], fun k _ hk => ?_⟩, ?_⟩
  · simp only [World.setRow, Array.getElem?_modify]
    rw [if_neg (fun e => hk (by rw [e]))]
  · simp [World.setRow, Array.getElem?_modify, hb]

theorem splice (A B C D : List Value) (h : D.length = B.length) : (A ++ B ++ C).take A.length ++ D ++ (A ++ B ++ C).drop (A.length + D.length) = A ++ D ++ C := by
  rw [h, List.append_assoc A B C, List.take_left, ← List.drop_drop, List.drop_left, List.drop_left]

end
end Go.Dor
end

section
/- CALLS, AND HOW A FUNCTION BEGINS AND ENDS. Plain lemmas over any program. -/
namespace Go.Dor
open Go.RowKit (Below)

def callable (P : Program) (f : FuncId) : Bool :=
  match P.funcs[f]? with | some fn => fn.body.isSome && !(fn.name == "runtime.NumGoroutine") | none => false

section
variable {P : Program} {r : Env} {w w0 : World} {d : Option Tmp} {ty : TypeId} {pos : String} {aft : Array Edge} {g : Option (Nat × Bool)} {M S : Nat → Prop} {L : List Res} {n : Nat}

theorem run_callFunc {f : FuncId} {args : Array Value} (hF : callable P f = true) : (callFunc f args).run P w = .ok (.enter f args) w := by
  unfold callable at hF
  cases hf : P.funcs[f]? with
  | none => rw [hf] at hF; cases hF
  | some fn =>
    rw [hf] at hF
    simp only [Bool.and_eq_true, Bool.not_eq_true'] at hF
    obtain ⟨h1, h2⟩ := hF
    have h3 : fn.body.isNone = false := by cases hb : fn.body <;> simp_all
    simp only [callFunc, Sem.run_bind, run_program, Result.andThen_ok, hf, h2, h3, Bool.false_eq_true, if_false, Sem.run_pure]

theorem ex_call {x : Operand} {args : List Operand} {f : FuncId} {caps vs : List Value} {at_ : Array TypeId} (hF : callable P f = true) (hx : ev r x = .func (.func f) #[] caps.toArray) (ha : args.map (ev r) ++ caps = vs) :
    (execOp (ev r) ⟨d, .call { callee := .value x, args := args.toArray, argTypes := at_ }, ty, pos, aft, g⟩).run P w = .ok (.enter f vs.toArray) w := by
  subst ha
  have : (callFunc f ((args.map (ev r)).toArray ++ caps.toArray)).run P w = .ok (.enter f (args.map (ev r) ++ caps).toArray) w := by
    rw [run_callFunc hF]; simp
  simp [execOp, resolve, Deferred.ofValue, hx, invoke]
  simpa using this

/-! ### results, the beginning -/
inductive ResV (P : Program) (r : Env) (w : World) : List ResultVar → List Value → Prop
  | nil : ResV P r w [] []
  | tmp {t : Tmp} {v : Value} {l : List ResultVar} {vs : List Value} (h : r t = v) (k : ResV P r w l vs) : ResV P r w (.tmp t :: l) (v :: vs)
  | cell {t : Tmp} {T : TypeId} {a : Addr} {v : Value} {l : List ResultVar} {vs : List Value} (ha : r t = .pointer (some a)) (h : (loadVar T a).run P w = .ok v w) (k : ResV P r w l vs) : ResV P r w (.cell t T :: l) (v :: vs)

def one : List Value → Value
  | [v] => v
  | vs => .tuple vs.toArray

def resOf (a : Act) : ResultVar → Sem Value
  | .tmp t => pure (a.tmps.getD t undef)
  | .cell p t => do loadVar t (← asAddr (a.tmps.getD p undef))

theorem ResV.run {fn : Func} {a : Act} (ha : Fits n r a) {vs : List Value} (h : ResV P r w fn.results.toList vs) : (results fn a.tmps).run P w = .ok (one vs) w := by
  have key : ∀ (l : List ResultVar) (vs : List Value), ResV P r w l vs → (l.mapM (resOf a)).run P w = Result.ok vs w := by
    intro l vs h
    induction h with
    | nil => rfl
    | @tmp t v l vs h _ ih =>
      have e : (resOf a (.tmp t)).run P w = .ok v w := by rw [← h, ← ha.env]; rfl
      rw [List.mapM_cons]; simp only [Sem.run_bind, e, Result.andThen_ok, ih, Sem.run_pure]
    | @cell t T ad v l vs hp h _ ih =>
      have e : (resOf a (.cell t T)).run P w = .ok v w := by
        simp only [resOf, ha.env, hp, asAddr, Sem.run_bind, Sem.run_pure, Result.andThen_ok, h]
      rw [List.mapM_cons]
      simp only [Sem.run_bind, e, Result.andThen_ok, ih, Sem.run_pure]
  have h2 := key _ _ h
  have e : results fn a.tmps = (fn.results.mapM (resOf a) >>= fun vs => pure (if h : vs.size = 1 then vs[0] else .tuple vs)) := by
    unfold results
    congr 1
  rw [e, Array.mapM_eq_mapM_toList]
  simp only [Sem.run_bind, Sem.run_map, h2, Result.andThen_ok, Sem.run_pure]
  match vs with
  | [] => rfl
  | [v] => rfl
  | _ :: _ :: _ => rfl

def fin (P : Program) (fn : Func) (R : Value → World → Prop) : Env → World → Prop := fun r w => ∃ vs, ResV P r w fn.results.toList vs ∧ R (one vs) w

def envL (l : List Value) : Env := fun t => l.getD t undef

theorem enter {f : FuncId} {fn : Func} {c : Code} {args : List Value} {R : Value → World → Prop} (hf : P.funcs[f]? = some fn) (hb : fn.body = some c) (hn : fn.ntmps = n) (hle : args.length ≤ n)
    (h : Wc P n c ⟨fin P fn R, fun _ _ _ => False, fin P fn R⟩ (envL args) w) : Calls P f args.toArray w fun e w' => ∃ v, e = .returned v ∧ R v w' := by
  refine calls_of_wp hf hb (wp_mono (h.out _ ⟨?_, fun t => ?_, rfl⟩) fun e a w q => ?_)
  · rw [hn]; simp; omega
  · rw [hn]
    simp only [envL, Array.getD_eq_getD_getElem?, List.getD_eq_getElem?_getD]
    rw [Array.getElem?_append]
    split
    · simp
    · rename_i hge
      have : args.length ≤ t := by simpa using hge
      rw [List.getElem?_eq_none this, Array.getElem?_replicate]
      split <;> rfl
  · cases e <;> simp only [Post.lift] at q
    · obtain ⟨r, hr, vs, hv, hR⟩ := q
      exact ⟨hr.nodef, _, hv.run hr, _, rfl, hR⟩
    · obtain ⟨_, _, h⟩ := q; exact h.elim
    · obtain ⟨r, hr, vs, hv, hR⟩ := q
      exact ⟨hr.nodef, _, hv.run hr, _, rfl, hR⟩

/-! ### what a pure function that may fail tells -/
def chk {α : Type} (c : Bool) (x : Option α) : Option α := if c then x else none
theorem bind_some {α β : Type} {x : Option α} {f : α → Option β} {r : β} (h : x.bind f = some r) : ∃ a, x = some a ∧ f a = some r := by
  cases x with
  | none => cases h
  | some a => exact ⟨a, rfl, h⟩
def need {α : Type} (c : Prop) [Decidable c] (x : Option α) : Option α := if c then x else none
theorem need_some {α : Type} {c : Prop} [Decidable c] {x : Option α} {r : α} (h : need c x = some r) : c ∧ x = some r := by
  unfold need at h
  split at h
  · rename_i hc; exact ⟨hc, h⟩
  · cases h
theorem Hp.comm {A B : List Res} (H : Hp M S w0 w (A ++ B)) : Hp M S w0 w (B ++ A) :=
  H.weaken _ (fun i => if i < B.length then A.length + i else i - B.length) (fun i x h => by
    rcases get_append h with ⟨hi, h⟩ | ⟨hi, h⟩
    · rw [if_pos hi, List.getElem?_append_right (by omega)]; simpa using h
    · rw [if_neg (by omega), List.getElem?_append_left (List.getElem?_eq_some_iff.1 h).1]; exact h) fun i j hi hj he => by
      simp only [List.length_append] at hi hj
      split at he <;> split at he <;> omega

/-- a call that is lent nothing -/
theorem Hp.out (H : Hp M S w0 w L) : Run [] w w [] := Hp.lend (A := []) (R := []) (B := L) H (by simp)
theorem Hp.into {w' : World} {A' : List Res} (H : Hp M S w0 w L) (Hc : Run [] w w' A') (hm : ∀ x ∈ A', x.mine = true) : Hp M S w0 w' (L ++ A') :=
  Hp.comm (Hp.back (A := []) (R := []) (B := L) H (by simp) Hc (.inl hm))
end
end Go.Dor
end

section
/- MORE OPERATIONS: choices, elements of arrays, parts of texts, structs and arrays that are built, equality of structs and arrays. Plain lemmas over any program. -/
namespace Go.Dor

def vset {α : Type} {n : Nat} (v : Vector α n) (i : Int) (x : α) : Vector α n := ⟨⟨v.toList.set i.toNat x⟩, by simp⟩
section
variable {P : Program} {r : Env} {w w0 : World} {d : Option Tmp} {ty : TypeId} {pos : String} {aft : Array Edge} {g : Option (Nat × Bool)} {M S : Nat → Prop} {L : List Res} {n : Nat}

theorem ex_nilCheck {x : Operand} {a : Addr} (hx : ev r x = .pointer (some a)) : (execOp (ev r) ⟨d, .nilCheck x, ty, pos, aft, g⟩).run P w = .ok (.value (.pointer (some a))) w := by
  simp [execOp, hx]

theorem sub_bytes (a : List UInt8) (lo hi : Nat) : (ByteArray.mk a.toArray).extract lo hi = ByteArray.mk ((a.take hi).drop lo).toArray := by
  apply ByteArray.ext
  simp [ByteArray.data_extract, List.take_drop]
  by_cases h : lo ≤ hi
  · rw [show lo + (hi - lo) = hi by omega]
  · have e1 : (a.take (lo + (hi - lo))).drop lo = [] := List.drop_eq_nil_of_le (by simp; omega)
    have e2 : (a.take hi).drop lo = [] := List.drop_eq_nil_of_le (by simp; omega)
    rw [e1, e2]

theorem ex_subLH {T : TypeId} {x l h : Operand} {k k' : IntKind} {a : List UInt8} {i j : Int} (hT : P.underlying T = some .string) (hx : ev r x = sv a) (hl : ev r l = .int k i) (hh : ev r h = .int k' j) (hc : 0 ≤ i ∧ i ≤ j ∧ j ≤ (a.length : Int)) :
    (execOp (ev r) ⟨d, .slice T x (some l) (some h) none, ty, pos, aft, g⟩).run P w = .ok (.value (sv (sub_ a i j))) w := by
  have h1 : 0 ≤ j := by omega
  have h2 : (j.toNat : Int) = j := by omega
  simp only [sv] at hx
  simp [execOp, hx, hl, hh, Instr.sliceAt, Instr.slice, Instr.sliceBounds, Instr.sliceBound, asIntOf, run_underlying hT, sv_size, hc, h1, h2, sub_bytes, sv, sub_]
theorem ex_subH {T : TypeId} {x h : Operand} {k' : IntKind} {a : List UInt8} {j : Int} (hT : P.underlying T = some .string) (hx : ev r x = sv a) (hh : ev r h = .int k' j) (hc : 0 ≤ j ∧ j ≤ (a.length : Int)) :
    (execOp (ev r) ⟨d, .slice T x none (some h) none, ty, pos, aft, g⟩).run P w = .ok (.value (sv (sub_ a 0 j))) w := by
  simp only [sv] at hx
  simp [execOp, hx, hh, Instr.sliceAt, Instr.slice, Instr.sliceBounds, Instr.sliceBound, asIntOf, run_underlying hT, sv_size, hc, sub_bytes, sv, sub_]
theorem ex_subL {T : TypeId} {x l : Operand} {k : IntKind} {a : List UInt8} {i : Int} (hT : P.underlying T = some .string) (hx : ev r x = sv a) (hl : ev r l = .int k i) (hc : 0 ≤ i ∧ i ≤ (a.length : Int)) :
    (execOp (ev r) ⟨d, .slice T x (some l) none none, ty, pos, aft, g⟩).run P w = .ok (.value (sv (sub_ a i (a.length : Int)))) w := by
  simp only [sv] at hx
  simp [execOp, hx, hl, Instr.sliceAt, Instr.slice, Instr.sliceBounds, Instr.sliceBound, asIntOf, run_underlying hT, sv_size, hc, sub_bytes, sv, sub_]

/-! ### what is built -/
def placesOf (P : Program) (T : TypeId) : Option (List (Nat × Nat)) :=
  match P.underlying T with
  | some (.struct fs) => fs.toList.mapM fun f => (P.info? f.type).map fun i => (f.offset, i.size)
  | _ => none

theorem foldl_setSegs (new : List Value) : ∀ (o k : Nat) (c : List Value), o + k + new.length ≤ c.length →
    (new.zipIdx k).foldl (fun cs (x : Value × Nat) => cs.setIfInBounds (o + x.2) x.1) c.toArray = (c.take (o + k) ++ new ++ c.drop (o + k + new.length)).toArray := by
  induction new with
  | nil => intro o k c _; simp
  | cons v new ih =>
    intro o k c h
    simp only [List.length_cons] at h
    rw [List.zipIdx_cons, List.foldl_cons]
    simp only [List.setIfInBounds_toArray]
    rw [ih o (k + 1) _ (by simp; omega)]
    congr 1
    exact list_seg_step c (o + k) v new (by omega)

theorem fill_cons {p : Nat → Option (Nat × Nat)} {i off sz : Nat} {v : Value} {rest : List (Nat × Value)} {s : List (List Value)} {res : Array Value} (pre mid post new : List (List Value)) (hs : s = pre ++ mid ++ post) (ho : pre.flatten.length = off) (hl : new.flatten.length = mid.flatten.length) (hm : new.flatten.length = sz)
    (k : Instr.fill p (cells (pre ++ new ++ post)) rest = some res) (hp : p i = some (off, sz) := by rfl) (hv : v.cells = cells new := by rfl) : Instr.fill p (cells s) ((i, v) :: rest) = some res := by
  have e1 : v.cells.size = sz := by rw [hv]; simpa [cells] using hm
  have e2 : (cells s).size = pre.flatten.length + mid.flatten.length + post.flatten.length := by rw [hs]; simp only [cells, List.size_toArray, List.flatten_append, List.length_append]
  unfold Instr.fill
  simp only [hp]
  have hcond : ¬ off + v.cells.size > (cells s).size := by rw [e1, e2, ← hm, hl, ← ho]; omega
  rw [if_neg (by
    rw [Bool.or_eq_true, decide_eq_true_eq, decide_eq_true_eq]
    rintro (h | h)
    · exact h e1
    · exact hcond h)]
  have e3 : v.cells.zipIdx.foldl (fun cs (x : Value × Nat) => cs.setIfInBounds (off + x.2) x.1) (cells s) = cells (pre ++ new ++ post) := by
    rw [hv, ← Array.foldl_toList]
    simp only [cells, Array.toList_zipIdx]
    rw [foldl_setSegs new.flatten off 0 s.flatten (by rw [hs, ← ho]; simp only [List.flatten_append, List.length_append]; omega)]
    congr 1
    rw [hs, ← ho]
    simp only [List.flatten_append, Nat.add_zero]
    exact splice _ _ _ _ hl
  rw [e3]
  exact k

theorem mapM_places {fs : List Field} {l : List (Nat × Nat)} (h : (fs.mapM fun f => (P.info? f.type).map fun i => (f.offset, i.size)) = some l) :
    (fs.mapM (fun f => (do pure (f.offset, ← sizeOf f.type) : Sem (Nat × Nat)))).run P w = .ok l w := by
  induction fs generalizing l with
  | nil => simp at h; subst h; rfl
  | cons f fs ih =>
    rw [List.mapM_cons] at h
    cases hi : P.info? f.type with
    | none => simp [hi] at h
    | some i =>
      simp only [hi, Option.map_some, Option.bind_eq_bind, Option.bind_some] at h
      obtain ⟨l', h1, h2⟩ := Option.bind_eq_some_iff.1 h
      simp only [Option.pure_def, Option.some.injEq] at h2
      subst h2
      rw [List.mapM_cons]
      have e : (sizeOf f.type).run P w = .ok i.size w := by simp [sizeOf, typeInfo, hi]
      simp only [Sem.run_bind, Sem.run_pure, e, Result.andThen_ok, ih h1]

theorem ex_buildS {T : TypeId} {parts : List (Nat × Operand)} {z : Array Value} {pl : List (Nat × Nat)} {s : List (List Value)} {vs : List (Nat × Value)} (hpl : placesOf P T = some pl) (hz : zeroOf P T = some z)
    (hv : parts.map (fun x => (x.1, ev r x.2)) = vs) (hf : Instr.fill (fun i => pl[i]?) z vs = some (cells s)) : (execOp (ev r) ⟨d, .build T parts.toArray, ty, pos, aft, g⟩).run P w = .ok (.value (ag s)) w := by
  unfold placesOf at hpl
  split at hpl
  · rename_i fs hu
    obtain ⟨zv, h1, h2⟩ := Option.map_eq_some_iff.1 hz
    obtain ⟨i, hi, h3⟩ := Option.bind_eq_some_iff.1 h1
    have hm := mapM_places (w := w) hpl
    have e4 : (parts.toArray.map fun (x : Nat × Operand) => (x.1, ev r x.2)).toList = vs := by simp [← hv]
    have hf' : Instr.fill (fun x => pl.toArray[x]?) z vs = some (cells s) := by simpa using hf
    simp only [execOp, Instr.build, Sem.run_bind, zeroValue, typeInfo, run_program, Result.andThen_ok, hi, h3, Sem.run_pure, run_underlying hu, h2, Array.mapM_eq_mapM_toList, Sem.run_map, hm]
    rw [show (Array.map (fun (x : Nat × Operand) => match x with | (i, x) => (i, ev r x)) parts.toArray) = (parts.toArray.map fun (x : Nat × Operand) => (x.1, ev r x.2)) from rfl, e4, hf']
    rfl
  · cases hpl


/-! ### equality of structs and arrays -/
def Eqs (P : Program) (q : Nat) (t : TypeId) (x y : Value) (b : Bool) : Prop := ∀ w, (Op.equalIn q t x y).run P w = .ok b w
theorem eqs_int {q : Nat} {t : TypeId} {k k' : IntKind} {a b : Int} (h : P.underlying t = some (.int k')) : Eqs P (q + 1) t (.int k a) (.int k b) (a == b) := fun w => run_equalIn_int w q t k k' a b h
theorem eqs_bool {q : Nat} {t : TypeId} {a b : Bool} (h : P.underlying t = some .bool) : Eqs P (q + 1) t (.bool a) (.bool b) (a == b) := fun w => run_equalIn_bool' w q t a b h
theorem eqs_str {q : Nat} {t : TypeId} {a b : List UInt8} (h : P.underlying t = some .string) : Eqs P (q + 1) t (sv a) (sv b) (a == b) := fun w => by
  simp only [sv]
  rw [run_equalIn_string w q t _ _ h]; simp

inductive EqF (P : Program) (q : Nat) (xs ys : Array Value) : List Field → Bool → Prop
  | nil : EqF P q xs ys [] true
  | cons {f : Field} {fs : List Field} {a b : Value} {r r' : Bool} (ha : ∀ w, (part f.type xs f.offset).run P w = .ok a w) (hb : ∀ w, (part f.type ys f.offset).run P w = .ok b w) (he : Eqs P q f.type a b r) (k : EqF P q xs ys fs r') : EqF P q xs ys (f :: fs) (r && r')

theorem EqF.run {q : Nat} {xs ys : Array Value} {fs : List Field} {b : Bool} (h : EqF P q xs ys fs b) (hn : fs.all (fun f => !(f.name == "_")) = true) (w : World) : (Op.eqFields q xs ys fs).run P w = .ok b w := by
  induction h with
  | nil => rfl
  | @cons f fs a b r r' ha hb he _ ih =>
    simp only [List.all_cons, Bool.and_eq_true, Bool.not_eq_true', beq_eq_false_iff_ne] at hn
    have ih' := ih hn.2
    simp only [Op.eqFields]
    rw [if_pos hn.1]
    simp only [Sem.run_bind, ha, hb, he w, Result.andThen_ok]
    cases r
    · simp
    · simp [ih']

theorem eqs_struct {q : Nat} {t : TypeId} {fs : Array Field} {xs ys : Array Value} {b : Bool} (ht : P.underlying t = some (.struct fs)) (hp : P.stoodInHeld t = false) (hn : fs.toList.all (fun f => !(f.name == "_")) = true) (h : EqF P q xs ys fs.toList b) : Eqs P (q + 1) t (.agg xs) (.agg ys) b := fun w => by
  have hf : P.fieldsOf t = fs := by simp [Program.fieldsOf, ht]
  rw [run_equalIn_struct w q t xs ys (by rw [hf]; exact ht) hp, hf]
  exact h.run hn w

theorem part_scal {t : TypeId} {off : Nat} {s : List (List Value)} {v : Value} (pre post : List (List Value)) (hT : isScal P t = true) (hs : s = pre ++ [[v]] ++ post) (ho : pre.flatten.length = off) (w : World) : (part t (cells s) off).run P w = .ok v w := by
  obtain ⟨e1, _⟩ := scal_spec (w := w) hT
  have e : (cells s)[off]? = some v := by
    have := flat_mid pre [[v]] post 0 (by simp)
    rw [hs, ← ho]; simpa [cells, -List.append_assoc] using this
  simp [part, e1, e]
theorem part_agg {t : TypeId} {off n : Nat} {s : List (List Value)} (pre mid post : List (List Value)) (hT : aggOf P t = some n) (hs : s = pre ++ mid ++ post) (ho : pre.flatten.length = off) (hn : mid.flatten.length = n) (w : World) : (part t (cells s) off).run P w = .ok (ag mid) w := by
  obtain ⟨e1, e2⟩ := agg_spec (w := w) hT
  have e : (cells s).extract off (off + n) = cells mid := by
    apply Array.ext'
    rw [hs, ← ho, ← hn]
    simp only [cells, List.extract_toArray, List.flatten_append, List.extract_eq_take_drop, Nat.add_sub_cancel_left]
    rw [List.append_assoc, List.drop_left, List.take_left]
  simp [part, e1, e2, e, ag]

/-- arrays whose elements are one cell each -/
theorem eqs_arr {α : Type} [DecidableEq α] {q m : Nat} {t e : TypeId} {f : α → Value} {x y : Vector α m} (ht : P.underlying t = some (.array m e)) (he : isScal P e = true) (hel : ∀ a b, Eqs P q e (f a) (f b) (decide (a = b))) :
    Eqs P (q + 1) t (ag [x.toList.map f]) (ag [y.toList.map f]) (decide (x = y)) := fun w => by
  obtain ⟨e1, e2⟩ := scal_spec (w := w) he
  have hx : x.toList.length = m := by simp
  have hy : y.toList.length = m := by simp
  have hp : ∀ (v : List α) (i : Nat) (h : i < v.length), (part e (cells [v.map f]) i).run P w = .ok (f v[i]) w := fun v i h => by
    simp [part, e1, cells, h]
  have key : ∀ (n i : Nat) (u v : List α), u.length = i + n → v.length = i + n → u.take i = v.take i →
      ((Sem.run P (forIn (List.range' i n 1) ((none : Option Bool), ()) fun i __s => (do
          let a ← part e (cells [List.map f u]) (i * 1)
          let b ← part e (cells [List.map f v]) (i * 1)
          let r ← Op.equalIn q e a b
          if (!r) = true then pure (ForInStep.done (some false, ())) else pure (ForInStep.yield (none, ())) : Sem (ForInStep (Option Bool × Unit)))) w).andThen
        fun a w' => Sem.run P (match a.fst with | some r => pure r | none => pure true) w') = Result.ok (decide (u = v)) w := by
    intro n
    induction n with
    | zero =>
      intro i u v hu hv h
      rw [List.take_of_length_le (by omega), List.take_of_length_le (by omega)] at h
      simp [h]
    | succ n ih =>
      intro i u v hu hv h
      rw [List.range'_succ, List.forIn_cons]
      have h1 : i < u.length := by omega
      have h2 : i < v.length := by omega
      simp only [Nat.mul_one, Sem.run_bind, hp u i h1, hp v i h2, Result.andThen_ok, hel _ _ w]
      by_cases hc : u[i] = v[i]
      · have := ih (i + 1) u v (by omega) (by omega) (by rw [List.take_succ_eq_append_getElem h1, List.take_succ_eq_append_getElem h2, h, hc])
        simp only [Nat.mul_one] at this
        simpa [hc] using this
      · have : u ≠ v := fun e => hc (by subst e; rfl)
        simp [hc, this]
  have hk := key m 0 x.toList y.toList (by omega) (by omega) (by simp)
  have hxy : (decide (x.toList = y.toList)) = decide (x = y) := by
    rw [decide_eq_decide]
    exact ⟨fun h => by
      apply Vector.toArray_inj.1
      apply Array.toList_inj.1
      exact h, fun h => by rw [h]⟩
  rw [hxy] at hk
  simp only [ag, Op.equalIn, Sem.run_bind, run_underlying ht, Result.andThen_ok, e2]
  rw [Std.Legacy.Range.forIn_eq_forIn_range', show [:m].size = m by simp [Std.Legacy.Range.size]]
  refine Eq.trans (congrArg _ (funext fun a => funext fun w' => ?_)) hk
  obtain ⟨o, u⟩ := a
  cases o <;> rfl

theorem ex_eqA {T u : TypeId} {x y : Operand} {xs ys : Array Value} {b : Bool} (hm : P.eqGuardType P.depth T = false) (hx : ev r x = .agg xs) (hy : ev r y = .agg ys) (he : Eqs P 10000 T (.agg xs) (.agg ys) b) :
    (execOp (ev r) ⟨d, .binOp .eql T x y u, ty, pos, aft, g⟩).run P w = .ok (.value (.bool b)) w := by
  simp only [execOp, hx, hy, Sem.run_bind, run_eqGuard_agg w .eql T x y xs ys hm, Result.andThen_ok, run_eql_struct w T xs ys, he w, Sem.run_pure]
theorem ex_neA {T u : TypeId} {x y : Operand} {xs ys : Array Value} {b : Bool} (hm : P.eqGuardType P.depth T = false) (hx : ev r x = .agg xs) (hy : ev r y = .agg ys) (he : Eqs P 10000 T (.agg xs) (.agg ys) b) :
    (execOp (ev r) ⟨d, .binOp .neq T x y u, ty, pos, aft, g⟩).run P w = .ok (.value (.bool (!b))) w := by
  simp only [execOp, hx, hy, Sem.run_bind, run_eqGuard_agg w .neq T x y xs ys hm, Result.andThen_ok, run_neq_struct w T xs ys, he w, Sem.run_pure]

end
end Go.Dor
end

section
/- SLICES: read, built, appended to, turned into texts and back. Plain lemmas over any program. -/
namespace Go.Dor
open Go.RowKit (Below)

/-! ### what is read -/
def Res.reads : Res → Option (Value × Nat × List (List Value))
  | .own v _ z xs => some (v, z, xs)
  | .ro v z xs => some (v, z, xs)
  | _ => none

def elemOf (P : Program) (e : TypeId) : Option (Nat × Nat) :=
  (P.info? e).bind fun i => i.zero.bind fun v => if v.cells.size = i.size ∧ 0 < i.size ∧ 0 < i.bytes then some (i.size, i.bytes) else none

/-- where an element lies -/
def eptr (v : Value) (n : Nat) : Value :=
  match v with
  | .slice (some a) _ _ => .pointer (some (a.add n))
  | _ => undef
/-- a part of a slice -/
def slv (v : Value) (lo hi : Int) (z : Nat) : Value :=
  match v with
  | .slice a _ cap => .slice (if cap = lo.toNat then a else a.map (·.add (lo.toNat * z))) (hi.toNat - lo.toNat) (cap - lo.toNat)
  | _ => undef

def lset {α : Type} (l : List α) (i : Int) (x : α) : List α := l.set i.toNat x
def bytesOf (l : List Int) : List UInt8 := l.map fun n => UInt8.ofNat n.toNat
def numsOf (a : List UInt8) : List Int := a.map fun b => (b.toNat : Int)

theorem elem_spec {P : Program} {e : TypeId} {z b : Nat} (h : elemOf P e = some (z, b)) : ∃ i v, P.info? e = some i ∧ i.zero = some v ∧ i.size = z ∧ i.bytes = b ∧ v.cells.size = z ∧ 0 < z ∧ 0 < b := by
  obtain ⟨i, hi, h⟩ := Option.bind_eq_some_iff.1 h
  obtain ⟨v, hv, h⟩ := Option.bind_eq_some_iff.1 h
  split at h
  · rename_i hc
    simp only [Option.some.injEq, Prod.mk.injEq] at h
    obtain ⟨rfl, rfl⟩ := h
    exact ⟨i, v, hi, hv, rfl, rfl, hc.1, hc.2.1, hc.2.2⟩
  · cases h

section
variable {M S : Nat → Prop} {w0 w w' : World} {L : List Res}

theorem Hp.rd (H : Hp M S w0 w L) {i : Nat} {x : Res} {v : Value} {z : Nat} {xs : List (List Value)} (hi : L[i]? = some x) (hr : x.reads = some (v, z, xs)) : Rd w v z xs := by
  have := H.holds i x hi
  cases x with
  | own v' t' z' xs' => simp only [Res.reads, Option.some.injEq, Prod.mk.injEq] at hr; obtain ⟨rfl, rfl, rfl⟩ := hr; exact Own.rd this
  | ro v' z' xs' => simp only [Res.reads, Option.some.injEq, Prod.mk.injEq] at hr; obtain ⟨rfl, rfl, rfl⟩ := hr; exact this
  | blk => cases hr
  | emp => cases hr

theorem Rd.slice {v : Value} {z : Nat} {xs : List (List Value)} (h : Rd w v z xs) : ∃ a c, v = .slice a xs.length c ∧ xs.length ≤ c := by
  rcases h.2 with ⟨⟨a, rfl⟩, rfl⟩ | ⟨g, off, cap, cur, t, fz, rfl, h1, _⟩
  · exact ⟨a, 0, rfl, Nat.le_refl _⟩
  · exact ⟨_, cap, rfl, h1⟩

theorem flat_len {z : Nat} : ∀ {xs : List (List Value)}, (∀ x ∈ xs, x.length = z) → xs.flatten.length = xs.length * z
  | [], _ => by simp
  | x :: xs, h => by
    rw [List.flatten_cons, List.length_append, flat_len (fun y hy => h y (by simp [hy])), h x (by simp), List.length_cons, Nat.add_mul, Nat.one_mul, Nat.add_comm]

/-- element j, cell k, in the flat row -/
theorem flat_at {z : Nat} : ∀ {xs : List (List Value)} (_ : ∀ x ∈ xs, x.length = z) {j k : Nat} {x : List Value}, xs[j]? = some x → k < z → xs.flatten[j * z + k]? = x[k]?
  | [], _, _, _, _, h, _ => by simp at h
  | y :: ys, hl, 0, k, x, h, hk => by
    simp only [List.getElem?_cons_zero, Option.some.injEq] at h
    subst h
    rw [List.flatten_cons, Nat.zero_mul, Nat.zero_add, List.getElem?_append_left (by rw [hl y (by simp)]; exact hk)]
  | y :: ys, hl, j + 1, k, x, h, hk => by
    rw [List.flatten_cons, List.getElem?_append_right (by rw [hl y (by simp), Nat.add_mul]; omega), hl y (by simp)]
    rw [show (j + 1) * z + k - z = j * z + k by rw [Nat.add_mul]; omega]
    exact flat_at (fun u hu => hl u (by simp [hu])) (by simpa using h) hk

/-- where an element lies, and what stands there -/
theorem Rd.at {v : Value} {z : Nat} {xs : List (List Value)} (h : Rd w v z xs) {j : Nat} {x : List Value} (hj : xs[j]? = some x) : ∃ g off, (∀ n, eptr v n = .pointer (some ⟨g, off + n, none⟩)) ∧ ∀ k, k < z → w.cell? ⟨g, off + (j * z + k), none⟩ = x[k]? := by
  rcases h.2 with ⟨_, rfl⟩ | ⟨g, off, cap, cur, t, fz, rfl, h1, h2, h3⟩
  · simp at hj
  · refine ⟨g, off, fun n => by simp [eptr, add_lit], fun k hk => ?_⟩
    have hx : x.length = z := h.1 x (List.mem_of_getElem? hj)
    have e := flat_at h.1 hj hk
    have : k < x.length := by omega
    rw [List.getElem?_eq_getElem this] at e ⊢
    rw [cell_of_row w g _ cur t fz h2]
    exact h3 _ _ e

end

section
variable {P : Program} {r : Env} {w w0 : World} {d : Option Tmp} {ty : TypeId} {pos : String} {aft : Array Edge} {g : Option (Nat × Bool)} {M S : Nat → Prop} {L : List Res} {α : Type} {l m : List α} {f : α → List Value} {v u : Value} {z i j : Nat} {q q' : Res}

/-! ### length, elements -/
theorem ex_lenS {at1 e : TypeId} {x : Operand} {w1 : World} (hrd : Rd w1 v z (l.map f)) (ht : P.underlying at1 = some (.slice e)) (hx : ev r x = v) :
    (execOp (ev r) ⟨d, .call { callee := .builtin .len, args := #[x], argTypes := #[at1] }, ty, pos, aft, g⟩).run P w = .ok (.value (.int .i64 l.length)) w := by
  obtain ⟨a, c, rfl, _⟩ := hrd.slice
  simp [execOp, hx, resolve, invoke, builtin, Builtin.len_, run_underlying ht, goInt]

theorem at_get {dd : α} {n : Int} (h0 : 0 ≤ n) (h1 : n < (l.length : Int)) : l[n.toNat]? = some (at_ dd l n) := by
  have : n.toNat < l.length := by omega
  simp [at_, this]

theorem ex_ixS {T e : TypeId} {x y : Operand} {k : IntKind} {n : Int} {w1 : World} (hrd : Rd w1 v z (l.map f)) (hT : P.underlying T = some (.slice e)) (he : (P.info? e).map (·.size) = some z) (hx : ev r x = v) (hy : ev r y = .int k n) (hc : 0 ≤ n ∧ n < (l.length : Int)) :
    (execOp (ev r) ⟨d, .indexAddr T x y, ty, pos, aft, g⟩).run P w = .ok (.value (eptr v (n.toNat * z))) w := by
  obtain ⟨ii, hii, hs⟩ := Option.map_eq_some_iff.1 he
  have hlt : n.toNat < l.length := by omega
  rcases hrd.2 with ⟨_, h0⟩ | ⟨g', off, cap, cur, t, fz, rfl, h1, _⟩
  · simp only [List.map_eq_nil_iff] at h0
    subst h0
    simp at hlt
  · have hc2 : 0 ≤ n ∧ n < ((l.map f).length : Int) := by simpa using hc
    simp only [List.length_map] at hc2 hx
    simp [execOp, hx, hy, Instr.indexAt, asIntOf, run_underlying hT, hc.1, hc.2, sizeOf, typeInfo, hii, hs, eptr]

/-! ### a part of a slice -/
theorem sub_map (f : α → List Value) (lo hi : Int) : (sub_ l lo hi).map f = sub_ (l.map f) lo hi := by simp [sub_, List.map_drop, List.map_take]

theorem Rd.sub {v : Value} {xs : List (List Value)} (h : Rd w v z xs) {lo hi : Int} (h0 : 0 ≤ lo) (h1 : lo ≤ hi) (h2 : hi ≤ (xs.length : Int)) : Rd w (slv v lo hi z) z (sub_ xs lo hi) := by
  have hl : (sub_ xs lo hi).length = hi.toNat - lo.toNat := by simp [sub_]; omega
  refine ⟨fun x hx => h.1 x (List.mem_of_mem_take (List.mem_of_mem_drop hx)), ?_⟩
  rcases h.2 with ⟨⟨a, rfl⟩, rfl⟩ | ⟨g, off, cap, cur, t, fz, rfl, hc, hg, hx⟩
  · have : lo = 0 ∧ hi = 0 := by simp at h2; omega
    obtain ⟨rfl, rfl⟩ := this
    exact .inl ⟨⟨a, by simp [slv]⟩, by simp [sub_]⟩
  · by_cases he : cap = lo.toNat
    · have : lo.toNat = xs.length ∧ hi.toNat = xs.length := by omega
      refine .inl ⟨⟨some ⟨g, off, none⟩, ?_⟩, List.eq_nil_of_length_eq_zero (by omega)⟩
      simp [slv, he]; omega
    · refine .inr ⟨g, off + lo.toNat * z, cap - lo.toNat, cur, t, fz, by simp [slv, he, hl, add_lit], by rw [hl]; omega, hg, fun j x hj => ?_⟩
      have e : (sub_ xs lo hi).flatten = (xs.take hi.toNat).flatten.drop (lo.toNat * z) := by
        have e1 : xs.take hi.toNat = (xs.take hi.toNat).take lo.toNat ++ (xs.take hi.toNat).drop lo.toNat := (List.take_append_drop ..).symm
        have e2 : ((xs.take hi.toNat).take lo.toNat).flatten.length = lo.toNat * z := by
          rw [flat_len (z := z) (fun x hx => h.1 x (List.mem_of_mem_take (List.mem_of_mem_take hx)))]
          congr 1; simp; omega
        conv => rhs; rw [e1, List.flatten_append]
        rw [List.drop_left' e2]; rfl
      rw [e, List.getElem?_drop] at hj
      have e3 : (xs.take hi.toNat).flatten = xs.flatten.take (hi.toNat * z) := by
        have e1 : xs = xs.take hi.toNat ++ xs.drop hi.toNat := (List.take_append_drop ..).symm
        have e2 : (xs.take hi.toNat).flatten.length = hi.toNat * z := by
          rw [flat_len (z := z) (fun x hx => h.1 x (List.mem_of_mem_take hx))]
          congr 1; simp; omega
        conv => rhs; rw [e1, List.flatten_append]
        rw [List.take_left' e2]
      rw [e3, List.getElem?_take] at hj
      split at hj
      · rw [Nat.add_assoc]; exact hx _ _ hj
      · cases hj

theorem foot_sub {v : Value} {lo hi : Int} {z b : Nat} (h : vfoot (slv v lo hi z) = some b) : vfoot v = some b := by
  cases v with
  | slice a n cap =>
    cases a with
    | none => simp [slv, vfoot] at h
    | some a =>
      simp only [slv, Option.map_some] at h
      split at h
      · rename_i he; simp [vfoot, he] at h
      · rename_i he
        simp only [vfoot] at h ⊢
        split at h
        · cases h
        · rw [if_neg (by omega)]
          rw [← h]
          congr 1
          unfold Addr.add; split <;> rfl
  | _ => simp [slv, vfoot, undef] at h

theorem Hp.sub (H : Hp M S w0 w L) {v : Value} {lo hi : Int} (hi' : L[i]? = some (.ro v z (l.map f))) (hc : 0 ≤ lo ∧ lo ≤ hi ∧ hi ≤ (l.length : Int)) : Hp M S w0 w (L ++ [.ro (slv v lo hi z) z ((sub_ l lo hi).map f)]) := by
  rw [sub_map]
  refine H.add _ ((H.ro hi').sub hc.1 hc.2.1 (by simpa using hc.2.2)) (fun h => by cases h) (fun b hb => H.seen i _ hi' b (foot_sub hb)) fun k y hy hmm b hb hyb => ?_
  by_cases hk : k = i
  · subst hk
    have := Option.some.inj (hi'.symm.trans hy)
    subst this
    rcases hmm with h | h <;> cases h
  · exact H.apart k i y _ hy hi' hk (by rcases hmm with h | h; exact .inl h; cases h) b hb (foot_sub hyb)

theorem run_sub {T e : TypeId} {lo hi : Option Value} {i j : Int} {n cap : Nat} {a : Option Addr} (hT : P.underlying T = some (.slice e)) (he : (P.info? e).map (·.size) = some z)
    (hb : (Instr.sliceBounds true n cap lo hi none).run P w = .ok (i.toNat, j.toNat, cap) w) : (Instr.sliceAt T (.slice a n cap) lo hi none).run P w = .ok (slv (.slice a n cap) i j z) w := by
  obtain ⟨ii, hii, hs⟩ := Option.map_eq_some_iff.1 he
  simp [Instr.sliceAt, Instr.slice, run_underlying hT, hb, sizeOf, typeInfo, hii, hs, slv]

theorem ex_subSLH {T e : TypeId} {x lo hi : Operand} {k k' : IntKind} {a b : Int} {w1 : World} (hrd : Rd w1 v z (l.map f)) (hT : P.underlying T = some (.slice e)) (he : (P.info? e).map (·.size) = some z) (hx : ev r x = v) (hl : ev r lo = .int k a) (hh : ev r hi = .int k' b)
    (hc : 0 ≤ a ∧ a ≤ b ∧ b ≤ (l.length : Int)) : (execOp (ev r) ⟨d, .slice T x (some lo) (some hi) none, ty, pos, aft, g⟩).run P w = .ok (.value (slv v a b z)) w := by
  obtain ⟨ad, c, rfl, hle⟩ := hrd.slice
  simp only [List.length_map] at hle hx
  have h1 : 0 ≤ b := by omega
  have h2 : (b.toNat : Int) = b := by omega
  have h3 : b ≤ (c : Int) := by omega
  have := run_sub (P := P) (w := w) (lo := some (.int k a)) (hi := some (.int k' b)) (i := a) (j := b) (n := l.length) (cap := c) (a := ad) hT he (by simp [Instr.sliceBounds, Instr.sliceBound, asIntOf, hc, h1, h2, h3])
  simp [execOp, hx, hl, hh, this]
theorem ex_subSH {T e : TypeId} {x hi : Operand} {k' : IntKind} {b : Int} {w1 : World} (hrd : Rd w1 v z (l.map f)) (hT : P.underlying T = some (.slice e)) (he : (P.info? e).map (·.size) = some z) (hx : ev r x = v) (hh : ev r hi = .int k' b)
    (hc : (0 : Int) ≤ 0 ∧ 0 ≤ b ∧ b ≤ (l.length : Int)) : (execOp (ev r) ⟨d, .slice T x none (some hi) none, ty, pos, aft, g⟩).run P w = .ok (.value (slv v 0 b z)) w := by
  obtain ⟨ad, c, rfl, hle⟩ := hrd.slice
  simp only [List.length_map] at hle hx
  have h3 : b ≤ (c : Int) := by omega
  have := run_sub (P := P) (w := w) (lo := none) (hi := some (.int k' b)) (i := 0) (j := b) (n := l.length) (cap := c) (a := ad) hT he (by simp [Instr.sliceBounds, Instr.sliceBound, asIntOf, hc, h3])
  simp [execOp, hx, hh, this]
theorem ex_subSL {T e : TypeId} {x lo : Operand} {k : IntKind} {a : Int} {w1 : World} (hrd : Rd w1 v z (l.map f)) (hT : P.underlying T = some (.slice e)) (he : (P.info? e).map (·.size) = some z) (hx : ev r x = v) (hl : ev r lo = .int k a)
    (hc : 0 ≤ a ∧ a ≤ (l.length : Int) ∧ (l.length : Int) ≤ (l.length : Int)) : (execOp (ev r) ⟨d, .slice T x (some lo) none none, ty, pos, aft, g⟩).run P w = .ok (.value (slv v a (l.length : Int) z)) w := by
  obtain ⟨ad, c, rfl, hle⟩ := hrd.slice
  simp only [List.length_map] at hle hx
  have := run_sub (P := P) (w := w) (lo := some (.int k a)) (hi := none) (i := a) (j := (l.length : Int)) (n := l.length) (cap := c) (a := ad) hT he (by simp [Instr.sliceBounds, Instr.sliceBound, asIntOf, hc])
  simp [execOp, hx, hl, this]
theorem ex_subSA {T e : TypeId} {x : Operand} {w1 : World} (hrd : Rd w1 v z (l.map f)) (hT : P.underlying T = some (.slice e)) (he : (P.info? e).map (·.size) = some z) (hx : ev r x = v)
    : (execOp (ev r) ⟨d, .slice T x none none none, ty, pos, aft, g⟩).run P w = .ok (.value (slv v 0 (l.length : Int) z)) w := by
  obtain ⟨ad, c, rfl, hle⟩ := hrd.slice
  simp only [List.length_map] at hle hx
  have := run_sub (P := P) (w := w) (lo := none) (hi := none) (i := 0) (j := (l.length : Int)) (n := l.length) (cap := c) (a := ad) hT he (by simp [Instr.sliceBounds])
  simp [execOp, hx, this]

end
end Go.Dor
end

section
/- SLICES OF THE CALL'S OWN: built, appended to, written, turned into texts. Plain lemmas over any program. -/
namespace Go.Dor
open Go.RowKit (Below)

theorem run_storeCells_seg (P : Program) (g o : Nat) (t : TypeId) (fz : Nat × Nat) : ∀ (vs : List Value) (i : Nat) (cur : Array Value) (w : World), w.heap[g]? = some (.cells cur t fz) → (∀ j, j < cur.size → ¬ (fz.1 ≤ j ∧ j < fz.2)) → o + i + vs.length ≤ cur.size → (∀ v ∈ vs, v.oneCell' = true) →
    (storeCells ⟨g, o, none⟩ vs i).run P w = .ok () (w.setRow g (cur.toList.take (o + i) ++ vs ++ cur.toList.drop (o + i + vs.length)).toArray)
  | [], i, cur, w, hg, _, _, _ => by
    simp only [storeCells, List.append_nil, List.length_nil, Nat.add_zero, List.take_append_drop, Array.toArray_toList]
    rw [setRow_self w g cur t fz hg]
    rfl
  | v :: rest, i, cur, w, hg, hfz, hl, h1 => by
    have hi : o + i < cur.size := by simp at hl; omega
    have hadd : (⟨g, o, none⟩ : Addr).add i = ⟨g, o + i, none⟩ := add_lit _ _ _
    have hcell : w.cell? ⟨g, o + i, none⟩ = some cur[o + i] := by simp [World.cell?, hg, hi]
    have hfro : w.frozen? ⟨g, o + i, none⟩ = false := by
      obtain ⟨lo, hi'⟩ := fz
      have := hfz (o + i) hi
      simp only [World.frozen?, hg, Bool.and_eq_false_iff, decide_eq_false_iff_not]
      simp only at this
      omega
    have hst : (store ((⟨g, o, none⟩ : Addr).add i) v).run P w = .ok () (w.setRow g (cur.setIfInBounds (o + i) v)) := by
      rw [hadd, run_store P w _ v _ (h1 v (by simp)), hcell]
      simp [hfro, setCell_eq_setRow w g (o + i) cur t fz v hg]
    have ih := run_storeCells_seg P g o t fz rest (i + 1) (cur.setIfInBounds (o + i) v) (w.setRow g (cur.setIfInBounds (o + i) v)) (setRow_heap w g cur _ t _ hg) (by simpa using hfz) (by simp at hl ⊢; omega) (fun x hx => h1 x (by simp [hx]))
    simp only [storeCells, Sem.run_bind, hst, Result.andThen_ok, ih, setRow_setRow]
    congr 3
    have e := list_seg_step cur.toList (o + i) v rest (by simp at hl ⊢; omega)
    simpa [Array.toList_setIfInBounds, Nat.add_assoc] using e

theorem One.enc {α : Type} {l : List α} {f : α → List Value} (h : ∀ a, ∀ v ∈ f a, v.oneCell' = true) : ∀ v ∈ (l.map f).flatten, v.oneCell' = true := fun v hv => by
  obtain ⟨x, hx, hv⟩ := List.mem_flatten.1 hv
  obtain ⟨a, _, rfl⟩ := List.mem_map.1 hx
  exact h a v hv
section
variable {P : Program} {w : World}

theorem src_of_rd {tx e' : TypeId} {v : Value} {z : Nat} {xs : List (List Value)} (hk : P.underlying tx = some (.slice e')) (h : Rd w v z xs) (h1 : ∀ v ∈ xs.flatten, v.oneCell' = true) : Src P z tx v xs.length xs.flatten w := by
  have hl := flat_len h.1
  rcases h.2 with ⟨⟨a, rfl⟩, rfl⟩ | ⟨g, off, cap, cur, t, fz, rfl, _, hg, hx⟩
  · cases a with
    | none => exact Src.ofNil w hk 0
    | some a => exact Src.ofSlice w hk a 0 0 [] (by simp) (by simp) (by simp)
  · refine Src.ofSlice w hk _ _ _ _ hl (fun j u hj => ?_) h1
    rw [add_lit, cell_of_row w g _ cur t fz hg]
    exact hx j u hj

theorem own_append {t tx ty e : TypeId} {v x : Value} {z b n : Nat} {xs ys : List (List Value)} (ht : P.underlying t = some (.slice e)) (he : elemOf P e = some (z, b)) (hO : Own w v e z xs) (hs : Src P z tx x n ys.flatten w) (hn : ys.length = n) (hz : ∀ y ∈ ys, y.length = z)
    (hb : (xs.length + n) * b ≤ 140737488355328) :
    ∃ v' w', (Builtin.append_ #[t, tx] ty #[v, x]).run P w = .ok v' w' ∧ Own w' v' e z (xs ++ ys) ∧ w.grownBy w' (vfoot v) ∧ (∀ k, vfoot v' = some k → vfoot v = some k ∨ w.heap.size ≤ k) ∧ Dr w w' := by
  obtain ⟨i, zv, hi, hzv, hsz, hby, hzs, hz0, hb0⟩ := elem_spec he
  subst hsz hby
  have hxz : ∀ u ∈ xs ++ ys, u.length = i.size := fun u hu => by rcases List.mem_append.1 hu with h | h; exact hO.1 u h; exact hz u h
  have hle : xs.length + n ≤ (xs.length + n) * i.bytes := Nat.le_mul_of_pos_right _ hb0
  have h63 : ((xs.length + n : Nat) : Int) ≤ 9223372036854775807 := by omega
  have hmax : xs.length + n ≤ maxLen := by simp only [maxLen]; omega
  have hxl := flat_len hO.1
  have hyl := hs.newsLen
  -- a new row
  have grown : ∀ (base : Option Addr) (sCap : Nat), v = .slice base xs.length sCap → sCap < xs.length + n → (Builtin.firstCells i.size xs.length (.slice base xs.length sCap)).run P w.drew = .ok xs.flatten.toArray w.drew →
      ∃ v' w', (Builtin.append_ #[t, tx] ty #[v, x]).run P w = .ok v' w' ∧ Own w' v' e i.size (xs ++ ys) ∧ w.grownBy w' (vfoot v) ∧ (∀ k, vfoot v' = some k → vfoot v = some k ∨ w.heap.size ≤ k) ∧ Dr w w' := by
    intro base sCap hv hlt hold
    have hr := run_append_grow_src (P := P) w t tx ty e i zv ht hi hzv base xs.length sCap xs.flatten hold x n ys.flatten hs hlt h63 (growslice_fits hlt hb)
    have hge := grownCap_ge w (xs.length + n) sCap e
    have hcm := grownCap_le_maxLen w (xs.length + n) sCap e hmax
    rw [hv, hr]
    refine ⟨_, _, rfl, ⟨hxz, .inr ⟨w.heap.size, grownCap w (xs.length + n) sCap e, _, (0, 0), by rw [List.length_append, hn], by rw [List.length_append, hn]; exact hge, hcm, heap_alloc_new w.drew _, by simp, ?_, ?_⟩⟩, ?_, ?_, .of (Nat.le_succ _)⟩
    · simp only [Array.size_append, List.size_toArray, List.length_append, hxl, hyl, size_zeroCells, hzs, ← Nat.add_mul]
      congr 1; omega
    · intro j u hj
      have hjl : j < (xs.flatten ++ ys.flatten).length := by rw [← List.flatten_append]; exact (List.getElem?_eq_some_iff.1 hj).1
      rw [Array.getElem?_append_left (by simpa using hjl)]
      rw [List.flatten_append] at hj
      simpa using hj
    · exact World.grownBy_alloc w.drew _ _ |> fun h => ⟨h.os, h.tape, h.output, h.size, h.block⟩
    · intro k hk
      simp only [vfoot] at hk
      split at hk
      · cases hk
      · simp only [Option.some.injEq] at hk; exact .inr (by omega)
  rcases hO.2 with ⟨⟨a, rfl, _⟩, rfl⟩ | ⟨g, cap, cur, fz, rfl, hc, hcm, hg, hfz, hcs, hx⟩
  · by_cases h0 : n = 0
    · subst h0
      have hy : ys = [] := List.eq_nil_of_length_eq_zero hn
      subst hy
      refine ⟨.slice a 0 0, w, ?_, hO, ⟨rfl, rfl, rfl, Nat.le_refl _, fun _ _ _ => rfl⟩, fun k hk => by cases a <;> simp [vfoot] at hk, .refl _⟩
      have e1 := hs.cells
      have e2 := hs.len w
      rcases hs.kind with ⟨e', hk⟩ | hk <;> cases a <;> simp [Builtin.append_, run_underlying ht, run_underlying hk, sizeOf, typeInfo, hi, e1, e2, storeCells]
    · refine grown a 0 rfl (by simp; omega) ?_
      cases a with
      | none => exact run_firstCells_none w.drew i.size 0 0 0
      | some a => exact run_firstCells_some w.drew i.size 0 a 0 0 [] (by simp) (by simp)
  · by_cases hroom : xs.length + n ≤ cap
    · have hfit : xs.length * i.size + ys.flatten.length ≤ cur.size := by rw [hyl, hcs, ← Nat.add_mul]; exact Nat.mul_le_mul_right _ hroom
      have hst := run_storeCells_seg P g (xs.length * i.size) e fz ys.flatten 0 cur w hg (fun j hj => hfz j (.inl hj)) (by simpa using hfit) hs.one
      simp only [Nat.add_zero] at hst
      obtain ⟨g1, g2⟩ := setRow_grown (cs' := (cur.toList.take (xs.length * i.size) ++ ys.flatten ++ cur.toList.drop (xs.length * i.size + ys.flatten.length)).toArray) hg
      have hfoot : w.grownBy (w.setRow g (cur.toList.take (xs.length * i.size) ++ ys.flatten ++ cur.toList.drop (xs.length * i.size + ys.flatten.length)).toArray) (vfoot (.slice (some ⟨g, 0, none⟩) xs.length cap)) := by
        by_cases hcap : cap = 0
        · -- nothing is there, nothing is written
          have hn0 : n = 0 := by omega
          have hx0 : xs = [] := List.eq_nil_of_length_eq_zero (by omega)
          have hy0 : ys = [] := List.eq_nil_of_length_eq_zero (by omega)
          subst hx0 hy0
          simp only [List.length_nil, Nat.zero_mul, List.flatten_nil, List.take_zero, List.append_nil, List.drop_zero, List.nil_append, Nat.add_zero, Array.toArray_toList]
          rw [setRow_self w g cur e fz hg]
          exact ⟨rfl, rfl, rfl, Nat.le_refl _, fun _ _ _ => rfl⟩
        · simpa [vfoot, hcap] using g1
      refine ⟨.slice (some ⟨g, 0, none⟩) (xs.length + n) cap, _, ?_, ⟨hxz, .inr ⟨g, cap, _, fz, by rw [List.length_append, hn], by rw [List.length_append, hn]; exact hroom, hcm, g2, ?_, ?_, ?_⟩⟩, hfoot, ?_, .of (Nat.le_refl _)⟩
      · rcases hs.kind with ⟨e', hk⟩ | hk <;> simp [Builtin.append_, run_underlying ht, run_underlying hk, sizeOf, typeInfo, hi, hs.len, hroom, hs.cells, add_lit, hst]
      · intro j hj
        refine hfz j ?_
        simp only [List.size_toArray, List.length_append, List.length_take, List.length_drop, Array.length_toList] at hj
        omega
      · simp only [List.size_toArray, List.length_append, List.length_take, List.length_drop, Array.length_toList]
        omega
      · intro j u hj
        have htake : cur.toList.take (xs.length * i.size) = xs.flatten := by
          apply List.ext_getElem?
          intro k
          rw [List.getElem?_take]
          by_cases hk : k < xs.length * i.size
          · rw [if_pos hk]
            have : k < xs.flatten.length := by rw [hxl]; exact hk
            rw [List.getElem?_eq_getElem this]
            simpa using hx k _ (List.getElem?_eq_getElem this)
          · rw [if_neg hk, List.getElem?_eq_none (by rw [hxl]; omega)]
        rw [List.flatten_append] at hj
        have hjl : j < (xs.flatten ++ ys.flatten).length := (List.getElem?_eq_some_iff.1 hj).1
        rw [htake]
        simp only [List.getElem?_toArray]
        rw [List.getElem?_append_left hjl]
        exact hj
      · intro k hk
        exact .inl (by simpa [vfoot] using hk)
    · refine grown _ cap rfl (by omega) (run_firstCells_some w.drew i.size xs.length ⟨g, 0, none⟩ xs.length cap xs.flatten hxl fun j u hj => ?_)
      rw [add_lit, cell_of_row w.drew g _ cur e fz hg, Nat.zero_add]
      exact hx j u hj
end

section
variable {P : Program} {r : Env} {w w0 : World} {d : Option Tmp} {ty : TypeId} {pos : String} {aft : Array Edge} {g : Option (Nat × Bool)} {M S : Nat → Prop} {L : List Res} {α : Type} {l m : List α} {f : α → List Value} {v u : Value} {z i j : Nat} {q q' : Res}

theorem bytes_flat (s : List UInt8) : byteCells (ByteArray.mk s.toArray) = ((numsOf s).map fun n => [Value.int .u8 n]).flatten := by
  simp only [byteCells, numsOf, List.map_map]
  induction s with
  | nil => rfl
  | cons a s ih => simp at ih ⊢; exact ih
/-! ### a slice that is built -/
theorem fill_all {α : Type} {gv : α → Value} {f : α → List Value} (hc : ∀ a, (gv a).cells.toList = f a) (hz : ∀ a, (f a).length = z) : ∀ (l : List α) (k : Nat) (c : List Value), (k + l.length) * z ≤ c.length →
    Instr.fill (fun i => some (i * z, z)) c.toArray ((l.zipIdx k).map fun x => (x.2, gv x.1)) = some (c.take (k * z) ++ (l.map f).flatten ++ c.drop ((k + l.length) * z)).toArray := by
  intro l
  induction l with
  | nil => intro k c _; simp [Instr.fill]
  | cons x l ih =>
    intro k c hk
    have hcl : (gv x).cells.size = z := by rw [← Array.length_toList, hc, hz]
    simp only [List.length_cons] at hk
    have hk2 : k * z + z ≤ c.length := by
      have : (k + 1) * z ≤ (k + (l.length + 1)) * z := Nat.mul_le_mul_right _ (by omega)
      rw [Nat.add_mul, Nat.one_mul] at this; omega
    rw [List.zipIdx_cons, List.map_cons]
    unfold Instr.fill
    simp only
    rw [if_neg (by
      rw [Bool.or_eq_true, decide_eq_true_eq, decide_eq_true_eq]
      rintro (h | h)
      · exact h hcl
      · simp only [hcl, List.size_toArray] at h; omega)]
    have e3 : (gv x).cells.zipIdx.foldl (fun cs (y : Value × Nat) => cs.setIfInBounds (k * z + y.2) y.1) c.toArray = (c.take (k * z) ++ f x ++ c.drop (k * z + z)).toArray := by
      rw [← Array.foldl_toList]
      simp only [Array.toList_zipIdx, hc]
      have := foldl_setSegs (f x) (k * z) 0 c (by rw [hz]; omega)
      simpa [hz] using this
    rw [e3]
    have hlen : (c.take (k * z) ++ f x ++ c.drop (k * z + z)).length = c.length := by simp [hz]; omega
    rw [ih (k + 1) _ (by rw [hlen, show k + 1 + l.length = k + (l.length + 1) by omega]; exact hk)]
    congr 2
    have t1 : (c.take (k * z) ++ f x ++ c.drop (k * z + z)).take ((k + 1) * z) = c.take (k * z) ++ f x := by
      rw [List.take_left']
      simp [hz, Nat.add_mul]; omega
    have t2 : (c.take (k * z) ++ f x ++ c.drop (k * z + z)).drop ((k + 1 + l.length) * z) = c.drop ((k + (l.length + 1)) * z) := by
      have e4 : (c.take (k * z) ++ f x).length = k * z + z := by simp [hz]; omega
      rw [List.drop_append, e4, List.drop_drop, List.drop_eq_nil_of_le (by rw [e4, Nat.add_mul, Nat.add_mul]; omega), List.nil_append]
      congr 1
      simp only [Nat.add_mul]; omega
    rw [t1, t2]
    simp only [List.map_cons, List.flatten_cons, List.append_assoc, List.length_cons]

theorem st_build {T e : TypeId} {len b : Nat} {parts : List (Nat × Operand)} {gv : α → Value} (l : List α) (f : α → List Value) (H : Hp M S w0 w L) (hT : P.underlying T = some (.slice e)) (he : elemOf P e = some (z, b)) (hlen : l.length = len)
    (hv : parts.map (fun x => (x.1, ev r x.2)) = (l.zipIdx.map fun x => (x.2, gv x.1))) (hc : ∀ a, (gv a).cells.toList = f a) (hz : ∀ a, (f a).length = z) (hsm : len * z ≤ 16777216) :
    Step P ⟨d, .buildSlice T len parts.toArray, ty, pos, aft, g⟩ r w fun v w' => Hp M S w0 w' (L ++ [.own v e z (l.map f)]) := by
  obtain ⟨i, zv, hi, hzv, hsz, hby, hzs, hz0, hb0⟩ := elem_spec he
  have hxl : ∀ x ∈ l.map f, x.length = z := fun x hx => by obtain ⟨a, _, rfl⟩ := List.mem_map.1 hx; exact hz a
  have hfl := flat_len hxl
  simp only [List.length_map, hlen] at hfl
  have hst : ∀ (c : Array Value), c.size = len * z → Instr.fill (fun i => some (i * z, z)) c (parts.map (fun x => (x.1, ev r x.2))) = some (l.map f).flatten.toArray := fun c hcs => by
    have := fill_all hc hz l 0 c.toList (by simp [hlen, hcs])
    rw [hv]
    simp only [Array.toArray_toList, Nat.zero_mul, List.take_zero, List.nil_append, Nat.zero_add, hlen] at this
    rw [this, List.drop_eq_nil_of_le (by simp [hcs]), List.append_nil]
  have ep : (Array.map (fun (x : Nat × Operand) => match x with | (i, x) => (i, ev r x)) parts.toArray).toList = parts.map (fun x => (x.1, ev r x.2)) := by simp
  refine .value (v := .slice (some ⟨w.heap.size, 0, none⟩) len len) (w' := w.alloc (.cells (l.map f).flatten.toArray e)) ?_ (H.fresh (below_alloc w _) _ ⟨hxl, .inr ⟨w.heap.size, len, _, (0, 0), by simp [hlen], by simp [hlen], ?_, heap_alloc_new w _, by simp, ?_, ?_⟩⟩ ?_)
  · have h24 : ¬ 16777216 < len * z := by omega
    by_cases h0 : len * z = 0
    · have := hst ((Array.range 0).map fun _ => (default : Value)) (by simp [h0])
      simp only [execOp, Instr.buildSlice, Sem.run_bind, run_underlying hT, Result.andThen_ok, sizeOf, typeInfo, run_program, hi, Sem.run_pure, hsz, h0, ep]
      simp [this, newRow]
    · have := hst ((Array.range (len * z)).map (zv.cells[· % zv.cells.size]!)) (by simp)
      simp only [execOp, Instr.buildSlice, Sem.run_bind, run_underlying hT, Result.andThen_ok, sizeOf, typeInfo, run_program, hi, Sem.run_pure, hsz, ep, zeroValue]
      simp [this, newRow, h24, h0, hi, hzv]
  · have : len ≤ len * z := Nat.le_mul_of_pos_right _ hz0
    simp only [maxLen]; omega
  · simp [hfl]
  · intro j u hj; simpa using hj
  · intro b hb
    simp only [Res.foot, vfoot] at hb
    split at hb
    · cases hb
    · simp only [Option.some.injEq] at hb; omega

/-! ### texts and bytes -/
theorem fold_bytes (ns : List Int) : ∀ s : ByteArray, ns.foldl (fun r n => r.push (UInt8.ofNat n.toNat)) s = ⟨s.data ++ (bytesOf ns).toArray⟩ := by
  induction ns with
  | nil => intro s; simp [bytesOf]
  | cons n ns ih =>
    intro s
    rw [List.foldl_cons, ih]
    apply ByteArray.ext
    simp [bytesOf, ByteArray.push]

theorem flat1 {α : Type} (l : List α) (c : α → Value) : (l.map fun x => [c x]).flatten = l.map c := by
  induction l with
  | nil => rfl
  | cons a l ih => simp [ih]

theorem ex_convBT {T U e : TypeId} {x : Operand} {l : List Int} (hrd : Rd w v 1 (l.map fun n => [.int .u8 n])) (hT : P.underlying T = some (.slice e)) (he : P.underlying e = some (.int .u8)) (hU : P.underlying U = some .string) (hx : ev r x = v) :
    (execOp (ev r) ⟨d, .convert T U x, ty, pos, aft, g⟩).run P w = .ok (.value (sv (bytesOf l))) w := by
  rcases hrd.2 with ⟨⟨a, rfl⟩, h0⟩ | ⟨g', off, cap, cur, t, fz, rfl, h1, h2, h3⟩
  · simp only [List.map_eq_nil_iff] at h0
    subst h0
    cases a with
    | none => simp [execOp, hx, convert, run_underlying hT, run_underlying hU, run_underlying he, Conv.bytesToString, bytesOf, sv]; rfl
    | some a =>
      have := run_bytesToString (P := P) w a 0 0 [] (by simpa using run_loadCells_list (P := P) w a [] (by simp))
      simp [execOp, hx, convert, run_underlying hT, run_underlying hU, run_underlying he, this, bytesOf, sv]; rfl
  · have hl := run_loadCells_list (P := P) w ⟨g', off, none⟩ (l.map fun n => Value.int .u8 n) fun j u hj => by
      rw [add_lit, cell_of_row w g' _ cur t fz h2]
      exact h3 j u (by rw [flat1]; exact hj)
    simp only [List.length_map] at hl
    have := run_bytesToString (P := P) w ⟨g', off, none⟩ l.length cap l hl
    simp only [List.length_map] at hx
    rw [fold_bytes] at this
    simp [execOp, hx, convert, run_underlying hT, run_underlying hU, run_underlying he, this, sv]

end
end Go.Dor
end

section
/- PARTS OF ARRAYS AS SLICES, COPIES, ARRAYS OUT OF SLICES. Plain lemmas over any program. -/
namespace Go.Dor
open Go.RowKit (Below)

/-- a part of an array in a variable, as a slice -/
def bsv (b off n : Nat) (lo hi : Int) : Value := .slice (some ⟨b, if n = lo.toNat then off else off + lo.toNat, none⟩) (hi.toNat - lo.toNat) (n - lo.toNat)

def vcopy {α : Type} {n : Nat} (v : Vector α n) (lo : Int) (xs : List α) : Vector α n :=
  if h : lo.toNat + xs.length ≤ n then ⟨⟨v.toList.take lo.toNat ++ xs ++ v.toList.drop (lo.toNat + xs.length)⟩, by simp; omega⟩ else v

def vecOf {α : Type} (n : Nat) (dd : α) (l : List α) : Vector α n := ⟨⟨(List.range n).map fun i => l.getD i dd⟩, by simp⟩

section
variable {P : Program} {r : Env} {w w0 : World} {d : Option Tmp} {ty : TypeId} {pos : String} {aft : Array Edge} {g : Option (Nat × Bool)} {M S : Nat → Prop} {L : List Res} {α : Type} {l m : List α} {f : α → List Value} {v u : Value} {z i j : Nat}

theorem run_subP {T e : TypeId} {lo hi : Option Value} {a b : Int} {n g off : Nat} (hT : P.underlying T = some (.array n e)) (he : (P.info? e).map (·.size) = some 1)
    (hb : (Instr.sliceBounds false n n lo hi none).run P w = .ok (a.toNat, b.toNat, n) w) : (Instr.sliceAt T (.pointer (some ⟨g, off, none⟩)) lo hi none).run P w = .ok (bsv g off n a b) w := by
  obtain ⟨ii, hii, hs⟩ := Option.map_eq_some_iff.1 he
  simp only [Instr.sliceAt, Sem.run_bind, run_underlying hT, Result.andThen_ok, Instr.sureAddr, Sem.run_pure, hb, sizeOf, typeInfo, run_program, hii, hs, bsv, Nat.mul_one, add_lit]
  congr 2
  split <;> rfl

theorem ex_sliceLH {T e : TypeId} {x lo hi : Operand} {n b off : Nat} {k k' : IntKind} {a c : Int} (hT : P.underlying T = some (.array n e)) (he : (P.info? e).map (·.size) = some 1) (hx : ev r x = .pointer (some ⟨b, off, none⟩)) (hl : ev r lo = .int k a) (hh : ev r hi = .int k' c) (hc : 0 ≤ a ∧ a ≤ c ∧ c ≤ (n : Int)) :
    (execOp (ev r) ⟨d, .slice T x (some lo) (some hi) none, ty, pos, aft, g⟩).run P w = .ok (.value (bsv b off n a c)) w := by
  have h1 : 0 ≤ c := by omega
  have h2 : (c.toNat : Int) = c := by omega
  have := run_subP (P := P) (w := w) (lo := some (.int k a)) (hi := some (.int k' c)) (a := a) (b := c) (n := n) (g := b) (off := off) hT he (by simp [Instr.sliceBounds, Instr.sliceBound, asIntOf, hc, h1, h2])
  simp [execOp, hx, hl, hh, this]
theorem ex_sliceH {T e : TypeId} {x hi : Operand} {n b off : Nat} {k' : IntKind} {c : Int} (hT : P.underlying T = some (.array n e)) (he : (P.info? e).map (·.size) = some 1) (hx : ev r x = .pointer (some ⟨b, off, none⟩)) (hh : ev r hi = .int k' c) (hc : (0 : Int) ≤ 0 ∧ 0 ≤ c ∧ c ≤ (n : Int)) :
    (execOp (ev r) ⟨d, .slice T x none (some hi) none, ty, pos, aft, g⟩).run P w = .ok (.value (bsv b off n 0 c)) w := by
  have := run_subP (P := P) (w := w) (lo := none) (hi := some (.int k' c)) (a := 0) (b := c) (n := n) (g := b) (off := off) hT he (by simp [Instr.sliceBounds, Instr.sliceBound, asIntOf, hc])
  simp [execOp, hx, hh, this]
theorem ex_sliceL {T e : TypeId} {x lo : Operand} {n b off : Nat} {k : IntKind} {a : Int} (hT : P.underlying T = some (.array n e)) (he : (P.info? e).map (·.size) = some 1) (hx : ev r x = .pointer (some ⟨b, off, none⟩)) (hl : ev r lo = .int k a) (hc : 0 ≤ a ∧ a ≤ (n : Int) ∧ (n : Int) ≤ (n : Int)) :
    (execOp (ev r) ⟨d, .slice T x (some lo) none none, ty, pos, aft, g⟩).run P w = .ok (.value (bsv b off n a (n : Int))) w := by
  have := run_subP (P := P) (w := w) (lo := some (.int k a)) (hi := none) (a := a) (b := (n : Int)) (n := n) (g := b) (off := off) hT he (by simp [Instr.sliceBounds, Instr.sliceBound, asIntOf, hc])
  simp [execOp, hx, hl, this]
theorem ex_sliceA {T e : TypeId} {x : Operand} {n b off : Nat} (hT : P.underlying T = some (.array n e)) (he : (P.info? e).map (·.size) = some 1) (hx : ev r x = .pointer (some ⟨b, off, none⟩)) :
    (execOp (ev r) ⟨d, .slice T x none none none, ty, pos, aft, g⟩).run P w = .ok (.value (bsv b off n 0 (n : Int))) w := by
  have := run_subP (P := P) (w := w) (lo := none) (hi := none) (a := 0) (b := (n : Int)) (n := n) (g := b) (off := off) hT he (by simp [Instr.sliceBounds])
  simp [execOp, hx, this]

theorem rd_bs {t : TypeId} {s : List (List Value)} {n b off : Nat} {a c : Int} {x : Vector α n} {k : α → Value} {fz : Nat × Nat} (pre post : List (List Value)) (hb : w.heap[b]? = some (.cells (cells s) t fz)) (hs : s = pre ++ [x.toList.map k] ++ post) (ho : pre.flatten.length = off) (hc : 0 ≤ a ∧ a ≤ c ∧ c ≤ (n : Int)) :
    Rd w (bsv b off n a c) 1 ((sub_ x.toList a c).map fun y => [k y]) := by
  have hl : (sub_ x.toList a c).length = c.toNat - a.toNat := by simp [sub_]; omega
  refine ⟨fun u hu => by obtain ⟨_, _, rfl⟩ := List.mem_map.1 hu; rfl, ?_⟩
  refine .inr ⟨b, if n = a.toNat then off else off + a.toNat, n - a.toNat, cells s, t, fz, by rw [List.length_map, hl]; rfl, by rw [List.length_map, hl]; omega, hb, fun j u hj => ?_⟩
  have hjl : j < c.toNat - a.toNat := by have := (List.getElem?_eq_some_iff.1 hj).1; rw [flat1, List.length_map, hl] at this; exact this
  rw [flat1, List.getElem?_map] at hj
  have e1 : (if n = a.toNat then off else off + a.toNat) + j = off + (a.toNat + j) := by rw [if_neg (by omega)]; omega
  rw [e1]
  have e2 := flat_mid pre [x.toList.map k] post (a.toNat + j) (by simp; omega)
  have e3 : (cells s)[off + (a.toNat + j)]? = s.flatten[off + (a.toNat + j)]? := by simp [cells]
  rw [e3, hs, ← ho, e2]
  simp only [List.flatten_cons, List.flatten_nil, List.append_nil, List.getElem?_map]
  simp only [sub_, List.getElem?_drop, List.getElem?_take] at hj
  rw [if_pos (by omega)] at hj
  exact hj

theorem Hp.bs (H : Hp M S w0 w L) {t : TypeId} {s : List (List Value)} {n b off : Nat} {a c : Int} {x : Vector α n} {k : α → Value} (pre post : List (List Value)) (hi : L[i]? = some (.blk b t s)) (hs : s = pre ++ [x.toList.map k] ++ post) (ho : pre.flatten.length = off) (hc : 0 ≤ a ∧ a ≤ c ∧ c ≤ (n : Int)) :
    Rd w (bsv b off n a c) 1 ((sub_ x.toList a c).map fun y => [k y]) := rd_bs pre post (H.blk hi) hs ho hc

/-! ### copies into an array -/
theorem run_copy {t tx e : TypeId} {a : Addr} {n c m : Nat} {x : Value} {news : List Value} {w' : World} (ht : P.underlying t = some (.slice e)) (he : (P.info? e).map (·.size) = some 1) (hs : Src P 1 tx x m news w) (hm : m ≤ n) (hst : (storeCells a news).run P w = .ok () w') :
    (Builtin.copy_ #[t, tx] ty #[.slice (some a) n c, x]).run P w = .ok (goInt m) w' := by
  obtain ⟨ii, hii, hsz⟩ := Option.map_eq_some_iff.1 he
  have e1 := hs.cells
  have e2 := hs.len w
  have e3 : Nat.min m n = m := Nat.min_eq_left hm
  simp [Builtin.copy_, run_underlying ht, e2, sizeOf, typeInfo, hii, hsz, e3, e1, hst]

theorem st_copyBs {t tx e bt : TypeId} {x y : Operand} {s : List (List Value)} {n b off : Nat} {a c : Int} {av : Vector α n} {k : α → Value} {xs : List α} {u : Value} (pre post : List (List Value)) (H : Hp M S w0 w L) (hi : L[i]? = some (.blk b bt s)) (hs : s = pre ++ [av.toList.map k] ++ post) (ho : pre.flatten.length = off) (hc : 0 ≤ a ∧ a ≤ c ∧ c ≤ (n : Int))
    (ht : P.underlying t = some (.slice e)) (he : (P.info? e).map (·.size) = some 1) (hsrc : Src P 1 tx u xs.length (xs.map k) w) (hx : ev r x = bsv b off n a c) (hy : ev r y = u) (hle : (xs.length : Int) ≤ c - a) :
    Step P ⟨d, .call { callee := .builtin .copy, args := #[x, y], argTypes := #[t, tx] }, ty, pos, aft, g⟩ r w fun v w' => v = .int .i64 xs.length ∧ Hp M S w0 w' (L.set i (.blk b bt (pre ++ [(vcopy av a xs).toList.map k] ++ post))) := by
  have hb := H.blk hi
  have hsz : (cells s).size = off + n + post.flatten.length := by
    rw [hs]; simp only [cells, List.size_toArray, List.flatten_append, List.length_append, ho]; simp
  have hlen : xs.length ≤ c.toNat - a.toNat := by omega
  have hva : (vcopy av a xs).toList = av.toList.take a.toNat ++ xs ++ av.toList.drop (a.toNat + xs.length) := by
    unfold vcopy; rw [dif_pos (by omega)]; rfl
  by_cases hx0 : xs.length = 0
  · have : xs = [] := List.eq_nil_of_length_eq_zero hx0
    subst this
    have hr := run_copy (P := P) (ty := ty) (a := ⟨b, if n = a.toNat then off else off + a.toNat, none⟩) (n := c.toNat - a.toNat) (c := n - a.toNat) (w' := w) ht he hsrc (by simp) (by simp [storeCells])
    refine .value (v := .int .i64 0) (w' := w) (by simp [execOp, hx, hy, resolve, invoke, builtin, bsv, hr, goInt]) ⟨rfl, ?_⟩
    have : vcopy av a [] = av := by
      apply Vector.toArray_inj.1; apply Array.toList_inj.1
      have h0 : (vcopy av a []).toList = av.toList := by rw [hva]; simp
      exact h0
    rw [this, ← hs]
    have hL : L.set i (.blk b bt s) = L := by
      apply List.ext_getElem?; intro q
      rw [List.getElem?_set]
      split
      · rename_i h; subst h; split
        · exact hi.symm
        · rename_i h; rw [List.getElem?_eq_none (by omega)]
      · rfl
    rw [hL]; exact H
  · have hst := run_storeCells_seg P b (off + a.toNat) bt (0, 0) (xs.map k) 0 (cells s) w hb (by simp) (by rw [hsz]; simp; omega) hsrc.one
    simp only [Nat.add_zero, List.length_map] at hst
    have e1 : ((cells s).toList.take (off + a.toNat) ++ xs.map k ++ (cells s).toList.drop (off + a.toNat + xs.length)) = (pre ++ [(vcopy av a xs).toList.map k] ++ post).flatten := by
      have e2 : (cells s).toList = pre.flatten ++ (av.toList.map k ++ post.flatten) := by rw [hs]; simp [cells]
      have hvl : (av.toList.map k).length = n := by simp
      rw [e2, hva, ← ho]
      simp only [List.flatten_append, List.flatten_cons, List.flatten_nil, List.append_nil, List.map_append, List.map_take, List.map_drop]
      rw [List.take_length_add_append, show pre.flatten.length + a.toNat + xs.length = pre.flatten.length + (a.toNat + xs.length) by omega, List.drop_length_add_append]
      rw [List.take_append_of_le_length (by omega), List.drop_append_of_le_length (by omega)]
      simp only [List.append_assoc]
    rw [e1] at hst
    have hr := run_copy (P := P) (ty := ty) (a := ⟨b, off + a.toNat, none⟩) (n := c.toNat - a.toNat) (c := n - a.toNat) ht he hsrc hlen hst
    obtain ⟨g1, g2⟩ := setRow_grown (cs' := cells (pre ++ [(vcopy av a xs).toList.map k] ++ post)) hb
    refine .value (v := .int .i64 xs.length) (w' := w.setRow b (cells (pre ++ [(vcopy av a xs).toList.map k] ++ post))) ?_ ⟨rfl, H.set hi rfl g1 _ g2 fun _ h => .inl h⟩
    have hne : n ≠ a.toNat := by omega
    simp [execOp, hx, hy, resolve, invoke, builtin, bsv, hne, hr, goInt, cells]

theorem src_txt {tx : TypeId} {s : List UInt8} (hk : P.underlying tx = some .string) : Src P 1 tx (sv s) (numsOf s).length ((numsOf s).map (Value.int .u8)) w := by
  have := Src.ofString w hk (ByteArray.mk s.toArray)
  rw [bytes_flat, flat1, sv_size] at this
  simpa [numsOf, sv] using this

/-! ### an array out of a slice -/
theorem ex_toArr {T e : TypeId} {x : Operand} {n : Nat} {w1 : World} (hrd : Rd w1 v z (l.map f)) (hT : P.underlying T = some (.array n e)) (hx : ev r x = v) (hn : n ≤ l.length) (h0 : 0 < n) :
    (execOp (ev r) ⟨d, .sliceToArrayPointer T x, ty, pos, aft, g⟩).run P w = .ok (.value (eptr v 0)) w := by
  rcases hrd.2 with ⟨_, hh⟩ | ⟨g', off, cap, cur, t, fz, rfl, h1, h2, h3⟩
  · simp only [List.map_eq_nil_iff] at hh; subst hh; simp at hn; omega
  · have : ¬ l.length < n := by omega
    simp [execOp, hx, Instr.arrayAt, run_underlying hT, this, eptr, add_lit]

theorem mem_cons {B R : List Res} {y : Res} {i : Nat} (h : B[i]? = some y) (hR : ∀ x ∈ R, x ∈ B) : ∀ x ∈ y :: R, x ∈ B := fun x hx => by
  rcases List.mem_cons.1 hx with rfl | hx
  · exact List.mem_of_getElem? h
  · exact hR x hx

end
end Go.Dor
namespace Go.Dor
/-! ### functions without a body -/
def indexByteOf (a : List UInt8) (c : Int) : Int := Lib.indexByte a c.toNat.toUInt8
def countByteOf (a : List UInt8) (c : Int) : Int := ((Lib.countByte a c.toNat.toUInt8 : Nat) : Int)
/-- functions without a body, by their kind -/
def externFn : Nat → (Array Value → Sem Value)
  | 1 => Extern.BytealgCount.count
  | 2 => Extern.MathFloatBits.float64bits
  | 3 => Extern.MathFloatBits.float64frombits
  | _ => Extern.BytealgIndexByte.indexByte
structure ExternOf (P : Program) (f : FuncId) (e : Array Value → Sem Value) : Prop where
  fn : ∃ fn, P.funcs[f]? = some fn ∧ (fn.name == "runtime.NumGoroutine") = false ∧ fn.body.isNone = true ∧ Extern.findNext fn = none ∧ Extern.find fn = some e

theorem ex_indexByte {P : Program} {r : Env} {w : World} {d : Option Tmp} {ty : TypeId} {pos : String} {aft : Array Edge} {g : Option (Nat × Bool)} {x y z : Operand} {f : FuncId} {a : List UInt8} {c : Int} {at_ : Array TypeId}
    (hE : ExternOf P f Extern.BytealgIndexByte.indexByte) (hx : ev r x = .func (.func f) #[] #[]) (hy : ev r y = sv a) (hz : ev r z = .int .u8 c) :
    (execOp (ev r) ⟨d, .call { callee := .value x, args := #[y, z], argTypes := at_ }, ty, pos, aft, g⟩).run P w = .ok (.value (.int .i64 (indexByteOf a c))) w := by
  obtain ⟨fn, h1, h2, h3, h4, h5⟩ := hE.fn
  have h := run_callFunc_extern (P := P) h1 h2 h3 h4 h5 #[sv a, .int .u8 c] w
  have h6 := Lib.run_indexByteString (P := P) (ByteArray.mk a.toArray) c w
  simp only [sv] at hy h
  rw [h6] at h
  simp [execOp, resolve, Deferred.ofValue, hx, hy, hz, invoke, h, indexByteOf]
theorem ex_countByte {P : Program} {r : Env} {w : World} {d : Option Tmp} {ty : TypeId} {pos : String} {aft : Array Edge} {g : Option (Nat × Bool)} {x y z : Operand} {f : FuncId} {a : List UInt8} {c : Int} {at_ : Array TypeId}
    (hE : ExternOf P f Extern.BytealgCount.count) (hx : ev r x = .func (.func f) #[] #[]) (hy : ev r y = sv a) (hz : ev r z = .int .u8 c) :
    (execOp (ev r) ⟨d, .call { callee := .value x, args := #[y, z], argTypes := at_ }, ty, pos, aft, g⟩).run P w = .ok (.value (.int .i64 (countByteOf a c))) w := by
  obtain ⟨fn, h1, h2, h3, h4, h5⟩ := hE.fn
  have h := run_callFunc_extern (P := P) h1 h2 h3 h4 h5 #[sv a, .int .u8 c] w
  have h6 := Lib.run_countString (P := P) (ByteArray.mk a.toArray) c w
  simp only [sv] at hy h
  rw [h6] at h
  simp [execOp, resolve, Deferred.ofValue, hx, hy, hz, invoke, h, countByteOf]
end Go.Dor
namespace Go.Dor
/-! ### a guard that was itself passed over -/
section
variable {P : Program} {n : Nat} {ops : Array Oper} {r : Env} {w : World} {K : Env → World → Prop}
end
end Go.Dor
namespace Go.Dor
theorem Rd.one {w : World} {v : Value} {z : Nat} {xs : List (List Value)} (h : Rd w v z xs) : v.oneCell' = true := by
  obtain ⟨a, c, rfl, _⟩ := h.slice; rfl
/-! ### an array of which some elements are said -/
def bparts {α : Type} (n : Nat) (z : α) (ps : List (Nat × α)) : Vector α n := ps.foldl (fun v x => vset v (x.1 : Int) x.2) (Vector.replicate n z)
section
variable {P : Program} {r : Env} {w : World} {d : Option Tmp} {ty : TypeId} {pos : String} {aft : Array Edge} {g : Option (Nat × Bool)}
theorem ex_buildP {α : Type} {T e : TypeId} {m : Nat} {parts : List (Nat × Operand)} {ps : List (Nat × α)} {f : α → Value} {z0 : α} (hu : P.underlying T = some (.array m e)) (hz : zeroOf P T = some (cells [(Vector.replicate m z0).toList.map f])) (he : (P.info? e).map (·.size) = some 1)
    (hv : parts.map (fun x => (x.1, ev r x.2)) = ps.map (fun x => (x.1, f x.2))) (_h : True = True) (hm : ∀ x ∈ ps.map (·.1), x < m) (h1 : ∀ a, (f a).oneCell' = true) :
    (execOp (ev r) ⟨d, .build T parts.toArray, ty, pos, aft, g⟩).run P w = .ok (.value (ag [(bparts m z0 ps).toList.map f])) w := by
  obtain ⟨zv, h2, h3⟩ := Option.map_eq_some_iff.1 hz
  obtain ⟨i, hi, h4⟩ := Option.bind_eq_some_iff.1 h2
  obtain ⟨ie, hie, hs⟩ := Option.map_eq_some_iff.1 he
  have key : ∀ (ps : List (Nat × α)) (v : Vector α m), (∀ x ∈ ps.map (·.1), x < m) →
      Instr.fill (fun i => some (i * 1, 1)) (cells [v.toList.map f]) (ps.map fun x => (x.1, f x.2)) = some (cells [(ps.foldl (fun v x => vset v (x.1 : Int) x.2) v).toList.map f]) := by
    intro ps
    induction ps with
    | nil => intro v _; rfl
    | cons x ps ih =>
      intro v hm
      have hx : x.1 < m := hm x.1 (by simp)
      have hc : (f x.2).cells = #[f x.2] := by have := h1 x.2; cases hh : f x.2 <;> rw [hh] at this <;> first | rfl | cases this
      rw [List.map_cons]
      unfold Instr.fill
      simp only [hc, Nat.mul_one]
      rw [if_neg (by simp [cells]; omega)]
      have e5 : (#[f x.2] : Array Value).zipIdx.foldl (fun cs (y : Value × Nat) => cs.setIfInBounds (x.1 + y.2) y.1) (cells [v.toList.map f]) = cells [(vset v (x.1 : Int) x.2).toList.map f] := by
        have : (vset v (x.1 : Int) x.2).toList = v.toList.set x.1 x.2 := rfl
        rw [this]
        simp [cells, List.map_set]
      rw [e5]
      have := ih (vset v (x.1 : Int) x.2) (fun y hy => hm y (by simp at hy ⊢; exact .inr hy))
      simp only [Nat.mul_one] at this
      exact this
  have hk := key ps (Vector.replicate m z0) hm
  have e6 : (parts.toArray.map fun (x : Nat × Operand) => (x.1, ev r x.2)).toList = ps.map (fun x => (x.1, f x.2)) := by simp [← hv]
  simp only [execOp, Instr.build, Sem.run_bind, zeroValue, typeInfo, run_program, Result.andThen_ok, hi, h4, Sem.run_pure, run_underlying hu, h3, sizeOf, hie, hs]
  rw [show (Array.map (fun (x : Nat × Operand) => match x with | (i, x) => (i, ev r x)) parts.toArray) = (parts.toArray.map fun (x : Nat × Operand) => (x.1, ev r x.2)) from rfl, e6, hk]
  simp [ag, bparts]

end
end Go.Dor
namespace Go.Dor
end Go.Dor
end

section
/- FLOATS: operations on exact bits, as steps. Plain lemmas over any program. -/
namespace Go.Dor
open Go.RowKit

/-! what the operations give, by number -/
def flOp (op : Nat) (k : FloatKind) (a b : Nat) : Option Nat :=
  match op with
  | 0 => k.format.add a b
  | 1 => k.format.sub a b
  | 2 => k.format.mul a b
  | _ => k.format.div a b
/-- the mark of some NaN, of whatever bits -/
def nanC : Nat := 36893488147419103231
def flOpX (op : Nat) (k : FloatKind) (a b : Nat) : Nat := (flOp op k a b).getD nanC
def flEq (k : FloatKind) (a b : Nat) : Bool := k.format.order a b == some .eq
def flLt (k : FloatKind) (a b : Nat) : Bool := k.format.order a b == some .lt
def flGt (k : FloatKind) (a b : Nat) : Bool := k.format.order a b == some .gt
def flNeg (k : FloatKind) (a : Nat) : Nat := Op.negFloat k a
def flMax (k : FloatKind) (a b : Nat) : Option Nat :=
  match k.format.order a b with
  | none => none
  | some .lt => some b
  | some .gt => some a
  | some .eq => some (if (k.decode a).neg then b else a)
def flMin (k : FloatKind) (a b : Nat) : Option Nat :=
  match k.format.order a b with
  | none => none
  | some .lt => some a
  | some .gt => some b
  | some .eq => some (if (k.decode a).neg then a else b)
def flNear (k : FloatKind) (n : Int) : Nat := k.nearest n
def flInt (k : FloatKind) (b : Nat) (d : IntKind) : Option Int := floatToIntVal k b d

section
variable {P : Program} {r : Env} {w : World} {d : Option Tmp} {ty : TypeId} {pos : String} {aft : Array Edge} {g : Option (Nat × Bool)} {x y : Operand} {t u s : TypeId} {k : FloatKind} {a b z : Nat}
theorem ex_addf (hx : ev r x = .float k a) (hy : ev r y = .float k b) (h : flOp 0 k a b = some z) : (execOp (ev r) ⟨d, .binOp .add t x y u, ty, pos, aft, g⟩).run P w = .ok (.value (.float k z)) w := by
  have h : k.format.add a b = some z := h
  simp [execOp, hx, hy, eqGuard, binOp, Op.floatArith, h]
theorem ex_subf (hx : ev r x = .float k a) (hy : ev r y = .float k b) (h : flOp 1 k a b = some z) : (execOp (ev r) ⟨d, .binOp .sub t x y u, ty, pos, aft, g⟩).run P w = .ok (.value (.float k z)) w := by
  have h : k.format.sub a b = some z := h
  simp [execOp, hx, hy, eqGuard, binOp, Op.floatArith, h]
theorem ex_mulf (hx : ev r x = .float k a) (hy : ev r y = .float k b) (h : flOp 2 k a b = some z) : (execOp (ev r) ⟨d, .binOp .mul t x y u, ty, pos, aft, g⟩).run P w = .ok (.value (.float k z)) w := by
  have h : k.format.mul a b = some z := h
  simp [execOp, hx, hy, eqGuard, binOp, Op.floatArith, h]
theorem ex_quof (hx : ev r x = .float k a) (hy : ev r y = .float k b) (h : flOp 3 k a b = some z) : (execOp (ev r) ⟨d, .binOp .quo t x y u, ty, pos, aft, g⟩).run P w = .ok (.value (.float k z)) w := by
  have h : k.format.div a b = some z := h
  simp [execOp, hx, hy, eqGuard, binOp, Op.floatArith, h]
/-! where a NaN may come of it: its bits are drawn -/
theorem nan_cut (k : FloatKind) (t : Nat) : (k.format.read (Question.cut (.nanBits k a b) t)).isNaN = true := by
  have key : ∀ (f : Ieee.Format) (s u : Nat), f.binade ≤ f.infRung → f.infRung < u → u < f.signWeight → (f.read (s % 2 * f.signWeight + u)).isNaN = true := by
    intro f s u h3 h1 h2
    have h0 : 0 < f.signWeight := by omega
    have e : (s % 2 * f.signWeight + u) % f.signWeight = u := by
      rw [Nat.mul_comm, Nat.mul_add_mod, Nat.mod_eq_of_lt h2]
    have hb : ¬ u < f.binade := by omega
    unfold Ieee.Format.read
    rw [e]
    dsimp only
    rw [if_neg hb, if_neg (by omega), if_neg (by omega)]
    rfl
  cases k
  · have h := key Ieee.single t (0x7f800000 + 1 + (t / 2) % (2 ^ 23 - 1)) (by decide) (by show 2139095040 < _; omega) (by show _ < 2147483648; omega)
    have e : Question.cut (.nanBits .f32 a b) t = t % 2 * Ieee.single.signWeight + (0x7f800000 + 1 + (t / 2) % (2 ^ 23 - 1)) := by
      show t % 2 * 2 ^ 31 + 0x7f800000 + 1 + (t / 2) % (2 ^ 23 - 1) = t % 2 * 2147483648 + (0x7f800000 + 1 + (t / 2) % (2 ^ 23 - 1))
      omega
    rw [e]
    exact h
  · have h := key Ieee.double t (0x7ff0000000000000 + 1 + (t / 2) % (2 ^ 52 - 1)) (by decide) (by show 9218868437227405312 < _; omega) (by show _ < 9223372036854775808; omega)
    have e : Question.cut (.nanBits .f64 a b) t = t % 2 * Ieee.double.signWeight + (0x7ff0000000000000 + 1 + (t / 2) % (2 ^ 52 - 1)) := by
      show t % 2 * 2 ^ 63 + 0x7ff0000000000000 + 1 + (t / 2) % (2 ^ 52 - 1) = t % 2 * 9223372036854775808 + (0x7ff0000000000000 + 1 + (t / 2) % (2 ^ 52 - 1))
      omega
    rw [e]
    exact h
def arOp : Nat → BinOp
  | 0 => .add
  | 1 => .sub
  | 2 => .mul
  | _ => .quo
theorem ex_arx (n : Nat) (hx : ev r x = .float k a) (hy : ev r y = .float k b) : ∃ z w', (execOp (ev r) ⟨d, .binOp (arOp n) t x y u, ty, pos, aft, g⟩).run P w = .ok (.value (.float k z)) w' ∧ ((flOp n k a b = some z ∧ w' = w) ∨ (flOp n k a b = none ∧ (k.format.read z).isNaN = true ∧ w' = w.drew)) := by
  rcases n with _ | _ | _ | n
  · cases h : flOp 0 k a b with
    | some z => exact ⟨z, w, ex_addf hx hy h, .inl ⟨rfl, rfl⟩⟩
    | none =>
      have h : k.format.add a b = none := h
      exact ⟨_, _, by simp [execOp, hx, hy, eqGuard, arOp, binOp, Op.floatArith, h, Question.forced]; exact rfl, .inr ⟨rfl, nan_cut k _, rfl⟩⟩
  · cases h : flOp 1 k a b with
    | some z => exact ⟨z, w, ex_subf hx hy h, .inl ⟨rfl, rfl⟩⟩
    | none =>
      have h : k.format.sub a b = none := h
      exact ⟨_, _, by simp [execOp, hx, hy, eqGuard, arOp, binOp, Op.floatArith, h, Question.forced]; exact rfl, .inr ⟨rfl, nan_cut k _, rfl⟩⟩
  · cases h : flOp 2 k a b with
    | some z => exact ⟨z, w, ex_mulf hx hy h, .inl ⟨rfl, rfl⟩⟩
    | none =>
      have h : k.format.mul a b = none := h
      exact ⟨_, _, by simp [execOp, hx, hy, eqGuard, arOp, binOp, Op.floatArith, h, Question.forced]; exact rfl, .inr ⟨rfl, nan_cut k _, rfl⟩⟩
  · cases h : flOp (n + 3) k a b with
    | some z => exact ⟨z, w, ex_quof hx hy h, .inl ⟨rfl, rfl⟩⟩
    | none =>
      have h : k.format.div a b = none := h
      exact ⟨_, _, by simp [execOp, hx, hy, eqGuard, arOp, binOp, Op.floatArith, h, Question.forced]; exact rfl, .inr ⟨rfl, nan_cut k _, rfl⟩⟩
theorem nanC_nan (k : FloatKind) : (k.format.read nanC).isNaN = true := by cases k <;> rfl
theorem isNaN_nan {d : Ieee.Datum} (h : d.isNaN = true) : ∃ s t, d = .nan s t := by cases d <;> first | exact ⟨_, _, rfl⟩ | cases h
theorem order_nan_l {k : FloatKind} {m y : Nat} (h : (k.format.read m).isNaN = true) : k.format.order m y = none := by
  obtain ⟨s, t, e⟩ := isNaN_nan h
  unfold Ieee.Format.order
  rw [e]
  rfl
theorem order_nan_r {k : FloatKind} {m y : Nat} (h : (k.format.read m).isNaN = true) : k.format.order y m = none := by
  obtain ⟨s, t, e⟩ := isNaN_nan h
  unfold Ieee.Format.order
  rw [e]
  cases k.format.read y <;> rfl
theorem flOp_nan_l {n : Nat} {k : FloatKind} {m y : Nat} (h : (k.format.read m).isNaN = true) : flOp n k m y = none := by
  obtain ⟨s, t, e⟩ := isNaN_nan h
  rcases n with _ | _ | _ | n
  · show ((k.format.read m).sum _).map _ = none; rw [e]; rfl
  · show ((k.format.read m).sum _).map _ = none; rw [e]; rfl
  · show ((k.format.read m).product _).map _ = none; rw [e]; rfl
  · show ((k.format.read m).quotient _ _).map _ = none; rw [e]; rfl
theorem flOp_nan_r {n : Nat} {k : FloatKind} {m y : Nat} (h : (k.format.read m).isNaN = true) : flOp n k y m = none := by
  obtain ⟨s, t, e⟩ := isNaN_nan h
  rcases n with _ | _ | _ | n
  · show ((k.format.read y).sum (k.format.read m)).map _ = none; rw [e]; cases k.format.read y <;> rfl
  · show ((k.format.read y).sum (k.format.read m).opposite).map _ = none; rw [e]; cases k.format.read y <;> rfl
  · show ((k.format.read y).product (k.format.read m)).map _ = none; rw [e]; cases k.format.read y <;> rfl
  · show ((k.format.read y).quotient _ (k.format.read m)).map _ = none; rw [e]; cases k.format.read y <;> rfl
theorem ex_eqlf (hx : ev r x = .float k a) (hy : ev r y = .float k b) : (execOp (ev r) ⟨d, .binOp .eql t x y u, ty, pos, aft, g⟩).run P w = .ok (.value (.bool (flEq k a b))) w := by
  simp [execOp, hx, hy, eqGuard, binOp, Op.floatCmp, flEq]
theorem ex_neqf (hx : ev r x = .float k a) (hy : ev r y = .float k b) : (execOp (ev r) ⟨d, .binOp .neq t x y u, ty, pos, aft, g⟩).run P w = .ok (.value (.bool (!(flEq k a b)))) w := by
  simp [execOp, hx, hy, eqGuard, binOp, Op.floatCmp, flEq, bne]
theorem ex_lssf (hx : ev r x = .float k a) (hy : ev r y = .float k b) : (execOp (ev r) ⟨d, .binOp .lss t x y u, ty, pos, aft, g⟩).run P w = .ok (.value (.bool (flLt k a b))) w := by
  simp [execOp, hx, hy, eqGuard, binOp, Op.floatCmp, flLt]
theorem ex_leqf (hx : ev r x = .float k a) (hy : ev r y = .float k b) : (execOp (ev r) ⟨d, .binOp .leq t x y u, ty, pos, aft, g⟩).run P w = .ok (.value (.bool (flLt k a b || flEq k a b))) w := by
  simp [execOp, hx, hy, eqGuard, binOp, Op.floatCmp, flLt, flEq]
theorem ex_gtrf (hx : ev r x = .float k a) (hy : ev r y = .float k b) : (execOp (ev r) ⟨d, .binOp .gtr t x y u, ty, pos, aft, g⟩).run P w = .ok (.value (.bool (flGt k a b))) w := by
  simp [execOp, hx, hy, eqGuard, binOp, Op.floatCmp, flGt]
theorem ex_geqf (hx : ev r x = .float k a) (hy : ev r y = .float k b) : (execOp (ev r) ⟨d, .binOp .geq t x y u, ty, pos, aft, g⟩).run P w = .ok (.value (.bool (flGt k a b || flEq k a b))) w := by
  simp [execOp, hx, hy, eqGuard, binOp, Op.floatCmp, flGt, flEq]
theorem ex_negf (hx : ev r x = .float k a) : (execOp (ev r) ⟨d, .unOp .neg t x, ty, pos, aft, g⟩).run P w = .ok (.value (.float k (flNeg k a))) w := by
  simp [execOp, hx, Op.unary, flNeg]
theorem ex_maxf {at_ : Array TypeId} (hx : ev r x = .float k a) (hy : ev r y = .float k b) (h : flMax k a b = some z) : (execOp (ev r) ⟨d, .call { callee := .builtin .max, args := #[x, y], argTypes := at_ }, ty, pos, aft, g⟩).run P w = .ok (.value (.float k z)) w := by
  unfold flMax at h
  split at h <;> cases h <;> rename_i e <;> simp [execOp, hx, hy, resolve, invoke, builtin, Builtin.max_, Builtin.max2, e]
theorem ex_minf {at_ : Array TypeId} (hx : ev r x = .float k a) (hy : ev r y = .float k b) (h : flMin k a b = some z) : (execOp (ev r) ⟨d, .call { callee := .builtin .min, args := #[x, y], argTypes := at_ }, ty, pos, aft, g⟩).run P w = .ok (.value (.float k z)) w := by
  unfold flMin at h
  split at h <;> cases h <;> rename_i e <;> simp [execOp, hx, hy, resolve, invoke, builtin, Builtin.min_, Builtin.min2, e]
theorem ex_convIF {q : IntKind} {n : Int} (hs : (P.underlying s).isSome = true) (ht : P.underlying t = some (.float k)) (hx : ev r x = .int q n) : (execOp (ev r) ⟨d, .convert s t x, ty, pos, aft, g⟩).run P w = .ok (.value (.float k (flNear k n))) w := by
  obtain ⟨u, hs'⟩ := Option.isSome_iff_exists.1 hs
  cases u <;> simp [execOp, hx, convert, run_underlying hs', run_underlying ht, Conv.intToFloat, flNear]
theorem ex_convFI {q : IntKind} {n : Int} (hs : (P.underlying s).isSome = true) (ht : P.underlying t = some (.int q)) (hx : ev r x = .float k a) (h : flInt k a q = some n) : (execOp (ev r) ⟨d, .convert s t x, ty, pos, aft, g⟩).run P w = .ok (.value (.int q n)) w := by
  have := run_convert_float_int (P := P) (w := w) s t k q a n hs ht h
  simp [execOp, hx, this]
theorem ex_convFF (hs : (P.underlying s).isSome = true) (ht : P.underlying t = some (.float k)) (hx : ev r x = .float k a) : (execOp (ev r) ⟨d, .convert s t x, ty, pos, aft, g⟩).run P w = .ok (.value (.float k a)) w := by
  have := run_convert_float_float (P := P) (w := w) s t k k a a hs ht (by simp [floatToFloatBits])
  simp [execOp, hx, this]
theorem ex_bitsf {f : FuncId} {at_ : Array TypeId} (hE : ExternOf P f Extern.MathFloatBits.float64bits) (hx : ev r x = .func (.func f) #[] #[]) (hy : ev r y = .float .f64 a) :
    (execOp (ev r) ⟨d, .call { callee := .value x, args := #[y], argTypes := at_ }, ty, pos, aft, g⟩).run P w = .ok (.value (.int .u64 a)) w := by
  obtain ⟨fn, h1, h2, h3, h4, h5⟩ := hE.fn
  have h := run_callFunc_extern (P := P) h1 h2 h3 h4 h5 #[.float .f64 a] w
  have h6 : (Extern.MathFloatBits.float64bits #[.float .f64 a]).run P w = .ok (.int .u64 a) w := rfl
  rw [h6] at h
  simp [execOp, resolve, Deferred.ofValue, hx, hy, invoke, h]
theorem ex_ofBits {f : FuncId} {n : Int} {at_ : Array TypeId} (hE : ExternOf P f Extern.MathFloatBits.float64frombits) (hx : ev r x = .func (.func f) #[] #[]) (hy : ev r y = .int .u64 n) :
    (execOp (ev r) ⟨d, .call { callee := .value x, args := #[y], argTypes := at_ }, ty, pos, aft, g⟩).run P w = .ok (.value (.float .f64 n.toNat)) w := by
  obtain ⟨fn, h1, h2, h3, h4, h5⟩ := hE.fn
  have h := run_callFunc_extern (P := P) h1 h2 h3 h4 h5 #[.int .u64 n] w
  have h6 : (Extern.MathFloatBits.float64frombits #[.int .u64 n]).run P w = .ok (.float .f64 n.toNat) w := rfl
  rw [h6] at h
  simp [execOp, resolve, Deferred.ofValue, hx, hy, invoke, h]
end
end Go.Dor
end
