/- A REGION THAT DRAWS ITS ORDER: quiet operations first, in whatever order; then a tail in one order. Plain lemmas over any program. -/
import Derived.StillTail
import Derived.Test.YtlejphdgfoejaaaDoorA
namespace Go.Dor

def deps (o : Oper) : List Nat := (o.after.toList.filter (Region.binds .any)).map (·.on)
def maskOf (acc : List Nat) (l : List Nat) : Nat := l.foldl (fun s j => s ||| 2 ^ j ||| acc.getD j 0) 0
def masksFrom : List Nat → List Oper → List Nat
  | acc, [] => acc
  | acc, o :: l => masksFrom (acc ++ [maskOf acc (deps o)]) l

theorem mem_deps {o : Oper} {j : Nat} : j ∈ deps o ↔ ∃ e ∈ o.after, Region.binds .any e = true ∧ e.on = j := by
  simp [deps]
  constructor
  · rintro ⟨e, ⟨h1, h2⟩, h3⟩; exact ⟨e, h1, h2, h3⟩
  · rintro ⟨e, h1, h2, h3⟩; exact ⟨e, ⟨h1, h2⟩, h3⟩

theorem maskOf_bit (acc : List Nat) (j : Nat) : ∀ (l : List Nat) (s : Nat), (l.foldl (fun s j => s ||| 2 ^ j ||| acc.getD j 0) s).testBit j = true →
    s.testBit j = true ∨ ∃ d ∈ l, d = j ∨ (acc.getD d 0).testBit j = true
  | [], s, h => .inl h
  | d :: l, s, h => by
    rcases maskOf_bit acc j l _ h with h | ⟨d', hd', h⟩
    · rw [Nat.testBit_or, Nat.testBit_or, Bool.or_eq_true, Bool.or_eq_true] at h
      rcases h with (h | h) | h
      · exact .inl h
      · exact .inr ⟨d, by simp, .inl (by rw [Nat.testBit_two_pow] at h; simpa using h)⟩
      · exact .inr ⟨d, by simp, .inr h⟩
    · exact .inr ⟨d', List.mem_cons_of_mem _ hd', h⟩

/-- what is listed holds what it hangs on -/
def Closed (ops : List Oper) (L : Nat → Prop) : Prop := ∀ i o, ops[i]? = some o → L i → ∀ j ∈ deps o, L j

theorem masksFrom_good {ops : List Oper} {L : Nat → Prop} (hL : Closed ops L) : ∀ (l : List Oper) (acc : List Nat), (∀ j, l[j]? = ops[acc.length + j]?) →
    (∀ i o, i < acc.length → ops[i]? = some o → (∀ d ∈ deps o, L d) → ∀ j, (acc.getD i 0).testBit j = true → L j) →
    ∀ i o, i < (masksFrom acc l).length → ops[i]? = some o → (∀ d ∈ deps o, L d) → ∀ j, ((masksFrom acc l).getD i 0).testBit j = true → L j
  | [], acc, _, hg => hg
  | o :: l, acc, hl, hg => by
    have h0 : ops[acc.length]? = some o := by simpa using (hl 0).symm
    refine masksFrom_good hL l (acc ++ [maskOf acc (deps o)]) (fun j => ?_) ?_
    · have := hl (j + 1)
      simp only [List.length_append, List.length_cons, List.length_nil, List.getElem?_cons_succ] at this ⊢
      rw [this]; congr 1; omega
    · intro i o' hi ho' hd j hj
      by_cases hlt : i < acc.length
      · rw [List.getD_eq_getElem?_getD, List.getElem?_append_left hlt, ← List.getD_eq_getElem?_getD] at hj
        exact hg i o' hlt ho' hd j hj
      · have hie : i = acc.length := by simp at hi; omega
        subst hie
        have : o' = o := Option.some.inj (ho'.symm.trans h0)
        subst this
        rw [List.getD_eq_getElem?_getD, List.getElem?_append_right (Nat.le_refl _)] at hj
        simp only [Nat.sub_self, List.getElem?_cons_zero, Option.getD_some] at hj
        rcases maskOf_bit acc j _ _ hj with h | ⟨d, hdm, h | h⟩
        · simp at h
        · subst h; exact hd _ hdm
        · have hLd := hd d hdm
          by_cases hdl : d < acc.length
          · cases hod : ops[d]? with
            | none =>
              exfalso
              have h1 : ops.length ≤ d := by simpa using hod
              have h2 : acc.length < ops.length := by rw [List.getElem?_eq_some_iff] at h0; exact h0.1
              omega
            | some od => exact hg d od hdl hod (hL d od hod hLd) j h
          · have : acc.getD d 0 = 0 := by rw [List.getD_eq_getElem?_getD, List.getElem?_eq_none (by omega)]; rfl
            rw [this] at h
            simp at h

def masks (ops : List Oper) : List Nat := masksFrom [] ops
theorem masks_good {ops : List Oper} {L : Nat → Prop} (hL : Closed ops L) {i : Nat} {o : Oper} (ho : ops[i]? = some o) (hd : ∀ d ∈ deps o, L d) {j : Nat} (h : ((masks ops).getD i 0).testBit j = true) : L j := by
  refine masksFrom_good hL ops [] (by simp) (by simp) i o ?_ ho hd j h
  by_cases hlt : i < (masksFrom [] ops).length
  · exact hlt
  · rw [masks, List.getD_eq_getElem?_getD, List.getElem?_eq_none (by omega)] at h
    simp at h

def looks (ops : List Oper) (o : Oper) : List Nat := o.looksAt ops.toArray
/-- what o does not look at -/
def lookOut (ops : List Oper) (o : Oper) (d : Nat) : Bool :=
  match ops[d]? with
  | some od => (match od.dst with | some t => !(looks ops o).contains t | none => true)
  | none => true
/-- heads: what each looks at is told by earlier heads alone -/
def headsOk (ops : List Oper) : List Nat → List Nat → Bool
  | _, [] => true
  | seen, i :: l => (match ops[i]? with | some o => (deps o).all (fun d => seen.contains d || lookOut ops o d) | none => false) && headsOk ops (i :: seen) l

def chainOk (m : List Nat) : List Nat → Bool
  | i :: j :: l => (m.getD j 0).testBit i && chainOk m (j :: l)
  | _ => true

/-- what one operation writes another one looks at alone where it hangs on it, and no other one writes -/
def dataOk (ops : List Oper) (m : List Nat) (H : List Nat) : Bool :=
  (List.range ops.length).all fun i => (List.range ops.length).all fun j =>
    match ops[i]?, ops[j]? with
    | some oi, some oj => (match oj.dst with | some d => (!(looks ops oi).contains d || (i != j && (deps oi).contains j) || (!H.contains j && (m.getD j 0).testBit i)) && (i == j || oi.dst != some d) | none => true)
    | _, _ => true

def flagsOk (m : List Nat) (H : List (Nat × Nat)) (T : List (Nat × Bool)) : Bool :=
  T.all fun t => H.all fun h => (match h.2 with | 0 => false | 1 => t.2 | _ => true) || (m.getD t.1 0).testBit h.1

def lowerOk (ops : List Oper) : Bool := (List.range ops.length).all fun i => match ops[i]? with | some o => (deps o).all fun d => decide (d < i) | none => true

def okRegion (ops : List Oper) (H : List (Nat × Nat)) (T : List (Nat × Bool)) : Bool :=
  let m := masks ops
  let all := H.map (·.1) ++ T.map (·.1)
  decide all.Nodup && (List.range ops.length).all all.contains && all.all (fun i => decide (i < ops.length)) && headsOk ops [] (H.map (·.1)) && chainOk m (T.map (·.1)) && dataOk ops m (H.map (·.1)) && flagsOk m H T && lowerOk ops &&
    ops.all fun o => match o.op with | .select .. => false | _ => true

section
variable {P : Program} {n : Nat} {ops : List Oper} {C C0 : World → Prop} {K : Env → World → Prop}

inductive Same (P : Program) (o : Oper) (r : Env) (w : World) (v : Value) : Prop
  | value (h : (execOp (ev r) o).run P w = .ok (.value v) w)
  | skip (h : (execOp (ev r) o).run P w = .ok .skip w) (k : v = undef)

inductive Quiet (P : Program) (C : World → Prop) (o : Oper) (r : Env) (w : World) (v : Value) : Prop
  | same (h : Same P o r w v)
  | enter {f : FuncId} {args : Array Value} (h : (execOp (ev r) o).run P w = .ok (.enter f args) w) (k : Calls P f args w fun e w' => e = .returned v ∧ C w')

def HOk (P : Program) (C0 C : World → Prop) (o : Oper) (v : Value) (r : Env) : Nat → Prop
  | 0 => ∀ w, C0 w → Quiet P C0 o r w v
  | 1 => ∀ w, C w → Same P o r w v
  | _ + 2 => ∀ w, Same P o r w v

def WhD (P : Program) (n : Nat) (ops : Array Oper) (C0 C : World → Prop) (K : Env → Prop) : List (Oper × Nat) → Env → Prop
  | [], r => K r
  | (o, fl) :: rest, r => (∀ d, o.dst = some d → d < n) ∧
    if wantedE ops o r then ∃ v, HOk P C0 C o v r fl ∧ WhD P n ops C0 C K rest (putO r o.dst v) else WhD P n ops C0 C K rest (putO r o.dst undef)

structure Wh (P : Program) (n : Nat) (ops : Array Oper) (C0 C : World → Prop) (K : Env → Prop) (l : List (Oper × Nat)) (r : Env) : Prop where
  out : WhD P n ops C0 C K l r

def WtD (P : Program) (n : Nat) (ops : Array Oper) (C : World → Prop) (K : Env → World → Prop) : List (Oper × Bool) → Env → World → Prop
  | [], r, w => K r w
  | (o, fl) :: rest, r, w => (∀ d, o.dst = some d → d < n) ∧
    if wantedE ops o r then Step P o r w (fun v w' => (fl = true → C w') ∧ WtD P n ops C K rest (putO r o.dst v) w') else WtD P n ops C K rest (putO r o.dst undef) w

structure Wt (P : Program) (n : Nat) (ops : Array Oper) (C : World → Prop) (K : Env → World → Prop) (l : List (Oper × Bool)) (r : Env) (w : World) : Prop where
  out : WtD P n ops C K l r w

def picks {α : Type} (ops : List Oper) : List (Nat × α) → List (Oper × α)
  | [] => []
  | (i, x) :: l => match ops[i]? with | some o => (o, x) :: picks ops l | none => picks ops l

/-! ### frames that agree where an operation looks -/
def Agree (ts : List Nat) (r r' : Env) : Prop := ∀ t ∈ ts, r t = r' t

theorem exec_agree {o : Oper} {r r' : Env} (hs : ∀ cs b, o.op ≠ .select cs b) (h : Agree (o.looksAt ops.toArray) r r') : execOp (ev r) o = execOp (ev r') o :=
  execOp_congr o hs fun x hx => by
    cases x with
    | tmp t => exact h t (List.mem_append_left _ (List.mem_filterMap.2 ⟨.tmp t, by simpa using hx, rfl⟩))
    | _ => rfl

theorem wanted_agree {o : Oper} {r r' : Env} (h : Agree (o.looksAt ops.toArray) r r') : wantedE ops.toArray o r = wantedE ops.toArray o r' := by
  unfold wantedE
  cases hg : o.guard with
  | none => rfl
  | some gw =>
    obtain ⟨g, want⟩ := gw
    dsimp only
    cases hd : (ops.toArray[g]?).bind (·.dst) with
    | none => rfl
    | some t =>
      dsimp only
      rw [h t (List.mem_append_right _ (by rw [hg]; dsimp only; rw [hd]; simp))]

theorem Same.agree {o : Oper} {r r' : Env} {w : World} {v : Value} (hs : ∀ cs b, o.op ≠ .select cs b) (h : Agree (o.looksAt ops.toArray) r r') (q : Same P o r' w v) : Same P o r w v := by
  cases q with
  | value q => exact .value (by rw [exec_agree hs h]; exact q)
  | skip q k => exact .skip (by rw [exec_agree hs h]; exact q) k
theorem Quiet.agree {o : Oper} {r r' : Env} {w : World} {v : Value} (hs : ∀ cs b, o.op ≠ .select cs b) (h : Agree (o.looksAt ops.toArray) r r') (q : Quiet P C o r' w v) : Quiet P C o r w v := by
  cases q with
  | same q => exact .same (q.agree hs h)
  | enter q k => exact .enter (by rw [exec_agree hs h]; exact q) k
theorem HOk.agree {o : Oper} {r r' : Env} {v : Value} {fl : Nat} (hs : ∀ cs b, o.op ≠ .select cs b) (h : Agree (o.looksAt ops.toArray) r r') (q : HOk P C0 C o v r' fl) : HOk P C0 C o v r fl := by
  match fl, q with
  | 0, q => exact fun w hw => (q w hw).agree hs h
  | 1, q => exact fun w hw => (q w hw).agree hs h
  | _ + 2, q => exact fun w => (q w).agree hs h
theorem Step.agree {o : Oper} {r r' : Env} {w : World} {R : Value → World → Prop} (hs : ∀ cs b, o.op ≠ .select cs b) (h : Agree (o.looksAt ops.toArray) r r') (q : Step P o r' w R) : Step P o r w R := by
  cases q with
  | value q k => exact .value (by rw [exec_agree hs h]; exact q) k
  | skip q k => exact .skip (by rw [exec_agree hs h]; exact q) k
  | enter q k => exact .enter (by rw [exec_agree hs h]; exact q) k


/-! ### the checks, spelled out -/
structure Sound (ops : List Oper) (H : List (Nat × Nat)) (T : List (Nat × Bool)) : Prop where
  nodup : (H.map (·.1) ++ T.map (·.1)).Nodup
  all : ∀ i, i < ops.length → i ∈ H.map (·.1) ∨ i ∈ T.map (·.1)
  inside : ∀ i, i ∈ H.map (·.1) ∨ i ∈ T.map (·.1) → i < ops.length
  heads : headsOk ops [] (H.map (·.1)) = true
  chain : chainOk (masks ops) (T.map (·.1)) = true
  data : ∀ i j oi oj d, ops[i]? = some oi → ops[j]? = some oj → oj.dst = some d → (d ∈ looks ops oi → (i ≠ j ∧ j ∈ deps oi) ∨ (j ∉ H.map (·.1) ∧ ((masks ops).getD j 0).testBit i = true)) ∧ (i ≠ j → oi.dst ≠ some d)
  flags : flagsOk (masks ops) H T = true
  lower : ∀ i o, ops[i]? = some o → ∀ d ∈ deps o, d < i
  noSel : ∀ (o : Oper), o ∈ ops → ∀ cs b, o.op ≠ .select cs b

theorem Sound.of {H : List (Nat × Nat)} {T : List (Nat × Bool)} (h : okRegion ops H T = true) : Sound ops H T := by
  simp only [okRegion, Bool.and_eq_true, decide_eq_true_eq] at h
  obtain ⟨⟨⟨⟨⟨⟨⟨⟨h1, h2⟩, h3⟩, h4⟩, h5⟩, h6⟩, h7⟩, h9⟩, h8⟩ := h
  refine ⟨h1, fun i hi => ?_, fun i hi => ?_, h4, h5, fun i j oi oj d hi hj hd => ?_, h7, fun i o hi d hd => ?_, fun o ho cs b e => ?_⟩
  · have := List.all_eq_true.1 h2 i (List.mem_range.2 hi)
    rw [List.contains_iff_mem, List.mem_append] at this
    exact this
  · have := List.all_eq_true.1 h3 i (List.mem_append.2 hi)
    simpa using this
  · have hli := (List.getElem?_eq_some_iff.1 hi).1
    have hlj := (List.getElem?_eq_some_iff.1 hj).1
    have := List.all_eq_true.1 (List.all_eq_true.1 h6 i (List.mem_range.2 hli)) j (List.mem_range.2 hlj)
    simp only [hi, hj, hd, Bool.or_eq_true, beq_iff_eq, Bool.and_eq_true, Bool.not_eq_true', bne_iff_ne, ne_eq] at this
    obtain ⟨h, h'⟩ := this
    refine ⟨fun hm => ?_, fun hne => h'.resolve_left hne⟩
    rcases h with (h | h) | h
    · have : (looks ops oi).contains d = true := List.contains_iff_mem.2 hm
      rw [h] at this
      cases this
    · exact .inl ⟨h.1, List.contains_iff_mem.1 h.2⟩
    · exact .inr ⟨fun hm' => (by have := List.contains_iff_mem.2 hm'; rw [h.1] at this; cases this), h.2⟩
  · have hli := (List.getElem?_eq_some_iff.1 hi).1
    have := List.all_eq_true.1 h9 i (List.mem_range.2 hli)
    rw [hi] at this
    simpa using List.all_eq_true.1 this d hd
  · have := List.all_eq_true.1 h8 o ho
    rw [e] at this
    cases this

/-- what the heads yield, and the frame behind them -/
structure Heads (P : Program) (ops : List Oper) (C0 C : World → Prop) (l : List Nat) (fl : Nat → Nat) (V : Nat → Value) (r rH : Env) : Prop where
  at_ : ∀ i ∈ l, ∀ o, ops[i]? = some o → ∀ d, o.dst = some d → rH d = V i
  else_ : ∀ t, (∀ i ∈ l, ∀ o, ops[i]? = some o → o.dst ≠ some t) → rH t = r t
  ok : ∀ i ∈ l, ∀ o, ops[i]? = some o → (wantedE ops.toArray o rH = true ∧ HOk P C0 C o (V i) rH (fl i)) ∨ (wantedE ops.toArray o rH = false ∧ V i = undef)

theorem headsOk_mem {i : Nat} {o : Oper} (ho : ops[i]? = some o) : ∀ (l seen : List Nat), headsOk ops seen l = true → i ∈ l → ∀ d ∈ deps o, lookOut ops o d = false → d ∈ seen ∨ d ∈ l
  | j :: l, seen, h, hi, d, hd, hlo => by
    simp only [headsOk, Bool.and_eq_true] at h
    obtain ⟨h1, h2⟩ := h
    rcases List.mem_cons.1 hi with rfl | hi
    · rw [ho] at h1
      have h3 := List.all_eq_true.1 h1 d hd
      rw [hlo, Bool.or_false] at h3
      exact .inl (List.contains_iff_mem.1 h3)
    · rcases headsOk_mem ho l (j :: seen) h2 hi d hd hlo with h | h
      · rcases List.mem_cons.1 h with rfl | h
        · exact .inr (List.mem_cons_self)
        · exact .inl h
      · exact .inr (List.mem_cons_of_mem _ h)

theorem heads_of {Hs : List Nat} (S : ∀ (i j : Nat) oi oj d, j ∈ Hs → ops[i]? = some oi → ops[j]? = some oj → oj.dst = some d → (d ∈ looks ops oi → i ≠ j ∧ j ∈ deps oi) ∧ (i ≠ j → oi.dst ≠ some d))
    (hs : ∀ (o : Oper), o ∈ ops → ∀ cs b, o.op ≠ .select cs b) {K : Env → Prop} : ∀ (l : List (Nat × Nat)) (seen : List Nat) (r : Env), (∀ i ∈ l.map (·.1), i ∈ Hs) → headsOk ops seen (l.map (·.1)) = true → (l.map (·.1)).Nodup → (∀ i ∈ l.map (·.1), i ∉ seen) →
      (∀ i ∈ l.map (·.1), i < ops.length) → WhD P n ops.toArray C0 C K (picks ops l) r →
      ∃ V rH, K rH ∧ (∀ i ∈ l.map (·.1), ∀ o, ops[i]? = some o → ∀ d, o.dst = some d → d < n) ∧ Heads P ops C0 C (l.map (·.1)) (fun i => ((l.find? (·.1 == i)).map (·.2)).getD 0) V r rH
  | [], _, r, _, _, _, _, _, h => ⟨fun _ => undef, r, h, by simp, ⟨by simp, by simp, by simp⟩⟩
  | (i, fl) :: l, seen, r, hHs, h1, h2, h3, h4, h => by
    have hi : i < ops.length := h4 i (by simp)
    have ho : ops[i]? = some ops[i] := List.getElem?_eq_getElem hi
    generalize ops[i] = o at ho
    simp only [List.map_cons, headsOk, Bool.and_eq_true] at h1
    rw [List.map_cons, List.nodup_cons] at h2
    simp only [picks, ho, WhD] at h
    obtain ⟨hd, h⟩ := h
    -- the first one's value, in the frame that it meets
    obtain ⟨v, hv, hK⟩ : ∃ v, ((wantedE ops.toArray o r = true ∧ HOk P C0 C o v r fl) ∨ (wantedE ops.toArray o r = false ∧ v = undef)) ∧ WhD P n ops.toArray C0 C K (picks ops l) (putO r o.dst v) := by
      by_cases hw : wantedE ops.toArray o r = true
      · rw [if_pos hw] at h
        obtain ⟨v, h5, h6⟩ := h
        exact ⟨v, .inl ⟨hw, h5⟩, h6⟩
      · rw [if_neg hw] at h
        exact ⟨undef, .inr ⟨by simpa using hw, rfl⟩, h⟩
    obtain ⟨V, rH, hk, hn, hH⟩ := heads_of S hs l (i :: seen) (putO r o.dst v) (fun j hj => hHs j (List.mem_cons_of_mem _ hj)) h1.2 h2.2 (fun j hj hm => by
      rcases List.mem_cons.1 hm with rfl | hm
      · exact h2.1 hj
      · exact h3 j (List.mem_cons_of_mem _ hj) hm) (fun j hj => h4 j (List.mem_cons_of_mem _ hj)) hK
    -- slots that o looks at are as they were when it came up
    have keep : ∀ t, (∀ j ∈ l.map (·.1), ∀ oj, ops[j]? = some oj → oj.dst ≠ some t) → o.dst ≠ some t → rH t = r t := fun t ht hot => by
      rw [hH.else_ t ht]
      cases hd' : o.dst with
      | none => rfl
      | some d => rw [hd'] at hot; exact put_other _ _ (fun e => hot (by rw [e]))
    have later : ∀ t ∈ looks ops o, ∀ j ∈ l.map (·.1), ∀ oj, ops[j]? = some oj → oj.dst ≠ some t := fun t ht j hj oj hoj e => by
      have hdep := ((S i j o oj t (hHs j (List.mem_cons_of_mem _ hj)) ho hoj e).1 ht).2
      have h5 := h1.1
      rw [ho] at h5
      have hlo : lookOut ops o j = false := by simp [lookOut, hoj, e, ht]
      have h6 := List.all_eq_true.1 h5 j hdep
      rw [hlo, Bool.or_false] at h6
      have := List.contains_iff_mem.1 h6
      exact h3 j (List.mem_cons_of_mem _ hj) this
    have agree : Agree (o.looksAt ops.toArray) r rH := fun t ht => (keep t (later t ht) (fun e => ((S i i o o t (hHs i (by simp)) ho ho e).1 ht).1 rfl)).symm
    refine ⟨fun j => if j = i then v else V j, rH, hk, fun j hj oj hoj d hdj => ?_, ⟨fun j hj oj hoj d hdj => ?_, fun t ht => ?_, fun j hj oj hoj => ?_⟩⟩
    · rcases List.mem_cons.1 hj with rfl | hj
      · have : oj = o := Option.some.inj (hoj.symm.trans ho)
        subst this; exact hd d hdj
      · exact hn j hj oj hoj d hdj
    · rcases List.mem_cons.1 hj with rfl | hj
      · have : oj = o := Option.some.inj (hoj.symm.trans ho)
        subst this
        rw [if_pos rfl, hH.else_ d (fun k hk ok hok e => ((S k j ok oj d (hHs j (by simp)) hok ho hdj).2 (fun e => h2.1 (by rw [← e]; exact hk)) e)), hdj]
        exact put_same _ _ _
      · rw [if_neg (fun e => h2.1 (by rw [← e]; exact hj))]
        exact hH.at_ j hj oj hoj d hdj
    · exact keep t (fun j hj => ht j (List.mem_cons_of_mem _ hj)) (ht i (by simp) o ho)
    · rcases List.mem_cons.1 hj with rfl | hj
      · have : oj = o := Option.some.inj (hoj.symm.trans ho)
        subst this
        rw [if_pos rfl, ← wanted_agree agree]
        have hfl : ((((j, fl) :: l).find? (·.1 == j)).map (·.2)).getD 0 = fl := by simp
        rw [hfl]
        rcases hv with ⟨h5, h6⟩ | h5
        · exact .inl ⟨h5, h6.agree (hs oj (List.mem_of_getElem? ho)) fun t ht => (agree t ht).symm⟩
        · exact .inr h5
      · have hne : j ≠ i := fun e => h2.1 (by rw [← e]; exact hj)
        rw [if_neg hne]
        have hfl : ((((i, fl) :: l).find? (·.1 == j)).map (·.2)).getD 0 = ((l.find? (·.1 == j)).map (·.2)).getD 0 := by
          rw [List.find?_cons_of_neg (by simpa using Ne.symm hne)]
        rw [hfl]
        exact hH.ok j hj oj hoj


theorem chainOk_tail {m : List Nat} : ∀ (l : List Nat) (i : Nat), chainOk m l = true → i ∈ l.tail → ∃ k ∈ l, (m.getD i 0).testBit k = true
  | [], i, _, h => by simp at h
  | [_], i, _, h => by simp at h
  | a :: b :: l, i, h, hi => by
    simp only [chainOk, Bool.and_eq_true] at h
    rcases List.mem_cons.1 hi with rfl | hi
    · exact ⟨a, by simp, h.1⟩
    · obtain ⟨k, hk, hb⟩ := chainOk_tail (b :: l) i h.2 hi
      exact ⟨k, List.mem_cons_of_mem _ hk, hb⟩
theorem chainOk_drop {m : List Nat} : ∀ (p l : List Nat), chainOk m (p ++ l) = true → chainOk m l = true
  | [], _, h => h
  | [a], [], _ => rfl
  | [a], b :: l, h => by simp only [List.cons_append, List.nil_append, chainOk, Bool.and_eq_true] at h; exact h.2
  | a :: b :: p, l, h => by
    simp only [List.cons_append, chainOk, Bool.and_eq_true] at h
    exact chainOk_drop (b :: p) l h.2

/-- one that has not come up waits -/
theorem some_ready {listed : Array Bool} (lower : ∀ i o, ops[i]? = some o → ∀ d ∈ deps o, d < i) {i : Nat} (hi : i < ops.length) (h : listed.getD i false = false) (hs : listed.size = ops.length) : Region.ready .any ops.toArray listed ≠ [] := by
  obtain ⟨m, ⟨hm1, hm2⟩, hmin⟩ := least (p := fun i => i < ops.length ∧ listed.getD i false = false) i ⟨hi, h⟩
  intro e
  have : m ∈ Region.ready .any ops.toArray listed := by
    rw [mem_ready]
    refine ⟨?_, ops[m], by simp [hm1], fun e he hb => ?_⟩
    · have hlt : m < listed.size := by rw [hs]; exact hm1
      simp [Array.getD, hlt] at hm2 ⊢
      exact hm2
    · have hd : e.on < m := lower m ops[m] (List.getElem?_eq_getElem hm1) e.on (mem_deps.2 ⟨e, he, hb, rfl⟩)
      cases hl : listed.getD e.on false with
      | true => rfl
      | false => exact absurd (hmin e.on ⟨by omega, hl⟩) (by omega)
  rw [e] at this
  cases this

def flOf (H : List (Nat × Nat)) (i : Nat) : Nat := ((H.find? (·.1 == i)).map (·.2)).getD 0
theorem flOf_mem {H : List (Nat × Nat)} {i : Nat} (h : i ∈ H.map (·.1)) : (i, flOf H i) ∈ H := by
  obtain ⟨⟨j, f⟩, hj, rfl⟩ := List.mem_map.1 h
  unfold flOf
  cases hf : H.find? (fun x => x.1 == j) with
  | none => exact absurd (List.find?_eq_none.1 hf (j, f) hj) (by simp)
  | some x =>
    have h1 := List.find?_some hf
    have h2 := List.mem_of_find?_eq_some hf
    obtain ⟨x1, x2⟩ := x
    simp only [beq_iff_eq] at h1
    subst h1
    simpa using h2

theorem anyAux {H : List (Nat × Nat)} {T : List (Nat × Bool)} (S : Sound ops H T) {V : Nat → Value} {r rH : Env} (hH : Heads P ops C0 C (H.map (·.1)) (flOf H) V r rH)
    (hn : ∀ i ∈ H.map (·.1), ∀ o, ops[i]? = some o → ∀ d, o.dst = some d → d < n)
    (hCC : ∀ w, C0 w → C w) (hT : ∀ w, C0 w → WtD P n ops.toArray C K (picks ops T) rH w) {Q : Exit → Act → World → Prop} (hQ : ∀ a r w, Fits n r a → K r w → Q .normal a w) :
    ∀ (fuel : Nat) (hU : List Nat) (pre tU : List (Nat × Bool)) (listed : Array Bool) (ra rs : Env) (a : Act) (w : World),
      listed.size = ops.length → (∀ i ∈ hU, i ∈ H.map (·.1)) → hU.Nodup → T = pre ++ tU →
      (∀ i, i < ops.length → (listed.getD i false = false ↔ i ∈ hU ∨ i ∈ tU.map (·.1))) →
      Closed ops (fun i => listed.getD i false = true) →
      fuel = hU.length + tU.length → Fits n ra a →
      (∀ t, (∀ h ∈ hU, ∀ o, ops[h]? = some o → o.dst ≠ some t) → ra t = rs t) →
      (∀ t, (∀ i ∈ pre.map (·.1), ∀ o, ops[i]? = some o → o.dst ≠ some t) → rs t = rH t) →
      ((C0 w ∧ rs = rH ∧ pre = []) ∨ (WtD P n ops.toArray C K (picks ops tU) rs w ∧ (∀ h ∈ hU, flOf H h ≠ 0) ∧ (∀ h ∈ hU, flOf H h = 1 → C w))) →
      wpAny P .any ops.toArray Q fuel listed a w := by
  intro fuel
  induction fuel with
  | zero =>
    intro hU pre tU listed ra rs a w hs hsub hnd hTe hun hcl hf ha hra hrs hst
    have h1 : hU = [] := List.eq_nil_of_length_eq_zero (by omega)
    have h2 : tU = [] := List.eq_nil_of_length_eq_zero (by omega)
    subst h1 h2
    refine ⟨?_, ?_⟩
    · rw [List.eq_nil_iff_forall_not_mem]
      intro i hi
      rw [mem_ready] at hi
      obtain ⟨h3, o, ho, _⟩ := hi
      have hlt : i < ops.length := by simpa using (Array.getElem?_eq_some_iff.1 ho).1
      have := (hun i hlt).1 (getD_both h3)
      simp at this
    · have hee : ra = rs := funext fun t => hra t (by simp)
      subst hee
      rcases hst with ⟨hc, rfl, rfl⟩ | ⟨hw, _⟩
      · have := hT w hc
        rw [hTe] at this
        exact hQ a _ w ha this
      · exact hQ a _ w ha hw
  | succ fuel ih =>
    intro hU pre tU listed ra rs a w hs hsub hnd hTe hun hcl hf ha hra hrs hst
    refine ⟨fun he => ?_, fun i hi => ?_⟩
    · exfalso
      have : ∃ i, i < ops.length ∧ listed.getD i false = false := by
        cases hU with
        | cons h _ =>
          have hlt := S.inside h (.inl (hsub h (by simp)))
          exact ⟨h, hlt, (hun h hlt).2 (.inl (by simp))⟩
        | nil =>
          cases tU with
          | nil => simp at hf
          | cons t _ =>
            have hlt := S.inside t.1 (.inr (by rw [hTe]; simp))
            exact ⟨t.1, hlt, (hun t.1 hlt).2 (.inr (by simp))⟩
      obtain ⟨i, h1, h2⟩ := this
      exact some_ready S.lower h1 h2 hs he
    · rw [mem_ready] at hi
      obtain ⟨hi1, o, ho', hall⟩ := hi
      have ho : ops[i]? = some o := by simpa using ho'
      have hlt : i < ops.length := (List.getElem?_eq_some_iff.1 ho).1
      have hdeps : ∀ d ∈ deps o, listed.getD d false = true := fun d hd => by
        obtain ⟨e, he, hb, rfl⟩ := mem_deps.1 hd
        exact hall e he hb
      have hmem := (hun i hlt).1 (getD_both hi1)
      have hset : ∀ j, (listed.setIfInBounds i true).getD j false = if j = i then true else listed.getD j false := fun j => by
        by_cases hj : j = i
        · subst hj; rw [if_pos rfl]; simp [Array.getD, hs, hlt]
        · rw [if_neg hj, getD_set_ne false (Ne.symm hj)]
      have hcl' : Closed ops (fun j => (listed.setIfInBounds i true).getD j false = true) := fun j oj hoj hl d hd => by
        dsimp only at hl ⊢
        rw [hset] at hl ⊢
        by_cases hdi : d = i
        · rw [if_pos hdi]
        · rw [if_neg hdi]
          by_cases hj : j = i
          · subst hj
            have : oj = o := Option.some.inj (hoj.symm.trans ho)
            subst this
            exact hdeps d hd
          · rw [if_neg hj] at hl
            exact hcl j oj hoj hl d hd
      have notHU : ∀ t ∈ looks ops o, ∀ h ∈ hU, ∀ oh, ops[h]? = some oh → oh.dst ≠ some t := fun t ht h hh oh hoh e => by
        have h1 := (((S.data i h o oh t ho hoh e).1 ht).resolve_right fun hx => hx.1 (hsub h hh)).2
        have h2 := (hun h (S.inside h (.inl (hsub h hh)))).2 (.inl hh)
        rw [hdeps h h1] at h2
        cases h2
      have hsel : ∀ cs b, o.op ≠ .select cs b := S.noSel o (List.mem_of_getElem? ho)
      unfold wpOp
      rw [show ops.toArray[i]? = some o from ho']
      dsimp only
      rw [wantedE_eq ha]
      rcases hmem with hm | hm
      · -- a head
        have hnotT : i ∉ T.map (·.1) := fun h => (List.nodup_append.1 S.nodup).2.2 i (hsub i hm) i h rfl
        have agree : Agree (o.looksAt ops.toArray) ra rH := fun t ht => by
          rw [hra t (notHU t ht), hrs t]
          intro k hk ok hok e
          have hkT : k ∈ T.map (·.1) := by rw [hTe, List.map_append]; exact List.mem_append_left _ hk
          rcases (S.data i k o ok t ho hok e).1 ht with ⟨_, h1⟩ | ⟨_, h1⟩
          · rcases headsOk_mem ho _ [] S.heads (hsub i hm) k h1 (by simp [lookOut, hok, e, show t ∈ looks ops o from ht]) with h | h
            · cases h
            · exact (List.nodup_append.1 S.nodup).2.2 k h k hkT rfl
          · have hkl : k < ops.length := (List.getElem?_eq_some_iff.1 hok).1
            have hlk : listed.getD k false = true := by
              cases hb : listed.getD k false with
              | true => rfl
              | false =>
                rcases (hun k hkl).1 hb with h | h
                · exact absurd rfl ((List.nodup_append.1 S.nodup).2.2 k (hsub k h) k hkT)
                · have := (List.nodup_append.1 S.nodup).2.1
                  rw [hTe, List.map_append] at this
                  exact absurd rfl ((List.nodup_append.1 this).2.2 k hk k h)
            have := masks_good hcl hok (fun d hd => hcl k ok hok hlk d hd) h1
            rw [(hun i hlt).2 (.inl hm)] at this
            cases this
        have hdst : ∀ d, o.dst = some d → rs d = V i := fun d hd => by
          rw [hrs d (fun k hk ok hok e => (S.data k i ok o d hok ho hd).2 (fun h => hnotT (by rw [hTe, List.map_append]; exact List.mem_append_left _ (h ▸ hk))) e)]
          exact hH.at_ i (hsub i hm) o ho d hd
        have next : ∀ w', ((C0 w' ∧ rs = rH ∧ pre = []) ∨ (WtD P n ops.toArray C K (picks ops tU) rs w' ∧ (∀ h ∈ hU, flOf H h ≠ 0) ∧ (∀ h ∈ hU, flOf H h = 1 → C w'))) →
            wpAny P .any ops.toArray Q fuel (listed.setIfInBounds i true) (a.put o.dst (V i)) w' := fun w' hst' => by
          refine ih (hU.erase i) pre tU _ (putO ra o.dst (V i)) rs _ w' (by simp [hs]) (fun j hj => hsub j (List.mem_of_mem_erase hj)) (hnd.erase i) hTe (fun j hj => ?_) hcl' ?_
            (ha.putO (fun d hd => hn i (hsub i hm) o ho d hd) _) (fun t ht => ?_) hrs ?_
          · rw [hset]
            by_cases hji : j = i
            · subst hji
              rw [if_pos rfl]
              constructor
              · intro h; cases h
              · rintro (h | h)
                · exact absurd h (hnd.not_mem_erase)
                · exact absurd (by rw [hTe, List.map_append]; exact List.mem_append_right _ h) hnotT
            · rw [if_neg hji, hun j hj, List.mem_erase_of_ne hji]
          · rw [List.length_erase_of_mem hm]; have := List.length_pos_of_mem hm; omega
          · by_cases hd : o.dst = some t
            · rw [hd]; simp only [putO, put_same]; exact (hdst t hd).symm
            · have e1 : putO ra o.dst (V i) t = ra t := by
                cases hd' : o.dst with
                | none => rfl
                | some d => exact put_other _ _ (fun e => hd (by rw [hd', e]))
              rw [e1]
              refine hra t fun h hh oh hoh => ?_
              by_cases hhi : h = i
              · subst hhi
                have : oh = o := Option.some.inj (hoh.symm.trans ho)
                subst this; exact hd
              · exact ht h ((List.mem_erase_of_ne hhi).2 hh) oh hoh
          · rcases hst' with h | ⟨h1, h2, h3⟩
            · exact .inl h
            · exact .inr ⟨h1, fun h hh => h2 h (List.mem_of_mem_erase hh), fun h hh => h3 h (List.mem_of_mem_erase hh)⟩
        rw [wanted_agree agree]
        rcases hH.ok i (hsub i hm) o ho with ⟨hw, hq⟩ | ⟨hw, hv⟩
        · rw [if_pos hw]
          refine .inl ?_
          have hq := HOk.agree hsel agree hq
          have sameCase : Same P o ra w (V i) → o.wp P a w (wpAny P .any ops.toArray Q fuel (listed.setIfInBounds i true)) Q := fun h => by
            unfold Oper.wp
            rw [ha.eval]
            cases h with
            | value h => rw [h]; exact next w hst
            | skip h k => rw [h]; show wpAny _ _ _ _ _ _ (a.put o.dst undef) w; rw [← k]; exact next w hst
          cases hfl : flOf H i with
          | zero =>
            rw [hfl] at hq
            rcases hst with ⟨hc, h1, h2⟩ | ⟨_, h2, _⟩
            · cases hq w hc with
              | same h => exact sameCase h
              | enter h k =>
                unfold Oper.wp
                rw [ha.eval, h]
                exact k.mono fun e w' ⟨he, hc'⟩ => by subst he; exact next w' (.inl ⟨hc', h1, h2⟩)
            · exact absurd hfl (h2 i hm)
          | succ f =>
            cases f with
            | zero =>
              rw [hfl] at hq
              refine sameCase (hq w ?_)
              rcases hst with ⟨hc, _⟩ | ⟨_, _, h3⟩
              · exact hCC _ hc
              · exact h3 i hm hfl
            | succ f => rw [hfl] at hq; exact sameCase (hq w)
        · rw [if_neg (by rw [hw]; simp)]
          rw [← hv]
          exact next w hst
      · -- the tail
        obtain ⟨j, fl, tl, rfl⟩ : ∃ j fl tl, tU = (j, fl) :: tl := by
          cases tU with
          | nil => cases hm
          | cons x tl => exact ⟨x.1, x.2, tl, rfl⟩
        have hchain : chainOk (masks ops) ((j :: tl.map (·.1))) = true := by
          have := S.chain
          rw [hTe, List.map_append] at this
          exact chainOk_drop _ _ this
        have hbit : ∀ k, ((masks ops).getD i 0).testBit k = true → listed.getD k false = true := fun k hk => masks_good hcl ho hdeps hk
        have hndT : ((j :: tl.map (·.1))).Nodup := by
          have := (List.nodup_append.1 S.nodup).2.1
          rw [hTe, List.map_append] at this
          exact (List.nodup_append.1 this).2.1
        have hij : i = j := by
          by_cases e : i = j
          · exact e
          · exfalso
            have hm' : i ∈ tl.map (·.1) := by simpa [e] using hm
            obtain ⟨k, hk, hb⟩ := chainOk_tail _ i hchain hm'
            have h1 := hbit k hb
            have h2 := (hun k (S.inside k (.inr (by rw [hTe, List.map_append]; exact List.mem_append_right _ hk)))).2 (.inr hk)
            rw [h1] at h2; cases h2
        subst hij
        have hflags : ∀ h ∈ hU, flOf H h ≠ 0 ∧ (flOf H h = 1 → fl = true) := fun h hh => by
          have h1 := List.all_eq_true.1 (List.all_eq_true.1 S.flags (i, fl) (by rw [hTe]; simp)) (h, flOf H h) (flOf_mem (hsub h hh))
          have h2 : ((masks ops).getD i 0).testBit h = false := by
            cases hb : ((masks ops).getD i 0).testBit h with
            | false => rfl
            | true =>
              have h3 := hbit h hb
              rw [(hun h (S.inside h (.inl (hsub h hh)))).2 (.inl hh)] at h3
              cases h3
          dsimp only at h1
          rw [h2, Bool.or_false] at h1
          refine ⟨fun e => ?_, fun e => ?_⟩
          · rw [e] at h1; cases h1
          · rw [e] at h1; exact h1
        have hwt : WtD P n ops.toArray C K (picks ops ((i, fl) :: tl)) rs w := by
          rcases hst with ⟨hc, h1, h2⟩ | ⟨h1, _⟩
          · have := hT w hc
            rw [hTe, h2] at this
            rw [h1]; exact this
          · exact h1
        have hCw : ∀ h ∈ hU, flOf H h = 1 → C w := fun h hh e => by
          rcases hst with ⟨hc, _⟩ | ⟨_, _, h3⟩
          · exact hCC _ hc
          · exact h3 h hh e
        simp only [picks, ho, WtD] at hwt
        obtain ⟨hd, hwt⟩ := hwt
        have agree : Agree (o.looksAt ops.toArray) ra rs := fun t ht => hra t (notHU t ht)
        have hnotH : i ∉ H.map (·.1) := fun h => (List.nodup_append.1 S.nodup).2.2 i h i (by rw [hTe, List.map_append]; exact List.mem_append_right _ hm) rfl
        have next : ∀ v w', (∀ h ∈ hU, flOf H h = 1 → C w') → WtD P n ops.toArray C K (picks ops tl) (putO rs o.dst v) w' →
            wpAny P .any ops.toArray Q fuel (listed.setIfInBounds i true) (a.put o.dst v) w' := fun v w' hc' hw' => by
          refine ih hU (pre ++ [(i, fl)]) tl _ (putO ra o.dst v) (putO rs o.dst v) _ w' (by simp [hs]) hsub hnd (by rw [hTe]; simp) (fun j hj => ?_) hcl' (by simp at hf ⊢; omega) (ha.putO hd _) (fun t ht => ?_) (fun t ht => ?_)
            (.inr ⟨hw', fun h hh => (hflags h hh).1, hc'⟩)
          · rw [hset]
            by_cases hji : j = i
            · subst hji
              rw [if_pos rfl]
              constructor
              · intro h; cases h
              · rintro (h | h)
                · exact absurd (hsub j h) hnotH
                · exact absurd h (List.nodup_cons.1 hndT).1
            · rw [if_neg hji, hun j hj]
              simp [hji]
          · cases hd' : o.dst with
            | none => exact hra t ht
            | some d =>
              by_cases htd : t = d
              · subst htd; simp only [putO, put_same]
              · simp only [putO, put_other _ _ htd]; exact hra t ht
          · have ht' : ∀ i ∈ pre.map (·.1), ∀ o, ops[i]? = some o → o.dst ≠ some t := fun k hk => ht k (by rw [List.map_append]; exact List.mem_append_left _ hk)
            cases hd' : o.dst with
            | none => exact hrs t ht'
            | some d =>
              have htd : t ≠ d := fun e => ht i (by simp) o ho (by rw [hd', e])
              simp only [putO, put_other _ _ htd]; exact hrs t ht'
        rw [wanted_agree agree]
        by_cases hw : wantedE ops.toArray o rs = true
        · rw [if_pos hw] at hwt ⊢
          exact .inl ((hwt.agree hsel agree).wp ha.eval fun v w' q => next v w' (fun h hh e => q.1 ((hflags h hh).2 e)) q.2)
        · rw [if_neg hw] at hwt ⊢
          exact next _ w hCw hwt

theorem Wc.draw {id : Nat} {l : List Oper} {r : Env} {w : World} {Q : Post} (hm : P.follows .mixedOrders = true) (H : List (Nat × Nat)) (T : List (Nat × Bool)) (hok : okRegion l H T = true) (C0 C : World → Prop) (hCC : ∀ w, C0 w → C w)
    (hC : C0 { w with drawn := w.drawn + 1 })
    (h : Wh P n l.toArray C0 C (fun r' => ∀ w', C0 w' → Wt P n l.toArray C Q.normal (picks l T) r' w') (picks l H) r) : Wc P n (.region id l.toArray true) Q r w := by
  refine ⟨fun a ha => wp_region_any hm ?_⟩
  have S := Sound.of hok
  obtain ⟨V, rH, hK, hn, hH⟩ := heads_of (Hs := H.map (·.1)) (fun i j oi oj d hj hi hj' hd => ⟨fun hm => ((S.data i j oi oj d hi hj' hd).1 hm).resolve_right fun hx => hx.1 hj, (S.data i j oi oj d hi hj' hd).2⟩) S.noSel H [] r (fun _ h => h) S.heads (List.nodup_append.1 S.nodup).1 (by simp) (fun i hi => S.inside i (.inl hi)) h.out
  have hnd := S.nodup
  refine anyAux S (V := V) (r := r) (rH := rH) hH hn hCC (fun w hw => (hK w hw).out) (fun a r w ha hk => ⟨r, ha, hk⟩) _ (H.map (·.1)) [] T _ r rH a _ (by simp) (fun _ h => h) (List.nodup_append.1 hnd).1 rfl (fun i hi => ?_) (fun i o _ hl => ?_) ?_ ha (fun t ht => ?_) (fun _ _ => rfl) (.inl ⟨hC, rfl, rfl⟩)
  · constructor
    · intro _; exact S.all i hi
    · intro _; exact getD_replicate_false _ _
  · have := getD_replicate_false l.toArray.size i
    dsimp only at hl
    rw [this] at hl; cases hl
  · have h1 : (H.map (·.1) ++ T.map (·.1)).length = l.length := by
      have hp : (H.map (·.1) ++ T.map (·.1)).Perm (List.range l.length) := by
        rw [List.perm_ext_iff_of_nodup hnd List.nodup_range]
        intro i
        rw [List.mem_append, List.mem_range]
        exact ⟨S.inside i, S.all i⟩
      simpa using hp.length_eq
    simpa using h1.symm
  · exact (hH.else_ t ht).symm
end
end Go.Dor
