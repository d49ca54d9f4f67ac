/- CALLS, AND HOW A FUNCTION BEGINS AND ENDS. Plain lemmas over any program. -/
import Derived.Test.YtlejphdgfoejaaaDoorE
namespace Go.Dor
open Go.RowKit (Below)

def callable (P : Program) (f : FuncId) : Bool :=
  match P.funcs[f]? with | some fn => fn.body.isSome && !(fn.name == "runtime.NumGoroutine") | none => false

section
variable {P : Program} {r : Env} {w w0 : World} {d : Option Tmp} {ty : TypeId} {pos : String} {aft : Array Edge} {g : Option (Nat × Bool)} {M S : Nat → Prop} {L : List Res} {n : Nat}

theorem run_callFunc {f : FuncId} {args : Array Value} (hF : callable P f = true) : (callFunc f args).run P w = .ok (.enter f args) w := by
  unfold callable at hF
  cases hf : P.funcs[f]? with
  | none => rw [hf] at hF; cases hF
  | some fn =>
    rw [hf] at hF
    simp only [Bool.and_eq_true, Bool.not_eq_true'] at hF
    obtain ⟨h1, h2⟩ := hF
    have h3 : fn.body.isNone = false := by cases hb : fn.body <;> simp_all
    simp only [callFunc, Sem.run_bind, run_program, Result.andThen_ok, hf, h2, h3, Bool.false_eq_true, if_false, Sem.run_pure]

theorem ex_call {x : Operand} {args : List Operand} {f : FuncId} {caps vs : List Value} {at_ : Array TypeId} (hF : callable P f = true) (hx : ev r x = .func (.func f) #[] caps.toArray) (ha : args.map (ev r) ++ caps = vs) :
    (execOp (ev r) ⟨d, .call { callee := .value x, args := args.toArray, argTypes := at_ }, ty, pos, aft, g⟩).run P w = .ok (.enter f vs.toArray) w := by
  subst ha
  have : (callFunc f ((args.map (ev r)).toArray ++ caps.toArray)).run P w = .ok (.enter f (args.map (ev r) ++ caps).toArray) w := by
    rw [run_callFunc hF]; simp
  simp [execOp, resolve, Deferred.ofValue, hx, invoke]
  simpa using this

theorem st_call {o : Oper} {f : FuncId} {args : Array Value} {R : Value → World → Prop} (h : (execOp (ev r) o).run P w = .ok (.enter f args) w) (c : Calls P f args w fun e w' => ∃ v, e = .returned v ∧ R v w') : Step P o r w R := .enter h c

/-! ### the next operation -/
theorem Wl.stp {ops : Array Oper} {K : Env → World → Prop} {R : Value → World → Prop} {d : Nat} {op : Op} {rest : List Oper} (hd : d < n) (h : Step P ⟨some d, op, ty, pos, aft, none⟩ r w R)
    (k : ∀ v w', R v w' → Wl P n ops K rest (put r d v) w') : Wl P n ops K (⟨some d, op, ty, pos, aft, none⟩ :: rest) r w :=
  ⟨⟨fun x hx => by cases hx; exact hd, by simp only [wantedE, if_true]; exact h.mono fun v w' q => (k v w' q).out⟩⟩
theorem Wl.stn {ops : Array Oper} {K : Env → World → Prop} {R : Value → World → Prop} {op : Op} {rest : List Oper} (h : Step P ⟨none, op, ty, pos, aft, none⟩ r w R)
    (k : ∀ v w', R v w' → Wl P n ops K rest r w') : Wl P n ops K (⟨none, op, ty, pos, aft, none⟩ :: rest) r w :=
  ⟨⟨fun x hx => (by cases hx), by simp only [wantedE, if_true]; exact h.mono fun v w' q => (k v w' q).out⟩⟩
theorem Wl.gstp {ops : Array Oper} {K : Env → World → Prop} {R : Value → World → Prop} {d g t : Nat} {b c : Bool} {op : Op} {rest : List Oper} (hd : d < n) (hg : (ops[g]?).bind (·.dst) = some t) (hb : r t = .bool b) (he : b = c)
    (h : Step P ⟨some d, op, ty, pos, aft, some (g, c)⟩ r w R) (k : ∀ v w', R v w' → Wl P n ops K rest (put r d v) w') : Wl P n ops K (⟨some d, op, ty, pos, aft, some (g, c)⟩ :: rest) r w :=
  ⟨⟨fun x hx => by cases hx; exact hd, by subst he; simp only [wantedE, hg, hb, beq_self_eq_true, if_true]; exact h.mono fun v w' q => (k v w' q).out⟩⟩

/-! ### heads and tails of a region that draws -/
section
variable {l : List Oper} {C : World → Prop} {KH : Env → Prop} {K : Env → World → Prop} {H : List (Nat × Nat)} {T : List (Nat × Bool)} {i d : Nat} {op : Op} {v : Value}
theorem Wt.nil (h : K r w) : Wt P n l.toArray C K (picks l []) r w := ⟨h⟩
theorem Wt.val {w' : World} (hi : l[i]? = some ⟨some d, op, ty, pos, aft, none⟩) (hd : d < n) (h : (execOp (ev r) ⟨some d, op, ty, pos, aft, none⟩).run P w = .ok (.value v) w')
    (k : Wt P n l.toArray C K (picks l T) (put r d v) w') : Wt P n l.toArray C K (picks l ((i, false) :: T)) r w :=
  ⟨by simp only [picks, hi, WtD, wantedE, if_true]; exact ⟨fun x hx => by cases hx; exact hd, .value h ⟨fun h => (by cases h), k.out⟩⟩⟩
theorem Wt.stp {R : Value → World → Prop} (hi : l[i]? = some ⟨some d, op, ty, pos, aft, none⟩) (hd : d < n) (h : Step P ⟨some d, op, ty, pos, aft, none⟩ r w R)
    (k : ∀ v w', R v w' → Wt P n l.toArray C K (picks l T) (put r d v) w') : Wt P n l.toArray C K (picks l ((i, false) :: T)) r w :=
  ⟨by simp only [picks, hi, WtD, wantedE, if_true]; exact ⟨fun x hx => by cases hx; exact hd, h.mono fun v w' q => ⟨fun h => (by cases h), (k v w' q).out⟩⟩⟩
theorem Wt.stk {R : Value → World → Prop} (hi : l[i]? = some ⟨some d, op, ty, pos, aft, none⟩) (hd : d < n) (h : Step P ⟨some d, op, ty, pos, aft, none⟩ r w R)
    (k : ∀ v w', R v w' → C w' ∧ Wt P n l.toArray C K (picks l T) (put r d v) w') : Wt P n l.toArray C K (picks l ((i, true) :: T)) r w :=
  ⟨by simp only [picks, hi, WtD, wantedE, if_true]; exact ⟨fun x hx => by cases hx; exact hd, h.mono fun v w' q => ⟨fun _ => (k v w' q).1, (k v w' q).2.out⟩⟩⟩
theorem Wt.stn {R : Value → World → Prop} (hi : l[i]? = some ⟨none, op, ty, pos, aft, none⟩) (h : Step P ⟨none, op, ty, pos, aft, none⟩ r w R)
    (k : ∀ v w', R v w' → Wt P n l.toArray C K (picks l T) r w') : Wt P n l.toArray C K (picks l ((i, false) :: T)) r w :=
  ⟨by simp only [picks, hi, WtD, wantedE, if_true]; exact ⟨fun x hx => (by cases hx), h.mono fun v w' q => ⟨fun h => (by cases h), (k v w' q).out⟩⟩⟩
end

/-! ### results, the beginning -/
inductive ResV (P : Program) (r : Env) (w : World) : List ResultVar → List Value → Prop
  | nil : ResV P r w [] []
  | tmp {t : Tmp} {v : Value} {l : List ResultVar} {vs : List Value} (h : r t = v) (k : ResV P r w l vs) : ResV P r w (.tmp t :: l) (v :: vs)
  | cell {t : Tmp} {T : TypeId} {a : Addr} {v : Value} {l : List ResultVar} {vs : List Value} (ha : r t = .pointer (some a)) (h : (loadVar T a).run P w = .ok v w) (k : ResV P r w l vs) : ResV P r w (.cell t T :: l) (v :: vs)

def one : List Value → Value
  | [v] => v
  | vs => .tuple vs.toArray

def resOf (a : Act) : ResultVar → Sem Value
  | .tmp t => pure (a.tmps.getD t undef)
  | .cell p t => do loadVar t (← asAddr (a.tmps.getD p undef))

theorem ResV.run {fn : Func} {a : Act} (ha : Fits n r a) {vs : List Value} (h : ResV P r w fn.results.toList vs) : (results fn a.tmps).run P w = .ok (one vs) w := by
  have key : ∀ (l : List ResultVar) (vs : List Value), ResV P r w l vs → (l.mapM (resOf a)).run P w = Result.ok vs w := by
    intro l vs h
    induction h with
    | nil => rfl
    | @tmp t v l vs h _ ih =>
      have e : (resOf a (.tmp t)).run P w = .ok v w := by rw [← h, ← ha.env]; rfl
      rw [List.mapM_cons]; simp only [Sem.run_bind, e, Result.andThen_ok, ih, Sem.run_pure]
    | @cell t T ad v l vs hp h _ ih =>
      have e : (resOf a (.cell t T)).run P w = .ok v w := by
        simp only [resOf, ha.env, hp, asAddr, Sem.run_bind, Sem.run_pure, Result.andThen_ok, h]
      rw [List.mapM_cons]
      simp only [Sem.run_bind, e, Result.andThen_ok, ih, Sem.run_pure]
  have h2 := key _ _ h
  have e : results fn a.tmps = (fn.results.mapM (resOf a) >>= fun vs => pure (if h : vs.size = 1 then vs[0] else .tuple vs)) := by
    unfold results
    congr 1
  rw [e, Array.mapM_eq_mapM_toList]
  simp only [Sem.run_bind, Sem.run_map, h2, Result.andThen_ok, Sem.run_pure]
  match vs with
  | [] => rfl
  | [v] => rfl
  | _ :: _ :: _ => rfl

def fin (P : Program) (fn : Func) (R : Value → World → Prop) : Env → World → Prop := fun r w => ∃ vs, ResV P r w fn.results.toList vs ∧ R (one vs) w

def envL (l : List Value) : Env := fun t => l.getD t undef

theorem enter {f : FuncId} {fn : Func} {c : Code} {args : List Value} {R : Value → World → Prop} (hf : P.funcs[f]? = some fn) (hb : fn.body = some c) (hn : fn.ntmps = n) (hle : args.length ≤ n)
    (h : Wc P n c ⟨fin P fn R, fun _ _ _ => False, fin P fn R⟩ (envL args) w) : Calls P f args.toArray w fun e w' => ∃ v, e = .returned v ∧ R v w' := by
  refine calls_of_wp hf hb (wp_mono (h.out _ ⟨?_, fun t => ?_, rfl⟩) fun e a w q => ?_)
  · rw [hn]; simp; omega
  · rw [hn]
    simp only [envL, Array.getD_eq_getD_getElem?, List.getD_eq_getElem?_getD]
    rw [Array.getElem?_append]
    split
    · simp
    · rename_i hge
      have : args.length ≤ t := by simpa using hge
      rw [List.getElem?_eq_none this, Array.getElem?_replicate]
      split <;> rfl
  · cases e <;> simp only [Post.lift] at q
    · obtain ⟨r, hr, vs, hv, hR⟩ := q
      exact ⟨hr.nodef, _, hv.run hr, _, rfl, hR⟩
    · obtain ⟨_, _, h⟩ := q; exact h.elim
    · obtain ⟨r, hr, vs, hv, hR⟩ := q
      exact ⟨hr.nodef, _, hv.run hr, _, rfl, hR⟩

/-! ### what a pure function that may fail tells -/
def chk {α : Type} (c : Bool) (x : Option α) : Option α := if c then x else none
theorem chk_some {α : Type} {c : Bool} {x : Option α} {r : α} (h : chk c x = some r) : c = true ∧ x = some r := by
  unfold chk at h
  split at h
  · rename_i hc; exact ⟨hc, h⟩
  · cases h
theorem bind_some {α β : Type} {x : Option α} {f : α → Option β} {r : β} (h : x.bind f = some r) : ∃ a, x = some a ∧ f a = some r := by
  cases x with
  | none => cases h
  | some a => exact ⟨a, rfl, h⟩
/-- a way on that is met on several ways -/
def join {α β γ : Type} (j : α → Option β) (f : (α → Option β) → Option γ) : Option γ := f j
theorem join_some {α β γ : Type} {j : α → Option β} {f : (α → Option β) → Option γ} {r : γ} (h : join j f = some r) : ∃ j', j' = j ∧ f j' = some r := ⟨j, rfl, h⟩


/-! ### what the printed walks use -/
theorem of_yes {α : Type} {c : Prop} [Decidable c] {x y : Option α} {r : α} (h : (if c then x else y) = some r) (hc : c) : x = some r := by rw [if_pos hc] at h; exact h
theorem of_no {α : Type} {c : Prop} [Decidable c] {x y : Option α} {r : α} (h : (if c then x else y) = some r) (hc : ¬ c) : y = some r := by rw [if_neg hc] at h; exact h
def need {α : Type} (c : Prop) [Decidable c] (x : Option α) : Option α := if c then x else none
theorem need_some {α : Type} {c : Prop} [Decidable c] {x : Option α} {r : α} (h : need c x = some r) : c ∧ x = some r := by
  unfold need at h
  split at h
  · rename_i hc; exact ⟨hc, h⟩
  · cases h
def joined {γ δ : Type} (j : γ) (f : γ → δ) : δ := f j
theorem joined_some {γ β : Type} {j : γ} {f : γ → Option β} {r : β} (h : joined j f = some r) : ∃ j', j' = j ∧ f j' = some r := ⟨j, rfl, h⟩

theorem Wc.cutN {c : Code} {Q : Post} (J : Env → World → Prop) (h : Wc P n c { Q with normal := J } r w) (k : ∀ r w, J r w → Q.normal r w) : Wc P n c Q r w :=
  h.mono (fun r w hj => k r w hj) (fun _ _ _ q => q) (fun _ _ q => q)

theorem env_nil (r : Env) : r = r := rfl
theorem env_put {r x : Env} {s : Nat} {v : Value} (h : r = x) (hs : r s = v) : r = put x s v := by subst h; exact (put_self hs).symm

theorem Hp.comm {A B : List Res} (H : Hp M S w0 w (A ++ B)) : Hp M S w0 w (B ++ A) :=
  H.weaken _ (fun i => if i < B.length then A.length + i else i - B.length) (fun i x h => by
    rcases get_append h with ⟨hi, h⟩ | ⟨hi, h⟩
    · rw [if_pos hi, List.getElem?_append_right (by omega)]; simpa using h
    · rw [if_neg (by omega), List.getElem?_append_left (List.getElem?_eq_some_iff.1 h).1]; exact h) fun i j hi hj he => by
      simp only [List.length_append] at hi hj
      split at he <;> split at he <;> omega

/-- a call that is lent nothing -/
theorem Hp.out (H : Hp M S w0 w L) : Run [] w w [] := Hp.lend (A := []) (R := []) (B := L) H (by simp)
theorem Hp.into {w' : World} {A' : List Res} (H : Hp M S w0 w L) (Hc : Run [] w w' A') (hm : ∀ x ∈ A', x.mine = true) : Hp M S w0 w' (L ++ A') :=
  Hp.comm (Hp.back (A := []) (R := []) (B := L) H (by simp) Hc (.inl hm))
theorem Hp.into0 {w' : World} (H : Hp M S w0 w L) (Hc : Run [] w w' []) : Hp M S w0 w' L := H.next Hc.below

/-- a call that yields one value and lends nothing, among heads -/
theorem quiet_call {f : FuncId} {args : Array Value} {v : Value} (h : ∀ w, Run [] w w [] → Calls P f args w fun e w' => ∃ u, e = .returned u ∧ u = v ∧ Run [] w w' []) :
    ∀ w, Hp M S w0 w L → Calls P f args w fun e w' => e = .returned v ∧ Hp M S w0 w' L := fun w H =>
  (h w H.out).mono fun e w' ⟨u, he, hu, hc⟩ => ⟨by rw [he, hu], H.into0 hc⟩

end
end Go.Dor
