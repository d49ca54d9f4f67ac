/- MORE OPERATIONS: choices, elements of arrays, parts of texts, structs and arrays that are built, equality of structs and arrays. Plain lemmas over any program. -/
import Derived.Test.YtlejphdgfoejaaaDoorF
namespace Go.Dor

def vset {α : Type} {n : Nat} (v : Vector α n) (i : Int) (x : α) : Vector α n := ⟨⟨v.toList.set i.toNat x⟩, by simp⟩
theorem vlt {α : Type} {n : Nat} {v : Vector α n} {i : Int} (h : 0 ≤ i ∧ i < n) : i.toNat < v.toList.length := by simp; omega

section
variable {P : Program} {r : Env} {w w0 : World} {d : Option Tmp} {ty : TypeId} {pos : String} {aft : Array Edge} {g : Option (Nat × Bool)} {M S : Nat → Prop} {L : List Res} {n : Nat}

theorem of_noB {α : Type} {c : Bool} {x y : Option α} {r : α} (h : (if c = true then x else y) = some r) (hc : c = false) : y = some r := by subst hc; exact h

theorem ex_pickT {c x y : Operand} {b : Bool} {u : Value} (hc : ev r c = .bool b) (hb : b = true) (hx : ev r x = u) : (execOp (ev r) ⟨d, .pick c x y, ty, pos, aft, g⟩).run P w = .ok (.value u) w := by
  subst hb hx; simp [execOp, hc, asBool]
theorem ex_pickF {c x y : Operand} {b : Bool} {u : Value} (hc : ev r c = .bool b) (hb : b = false) (hy : ev r y = u) : (execOp (ev r) ⟨d, .pick c x y, ty, pos, aft, g⟩).run P w = .ok (.value u) w := by
  subst hb hy; simp [execOp, hc, asBool]
theorem ex_nilCheck {x : Operand} {a : Addr} (hx : ev r x = .pointer (some a)) : (execOp (ev r) ⟨d, .nilCheck x, ty, pos, aft, g⟩).run P w = .ok (.value (.pointer (some a))) w := by
  simp [execOp, hx]

theorem ex_ixA {α : Type} {T e : TypeId} {x y : Operand} {k : IntKind} {m : Nat} {v : Vector α m} {f : α → Value} {i : Int} (dd : α) (hT : P.underlying T = some (.array m e)) (he : isScal P e = true) (hx : ev r x = ag [v.toList.map f]) (hy : ev r y = .int k i)
    (h0 : 0 ≤ i) (h1 : i < m) : (execOp (ev r) ⟨d, .index T x y, ty, pos, aft, g⟩).run P w = .ok (.value (f (at_ dd v.toList i))) w := by
  obtain ⟨e1, e2⟩ := scal_spec (w := w) he
  have hlt : i.toNat < v.toList.length := vlt ⟨h0, h1⟩
  have hlt' : i.toNat < m := by omega
  have e3 : (cells [v.toList.map f])[i.toNat * 1]? = some (f (at_ dd v.toList i)) := by
    simp [cells, at_, hlt']
  simp [execOp, hx, hy, Instr.index, asIntOf, ag, run_underlying hT, h0, h1, part, e1, e2]
  rw [Nat.mul_one] at e3
  rw [e3]
  rfl

theorem sub_bytes (a : List UInt8) (lo hi : Nat) : (ByteArray.mk a.toArray).extract lo hi = ByteArray.mk ((a.take hi).drop lo).toArray := by
  apply ByteArray.ext
  simp [ByteArray.data_extract, List.take_drop]
  by_cases h : lo ≤ hi
  · rw [show lo + (hi - lo) = hi by omega]
  · have e1 : (a.take (lo + (hi - lo))).drop lo = [] := List.drop_eq_nil_of_le (by simp; omega)
    have e2 : (a.take hi).drop lo = [] := List.drop_eq_nil_of_le (by simp; omega)
    rw [e1, e2]

theorem ex_subLH {T : TypeId} {x l h : Operand} {k k' : IntKind} {a : List UInt8} {i j : Int} (hT : P.underlying T = some .string) (hx : ev r x = sv a) (hl : ev r l = .int k i) (hh : ev r h = .int k' j) (hc : 0 ≤ i ∧ i ≤ j ∧ j ≤ (a.length : Int)) :
    (execOp (ev r) ⟨d, .slice T x (some l) (some h) none, ty, pos, aft, g⟩).run P w = .ok (.value (sv (sub_ a i j))) w := by
  have h1 : 0 ≤ j := by omega
  have h2 : (j.toNat : Int) = j := by omega
  simp only [sv] at hx
  simp [execOp, hx, hl, hh, Instr.sliceAt, Instr.slice, Instr.sliceBounds, Instr.sliceBound, asIntOf, run_underlying hT, sv_size, hc, h1, h2, sub_bytes, sv, sub_]
theorem ex_subH {T : TypeId} {x h : Operand} {k' : IntKind} {a : List UInt8} {j : Int} (hT : P.underlying T = some .string) (hx : ev r x = sv a) (hh : ev r h = .int k' j) (hc : 0 ≤ j ∧ j ≤ (a.length : Int)) :
    (execOp (ev r) ⟨d, .slice T x none (some h) none, ty, pos, aft, g⟩).run P w = .ok (.value (sv (sub_ a 0 j))) w := by
  simp only [sv] at hx
  simp [execOp, hx, hh, Instr.sliceAt, Instr.slice, Instr.sliceBounds, Instr.sliceBound, asIntOf, run_underlying hT, sv_size, hc, sub_bytes, sv, sub_]
theorem ex_subL {T : TypeId} {x l : Operand} {k : IntKind} {a : List UInt8} {i : Int} (hT : P.underlying T = some .string) (hx : ev r x = sv a) (hl : ev r l = .int k i) (hc : 0 ≤ i ∧ i ≤ (a.length : Int)) :
    (execOp (ev r) ⟨d, .slice T x (some l) none none, ty, pos, aft, g⟩).run P w = .ok (.value (sv (sub_ a i (a.length : Int)))) w := by
  simp only [sv] at hx
  simp [execOp, hx, hl, Instr.sliceAt, Instr.slice, Instr.sliceBounds, Instr.sliceBound, asIntOf, run_underlying hT, sv_size, hc, sub_bytes, sv, sub_]

/-! ### what is built -/
def placesOf (P : Program) (T : TypeId) : Option (List (Nat × Nat)) :=
  match P.underlying T with
  | some (.struct fs) => fs.toList.mapM fun f => (P.info? f.type).map fun i => (f.offset, i.size)
  | _ => none

theorem fill_nil {p : Nat → Option (Nat × Nat)} {c : Array Value} : Instr.fill p c [] = some c := rfl

theorem foldl_setSegs (new : List Value) : ∀ (o k : Nat) (c : List Value), o + k + new.length ≤ c.length →
    (new.zipIdx k).foldl (fun cs (x : Value × Nat) => cs.setIfInBounds (o + x.2) x.1) c.toArray = (c.take (o + k) ++ new ++ c.drop (o + k + new.length)).toArray := by
  induction new with
  | nil => intro o k c _; simp
  | cons v new ih =>
    intro o k c h
    simp only [List.length_cons] at h
    rw [List.zipIdx_cons, List.foldl_cons]
    simp only [List.setIfInBounds_toArray]
    rw [ih o (k + 1) _ (by simp; omega)]
    congr 1
    exact list_seg_step c (o + k) v new (by omega)

theorem fill_cons {p : Nat → Option (Nat × Nat)} {i off sz : Nat} {v : Value} {rest : List (Nat × Value)} {s : List (List Value)} {res : Array Value} (pre mid post new : List (List Value)) (hs : s = pre ++ mid ++ post) (ho : pre.flatten.length = off) (hl : new.flatten.length = mid.flatten.length) (hm : new.flatten.length = sz)
    (k : Instr.fill p (cells (pre ++ new ++ post)) rest = some res) (hp : p i = some (off, sz) := by rfl) (hv : v.cells = cells new := by rfl) : Instr.fill p (cells s) ((i, v) :: rest) = some res := by
  have e1 : v.cells.size = sz := by rw [hv]; simpa [cells] using hm
  have e2 : (cells s).size = pre.flatten.length + mid.flatten.length + post.flatten.length := by rw [hs]; simp only [cells, List.size_toArray, List.flatten_append, List.length_append]
  unfold Instr.fill
  simp only [hp]
  have hcond : ¬ off + v.cells.size > (cells s).size := by rw [e1, e2, ← hm, hl, ← ho]; omega
  rw [if_neg (by
    rw [Bool.or_eq_true, decide_eq_true_eq, decide_eq_true_eq]
    rintro (h | h)
    · exact h e1
    · exact hcond h)]
  have e3 : v.cells.zipIdx.foldl (fun cs (x : Value × Nat) => cs.setIfInBounds (off + x.2) x.1) (cells s) = cells (pre ++ new ++ post) := by
    rw [hv, ← Array.foldl_toList]
    simp only [cells, Array.toList_zipIdx]
    rw [foldl_setSegs new.flatten off 0 s.flatten (by rw [hs, ← ho]; simp only [List.flatten_append, List.length_append]; omega)]
    congr 1
    rw [hs, ← ho]
    simp only [List.flatten_append, Nat.add_zero]
    exact splice _ _ _ _ hl
  rw [e3]
  exact k

theorem mapM_places {fs : List Field} {l : List (Nat × Nat)} (h : (fs.mapM fun f => (P.info? f.type).map fun i => (f.offset, i.size)) = some l) :
    (fs.mapM (fun f => (do pure (f.offset, ← sizeOf f.type) : Sem (Nat × Nat)))).run P w = .ok l w := by
  induction fs generalizing l with
  | nil => simp at h; subst h; rfl
  | cons f fs ih =>
    rw [List.mapM_cons] at h
    cases hi : P.info? f.type with
    | none => simp [hi] at h
    | some i =>
      simp only [hi, Option.map_some, Option.bind_eq_bind, Option.bind_some] at h
      obtain ⟨l', h1, h2⟩ := Option.bind_eq_some_iff.1 h
      simp only [Option.pure_def, Option.some.injEq] at h2
      subst h2
      rw [List.mapM_cons]
      have e : (sizeOf f.type).run P w = .ok i.size w := by simp [sizeOf, typeInfo, hi]
      simp only [Sem.run_bind, Sem.run_pure, e, Result.andThen_ok, ih h1]

theorem ex_buildS {T : TypeId} {parts : List (Nat × Operand)} {z : Array Value} {pl : List (Nat × Nat)} {s : List (List Value)} {vs : List (Nat × Value)} (hpl : placesOf P T = some pl) (hz : zeroOf P T = some z)
    (hv : parts.map (fun x => (x.1, ev r x.2)) = vs) (hf : Instr.fill (fun i => pl[i]?) z vs = some (cells s)) : (execOp (ev r) ⟨d, .build T parts.toArray, ty, pos, aft, g⟩).run P w = .ok (.value (ag s)) w := by
  unfold placesOf at hpl
  split at hpl
  · rename_i fs hu
    obtain ⟨zv, h1, h2⟩ := Option.map_eq_some_iff.1 hz
    obtain ⟨i, hi, h3⟩ := Option.bind_eq_some_iff.1 h1
    have hm := mapM_places (w := w) hpl
    have e4 : (parts.toArray.map fun (x : Nat × Operand) => (x.1, ev r x.2)).toList = vs := by simp [← hv]
    have hf' : Instr.fill (fun x => pl.toArray[x]?) z vs = some (cells s) := by simpa using hf
    simp only [execOp, Instr.build, Sem.run_bind, zeroValue, typeInfo, run_program, Result.andThen_ok, hi, h3, Sem.run_pure, run_underlying hu, h2, Array.mapM_eq_mapM_toList, Sem.run_map, hm]
    rw [show (Array.map (fun (x : Nat × Operand) => match x with | (i, x) => (i, ev r x)) parts.toArray) = (parts.toArray.map fun (x : Nat × Operand) => (x.1, ev r x.2)) from rfl, e4, hf']
    rfl
  · cases hpl


/-- an array by all its elements -/
theorem ex_buildA {α : Type} {T e : TypeId} {m : Nat} {parts : List (Nat × Operand)} {z : Array Value} {v : Vector α m} {f : α → Value} (hu : P.underlying T = some (.array m e)) (hz : zeroOf P T = some z) (he : (P.info? e).map (·.size) = some 1)
    (hv : parts.map (fun x => (x.1, ev r x.2)) = (v.toList.map f).zipIdx.map (fun x => (x.2, x.1))) (hm : z.size = m) (h1 : (v.toList.map f).all Value.oneCell' = true) : (execOp (ev r) ⟨d, .build T parts.toArray, ty, pos, aft, g⟩).run P w = .ok (.value (ag [v.toList.map f])) w := by
  obtain ⟨zv, h2, h3⟩ := Option.map_eq_some_iff.1 hz
  obtain ⟨i, hi, h4⟩ := Option.bind_eq_some_iff.1 h2
  obtain ⟨ie, hie, hs⟩ := Option.map_eq_some_iff.1 he
  have key : ∀ (l : List Value) (k : Nat) (c : List Value), k + l.length ≤ c.length → (∀ x ∈ l, x.oneCell' = true) →
      Instr.fill (fun i => some (i * 1, 1)) c.toArray ((l.zipIdx k).map fun x => (x.2, x.1)) = some (c.take k ++ l ++ c.drop (k + l.length)).toArray := by
    intro l
    induction l with
    | nil => intro k c _ _; simp [Instr.fill]
    | cons x l ih =>
      intro k c hk hx
      have hc : x.cells = #[x] := by have := hx x (by simp); cases x <;> first | rfl | cases this
      simp only [List.length_cons] at hk
      rw [List.zipIdx_cons, List.map_cons]
      unfold Instr.fill
      simp only [hc, Nat.mul_one]
      rw [if_neg (by simp; omega)]
      have e5 : (#[x] : Array Value).zipIdx.foldl (fun cs (y : Value × Nat) => cs.setIfInBounds (k + y.2) y.1) c.toArray = (c.set k x).toArray := by simp
      rw [e5]
      have := ih (k + 1) (c.set k x) (by simp; omega) (fun y hy => hx y (by simp [hy]))
      simp only [Nat.mul_one] at this
      rw [this, list_seg_step c k x l (by omega)]
      simp
  have hk := key (v.toList.map f) 0 z.toList (by simp [hm]) (fun x hx => List.all_eq_true.1 h1 x hx)
  have e6 : (parts.toArray.map fun (x : Nat × Operand) => (x.1, ev r x.2)).toList = (v.toList.map f).zipIdx.map (fun x => (x.2, x.1)) := by simp [← hv]
  have e7 : z.toList.take 0 ++ v.toList.map f ++ z.toList.drop (0 + (v.toList.map f).length) = v.toList.map f := by
    simp [List.drop_eq_nil_of_le, hm]
  rw [e7] at hk
  simp only [execOp, Instr.build, Sem.run_bind, zeroValue, typeInfo, run_program, Result.andThen_ok, hi, h4, Sem.run_pure, run_underlying hu, h3, sizeOf, hie, hs]
  rw [show (Array.map (fun (x : Nat × Operand) => match x with | (i, x) => (i, ev r x)) parts.toArray) = (parts.toArray.map fun (x : Nat × Operand) => (x.1, ev r x.2)) from rfl, e6]
  have e8 : (z.toList.toArray) = z := by simp
  rw [e8] at hk
  rw [hk]
  simp [ag, cells]


/-! ### equality of structs and arrays -/
def Eqs (P : Program) (q : Nat) (t : TypeId) (x y : Value) (b : Bool) : Prop := ∀ w, (Op.equalIn q t x y).run P w = .ok b w
theorem eqs_int {q : Nat} {t : TypeId} {k k' : IntKind} {a b : Int} (h : P.underlying t = some (.int k')) : Eqs P (q + 1) t (.int k a) (.int k b) (a == b) := fun w => run_equalIn_int w q t k k' a b h
theorem eqs_bool {q : Nat} {t : TypeId} {a b : Bool} (h : P.underlying t = some .bool) : Eqs P (q + 1) t (.bool a) (.bool b) (a == b) := fun w => run_equalIn_bool' w q t a b h
theorem eqs_str {q : Nat} {t : TypeId} {a b : List UInt8} (h : P.underlying t = some .string) : Eqs P (q + 1) t (sv a) (sv b) (a == b) := fun w => by
  simp only [sv]
  rw [run_equalIn_string w q t _ _ h]; simp

inductive EqF (P : Program) (q : Nat) (xs ys : Array Value) : List Field → Bool → Prop
  | nil : EqF P q xs ys [] true
  | cons {f : Field} {fs : List Field} {a b : Value} {r r' : Bool} (ha : ∀ w, (part f.type xs f.offset).run P w = .ok a w) (hb : ∀ w, (part f.type ys f.offset).run P w = .ok b w) (he : Eqs P q f.type a b r) (k : EqF P q xs ys fs r') : EqF P q xs ys (f :: fs) (r && r')

theorem EqF.run {q : Nat} {xs ys : Array Value} {fs : List Field} {b : Bool} (h : EqF P q xs ys fs b) (hn : fs.all (fun f => !(f.name == "_")) = true) (w : World) : (Op.eqFields q xs ys fs).run P w = .ok b w := by
  induction h with
  | nil => rfl
  | @cons f fs a b r r' ha hb he _ ih =>
    simp only [List.all_cons, Bool.and_eq_true, Bool.not_eq_true', beq_eq_false_iff_ne] at hn
    have ih' := ih hn.2
    simp only [Op.eqFields]
    rw [if_pos hn.1]
    simp only [Sem.run_bind, ha, hb, he w, Result.andThen_ok]
    cases r
    · simp
    · simp [ih']

theorem eqs_struct {q : Nat} {t : TypeId} {fs : Array Field} {xs ys : Array Value} {b : Bool} (ht : P.underlying t = some (.struct fs)) (hp : P.stoodInHeld t = false) (hn : fs.toList.all (fun f => !(f.name == "_")) = true) (h : EqF P q xs ys fs.toList b) : Eqs P (q + 1) t (.agg xs) (.agg ys) b := fun w => by
  have hf : P.fieldsOf t = fs := by simp [Program.fieldsOf, ht]
  rw [run_equalIn_struct w q t xs ys (by rw [hf]; exact ht) hp, hf]
  exact h.run hn w

theorem part_scal {t : TypeId} {off : Nat} {s : List (List Value)} {v : Value} (pre post : List (List Value)) (hT : isScal P t = true) (hs : s = pre ++ [[v]] ++ post) (ho : pre.flatten.length = off) (w : World) : (part t (cells s) off).run P w = .ok v w := by
  obtain ⟨e1, _⟩ := scal_spec (w := w) hT
  have e : (cells s)[off]? = some v := by
    have := flat_mid pre [[v]] post 0 (by simp)
    rw [hs, ← ho]; simpa [cells, -List.append_assoc] using this
  simp [part, e1, e]
theorem part_agg {t : TypeId} {off n : Nat} {s : List (List Value)} (pre mid post : List (List Value)) (hT : aggOf P t = some n) (hs : s = pre ++ mid ++ post) (ho : pre.flatten.length = off) (hn : mid.flatten.length = n) (w : World) : (part t (cells s) off).run P w = .ok (ag mid) w := by
  obtain ⟨e1, e2⟩ := agg_spec (w := w) hT
  have e : (cells s).extract off (off + n) = cells mid := by
    apply Array.ext'
    rw [hs, ← ho, ← hn]
    simp only [cells, List.extract_toArray, List.flatten_append, List.extract_eq_take_drop, Nat.add_sub_cancel_left]
    rw [List.append_assoc, List.drop_left, List.take_left]
  simp [part, e1, e2, e, ag]

/-- arrays whose elements are one cell each -/
theorem eqs_arr {α : Type} [DecidableEq α] {q m : Nat} {t e : TypeId} {f : α → Value} {x y : Vector α m} (ht : P.underlying t = some (.array m e)) (he : isScal P e = true) (hel : ∀ a b, Eqs P q e (f a) (f b) (decide (a = b))) :
    Eqs P (q + 1) t (ag [x.toList.map f]) (ag [y.toList.map f]) (decide (x = y)) := fun w => by
  obtain ⟨e1, e2⟩ := scal_spec (w := w) he
  have hx : x.toList.length = m := by simp
  have hy : y.toList.length = m := by simp
  have hp : ∀ (v : List α) (i : Nat) (h : i < v.length), (part e (cells [v.map f]) i).run P w = .ok (f v[i]) w := fun v i h => by
    simp [part, e1, cells, h]
  have key : ∀ (n i : Nat) (u v : List α), u.length = i + n → v.length = i + n → u.take i = v.take i →
      ((Sem.run P (forIn (List.range' i n 1) ((none : Option Bool), ()) fun i __s => (do
          let a ← part e (cells [List.map f u]) (i * 1)
          let b ← part e (cells [List.map f v]) (i * 1)
          let r ← Op.equalIn q e a b
          if (!r) = true then pure (ForInStep.done (some false, ())) else pure (ForInStep.yield (none, ())) : Sem (ForInStep (Option Bool × Unit)))) w).andThen
        fun a w' => Sem.run P (match a.fst with | some r => pure r | none => pure true) w') = Result.ok (decide (u = v)) w := by
    intro n
    induction n with
    | zero =>
      intro i u v hu hv h
      rw [List.take_of_length_le (by omega), List.take_of_length_le (by omega)] at h
      simp [h]
    | succ n ih =>
      intro i u v hu hv h
      rw [List.range'_succ, List.forIn_cons]
      have h1 : i < u.length := by omega
      have h2 : i < v.length := by omega
      simp only [Nat.mul_one, Sem.run_bind, hp u i h1, hp v i h2, Result.andThen_ok, hel _ _ w]
      by_cases hc : u[i] = v[i]
      · have := ih (i + 1) u v (by omega) (by omega) (by rw [List.take_succ_eq_append_getElem h1, List.take_succ_eq_append_getElem h2, h, hc])
        simp only [Nat.mul_one] at this
        simpa [hc] using this
      · have : u ≠ v := fun e => hc (by subst e; rfl)
        simp [hc, this]
  have hk := key m 0 x.toList y.toList (by omega) (by omega) (by simp)
  have hxy : (decide (x.toList = y.toList)) = decide (x = y) := by
    rw [decide_eq_decide]
    exact ⟨fun h => by
      apply Vector.toArray_inj.1
      apply Array.toList_inj.1
      exact h, fun h => by rw [h]⟩
  rw [hxy] at hk
  simp only [ag, Op.equalIn, Sem.run_bind, run_underlying ht, Result.andThen_ok, e2]
  rw [Std.Legacy.Range.forIn_eq_forIn_range', show [:m].size = m by simp [Std.Legacy.Range.size]]
  refine Eq.trans (congrArg _ (funext fun a => funext fun w' => ?_)) hk
  obtain ⟨o, u⟩ := a
  cases o <;> rfl

theorem ex_eqA {T u : TypeId} {x y : Operand} {xs ys : Array Value} {b : Bool} (hm : P.eqGuardType P.depth T = false) (hx : ev r x = .agg xs) (hy : ev r y = .agg ys) (he : Eqs P 10000 T (.agg xs) (.agg ys) b) :
    (execOp (ev r) ⟨d, .binOp .eql T x y u, ty, pos, aft, g⟩).run P w = .ok (.value (.bool b)) w := by
  simp only [execOp, hx, hy, Sem.run_bind, run_eqGuard_agg w .eql T x y xs ys hm, Result.andThen_ok, run_eql_struct w T xs ys, he w, Sem.run_pure]
theorem ex_neA {T u : TypeId} {x y : Operand} {xs ys : Array Value} {b : Bool} (hm : P.eqGuardType P.depth T = false) (hx : ev r x = .agg xs) (hy : ev r y = .agg ys) (he : Eqs P 10000 T (.agg xs) (.agg ys) b) :
    (execOp (ev r) ⟨d, .binOp .neq T x y u, ty, pos, aft, g⟩).run P w = .ok (.value (.bool (!b))) w := by
  simp only [execOp, hx, hy, Sem.run_bind, run_eqGuard_agg w .neq T x y xs ys hm, Result.andThen_ok, run_neq_struct w T xs ys, he w, Sem.run_pure]

end
end Go.Dor
