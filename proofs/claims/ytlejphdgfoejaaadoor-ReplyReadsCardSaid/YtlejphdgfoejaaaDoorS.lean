/- SLICES: read, built, appended to, turned into texts and back. Plain lemmas over any program. -/
import Derived.Test.YtlejphdgfoejaaaDoorG
import Derived.Deep.AppendSrc
import Derived.Lib.ConvBytes
namespace Go.Dor
open Go.RowKit (Below)

/-! ### what is read -/
def Res.reads : Res → Option (Value × Nat × List (List Value))
  | .own v _ z xs => some (v, z, xs)
  | .ro v z xs => some (v, z, xs)
  | _ => none

def elemOf (P : Program) (e : TypeId) : Option (Nat × Nat) :=
  (P.info? e).bind fun i => i.zero.bind fun v => if v.cells.size = i.size ∧ 0 < i.size ∧ 0 < i.bytes then some (i.size, i.bytes) else none

/-- where an element lies -/
def eptr (v : Value) (n : Nat) : Value :=
  match v with
  | .slice (some a) _ _ => .pointer (some (a.add n))
  | _ => undef
/-- a part of a slice -/
def slv (v : Value) (lo hi : Int) (z : Nat) : Value :=
  match v with
  | .slice a _ cap => .slice (if cap = lo.toNat then a else a.map (·.add (lo.toNat * z))) (hi.toNat - lo.toNat) (cap - lo.toNat)
  | _ => undef

def lset {α : Type} (l : List α) (i : Int) (x : α) : List α := l.set i.toNat x
def bytesOf (l : List Int) : List UInt8 := l.map fun n => UInt8.ofNat n.toNat
def numsOf (a : List UInt8) : List Int := a.map fun b => (b.toNat : Int)

theorem elem_spec {P : Program} {e : TypeId} {z b : Nat} (h : elemOf P e = some (z, b)) : ∃ i v, P.info? e = some i ∧ i.zero = some v ∧ i.size = z ∧ i.bytes = b ∧ v.cells.size = z ∧ 0 < z ∧ 0 < b := by
  obtain ⟨i, hi, h⟩ := Option.bind_eq_some_iff.1 h
  obtain ⟨v, hv, h⟩ := Option.bind_eq_some_iff.1 h
  split at h
  · rename_i hc
    simp only [Option.some.injEq, Prod.mk.injEq] at h
    obtain ⟨rfl, rfl⟩ := h
    exact ⟨i, v, hi, hv, rfl, rfl, hc.1, hc.2.1, hc.2.2⟩
  · cases h

section
variable {M S : Nat → Prop} {w0 w w' : World} {L : List Res}

theorem Hp.rd (H : Hp M S w0 w L) {i : Nat} {x : Res} {v : Value} {z : Nat} {xs : List (List Value)} (hi : L[i]? = some x) (hr : x.reads = some (v, z, xs)) : Rd w v z xs := by
  have := H.holds i x hi
  cases x with
  | own v' t' z' xs' => simp only [Res.reads, Option.some.injEq, Prod.mk.injEq] at hr; obtain ⟨rfl, rfl, rfl⟩ := hr; exact Own.rd this
  | ro v' z' xs' => simp only [Res.reads, Option.some.injEq, Prod.mk.injEq] at hr; obtain ⟨rfl, rfl, rfl⟩ := hr; exact this
  | blk => cases hr
  | emp => cases hr

theorem Rd.slice {v : Value} {z : Nat} {xs : List (List Value)} (h : Rd w v z xs) : ∃ a c, v = .slice a xs.length c ∧ xs.length ≤ c := by
  rcases h.2 with ⟨⟨a, rfl⟩, rfl⟩ | ⟨g, off, cap, cur, t, fz, rfl, h1, _⟩
  · exact ⟨a, 0, rfl, Nat.le_refl _⟩
  · exact ⟨_, cap, rfl, h1⟩

theorem flat_len {z : Nat} : ∀ {xs : List (List Value)}, (∀ x ∈ xs, x.length = z) → xs.flatten.length = xs.length * z
  | [], _ => by simp
  | x :: xs, h => by
    rw [List.flatten_cons, List.length_append, flat_len (fun y hy => h y (by simp [hy])), h x (by simp), List.length_cons, Nat.add_mul, Nat.one_mul, Nat.add_comm]

/-- element j, cell k, in the flat row -/
theorem flat_at {z : Nat} : ∀ {xs : List (List Value)} (_ : ∀ x ∈ xs, x.length = z) {j k : Nat} {x : List Value}, xs[j]? = some x → k < z → xs.flatten[j * z + k]? = x[k]?
  | [], _, _, _, _, h, _ => by simp at h
  | y :: ys, hl, 0, k, x, h, hk => by
    simp only [List.getElem?_cons_zero, Option.some.injEq] at h
    subst h
    rw [List.flatten_cons, Nat.zero_mul, Nat.zero_add, List.getElem?_append_left (by rw [hl y (by simp)]; exact hk)]
  | y :: ys, hl, j + 1, k, x, h, hk => by
    rw [List.flatten_cons, List.getElem?_append_right (by rw [hl y (by simp), Nat.add_mul]; omega), hl y (by simp)]
    rw [show (j + 1) * z + k - z = j * z + k by rw [Nat.add_mul]; omega]
    exact flat_at (fun u hu => hl u (by simp [hu])) (by simpa using h) hk

/-- where an element lies, and what stands there -/
theorem Rd.at {v : Value} {z : Nat} {xs : List (List Value)} (h : Rd w v z xs) {j : Nat} {x : List Value} (hj : xs[j]? = some x) : ∃ g off, (∀ n, eptr v n = .pointer (some ⟨g, off + n, none⟩)) ∧ ∀ k, k < z → w.cell? ⟨g, off + (j * z + k), none⟩ = x[k]? := by
  rcases h.2 with ⟨_, rfl⟩ | ⟨g, off, cap, cur, t, fz, rfl, h1, h2, h3⟩
  · simp at hj
  · refine ⟨g, off, fun n => by simp [eptr, add_lit], fun k hk => ?_⟩
    have hx : x.length = z := h.1 x (List.mem_of_getElem? hj)
    have e := flat_at h.1 hj hk
    have : k < x.length := by omega
    rw [List.getElem?_eq_getElem this] at e ⊢
    rw [cell_of_row w g _ cur t fz h2]
    exact h3 _ _ e

end

section
variable {P : Program} {r : Env} {w w0 : World} {d : Option Tmp} {ty : TypeId} {pos : String} {aft : Array Edge} {g : Option (Nat × Bool)} {M S : Nat → Prop} {L : List Res} {α : Type} {l m : List α} {f : α → List Value} {v u : Value} {z i j : Nat} {q q' : Res}

/-! ### length, elements -/
theorem ex_lenS {at1 e : TypeId} {x : Operand} {w1 : World} (hrd : Rd w1 v z (l.map f)) (ht : P.underlying at1 = some (.slice e)) (hx : ev r x = v) :
    (execOp (ev r) ⟨d, .call { callee := .builtin .len, args := #[x], argTypes := #[at1] }, ty, pos, aft, g⟩).run P w = .ok (.value (.int .i64 l.length)) w := by
  obtain ⟨a, c, rfl, _⟩ := hrd.slice
  simp [execOp, hx, resolve, invoke, builtin, Builtin.len_, run_underlying ht, goInt]

theorem at_get {dd : α} {n : Int} (h0 : 0 ≤ n) (h1 : n < (l.length : Int)) : l[n.toNat]? = some (at_ dd l n) := by
  have : n.toNat < l.length := by omega
  simp [at_, this]

theorem ex_ixS {T e : TypeId} {x y : Operand} {k : IntKind} {n : Int} {w1 : World} (hrd : Rd w1 v z (l.map f)) (hT : P.underlying T = some (.slice e)) (he : (P.info? e).map (·.size) = some z) (hx : ev r x = v) (hy : ev r y = .int k n) (hc : 0 ≤ n ∧ n < (l.length : Int)) :
    (execOp (ev r) ⟨d, .indexAddr T x y, ty, pos, aft, g⟩).run P w = .ok (.value (eptr v (n.toNat * z))) w := by
  obtain ⟨ii, hii, hs⟩ := Option.map_eq_some_iff.1 he
  have hlt : n.toNat < l.length := by omega
  rcases hrd.2 with ⟨_, h0⟩ | ⟨g', off, cap, cur, t, fz, rfl, h1, _⟩
  · simp only [List.map_eq_nil_iff] at h0
    subst h0
    simp at hlt
  · have hc2 : 0 ≤ n ∧ n < ((l.map f).length : Int) := by simpa using hc
    simp only [List.length_map] at hc2 hx
    simp [execOp, hx, hy, Instr.indexAt, asIntOf, run_underlying hT, hc.1, hc.2, sizeOf, typeInfo, hii, hs, eptr]

theorem ex_fieldS {T : TypeId} {x : Operand} {fi fo fz n : Nat} {n0 : Int} {w1 : World} (hrd : Rd w1 v z (l.map f)) (hc : 0 ≤ n0 ∧ n0 < (l.length : Int)) (hT : fieldOf P T fi = some (fo, fz + 1)) (hx : ev r x = eptr v n) :
    (execOp (ev r) ⟨d, .fieldAddr T x fi, ty, pos, aft, g⟩).run P w = .ok (.value (eptr v (n + fo))) w := by
  have hlt : n0.toNat < l.length := by omega
  obtain ⟨g', off, h1, _⟩ := hrd.at (j := n0.toNat) (x := f (l[n0.toNat]'hlt)) (by simp [hlt])
  rw [h1] at hx
  rw [h1]
  exact ex_fieldAddr hT hx (by omega)

theorem ex_ldE {T : TypeId} {x : Operand} {n : Int} {k : Nat} {u : Value} (dd : α) (pre post : List (List Value)) (hrd : Rd w v z (l.map f)) (hT : isScal P T = true) (hc : 0 ≤ n ∧ n < (l.length : Int)) (hx : ev r x = eptr v (n.toNat * z + k))
    (hf : f (at_ dd l n) = (pre ++ [[u]] ++ post).flatten) (ho : pre.flatten.length = k) : (execOp (ev r) ⟨d, .load T x, ty, pos, aft, g⟩).run P w = .ok (.value u) w := by
  have hat : (l.map f)[n.toNat]? = some (f (at_ dd l n)) := by rw [List.getElem?_map, at_get hc.1 hc.2]; rfl
  have hlen := hrd.1 _ (List.mem_of_getElem? hat)
  obtain ⟨g', off, h1, h2⟩ := hrd.at hat
  rw [h1] at hx
  refine ex_load hx ?_
  have hk : k < z := by rw [← hlen, hf, ← ho]; simp [List.flatten_append]
  have hcell := h2 k hk
  rw [hf] at hcell
  have := flat_mid pre [[u]] post 0 (by simp)
  rw [Nat.add_zero, ho] at this
  rw [this] at hcell
  obtain ⟨e1, _⟩ := scal_spec (w := w) hT
  simp [loadVar, Sem.run_bind, e1, hcell]

theorem ex_ldEA {T : TypeId} {x : Operand} {n : Int} {k N : Nat} (dd : α) (pre mid post : List (List Value)) (hrd : Rd w v z (l.map f)) (hT : aggOf P T = some N) (hc : 0 ≤ n ∧ n < (l.length : Int)) (hx : ev r x = eptr v (n.toNat * z + k))
    (hf : f (at_ dd l n) = (pre ++ mid ++ post).flatten) (ho : pre.flatten.length = k) (hN : mid.flatten.length = N) : (execOp (ev r) ⟨d, .load T x, ty, pos, aft, g⟩).run P w = .ok (.value (ag mid)) w := by
  have hat : (l.map f)[n.toNat]? = some (f (at_ dd l n)) := by rw [List.getElem?_map, at_get hc.1 hc.2]; rfl
  have hlen := hrd.1 _ (List.mem_of_getElem? hat)
  obtain ⟨g', off, h1, h2⟩ := hrd.at hat
  rw [h1] at hx
  refine ex_load hx ?_
  obtain ⟨e1, e2⟩ := agg_spec (w := w) hT
  have hl := run_loadCells_list (P := P) w ⟨g', off + (n.toNat * z + k), none⟩ mid.flatten fun j u hj => by
    have hjl : j < mid.flatten.length := (List.getElem?_eq_some_iff.1 hj).1
    have hk : k + j < z := by
      rw [← hlen, hf, ← ho]; simp only [List.flatten_append, List.length_append]; omega
    have hcell := h2 (k + j) hk
    rw [hf, ← ho, flat_mid pre mid post j hjl, ho] at hcell
    rw [add_lit, show off + (n.toNat * z + k) + j = off + (n.toNat * z + (k + j)) by omega, hcell]; exact hj
  rw [hN] at hl
  simp [loadVar, Sem.run_bind, e1, e2, hl, ag, cells]

/-! ### a part of a slice -/
theorem sub_map (f : α → List Value) (lo hi : Int) : (sub_ l lo hi).map f = sub_ (l.map f) lo hi := by simp [sub_, List.map_drop, List.map_take]

theorem Rd.sub {v : Value} {xs : List (List Value)} (h : Rd w v z xs) {lo hi : Int} (h0 : 0 ≤ lo) (h1 : lo ≤ hi) (h2 : hi ≤ (xs.length : Int)) : Rd w (slv v lo hi z) z (sub_ xs lo hi) := by
  have hl : (sub_ xs lo hi).length = hi.toNat - lo.toNat := by simp [sub_]; omega
  refine ⟨fun x hx => h.1 x (List.mem_of_mem_take (List.mem_of_mem_drop hx)), ?_⟩
  rcases h.2 with ⟨⟨a, rfl⟩, rfl⟩ | ⟨g, off, cap, cur, t, fz, rfl, hc, hg, hx⟩
  · have : lo = 0 ∧ hi = 0 := by simp at h2; omega
    obtain ⟨rfl, rfl⟩ := this
    exact .inl ⟨⟨a, by simp [slv]⟩, by simp [sub_]⟩
  · by_cases he : cap = lo.toNat
    · have : lo.toNat = xs.length ∧ hi.toNat = xs.length := by omega
      refine .inl ⟨⟨some ⟨g, off, none⟩, ?_⟩, List.eq_nil_of_length_eq_zero (by omega)⟩
      simp [slv, he]; omega
    · refine .inr ⟨g, off + lo.toNat * z, cap - lo.toNat, cur, t, fz, by simp [slv, he, hl, add_lit], by rw [hl]; omega, hg, fun j x hj => ?_⟩
      have e : (sub_ xs lo hi).flatten = (xs.take hi.toNat).flatten.drop (lo.toNat * z) := by
        have e1 : xs.take hi.toNat = (xs.take hi.toNat).take lo.toNat ++ (xs.take hi.toNat).drop lo.toNat := (List.take_append_drop ..).symm
        have e2 : ((xs.take hi.toNat).take lo.toNat).flatten.length = lo.toNat * z := by
          rw [flat_len (z := z) (fun x hx => h.1 x (List.mem_of_mem_take (List.mem_of_mem_take hx)))]
          congr 1; simp; omega
        conv => rhs; rw [e1, List.flatten_append]
        rw [List.drop_left' e2]; rfl
      rw [e, List.getElem?_drop] at hj
      have e3 : (xs.take hi.toNat).flatten = xs.flatten.take (hi.toNat * z) := by
        have e1 : xs = xs.take hi.toNat ++ xs.drop hi.toNat := (List.take_append_drop ..).symm
        have e2 : (xs.take hi.toNat).flatten.length = hi.toNat * z := by
          rw [flat_len (z := z) (fun x hx => h.1 x (List.mem_of_mem_take hx))]
          congr 1; simp; omega
        conv => rhs; rw [e1, List.flatten_append]
        rw [List.take_left' e2]
      rw [e3, List.getElem?_take] at hj
      split at hj
      · rw [Nat.add_assoc]; exact hx _ _ hj
      · cases hj

theorem foot_sub {v : Value} {lo hi : Int} {z b : Nat} (h : vfoot (slv v lo hi z) = some b) : vfoot v = some b := by
  cases v with
  | slice a n cap =>
    cases a with
    | none => simp [slv, vfoot] at h
    | some a =>
      simp only [slv, Option.map_some] at h
      split at h
      · rename_i he; simp [vfoot, he] at h
      · rename_i he
        simp only [vfoot] at h ⊢
        split at h
        · cases h
        · rw [if_neg (by omega)]
          rw [← h]
          congr 1
          unfold Addr.add; split <;> rfl
  | _ => simp [slv, vfoot, undef] at h

theorem Hp.sub (H : Hp M S w0 w L) {v : Value} {lo hi : Int} (hi' : L[i]? = some (.ro v z (l.map f))) (hc : 0 ≤ lo ∧ lo ≤ hi ∧ hi ≤ (l.length : Int)) : Hp M S w0 w (L ++ [.ro (slv v lo hi z) z ((sub_ l lo hi).map f)]) := by
  rw [sub_map]
  refine H.add _ ((H.ro hi').sub hc.1 hc.2.1 (by simpa using hc.2.2)) (fun h => by cases h) (fun b hb => H.seen i _ hi' b (foot_sub hb)) fun k y hy hmm b hb hyb => ?_
  by_cases hk : k = i
  · subst hk
    have := Option.some.inj (hi'.symm.trans hy)
    subst this
    rcases hmm with h | h <;> cases h
  · exact H.apart k i y _ hy hi' hk (by rcases hmm with h | h; exact .inl h; cases h) b hb (foot_sub hyb)

theorem run_sub {T e : TypeId} {lo hi : Option Value} {i j : Int} {n cap : Nat} {a : Option Addr} (hT : P.underlying T = some (.slice e)) (he : (P.info? e).map (·.size) = some z)
    (hb : (Instr.sliceBounds true n cap lo hi none).run P w = .ok (i.toNat, j.toNat, cap) w) : (Instr.sliceAt T (.slice a n cap) lo hi none).run P w = .ok (slv (.slice a n cap) i j z) w := by
  obtain ⟨ii, hii, hs⟩ := Option.map_eq_some_iff.1 he
  simp [Instr.sliceAt, Instr.slice, run_underlying hT, hb, sizeOf, typeInfo, hii, hs, slv]

theorem ex_subSLH {T e : TypeId} {x lo hi : Operand} {k k' : IntKind} {a b : Int} {w1 : World} (hrd : Rd w1 v z (l.map f)) (hT : P.underlying T = some (.slice e)) (he : (P.info? e).map (·.size) = some z) (hx : ev r x = v) (hl : ev r lo = .int k a) (hh : ev r hi = .int k' b)
    (hc : 0 ≤ a ∧ a ≤ b ∧ b ≤ (l.length : Int)) : (execOp (ev r) ⟨d, .slice T x (some lo) (some hi) none, ty, pos, aft, g⟩).run P w = .ok (.value (slv v a b z)) w := by
  obtain ⟨ad, c, rfl, hle⟩ := hrd.slice
  simp only [List.length_map] at hle hx
  have h1 : 0 ≤ b := by omega
  have h2 : (b.toNat : Int) = b := by omega
  have h3 : b ≤ (c : Int) := by omega
  have := run_sub (P := P) (w := w) (lo := some (.int k a)) (hi := some (.int k' b)) (i := a) (j := b) (n := l.length) (cap := c) (a := ad) hT he (by simp [Instr.sliceBounds, Instr.sliceBound, asIntOf, hc, h1, h2, h3])
  simp [execOp, hx, hl, hh, this]
theorem ex_subSH {T e : TypeId} {x hi : Operand} {k' : IntKind} {b : Int} {w1 : World} (hrd : Rd w1 v z (l.map f)) (hT : P.underlying T = some (.slice e)) (he : (P.info? e).map (·.size) = some z) (hx : ev r x = v) (hh : ev r hi = .int k' b)
    (hc : (0 : Int) ≤ 0 ∧ 0 ≤ b ∧ b ≤ (l.length : Int)) : (execOp (ev r) ⟨d, .slice T x none (some hi) none, ty, pos, aft, g⟩).run P w = .ok (.value (slv v 0 b z)) w := by
  obtain ⟨ad, c, rfl, hle⟩ := hrd.slice
  simp only [List.length_map] at hle hx
  have h3 : b ≤ (c : Int) := by omega
  have := run_sub (P := P) (w := w) (lo := none) (hi := some (.int k' b)) (i := 0) (j := b) (n := l.length) (cap := c) (a := ad) hT he (by simp [Instr.sliceBounds, Instr.sliceBound, asIntOf, hc, h3])
  simp [execOp, hx, hh, this]
theorem ex_subSL {T e : TypeId} {x lo : Operand} {k : IntKind} {a : Int} {w1 : World} (hrd : Rd w1 v z (l.map f)) (hT : P.underlying T = some (.slice e)) (he : (P.info? e).map (·.size) = some z) (hx : ev r x = v) (hl : ev r lo = .int k a)
    (hc : 0 ≤ a ∧ a ≤ (l.length : Int) ∧ (l.length : Int) ≤ (l.length : Int)) : (execOp (ev r) ⟨d, .slice T x (some lo) none none, ty, pos, aft, g⟩).run P w = .ok (.value (slv v a (l.length : Int) z)) w := by
  obtain ⟨ad, c, rfl, hle⟩ := hrd.slice
  simp only [List.length_map] at hle hx
  have := run_sub (P := P) (w := w) (lo := some (.int k a)) (hi := none) (i := a) (j := (l.length : Int)) (n := l.length) (cap := c) (a := ad) hT he (by simp [Instr.sliceBounds, Instr.sliceBound, asIntOf, hc])
  simp [execOp, hx, hl, this]
theorem ex_subSA {T e : TypeId} {x : Operand} {w1 : World} (hrd : Rd w1 v z (l.map f)) (hT : P.underlying T = some (.slice e)) (he : (P.info? e).map (·.size) = some z) (hx : ev r x = v)
    : (execOp (ev r) ⟨d, .slice T x none none none, ty, pos, aft, g⟩).run P w = .ok (.value (slv v 0 (l.length : Int) z)) w := by
  obtain ⟨ad, c, rfl, hle⟩ := hrd.slice
  simp only [List.length_map] at hle hx
  have := run_sub (P := P) (w := w) (lo := none) (hi := none) (i := 0) (j := (l.length : Int)) (n := l.length) (cap := c) (a := ad) hT he (by simp [Instr.sliceBounds])
  simp [execOp, hx, this]

end
end Go.Dor
