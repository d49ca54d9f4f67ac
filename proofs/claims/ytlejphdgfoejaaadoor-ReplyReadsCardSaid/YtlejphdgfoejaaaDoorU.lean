/- PARTS OF ARRAYS AS SLICES, COPIES, ARRAYS OUT OF SLICES. Plain lemmas over any program. -/
import Derived.Test.YtlejphdgfoejaaaDoorT
import Derived.Lib.Bytealg
namespace Go.Dor
open Go.RowKit (Below)

/-- a part of an array in a variable, as a slice -/
def bsv (b off n : Nat) (lo hi : Int) : Value := .slice (some ⟨b, if n = lo.toNat then off else off + lo.toNat, none⟩) (hi.toNat - lo.toNat) (n - lo.toNat)

def vcopy {α : Type} {n : Nat} (v : Vector α n) (lo : Int) (xs : List α) : Vector α n :=
  if h : lo.toNat + xs.length ≤ n then ⟨⟨v.toList.take lo.toNat ++ xs ++ v.toList.drop (lo.toNat + xs.length)⟩, by simp; omega⟩ else v

def vecOf {α : Type} (n : Nat) (dd : α) (l : List α) : Vector α n := ⟨⟨(List.range n).map fun i => l.getD i dd⟩, by simp⟩

section
variable {P : Program} {r : Env} {w w0 : World} {d : Option Tmp} {ty : TypeId} {pos : String} {aft : Array Edge} {g : Option (Nat × Bool)} {M S : Nat → Prop} {L : List Res} {α : Type} {l m : List α} {f : α → List Value} {v u : Value} {z i j : Nat}

theorem run_subP {T e : TypeId} {lo hi : Option Value} {a b : Int} {n g off : Nat} (hT : P.underlying T = some (.array n e)) (he : (P.info? e).map (·.size) = some 1)
    (hb : (Instr.sliceBounds false n n lo hi none).run P w = .ok (a.toNat, b.toNat, n) w) : (Instr.sliceAt T (.pointer (some ⟨g, off, none⟩)) lo hi none).run P w = .ok (bsv g off n a b) w := by
  obtain ⟨ii, hii, hs⟩ := Option.map_eq_some_iff.1 he
  simp only [Instr.sliceAt, Sem.run_bind, run_underlying hT, Result.andThen_ok, Instr.sureAddr, Sem.run_pure, hb, sizeOf, typeInfo, run_program, hii, hs, bsv, Nat.mul_one, add_lit]
  congr 2
  split <;> rfl

theorem ex_sliceLH {T e : TypeId} {x lo hi : Operand} {n b off : Nat} {k k' : IntKind} {a c : Int} (hT : P.underlying T = some (.array n e)) (he : (P.info? e).map (·.size) = some 1) (hx : ev r x = .pointer (some ⟨b, off, none⟩)) (hl : ev r lo = .int k a) (hh : ev r hi = .int k' c) (hc : 0 ≤ a ∧ a ≤ c ∧ c ≤ (n : Int)) :
    (execOp (ev r) ⟨d, .slice T x (some lo) (some hi) none, ty, pos, aft, g⟩).run P w = .ok (.value (bsv b off n a c)) w := by
  have h1 : 0 ≤ c := by omega
  have h2 : (c.toNat : Int) = c := by omega
  have := run_subP (P := P) (w := w) (lo := some (.int k a)) (hi := some (.int k' c)) (a := a) (b := c) (n := n) (g := b) (off := off) hT he (by simp [Instr.sliceBounds, Instr.sliceBound, asIntOf, hc, h1, h2])
  simp [execOp, hx, hl, hh, this]
theorem ex_sliceH {T e : TypeId} {x hi : Operand} {n b off : Nat} {k' : IntKind} {c : Int} (hT : P.underlying T = some (.array n e)) (he : (P.info? e).map (·.size) = some 1) (hx : ev r x = .pointer (some ⟨b, off, none⟩)) (hh : ev r hi = .int k' c) (hc : (0 : Int) ≤ 0 ∧ 0 ≤ c ∧ c ≤ (n : Int)) :
    (execOp (ev r) ⟨d, .slice T x none (some hi) none, ty, pos, aft, g⟩).run P w = .ok (.value (bsv b off n 0 c)) w := by
  have := run_subP (P := P) (w := w) (lo := none) (hi := some (.int k' c)) (a := 0) (b := c) (n := n) (g := b) (off := off) hT he (by simp [Instr.sliceBounds, Instr.sliceBound, asIntOf, hc])
  simp [execOp, hx, hh, this]
theorem ex_sliceL {T e : TypeId} {x lo : Operand} {n b off : Nat} {k : IntKind} {a : Int} (hT : P.underlying T = some (.array n e)) (he : (P.info? e).map (·.size) = some 1) (hx : ev r x = .pointer (some ⟨b, off, none⟩)) (hl : ev r lo = .int k a) (hc : 0 ≤ a ∧ a ≤ (n : Int) ∧ (n : Int) ≤ (n : Int)) :
    (execOp (ev r) ⟨d, .slice T x (some lo) none none, ty, pos, aft, g⟩).run P w = .ok (.value (bsv b off n a (n : Int))) w := by
  have := run_subP (P := P) (w := w) (lo := some (.int k a)) (hi := none) (a := a) (b := (n : Int)) (n := n) (g := b) (off := off) hT he (by simp [Instr.sliceBounds, Instr.sliceBound, asIntOf, hc])
  simp [execOp, hx, hl, this]
theorem ex_sliceA {T e : TypeId} {x : Operand} {n b off : Nat} (hT : P.underlying T = some (.array n e)) (he : (P.info? e).map (·.size) = some 1) (hx : ev r x = .pointer (some ⟨b, off, none⟩)) :
    (execOp (ev r) ⟨d, .slice T x none none none, ty, pos, aft, g⟩).run P w = .ok (.value (bsv b off n 0 (n : Int))) w := by
  have := run_subP (P := P) (w := w) (lo := none) (hi := none) (a := 0) (b := (n : Int)) (n := n) (g := b) (off := off) hT he (by simp [Instr.sliceBounds])
  simp [execOp, hx, this]

theorem rd_bs {t : TypeId} {s : List (List Value)} {n b off : Nat} {a c : Int} {x : Vector α n} {k : α → Value} {fz : Nat × Nat} (pre post : List (List Value)) (hb : w.heap[b]? = some (.cells (cells s) t fz)) (hs : s = pre ++ [x.toList.map k] ++ post) (ho : pre.flatten.length = off) (hc : 0 ≤ a ∧ a ≤ c ∧ c ≤ (n : Int)) :
    Rd w (bsv b off n a c) 1 ((sub_ x.toList a c).map fun y => [k y]) := by
  have hl : (sub_ x.toList a c).length = c.toNat - a.toNat := by simp [sub_]; omega
  refine ⟨fun u hu => by obtain ⟨_, _, rfl⟩ := List.mem_map.1 hu; rfl, ?_⟩
  refine .inr ⟨b, if n = a.toNat then off else off + a.toNat, n - a.toNat, cells s, t, fz, by rw [List.length_map, hl]; rfl, by rw [List.length_map, hl]; omega, hb, fun j u hj => ?_⟩
  have hjl : j < c.toNat - a.toNat := by have := (List.getElem?_eq_some_iff.1 hj).1; rw [flat1, List.length_map, hl] at this; exact this
  rw [flat1, List.getElem?_map] at hj
  have e1 : (if n = a.toNat then off else off + a.toNat) + j = off + (a.toNat + j) := by rw [if_neg (by omega)]; omega
  rw [e1]
  have e2 := flat_mid pre [x.toList.map k] post (a.toNat + j) (by simp; omega)
  have e3 : (cells s)[off + (a.toNat + j)]? = s.flatten[off + (a.toNat + j)]? := by simp [cells]
  rw [e3, hs, ← ho, e2]
  simp only [List.flatten_cons, List.flatten_nil, List.append_nil, List.getElem?_map]
  simp only [sub_, List.getElem?_drop, List.getElem?_take] at hj
  rw [if_pos (by omega)] at hj
  exact hj

theorem Hp.bs (H : Hp M S w0 w L) {t : TypeId} {s : List (List Value)} {n b off : Nat} {a c : Int} {x : Vector α n} {k : α → Value} (pre post : List (List Value)) (hi : L[i]? = some (.blk b t s)) (hs : s = pre ++ [x.toList.map k] ++ post) (ho : pre.flatten.length = off) (hc : 0 ≤ a ∧ a ≤ c ∧ c ≤ (n : Int)) :
    Rd w (bsv b off n a c) 1 ((sub_ x.toList a c).map fun y => [k y]) := rd_bs pre post (H.blk hi) hs ho hc

theorem lent_bs {B : List Res} {t : TypeId} {s : List (List Value)} {n b off : Nat} {a c : Int} {x : Vector α n} {k : α → Value} (pre post : List (List Value)) (hi : B[i]? = some (.blk b t s)) (hs : s = pre ++ [x.toList.map k] ++ post) (ho : pre.flatten.length = off) (hc : 0 ≤ a ∧ a ≤ c ∧ c ≤ (n : Int)) (hn : a.toNat < n) :
    Lent B (.ro (bsv b off n a c) 1 ((sub_ x.toList a c).map fun y => [k y])) :=
  .inr (.inr ⟨b, t, s, List.mem_of_getElem? hi, by simp [bsv, vfoot]; omega, fun _ hb => rd_bs pre post hb hs ho hc⟩)

/-! ### copies into an array -/
theorem run_copy {t tx e : TypeId} {a : Addr} {n c m : Nat} {x : Value} {news : List Value} {w' : World} (ht : P.underlying t = some (.slice e)) (he : (P.info? e).map (·.size) = some 1) (hs : Src P 1 tx x m news w) (hm : m ≤ n) (hst : (storeCells a news).run P w = .ok () w') :
    (Builtin.copy_ #[t, tx] ty #[.slice (some a) n c, x]).run P w = .ok (goInt m) w' := by
  obtain ⟨ii, hii, hsz⟩ := Option.map_eq_some_iff.1 he
  have e1 := hs.cells
  have e2 := hs.len w
  have e3 : Nat.min m n = m := Nat.min_eq_left hm
  simp [Builtin.copy_, run_underlying ht, e2, sizeOf, typeInfo, hii, hsz, e3, e1, hst]

theorem st_copyBs {t tx e bt : TypeId} {x y : Operand} {s : List (List Value)} {n b off : Nat} {a c : Int} {av : Vector α n} {k : α → Value} {xs : List α} {u : Value} (pre post : List (List Value)) (H : Hp M S w0 w L) (hi : L[i]? = some (.blk b bt s)) (hs : s = pre ++ [av.toList.map k] ++ post) (ho : pre.flatten.length = off) (hc : 0 ≤ a ∧ a ≤ c ∧ c ≤ (n : Int))
    (ht : P.underlying t = some (.slice e)) (he : (P.info? e).map (·.size) = some 1) (hsrc : Src P 1 tx u xs.length (xs.map k) w) (hx : ev r x = bsv b off n a c) (hy : ev r y = u) (hle : (xs.length : Int) ≤ c - a) :
    Step P ⟨d, .call { callee := .builtin .copy, args := #[x, y], argTypes := #[t, tx] }, ty, pos, aft, g⟩ r w fun v w' => v = .int .i64 xs.length ∧ Hp M S w0 w' (L.set i (.blk b bt (pre ++ [(vcopy av a xs).toList.map k] ++ post))) := by
  have hb := H.blk hi
  have hsz : (cells s).size = off + n + post.flatten.length := by
    rw [hs]; simp only [cells, List.size_toArray, List.flatten_append, List.length_append, ho]; simp
  have hlen : xs.length ≤ c.toNat - a.toNat := by omega
  have hva : (vcopy av a xs).toList = av.toList.take a.toNat ++ xs ++ av.toList.drop (a.toNat + xs.length) := by
    unfold vcopy; rw [dif_pos (by omega)]; rfl
  by_cases hx0 : xs.length = 0
  · have : xs = [] := List.eq_nil_of_length_eq_zero hx0
    subst this
    have hr := run_copy (P := P) (ty := ty) (a := ⟨b, if n = a.toNat then off else off + a.toNat, none⟩) (n := c.toNat - a.toNat) (c := n - a.toNat) (w' := w) ht he hsrc (by simp) (by simp [storeCells])
    refine .value (v := .int .i64 0) (w' := w) (by simp [execOp, hx, hy, resolve, invoke, builtin, bsv, hr, goInt]) ⟨rfl, ?_⟩
    have : vcopy av a [] = av := by
      apply Vector.toArray_inj.1; apply Array.toList_inj.1
      have h0 : (vcopy av a []).toList = av.toList := by rw [hva]; simp
      exact h0
    rw [this, ← hs]
    have hL : L.set i (.blk b bt s) = L := by
      apply List.ext_getElem?; intro q
      rw [List.getElem?_set]
      split
      · rename_i h; subst h; split
        · exact hi.symm
        · rename_i h; rw [List.getElem?_eq_none (by omega)]
      · rfl
    rw [hL]; exact H
  · have hst := run_storeCells_seg P b (off + a.toNat) bt (0, 0) (xs.map k) 0 (cells s) w hb (by simp) (by rw [hsz]; simp; omega) hsrc.one
    simp only [Nat.add_zero, List.length_map] at hst
    have e1 : ((cells s).toList.take (off + a.toNat) ++ xs.map k ++ (cells s).toList.drop (off + a.toNat + xs.length)) = (pre ++ [(vcopy av a xs).toList.map k] ++ post).flatten := by
      have e2 : (cells s).toList = pre.flatten ++ (av.toList.map k ++ post.flatten) := by rw [hs]; simp [cells]
      have hvl : (av.toList.map k).length = n := by simp
      rw [e2, hva, ← ho]
      simp only [List.flatten_append, List.flatten_cons, List.flatten_nil, List.append_nil, List.map_append, List.map_take, List.map_drop]
      rw [List.take_length_add_append, show pre.flatten.length + a.toNat + xs.length = pre.flatten.length + (a.toNat + xs.length) by omega, List.drop_length_add_append]
      rw [List.take_append_of_le_length (by omega), List.drop_append_of_le_length (by omega)]
      simp only [List.append_assoc]
    rw [e1] at hst
    have hr := run_copy (P := P) (ty := ty) (a := ⟨b, off + a.toNat, none⟩) (n := c.toNat - a.toNat) (c := n - a.toNat) ht he hsrc hlen hst
    obtain ⟨g1, g2⟩ := setRow_grown (cs' := cells (pre ++ [(vcopy av a xs).toList.map k] ++ post)) hb
    refine .value (v := .int .i64 xs.length) (w' := w.setRow b (cells (pre ++ [(vcopy av a xs).toList.map k] ++ post))) ?_ ⟨rfl, H.set hi rfl g1 _ g2 fun _ h => .inl h⟩
    have hne : n ≠ a.toNat := by omega
    simp [execOp, hx, hy, resolve, invoke, builtin, bsv, hne, hr, goInt, cells]

theorem src_rd1 {tx e' : TypeId} {k : α → Value} (hk : P.underlying tx = some (.slice e')) (h : Rd w v 1 (l.map fun y => [k y])) (h1 : ∀ a, (k a).oneCell' = true) : Src P 1 tx v l.length (l.map k) w := by
  have := src_of_rd hk h (One.enc (one1 h1))
  rwa [flat1, List.length_map] at this
theorem src_txt {tx : TypeId} {s : List UInt8} (hk : P.underlying tx = some .string) : Src P 1 tx (sv s) (numsOf s).length ((numsOf s).map (Value.int .u8)) w := by
  have := Src.ofString w hk (ByteArray.mk s.toArray)
  rw [bytes_flat, flat1, sv_size] at this
  simpa [numsOf, sv] using this

/-! ### an array out of a slice -/
theorem ex_toArr {T e : TypeId} {x : Operand} {n : Nat} {w1 : World} (hrd : Rd w1 v z (l.map f)) (hT : P.underlying T = some (.array n e)) (hx : ev r x = v) (hn : n ≤ l.length) (h0 : 0 < n) :
    (execOp (ev r) ⟨d, .sliceToArrayPointer T x, ty, pos, aft, g⟩).run P w = .ok (.value (eptr v 0)) w := by
  rcases hrd.2 with ⟨_, hh⟩ | ⟨g', off, cap, cur, t, fz, rfl, h1, h2, h3⟩
  · simp only [List.map_eq_nil_iff] at hh; subst hh; simp at hn; omega
  · have : ¬ l.length < n := by omega
    simp [execOp, hx, Instr.arrayAt, run_underlying hT, this, eptr, add_lit]

theorem ex_ldArr {T : TypeId} {x : Operand} {n : Nat} {k : α → Value} (dd : α) (hrd : Rd w v 1 (l.map fun y => [k y])) (hT : aggOf P T = some n) (hx : ev r x = eptr v 0) (hn : n ≤ l.length) (h0 : 0 < n) :
    (execOp (ev r) ⟨d, .load T x, ty, pos, aft, g⟩).run P w = .ok (.value (ag [(vecOf n dd l).toList.map k])) w := by
  rcases hrd.2 with ⟨_, hh⟩ | ⟨g', off, cap, cur, t, fz, rfl, h1, h2, h3⟩
  · simp only [List.map_eq_nil_iff] at hh; subst hh; simp at hn; omega
  · simp only [eptr, add_lit, Nat.add_zero] at hx
    refine ex_load hx ?_
    obtain ⟨e1, e2⟩ := agg_spec (w := w) hT
    have hl := run_loadCells_list (P := P) w ⟨g', off, none⟩ ((vecOf n dd l).toList.map k) fun j u hj => by
      rw [add_lit, cell_of_row w g' _ cur t fz h2]
      refine h3 j u ?_
      rw [flat1]
      have hjl : j < n := by simpa using (List.getElem?_eq_some_iff.1 hj).1
      have hjl2 : j < l.length := by omega
      rw [show (vecOf n dd l).toList = (List.range n).map fun i => l.getD i dd from rfl] at hj
      simp only [List.getElem?_map, List.getElem?_range hjl, Option.map_some] at hj
      rw [List.getElem?_map, List.getElem?_eq_getElem hjl2, ← hj]
      simp [List.getElem?_eq_getElem hjl2]
    simp only [List.length_map, Vector.length_toList] at hl
    simp [loadVar, Sem.run_bind, e1, e2, hl, ag, cells]

theorem mem_nil {B : List Res} : ∀ x ∈ ([] : List Res), x ∈ B := by simp
theorem mem_cons {B R : List Res} {y : Res} {i : Nat} (h : B[i]? = some y) (hR : ∀ x ∈ R, x ∈ B) : ∀ x ∈ y :: R, x ∈ B := fun x hx => by
  rcases List.mem_cons.1 hx with rfl | hx
  · exact List.mem_of_getElem? h
  · exact hR x hx

end
end Go.Dor
namespace Go.Dor
/-! ### functions without a body -/
def indexByteOf (a : List UInt8) (c : Int) : Int := Lib.indexByte a c.toNat.toUInt8
def countByteOf (a : List UInt8) (c : Int) : Int := ((Lib.countByte a c.toNat.toUInt8 : Nat) : Int)
/-- functions without a body, by their kind -/
def externFn : Nat → (Array Value → Sem Value)
  | 1 => Extern.BytealgCount.count
  | _ => Extern.BytealgIndexByte.indexByte
structure ExternOf (P : Program) (f : FuncId) (e : Array Value → Sem Value) : Prop where
  fn : ∃ fn, P.funcs[f]? = some fn ∧ (fn.name == "runtime.NumGoroutine") = false ∧ fn.body.isNone = true ∧ Extern.findNext fn = none ∧ Extern.find fn = some e

theorem ex_indexByte {P : Program} {r : Env} {w : World} {d : Option Tmp} {ty : TypeId} {pos : String} {aft : Array Edge} {g : Option (Nat × Bool)} {x y z : Operand} {f : FuncId} {a : List UInt8} {c : Int} {at_ : Array TypeId}
    (hE : ExternOf P f Extern.BytealgIndexByte.indexByte) (hx : ev r x = .func (.func f) #[] #[]) (hy : ev r y = sv a) (hz : ev r z = .int .u8 c) :
    (execOp (ev r) ⟨d, .call { callee := .value x, args := #[y, z], argTypes := at_ }, ty, pos, aft, g⟩).run P w = .ok (.value (.int .i64 (indexByteOf a c))) w := by
  obtain ⟨fn, h1, h2, h3, h4, h5⟩ := hE.fn
  have h := run_callFunc_extern (P := P) h1 h2 h3 h4 h5 #[sv a, .int .u8 c] w
  have h6 := Lib.run_indexByteString (P := P) (ByteArray.mk a.toArray) c w
  simp only [sv] at hy h
  rw [h6] at h
  simp [execOp, resolve, Deferred.ofValue, hx, hy, hz, invoke, h, indexByteOf]
theorem ex_countByte {P : Program} {r : Env} {w : World} {d : Option Tmp} {ty : TypeId} {pos : String} {aft : Array Edge} {g : Option (Nat × Bool)} {x y z : Operand} {f : FuncId} {a : List UInt8} {c : Int} {at_ : Array TypeId}
    (hE : ExternOf P f Extern.BytealgCount.count) (hx : ev r x = .func (.func f) #[] #[]) (hy : ev r y = sv a) (hz : ev r z = .int .u8 c) :
    (execOp (ev r) ⟨d, .call { callee := .value x, args := #[y, z], argTypes := at_ }, ty, pos, aft, g⟩).run P w = .ok (.value (.int .i64 (countByteOf a c))) w := by
  obtain ⟨fn, h1, h2, h3, h4, h5⟩ := hE.fn
  have h := run_callFunc_extern (P := P) h1 h2 h3 h4 h5 #[sv a, .int .u8 c] w
  have h6 := Lib.run_countString (P := P) (ByteArray.mk a.toArray) c w
  simp only [sv] at hy h
  rw [h6] at h
  simp [execOp, resolve, Deferred.ofValue, hx, hy, hz, invoke, h, countByteOf]
end Go.Dor
namespace Go.Dor
/-! ### a guard that was itself passed over -/
section
variable {P : Program} {n : Nat} {ops : Array Oper} {r : Env} {w : World} {K : Env → World → Prop}
theorem Wl.gund {d g t : Nat} {c : Bool} {op : Op} {ty : TypeId} {pos : String} {aft : Array Edge} {rest : List Oper} (hd : d < n)
    (hg : (ops[g]?).bind (·.dst) = some t) (hb : r t = undef) (k : Wl P n ops K rest (put r d undef) w) : Wl P n ops K (⟨some d, op, ty, pos, aft, some (g, c)⟩ :: rest) r w :=
  ⟨⟨fun x hx => by cases hx; exact hd, by simp only [wantedE, hg, hb, undef]; exact k.out⟩⟩
end
end Go.Dor
namespace Go.Dor
theorem Rd.one {w : World} {v : Value} {z : Nat} {xs : List (List Value)} (h : Rd w v z xs) : v.oneCell' = true := by
  obtain ⟨a, c, rfl, _⟩ := h.slice; rfl
theorem Rd.cells1 {w : World} {v : Value} {z : Nat} {xs : List (List Value)} (h : Rd w v z xs) : v.cells = cells [[v]] := by
  obtain ⟨a, c, rfl, _⟩ := h.slice; rfl

/-! ### an array of which some elements are said -/
def bparts {α : Type} (n : Nat) (z : α) (ps : List (Nat × α)) : Vector α n := ps.foldl (fun v x => vset v (x.1 : Int) x.2) (Vector.replicate n z)
section
variable {P : Program} {r : Env} {w : World} {d : Option Tmp} {ty : TypeId} {pos : String} {aft : Array Edge} {g : Option (Nat × Bool)}
theorem ex_buildP {α : Type} {T e : TypeId} {m : Nat} {parts : List (Nat × Operand)} {ps : List (Nat × α)} {f : α → Value} {z0 : α} (hu : P.underlying T = some (.array m e)) (hz : zeroOf P T = some (cells [(Vector.replicate m z0).toList.map f])) (he : (P.info? e).map (·.size) = some 1)
    (hv : parts.map (fun x => (x.1, ev r x.2)) = ps.map (fun x => (x.1, f x.2))) (_h : True = True) (hm : ∀ x ∈ ps.map (·.1), x < m) (h1 : ∀ a, (f a).oneCell' = true) :
    (execOp (ev r) ⟨d, .build T parts.toArray, ty, pos, aft, g⟩).run P w = .ok (.value (ag [(bparts m z0 ps).toList.map f])) w := by
  obtain ⟨zv, h2, h3⟩ := Option.map_eq_some_iff.1 hz
  obtain ⟨i, hi, h4⟩ := Option.bind_eq_some_iff.1 h2
  obtain ⟨ie, hie, hs⟩ := Option.map_eq_some_iff.1 he
  have key : ∀ (ps : List (Nat × α)) (v : Vector α m), (∀ x ∈ ps.map (·.1), x < m) →
      Instr.fill (fun i => some (i * 1, 1)) (cells [v.toList.map f]) (ps.map fun x => (x.1, f x.2)) = some (cells [(ps.foldl (fun v x => vset v (x.1 : Int) x.2) v).toList.map f]) := by
    intro ps
    induction ps with
    | nil => intro v _; rfl
    | cons x ps ih =>
      intro v hm
      have hx : x.1 < m := hm x.1 (by simp)
      have hc : (f x.2).cells = #[f x.2] := by have := h1 x.2; cases hh : f x.2 <;> rw [hh] at this <;> first | rfl | cases this
      rw [List.map_cons]
      unfold Instr.fill
      simp only [hc, Nat.mul_one]
      rw [if_neg (by simp [cells]; omega)]
      have e5 : (#[f x.2] : Array Value).zipIdx.foldl (fun cs (y : Value × Nat) => cs.setIfInBounds (x.1 + y.2) y.1) (cells [v.toList.map f]) = cells [(vset v (x.1 : Int) x.2).toList.map f] := by
        have : (vset v (x.1 : Int) x.2).toList = v.toList.set x.1 x.2 := rfl
        rw [this]
        simp [cells, List.map_set]
      rw [e5]
      have := ih (vset v (x.1 : Int) x.2) (fun y hy => hm y (by simp at hy ⊢; exact .inr hy))
      simp only [Nat.mul_one] at this
      exact this
  have hk := key ps (Vector.replicate m z0) hm
  have e6 : (parts.toArray.map fun (x : Nat × Operand) => (x.1, ev r x.2)).toList = ps.map (fun x => (x.1, f x.2)) := by simp [← hv]
  simp only [execOp, Instr.build, Sem.run_bind, zeroValue, typeInfo, run_program, Result.andThen_ok, hi, h4, Sem.run_pure, run_underlying hu, h3, sizeOf, hie, hs]
  rw [show (Array.map (fun (x : Nat × Operand) => match x with | (i, x) => (i, ev r x)) parts.toArray) = (parts.toArray.map fun (x : Nat × Operand) => (x.1, ev r x.2)) from rfl, e6, hk]
  simp [ag, bparts]

/-! ### a slice held against nil -/
def isNilV : Value → Bool
  | .slice a _ _ => a.isNone
  | _ => false
end
end Go.Dor
namespace Go.Dor
/-- the way on, by name alone: what stands behind does not weigh on the goals within -/
theorem Wc.cutQ {P : Program} {n : Nat} {r : Env} {w : World} {c : Code} {Q : Post} (J : Env → World → Prop)
    (h : ∀ Q' : Post, (∀ r w, J r w → Q'.normal r w) → (∀ i r w, Q.exit i r w → Q'.exit i r w) → (∀ r w, Q.ret r w → Q'.ret r w) → Wc P n c Q' r w) (k : ∀ r w, J r w → Q.normal r w) : Wc P n c Q r w :=
  (h { Q with normal := J } (fun _ _ h => h) (fun _ _ _ h => h) (fun _ _ h => h)).mono k (fun _ _ _ h => h) (fun _ _ h => h)
end Go.Dor
