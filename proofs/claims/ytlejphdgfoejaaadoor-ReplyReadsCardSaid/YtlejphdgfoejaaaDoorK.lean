/- WHAT THE ABSTRACT MACHINE'S VALUES STAND FOR IN MEMORY; how that is kept. Plain lemmas over any program. -/
import Derived.Test.YtlejphdgfoejaaaDoorJ
namespace Go.Dor
open Go.RowKit (Below)

def Al2 {α β : Type} (R : α → β → Prop) : List α → List β → Prop
  | [], [] => True
  | x :: xs, y :: ys => R x y ∧ Al2 R xs ys
  | _, _ => False

section
variable {α β : Type} {R R' : α → β → Prop}
theorem Al2.mono (h : ∀ x y, R x y → R' x y) : ∀ {xs : List α} {ys : List β}, Al2 R xs ys → Al2 R' xs ys
  | [], [], _ => trivial
  | _ :: _, _ :: _, ⟨a, b⟩ => ⟨h _ _ a, Al2.mono h b⟩
theorem Al2.length : ∀ {xs : List α} {ys : List β}, Al2 R xs ys → xs.length = ys.length
  | [], [], _ => rfl
  | _ :: _, _ :: _, ⟨_, b⟩ => congrArg (· + 1) (Al2.length b)
theorem Al2.append : ∀ {xs xs' : List α} {ys ys' : List β}, Al2 R xs ys → Al2 R xs' ys' → Al2 R (xs ++ xs') (ys ++ ys')
  | [], _, [], _, _, h => h
  | _ :: _, _, _ :: _, _, ⟨a, b⟩, h => ⟨a, Al2.append b h⟩
theorem Al2.split : ∀ {xs xs' : List α} {zs : List β}, Al2 R (xs ++ xs') zs → ∃ ys ys', zs = ys ++ ys' ∧ Al2 R xs ys ∧ Al2 R xs' ys'
  | [], _, zs, h => ⟨[], zs, rfl, trivial, h⟩
  | x :: xs, xs', z :: zs, ⟨a, b⟩ => by
    obtain ⟨ys, ys', rfl, h1, h2⟩ := Al2.split b
    exact ⟨z :: ys, ys', rfl, ⟨a, h1⟩, h2⟩
theorem Al2.get : ∀ {xs : List α} {ys : List β}, Al2 R xs ys → ∀ {i : Nat} {x : α}, xs[i]? = some x → ∃ y, ys[i]? = some y ∧ R x y
  | x :: xs, y :: ys, ⟨a, _⟩, 0, _, h => by simp at h; subst h; exact ⟨y, rfl, a⟩
  | x :: xs, y :: ys, ⟨_, b⟩, i + 1, _, h => by simp at h; exact Al2.get b (by simpa using h)
theorem Al2.take : ∀ {xs : List α} {ys : List β}, Al2 R xs ys → ∀ n, Al2 R (xs.take n) (ys.take n)
  | [], [], _, n => by simp [Al2]
  | x :: xs, y :: ys, _, 0 => by simp [Al2]
  | x :: xs, y :: ys, ⟨a, b⟩, n + 1 => by simp only [List.take_succ_cons]; exact ⟨a, Al2.take b n⟩
theorem Al2.drop : ∀ {xs : List α} {ys : List β}, Al2 R xs ys → ∀ n, Al2 R (xs.drop n) (ys.drop n)
  | [], [], _, n => by simp [Al2]
  | x :: xs, y :: ys, h, 0 => by simpa using h
  | x :: xs, y :: ys, ⟨_, b⟩, n + 1 => by simp only [List.drop_succ_cons]; exact Al2.drop b n
theorem Al2.set : ∀ {xs : List α} {ys : List β}, Al2 R xs ys → ∀ (n : Nat) {x : α} {y : β}, R x y → Al2 R (xs.set n x) (ys.set n y)
  | [], [], _, n, _, _, _ => by simp [Al2]
  | _ :: _, _ :: _, ⟨_, b⟩, 0, _, _, h => by simp only [List.set_cons_zero]; exact ⟨h, b⟩
  | _ :: _, _ :: _, ⟨a, b⟩, n + 1, _, _, h => by simp only [List.set_cons_succ]; exact ⟨a, Al2.set b n h⟩
theorem Al2.replicate {x : α} {y : β} (h : R x y) : ∀ n, Al2 R (List.replicate n x) (List.replicate n y)
  | 0 => trivial
  | n + 1 => ⟨h, Al2.replicate h n⟩
theorem Al2.nil_left {ys : List β} (h : Al2 R [] ys) : ys = [] := by cases ys with | nil => rfl | cons _ _ => exact h.elim
theorem Al2.cons_left {x : α} {xs : List α} {ys : List β} (h : Al2 R (x :: xs) ys) : ∃ y ys', ys = y :: ys' ∧ R x y ∧ Al2 R xs ys' := by
  cases ys with
  | nil => exact h.elim
  | cons y ys' => exact ⟨y, ys', rfl, h.1, h.2⟩
end

/-! ### data in memory -/
def SlR {α : Type} (w : World) (I : Nat → Prop) (z : Nat) (R : α → List Value → Prop) (xs : List α) (v : Value) : Prop :=
  ∃ ys, Rd w v z ys ∧ Al2 R xs ys ∧ ∀ b, vfoot v = some b → I b

def At (w : World) (I : Nat → Prop) : (t : T) → den t → List Value → Prop
  | .int k, n, c => c = [.int k n]
  | .bool, x, c => c = [.bool x]
  | .str, l, c => c = [sv l]
  | .flt k, n, c => c = [.float k n]
  | .unit, _, c => c = []
  | .pair a b, x, c => ∃ c1 c2, c = c1 ++ c2 ∧ At w I a x.1 c1 ∧ At w I b x.2 c2
  | .arr _ e, x, c => ∃ ys : List (List Value), c = ys.flatten ∧ Al2 (At w I e) x.toList ys
  | .sl e, xs, c => ∃ v, c = [v] ∧ SlR w I (wid e) (At w I e) xs v

structure Mem where
  w : World
  I : Nat → Prop
  g : Nat → Value
  live : Nat → Prop
  n : Nat

def isPtr : Value → Prop
  | .pointer (some a) => a.off = 0 ∧ a.spot = none
  | _ => False

def Rl (m : Mem) : L → List Value → Prop
  | .i k n, c => c = [.int k n]
  | .b x, c => c = [.bool x]
  | .s l, c => c = [sv l]
  | .f k n, c => c = [.float k n]
  | .arr t n x, c => At m.w m.I (.arr n t) x c
  | .ro t xs, c => At m.w m.I (.sl t) xs c
  | .nil, c => c = [.slice none 0 0]
  | .own id, c => id < m.n ∧ ∃ v, c = [v] ∧ v.oneCell' = true ∧ v.cells = #[v] ∧ (m.live id → v = m.g id)
  | .ptr id off, c => id < m.n ∧ ∃ b, m.g id = .pointer (some ⟨b, 0, none⟩) ∧ c = [.pointer (some ⟨b, off, none⟩)]
  | .np, c => c = [.pointer none]
  | .fn f ids, c => (∀ i ∈ ids, i < m.n ∧ isPtr (m.g i)) ∧ c = [.func (.func f) #[] (ids.map m.g).toArray]
  | .nf, c => c = [.nilFunc]
  | .sub id off n lo hi, c => id < m.n ∧ 0 ≤ lo ∧ lo ≤ hi ∧ hi ≤ (n : Int) ∧ ∃ b, m.g id = .pointer (some ⟨b, 0, none⟩) ∧ c = [bsv b off n lo hi]

def Rp (m : Mem) : L ⊕ List L → Value → Prop
  | .inl x, v => Rl m x [v]
  | .inr ls, v => ∃ s, v = ag s ∧ Al2 (Rl m) ls s

def slen : Value → Nat
  | .slice _ n _ => n
  | _ => 0

def Rv (m : Mem) : V → Value → Prop
  | .one x, v => Rl m x [v]
  | .ag ls, v => ∃ s, v = ag s ∧ Al2 (Rl m) ls s
  | .tup vs, v => ∃ l : List Value, v = .tuple l.toArray ∧ Al2 (Rp m) vs l
  | .epR t x off, v => ∃ g o c, v = .pointer (some ⟨g, o + off, none⟩) ∧ m.I g ∧ At m.w m.I t x c ∧ ∀ (j : Nat) y, c[j]? = some y → m.w.cell? ⟨g, o + j, none⟩ = some y
  | .epO id z i off, v => id < m.n ∧ (m.live id → v = eptr (m.g id) (i.toNat * z + off) ∧ 0 ≤ i ∧ i < (slen (m.g id) : Int))
  | .epB id off n z i k, v => id < m.n ∧ 0 ≤ i ∧ i < (n : Int) ∧ ∃ b, m.g id = .pointer (some ⟨b, 0, none⟩) ∧ v = .pointer (some ⟨b, off + (i.toNat * z + k), none⟩)
  | .toA t n xs, v => 0 < n ∧ n ≤ xs.length ∧ ∃ u, SlR m.w m.I (wid t) (At m.w m.I t) xs u ∧ v = eptr u 0
  | .sk, v => v = undef
  | .u, _ => True

structure Mem.Le (m m' : Mem) : Prop where
  n : m.n ≤ m'.n
  g : ∀ id, id < m.n → m'.g id = m.g id
  live : ∀ id, id < m.n → m'.live id → m.live id
  imm : ∀ b, m.I b → m'.I b ∧ m'.w.heap[b]? = m.w.heap[b]?

theorem Mem.Le.refl (m : Mem) : m.Le m := ⟨Nat.le_refl _, fun _ _ => rfl, fun _ _ h => h, fun _ h => ⟨h, rfl⟩⟩
theorem Mem.Le.trans {a b c : Mem} (h : a.Le b) (k : b.Le c) : a.Le c :=
  ⟨Nat.le_trans h.n k.n, fun id hi => (k.g id (Nat.lt_of_lt_of_le hi h.n)).trans (h.g id hi), fun id hi hc => h.live id hi (k.live id (Nat.lt_of_lt_of_le hi h.n) hc),
    fun b hb => ⟨(k.imm b (h.imm b hb).1).1, (k.imm b (h.imm b hb).1).2.trans (h.imm b hb).2⟩⟩

section
variable {w w' : World} {I I' : Nat → Prop}

theorem SlR.mono {α : Type} {z : Nat} {R R' : α → List Value → Prop} {xs : List α} {v : Value} (hI : ∀ b, I b → I' b ∧ w'.heap[b]? = w.heap[b]?) (hR : ∀ x c, R x c → R' x c) (h : SlR w I z R xs v) : SlR w' I' z R' xs v := by
  obtain ⟨ys, h1, h2, h3⟩ := h
  exact ⟨ys, h1.kept fun b hb => (hI b (h3 b hb)).2, h2.mono hR, fun b hb => (hI b (h3 b hb)).1⟩

theorem At.mono (hI : ∀ b, I b → I' b ∧ w'.heap[b]? = w.heap[b]?) : ∀ (t : T) (x : den t) (c : List Value), At w I t x c → At w' I' t x c
  | .int _, _, _, h => h
  | .bool, _, _, h => h
  | .str, _, _, h => h
  | .flt _, _, _, h => h
  | .unit, _, _, h => h
  | .pair a b, _, _, ⟨c1, c2, h, h1, h2⟩ => ⟨c1, c2, h, At.mono hI a _ _ h1, At.mono hI b _ _ h2⟩
  | .arr _ e, _, _, ⟨ys, h, h1⟩ => ⟨ys, h, h1.mono (At.mono hI e)⟩
  | .sl e, _, _, ⟨v, h, h1⟩ => ⟨v, h, h1.mono hI (At.mono hI e)⟩
end

theorem Rl.mono {m m' : Mem} (h : m.Le m') : ∀ (x : L) (c : List Value), Rl m x c → Rl m' x c := by
  intro x c hx
  cases x with
  | i | b | s | f | nil | np | nf => exact hx
  | arr t n x => exact At.mono h.imm _ _ _ hx
  | ro t xs => exact At.mono h.imm _ _ _ hx
  | own id =>
    obtain ⟨h1, v, h2, h3, h5, h4⟩ := hx
    exact ⟨Nat.lt_of_lt_of_le h1 h.n, v, h2, h3, h5, fun hl => by rw [h.g id h1]; exact h4 (h.live id h1 hl)⟩
  | ptr id off =>
    obtain ⟨h1, b, h2, h3⟩ := hx
    exact ⟨Nat.lt_of_lt_of_le h1 h.n, b, by rw [h.g id h1]; exact h2, h3⟩
  | fn f ids =>
    obtain ⟨h1, h2⟩ := hx
    refine ⟨fun i hi => ⟨Nat.lt_of_lt_of_le (h1 i hi).1 h.n, by rw [h.g i (h1 i hi).1]; exact (h1 i hi).2⟩, ?_⟩
    rw [h2]
    congr 3
    exact List.map_congr_left fun i hi => (h.g i (h1 i hi).1).symm
  | sub id off n lo hi =>
    obtain ⟨h1, h2, h3, h4, b, h5, h6⟩ := hx
    exact ⟨Nat.lt_of_lt_of_le h1 h.n, h2, h3, h4, b, by rw [h.g id h1]; exact h5, h6⟩
theorem Rls.mono {m m' : Mem} (h : m.Le m') {ls : List L} {s : List (List Value)} (k : Al2 (Rl m) ls s) : Al2 (Rl m') ls s := k.mono (Rl.mono h)
theorem Rp.mono {m m' : Mem} (h : m.Le m') : ∀ (x : L ⊕ List L) (v : Value), Rp m x v → Rp m' x v
  | .inl _, _, k => Rl.mono h _ _ k
  | .inr _, _, ⟨s, h1, h2⟩ => ⟨s, h1, Rls.mono h h2⟩
theorem Rv.mono {m m' : Mem} (h : m.Le m') : ∀ (x : V) (v : Value), Rv m x v → Rv m' x v := by
  intro x v hx
  cases x with
  | one x => exact Rl.mono h _ _ hx
  | ag ls => obtain ⟨s, h1, h2⟩ := hx; exact ⟨s, h1, Rls.mono h h2⟩
  | tup vs => obtain ⟨l, h1, h2⟩ := hx; exact ⟨l, h1, h2.mono (Rp.mono h)⟩
  | epR t x off =>
    obtain ⟨g, o, c, h1, h2, h3, h4⟩ := hx
    refine ⟨g, o, c, h1, (h.imm g h2).1, At.mono h.imm _ _ _ h3, fun j y hj => ?_⟩
    have := h4 j y hj
    simp only [World.cell?] at this ⊢
    rw [(h.imm g h2).2]; exact this
  | epO id z i off =>
    obtain ⟨h1, h2⟩ := hx
    exact ⟨Nat.lt_of_lt_of_le h1 h.n, fun hl => by rw [h.g id h1]; exact h2 (h.live id h1 hl)⟩
  | epB id off n z i k =>
    obtain ⟨h1, h2, h3, b, h4, h5⟩ := hx
    exact ⟨Nat.lt_of_lt_of_le h1 h.n, h2, h3, b, by rw [h.g id h1]; exact h4, h5⟩
  | toA t n xs =>
    obtain ⟨h0, h1, u, h2, h3⟩ := hx
    exact ⟨h0, h1, u, h2.mono h.imm (At.mono h.imm t), h3⟩
  | sk => exact hx
  | u => trivial

/-! ### objects -/
def Ho (m : Mem) (v : Value) : Ob → Prop
  | .gone => True
  | .blk ty ls => ∃ b s, v = .pointer (some ⟨b, 0, none⟩) ∧ m.w.heap[b]? = some (.cells (cells s) ty (0, 0)) ∧ Al2 (Rl m) ls s
  | .rd ty ls => ∃ b s, v = .pointer (some ⟨b, 0, none⟩) ∧ m.w.heap[b]? = some (.cells (cells s) ty (0, 0)) ∧ Al2 (Rl m) ls s ∧ m.I b
  | .arr ty t xs => ∃ ys, Own m.w v ty (wid t) ys ∧ Al2 (At m.w m.I t) xs ys
  | .fix .. => False

def foot : Value → Option Nat
  | .pointer (some a) => some a.block
  | v => vfoot v

def lives (h : Hm) (id : Nat) : Prop := liveO h[id]? = true

def ImmOf (M S : Nat → Prop) (w0 : World) (h : Hm) (g : Nat → Value) (w : World) : Nat → Prop :=
  fun b => b < w.heap.size ∧ (w0.heap.size ≤ b ∨ S b ∨ M b) ∧ ∀ id, lives h id → foot (g id) ≠ some b
def memOf (M S : Nat → Prop) (w0 : World) (h : Hm) (g : Nat → Value) (w : World) : Mem := ⟨w, ImmOf M S w0 h g w, g, lives h, h.length⟩

structure Rel (M S : Nat → Prop) (w0 : World) (h : Hm) (g : Nat → Value) (w : World) : Prop where
  os : w.os = w0.os
  tape : w.tape = w0.tape
  output : w.output = w0.output
  size : w0.heap.size ≤ w.heap.size
  old : ∀ k, k < w0.heap.size → ¬ M k → w.heap[k]? = w0.heap[k]?
  dis : ∀ b, S b → ¬ M b
  obj : ∀ id o, h[id]? = some o → Ho (memOf M S w0 h g w) (g id) o
  mine : ∀ id, lives h id → ∀ b, foot (g id) = some b → w0.heap.size ≤ b ∨ M b
  inj : ∀ i j, lives h i → lives h j → i ≠ j → ∀ b, foot (g i) = some b → foot (g j) ≠ some b

theorem lives_lt {h : Hm} {id : Nat} (k : lives h id) : id < h.length := by
  unfold lives at k
  cases e : h[id]? with
  | none => rw [e] at k; cases k
  | some o => exact (List.getElem?_eq_some_iff.1 e).1

theorem Own.foot_lt {w : World} {v : Value} {t : TypeId} {z : Nat} {xs : List (List Value)} (h : Own w v t z xs) : ∀ b, foot v = some b → b < w.heap.size := by
  intro b hb
  refine h.rd.lt b ?_
  rcases h.2 with ⟨⟨a, rfl⟩, _⟩ | ⟨g, cap, cur, fz, rfl, _⟩ <;> exact hb

section
variable {M S : Nat → Prop} {w0 w : World} {h : Hm} {g : Nat → Value}

theorem Rel.foot_lt (H : Rel M S w0 h g w) {id : Nat} (hl : lives h id) {b : Nat} (hb : foot (g id) = some b) : b < w.heap.size := by
  unfold lives at hl
  cases e : h[id]? with
  | none => rw [e] at hl; cases hl
  | some o =>
    have := H.obj id o e
    cases o with
    | blk ty ls =>
      obtain ⟨b', s, h1, h2, _⟩ := this
      rw [h1] at hb; simp only [foot, Option.some.injEq] at hb; subst hb
      exact heap_lt h2
    | arr ty t xs => obtain ⟨ys, h1, _⟩ := this; exact h1.foot_lt b hb
    | fix => exact this.elim
    | rd => rw [e] at hl; cases hl
    | gone => rw [e] at hl; cases hl

/-- on to another state: what turns is named -/
theorem Rel.step (H : Rel M S w0 h g w) {h' : Hm} {g' : Nat → Value} {w' : World} (chg : Nat → Prop)
    (hn : h.length ≤ h'.length) (hg : ∀ id, id < h.length → g' id = g id) (hl : ∀ id, id < h.length → lives h' id → lives h id)
    (os : w'.os = w.os) (tape : w'.tape = w.tape) (output : w'.output = w.output) (size : w.heap.size ≤ w'.heap.size)
    (hk : ∀ b, b < w.heap.size → (∀ id, lives h id → chg id → foot (g id) ≠ some b) → w'.heap[b]? = w.heap[b]?)
    (ho : (memOf M S w0 h g w).Le (memOf M S w0 h' g' w') → ∀ id o, h'[id]? = some o → (h[id]? = some o ∧ ¬ chg id) ∨ Ho (memOf M S w0 h' g' w') (g' id) o)
    (hf : ∀ id, lives h' id → ∀ b, foot (g' id) = some b → w.heap.size ≤ b ∨ ∃ j, lives h j ∧ foot (g j) = some b)
    (hi : ∀ i j, lives h' i → lives h' j → i ≠ j → ∀ b, foot (g' i) = some b → foot (g' j) ≠ some b) :
    Rel M S w0 h' g' w' ∧ (memOf M S w0 h g w).Le (memOf M S w0 h' g' w') := by
  have le : (memOf M S w0 h g w).Le (memOf M S w0 h' g' w') := by
    refine ⟨hn, hg, hl, fun b hb => ?_⟩
    obtain ⟨h1, h2, h3⟩ := hb
    have hs : w'.heap[b]? = w.heap[b]? := hk b h1 fun id hid _ => h3 id hid
    refine ⟨⟨Nat.lt_of_lt_of_le h1 size, h2, fun id hid hfb => ?_⟩, hs⟩
    rcases hf id hid b hfb with h4 | ⟨j, h4, h5⟩
    · omega
    · exact h3 j h4 h5
  refine ⟨⟨os.trans H.os, tape.trans H.tape, output.trans H.output, Nat.le_trans H.size size, fun k h1 h2 => ?_, H.dis, fun id o hid => ?_, fun id hid b hb => ?_, hi⟩, le⟩
  · rw [hk k (Nat.lt_of_lt_of_le h1 H.size) fun id hid _ hb => ?_]
    · exact H.old k h1 h2
    · rcases H.mine id hid k hb with h3 | h3
      · omega
      · exact h2 h3
  · rcases ho le id o hid with ⟨h1, h2⟩ | h1
    · have hlt : id < h.length := (List.getElem?_eq_some_iff.1 h1).1
      have h0 := H.obj id o h1
      have same : ∀ b, lives h id → foot (g id) = some b → w'.heap[b]? = w.heap[b]? := fun b hli hb => hk b (H.foot_lt hli hb) fun j hj hc hbj => by
        by_cases e : j = id
        · subst e; exact h2 hc
        · exact H.inj j id hj hli e b hbj hb
      rw [hg id hlt]
      cases o with
      | gone => trivial
      | blk ty ls =>
        obtain ⟨b, s, h3, h4, h5⟩ := h0
        exact ⟨b, s, h3, (same b (by simp [lives, h1, liveO]) (by rw [h3]; rfl)).trans h4, Rls.mono le h5⟩
      | rd ty ls =>
        obtain ⟨b, s, h3, h4, h5, h6⟩ := h0
        exact ⟨b, s, h3, (le.imm b h6).2.trans h4, Rls.mono le h5, (le.imm b h6).1⟩
      | arr ty t xs =>
        obtain ⟨ys, h3, h4⟩ := h0
        refine ⟨ys, h3.kept fun b hb => same b (by simp [lives, h1, liveO]) ?_, h4.mono (At.mono le.imm t)⟩
        rcases h3.2 with ⟨⟨a, e⟩, _⟩ | ⟨q, cap, cur, fz, e, _⟩ <;> rw [e] at hb ⊢ <;> exact hb
      | fix => exact h0.elim
    · exact h1
  · rcases hf id hid b hb with h1 | ⟨j, h1, h2⟩
    · exact .inl (Nat.le_trans H.size h1)
    · exact H.mine j h1 b h2
end

end Go.Dor
