/- WHAT A CALL KNOWS OF MEMORY: blocks of its own, slices of its own, slices that it reads. Plain lemmas over any program. -/
import Derived.Test.YtlejphdgfoejaaaDoorB
namespace Go.Dor
open Go.RowKit (Below)

def cells (s : List (List Value)) : Array Value := s.flatten.toArray
def ag (s : List (List Value)) : Value := .agg (cells s)

theorem cells_ag (s : List (List Value)) : (ag s).cells = cells s := rfl

/-- the block that a slice's cells lie in, if it has any -/
def vfoot : Value → Option Nat
  | .slice (some a) _ cap => if cap = 0 then none else some a.block
  | _ => none

/-- v reads as the elements xs, of z cells each -/
def Rd (w : World) (v : Value) (z : Nat) (xs : List (List Value)) : Prop :=
  (∀ x ∈ xs, x.length = z) ∧ (((∃ a, v = .slice a 0 0) ∧ xs = []) ∨
    ∃ g off cap cur t fz, v = .slice (some ⟨g, off, none⟩) xs.length cap ∧ xs.length ≤ cap ∧ w.heap[g]? = some (.cells cur t fz) ∧ ∀ (j : Nat) x, xs.flatten[j]? = some x → cur[off + j]? = some x)

/-- v is a slice from the beginning of a row of the call's own -/
def Own (w : World) (v : Value) (t : TypeId) (z : Nat) (xs : List (List Value)) : Prop :=
  (∀ x ∈ xs, x.length = z) ∧ (((∃ a, v = .slice a 0 0) ∧ xs = []) ∨
    ∃ g cap cur fz, v = .slice (some ⟨g, 0, none⟩) xs.length cap ∧ xs.length ≤ cap ∧ cap ≤ maxLen ∧ w.heap[g]? = some (.cells cur t fz) ∧ (∀ j, j < cur.size → ¬ (fz.1 ≤ j ∧ j < fz.2)) ∧
      cur.size = cap * z ∧ ∀ (j : Nat) x, xs.flatten[j]? = some x → cur[j]? = some x)

theorem Own.rd {w : World} {v : Value} {t : TypeId} {z : Nat} {xs : List (List Value)} (h : Own w v t z xs) : Rd w v z xs := by
  refine ⟨h.1, ?_⟩
  rcases h.2 with h | ⟨g, cap, cur, fz, h1, h2, _, h3, _, _, h4⟩
  · exact .inl h
  · exact .inr ⟨g, 0, cap, cur, t, fz, h1, h2, h3, by simpa using h4⟩

inductive Res where
  | blk (b : Nat) (t : TypeId) (s : List (List Value))
  | own (v : Value) (t : TypeId) (z : Nat) (xs : List (List Value))
  | ro (v : Value) (z : Nat) (xs : List (List Value))
  | emp

def Res.holds (w : World) : Res → Prop
  | .blk b t s => w.heap[b]? = some (.cells (cells s) t (0, 0))
  | .own v t z xs => Own w v t z xs
  | .ro v z xs => Rd w v z xs
  | .emp => True

def Res.foot : Res → Option Nat
  | .blk b _ _ => some b
  | .own v _ _ _ => vfoot v
  | .ro v _ _ => vfoot v
  | .emp => none

def Res.mine : Res → Bool
  | .ro .. => false
  | _ => true

def Apart (x y : Res) : Prop := (x.mine = true ∨ y.mine = true) → ∀ b, x.foot = some b → y.foot ≠ some b

theorem Apart.symm {x y : Res} (h : Apart x y) : Apart y x := fun hm b hb hx => h hm.symm b hx hb

theorem heap_lt {w : World} {b : Nat} {o : Obj} (h : w.heap[b]? = some o) : b < w.heap.size := (Array.getElem?_eq_some_iff.1 h).1

theorem Rd.lt {w : World} {v : Value} {z : Nat} {xs : List (List Value)} (h : Rd w v z xs) : ∀ b, vfoot v = some b → b < w.heap.size := by
  intro b hb
  rcases h.2 with ⟨⟨a, rfl⟩, _⟩ | ⟨g, off, cap, cur, t, fz, rfl, _, hg, _⟩
  · cases a <;> simp [vfoot] at hb
  · simp only [vfoot] at hb
    split at hb
    · cases hb
    · simp only [Option.some.injEq] at hb
      subst hb; exact heap_lt hg

theorem Rd.kept {w w' : World} {v : Value} {z : Nat} {xs : List (List Value)} (h : Rd w v z xs) (hb : ∀ b, vfoot v = some b → w'.heap[b]? = w.heap[b]?) : Rd w' v z xs := by
  refine ⟨h.1, ?_⟩
  rcases h.2 with h | ⟨g, off, cap, cur, t, fz, rfl, hc, hg, hx⟩
  · exact .inl h
  · by_cases h0 : cap = 0
    · subst h0
      have hx0 : xs = [] := List.eq_nil_of_length_eq_zero (by omega)
      subst hx0
      exact .inl ⟨⟨_, rfl⟩, rfl⟩
    · exact .inr ⟨g, off, cap, cur, t, fz, rfl, hc, (hb g (by simp [vfoot, h0])).trans hg, hx⟩

theorem Own.kept {w w' : World} {v : Value} {t : TypeId} {z : Nat} {xs : List (List Value)} (h : Own w v t z xs) (hb : ∀ b, vfoot v = some b → w'.heap[b]? = w.heap[b]?) : Own w' v t z xs := by
  refine ⟨h.1, ?_⟩
  rcases h.2 with h | ⟨g, cap, cur, fz, rfl, h1, h2, hg, hx⟩
  · exact .inl h
  · by_cases h0 : cap = 0
    · subst h0
      have hx0 : xs = [] := List.eq_nil_of_length_eq_zero (by omega)
      subst hx0
      exact .inl ⟨⟨_, rfl⟩, rfl⟩
    · exact .inr ⟨g, cap, cur, fz, rfl, h1, h2, (hb g (by simp [vfoot, h0])).trans hg, hx⟩

theorem Res.lt {w : World} {x : Res} (h : x.holds w) : ∀ b, x.foot = some b → b < w.heap.size := by
  intro b hb
  cases x with
  | blk b' t s => simp only [Res.foot, Option.some.injEq] at hb; subst hb; exact heap_lt h
  | own v t z xs => exact Rd.lt (Own.rd h) b hb
  | ro v z xs => exact Rd.lt h b hb
  | emp => cases hb

theorem Res.kept {w w' : World} {x : Res} (h : x.holds w) (hb : ∀ b, x.foot = some b → w'.heap[b]? = w.heap[b]?) : x.holds w' := by
  cases x with
  | blk b' t s => exact (hb b' rfl).trans h
  | own v t z xs => exact Own.kept h hb
  | ro v z xs => exact Rd.kept h hb
  | emp => trivial

/-- between the call's beginning w0 and now w: old memory is as it was but for blocks in M; L lists what is known -/
structure Hp (M S : Nat → Prop) (w0 w : World) (L : List Res) : Prop where
  os : w.os = w0.os
  tape : w.tape = w0.tape
  output : w.output = w0.output
  size : w0.heap.size ≤ w.heap.size
  old : ∀ k, k < w0.heap.size → ¬ M k → w.heap[k]? = w0.heap[k]?
  holds : ∀ (i : Nat) x, L[i]? = some x → x.holds w
  mine : ∀ (i : Nat) x, L[i]? = some x → x.mine = true → ∀ b, x.foot = some b → w0.heap.size ≤ b ∨ M b
  seen : ∀ (i : Nat) x, L[i]? = some x → ∀ b, x.foot = some b → w0.heap.size ≤ b ∨ S b
  apart : ∀ (i j : Nat) x y, L[i]? = some x → L[j]? = some y → i ≠ j → Apart x y

def NoM : Nat → Prop := fun _ => False

section
variable {M S : Nat → Prop} {w0 w w' : World} {L : List Res}

theorem Hp.nil (M S : Nat → Prop) (w : World) : Hp M S w w [] :=
  ⟨rfl, rfl, rfl, Nat.le_refl _, fun _ _ _ => rfl, by simp, by simp, by simp, by simp⟩

theorem Hp.below (H : Hp NoM S w0 w L) : Below w0.heap.size w0 w := ⟨H.os, H.tape, H.output, H.size, fun k hk => H.old k hk fun h => h⟩

/-- the world has gone on, and nothing that is known has changed -/
theorem Hp.next (H : Hp M S w0 w L) (hb : Below w.heap.size w w') : Hp M S w0 w' L :=
  ⟨hb.os.trans H.os, hb.tape.trans H.tape, hb.output.trans H.output, Nat.le_trans H.size hb.size,
    fun k hk hm => (hb.block k (Nat.lt_of_lt_of_le hk H.size)).trans (H.old k hk hm),
    fun i x hx => Res.kept (H.holds i x hx) fun b hf => hb.block b (Res.lt (H.holds i x hx) b hf), H.mine, H.seen, H.apart⟩

theorem Hp.drew (H : Hp M S w0 w L) : Hp M S w0 { w with drawn := w.drawn + 1 } L :=
  ⟨H.os, H.tape, H.output, H.size, H.old, fun i x hx => Res.kept (H.holds i x hx) fun _ _ => rfl, H.mine, H.seen, H.apart⟩

/-- one resource more -/
theorem Hp.add (H : Hp M S w0 w L) (x : Res) (hx : x.holds w) (hm : x.mine = true → ∀ b, x.foot = some b → w0.heap.size ≤ b ∨ M b) (hs : ∀ b, x.foot = some b → w0.heap.size ≤ b ∨ S b)
    (ha : ∀ (i : Nat) y, L[i]? = some y → Apart y x) : Hp M S w0 w (L ++ [x]) := by
  have get : ∀ (i : Nat) y, (L ++ [x])[i]? = some y → L[i]? = some y ∨ (i = L.length ∧ y = x) := fun i y h => by
    rcases Nat.lt_or_ge i L.length with hlt | hge
    · rw [List.getElem?_append_left hlt] at h; exact .inl h
    · rw [List.getElem?_append_right hge] at h
      rcases Nat.eq_or_lt_of_le hge with he | hlt
      · rw [← he] at h; simp at h; exact .inr ⟨he.symm, h.symm⟩
      · rw [List.getElem?_eq_none (by simp; omega)] at h; cases h
  refine ⟨H.os, H.tape, H.output, H.size, H.old, fun i y h => ?_, fun i y h => ?_, fun i y h => ?_, fun i j y z h h' hne => ?_⟩
  · rcases get i y h with h | ⟨_, rfl⟩
    · exact H.holds i y h
    · exact hx
  · rcases get i y h with h | ⟨_, rfl⟩
    · exact H.mine i y h
    · exact hm
  · rcases get i y h with h | ⟨_, rfl⟩
    · exact H.seen i y h
    · exact hs
  · rcases get i y h with h1 | ⟨hi, e1⟩ <;> rcases get j z h' with h2 | ⟨hj, e2⟩
    · exact H.apart i j y z h1 h2 hne
    · rw [e2]; exact ha i y h1
    · rw [e1]; exact (ha j z h2).symm
    · omega

theorem below_alloc (w : World) (o : Obj) : Below w.heap.size w (w.alloc o) := (Below.refl _ w).alloc (Nat.le_refl _) o

/-- a block of its own is made -/
theorem Hp.alloc (H : Hp M S w0 w L) (t : TypeId) (s : List (List Value)) : Hp M S w0 (w.alloc (.cells (cells s) t)) (L ++ [.blk w.heap.size t s]) := by
  refine (H.next (below_alloc w _)).add _ (show (w.heap.push _)[w.heap.size]? = _ by simp) (fun _ b hb => ?_) (fun b hb => ?_) fun i y hy _ b hb => ?_
  · simp only [Res.foot, Option.some.injEq] at hb; subst hb; exact .inl H.size
  · simp only [Res.foot, Option.some.injEq] at hb; subst hb; exact .inl H.size
  · have := Res.lt (H.holds i y hy) b hb
    simp only [Res.foot, ne_eq, Option.some.injEq]; omega

/-- something fresh -/
theorem Hp.fresh (H : Hp M S w0 w L) (hb : Below w.heap.size w w') (x : Res) (hx : x.holds w') (hf : ∀ b, x.foot = some b → w.heap.size ≤ b) : Hp M S w0 w' (L ++ [x]) :=
  (H.next hb).add x hx (fun _ b h => .inl (Nat.le_trans H.size (hf b h))) (fun b h => .inl (Nat.le_trans H.size (hf b h))) fun i y hy _ b h h' => by
    have := Res.lt (H.holds i y hy) b h
    have := hf b h'
    omega

/-- one that is its own has changed -/
theorem Hp.set (H : Hp M S w0 w L) {i : Nat} {x : Res} (hi : L[i]? = some x) (hm : x.mine = true) (hg : w.grownBy w' x.foot) (y : Res) (hy : y.holds w')
    (hf : ∀ b, y.foot = some b → x.foot = some b ∨ w.heap.size ≤ b) : Hp M S w0 w' (L.set i y) := by
  have hlt : i < L.length := (List.getElem?_eq_some_iff.1 hi).1
  have get : ∀ (j : Nat) z, (L.set i y)[j]? = some z → (j = i ∧ z = y) ∨ (j ≠ i ∧ L[j]? = some z) := fun j z h => by
    rw [List.getElem?_set] at h
    by_cases hj : i = j
    · subst hj; rw [if_pos rfl, if_pos hlt] at h; exact .inl ⟨rfl, (Option.some.inj h).symm⟩
    · rw [if_neg hj] at h; exact .inr ⟨Ne.symm hj, h⟩
  have others : ∀ (j : Nat) z, j ≠ i → L[j]? = some z → Apart z y := fun j z hj hz hmm b hb hyb => by
    rcases hf b hyb with h | h
    · exact H.apart i j x z hi hz (Ne.symm hj) (.inl hm) b h hb
    · have := Res.lt (H.holds j z hz) b hb; omega
  refine ⟨hg.os.trans H.os, hg.tape.trans H.tape, hg.output.trans H.output, Nat.le_trans H.size hg.size, fun k hk hnm => ?_, fun j z h => ?_, fun j z h => ?_, fun j z h => ?_, fun j k z u h h' hne => ?_⟩
  · rw [hg.block k (Nat.lt_of_lt_of_le hk H.size) fun e => ?_]
    · exact H.old k hk hnm
    · rcases H.mine i x hi hm k e.symm with h | h
      · omega
      · exact hnm h
  · rcases get j z h with ⟨_, rfl⟩ | ⟨hj, hz⟩
    · exact hy
    · refine Res.kept (H.holds j z hz) fun b hb => hg.block b (Res.lt (H.holds j z hz) b hb) fun e => ?_
      exact H.apart i j x z hi hz (Ne.symm hj) (.inl hm) b e.symm hb
  · rcases get j z h with ⟨_, rfl⟩ | ⟨hj, hz⟩
    · intro _ b hb
      rcases hf b hb with h | h
      · exact H.mine i x hi hm b h
      · exact .inl (Nat.le_trans H.size h)
    · exact H.mine j z hz
  · rcases get j z h with ⟨_, rfl⟩ | ⟨hj, hz⟩
    · intro b hb
      rcases hf b hb with h | h
      · exact H.seen i x hi b h
      · exact .inl (Nat.le_trans H.size h)
    · exact H.seen j z hz
  · rcases get j z h with ⟨hj, rfl⟩ | ⟨hj, hz⟩ <;> rcases get k u h' with ⟨hk, rfl⟩ | ⟨hk, hu⟩
    · omega
    · exact (others k u hk hu).symm
    · exact others j z hj hz
    · exact H.apart j k z u hz hu hne

/-- a list that tells less -/
theorem Hp.weaken (H : Hp M S w0 w L) (L' : List Res) (f : Nat → Nat) (hf : ∀ i x, L'[i]? = some x → L[f i]? = some x) (hinj : ∀ i j, i < L'.length → j < L'.length → f i = f j → i = j) : Hp M S w0 w L' :=
  ⟨H.os, H.tape, H.output, H.size, H.old, fun i x h => H.holds _ x (hf i x h), fun i x h => H.mine _ x (hf i x h), fun i x h => H.seen _ x (hf i x h), fun i j x y h h' hne =>
    H.apart _ _ x y (hf i x h) (hf j y h') fun e => hne (hinj i j (List.getElem?_eq_some_iff.1 h).1 (List.getElem?_eq_some_iff.1 h').1 e)⟩

theorem Hp.blk (H : Hp M S w0 w L) {i b : Nat} {t : TypeId} {s : List (List Value)} (hi : L[i]? = some (.blk b t s)) : w.heap[b]? = some (.cells (cells s) t (0, 0)) := H.holds i _ hi
theorem Hp.own (H : Hp M S w0 w L) {i : Nat} {v : Value} {t : TypeId} {z : Nat} {xs : List (List Value)} (hi : L[i]? = some (.own v t z xs)) : Own w v t z xs := H.holds i _ hi
theorem Hp.ro (H : Hp M S w0 w L) {i : Nat} {v : Value} {z : Nat} {xs : List (List Value)} (hi : L[i]? = some (.ro v z xs)) : Rd w v z xs := H.holds i _ hi

/-- what is its own may be read alone from here on -/
theorem Hp.share (H : Hp M S w0 w L) {i : Nat} {v : Value} {t : TypeId} {z : Nat} {xs : List (List Value)} (hi : L[i]? = some (.own v t z xs)) : Hp M S w0 w (L.set i (.ro v z xs)) := by
  exact H.set hi rfl (World.grownBy.refl w _) _ (H.own hi).rd fun b hb => .inl hb


/-! ### parts of the list -/
theorem Hp.pick (H : Hp M S w0 w L) (is : List Nat) (hnd : is.Nodup) {L' : List Res} (h : is.map (fun i => L[i]?) = L'.map some) : Hp M S w0 w L' := by
  have hlen : is.length = L'.length := by have := congrArg List.length h; simpa using this
  have hat : ∀ (i : Nat) x, L'[i]? = some x → ∃ j, is[i]? = some j ∧ L[j]? = some x := fun i x hx => by
    have := congrArg (fun l => l[i]?) h
    simp only [List.getElem?_map, hx, Option.map_some] at this
    cases hi : is[i]? with
    | none => rw [hi] at this; cases this
    | some j => rw [hi] at this; exact ⟨j, rfl, by simpa using this⟩
  refine H.weaken L' (fun i => is.getD i 0) (fun i x hx => ?_) fun i j hi hj he => ?_
  · obtain ⟨j, h1, h2⟩ := hat i x hx
    rw [List.getD_eq_getElem?_getD, h1]; exact h2
  · have h1 : i < is.length := by omega
    have h2 : j < is.length := by omega
    simp only [List.getD_eq_getElem?_getD, List.getElem?_eq_getElem h1, List.getElem?_eq_getElem h2, Option.getD_some] at he
    have hp := List.pairwise_iff_getElem.1 hnd
    rcases Nat.lt_trichotomy i j with h | h | h
    · exact absurd he (hp i j h1 h2 h)
    · exact h
    · exact absurd he.symm (hp j i h2 h1 h)
theorem Hp.take (H : Hp M S w0 w L) (n : Nat) : Hp M S w0 w (L.take n) :=
  H.weaken _ id (fun i x h => by
    rw [List.getElem?_take] at h
    split at h
    · exact h
    · cases h) fun _ _ _ _ h => h

def MineOf (A : List Res) : Nat → Prop := fun b => ∃ x ∈ A, x.mine = true ∧ x.foot = some b
def FootOf (A : List Res) : Nat → Prop := fun b => ∃ x ∈ A, x.foot = some b
/-- from A in w to A' in w': all that a call may do to what it is lent -/
abbrev Run (A : List Res) (w w' : World) (A' : List Res) : Prop := Hp (MineOf A) (FootOf A) w w' A'

theorem Run.below (H : Run [] w w' L) : Below w.heap.size w w' := ⟨H.os, H.tape, H.output, H.size, fun k hk => H.old k hk fun ⟨_, h, _⟩ => by cases h⟩

/-- x may be lent for reading: it is read, or its own, in B -/
def Lent (B : List Res) : Res → Prop
  | .ro v z xs => .ro v z xs ∈ B ∨ (∃ t, .own v t z xs ∈ B) ∨ ∃ b t s, .blk b t s ∈ B ∧ vfoot v = some b ∧ ∀ w : World, w.heap[b]? = some (.cells (cells s) t (0, 0)) → Rd w v z xs
  | _ => False

theorem get_append {A B : List Res} {i : Nat} {x : Res} (h : (A ++ B)[i]? = some x) : (i < A.length ∧ A[i]? = some x) ∨ (A.length ≤ i ∧ B[i - A.length]? = some x) := by
  rcases Nat.lt_or_ge i A.length with hlt | hge
  · rw [List.getElem?_append_left hlt] at h; exact .inl ⟨hlt, h⟩
  · rw [List.getElem?_append_right hge] at h; exact .inr ⟨hge, h⟩

theorem Hp.lend {A B R : List Res} (H : Hp M S w0 w (A ++ B)) (hR : ∀ x ∈ R, Lent B x) : Run (A ++ R) w w (A ++ R) := by
  have fromB : ∀ x ∈ R, x.mine = false ∧ x.holds w ∧ ∃ (j : Nat) (y : Res), B[j]? = some y ∧ y.foot = x.foot := fun x hx => by
    have := hR x hx
    cases x with
    | ro v z xs =>
      rcases this with h | ⟨t, h⟩ | ⟨b, t, s, h, hf, hr⟩
      · obtain ⟨j, hj⟩ := List.getElem?_of_mem h
        exact ⟨rfl, H.holds (A.length + j) _ (by rw [List.getElem?_append_right (by omega)]; simpa using hj), j, _, hj, rfl⟩
      rotate_left
      · obtain ⟨j, hj⟩ := List.getElem?_of_mem h
        exact ⟨rfl, hr w (H.holds (A.length + j) (.blk b t s) (by rw [List.getElem?_append_right (by omega)]; simpa using hj)), j, _, hj, hf.symm⟩
      · obtain ⟨j, hj⟩ := List.getElem?_of_mem h
        exact ⟨rfl, Own.rd (t := t) (H.holds (A.length + j) (.own v t z xs) (by rw [List.getElem?_append_right (by omega)]; simpa using hj)), j, _, hj, rfl⟩
    | blk => cases this
    | own => cases this
    | emp => cases this
  refine ⟨rfl, rfl, rfl, Nat.le_refl _, fun _ _ _ => rfl, fun i x h => ?_, fun i x h hm b hb => .inr ⟨x, List.mem_of_getElem? h, hm, hb⟩, fun i x h b hb => .inr ⟨x, List.mem_of_getElem? h, hb⟩, fun i j x y h h' hne => ?_⟩
  · rcases get_append h with ⟨hl, h⟩ | ⟨_, h⟩
    · exact H.holds i x (by rw [List.getElem?_append_left hl]; exact h)
    · exact (fromB x (List.mem_of_getElem? h)).2.1
  · rcases get_append h with ⟨hi, h⟩ | ⟨hi, h⟩ <;> rcases get_append h' with ⟨hj, h'⟩ | ⟨hj, h'⟩
    · exact H.apart i j x y (by rw [List.getElem?_append_left hi]; exact h) (by rw [List.getElem?_append_left hj]; exact h') hne
    · obtain ⟨hm, _, q, z, hq, hf⟩ := fromB y (List.mem_of_getElem? h')
      intro hmm b hb hyb
      have hxm : x.mine = true := by rcases hmm with h | h; exact h; rw [hm] at h; cases h
      exact H.apart i (A.length + q) x z (by rw [List.getElem?_append_left hi]; exact h) (by rw [List.getElem?_append_right (by omega)]; simpa using hq) (by omega) (.inl hxm) b hb (hf.trans hyb)
    · obtain ⟨hm, _, q, z, hq, hf⟩ := fromB x (List.mem_of_getElem? h)
      intro hmm b hb hyb
      have hym : y.mine = true := by rcases hmm with h | h; rw [hm] at h; cases h; exact h
      exact H.apart j (A.length + q) y z (by rw [List.getElem?_append_left hj]; exact h') (by rw [List.getElem?_append_right (by omega)]; simpa using hq) (by omega) (.inl hym) b hyb (hf.trans hb)
    · intro hmm
      rw [(fromB x (List.mem_of_getElem? h)).1, (fromB y (List.mem_of_getElem? h')).1] at hmm
      simp at hmm

/-- what was lent comes back; what is told for reading alone may lie in what was lent for reading -/
theorem Hp.back {A B R A' : List Res} (H : Hp M S w0 w (A ++ B)) (hR : ∀ x ∈ R, Lent B x) (Hc : Run (A ++ R) w w' A')
    (hro : (∀ x ∈ A', x.mine = true) ∨ ∀ x ∈ R, x ∈ B) : Hp M S w0 w' (A' ++ B) := by
  have Hl := H.lend hR
  have fromR : ∀ x ∈ R, x.mine = false ∧ ∃ (j : Nat) (y : Res), B[j]? = some y ∧ y.foot = x.foot := fun x hx => by
    have := hR x hx
    cases x with
    | ro v z xs =>
      rcases this with h | ⟨t, h⟩ | ⟨b, t, s, h, hf, _⟩
      · obtain ⟨j, hj⟩ := List.getElem?_of_mem h; exact ⟨rfl, j, _, hj, rfl⟩
      · obtain ⟨j, hj⟩ := List.getElem?_of_mem h; exact ⟨rfl, j, _, hj, rfl⟩
      · obtain ⟨j, hj⟩ := List.getElem?_of_mem h; exact ⟨rfl, j, _, hj, hf.symm⟩
    | blk => cases this
    | own => cases this
    | emp => cases this
  have mineA : ∀ b, MineOf (A ++ R) b → ∃ (i : Nat) (x : Res), A[i]? = some x ∧ x.mine = true ∧ x.foot = some b := fun b ⟨x, hx, hm, hf⟩ => by
    rcases List.mem_append.1 hx with h | h
    · obtain ⟨i, hi⟩ := List.getElem?_of_mem h; exact ⟨i, x, hi, hm, hf⟩
    · rw [(fromR x h).1] at hm; cases hm
  have inA : ∀ {i : Nat} {x : Res}, A[i]? = some x → (A ++ B)[i]? = some x := fun {i x} h => by
    have : i < A.length := (List.getElem?_eq_some_iff.1 h).1
    rw [List.getElem?_append_left this]; exact h
  have inB : ∀ {i : Nat} {x : Res}, B[i]? = some x → (A ++ B)[A.length + i]? = some x := fun {i x} h => by
    rw [List.getElem?_append_right (by omega)]; simpa using h
  -- a block of B's is none of A's own
  have notMine : ∀ {j : Nat} {y : Res} {b : Nat}, B[j]? = some y → y.foot = some b → ¬ MineOf (A ++ R) b := fun {j y b} hj hb hm => by
    obtain ⟨i, x, hi, hxm, hxf⟩ := mineA b hm
    have hlt : i < A.length := (List.getElem?_eq_some_iff.1 hi).1
    exact H.apart i (A.length + j) x y (inA hi) (inB hj) (by omega) (.inl hxm) b hxf hb
  have lt : ∀ {j : Nat} {y : Res} {b : Nat}, B[j]? = some y → y.foot = some b → b < w.heap.size := fun {j y b} hj hb => Res.lt (H.holds _ _ (inB hj)) b hb
  have apartAB : ∀ {i j : Nat} {x y : Res}, A'[i]? = some x → B[j]? = some y → Apart x y := fun {i j x y} hi hj hmm b hb hyb => by
    have hlt := lt hj hyb
    by_cases hxm : x.mine = true
    · rcases Hc.mine i x hi hxm b hb with h | h
      · omega
      · exact notMine hj hyb h
    · have hym : y.mine = true := hmm.resolve_left hxm
      rcases hro with h | h
      · exact hxm (h x (List.mem_of_getElem? hi))
      · rcases Hc.seen i x hi b hb with h' | ⟨z, hz, hzb⟩
        · omega
        · rcases List.mem_append.1 hz with hzA | hzR
          · obtain ⟨q, hq⟩ := List.getElem?_of_mem hzA
            have hql : q < A.length := (List.getElem?_eq_some_iff.1 hq).1
            exact H.apart (A.length + j) q y z (inB hj) (inA hq) (by omega) (.inl hym) b hyb hzb
          · obtain ⟨q, hq⟩ := List.getElem?_of_mem (h z hzR)
            by_cases hqj : q = j
            · subst hqj
              have : y = z := Option.some.inj (hj.symm.trans hq)
              subst this
              rw [(fromR y hzR).1] at hym; cases hym
            · exact H.apart (A.length + j) (A.length + q) y z (inB hj) (inB hq) (by omega) (.inl hym) b hyb hzb
  refine ⟨Hc.os.trans H.os, Hc.tape.trans H.tape, Hc.output.trans H.output, Nat.le_trans H.size Hc.size, fun k hk hnm => ?_, fun i x h => ?_, fun i x h hm b hb => ?_, fun i x h b hb => ?_, fun i j x y h h' hne => ?_⟩
  · rw [Hc.old k (Nat.lt_of_lt_of_le hk H.size) fun hm => ?_]
    · exact H.old k hk hnm
    · obtain ⟨i, x, hi, hxm, hxf⟩ := mineA k hm
      rcases H.mine i x (inA hi) hxm k hxf with h | h
      · omega
      · exact hnm h
  · rcases get_append h with ⟨_, h⟩ | ⟨_, h⟩
    · exact Hc.holds i x h
    · refine Res.kept (H.holds _ _ (inB h)) fun b hb => Hc.old b (lt h hb) (notMine h hb)
  · rcases get_append h with ⟨_, h⟩ | ⟨_, h⟩
    · rcases Hc.mine i x h hm b hb with h' | h'
      · exact .inl (Nat.le_trans H.size h')
      · obtain ⟨q, y, hq, hym, hyf⟩ := mineA b h'
        exact H.mine q y (inA hq) hym b hyf
    · exact H.mine _ x (inB h) hm b hb
  · rcases get_append h with ⟨_, h⟩ | ⟨_, h⟩
    · rcases Hc.seen i x h b hb with h' | ⟨y, hy, hyf⟩
      · exact .inl (Nat.le_trans H.size h')
      · rcases List.mem_append.1 hy with hyA | hyR
        · obtain ⟨q, hq⟩ := List.getElem?_of_mem hyA
          exact H.seen q y (inA hq) b hyf
        · obtain ⟨_, q, z, hq, hf⟩ := fromR y hyR
          exact H.seen _ z (inB hq) b (hf.trans hyf)
    · exact H.seen _ x (inB h) b hb
  · rcases get_append h with ⟨hi, h⟩ | ⟨hi, h⟩ <;> rcases get_append h' with ⟨hj, h'⟩ | ⟨hj, h'⟩
    · exact Hc.apart i j x y h h' hne
    · exact apartAB h h'
    · exact (apartAB h' h).symm
    · exact H.apart _ _ x y (inB h) (inB h') (by omega)


theorem fa_nil {B : List Res} : ∀ x ∈ ([] : List Res), Lent B x := by simp
theorem fa_cons {B R : List Res} {y : Res} (h : Lent B y) (hR : ∀ x ∈ R, Lent B x) : ∀ x ∈ y :: R, Lent B x := fun x hx => by
  rcases List.mem_cons.1 hx with rfl | hx
  · exact h
  · exact hR x hx
theorem lent_ro {B : List Res} {i : Nat} {v : Value} {z : Nat} {xs : List (List Value)} (h : B[i]? = some (.ro v z xs)) : Lent B (.ro v z xs) := .inl (List.mem_of_getElem? h)
theorem lent_own {B : List Res} {i : Nat} {v : Value} {t : TypeId} {z : Nat} {xs : List (List Value)} (h : B[i]? = some (.own v t z xs)) : Lent B (.ro v z xs) := .inr (.inl ⟨t, List.mem_of_getElem? h⟩)

theorem Hp.nilOwn (H : Hp M S w0 w L) (t : TypeId) (z : Nat) : Hp M S w0 w (L ++ [.own (.slice none 0 0) t z []]) :=
  H.add _ ⟨by simp, .inl ⟨⟨none, rfl⟩, rfl⟩⟩ (fun _ b hb => by cases hb) (fun b hb => by cases hb) fun _ _ _ _ b _ hb => by cases hb

end
end Go.Dor
