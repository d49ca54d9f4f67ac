/- CALLS: what a call is given, what it leaves. Plain lemmas over any program. -/
import Derived.Test.YtlejphdgfoejaaaDoorZe
namespace Go.Dor
open Go.RowKit (Below)

/-- what is lent may be written -/
def lentOf (h : Hm) (g : Nat → Value) : Nat → Prop := fun b => ∃ i, lives h i ∧ foot (g i) = some b

/-- what holds where a call begins -/
structure Start (pre : Ds) (x : HL pre.ts) (S : Nat → Prop) (w : World) (g : Nat → Value) (vals : List Value) : Prop where
  rel : Rel (lentOf (givenO pre id x) g) S w (givenO pre id x) g w
  vals : Al2 (Rv (memOf (lentOf (givenO pre id x) g) S w (givenO pre id x) g w)) (givenV pre id x).1 vals

/-- a function comes to what an entry says -/
structure Entry.Sound (P : Program) (f : FuncId) (en : Entry) : Prop where
  out : ∀ x y, en.fn x = some y → ∀ (S : Nat → Prop) (w : World) (g : Nat → Value) (vals : List Value), Start en.pre x S w g vals →
    Calls P f vals.toArray w fun e w' => ∃ vs g', e = .returned (one vs) ∧ Rel (lentOf (givenO en.pre id x) g) S w (givenO en.post id y) g' w' ∧
      Al2 (Rv (memOf (lentOf (givenO en.pre id x) g) S w (givenO en.post id y) g' w')) (givenV en.post id y).1 vs ∧ ∀ i, i < en.pre.objs.length → g' i = g i

/-! ### other numbers -/
def renL (f : Nat → Nat) : L → L
  | .own i => .own (f i)
  | .ptr i off => .ptr (f i) off
  | .fn q is => .fn q (is.map f)
  | .sub i off n lo hi => .sub (f i) off n lo hi
  | x => x
def renV (f : Nat → Nat) : V → V
  | .one x => .one (renL f x)
  | .ag ls => .ag (ls.map (renL f))
  | v => v
def renO (f : Nat → Nat) : Ob → Ob
  | .blk ty ls => .blk ty (ls.map (renL f))
  | .rd ty ls => .rd ty (ls.map (renL f))
  | o => o

theorem renL_giveL (f : Nat → Nat) (d : Dt) : renL f (giveL d) = giveL d := by
  obtain ⟨t, x⟩ := d
  cases t <;> rfl
theorem renL_enc (f : Nat → Nat) : ∀ (t : T) (x : den t), (enc t x).map (renL f) = enc t x
  | .int _, _ => rfl
  | .bool, _ => rfl
  | .str, _ => rfl
  | .flt _, _ => rfl
  | .unit, _ => rfl
  | .pair a b, x => by simp only [enc, List.map_append, renL_enc f a, renL_enc f b]
  | .arr _ _, _ => rfl
  | .sl _, _ => rfl
theorem giveLd_ren (f : Nat → Nat) (d : Ld) (l : List Dt) : giveLd f d l = (renL f (giveLd id d l).1, (giveLd id d l).2) := by
  cases d with
  | im t => cases l with
    | nil => rfl
    | cons d l => simp only [giveLd, renL_giveL]
  | fn q is => simp [giveLd, renL]
  | _ => rfl
theorem giveLds_ren (f : Nat → Nat) : ∀ (d : List Ld) (l : List Dt), giveLds f d l = ((giveLds id d l).1.map (renL f), (giveLds id d l).2)
  | [], l => rfl
  | x :: d, l => by simp only [giveLds, giveLd_ren f x l, giveLds_ren f d, List.map_cons]
theorem giveVd_ren (f : Nat → Nat) (d : Vd) (l : List Dt) : giveVd f d l = (renV f (giveVd id d l).1, (giveVd id d l).2) := by
  cases d with
  | one x => simp only [giveVd, giveLd_ren f x l, renV]
  | ag ls => simp only [giveVd, giveLds_ren f ls l, renV]
  | st t => cases l with
    | nil => rfl
    | cons d l => simp only [giveVd, renV, renL_enc]
theorem giveVds_ren (f : Nat → Nat) : ∀ (d : List Vd) (l : List Dt), giveVds f d l = ((giveVds id d l).1.map (renV f), (giveVds id d l).2)
  | [], l => rfl
  | x :: d, l => by simp only [giveVds, giveVd_ren f x l, giveVds_ren f d, List.map_cons]
theorem giveOd_ren (f : Nat → Nat) (d : Od) (l : List Dt) : giveOd f d l = (renO f (giveOd id d l).1, (giveOd id d l).2) := by
  cases d with
  | blk ty ls => simp only [giveOd, giveLds_ren f ls l, renO]
  | rd ty ls => simp only [giveOd, giveLds_ren f ls l, renO]
  | blkT ty t => cases l with
    | nil => rfl
    | cons d l => simp only [giveOd, renO, renL_enc]
  | rdT ty t => cases l with
    | nil => rfl
    | cons d l => simp only [giveOd, renO, renL_enc]
  | arr ty t => cases l with
    | nil => rfl
    | cons d l => obtain ⟨t', x⟩ := d; cases t' <;> rfl
  | fix ty t => cases l with
    | nil => rfl
    | cons d l => obtain ⟨t', x⟩ := d; cases t' <;> rfl
  | gone => rfl
theorem giveOds_ren (f : Nat → Nat) : ∀ (d : List Od) (l : List Dt), giveOds f d l = ((giveOds id d l).1.map (renO f), (giveOds id d l).2)
  | [], l => rfl
  | x :: d, l => by simp only [giveOds, giveOd_ren f x l, giveOds_ren f d, List.map_cons]
theorem givenV_ren (f : Nat → Nat) (d : Ds) (x : HL d.ts) : givenV d f x = ((givenV d id x).1.map (renV f), (givenV d id x).2) := giveVds_ren f _ _
theorem givenO_ren (f : Nat → Nat) (d : Ds) (x : HL d.ts) : givenO d f x = (givenO d id x).map (renO f) := by
  unfold givenO
  rw [givenV_ren f, giveOds_ren f]
theorem liveO_ren (f : Nat → Nat) (o : Ob) : liveO (some (renO f o)) = liveO (some o) := by cases o <;> rfl

/-- no slice that is read lies in it -/
def flatL : L → Bool
  | .arr t _ _ => flat t
  | .ro _ _ => false
  | _ => true

theorem At.flat {w w' : World} {I I' : Nat → Prop} : ∀ (t : T) (x : den t) (c : List Value), flat t = true → At w I t x c → At w' I' t x c
  | .int _, _, _, _, h => h
  | .bool, _, _, _, h => h
  | .str, _, _, _, h => h
  | .flt _, _, _, _, h => h
  | .unit, _, _, _, h => h
  | .pair a b, _, _, hf, ⟨c1, c2, h, h1, h2⟩ => by
    simp only [Dor.flat, Bool.and_eq_true] at hf
    exact ⟨c1, c2, h, At.flat a _ _ hf.1 h1, At.flat b _ _ hf.2 h2⟩
  | .arr _ e, _, _, hf, ⟨ys, h, h1⟩ => ⟨ys, h, h1.mono fun x c => At.flat e x c hf⟩
  | .sl e, _, _, hf, _ => by cases hf

/-- a memory seen with other numbers -/
structure Ren (m m' : Mem) (f : Nat → Nat) (fl : Bool) : Prop where
  w : m'.w = m.w
  imm : fl = false → ∀ b, m.I b → m'.I b
  r : ∀ j, j < m.n → f j < m'.n ∧ m'.g (f j) = m.g j

section
variable {m m' : Mem} {f : Nat → Nat} {fl : Bool}
theorem Ren.at (Q : Ren m m' f fl) {t : T} {x : den t} {c : List Value} (hf : fl = true → flat t = true) (h : At m.w m.I t x c) : At m'.w m'.I t x c := by
  cases fl with
  | true => exact At.flat t x c (hf rfl) h
  | false => exact At.mono (fun b hb => ⟨Q.imm rfl b hb, by rw [Q.w]⟩) t x c h
theorem Ren.rl (Q : Ren m m' f fl) : ∀ (x : L) (c : List Value), (fl = true → flatL x = true) → (∀ id, x = .own id → m.live id) → Rl m x c → Rl m' (renL f x) c := by
  intro x c hf ho h
  cases x with
  | i | b | s | f | nil | np | nf => exact h
  | arr t n x => exact Q.at (t := .arr n t) (fun q => hf q) h
  | ro t xs => exact Q.at (t := .sl t) (fun q => by have := hf q; cases this) h
  | own id =>
    obtain ⟨h1, v, h2, h3, h4, h5⟩ := h
    obtain ⟨a, b⟩ := Q.r id h1
    exact ⟨a, v, h2, h3, h4, fun _ => by rw [b]; exact h5 (ho id rfl)⟩
  | ptr id off =>
    obtain ⟨h1, b, h2, h3⟩ := h
    obtain ⟨a, e⟩ := Q.r id h1
    exact ⟨a, b, by rw [e]; exact h2, h3⟩
  | fn q ids =>
    obtain ⟨h1, h2⟩ := h
    refine ⟨fun i hi => ?_, ?_⟩
    · obtain ⟨j, hj, rfl⟩ := List.mem_map.1 hi
      obtain ⟨a, e⟩ := Q.r j (h1 j hj).1
      exact ⟨a, by rw [e]; exact (h1 j hj).2⟩
    · rw [h2, List.map_map]
      congr 3
      exact List.map_congr_left fun i hi => ((Q.r i (h1 i hi).1).2).symm
  | sub id off n lo hi =>
    obtain ⟨h1, h2, h3, h4, b, h5, h6⟩ := h
    obtain ⟨a, e⟩ := Q.r id h1
    exact ⟨a, h2, h3, h4, b, by rw [e]; exact h5, h6⟩
theorem Ren.rls (Q : Ren m m' f fl) : ∀ {ls : List L} {s : List (List Value)}, (fl = true → ls.all flatL = true) → (∀ x ∈ ls, ∀ id, x = .own id → m.live id) → Al2 (Rl m) ls s → Al2 (Rl m') (ls.map (renL f)) s
  | [], [], _, _, _ => trivial
  | x :: ls, c :: s, hf, ho, ⟨a, b⟩ => ⟨Q.rl x c (fun q => by have := hf q; simp only [List.all_cons, Bool.and_eq_true] at this; exact this.1) (ho x (by simp)) a,
      Q.rls (fun q => by have := hf q; simp only [List.all_cons, Bool.and_eq_true] at this; exact this.2) (fun y hy => ho y (List.mem_cons_of_mem _ hy)) b⟩

def flatV : V → Bool
  | .one x => flatL x
  | .ag ls => ls.all flatL
  | _ => false
theorem ownOk_live {ps : Hm} {x : L} (hm : ∀ id, lives ps id → m.live id) (h : ownOkL ps x = true) : ∀ id, x = .own id → m.live id := fun id e => by
  subst e; exact hm id h
theorem Ren.rv (Q : Ren m m' f fl) {v : V} {val : Value} {ps : Hm} (hm : ∀ id, lives ps id → m.live id) (hf : fl = true → flatV v = true) (ho : ownOkV ps v = true) (h : Rv m v val) : Rv m' (renV f v) val := by
  cases v with
  | one x => exact Q.rl x _ hf (ownOk_live hm ho) h
  | ag ls => obtain ⟨s, h1, h2⟩ := h; exact ⟨s, h1, Q.rls hf (fun x hx => ownOk_live hm (List.all_eq_true.1 ho x hx)) h2⟩
  | _ => cases ho

def flatO : Ob → Bool
  | .blk _ ls => ls.all flatL
  | .rd _ ls => ls.all flatL
  | .arr _ t _ => flat t
  | .fix _ t _ => flat t
  | .gone => true
theorem Ren.ho (Q : Ren m m' f fl) {o : Ob} {v : Value} {ps : Hm} (hm : ∀ id, lives ps id → m.live id) (hf : fl = true → flatO o = true) (ho : ownOkO ps o = true) (h : Ho m v o) : Ho m' v (renO f o) := by
  cases o with
  | gone => trivial
  | blk ty ls => obtain ⟨b, s, h1, h2, h3⟩ := h; exact ⟨b, s, h1, by rw [Q.w]; exact h2, Q.rls hf (fun x hx => ownOk_live hm (List.all_eq_true.1 ho x hx)) h3⟩
  | rd ty ls => cases ho
  | arr ty t xs =>
    obtain ⟨ys, h1, h2⟩ := h
    refine ⟨ys, by rw [Q.w]; exact h1, h2.mono fun x c => Q.at hf⟩
  | fix => exact h.elim
end

/-! ### flatness of what is given -/
theorem flat_giveL {d : Dt} (h : flat d.1 = true) : flatL (giveL d) = true := by
  obtain ⟨t, x⟩ := d
  cases t <;> first | rfl | exact h | cases h
theorem flat_enc : ∀ (t : T) (x : den t), flat t = true → (enc t x).all flatL = true
  | .int _, _, _ => rfl
  | .bool, _, _ => rfl
  | .str, _, _ => rfl
  | .flt _, _, _ => rfl
  | .unit, _, _ => rfl
  | .pair a b, x, h => by
    simp only [Dor.flat, Bool.and_eq_true] at h
    simp only [enc, List.all_append, flat_enc a _ h.1, flat_enc b _ h.2, Bool.and_self]
  | .arr _ _, _, h => by simp only [enc, List.all_cons, List.all_nil, Bool.and_true, flatL]; exact h
  | .sl _, _, h => by cases h
theorem giveLd_flat {d : Ld} {l : List Dt} (hl : ∃ ds more, l = ds ++ more ∧ ds.map (·.1) = d.ts) (h : d.ts.all flat = true) : flatL (giveLd id d l).1 = true := by
  obtain ⟨ds, more, rfl, e⟩ := hl
  cases d with
  | im t =>
    cases ds with
    | nil => simp [Ld.ts] at e
    | cons x ds =>
      simp only [Ld.ts, List.map_cons, List.cons.injEq] at e
      simp only [Ld.ts, List.all_cons, List.all_nil, Bool.and_true] at h
      exact flat_giveL (by rw [e.1]; exact h)
  | _ => rfl
end Go.Dor
