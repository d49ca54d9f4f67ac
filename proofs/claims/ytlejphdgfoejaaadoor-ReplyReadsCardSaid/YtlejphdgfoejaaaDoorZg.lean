/- CALLS, to their end. Plain lemmas over any program. -/
import Derived.Test.YtlejphdgfoejaaaDoorZf
namespace Go.Dor
open Go.RowKit (Below)

theorem toL_types : ∀ (ts : List T) (x : HL ts), (toL ts x).map (·.1) = ts
  | [], _ => rfl
  | [t], _ => rfl
  | t :: u :: ts, x => by simp only [toL, List.map_cons, toL_types (u :: ts)]

theorem giveLds_flat : ∀ {d : List Ld} {ds : List Dt} (_ : ds.map (·.1) = Lds.ts d) (_ : (Lds.ts d).all flat = true), (giveLds id d ds).1.all flatL = true
  | [], ds, _, _ => rfl
  | x :: d, ds, e, h => by
    obtain ⟨l1, l2, rfl, h1, h2⟩ := map_split e
    simp only [Lds.ts, List.all_append, Bool.and_eq_true] at h
    simp only [giveLds, giveLd_app h1, List.all_cons, Bool.and_eq_true]
    exact ⟨giveLd_flat ⟨l1, [], by simp, h1⟩ h.1, giveLds_flat h2 h.2⟩
theorem giveVd_flat {d : Vd} {ds : List Dt} (e : ds.map (·.1) = d.ts) (h : d.flat = true) : flatV (giveVd id d ds).1 = true := by
  cases d with
  | one x => exact giveLd_flat ⟨ds, [], by simp, e⟩ h
  | ag ls => exact giveLds_flat e h
  | st t =>
    cases ds with
    | nil => simp [Vd.ts] at e
    | cons x ds =>
      simp only [Vd.ts, List.map_cons, List.cons.injEq] at e
      have h : flat t = true := h
      simp only [giveVd, flatV]
      exact flat_enc _ _ (by rw [e.1]; exact h)
theorem giveVd_leaves {d : Vd} {ds : List Dt} (e : ds.map (·.1) = d.ts) : ∃ ls, leaves (giveVd id d ds).1 = some ls := by
  cases d with
  | one x => exact ⟨_, rfl⟩
  | ag ls => exact ⟨_, rfl⟩
  | st t =>
    cases ds with
    | nil => simp [Vd.ts] at e
    | cons x ds => exact ⟨_, rfl⟩
theorem giveVds_all : ∀ {d : List Vd} {ds : List Dt} (_ : ds.map (·.1) = Vds.ts d), ∀ v ∈ (giveVds id d ds).1, (∃ ls, leaves v = some ls) ∧ (d.all Vd.flat = true → flatV v = true)
  | [], ds, _, v, hv => by cases hv
  | x :: d, ds, e, v, hv => by
    obtain ⟨l1, l2, rfl, h1, h2⟩ := map_split e
    simp only [giveVds, giveVd_app h1, List.mem_cons] at hv
    rcases hv with rfl | hv
    · exact ⟨giveVd_leaves h1, fun h => giveVd_flat h1 (by simp only [List.all_cons, Bool.and_eq_true] at h; exact h.1)⟩
    · have := giveVds_all h2 v hv
      exact ⟨this.1, fun h => this.2 (by simp only [List.all_cons, Bool.and_eq_true] at h; exact h.2)⟩
theorem giveOd_flat {d : Od} {ds : List Dt} (e : ds.map (·.1) = d.ts) (h : d.flat = true) : flatO (giveOd id d ds).1 = true := by
  cases d with
  | blk ty ls => exact giveLds_flat e h
  | rd ty ls => exact giveLds_flat e h
  | blkT ty t | rdT ty t =>
    cases ds with
    | nil => simp [Od.ts] at e
    | cons x ds =>
      simp only [Od.ts, List.map_cons, List.cons.injEq] at e
      have h : flat t = true := by simpa [Od.flat, Od.ts] using h
      exact flat_enc _ _ (by rw [e.1]; exact h)
  | arr ty t | fix ty t =>
    cases ds with
    | nil => simp [Od.ts] at e
    | cons x ds =>
      obtain ⟨t', x⟩ := x
      simp only [Od.ts, List.map_cons, List.cons.injEq] at e
      obtain ⟨e, _⟩ := e
      subst e
      exact h
  | gone => rfl
theorem giveOds_all : ∀ {d : List Od} {ds : List Dt} (_ : ds.map (·.1) = Ods.ts d) (_ : d.all Od.flat = true), ∀ o ∈ (giveOds id d ds).1, flatO o = true
  | [], ds, _, _, o, hv => by cases hv
  | x :: d, ds, e, h, o, hv => by
    obtain ⟨l1, l2, rfl, h1, h2⟩ := map_split e
    simp only [List.all_cons, Bool.and_eq_true] at h
    simp only [giveOds, giveOd_app h1, List.mem_cons] at hv
    rcases hv with rfl | hv
    · exact giveOd_flat h1 h.1
    · exact giveOds_all h2 h.2 o hv
theorem given_types (d : Ds) (x : HL d.ts) : ∃ l1 l2, toL d.ts x = l1 ++ l2 ∧ l1.map (·.1) = Vds.ts d.vals ∧ l2.map (·.1) = Ods.ts d.objs ∧ givenV d id x = ((giveVds id d.vals l1).1, l2) ∧ givenO d id x = (giveOds id d.objs l2).1 := by
  obtain ⟨l1, l2, h, h1, h2⟩ := map_split (toL_types d.ts x)
  have e1 : givenV d id x = ((giveVds id d.vals l1).1, l2) := by unfold givenV; rw [h, giveVds_app h1]
  exact ⟨l1, l2, h, h1, h2, e1, by unfold givenO; rw [e1]⟩
theorem giveOds_len : ∀ (d : List Od) (l : List Dt), (giveOds id d l).1.length = d.length
  | [], _ => rfl
  | x :: d, l => by simp only [giveOds, List.length_cons, giveOds_len d]
theorem givenO_len (d : Ds) (x : HL d.ts) : (givenO d id x).length = d.objs.length := giveOds_len _ _

/-! ### objects that come back -/
def isRdO : Od → Bool
  | .rd .. => true
  | .rdT .. => true
  | _ => false
theorem putOld_len {f : Nat → Nat} {fl : Bool} : ∀ (j : Nat) (ps : List Od) (os h : Hm), (putOld f fl j ps os h).length = h.length
  | j, [], os, h => by simp [putOld]
  | j, p :: ps, [], h => by cases p <;> simp [putOld]
  | j, p :: ps, o :: os, h => by
    cases p <;> simp only [putOld] <;> rw [putOld_len] <;> first | simp | (cases fl <;> simp)
theorem putOld_ne {f : Nat → Nat} {fl : Bool} {id : Nat} : ∀ (j : Nat) (ps : List Od) (os h : Hm), (∀ i, j ≤ i → i < j + ps.length → f i ≠ id) → (putOld f fl j ps os h)[id]? = h[id]?
  | j, [], os, h, _ => by simp [putOld]
  | j, p :: ps, [], h, _ => by cases p <;> simp [putOld]
  | j, p :: ps, o :: os, h, hne => by
    have h0 := hne j (Nat.le_refl _) (by simp)
    have ih := fun h => putOld_ne (f := f) (fl := fl) (id := id) (j + 1) ps os h fun i h1 h2 => hne i (by omega) (by simp only [List.length_cons]; omega)
    cases p <;> simp only [putOld] <;> rw [ih]
    all_goals first | (rw [List.getElem?_set, if_neg h0]) | (cases fl <;> simp [h0])
theorem putOld_at {f : Nat → Nat} {fl : Bool} {id : Nat} : ∀ (j : Nat) (ps : List Od) (os h : Hm) (i : Nat) (p : Od) (o : Ob), ps[i]? = some p → os[i]? = some o → f (j + i) = id → (∀ a b, j ≤ a → a < j + ps.length → j ≤ b → b < j + ps.length → f a = f b → a = b) → id < h.length →
    (putOld f fl j ps os h)[id]? = if isRdO p then (if fl then h[id]? else h[id]?.map asRd) else some o
  | j, [], os, h, i, p, o, h1, _, _, _, _ => by simp at h1
  | j, q :: ps, [], h, i, p, o, _, h2, _, _, _ => by simp at h2
  | j, q :: ps, o' :: os, h, 0, p, o, h1, h2, h3, h4, h5 => by
    simp at h1 h2
    subst h1 h2
    have hne : ∀ i, j + 1 ≤ i → i < j + 1 + ps.length → f i ≠ id := fun i a b e => by
      have := h4 i j (by omega) (by simp only [List.length_cons]; omega) (Nat.le_refl _) (by simp) (by rw [e]; exact h3.symm)
      omega
    rw [Nat.add_zero] at h3
    subst h3
    cases q <;> simp only [putOld, isRdO] <;> rw [putOld_ne _ _ _ _ hne]
    all_goals first | (simp [h5]; done) | (cases fl <;> simp [h5])
  | j, q :: ps, o' :: os, h, i + 1, p, o, h1, h2, h3, h4, h5 => by
    simp at h1 h2
    have hj : f j ≠ id := fun e => by
      have hlt : i < ps.length := (List.getElem?_eq_some_iff.1 h1).1
      have := h4 j (j + (i + 1)) (Nat.le_refl _) (by simp) (by omega) (by simp only [List.length_cons]; omega) (by rw [e, h3])
      omega
    have ih := fun (h : Hm) (h5 : id < h.length) => putOld_at (f := f) (fl := fl) (id := id) (j + 1) ps os h i p o h1 h2 (by rw [← h3]; congr 1; omega) (fun a b a1 a2 b1 b2 => h4 a b (by omega) (by simp only [List.length_cons]; omega) (by omega) (by simp only [List.length_cons]; omega)) h5
    cases q <;> simp only [putOld] <;> rw [ih _ (by first | simpa using h5 | (cases fl <;> simpa using h5))]
    all_goals first | (rw [List.getElem?_set, if_neg hj]) | (cases fl <;> simp [hj])

theorem pre_live {d : Od} {l : List Dt} (e : l.map (·.1) = d.ts) : liveO (some (giveOd id d l).1) = odLive d := by
  cases d with
  | blkT ty t | rdT ty t =>
    cases l with
    | nil => simp [Od.ts] at e
    | cons x l => rfl
  | arr ty t | fix ty t =>
    cases l with
    | nil => simp [Od.ts] at e
    | cons x l => 
      obtain ⟨t', x⟩ := x
      simp only [Od.ts, List.map_cons, List.cons.injEq] at e
      obtain ⟨e, _⟩ := e
      subst e
      rfl
  | _ => rfl
theorem giveOds_live : ∀ {d : List Od} {l : List Dt} (_ : l.map (·.1) = Ods.ts d) (i : Nat), liveO (giveOds id d l).1[i]? = ((d[i]?).map odLive).getD false
  | [], l, _, i => by simp [giveOds, liveO]
  | x :: d, l, e, i => by
    obtain ⟨l1, l2, rfl, h1, h2⟩ := map_split e
    simp only [giveOds, giveOd_app h1]
    cases i with
    | zero => simp [pre_live h1]
    | succ i => simp [giveOds_live h2 i]
end Go.Dor
