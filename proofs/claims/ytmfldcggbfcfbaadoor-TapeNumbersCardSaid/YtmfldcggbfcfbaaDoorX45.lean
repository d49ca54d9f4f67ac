/- THE ROW, AND WHAT IT STANDS ON: the texts Zl Ta Zm R4, one behind the other. -/
import Derived.Test.YtmfldcggbfcfbaaDoorX43
import Derived.ProofKit
import Derived.OpenShut
import Derived.Test.YtmfldcggbfcfbaaDoorX44
import Derived.WideShapes
import Derived.Test.YtmfldcggbfcfbaaDoorRows
import Derived.SizedLaws
import Derived.ChangeSame
import Derived.ChangeVars
import Derived.JoinedOf
import Derived.LaidLaws
import Derived.LaidHandle
import Derived.Lib.LaidIn
import Derived.Handed
import Derived.Test.YtmfldcggbfcfbaaDoorTie
import Derived.Test.YtmfldcggbfcfbaaDoorCards
import Derived.SevenTiedAt
section
/- WHAT A CALLER HANDS IN, AS DATA; a law of data, called. Plain lemmas over any program. -/
namespace Go.Dor
open Go.RowKit (Below)

def chainF (P : Program) : Nat → List Field → Option Nat
  | o, [] => some o
  | o, f :: l => bif Nat.beq f.offset o then chainF P (o + P.cellsOf f.type) l else none
/-- types of data whose parts lie one behind the other -/
def tiled (P : Program) : Nat → TypeId → Bool
  | 0, _ => false
  | n + 1, t =>
    match P.underlying t with
    | some (.int _) | some .bool | some .string => true
    | some (.array m e) => Nat.beq (P.cellsOf t) (m * P.cellsOf e) && tiled P n e
    | some (.slice e) => Nat.blt 0 (P.cellsOf e) && tiled P n e
    | some (.struct fs) => (match chainF P 0 fs.toList with | some s => Nat.beq s (P.cellsOf t) | none => false) && fs.toList.all (fun f => tiled P n f.type)
    | _ => false

theorem pieces {α : Type} {Q : α → List Value → Prop} (k : Nat) : ∀ (m : Nat) (cs : List Value), cs.length = m * k → (∀ i, i < m → ∃ d, Q d ((cs.drop (i * k)).take k)) → ∃ (l : List α) (ys : List (List Value)), l.length = m ∧ cs = ys.flatten ∧ Al2 Q l ys
  | 0, cs, hl, _ => ⟨[], [], rfl, by simpa using hl, trivial⟩
  | m + 1, cs, hl, h => by
    obtain ⟨d, hd⟩ := h 0 (by omega)
    have hl' : (cs.drop k).length = m * k := by rw [List.length_drop, hl, Nat.add_mul]; omega
    obtain ⟨l, ys, h1, h2, h3⟩ := pieces k m (cs.drop k) hl' fun i hi => by
      obtain ⟨d, hd⟩ := h (i + 1) (by omega)
      refine ⟨d, ?_⟩
      rw [List.drop_drop]
      have : k + i * k = (i + 1) * k := by rw [Nat.add_mul]; omega
      rw [this]; exact hd
    refine ⟨d :: l, cs.take k :: ys, by simp [h1], ?_, ?_, h3⟩
    · rw [List.flatten_cons, ← h2, List.take_append_drop]
    · simpa using hd

/-- data that a program can hold: each number fits its kind -/
def okD : (t : T) → den t → Prop
  | .int k, n => (Lit.int k n).wf = true
  | .pair a b, x => okD a x.1 ∧ okD b x.2
  | .arr _ e, x => ∀ y ∈ x.toList, okD e y
  | .sl e, x => x.length ≤ 9223372036854775807 ∧ ∀ y ∈ x, okD e y
  | .str, _ => True
  | .bool, _ => True
  | .flt _, _ => True
  | .unit, _ => True
theorem al2_split {α β : Type} {Q : α → β → Prop} {R : α → Prop} : ∀ {l : List α} {m : List β}, Al2 (fun a b => Q a b ∧ R a) l m → Al2 Q l m ∧ ∀ a ∈ l, R a
  | [], [], _ => ⟨trivial, by simp⟩
  | a :: l, b :: m, h => by
    obtain ⟨h1, h2⟩ := al2_split (l := l) (m := m) h.2
    exact ⟨⟨h.1.1, h1⟩, fun x hx => (List.mem_cons.1 hx).elim (fun e => e ▸ h.1.2) (h2 x)⟩

theorem list_of {α : Type} {Q : Nat → α → Prop} : ∀ (n : Nat), (∀ i, i < n → ∃ p, Q i p) → ∃ l : List α, l.length = n ∧ ∀ i p, l[i]? = some p → Q i p
  | 0, _ => ⟨[], rfl, by simp⟩
  | n + 1, h => by
    obtain ⟨l, h1, h2⟩ := list_of n fun i hi => h i (by omega)
    obtain ⟨p, hp⟩ := h n (by omega)
    refine ⟨l ++ [p], by simp [h1], fun i q hq => ?_⟩
    by_cases hlt : i < n
    · rw [List.getElem?_append_left (by omega)] at hq; exact h2 i q hq
    · have hi : i < (l ++ [p]).length := (List.getElem?_eq_some_iff.1 hq).1
      have : i = n := by simp [h1] at hi; omega
      subst this
      rw [List.getElem?_append_right (by omega), h1] at hq
      simp at hq; subst hq; exact hp

theorem al2_of {α β : Type} {Q : α → β → Prop} : ∀ (l : List (α × β)), (∀ (i : Nat) p, l[i]? = some p → Q p.1 p.2) → Al2 Q (l.map (·.1)) (l.map (·.2))
  | [], _ => trivial
  | p :: l, h => ⟨h 0 p rfl, al2_of l fun i q hq => h (i + 1) q hq⟩

section
variable {H : Type} {enc : TypeId × Value → H} {P : Program} {w : World} {spare : Nat → Bool} {held : Bool}

theorem fields_at {I : Nat → Prop} {cs : List Value} {n s : Nat} : ∀ (l : List Field) (o : Nat) (cl : List T), chainF P o l = some s → cs.length = s → (∀ c, codeT P n 0 = c → True) →
    l.foldr (fun f acc => match codeT P n f.type, acc with | some a, some l => some (a :: l) | _, _ => none) (some []) = some cl →
    (∀ f ∈ l, ∀ c, codeT P n f.type = some c → ∃ d : den c, At w I c d ((cs.drop f.offset).take (P.cellsOf f.type)) ∧ okD c d) → ∃ d : den (mkT cl), At w I (mkT cl) d (cs.drop o) ∧ okD (mkT cl) d
  | [], o, cl, hc, hl, _, hf, _ => by
    cases hf
    simp only [chainF, Option.some.injEq] at hc
    exact ⟨(), List.drop_eq_nil_of_le (by omega), trivial⟩
  | [f], o, cl, hc, hl, _, hf, h => by
    simp only [chainF, cond_eq_ite] at hc
    split at hc
    · rename_i ho
      have ho := Nat.eq_of_beq_eq_true ho
      simp only [Option.some.injEq] at hc
      simp only [List.foldr_cons, List.foldr_nil] at hf
      split at hf
      · rename_i a l' ha hl'
        cases hf; cases hl'
        obtain ⟨d, hd, hk⟩ := h f (by simp) a ha
        refine ⟨d, ?_, hk⟩
        rw [ho, List.take_of_length_le (by rw [List.length_drop]; omega)] at hd
        exact hd
      · cases hf
    · cases hc
  | f :: f2 :: l, o, cl, hc, hl, ht, hf, h => by
    rw [chainF, cond_eq_ite] at hc
    split at hc
    · rename_i ho
      have ho := Nat.eq_of_beq_eq_true ho
      rw [List.foldr_cons] at hf
      split at hf
      · rename_i a l' ha hl'
        cases hf
        obtain ⟨d, hd, hk⟩ := h f (by simp) a ha
        obtain ⟨d2, hd2, hk2⟩ := fields_at (f2 :: l) _ l' hc hl ht hl' fun g hg => h g (List.mem_cons_of_mem _ hg)
        have hne : ∃ b r, l' = b :: r := by
          rw [List.foldr_cons] at hl'
          split at hl'
          · cases hl'; exact ⟨_, _, rfl⟩
          · cases hl'
        obtain ⟨b, r, rfl⟩ := hne
        refine ⟨(d, d2), ⟨_, _, ?_, hd, hd2⟩, hk, hk2⟩
        rw [ho, ← List.drop_drop, List.take_append_drop]
      · cases hf
    · cases hc

theorem cell_heap {b o : Nat} {y : Value} (hc : w.cell? ⟨b, o, none⟩ = some y) : ∃ cur t fz, w.heap[b]? = some (.cells cur t fz) := by
  simp only [World.cell?] at hc
  split at hc
  · rename_i cur t fz hb
    exact ⟨_, _, _, hb⟩
  · cases hc

theorem mapM_get {α β : Type} {f : α → Option β} : ∀ {l0 : List α} {l : List β}, l0.mapM f = some l → l.length = l0.length ∧ ∀ (i : Nat) a, l0[i]? = some a → f a = l[i]?
  | [], l, h => by
    simp only [List.mapM_nil] at h
    cases h
    exact ⟨rfl, by simp⟩
  | a :: l0, l, h => by
    rw [List.mapM_cons] at h
    cases ha : f a with
    | none => rw [ha] at h; cases h
    | some b =>
      rw [ha] at h
      cases hl : l0.mapM f with
      | none => rw [hl] at h; cases h
      | some bs =>
        rw [hl] at h
        have h : some (b :: bs) = some l := h
        cases h
        obtain ⟨h1, h2⟩ := mapM_get hl
        refine ⟨by simp [h1], fun i x hx => ?_⟩
        cases i with
        | zero => simp at hx; subst hx; simpa using ha
        | succ i => simp at hx; simpa using h2 i x hx
theorem cells_get {base k : Nat} {a : Addr} {l : List Value} (h : w.cells? base a k = some l) : l.length = k ∧ ∀ i, i < k → w.cell? (a.add i) = l[i]? := by
  unfold World.cells? at h
  split at h
  · obtain ⟨h1, h2⟩ := mapM_get h
    exact ⟨by simpa using h1, fun i hi => h2 i i (by simp [hi])⟩
  · cases h

/-- what a caller hands in reads as data -/
theorem trod_at (hsp : ∀ b, spare b = true) : ∀ (n : Nat) (t : TypeId) (c : T) (fuel : Nat) (cs : List Value) (x : DataW H × List MemPlace), codeT P n t = some c → tiled P n t = true →
    DataW.trod enc P w 0 spare held fuel t cs = some x → ∃ d : den c, At w (fun b => b < w.heap.size) c d cs ∧ okD c d
  | 0, t, c, fuel, cs, x, hc, _, _ => by cases hc
  | n + 1, t, c, fuel, cs, x, hc, hd, h => by
    unfold codeT at hc
    unfold tiled at hd
    split at hc
    · rename_i k ht
      cases hc
      obtain ⟨y, rfl, _, hwf⟩ := DataW.trod_int ht h
      exact ⟨y, rfl, hwf⟩
    · rename_i ht
      cases hc
      obtain ⟨y, rfl, _⟩ := DataW.trod_bool ht h
      exact ⟨y, rfl, trivial⟩
    · rename_i ht
      cases hc
      obtain ⟨y, rfl, _⟩ := DataW.trod_string ht h
      exact ⟨y.data.toList, by simp [At, sv], trivial⟩
    · rename_i k ht
      rw [ht] at hd; cases hd
    · rename_i m e ht
      rw [ht] at hd
      simp only [Bool.and_eq_true] at hd
      obtain ⟨hd1, hd2⟩ := hd
      have hd1 := Nat.eq_of_beq_eq_true hd1
      split at hc
      · rename_i ce hce
        cases hc
        obtain ⟨xs, q, _, _, h1, h2, h3⟩ := DataW.trod_array ht h
        obtain ⟨l, ys, k1, k2, k3⟩ := pieces (Q := fun d y => At w (fun b => b < w.heap.size) ce d y ∧ okD ce d) (P.cellsOf e) m cs (by rw [h1, hd1]) fun i hi => by
          have := h3 i hi
          rw [List.getElem?_eq_getElem (by omega)] at this
          exact trod_at hsp n e ce _ _ _ hce hd2 this
        obtain ⟨k3, k4⟩ := al2_split k3
        refine ⟨⟨l.toArray, by simpa using k1⟩, ⟨ys, k2, ?_⟩, fun y hy => k4 y (by simpa using hy)⟩
        simpa using k3
      · cases hc
    · rename_i e ht
      rw [ht] at hd
      simp only [Bool.and_eq_true] at hd
      obtain ⟨hd1, hd2⟩ := hd
      have hd1 : 0 < P.cellsOf e := by simpa [Nat.blt_eq] using hd1
      split at hc
      · rename_i ce hce
        cases hc
        rcases DataW.trod_slice ht h with ⟨rfl, _⟩ | ⟨a, len, cap, elems, rest, q, _, rfl, _, _, hlc, hcm, hel, he, hrest, _⟩
        · exact ⟨[], ⟨_, rfl, [], ⟨by simp, .inl ⟨⟨none, rfl⟩, rfl⟩⟩, trivial, by simp [vfoot]⟩, Nat.zero_le _, fun y hy => by cases hy⟩
        · obtain ⟨hr1, hr2⟩ := hrest (hsp _)
          by_cases hcap : cap = 0
          · subst hcap
            have hl0 : len = 0 := by omega
            subst hl0
            exact ⟨[], ⟨_, rfl, [], ⟨by simp, .inl ⟨⟨_, rfl⟩, rfl⟩⟩, trivial, by simp [vfoot]⟩, Nat.zero_le _, fun y hy => by cases hy⟩
          · -- a cell is there
            have h0 : ∃ y, w.cell? (a.add 0) = some y := by
              have key : ∀ {o : Option (DataW H × List MemPlace)} {i : Nat}, i = 0 → (w.cells? 0 (a.add (i * P.cellsOf e)) (P.cellsOf e)).bind (DataW.trod enc P w 0 spare held q e) = o → o.isSome = true → ∃ y, w.cell? (a.add 0) = some y := by
                intro o i hi hb ho
                subst hi
                cases hcl : w.cells? 0 (a.add (0 * P.cellsOf e)) (P.cellsOf e) with
                | none => rw [hcl] at hb; subst hb; cases ho
                | some l =>
                  obtain ⟨k1, k2⟩ := cells_get hcl
                  have := k2 0 hd1
                  rw [List.getElem?_eq_getElem (by omega)] at this
                  exact ⟨l[0]'(by omega), by simpa [Addr.add] using this⟩
              by_cases hl0 : len = 0
              · exact key (i := len + 0) (by omega) (hr2 0 (by omega)) (by rw [List.getElem?_eq_getElem (by omega)]; rfl)
              · exact key (i := 0) rfl (he 0 (by omega)) (by rw [List.getElem?_eq_getElem (by omega)]; rfl)
            obtain ⟨y0, hy0⟩ := h0
            have hspot := World.cell?_spot hy0
            obtain ⟨b, off, spot⟩ := a
            have hspot : spot = none := by simpa [Addr.add] using hspot
            subst hspot
            have hadd : ∀ i, (⟨b, off, none⟩ : Addr).add i = ⟨b, off + i, none⟩ := fun i => by simp [Addr.add]
            have hadd2 : ∀ o i, (⟨b, o, none⟩ : Addr).add i = ⟨b, o + i, none⟩ := fun o i => by simp [Addr.add]
            rw [hadd] at hy0
            obtain ⟨cur, bt, fz, hb⟩ := cell_heap hy0
            obtain ⟨l, k1, k2⟩ := list_of (α := den ce × List Value) (Q := fun i p => (At w (fun b => b < w.heap.size) ce p.1 p.2 ∧ okD ce p.1) ∧ p.2.length = P.cellsOf e ∧ ∀ j, j < P.cellsOf e → cur[off + (i * P.cellsOf e + j)]? = p.2[j]?) len fun i hi => by
              have h1 := he i hi
              rw [List.getElem?_eq_getElem (by omega)] at h1
              cases hcl : w.cells? 0 ((⟨b, off, none⟩ : Addr).add (i * P.cellsOf e)) (P.cellsOf e) with
              | none => rw [hcl] at h1; cases h1
              | some cl =>
                rw [hcl] at h1
                obtain ⟨d, hdd⟩ := trod_at hsp n e ce _ _ _ hce hd2 h1
                obtain ⟨k1, k2⟩ := cells_get hcl
                refine ⟨(d, cl), hdd, k1, fun j hj => ?_⟩
                have := k2 j hj
                rw [← this, hadd2, hadd2, World.cell?, hb]
                simp [Nat.add_assoc]
            have hal := al2_of (Q := fun d y => At w (fun b => b < w.heap.size) ce d y ∧ okD ce d) l fun i p hp => (k2 i p hp).1
            obtain ⟨hal, hok⟩ := al2_split hal
            refine ⟨l.map (·.1), ⟨_, rfl, l.map (·.2), ⟨fun y hy => ?_, .inr ⟨b, off, cap, cur, bt, fz, by simp [k1], by simpa [k1] using hlc, hb, fun j y hj => ?_⟩⟩, hal, fun q hq => ?_⟩, by rw [List.length_map, k1]; unfold maxLen at hcm; omega, fun y hy => hok y hy⟩
            · obtain ⟨z, hz⟩ := List.getElem?_of_mem hy
              obtain ⟨d, _, hQ⟩ : ∃ d : den ce, True ∧ At w (fun b => b < w.heap.size) ce d y := by
                rw [List.getElem?_map] at hz
                cases hlz : l[z]? with
                | none => rw [hlz] at hz; cases hz
                | some p => rw [hlz] at hz; cases hz; exact ⟨p.1, trivial, (k2 z p hlz).1.1⟩
              exact At.len _ _ _ hQ
            · have hz : ∀ y ∈ l.map (·.2), y.length = P.cellsOf e := fun y hy => by
                obtain ⟨p, hp, rfl⟩ := List.mem_map.1 hy
                obtain ⟨z, hz⟩ := List.getElem?_of_mem hp
                exact (k2 z p hz).2.1
              have hjl := (List.getElem?_eq_some_iff.1 hj).1
              have hfl : (l.map (·.2)).flatten.length = l.length * P.cellsOf e := by
                have : ∀ (ys : List (List Value)), (∀ y ∈ ys, y.length = P.cellsOf e) → ys.flatten.length = ys.length * P.cellsOf e := by
                  intro ys
                  induction ys with
                  | nil => simp
                  | cons y ys ih =>
                    intro h
                    rw [List.flatten_cons, List.length_append, ih fun z hz => h z (List.mem_cons_of_mem _ hz), h y (by simp), List.length_cons, Nat.add_mul]; omega
                rw [this _ hz, List.length_map]
              have hdiv : j / P.cellsOf e < l.length := Nat.div_lt_of_lt_mul (by rw [Nat.mul_comm]; omega)
              have hmod : j % P.cellsOf e < P.cellsOf e := Nat.mod_lt _ hd1
              have hp : l[j / P.cellsOf e]? = some l[j / P.cellsOf e] := List.getElem?_eq_getElem hdiv
              obtain ⟨_, _, h5⟩ := k2 _ _ hp
              have h6 := flat_at hz (j := j / P.cellsOf e) (k := j % P.cellsOf e) (x := (l[j / P.cellsOf e]).2) (by rw [List.getElem?_map, hp]; rfl) hmod
              have hjj : j / P.cellsOf e * P.cellsOf e + j % P.cellsOf e = j := by rw [Nat.mul_comm]; exact Nat.div_add_mod _ _
              have h7 := h5 _ hmod
              rw [hjj] at h6 h7
              rw [h7, ← h6]; exact hj
            · simp only [vfoot, hcap, if_false, Option.some.injEq] at hq
              subst hq
              exact (Array.getElem?_eq_some_iff.1 hb).1
      · cases hc
    · rename_i fs ht
      rw [ht] at hd
      simp only [Bool.and_eq_true] at hd
      obtain ⟨hd1, hd2⟩ := hd
      split at hc
      · rename_i cl hcl
        cases hc
        split at hd1
        · rename_i s hs
          have hd1 := Nat.eq_of_beq_eq_true hd1
          obtain ⟨xs, q, _, _, h1, h2, h3⟩ := DataW.trod_struct ht h
          have := fields_at (w := w) (I := fun b => b < w.heap.size) (cs := cs) (n := n) fs.toList 0 cl hs (by rw [h1, hd1]) (fun _ _ => trivial) hcl fun f hf c hc => by
            obtain ⟨i, hi⟩ := List.getElem?_of_mem hf
            have hi' : fs[i]? = some f := by simpa using hi
            have h4 := h3 i f hi'
            have hlt : i < fs.size := (Array.getElem?_eq_some_iff.1 hi').1
            rw [List.getElem?_eq_getElem (by omega)] at h4
            exact trod_at hsp n f.type c _ _ _ hc (List.all_eq_true.1 hd2 f hf) h4
          simpa using this
        · cases hd1
      · cases hc
    · cases hc

end
end Go.Dor
namespace Go.Dor
open Go.RowKit (Below)
section
variable {H : Type} {enc : TypeId × Value → H} {P : Program} {w w' : World}

/-- all that stands at the beginning may be read -/
noncomputable def m0 (w : World) : Mem := memOf (lentOf [] fun _ => undef) (fun _ => True) w [] (fun _ => undef) w

theorem m0_imm {b : Nat} (h : b < w.heap.size) : (m0 w).I b := ⟨h, .inr (.inl trivial), fun id hid => by simp [lives, liveO] at hid⟩
theorem at_m0 {c : T} {d : den c} {cs : List Value} (h : At w (fun b => b < w.heap.size) c d cs) : At (m0 w).w (m0 w).I c d cs := At.mono (fun _ hb => ⟨m0_imm hb, rfl⟩) _ _ _ h

theorem arg_ok {t : TypeId} {v : Value} {d : DataW H} {p : List MemPlace} {c : T} (h : DataW.Trod enc P w 0 (fun _ => true) true t v d p) (hc : codeT P depth t = some c) (ht : tiled P depth t = true) : ∃ a : den c, At (m0 w).w (m0 w).I c a v.cells.toList ∧ okD c a := by
  obtain ⟨fuel, h⟩ := h
  obtain ⟨a, ha, hk⟩ := trod_at (fun _ => rfl) _ _ _ _ _ _ hc ht h
  exact ⟨a, at_m0 ha, hk⟩
theorem arg_at {t : TypeId} {v : Value} {d : DataW H} {p : List MemPlace} {c : T} (h : DataW.Trod enc P w 0 (fun _ => true) true t v d p) (hc : codeT P depth t = some c) (ht : tiled P depth t = true) : ∃ a : den c, At (m0 w).w (m0 w).I c a v.cells.toList := by
  obtain ⟨a, ha, _⟩ := arg_ok h hc ht
  exact ⟨a, ha⟩

theorem rv_ag {c : T} {a : den c} {v : Value} {cs : Array Value} (hv : v = .agg cs) (h : At (m0 w).w (m0 w).I c a v.cells.toList) : Rv (m0 w) (.ag (Dor.enc c a)) v := by
  obtain ⟨s, h1, h2⟩ := At.enc _ _ _ h
  refine ⟨s, ?_, h2⟩
  subst hv
  have h1 : cs.toList = s.flatten := h1
  simp [ag, cells, ← h1]

/-- a law of data, called -/
theorem law_calls {f : FuncId} {vd : List Vd} {q : HL (Ds.ts ⟨vd, []⟩) → Option (HL (Ds.ts ⟨[.one (.im .bool)], []⟩))} (hS : Entry.Sound P f ⟨⟨vd, []⟩, ⟨[.one (.im .bool)], []⟩, q⟩) {vals : List Value} {x : HL (Ds.ts ⟨vd, []⟩)}
    (hv : Al2 (Rv (m0 w)) (givenV ⟨vd, []⟩ id x).1 vals) (hq : q x = some true) : Calls P f vals.toArray w fun e w' => e = .returned (.bool true) ∧ Below w.heap.size w w' := by
  have hg : givenO ⟨vd, []⟩ id x = [] := rfl
  have hs : Start ⟨vd, []⟩ x (fun _ => True) w (fun _ => undef) vals := by
    refine ⟨?_, hv⟩
    refine ⟨rfl, rfl, rfl, Nat.le_refl _, fun _ _ _ => rfl, fun b _ => ?_, fun id o hid => ?_, fun id hid => ?_, fun i j hi => ?_⟩
    · rintro ⟨i, hi, _⟩
      rw [hg] at hi
      simp [lives, liveO] at hi
    · rw [hg] at hid; simp at hid
    · rw [hg] at hid; simp [lives, liveO] at hid
    · rw [hg] at hi; simp [lives, liveO] at hi
  refine (hS.out x true hq (fun _ => True) w (fun _ => undef) vals hs).mono fun e w' ⟨vs, g', he, R', hv', _⟩ => ?_
  have hv' : Al2 (Rv (memOf (lentOf (givenO ⟨vd, []⟩ id x) fun _ => undef) (fun _ => True) w (givenO ⟨[.one (.im .bool)], []⟩ id true) g' w')) [.one (.b true)] vs := hv'
  obtain ⟨v, vs, rfl, h1, h2⟩ := hv'.cons_left
  have := h2.nil_left
  subst this
  have h1 := rv_bool h1
  subst h1
  refine ⟨he, R'.os, R'.tape, R'.output, R'.size, fun b hb => R'.old b hb ?_⟩
  rintro ⟨i, hi, _⟩
  have hg' : lives ([] : Hm) i := hi
  simp [lives, liveO] at hg'

theorem trodAll_stays (hl : laidOutB P = true) (hb : Below w.heap.size w w') : ∀ {ts : List TypeId} {vs : List Value} {ds : List (DataW H)} {ps : List MemPlace}, (∀ t ∈ ts, P.readableRec t = true ∧ t < P.types.size) →
    DataW.TrodAll enc P w 0 (fun _ => true) true ts vs ds ps → (∀ x ∈ ps, x.block < w.heap.size) → DataW.TrodAll enc P w' 0 (fun b => decide (b < w.heap.size)) true ts vs ds ps
  | [], [], [], _, _, h, _ => h
  | t :: ts, v :: vs, d :: ds, ps, hr, h, hlt => by
    obtain ⟨p, q, h1, h2, rfl⟩ := h
    exact ⟨p, q, Go.RowKit.Below.trod hl (hr t (by simp)).1 (hr t (by simp)).2 h1 hb (fun x hx => hlt x (List.mem_append_left _ hx)), trodAll_stays hl hb (fun u hu => hr u (List.mem_cons_of_mem _ hu)) h2 (fun x hx => hlt x (List.mem_append_right _ hx)), rfl⟩

end
end Go.Dor
end

section
/- NUMBERS OF SCRIPTS: the law of the number of any text, plain. -/
set_option linter.unusedVariables false
set_option linter.unusedSimpArgs false
namespace Go.Dor.Tp
open Go.Proofs

set_option maxRecDepth 100000 in
theorem awake40 : p_dormouselaw40_awake 2000 = some true := by kernel_rfl
theorem sub_one10i {n : Nat} (hn : n < 10) : sub_ DIG10 (n : Int) (IntKind.wrap .i64 ((n : Int) + 1)) = [dig n] := by
  have e : IntKind.wrap .i64 ((n : Int) + 1) = ((n + 1 : Nat) : Int) := by rw [wrap_i64 (by omega)]; omega
  have e2 : IntKind.wrap .u64 ((n : Int) + 1) = ((n + 1 : Nat) : Int) := by rw [wrap_u64]; omega
  rw [e, ← e2]; exact sub_one10 hn
theorem tdec_go {k' : Nat} : ∀ (j k n : Nat) (s : List UInt8), n < 10 ^ j → n < 9223372036854775807 → j < k → s.length + j < 1000000 →
    loopC (fun (r : Int × List UInt8 → Option (List UInt8)) y => p_tape_decimal.b1 k' (fun y => p_tape_decimal.j0 k' y.1 y.2) r y.1 y.2) k ((n : Int), s) = some (decN n ++ s)
  | j, 0, n, s, h, _, hk, hs => by omega
  | j, k + 1, n, s, h, hn, hk, hs => by
    have e10 : ([(48 : UInt8), (49 : UInt8), (50 : UInt8), (51 : UInt8), (52 : UInt8), (53 : UInt8), (54 : UInt8), (55 : UInt8), (56 : UInt8), (57 : UInt8)] : List UInt8) = DIG10 := rfl
    have ih := fun (j n : Nat) (s : List UInt8) (h : n < 10 ^ j) (hn : n < 9223372036854775807) (hk : j < k) (hs : s.length + j < 1000000) => tdec_go (k' := k') j k n s h hn hk hs
    rw [loopC_succ]
    generalize loopC (fun (r : Int × List UInt8 → Option (List UInt8)) y => p_tape_decimal.b1 k' (fun y => p_tape_decimal.j0 k' y.1 y.2) r y.1 y.2) k = R at ih ⊢
    dsimp only
    unfold p_tape_decimal.b1
    by_cases h1 : n < 10
    · have e1 : decide ((n : Int) > 9) = false := by simpa using (by omega : (n : Int) ≤ 9)
      have ew : IntKind.wrap .i64 ((n : Int) + 1) = ((n + 1 : Nat) : Int) := by rw [wrap_i64 (by omega)]; omega
      rw [e1, cond_false, decN_lo h1]
      unfold p_tape_decimal.j0
      dsimp only
      rw [e10, sub_one10i h1, ew, need_yes (by omega), need_yes (by simp only [List.length_cons, List.length_nil]; omega)]
    · have e1 : decide ((n : Int) > 9) = true := by simpa using (by omega : (n : Int) > 9)
      have em : Int.tmod (n : Int) 10 = ((n % 10 : Nat) : Int) := by rw [Int.tmod_eq_emod_of_nonneg (by omega)]; omega
      have ed : IntKind.wrap .i64 (Int.tdiv (n : Int) 10) = ((n / 10 : Nat) : Int) := by rw [Int.tdiv_eq_ediv_of_nonneg (by omega), wrap_i64 (by omega)]; omega
      have ew : IntKind.wrap .i64 (((n % 10 : Nat) : Int) + 1) = ((n % 10 + 1 : Nat) : Int) := by rw [wrap_i64 (by omega)]; omega
      cases j with
      | zero => simp at h; omega
      | succ j =>
        rw [e1, cond_true, em, ed, e10, sub_one10i (show n % 10 < 10 by omega), ew, need_yes (by omega), need_yes (by simp only [List.length_cons, List.length_nil]; omega),
          ih j (n / 10) _ (by rw [Nat.pow_succ] at h; omega) (by omega) (by omega) (by simp only [List.length_append, List.length_cons, List.length_nil]; omega), decN_hi h1]
        simp
theorem tdec_eq {k n : Nat} (hk : 20 < k) (hn : n < 9223372036854775807) : p_tape_decimal k (n : Int) = some (decN n) := by
  unfold p_tape_decimal joinC
  have := tdec_go (k' := k) 20 k n [] (Nat.lt_of_lt_of_le hn (by decide)) hn hk (by simp)
  rw [List.append_nil] at this
  exact this
/-- a digit's number, or below 0 -/
def dv (c : UInt8) : Int := indexByteOf DIG10 (c.toNat : Int)
def dvck (n : Nat) : Bool := decide (-1 ≤ dv (UInt8.ofNat n)) && decide (dv (UInt8.ofNat n) < 10)
theorem dv_all : (List.range 256).all dvck = true := by decide +kernel
theorem dv_at (c : UInt8) : -1 ≤ dv c ∧ dv c < 10 := by
  have h := List.all_eq_true.1 dv_all c.toNat (by have := c.toNat_lt; simpa using this)
  have e : UInt8.ofNat c.toNat = c := UInt8.ofNat_toNat
  simp only [dvck, e, Bool.and_eq_true, decide_eq_true_eq] at h
  exact h
theorem dv_dig_all : (List.range 10).all (fun n => decide (dv (dig n) = (n : Int))) = true := by decide +kernel
theorem dv_dig {n : Nat} (h : n < 10) : dv (dig n) = (n : Int) := by
  have := List.all_eq_true.1 dv_dig_all n (by simpa using h)
  simpa using this
def numT : List UInt8 → Nat → Option Nat
  | [], n => some n
  | c :: s, n => if dv c < 0 ∨ 1099511627776 < n then none else numT s (10 * n + (dv c).toNat)
theorem numT_app : ∀ (a b : List UInt8) (n : Nat), numT (a ++ b) n = (numT a n).bind (numT b)
  | [], b, n => rfl
  | c :: a, b, n => by
    rw [List.cons_append, numT, numT]
    split
    · rfl
    · exact numT_app a b _
theorem numT_decN : ∀ (n : Nat), n ≤ 1099511627776 → numT (decN n) 0 = some n := by
  intro n
  induction n using Nat.strongRecOn with
  | ind n ih =>
    intro hn
    by_cases h : n < 10
    · rw [decN_lo h, numT, dv_dig h, if_neg (by omega), numT]
      congr 1; omega
    · rw [decN_hi h, numT_app, ih (n / 10) (by omega) (by omega), Option.bind_some, numT, dv_dig (by omega), if_neg (by omega), numT]
      congr 1; omega
def numR (s : List UInt8) : Int × Bool :=
  match numT s 0 with
  | some n => if n ≤ 1099511627776 ∧ decN n = s then ((n : Int), true) else (0, false)
  | none => (0, false)
theorem numR_cases (s : List UInt8) : (∃ n : Nat, numR s = ((n : Int), true) ∧ n ≤ 1099511627776 ∧ decN n = s) ∨ numR s = (0, false) := by
  unfold numR
  split
  · rename_i n _
    split
    · rename_i h; exact .inl ⟨n, rfl, h.1, h.2⟩
    · exact .inr rfl
  · exact .inr rfl
theorem numR_dec {n : Nat} (h : n ≤ 1099511627776) : numR (decN n) = ((n : Int), true) := by
  unfold numR
  rw [numT_decN n h]
  dsimp only
  rw [if_pos ⟨h, rfl⟩]
theorem num_loop {k : Nat} {s : List UInt8} (hk : 20 < k) (hs : s.length < 1000000) : ∀ (m i fuel : Nat) (n : Nat), i + m = s.length → m < fuel → n < 100000000000000 →
    loopC (fun (r : List UInt8 × Int × Int × Int → Option (Int × Bool)) y => p_tape_Number.b2 k (fun y => p_tape_Number.j0 k y.1 y.2) r y.1 y.2.1 y.2.2.1 y.2.2.2) fuel (s, (n : Int), (s.length : Int), (i : Int)) =
      some (match numT (s.drop i) n with | some n => if n ≤ 1099511627776 ∧ decN n = s then ((n : Int), true) else (0, false) | none => (0, false))
  | 0, i, fuel + 1, n, hi, _, hn => by
    rw [loopC_succ, List.drop_of_length_le (by omega), numT]
    dsimp only
    unfold p_tape_Number.b2 p_tape_Number.j0 joinC p_tape_Number.j1
    rw [decide_eq_false (by omega), cond_false]
    dsimp only
    by_cases h : (n : Int) > 1099511627776
    · rw [decide_eq_true h, cond_true, cond_true, if_neg (by omega)]
    · rw [decide_eq_false h, cond_false, tdec_eq hk (by omega), Option.bind_some]
      by_cases e : decN n = s
      · have e' : (!decN n == s) = false := by simpa using e
        rw [e', cond_false, if_pos ⟨by omega, e⟩]
      · have e' : (!decN n == s) = true := by simpa using e
        rw [e', cond_true, if_neg (fun q => e q.2)]
  | m + 1, i, fuel + 1, n, hi, hf, hn => by
    have hx : i < s.length := by omega
    have hd := dv_at s[i]
    have e2 : IntKind.wrap .i64 ((i : Int) + 1) = ((i + 1 : Nat) : Int) := by rw [wrap_i64 (by omega)]; omega
    have ih := fun n h => num_loop hk hs m (i + 1) fuel n (by omega) (by omega) h
    have hb : bat s (i : Int) = ((s[i].toNat : Nat) : Int) := by rw [bat_byt, byt, List.getD_eq_getElem?_getD, List.getElem?_eq_getElem hx]; rfl
    have hix : p_strings_IndexByte [(48 : UInt8), (49 : UInt8), (50 : UInt8), (51 : UInt8), (52 : UInt8), (53 : UInt8), (54 : UInt8), (55 : UInt8), (56 : UInt8), (57 : UInt8)] ((s[i].toNat : Nat) : Int) = some (dv s[i]) := by
      unfold p_strings_IndexByte p_stringslite_IndexByte
      rfl
    rw [loopC_succ, List.drop_eq_getElem_cons hx, numT]
    dsimp only
    generalize loopC (fun (r : List UInt8 × Int × Int × Int → Option (Int × Bool)) y => p_tape_Number.b2 k (fun y => p_tape_Number.j0 k y.1 y.2) r y.1 y.2.1 y.2.2.1 y.2.2.2) fuel = rec at *
    unfold p_tape_Number.b2 joinC p_tape_Number.j3
    dsimp only
    rw [decide_eq_true (by omega), cond_true, need_yes (by omega), hb, hix, Option.bind_some, e2]
    by_cases h : dv s[i] < 0
    · rw [decide_eq_true h, cond_true, cond_true, if_pos (.inl h)]
    · rw [decide_eq_false h, cond_false]
      by_cases h2 : (n : Int) > 1099511627776
      · rw [decide_eq_true h2, cond_true, if_pos (.inr (by omega))]
      · rw [decide_eq_false h2, cond_false, if_neg (by omega)]
        have e3 : IntKind.wrap .i64 (IntKind.wrap .i64 (10 * (n : Int)) + dv s[i]) = ((10 * n + (dv s[i]).toNat : Nat) : Int) := by
          have ea : IntKind.wrap .i64 (10 * (n : Int)) = 10 * (n : Int) := by rw [wrap_i64 (by omega)]
          rw [ea, wrap_i64 (by omega)]; omega
        rw [e3, ih _ (by omega)]
theorem Number_eq {k : Nat} {s : List UInt8} (hk : 20 < k) (hks : s.length < k) (hs : s.length < 1000000) : p_tape_Number k s = some (numR s) := by
  unfold p_tape_Number joinC numR
  have := num_loop hk hs s.length 0 k 0 (by omega) hks (by omega)
  rw [List.drop_zero] at this
  exact this
theorem law_TapeNumbers (s : List UInt8) (n : Int) (hn : okD (.int .u64) n) : p_dormouselaw40_TapeNumbers 2000 s n = some true := by
  have hn : (Lit.int .u64 n).wf = true := hn
  simp only [Lit.wf, Bool.and_eq_true, decide_eq_true_eq] at hn
  have h0 : IntKind.min .u64 = 0 := rfl
  have h1 : IntKind.max .u64 = 18446744073709551615 := rfl
  obtain ⟨m, rfl⟩ : ∃ m : Nat, n = (m : Int) := ⟨n.toNat, by omega⟩
  have hm : m < 18446744073709551616 := by omega
  unfold p_dormouselaw40_TapeNumbers joinC
  by_cases g1 : (s.length : Int) > 100
  · rw [decide_eq_true g1, cond_true, awake40]; rfl
  · have hl := decN_len20 hm
    rw [decide_eq_false g1, cond_false, Number_eq (by omega) (by omega) (by omega), Option.bind_some, Digits20 (by omega) hm, Option.bind_some, Number_eq (by omega) (by omega) (by omega), Option.bind_some]
    dsimp only
    have hj : p_dormouselaw40_TapeNumbers.j0 2000 s (numR s).1 (numR s).2 false = some true := by
      unfold p_dormouselaw40_TapeNumbers.j0 joinC p_dormouselaw40_TapeNumbers.j1
      dsimp only
      rw [cond_false, awake40, Option.bind_some, cond_true]
      rcases numR_cases s with ⟨q, h1, h2, h3⟩ | h1
      · have ew : IntKind.wrap .u64 (q : Int) = (q : Int) := by rw [wrap_u64]; omega
        rw [h1]
        dsimp only
        rw [cond_true, decide_eq_true (by omega), cond_true, decide_eq_true (by omega), cond_true, ew, Digits20 (by omega) (by omega), Option.bind_some, h3]
        simp
      · rw [h1]; rfl
    by_cases h : m ≤ 1099511627776
    · have ew : IntKind.wrap .u64 (m : Int) = (m : Int) := by rw [wrap_u64]; omega
      have e1 : (!(true == true)) = false := rfl
      have e2 : ((m : Int) != (m : Int)) = false := by simp
      rw [numR_dec h, decide_eq_true (by omega : (m : Int) ≤ 1099511627776)]
      dsimp only
      rw [e1, cond_false, cond_true, ew, e2, cond_false, Bool.not_true, cond_false]
      exact hj
    · have hr : numR (decN m) = (0, false) := by
        rcases numR_cases (decN m) with ⟨q, h1, h2, h3⟩ | h1
        · have := numD_decN m hm
          rw [← h3, numD_decN q (by omega)] at this
          omega
        · exact h1
      have e1 : (!(false == false)) = false := rfl
      have e2 : ((0 : Int) != 0) = false := rfl
      rw [hr, decide_eq_false (by omega : ¬ (m : Int) ≤ 1099511627776)]
      dsimp only
      rw [e1, cond_false, cond_false, Bool.not_false, cond_true, e2]
      exact hj
end Go.Dor.Tp
end

section
/- AN ARGUMENT OF A LAW, as data of its type: numbers fit, the value reads as the data. -/
namespace Go.Dor
section
variable {H : Type} {enc' : TypeId × Value → H} {P : Program} {w : World}

def vOf : (c : T) → den c → V
  | .int k, n => .one (.i k n)
  | .bool, x => .one (.b x)
  | .str, l => .one (.s l)
  | .flt k, n => .one (.f k n)
  | .sl e, xs => .one (.ro e xs)
  | .unit, x => .ag (enc .unit x)
  | .pair a b, x => .ag (enc (.pair a b) x)
  | .arr n e, x => .ag (enc (.arr n e) x)

def aggT : T → Bool
  | .unit | .pair .. | .arr .. => true
  | _ => false

theorem okWide_agg {t : TypeId} {r : Reach} {base : Nat} {v : Value} (hv : Value.okWide P w r base t v) (hg : (∃ fs, P.underlying t = some (.struct fs)) ∨ ∃ m e, P.underlying t = some (.array m e)) : ∃ cs, v = .agg cs := by
  rcases hg with ⟨fs, hg⟩ | ⟨m, e, hg⟩ <;>
  · simp only [Value.okWide, hg] at hv
    obtain ⟨cs, h1, _⟩ := hv
    exact ⟨cs, h1⟩

theorem one_cells {v : Value} (h : ∀ cs, v ≠ .agg cs) : v.cells.toList = [v] := by
  cases v <;> first | rfl | exact absurd rfl (h _)

theorem arg_rv {t : TypeId} {v : Value} {d : DataW H} {p : List MemPlace} {c : T} (hag : (match P.underlying t with | some (.struct _) | some (.array _ _) => true | _ => false) = aggT c)
    (h : DataW.Trod enc' P w 0 (fun _ => true) true t v d p) (hc : codeT P depth t = some c) (ht : tiled P depth t = true) {r : Reach} {base : Nat} (hv : Value.okWide P w r base t v) : ∃ a : den c, Rv (m0 w) (vOf c a) v ∧ okD c a := by
  obtain ⟨a, ha, hk⟩ := arg_ok h hc ht
  refine ⟨a, ?_, hk⟩
  cases hx : aggT c with
  | true =>
    rw [hx] at hag
    have hcs : ∃ cs, v = .agg cs := by
      split at hag
      · rename_i fs hu; exact okWide_agg hv (.inl ⟨_, hu⟩)
      · rename_i m e hu; exact okWide_agg hv (.inr ⟨_, _, hu⟩)
      · cases hag
    obtain ⟨cs, hcs⟩ := hcs
    cases c <;> first | exact rv_ag hcs ha | cases hx
  | false =>
    rw [hx] at hag
    have hne : ∀ cs, v ≠ .agg cs := by
      rintro cs rfl
      split at hag
      · cases hag
      · cases hag
      · rename_i h1 h2
        unfold Value.okWide at hv
        split at hv
        · rename_i hu; exact h1 _ hu
        · rename_i hu; exact h2 _ _ hu
        · unfold Cell.okWide at hv
          cases hu : P.underlying t with
          | none => rw [hu] at hv; simp [Cell.ok, hu] at hv
          | some u => cases u <;> simp_all [Cell.ok]
    rw [one_cells hne] at ha
    cases c <;> first | exact ha | cases hx
end
end Go.Dor
end

section
/- TapeNumbers AT EVERY INPUT: true; each argument reads behind the call as it read before. No condition but the row's own. -/
namespace Go.Proofs.YtmfldcggbfcfbaaDoor
open Go.ChangeShapes Go.WideShapes Go.ChangeAt Go.RowKit

theorem tapeNumbers_ownNone : ownKnob Tryd.prog.godebug = none := by kernel_rfl
theorem tapeNumbers_laidOk : laidOutB Tryd.prog = true := by kernel_rfl
/-- A world that meets the condition: the listed variables' cells laid. -/
noncomputable def tapeNumbers_laidWorld (os : Os) : World :=
  let w0 := World.holding Tryd.prog os ⟨#[], #[], []⟩
  let put (h : Array Obj) (g : Nat) (cs : Array Value) : Array Obj := h.modify g fun
    | .cells _ t frozen => .cells cs t frozen
    | o => o
  let h1 := put w0.heap 1 (Go.Pinned.utf8FirstZ.map fun (z : Nat) => Value.int .u8 (z : Int)).toArray
  let h2 := put h1 2 (([128, 191, 160, 191, 128, 159, 144, 191, 128, 143, 0, 0, 0, 0, 0, 0, 0, 0, 0, 0, 0, 0, 0, 0, 0, 0, 0, 0, 0, 0, 0, 0] : List Int).map fun z => Value.int .u8 z).toArray
  { w0 with heap := h2 }
set_option maxRecDepth 100000 in
theorem tapeNumbers_laid_met (os : Os) (args : Array Value) : laidMet Tryd.prog Rows.tapeNumbersRow.laid ((tapeNumbers_laidWorld os).forCall (fun _ _ => 0) ⟨#[], args, []⟩).memory :=
  (LaidIn.of_run [1, 2] 8 (by kernel_rfl) (by kernel_rfl) (by kernel_rfl) (by kernel_rfl)).met
set_option maxRecDepth 100000 in
theorem tapeNumbers_laidWorld_met (os : Os) (args : Array Value) : laidMetH Tryd.prog Rows.tapeNumbersRow.laid ((tapeNumbers_laidWorld os).forCall (fun _ _ => 0) ⟨#[], args, []⟩).memory :=
  tapeNumbers_laid_met os args
set_option maxRecDepth 100000 in
theorem tapeNumbers_lifted (os : Os) (started : os.Started) (H : Type) (enc : TypeId × Value → H) :
    ReturnsInHanded {} Tryd.checked os 4 .any (fun w args => (Rows.tapeNumbersSpec.pre enc Tryd.prog Tryd.f4 [] false w args ∧ laidMetH Tryd.prog Rows.tapeNumbersRow.laid w) ∧ sizedMet enc Tryd.prog Tryd.f4 (OpenSpec.ofChange Rows.tapeNumbersSpec) false w args) (Rows.tapeNumbersSpec.post enc Tryd.prog Tryd.f4 false true false false) := by
  refine returnsInHanded_of_change_and (C := Tryd.checked) (X := fun w _ => laidMetH Tryd.prog Rows.tapeNumbersRow.laid w) (fun _ _ _ hh h => h.of_heap hh) tapeNumbers_ownNone started (by kernel_rfl) Tryd.func4
    (ChangeSpec.witness_at (enc := enc) (C := Tryd.checked) (os := os) (X := fun w _ => laidMetH Tryd.prog Rows.tapeNumbersRow.laid w) false (tapeNumbers_laidWorld os) #[.string ⟨#[]⟩, .int .u64 0] 8 rfl (by kernel_rfl) (by kernel_rfl) (by kernel_rfl) (by kernel_rfl) (by kernel_rfl) (tapeNumbers_laidWorld_met os _)) ?_
  intro W base args ds gs before hval0 hW _ _ _ _
  have hval : ∀ (j : Nat) t v, Tryd.f4.params[j]? = some t → args[j]? = some v → Value.okWide Tryd.prog W .any base t v := hval0
  have hW' := hW
  obtain ⟨p, q, hA0, hV, rfl, _, _⟩ := hW
  have hA : DataW.TrodAll enc Tryd.prog W 0 (fun _ => true) true Tryd.f4.params.toList args.toList ds p := hA0
  have hA2 := hA
  rw [Tryd.params4] at hA hval
  obtain ⟨rfl, rfl⟩ := trodVars_none hV
  simp only [List.append_nil] at hW'
  have hlt : ∀ x ∈ p, x.block < W.heap.size := fun x hx => by simpa using hW'.lt x hx
  obtain ⟨v0, v1, d0, d1, p0, p1, rfl, rfl, rfl, h0, h1⟩ := trodAll_two hA
  obtain ⟨a0, r0, k0⟩ := Dor.arg_rv (c := .str) (by kernel_rfl) h0 (by kernel_rfl) (by kernel_rfl) (hval 0 _ v0 rfl rfl)
  obtain ⟨a1, r1, k1⟩ := Dor.arg_rv (c := .int .u64) (by kernel_rfl) h1 (by kernel_rfl) (by kernel_rfl) (hval 1 _ v1 rfl rfl)
  have hk := Dor.Tp.law_TapeNumbers a0 a1 k1
  refine (Dor.law_calls (Dor.s_dormouselaw40_TapeNumbers 2000) (vals := [v0, v1]) (x := (a0, a1)) (w := W) ⟨r0, r1, trivial⟩ hk).mono fun e W' ⟨he, hnx⟩ => ⟨_, he, ?_⟩
  refine ⟨_, _, _, [] ++ [], p0 ++ p1, [], hW', trodAll_mk1 (shut_bool (by kernel_rfl) true), ?_, rfl, hnx.frame _, fun h => by cases h⟩
  exact Dor.trodAll_stays tapeNumbers_laidOk hnx (by decide +kernel) hA2 hlt

theorem tapeNumbers_holds : Rows.TapeNumbersSaid :=
  OpenClaim.holds_of_wide 4 Tryd.f4 rfl rfl rfl rfl rfl rfl rfl ⟨rfl, rfl, rfl, rfl, rfl⟩ rfl rfl rfl rfl rfl (by kernel_rfl) Tryd.func4 (by kernel_rfl)
    (of_decide_eq_true (by kernel_rfl)) (by unfold Func.isWrapper; first | (rw [if_pos (by decide +kernel)]; kernel_rfl) | (rw [if_neg (by decide +kernel)]; exact ⟨rfl, rfl⟩))
    (fun os started H enc _ => tapeNumbers_lifted os started H enc)

theorem tapeNumbers_card : Rows.TapeNumbersCardSaid :=
  Claim7.holds_tied_plain_at .later [] [.data, .pinned] true (true, "521ffeb49ba3d178d38c0a9f0d2d282dfb27837396b0bdd165259254d6925f5c") false
    tapeNumbers_holds (fun _ h => by cases h) (by kernel_rfl) (fun _ h => by cases h) tapeNumbers_row_tie rfl ⟨rfl, rfl⟩ (by kernel_rfl) rfl
    (fun f fn hf hfn => by
      obtain rfl : f = 4 := Option.some.inj ((show Tryd.prog.funcNamed "dormouse/dormouselaw40.TapeNumbers" = some 4 by kernel_rfl).symm.trans hf) |>.symm
      obtain rfl : fn = Tryd.f4 := (Option.some.inj (Tryd.func4.symm.trans hfn)).symm
      exact ⟨by kernel_rfl, fun j t ht => by
        have h3 : (Tryd.f4.params.toList.all fun t => !Tryd.prog.wantsStandIn t) = true := by kernel_rfl
        have hm : t ∈ Tryd.f4.params.toList := by rw [Array.mem_toList_iff]; exact Array.mem_of_getElem? ht
        exact (show Tryd.prog.wantsStandIn t = false by simpa using List.all_eq_true.1 h3 t hm)⟩)
    (by kernel_rfl)

end Go.Proofs.YtmfldcggbfcfbaaDoor
end
