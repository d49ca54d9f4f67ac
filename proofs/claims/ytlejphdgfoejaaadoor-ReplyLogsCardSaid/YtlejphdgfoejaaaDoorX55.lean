/- THE ROW, AND WHAT IT STANDS ON: the texts Zl Zm R5, one behind the other. -/
import Derived.Test.YtlejphdgfoejaaaDoorX53
import Derived.ProofKit
import Derived.OpenShut
import Derived.WideShapes
import Derived.Test.YtlejphdgfoejaaaDoorRows
import Derived.Test.YtlejphdgfoejaaaDoorX54
import Derived.SizedLaws
import Derived.ChangeSame
import Derived.ChangeVars
import Derived.JoinedOf
import Derived.LaidLaws
import Derived.LaidHandle
import Derived.Lib.LaidIn
import Derived.Handed
import Derived.Test.YtlejphdgfoejaaaDoorTie
import Derived.Test.YtlejphdgfoejaaaDoorCards
import Derived.SevenTiedAt
section
/- WHAT A CALLER HANDS IN, AS DATA; a law of data, called. Plain lemmas over any program. -/
namespace Go.Dor
open Go.RowKit (Below)

def chainF (P : Program) : Nat → List Field → Option Nat
  | o, [] => some o
  | o, f :: l => bif Nat.beq f.offset o then chainF P (o + P.cellsOf f.type) l else none
/-- types of data whose parts lie one behind the other -/
def tiled (P : Program) : Nat → TypeId → Bool
  | 0, _ => false
  | n + 1, t =>
    match P.underlying t with
    | some (.int _) | some .bool | some .string => true
    | some (.array m e) => Nat.beq (P.cellsOf t) (m * P.cellsOf e) && tiled P n e
    | some (.slice e) => Nat.blt 0 (P.cellsOf e) && tiled P n e
    | some (.struct fs) => (match chainF P 0 fs.toList with | some s => Nat.beq s (P.cellsOf t) | none => false) && fs.toList.all (fun f => tiled P n f.type)
    | _ => false

theorem pieces {α : Type} {Q : α → List Value → Prop} (k : Nat) : ∀ (m : Nat) (cs : List Value), cs.length = m * k → (∀ i, i < m → ∃ d, Q d ((cs.drop (i * k)).take k)) → ∃ (l : List α) (ys : List (List Value)), l.length = m ∧ cs = ys.flatten ∧ Al2 Q l ys
  | 0, cs, hl, _ => ⟨[], [], rfl, by simpa using hl, trivial⟩
  | m + 1, cs, hl, h => by
    obtain ⟨d, hd⟩ := h 0 (by omega)
    have hl' : (cs.drop k).length = m * k := by rw [List.length_drop, hl, Nat.add_mul]; omega
    obtain ⟨l, ys, h1, h2, h3⟩ := pieces k m (cs.drop k) hl' fun i hi => by
      obtain ⟨d, hd⟩ := h (i + 1) (by omega)
      refine ⟨d, ?_⟩
      rw [List.drop_drop]
      have : k + i * k = (i + 1) * k := by rw [Nat.add_mul]; omega
      rw [this]; exact hd
    refine ⟨d :: l, cs.take k :: ys, by simp [h1], ?_, ?_, h3⟩
    · rw [List.flatten_cons, ← h2, List.take_append_drop]
    · simpa using hd

/-- data that a program can hold: each number fits its kind -/
def okD : (t : T) → den t → Prop
  | .int k, n => (Lit.int k n).wf = true
  | .pair a b, x => okD a x.1 ∧ okD b x.2
  | .arr _ e, x => ∀ y ∈ x.toList, okD e y
  | .sl e, x => x.length ≤ 9223372036854775807 ∧ ∀ y ∈ x, okD e y
  | .str, _ => True
  | .bool, _ => True
  | .flt _, _ => True
  | .unit, _ => True
theorem al2_split {α β : Type} {Q : α → β → Prop} {R : α → Prop} : ∀ {l : List α} {m : List β}, Al2 (fun a b => Q a b ∧ R a) l m → Al2 Q l m ∧ ∀ a ∈ l, R a
  | [], [], _ => ⟨trivial, by simp⟩
  | a :: l, b :: m, h => by
    obtain ⟨h1, h2⟩ := al2_split (l := l) (m := m) h.2
    exact ⟨⟨h.1.1, h1⟩, fun x hx => (List.mem_cons.1 hx).elim (fun e => e ▸ h.1.2) (h2 x)⟩

theorem list_of {α : Type} {Q : Nat → α → Prop} : ∀ (n : Nat), (∀ i, i < n → ∃ p, Q i p) → ∃ l : List α, l.length = n ∧ ∀ i p, l[i]? = some p → Q i p
  | 0, _ => ⟨[], rfl, by simp⟩
  | n + 1, h => by
    obtain ⟨l, h1, h2⟩ := list_of n fun i hi => h i (by omega)
    obtain ⟨p, hp⟩ := h n (by omega)
    refine ⟨l ++ [p], by simp [h1], fun i q hq => ?_⟩
    by_cases hlt : i < n
    · rw [List.getElem?_append_left (by omega)] at hq; exact h2 i q hq
    · have hi : i < (l ++ [p]).length := (List.getElem?_eq_some_iff.1 hq).1
      have : i = n := by simp [h1] at hi; omega
      subst this
      rw [List.getElem?_append_right (by omega), h1] at hq
      simp at hq; subst hq; exact hp

theorem al2_of {α β : Type} {Q : α → β → Prop} : ∀ (l : List (α × β)), (∀ (i : Nat) p, l[i]? = some p → Q p.1 p.2) → Al2 Q (l.map (·.1)) (l.map (·.2))
  | [], _ => trivial
  | p :: l, h => ⟨h 0 p rfl, al2_of l fun i q hq => h (i + 1) q hq⟩

section
variable {H : Type} {enc : TypeId × Value → H} {P : Program} {w : World} {spare : Nat → Bool} {held : Bool}

theorem fields_at {I : Nat → Prop} {cs : List Value} {n s : Nat} : ∀ (l : List Field) (o : Nat) (cl : List T), chainF P o l = some s → cs.length = s → (∀ c, codeT P n 0 = c → True) →
    l.foldr (fun f acc => match codeT P n f.type, acc with | some a, some l => some (a :: l) | _, _ => none) (some []) = some cl →
    (∀ f ∈ l, ∀ c, codeT P n f.type = some c → ∃ d : den c, At w I c d ((cs.drop f.offset).take (P.cellsOf f.type)) ∧ okD c d) → ∃ d : den (mkT cl), At w I (mkT cl) d (cs.drop o) ∧ okD (mkT cl) d
  | [], o, cl, hc, hl, _, hf, _ => by
    cases hf
    simp only [chainF, Option.some.injEq] at hc
    exact ⟨(), List.drop_eq_nil_of_le (by omega), trivial⟩
  | [f], o, cl, hc, hl, _, hf, h => by
    simp only [chainF, cond_eq_ite] at hc
    split at hc
    · rename_i ho
      have ho := Nat.eq_of_beq_eq_true ho
      simp only [Option.some.injEq] at hc
      simp only [List.foldr_cons, List.foldr_nil] at hf
      split at hf
      · rename_i a l' ha hl'
        cases hf; cases hl'
        obtain ⟨d, hd, hk⟩ := h f (by simp) a ha
        refine ⟨d, ?_, hk⟩
        rw [ho, List.take_of_length_le (by rw [List.length_drop]; omega)] at hd
        exact hd
      · cases hf
    · cases hc
  | f :: f2 :: l, o, cl, hc, hl, ht, hf, h => by
    rw [chainF, cond_eq_ite] at hc
    split at hc
    · rename_i ho
      have ho := Nat.eq_of_beq_eq_true ho
      rw [List.foldr_cons] at hf
      split at hf
      · rename_i a l' ha hl'
        cases hf
        obtain ⟨d, hd, hk⟩ := h f (by simp) a ha
        obtain ⟨d2, hd2, hk2⟩ := fields_at (f2 :: l) _ l' hc hl ht hl' fun g hg => h g (List.mem_cons_of_mem _ hg)
        have hne : ∃ b r, l' = b :: r := by
          rw [List.foldr_cons] at hl'
          split at hl'
          · cases hl'; exact ⟨_, _, rfl⟩
          · cases hl'
        obtain ⟨b, r, rfl⟩ := hne
        refine ⟨(d, d2), ⟨_, _, ?_, hd, hd2⟩, hk, hk2⟩
        rw [ho, ← List.drop_drop, List.take_append_drop]
      · cases hf
    · cases hc

theorem cell_heap {b o : Nat} {y : Value} (hc : w.cell? ⟨b, o, none⟩ = some y) : ∃ cur t fz, w.heap[b]? = some (.cells cur t fz) := by
  simp only [World.cell?] at hc
  split at hc
  · rename_i cur t fz hb
    exact ⟨_, _, _, hb⟩
  · cases hc

theorem mapM_get {α β : Type} {f : α → Option β} : ∀ {l0 : List α} {l : List β}, l0.mapM f = some l → l.length = l0.length ∧ ∀ (i : Nat) a, l0[i]? = some a → f a = l[i]?
  | [], l, h => by
    simp only [List.mapM_nil] at h
    cases h
    exact ⟨rfl, by simp⟩
  | a :: l0, l, h => by
    rw [List.mapM_cons] at h
    cases ha : f a with
    | none => rw [ha] at h; cases h
    | some b =>
      rw [ha] at h
      cases hl : l0.mapM f with
      | none => rw [hl] at h; cases h
      | some bs =>
        rw [hl] at h
        have h : some (b :: bs) = some l := h
        cases h
        obtain ⟨h1, h2⟩ := mapM_get hl
        refine ⟨by simp [h1], fun i x hx => ?_⟩
        cases i with
        | zero => simp at hx; subst hx; simpa using ha
        | succ i => simp at hx; simpa using h2 i x hx
theorem cells_get {base k : Nat} {a : Addr} {l : List Value} (h : w.cells? base a k = some l) : l.length = k ∧ ∀ i, i < k → w.cell? (a.add i) = l[i]? := by
  unfold World.cells? at h
  split at h
  · obtain ⟨h1, h2⟩ := mapM_get h
    exact ⟨by simpa using h1, fun i hi => h2 i i (by simp [hi])⟩
  · cases h

/-- what a caller hands in reads as data -/
theorem trod_at (hsp : ∀ b, spare b = true) : ∀ (n : Nat) (t : TypeId) (c : T) (fuel : Nat) (cs : List Value) (x : DataW H × List MemPlace), codeT P n t = some c → tiled P n t = true →
    DataW.trod enc P w 0 spare held fuel t cs = some x → ∃ d : den c, At w (fun b => b < w.heap.size) c d cs ∧ okD c d
  | 0, t, c, fuel, cs, x, hc, _, _ => by cases hc
  | n + 1, t, c, fuel, cs, x, hc, hd, h => by
    unfold codeT at hc
    unfold tiled at hd
    split at hc
    · rename_i k ht
      cases hc
      obtain ⟨y, rfl, _, hwf⟩ := DataW.trod_int ht h
      exact ⟨y, rfl, hwf⟩
    · rename_i ht
      cases hc
      obtain ⟨y, rfl, _⟩ := DataW.trod_bool ht h
      exact ⟨y, rfl, trivial⟩
    · rename_i ht
      cases hc
      obtain ⟨y, rfl, _⟩ := DataW.trod_string ht h
      exact ⟨y.data.toList, by simp [At, sv], trivial⟩
    · rename_i k ht
      rw [ht] at hd; cases hd
    · rename_i m e ht
      rw [ht] at hd
      simp only [Bool.and_eq_true] at hd
      obtain ⟨hd1, hd2⟩ := hd
      have hd1 := Nat.eq_of_beq_eq_true hd1
      split at hc
      · rename_i ce hce
        cases hc
        obtain ⟨xs, q, _, _, h1, h2, h3⟩ := DataW.trod_array ht h
        obtain ⟨l, ys, k1, k2, k3⟩ := pieces (Q := fun d y => At w (fun b => b < w.heap.size) ce d y ∧ okD ce d) (P.cellsOf e) m cs (by rw [h1, hd1]) fun i hi => by
          have := h3 i hi
          rw [List.getElem?_eq_getElem (by omega)] at this
          exact trod_at hsp n e ce _ _ _ hce hd2 this
        obtain ⟨k3, k4⟩ := al2_split k3
        refine ⟨⟨l.toArray, by simpa using k1⟩, ⟨ys, k2, ?_⟩, fun y hy => k4 y (by simpa using hy)⟩
        simpa using k3
      · cases hc
    · rename_i e ht
      rw [ht] at hd
      simp only [Bool.and_eq_true] at hd
      obtain ⟨hd1, hd2⟩ := hd
      have hd1 : 0 < P.cellsOf e := by simpa [Nat.blt_eq] using hd1
      split at hc
      · rename_i ce hce
        cases hc
        rcases DataW.trod_slice ht h with ⟨rfl, _⟩ | ⟨a, len, cap, elems, rest, q, _, rfl, _, _, hlc, hcm, hel, he, hrest, _⟩
        · exact ⟨[], ⟨_, rfl, [], ⟨by simp, .inl ⟨⟨none, rfl⟩, rfl⟩⟩, trivial, by simp [vfoot]⟩, Nat.zero_le _, fun y hy => by cases hy⟩
        · obtain ⟨hr1, hr2⟩ := hrest (hsp _)
          by_cases hcap : cap = 0
          · subst hcap
            have hl0 : len = 0 := by omega
            subst hl0
            exact ⟨[], ⟨_, rfl, [], ⟨by simp, .inl ⟨⟨_, rfl⟩, rfl⟩⟩, trivial, by simp [vfoot]⟩, Nat.zero_le _, fun y hy => by cases hy⟩
          · -- a cell is there
            have h0 : ∃ y, w.cell? (a.add 0) = some y := by
              have key : ∀ {o : Option (DataW H × List MemPlace)} {i : Nat}, i = 0 → (w.cells? 0 (a.add (i * P.cellsOf e)) (P.cellsOf e)).bind (DataW.trod enc P w 0 spare held q e) = o → o.isSome = true → ∃ y, w.cell? (a.add 0) = some y := by
                intro o i hi hb ho
                subst hi
                cases hcl : w.cells? 0 (a.add (0 * P.cellsOf e)) (P.cellsOf e) with
                | none => rw [hcl] at hb; subst hb; cases ho
                | some l =>
                  obtain ⟨k1, k2⟩ := cells_get hcl
                  have := k2 0 hd1
                  rw [List.getElem?_eq_getElem (by omega)] at this
                  exact ⟨l[0]'(by omega), by simpa [Addr.add] using this⟩
              by_cases hl0 : len = 0
              · exact key (i := len + 0) (by omega) (hr2 0 (by omega)) (by rw [List.getElem?_eq_getElem (by omega)]; rfl)
              · exact key (i := 0) rfl (he 0 (by omega)) (by rw [List.getElem?_eq_getElem (by omega)]; rfl)
            obtain ⟨y0, hy0⟩ := h0
            have hspot := World.cell?_spot hy0
            obtain ⟨b, off, spot⟩ := a
            have hspot : spot = none := by simpa [Addr.add] using hspot
            subst hspot
            have hadd : ∀ i, (⟨b, off, none⟩ : Addr).add i = ⟨b, off + i, none⟩ := fun i => by simp [Addr.add]
            have hadd2 : ∀ o i, (⟨b, o, none⟩ : Addr).add i = ⟨b, o + i, none⟩ := fun o i => by simp [Addr.add]
            rw [hadd] at hy0
            obtain ⟨cur, bt, fz, hb⟩ := cell_heap hy0
            obtain ⟨l, k1, k2⟩ := list_of (α := den ce × List Value) (Q := fun i p => (At w (fun b => b < w.heap.size) ce p.1 p.2 ∧ okD ce p.1) ∧ p.2.length = P.cellsOf e ∧ ∀ j, j < P.cellsOf e → cur[off + (i * P.cellsOf e + j)]? = p.2[j]?) len fun i hi => by
              have h1 := he i hi
              rw [List.getElem?_eq_getElem (by omega)] at h1
              cases hcl : w.cells? 0 ((⟨b, off, none⟩ : Addr).add (i * P.cellsOf e)) (P.cellsOf e) with
              | none => rw [hcl] at h1; cases h1
              | some cl =>
                rw [hcl] at h1
                obtain ⟨d, hdd⟩ := trod_at hsp n e ce _ _ _ hce hd2 h1
                obtain ⟨k1, k2⟩ := cells_get hcl
                refine ⟨(d, cl), hdd, k1, fun j hj => ?_⟩
                have := k2 j hj
                rw [← this, hadd2, hadd2, World.cell?, hb]
                simp [Nat.add_assoc]
            have hal := al2_of (Q := fun d y => At w (fun b => b < w.heap.size) ce d y ∧ okD ce d) l fun i p hp => (k2 i p hp).1
            obtain ⟨hal, hok⟩ := al2_split hal
            refine ⟨l.map (·.1), ⟨_, rfl, l.map (·.2), ⟨fun y hy => ?_, .inr ⟨b, off, cap, cur, bt, fz, by simp [k1], by simpa [k1] using hlc, hb, fun j y hj => ?_⟩⟩, hal, fun q hq => ?_⟩, by rw [List.length_map, k1]; unfold maxLen at hcm; omega, fun y hy => hok y hy⟩
            · obtain ⟨z, hz⟩ := List.getElem?_of_mem hy
              obtain ⟨d, _, hQ⟩ : ∃ d : den ce, True ∧ At w (fun b => b < w.heap.size) ce d y := by
                rw [List.getElem?_map] at hz
                cases hlz : l[z]? with
                | none => rw [hlz] at hz; cases hz
                | some p => rw [hlz] at hz; cases hz; exact ⟨p.1, trivial, (k2 z p hlz).1.1⟩
              exact At.len _ _ _ hQ
            · have hz : ∀ y ∈ l.map (·.2), y.length = P.cellsOf e := fun y hy => by
                obtain ⟨p, hp, rfl⟩ := List.mem_map.1 hy
                obtain ⟨z, hz⟩ := List.getElem?_of_mem hp
                exact (k2 z p hz).2.1
              have hjl := (List.getElem?_eq_some_iff.1 hj).1
              have hfl : (l.map (·.2)).flatten.length = l.length * P.cellsOf e := by
                have : ∀ (ys : List (List Value)), (∀ y ∈ ys, y.length = P.cellsOf e) → ys.flatten.length = ys.length * P.cellsOf e := by
                  intro ys
                  induction ys with
                  | nil => simp
                  | cons y ys ih =>
                    intro h
                    rw [List.flatten_cons, List.length_append, ih fun z hz => h z (List.mem_cons_of_mem _ hz), h y (by simp), List.length_cons, Nat.add_mul]; omega
                rw [this _ hz, List.length_map]
              have hdiv : j / P.cellsOf e < l.length := Nat.div_lt_of_lt_mul (by rw [Nat.mul_comm]; omega)
              have hmod : j % P.cellsOf e < P.cellsOf e := Nat.mod_lt _ hd1
              have hp : l[j / P.cellsOf e]? = some l[j / P.cellsOf e] := List.getElem?_eq_getElem hdiv
              obtain ⟨_, _, h5⟩ := k2 _ _ hp
              have h6 := flat_at hz (j := j / P.cellsOf e) (k := j % P.cellsOf e) (x := (l[j / P.cellsOf e]).2) (by rw [List.getElem?_map, hp]; rfl) hmod
              have hjj : j / P.cellsOf e * P.cellsOf e + j % P.cellsOf e = j := by rw [Nat.mul_comm]; exact Nat.div_add_mod _ _
              have h7 := h5 _ hmod
              rw [hjj] at h6 h7
              rw [h7, ← h6]; exact hj
            · simp only [vfoot, hcap, if_false, Option.some.injEq] at hq
              subst hq
              exact (Array.getElem?_eq_some_iff.1 hb).1
      · cases hc
    · rename_i fs ht
      rw [ht] at hd
      simp only [Bool.and_eq_true] at hd
      obtain ⟨hd1, hd2⟩ := hd
      split at hc
      · rename_i cl hcl
        cases hc
        split at hd1
        · rename_i s hs
          have hd1 := Nat.eq_of_beq_eq_true hd1
          obtain ⟨xs, q, _, _, h1, h2, h3⟩ := DataW.trod_struct ht h
          have := fields_at (w := w) (I := fun b => b < w.heap.size) (cs := cs) (n := n) fs.toList 0 cl hs (by rw [h1, hd1]) (fun _ _ => trivial) hcl fun f hf c hc => by
            obtain ⟨i, hi⟩ := List.getElem?_of_mem hf
            have hi' : fs[i]? = some f := by simpa using hi
            have h4 := h3 i f hi'
            have hlt : i < fs.size := (Array.getElem?_eq_some_iff.1 hi').1
            rw [List.getElem?_eq_getElem (by omega)] at h4
            exact trod_at hsp n f.type c _ _ _ hc (List.all_eq_true.1 hd2 f hf) h4
          simpa using this
        · cases hd1
      · cases hc
    · cases hc

end
end Go.Dor
namespace Go.Dor
open Go.RowKit (Below)
section
variable {H : Type} {enc : TypeId × Value → H} {P : Program} {w w' : World}

/-- all that stands at the beginning may be read -/
noncomputable def m0 (w : World) : Mem := memOf (lentOf [] fun _ => undef) (fun _ => True) w [] (fun _ => undef) w

theorem m0_imm {b : Nat} (h : b < w.heap.size) : (m0 w).I b := ⟨h, .inr (.inl trivial), fun id hid => by simp [lives, liveO] at hid⟩
theorem at_m0 {c : T} {d : den c} {cs : List Value} (h : At w (fun b => b < w.heap.size) c d cs) : At (m0 w).w (m0 w).I c d cs := At.mono (fun _ hb => ⟨m0_imm hb, rfl⟩) _ _ _ h

theorem arg_ok {t : TypeId} {v : Value} {d : DataW H} {p : List MemPlace} {c : T} (h : DataW.Trod enc P w 0 (fun _ => true) true t v d p) (hc : codeT P depth t = some c) (ht : tiled P depth t = true) : ∃ a : den c, At (m0 w).w (m0 w).I c a v.cells.toList ∧ okD c a := by
  obtain ⟨fuel, h⟩ := h
  obtain ⟨a, ha, hk⟩ := trod_at (fun _ => rfl) _ _ _ _ _ _ hc ht h
  exact ⟨a, at_m0 ha, hk⟩
theorem arg_at {t : TypeId} {v : Value} {d : DataW H} {p : List MemPlace} {c : T} (h : DataW.Trod enc P w 0 (fun _ => true) true t v d p) (hc : codeT P depth t = some c) (ht : tiled P depth t = true) : ∃ a : den c, At (m0 w).w (m0 w).I c a v.cells.toList := by
  obtain ⟨a, ha, _⟩ := arg_ok h hc ht
  exact ⟨a, ha⟩

theorem rv_ag {c : T} {a : den c} {v : Value} {cs : Array Value} (hv : v = .agg cs) (h : At (m0 w).w (m0 w).I c a v.cells.toList) : Rv (m0 w) (.ag (Dor.enc c a)) v := by
  obtain ⟨s, h1, h2⟩ := At.enc _ _ _ h
  refine ⟨s, ?_, h2⟩
  subst hv
  have h1 : cs.toList = s.flatten := h1
  simp [ag, cells, ← h1]

/-- a law of data, called -/
theorem law_calls {f : FuncId} {vd : List Vd} {q : HL (Ds.ts ⟨vd, []⟩) → Option (HL (Ds.ts ⟨[.one (.im .bool)], []⟩))} (hS : Entry.Sound P f ⟨⟨vd, []⟩, ⟨[.one (.im .bool)], []⟩, q⟩) {vals : List Value} {x : HL (Ds.ts ⟨vd, []⟩)}
    (hv : Al2 (Rv (m0 w)) (givenV ⟨vd, []⟩ id x).1 vals) (hq : q x = some true) : Calls P f vals.toArray w fun e w' => e = .returned (.bool true) ∧ Below w.heap.size w w' := by
  have hg : givenO ⟨vd, []⟩ id x = [] := rfl
  have hs : Start ⟨vd, []⟩ x (fun _ => True) w (fun _ => undef) vals := by
    refine ⟨?_, hv⟩
    refine ⟨rfl, rfl, rfl, Nat.le_refl _, fun _ _ _ => rfl, fun b _ => ?_, fun id o hid => ?_, fun id hid => ?_, fun i j hi => ?_⟩
    · rintro ⟨i, hi, _⟩
      rw [hg] at hi
      simp [lives, liveO] at hi
    · rw [hg] at hid; simp at hid
    · rw [hg] at hid; simp [lives, liveO] at hid
    · rw [hg] at hi; simp [lives, liveO] at hi
  refine (hS.out x true hq (fun _ => True) w (fun _ => undef) vals hs).mono fun e w' ⟨vs, g', he, R', hv', _⟩ => ?_
  have hv' : Al2 (Rv (memOf (lentOf (givenO ⟨vd, []⟩ id x) fun _ => undef) (fun _ => True) w (givenO ⟨[.one (.im .bool)], []⟩ id true) g' w')) [.one (.b true)] vs := hv'
  obtain ⟨v, vs, rfl, h1, h2⟩ := hv'.cons_left
  have := h2.nil_left
  subst this
  have h1 := rv_bool h1
  subst h1
  refine ⟨he, R'.os, R'.tape, R'.output, R'.size, fun b hb => R'.old b hb ?_⟩
  rintro ⟨i, hi, _⟩
  have hg' : lives ([] : Hm) i := hi
  simp [lives, liveO] at hg'

theorem trodAll_stays (hl : laidOutB P = true) (hb : Below w.heap.size w w') : ∀ {ts : List TypeId} {vs : List Value} {ds : List (DataW H)} {ps : List MemPlace}, (∀ t ∈ ts, P.readableRec t = true ∧ t < P.types.size) →
    DataW.TrodAll enc P w 0 (fun _ => true) true ts vs ds ps → (∀ x ∈ ps, x.block < w.heap.size) → DataW.TrodAll enc P w' 0 (fun b => decide (b < w.heap.size)) true ts vs ds ps
  | [], [], [], _, _, h, _ => h
  | t :: ts, v :: vs, d :: ds, ps, hr, h, hlt => by
    obtain ⟨p, q, h1, h2, rfl⟩ := h
    exact ⟨p, q, Go.RowKit.Below.trod hl (hr t (by simp)).1 (hr t (by simp)).2 h1 hb (fun x hx => hlt x (List.mem_append_left _ hx)), trodAll_stays hl hb (fun u hu => hr u (List.mem_cons_of_mem _ hu)) h2 (fun x hx => hlt x (List.mem_append_right _ hx)), rfl⟩

end
end Go.Dor
end

section
/- AN ARGUMENT OF A LAW, as data of its type: numbers fit, the value reads as the data. -/
namespace Go.Dor
section
variable {H : Type} {enc' : TypeId × Value → H} {P : Program} {w : World}

def vOf : (c : T) → den c → V
  | .int k, n => .one (.i k n)
  | .bool, x => .one (.b x)
  | .str, l => .one (.s l)
  | .flt k, n => .one (.f k n)
  | .sl e, xs => .one (.ro e xs)
  | .unit, x => .ag (enc .unit x)
  | .pair a b, x => .ag (enc (.pair a b) x)
  | .arr n e, x => .ag (enc (.arr n e) x)

def aggT : T → Bool
  | .unit | .pair .. | .arr .. => true
  | _ => false

theorem okWide_agg {t : TypeId} {r : Reach} {base : Nat} {v : Value} (hv : Value.okWide P w r base t v) (hg : (∃ fs, P.underlying t = some (.struct fs)) ∨ ∃ m e, P.underlying t = some (.array m e)) : ∃ cs, v = .agg cs := by
  rcases hg with ⟨fs, hg⟩ | ⟨m, e, hg⟩ <;>
  · simp only [Value.okWide, hg] at hv
    obtain ⟨cs, h1, _⟩ := hv
    exact ⟨cs, h1⟩

theorem one_cells {v : Value} (h : ∀ cs, v ≠ .agg cs) : v.cells.toList = [v] := by
  cases v <;> first | rfl | exact absurd rfl (h _)

theorem arg_rv {t : TypeId} {v : Value} {d : DataW H} {p : List MemPlace} {c : T} (hag : (match P.underlying t with | some (.struct _) | some (.array _ _) => true | _ => false) = aggT c)
    (h : DataW.Trod enc' P w 0 (fun _ => true) true t v d p) (hc : codeT P depth t = some c) (ht : tiled P depth t = true) {r : Reach} {base : Nat} (hv : Value.okWide P w r base t v) : ∃ a : den c, Rv (m0 w) (vOf c a) v ∧ okD c a := by
  obtain ⟨a, ha, hk⟩ := arg_ok h hc ht
  refine ⟨a, ?_, hk⟩
  cases hx : aggT c with
  | true =>
    rw [hx] at hag
    have hcs : ∃ cs, v = .agg cs := by
      split at hag
      · rename_i fs hu; exact okWide_agg hv (.inl ⟨_, hu⟩)
      · rename_i m e hu; exact okWide_agg hv (.inr ⟨_, _, hu⟩)
      · cases hag
    obtain ⟨cs, hcs⟩ := hcs
    cases c <;> first | exact rv_ag hcs ha | cases hx
  | false =>
    rw [hx] at hag
    have hne : ∀ cs, v ≠ .agg cs := by
      rintro cs rfl
      split at hag
      · cases hag
      · cases hag
      · rename_i h1 h2
        unfold Value.okWide at hv
        split at hv
        · rename_i hu; exact h1 _ hu
        · rename_i hu; exact h2 _ _ hu
        · unfold Cell.okWide at hv
          cases hu : P.underlying t with
          | none => rw [hu] at hv; simp [Cell.ok, hu] at hv
          | some u => cases u <;> simp_all [Cell.ok]
    rw [one_cells hne] at ha
    cases c <;> first | exact ha | cases hx
end
end Go.Dor
end

section
/- ReplyLogs AT EVERY INPUT: true; each argument reads behind the call as it read before. No condition but the row's own. -/
namespace Go.Proofs.YtlejphdgfoejaaaDoor
open Go.ChangeShapes Go.WideShapes Go.ChangeAt Go.RowKit

theorem replyLogs_ownNone : ownKnob Tryd.prog.godebug = none := by kernel_rfl
theorem replyLogs_laidOk : laidOutB Tryd.prog = true := by kernel_rfl
/-- A world that meets the condition: the listed variables' cells laid. -/
noncomputable def replyLogs_laidWorld (os : Os) : World :=
  let w0 := World.holding Tryd.prog os ⟨#[], #[], []⟩
  let put (h : Array Obj) (g : Nat) (cs : Array Value) : Array Obj := h.modify g fun
    | .cells _ t frozen => .cells cs t frozen
    | o => o
  let h1 := put w0.heap 1 (Go.Pinned.utf8FirstZ.map fun (z : Nat) => Value.int .u8 (z : Int)).toArray
  let h2 := put h1 2 (([128, 191, 160, 191, 128, 159, 144, 191, 128, 143, 0, 0, 0, 0, 0, 0, 0, 0, 0, 0, 0, 0, 0, 0, 0, 0, 0, 0, 0, 0, 0, 0] : List Int).map fun z => Value.int .u8 z).toArray
  { w0 with heap := h2 }
set_option maxRecDepth 100000 in
theorem replyLogs_laid_met (os : Os) (args : Array Value) : laidMet Tryd.prog Rows.replyLogsRow.laid ((replyLogs_laidWorld os).forCall (fun _ _ => 0) ⟨#[], args, []⟩).memory :=
  (LaidIn.of_run [1, 2] 8 (by kernel_rfl) (by kernel_rfl) (by kernel_rfl) (by kernel_rfl)).met
set_option maxRecDepth 100000 in
theorem replyLogs_laidWorld_met (os : Os) (args : Array Value) : laidMetH Tryd.prog Rows.replyLogsRow.laid ((replyLogs_laidWorld os).forCall (fun _ _ => 0) ⟨#[], args, []⟩).memory :=
  replyLogs_laid_met os args
set_option maxRecDepth 100000 in
theorem replyLogs_lifted (os : Os) (started : os.Started) (H : Type) (enc : TypeId × Value → H) :
    ReturnsInHanded {} Tryd.checked os 5 .any (fun w args => (Rows.replyLogsSpec.pre enc Tryd.prog Tryd.f5 [] false w args ∧ laidMetH Tryd.prog Rows.replyLogsRow.laid w) ∧ sizedMet enc Tryd.prog Tryd.f5 (OpenSpec.ofChange Rows.replyLogsSpec) false w args) (Rows.replyLogsSpec.post enc Tryd.prog Tryd.f5 false true false false) := by
  refine returnsInHanded_of_change_and (C := Tryd.checked) (X := fun w _ => laidMetH Tryd.prog Rows.replyLogsRow.laid w) (fun _ _ _ hh h => h.of_heap hh) replyLogs_ownNone started (by kernel_rfl) Tryd.func5
    (ChangeSpec.witness_at (enc := enc) (C := Tryd.checked) (os := os) (X := fun w _ => laidMetH Tryd.prog Rows.replyLogsRow.laid w) false (replyLogs_laidWorld os) #[.slice none 0 0, .slice none 0 0] 8 rfl (by kernel_rfl) (by kernel_rfl) (by kernel_rfl) (by kernel_rfl) (by kernel_rfl) (replyLogs_laidWorld_met os _)) ?_
  intro W base args ds gs before hval0 hW _ _ _ _
  have hval : ∀ (j : Nat) t v, Tryd.f5.params[j]? = some t → args[j]? = some v → Value.okWide Tryd.prog W .any base t v := hval0
  have hW' := hW
  obtain ⟨p, q, hA0, hV, rfl, _, _⟩ := hW
  have hA : DataW.TrodAll enc Tryd.prog W 0 (fun _ => true) true Tryd.f5.params.toList args.toList ds p := hA0
  have hA2 := hA
  rw [Tryd.params5] at hA hval
  obtain ⟨rfl, rfl⟩ := trodVars_none hV
  simp only [List.append_nil] at hW'
  have hlt : ∀ x ∈ p, x.block < W.heap.size := fun x hx => by simpa using hW'.lt x hx
  obtain ⟨v0, v1, d0, d1, p0, p1, rfl, rfl, rfl, h0, h1⟩ := trodAll_two hA
  obtain ⟨a0, r0, k0⟩ := Dor.arg_rv (c := .sl (.pair (.int .i64) .str)) (by kernel_rfl) h0 (by kernel_rfl) (by kernel_rfl) (hval 0 _ v0 rfl rfl)
  obtain ⟨a1, r1, k1⟩ := Dor.arg_rv (c := .sl (.pair (.int .i64) .str)) (by kernel_rfl) h1 (by kernel_rfl) (by kernel_rfl) (hval 1 _ v1 rfl rfl)
  have hk := Dor.Lg.law_ReplyLogs a0 a1
  refine (Dor.law_calls (Dor.s_dormouselaw39_ReplyLogs 40000) (vals := [v0, v1]) (x := (a0, a1)) (w := W) ⟨r0, r1, trivial⟩ hk).mono fun e W' ⟨he, hnx⟩ => ⟨_, he, ?_⟩
  refine ⟨_, _, _, [] ++ [], p0 ++ p1, [], hW', trodAll_mk1 (shut_bool (by kernel_rfl) true), ?_, rfl, hnx.frame _, fun h => by cases h⟩
  exact Dor.trodAll_stays replyLogs_laidOk hnx (by decide +kernel) hA2 hlt

theorem replyLogs_holds : Rows.ReplyLogsSaid :=
  OpenClaim.holds_of_wide 5 Tryd.f5 rfl rfl rfl rfl rfl rfl rfl ⟨rfl, rfl, rfl, rfl, rfl⟩ rfl rfl rfl rfl rfl (by kernel_rfl) Tryd.func5 (by kernel_rfl)
    (of_decide_eq_true (by kernel_rfl)) (by unfold Func.isWrapper; first | (rw [if_pos (by decide +kernel)]; kernel_rfl) | (rw [if_neg (by decide +kernel)]; exact ⟨rfl, rfl⟩))
    (fun os started H enc _ => replyLogs_lifted os started H enc)

theorem replyLogs_card : Rows.ReplyLogsCardSaid :=
  Claim7.holds_tied_plain_at .later [] [.data, .pinned] true (true, "a7d258ae0b702be9d261bb6c8bd45ae7ef8974bff8ff2809bc8c206916b8e966") false
    replyLogs_holds (fun _ h => by cases h) (by kernel_rfl) (fun _ h => by cases h) replyLogs_row_tie rfl ⟨rfl, rfl⟩ (by kernel_rfl) rfl
    (fun f fn hf hfn => by
      obtain rfl : f = 5 := Option.some.inj ((show Tryd.prog.funcNamed "dormouse/dormouselaw39.ReplyLogs" = some 5 by kernel_rfl).symm.trans hf) |>.symm
      obtain rfl : fn = Tryd.f5 := (Option.some.inj (Tryd.func5.symm.trans hfn)).symm
      exact ⟨by kernel_rfl, fun j t ht => by
        have h3 : (Tryd.f5.params.toList.all fun t => !Tryd.prog.wantsStandIn t) = true := by kernel_rfl
        have hm : t ∈ Tryd.f5.params.toList := by rw [Array.mem_toList_iff]; exact Array.mem_of_getElem? ht
        exact (show Tryd.prog.wantsStandIn t = false by simpa using List.all_eq_true.1 h3 t hm)⟩)
    (by kernel_rfl)

end Go.Proofs.YtlejphdgfoejaaaDoor
end
