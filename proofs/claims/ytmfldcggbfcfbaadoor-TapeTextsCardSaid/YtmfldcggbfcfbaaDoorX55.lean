/- THE ROW, AND WHAT IT STANDS ON: the texts Zl Ta Tb Tc Td Te Tf Wb Tg Th Ti Zm R5, one behind the other. -/
import Derived.Test.YtmfldcggbfcfbaaDoorX53
import Derived.ProofKit
import Derived.OpenShut
import Derived.Test.YtmfldcggbfcfbaaDoorX54
import Derived.KernelRfl
import Derived.WideShapes
import Derived.Test.YtmfldcggbfcfbaaDoorRows
import Derived.SizedLaws
import Derived.ChangeSame
import Derived.ChangeVars
import Derived.JoinedOf
import Derived.LaidLaws
import Derived.LaidHandle
import Derived.Lib.LaidIn
import Derived.Handed
import Derived.Test.YtmfldcggbfcfbaaDoorTie
import Derived.Test.YtmfldcggbfcfbaaDoorCards
import Derived.SevenTiedAt
section
/- WHAT A CALLER HANDS IN, AS DATA; a law of data, called. Plain lemmas over any program. -/
namespace Go.Dor
open Go.RowKit (Below)

def chainF (P : Program) : Nat → List Field → Option Nat
  | o, [] => some o
  | o, f :: l => bif Nat.beq f.offset o then chainF P (o + P.cellsOf f.type) l else none
/-- types of data whose parts lie one behind the other -/
def tiled (P : Program) : Nat → TypeId → Bool
  | 0, _ => false
  | n + 1, t =>
    match P.underlying t with
    | some (.int _) | some .bool | some .string => true
    | some (.array m e) => Nat.beq (P.cellsOf t) (m * P.cellsOf e) && tiled P n e
    | some (.slice e) => Nat.blt 0 (P.cellsOf e) && tiled P n e
    | some (.struct fs) => (match chainF P 0 fs.toList with | some s => Nat.beq s (P.cellsOf t) | none => false) && fs.toList.all (fun f => tiled P n f.type)
    | _ => false

theorem pieces {α : Type} {Q : α → List Value → Prop} (k : Nat) : ∀ (m : Nat) (cs : List Value), cs.length = m * k → (∀ i, i < m → ∃ d, Q d ((cs.drop (i * k)).take k)) → ∃ (l : List α) (ys : List (List Value)), l.length = m ∧ cs = ys.flatten ∧ Al2 Q l ys
  | 0, cs, hl, _ => ⟨[], [], rfl, by simpa using hl, trivial⟩
  | m + 1, cs, hl, h => by
    obtain ⟨d, hd⟩ := h 0 (by omega)
    have hl' : (cs.drop k).length = m * k := by rw [List.length_drop, hl, Nat.add_mul]; omega
    obtain ⟨l, ys, h1, h2, h3⟩ := pieces k m (cs.drop k) hl' fun i hi => by
      obtain ⟨d, hd⟩ := h (i + 1) (by omega)
      refine ⟨d, ?_⟩
      rw [List.drop_drop]
      have : k + i * k = (i + 1) * k := by rw [Nat.add_mul]; omega
      rw [this]; exact hd
    refine ⟨d :: l, cs.take k :: ys, by simp [h1], ?_, ?_, h3⟩
    · rw [List.flatten_cons, ← h2, List.take_append_drop]
    · simpa using hd

/-- data that a program can hold: each number fits its kind -/
def okD : (t : T) → den t → Prop
  | .int k, n => (Lit.int k n).wf = true
  | .pair a b, x => okD a x.1 ∧ okD b x.2
  | .arr _ e, x => ∀ y ∈ x.toList, okD e y
  | .sl e, x => x.length ≤ 9223372036854775807 ∧ ∀ y ∈ x, okD e y
  | .str, _ => True
  | .bool, _ => True
  | .flt _, _ => True
  | .unit, _ => True
theorem al2_split {α β : Type} {Q : α → β → Prop} {R : α → Prop} : ∀ {l : List α} {m : List β}, Al2 (fun a b => Q a b ∧ R a) l m → Al2 Q l m ∧ ∀ a ∈ l, R a
  | [], [], _ => ⟨trivial, by simp⟩
  | a :: l, b :: m, h => by
    obtain ⟨h1, h2⟩ := al2_split (l := l) (m := m) h.2
    exact ⟨⟨h.1.1, h1⟩, fun x hx => (List.mem_cons.1 hx).elim (fun e => e ▸ h.1.2) (h2 x)⟩

theorem list_of {α : Type} {Q : Nat → α → Prop} : ∀ (n : Nat), (∀ i, i < n → ∃ p, Q i p) → ∃ l : List α, l.length = n ∧ ∀ i p, l[i]? = some p → Q i p
  | 0, _ => ⟨[], rfl, by simp⟩
  | n + 1, h => by
    obtain ⟨l, h1, h2⟩ := list_of n fun i hi => h i (by omega)
    obtain ⟨p, hp⟩ := h n (by omega)
    refine ⟨l ++ [p], by simp [h1], fun i q hq => ?_⟩
    by_cases hlt : i < n
    · rw [List.getElem?_append_left (by omega)] at hq; exact h2 i q hq
    · have hi : i < (l ++ [p]).length := (List.getElem?_eq_some_iff.1 hq).1
      have : i = n := by simp [h1] at hi; omega
      subst this
      rw [List.getElem?_append_right (by omega), h1] at hq
      simp at hq; subst hq; exact hp

theorem al2_of {α β : Type} {Q : α → β → Prop} : ∀ (l : List (α × β)), (∀ (i : Nat) p, l[i]? = some p → Q p.1 p.2) → Al2 Q (l.map (·.1)) (l.map (·.2))
  | [], _ => trivial
  | p :: l, h => ⟨h 0 p rfl, al2_of l fun i q hq => h (i + 1) q hq⟩

section
variable {H : Type} {enc : TypeId × Value → H} {P : Program} {w : World} {spare : Nat → Bool} {held : Bool}

theorem fields_at {I : Nat → Prop} {cs : List Value} {n s : Nat} : ∀ (l : List Field) (o : Nat) (cl : List T), chainF P o l = some s → cs.length = s → (∀ c, codeT P n 0 = c → True) →
    l.foldr (fun f acc => match codeT P n f.type, acc with | some a, some l => some (a :: l) | _, _ => none) (some []) = some cl →
    (∀ f ∈ l, ∀ c, codeT P n f.type = some c → ∃ d : den c, At w I c d ((cs.drop f.offset).take (P.cellsOf f.type)) ∧ okD c d) → ∃ d : den (mkT cl), At w I (mkT cl) d (cs.drop o) ∧ okD (mkT cl) d
  | [], o, cl, hc, hl, _, hf, _ => by
    cases hf
    simp only [chainF, Option.some.injEq] at hc
    exact ⟨(), List.drop_eq_nil_of_le (by omega), trivial⟩
  | [f], o, cl, hc, hl, _, hf, h => by
    simp only [chainF, cond_eq_ite] at hc
    split at hc
    · rename_i ho
      have ho := Nat.eq_of_beq_eq_true ho
      simp only [Option.some.injEq] at hc
      simp only [List.foldr_cons, List.foldr_nil] at hf
      split at hf
      · rename_i a l' ha hl'
        cases hf; cases hl'
        obtain ⟨d, hd, hk⟩ := h f (by simp) a ha
        refine ⟨d, ?_, hk⟩
        rw [ho, List.take_of_length_le (by rw [List.length_drop]; omega)] at hd
        exact hd
      · cases hf
    · cases hc
  | f :: f2 :: l, o, cl, hc, hl, ht, hf, h => by
    rw [chainF, cond_eq_ite] at hc
    split at hc
    · rename_i ho
      have ho := Nat.eq_of_beq_eq_true ho
      rw [List.foldr_cons] at hf
      split at hf
      · rename_i a l' ha hl'
        cases hf
        obtain ⟨d, hd, hk⟩ := h f (by simp) a ha
        obtain ⟨d2, hd2, hk2⟩ := fields_at (f2 :: l) _ l' hc hl ht hl' fun g hg => h g (List.mem_cons_of_mem _ hg)
        have hne : ∃ b r, l' = b :: r := by
          rw [List.foldr_cons] at hl'
          split at hl'
          · cases hl'; exact ⟨_, _, rfl⟩
          · cases hl'
        obtain ⟨b, r, rfl⟩ := hne
        refine ⟨(d, d2), ⟨_, _, ?_, hd, hd2⟩, hk, hk2⟩
        rw [ho, ← List.drop_drop, List.take_append_drop]
      · cases hf
    · cases hc

theorem cell_heap {b o : Nat} {y : Value} (hc : w.cell? ⟨b, o, none⟩ = some y) : ∃ cur t fz, w.heap[b]? = some (.cells cur t fz) := by
  simp only [World.cell?] at hc
  split at hc
  · rename_i cur t fz hb
    exact ⟨_, _, _, hb⟩
  · cases hc

theorem mapM_get {α β : Type} {f : α → Option β} : ∀ {l0 : List α} {l : List β}, l0.mapM f = some l → l.length = l0.length ∧ ∀ (i : Nat) a, l0[i]? = some a → f a = l[i]?
  | [], l, h => by
    simp only [List.mapM_nil] at h
    cases h
    exact ⟨rfl, by simp⟩
  | a :: l0, l, h => by
    rw [List.mapM_cons] at h
    cases ha : f a with
    | none => rw [ha] at h; cases h
    | some b =>
      rw [ha] at h
      cases hl : l0.mapM f with
      | none => rw [hl] at h; cases h
      | some bs =>
        rw [hl] at h
        have h : some (b :: bs) = some l := h
        cases h
        obtain ⟨h1, h2⟩ := mapM_get hl
        refine ⟨by simp [h1], fun i x hx => ?_⟩
        cases i with
        | zero => simp at hx; subst hx; simpa using ha
        | succ i => simp at hx; simpa using h2 i x hx
theorem cells_get {base k : Nat} {a : Addr} {l : List Value} (h : w.cells? base a k = some l) : l.length = k ∧ ∀ i, i < k → w.cell? (a.add i) = l[i]? := by
  unfold World.cells? at h
  split at h
  · obtain ⟨h1, h2⟩ := mapM_get h
    exact ⟨by simpa using h1, fun i hi => h2 i i (by simp [hi])⟩
  · cases h

/-- what a caller hands in reads as data -/
theorem trod_at (hsp : ∀ b, spare b = true) : ∀ (n : Nat) (t : TypeId) (c : T) (fuel : Nat) (cs : List Value) (x : DataW H × List MemPlace), codeT P n t = some c → tiled P n t = true →
    DataW.trod enc P w 0 spare held fuel t cs = some x → ∃ d : den c, At w (fun b => b < w.heap.size) c d cs ∧ okD c d
  | 0, t, c, fuel, cs, x, hc, _, _ => by cases hc
  | n + 1, t, c, fuel, cs, x, hc, hd, h => by
    unfold codeT at hc
    unfold tiled at hd
    split at hc
    · rename_i k ht
      cases hc
      obtain ⟨y, rfl, _, hwf⟩ := DataW.trod_int ht h
      exact ⟨y, rfl, hwf⟩
    · rename_i ht
      cases hc
      obtain ⟨y, rfl, _⟩ := DataW.trod_bool ht h
      exact ⟨y, rfl, trivial⟩
    · rename_i ht
      cases hc
      obtain ⟨y, rfl, _⟩ := DataW.trod_string ht h
      exact ⟨y.data.toList, by simp [At, sv], trivial⟩
    · rename_i k ht
      rw [ht] at hd; cases hd
    · rename_i m e ht
      rw [ht] at hd
      simp only [Bool.and_eq_true] at hd
      obtain ⟨hd1, hd2⟩ := hd
      have hd1 := Nat.eq_of_beq_eq_true hd1
      split at hc
      · rename_i ce hce
        cases hc
        obtain ⟨xs, q, _, _, h1, h2, h3⟩ := DataW.trod_array ht h
        obtain ⟨l, ys, k1, k2, k3⟩ := pieces (Q := fun d y => At w (fun b => b < w.heap.size) ce d y ∧ okD ce d) (P.cellsOf e) m cs (by rw [h1, hd1]) fun i hi => by
          have := h3 i hi
          rw [List.getElem?_eq_getElem (by omega)] at this
          exact trod_at hsp n e ce _ _ _ hce hd2 this
        obtain ⟨k3, k4⟩ := al2_split k3
        refine ⟨⟨l.toArray, by simpa using k1⟩, ⟨ys, k2, ?_⟩, fun y hy => k4 y (by simpa using hy)⟩
        simpa using k3
      · cases hc
    · rename_i e ht
      rw [ht] at hd
      simp only [Bool.and_eq_true] at hd
      obtain ⟨hd1, hd2⟩ := hd
      have hd1 : 0 < P.cellsOf e := by simpa [Nat.blt_eq] using hd1
      split at hc
      · rename_i ce hce
        cases hc
        rcases DataW.trod_slice ht h with ⟨rfl, _⟩ | ⟨a, len, cap, elems, rest, q, _, rfl, _, _, hlc, hcm, hel, he, hrest, _⟩
        · exact ⟨[], ⟨_, rfl, [], ⟨by simp, .inl ⟨⟨none, rfl⟩, rfl⟩⟩, trivial, by simp [vfoot]⟩, Nat.zero_le _, fun y hy => by cases hy⟩
        · obtain ⟨hr1, hr2⟩ := hrest (hsp _)
          by_cases hcap : cap = 0
          · subst hcap
            have hl0 : len = 0 := by omega
            subst hl0
            exact ⟨[], ⟨_, rfl, [], ⟨by simp, .inl ⟨⟨_, rfl⟩, rfl⟩⟩, trivial, by simp [vfoot]⟩, Nat.zero_le _, fun y hy => by cases hy⟩
          · -- a cell is there
            have h0 : ∃ y, w.cell? (a.add 0) = some y := by
              have key : ∀ {o : Option (DataW H × List MemPlace)} {i : Nat}, i = 0 → (w.cells? 0 (a.add (i * P.cellsOf e)) (P.cellsOf e)).bind (DataW.trod enc P w 0 spare held q e) = o → o.isSome = true → ∃ y, w.cell? (a.add 0) = some y := by
                intro o i hi hb ho
                subst hi
                cases hcl : w.cells? 0 (a.add (0 * P.cellsOf e)) (P.cellsOf e) with
                | none => rw [hcl] at hb; subst hb; cases ho
                | some l =>
                  obtain ⟨k1, k2⟩ := cells_get hcl
                  have := k2 0 hd1
                  rw [List.getElem?_eq_getElem (by omega)] at this
                  exact ⟨l[0]'(by omega), by simpa [Addr.add] using this⟩
              by_cases hl0 : len = 0
              · exact key (i := len + 0) (by omega) (hr2 0 (by omega)) (by rw [List.getElem?_eq_getElem (by omega)]; rfl)
              · exact key (i := 0) rfl (he 0 (by omega)) (by rw [List.getElem?_eq_getElem (by omega)]; rfl)
            obtain ⟨y0, hy0⟩ := h0
            have hspot := World.cell?_spot hy0
            obtain ⟨b, off, spot⟩ := a
            have hspot : spot = none := by simpa [Addr.add] using hspot
            subst hspot
            have hadd : ∀ i, (⟨b, off, none⟩ : Addr).add i = ⟨b, off + i, none⟩ := fun i => by simp [Addr.add]
            have hadd2 : ∀ o i, (⟨b, o, none⟩ : Addr).add i = ⟨b, o + i, none⟩ := fun o i => by simp [Addr.add]
            rw [hadd] at hy0
            obtain ⟨cur, bt, fz, hb⟩ := cell_heap hy0
            obtain ⟨l, k1, k2⟩ := list_of (α := den ce × List Value) (Q := fun i p => (At w (fun b => b < w.heap.size) ce p.1 p.2 ∧ okD ce p.1) ∧ p.2.length = P.cellsOf e ∧ ∀ j, j < P.cellsOf e → cur[off + (i * P.cellsOf e + j)]? = p.2[j]?) len fun i hi => by
              have h1 := he i hi
              rw [List.getElem?_eq_getElem (by omega)] at h1
              cases hcl : w.cells? 0 ((⟨b, off, none⟩ : Addr).add (i * P.cellsOf e)) (P.cellsOf e) with
              | none => rw [hcl] at h1; cases h1
              | some cl =>
                rw [hcl] at h1
                obtain ⟨d, hdd⟩ := trod_at hsp n e ce _ _ _ hce hd2 h1
                obtain ⟨k1, k2⟩ := cells_get hcl
                refine ⟨(d, cl), hdd, k1, fun j hj => ?_⟩
                have := k2 j hj
                rw [← this, hadd2, hadd2, World.cell?, hb]
                simp [Nat.add_assoc]
            have hal := al2_of (Q := fun d y => At w (fun b => b < w.heap.size) ce d y ∧ okD ce d) l fun i p hp => (k2 i p hp).1
            obtain ⟨hal, hok⟩ := al2_split hal
            refine ⟨l.map (·.1), ⟨_, rfl, l.map (·.2), ⟨fun y hy => ?_, .inr ⟨b, off, cap, cur, bt, fz, by simp [k1], by simpa [k1] using hlc, hb, fun j y hj => ?_⟩⟩, hal, fun q hq => ?_⟩, by rw [List.length_map, k1]; unfold maxLen at hcm; omega, fun y hy => hok y hy⟩
            · obtain ⟨z, hz⟩ := List.getElem?_of_mem hy
              obtain ⟨d, _, hQ⟩ : ∃ d : den ce, True ∧ At w (fun b => b < w.heap.size) ce d y := by
                rw [List.getElem?_map] at hz
                cases hlz : l[z]? with
                | none => rw [hlz] at hz; cases hz
                | some p => rw [hlz] at hz; cases hz; exact ⟨p.1, trivial, (k2 z p hlz).1.1⟩
              exact At.len _ _ _ hQ
            · have hz : ∀ y ∈ l.map (·.2), y.length = P.cellsOf e := fun y hy => by
                obtain ⟨p, hp, rfl⟩ := List.mem_map.1 hy
                obtain ⟨z, hz⟩ := List.getElem?_of_mem hp
                exact (k2 z p hz).2.1
              have hjl := (List.getElem?_eq_some_iff.1 hj).1
              have hfl : (l.map (·.2)).flatten.length = l.length * P.cellsOf e := by
                have : ∀ (ys : List (List Value)), (∀ y ∈ ys, y.length = P.cellsOf e) → ys.flatten.length = ys.length * P.cellsOf e := by
                  intro ys
                  induction ys with
                  | nil => simp
                  | cons y ys ih =>
                    intro h
                    rw [List.flatten_cons, List.length_append, ih fun z hz => h z (List.mem_cons_of_mem _ hz), h y (by simp), List.length_cons, Nat.add_mul]; omega
                rw [this _ hz, List.length_map]
              have hdiv : j / P.cellsOf e < l.length := Nat.div_lt_of_lt_mul (by rw [Nat.mul_comm]; omega)
              have hmod : j % P.cellsOf e < P.cellsOf e := Nat.mod_lt _ hd1
              have hp : l[j / P.cellsOf e]? = some l[j / P.cellsOf e] := List.getElem?_eq_getElem hdiv
              obtain ⟨_, _, h5⟩ := k2 _ _ hp
              have h6 := flat_at hz (j := j / P.cellsOf e) (k := j % P.cellsOf e) (x := (l[j / P.cellsOf e]).2) (by rw [List.getElem?_map, hp]; rfl) hmod
              have hjj : j / P.cellsOf e * P.cellsOf e + j % P.cellsOf e = j := by rw [Nat.mul_comm]; exact Nat.div_add_mod _ _
              have h7 := h5 _ hmod
              rw [hjj] at h6 h7
              rw [h7, ← h6]; exact hj
            · simp only [vfoot, hcap, if_false, Option.some.injEq] at hq
              subst hq
              exact (Array.getElem?_eq_some_iff.1 hb).1
      · cases hc
    · rename_i fs ht
      rw [ht] at hd
      simp only [Bool.and_eq_true] at hd
      obtain ⟨hd1, hd2⟩ := hd
      split at hc
      · rename_i cl hcl
        cases hc
        split at hd1
        · rename_i s hs
          have hd1 := Nat.eq_of_beq_eq_true hd1
          obtain ⟨xs, q, _, _, h1, h2, h3⟩ := DataW.trod_struct ht h
          have := fields_at (w := w) (I := fun b => b < w.heap.size) (cs := cs) (n := n) fs.toList 0 cl hs (by rw [h1, hd1]) (fun _ _ => trivial) hcl fun f hf c hc => by
            obtain ⟨i, hi⟩ := List.getElem?_of_mem hf
            have hi' : fs[i]? = some f := by simpa using hi
            have h4 := h3 i f hi'
            have hlt : i < fs.size := (Array.getElem?_eq_some_iff.1 hi').1
            rw [List.getElem?_eq_getElem (by omega)] at h4
            exact trod_at hsp n f.type c _ _ _ hc (List.all_eq_true.1 hd2 f hf) h4
          simpa using this
        · cases hd1
      · cases hc
    · cases hc

end
end Go.Dor
namespace Go.Dor
open Go.RowKit (Below)
section
variable {H : Type} {enc : TypeId × Value → H} {P : Program} {w w' : World}

/-- all that stands at the beginning may be read -/
noncomputable def m0 (w : World) : Mem := memOf (lentOf [] fun _ => undef) (fun _ => True) w [] (fun _ => undef) w

theorem m0_imm {b : Nat} (h : b < w.heap.size) : (m0 w).I b := ⟨h, .inr (.inl trivial), fun id hid => by simp [lives, liveO] at hid⟩
theorem at_m0 {c : T} {d : den c} {cs : List Value} (h : At w (fun b => b < w.heap.size) c d cs) : At (m0 w).w (m0 w).I c d cs := At.mono (fun _ hb => ⟨m0_imm hb, rfl⟩) _ _ _ h

theorem arg_ok {t : TypeId} {v : Value} {d : DataW H} {p : List MemPlace} {c : T} (h : DataW.Trod enc P w 0 (fun _ => true) true t v d p) (hc : codeT P depth t = some c) (ht : tiled P depth t = true) : ∃ a : den c, At (m0 w).w (m0 w).I c a v.cells.toList ∧ okD c a := by
  obtain ⟨fuel, h⟩ := h
  obtain ⟨a, ha, hk⟩ := trod_at (fun _ => rfl) _ _ _ _ _ _ hc ht h
  exact ⟨a, at_m0 ha, hk⟩
theorem arg_at {t : TypeId} {v : Value} {d : DataW H} {p : List MemPlace} {c : T} (h : DataW.Trod enc P w 0 (fun _ => true) true t v d p) (hc : codeT P depth t = some c) (ht : tiled P depth t = true) : ∃ a : den c, At (m0 w).w (m0 w).I c a v.cells.toList := by
  obtain ⟨a, ha, _⟩ := arg_ok h hc ht
  exact ⟨a, ha⟩

theorem rv_ag {c : T} {a : den c} {v : Value} {cs : Array Value} (hv : v = .agg cs) (h : At (m0 w).w (m0 w).I c a v.cells.toList) : Rv (m0 w) (.ag (Dor.enc c a)) v := by
  obtain ⟨s, h1, h2⟩ := At.enc _ _ _ h
  refine ⟨s, ?_, h2⟩
  subst hv
  have h1 : cs.toList = s.flatten := h1
  simp [ag, cells, ← h1]

/-- a law of data, called -/
theorem law_calls {f : FuncId} {vd : List Vd} {q : HL (Ds.ts ⟨vd, []⟩) → Option (HL (Ds.ts ⟨[.one (.im .bool)], []⟩))} (hS : Entry.Sound P f ⟨⟨vd, []⟩, ⟨[.one (.im .bool)], []⟩, q⟩) {vals : List Value} {x : HL (Ds.ts ⟨vd, []⟩)}
    (hv : Al2 (Rv (m0 w)) (givenV ⟨vd, []⟩ id x).1 vals) (hq : q x = some true) : Calls P f vals.toArray w fun e w' => e = .returned (.bool true) ∧ Below w.heap.size w w' := by
  have hg : givenO ⟨vd, []⟩ id x = [] := rfl
  have hs : Start ⟨vd, []⟩ x (fun _ => True) w (fun _ => undef) vals := by
    refine ⟨?_, hv⟩
    refine ⟨rfl, rfl, rfl, Nat.le_refl _, fun _ _ _ => rfl, fun b _ => ?_, fun id o hid => ?_, fun id hid => ?_, fun i j hi => ?_⟩
    · rintro ⟨i, hi, _⟩
      rw [hg] at hi
      simp [lives, liveO] at hi
    · rw [hg] at hid; simp at hid
    · rw [hg] at hid; simp [lives, liveO] at hid
    · rw [hg] at hi; simp [lives, liveO] at hi
  refine (hS.out x true hq (fun _ => True) w (fun _ => undef) vals hs).mono fun e w' ⟨vs, g', he, R', hv', _⟩ => ?_
  have hv' : Al2 (Rv (memOf (lentOf (givenO ⟨vd, []⟩ id x) fun _ => undef) (fun _ => True) w (givenO ⟨[.one (.im .bool)], []⟩ id true) g' w')) [.one (.b true)] vs := hv'
  obtain ⟨v, vs, rfl, h1, h2⟩ := hv'.cons_left
  have := h2.nil_left
  subst this
  have h1 := rv_bool h1
  subst h1
  refine ⟨he, R'.os, R'.tape, R'.output, R'.size, fun b hb => R'.old b hb ?_⟩
  rintro ⟨i, hi, _⟩
  have hg' : lives ([] : Hm) i := hi
  simp [lives, liveO] at hg'

theorem trodAll_stays (hl : laidOutB P = true) (hb : Below w.heap.size w w') : ∀ {ts : List TypeId} {vs : List Value} {ds : List (DataW H)} {ps : List MemPlace}, (∀ t ∈ ts, P.readableRec t = true ∧ t < P.types.size) →
    DataW.TrodAll enc P w 0 (fun _ => true) true ts vs ds ps → (∀ x ∈ ps, x.block < w.heap.size) → DataW.TrodAll enc P w' 0 (fun b => decide (b < w.heap.size)) true ts vs ds ps
  | [], [], [], _, _, h, _ => h
  | t :: ts, v :: vs, d :: ds, ps, hr, h, hlt => by
    obtain ⟨p, q, h1, h2, rfl⟩ := h
    exact ⟨p, q, Go.RowKit.Below.trod hl (hr t (by simp)).1 (hr t (by simp)).2 h1 hb (fun x hx => hlt x (List.mem_append_left _ hx)), trodAll_stays hl hb (fun u hu => hr u (List.mem_cons_of_mem _ hu)) h2 (fun x hx => hlt x (List.mem_append_right _ hx)), rfl⟩

end
end Go.Dor
end

section
/- NUMBERS OF SCRIPTS: the law of the number of any text, plain. -/
set_option linter.unusedVariables false
set_option linter.unusedSimpArgs false
namespace Go.Dor.Tp
open Go.Proofs

set_option maxRecDepth 100000 in
theorem awake40 : p_dormouselaw40_awake 2000 = some true := by kernel_rfl
theorem sub_one10i {n : Nat} (hn : n < 10) : sub_ DIG10 (n : Int) (IntKind.wrap .i64 ((n : Int) + 1)) = [dig n] := by
  have e : IntKind.wrap .i64 ((n : Int) + 1) = ((n + 1 : Nat) : Int) := by rw [wrap_i64 (by omega)]; omega
  have e2 : IntKind.wrap .u64 ((n : Int) + 1) = ((n + 1 : Nat) : Int) := by rw [wrap_u64]; omega
  rw [e, ← e2]; exact sub_one10 hn
theorem tdec_go {k' : Nat} : ∀ (j k n : Nat) (s : List UInt8), n < 10 ^ j → n < 9223372036854775807 → j < k → s.length + j < 1000000 →
    loopC (fun (r : Int × List UInt8 → Option (List UInt8)) y => p_tape_decimal.b1 k' (fun y => p_tape_decimal.j0 k' y.1 y.2) r y.1 y.2) k ((n : Int), s) = some (decN n ++ s)
  | j, 0, n, s, h, _, hk, hs => by omega
  | j, k + 1, n, s, h, hn, hk, hs => by
    have e10 : ([(48 : UInt8), (49 : UInt8), (50 : UInt8), (51 : UInt8), (52 : UInt8), (53 : UInt8), (54 : UInt8), (55 : UInt8), (56 : UInt8), (57 : UInt8)] : List UInt8) = DIG10 := rfl
    have ih := fun (j n : Nat) (s : List UInt8) (h : n < 10 ^ j) (hn : n < 9223372036854775807) (hk : j < k) (hs : s.length + j < 1000000) => tdec_go (k' := k') j k n s h hn hk hs
    rw [loopC_succ]
    generalize loopC (fun (r : Int × List UInt8 → Option (List UInt8)) y => p_tape_decimal.b1 k' (fun y => p_tape_decimal.j0 k' y.1 y.2) r y.1 y.2) k = R at ih ⊢
    dsimp only
    unfold p_tape_decimal.b1
    by_cases h1 : n < 10
    · have e1 : decide ((n : Int) > 9) = false := by simpa using (by omega : (n : Int) ≤ 9)
      have ew : IntKind.wrap .i64 ((n : Int) + 1) = ((n + 1 : Nat) : Int) := by rw [wrap_i64 (by omega)]; omega
      rw [e1, cond_false, decN_lo h1]
      unfold p_tape_decimal.j0
      dsimp only
      rw [e10, sub_one10i h1, ew, need_yes (by omega), need_yes (by simp only [List.length_cons, List.length_nil]; omega)]
    · have e1 : decide ((n : Int) > 9) = true := by simpa using (by omega : (n : Int) > 9)
      have em : Int.tmod (n : Int) 10 = ((n % 10 : Nat) : Int) := by rw [Int.tmod_eq_emod_of_nonneg (by omega)]; omega
      have ed : IntKind.wrap .i64 (Int.tdiv (n : Int) 10) = ((n / 10 : Nat) : Int) := by rw [Int.tdiv_eq_ediv_of_nonneg (by omega), wrap_i64 (by omega)]; omega
      have ew : IntKind.wrap .i64 (((n % 10 : Nat) : Int) + 1) = ((n % 10 + 1 : Nat) : Int) := by rw [wrap_i64 (by omega)]; omega
      cases j with
      | zero => simp at h; omega
      | succ j =>
        rw [e1, cond_true, em, ed, e10, sub_one10i (show n % 10 < 10 by omega), ew, need_yes (by omega), need_yes (by simp only [List.length_cons, List.length_nil]; omega),
          ih j (n / 10) _ (by rw [Nat.pow_succ] at h; omega) (by omega) (by omega) (by simp only [List.length_append, List.length_cons, List.length_nil]; omega), decN_hi h1]
        simp
theorem tdec_eq {k n : Nat} (hk : 20 < k) (hn : n < 9223372036854775807) : p_tape_decimal k (n : Int) = some (decN n) := by
  unfold p_tape_decimal joinC
  have := tdec_go (k' := k) 20 k n [] (Nat.lt_of_lt_of_le hn (by decide)) hn hk (by simp)
  rw [List.append_nil] at this
  exact this
/-- a digit's number, or below 0 -/
def dv (c : UInt8) : Int := indexByteOf DIG10 (c.toNat : Int)
def dvck (n : Nat) : Bool := decide (-1 ≤ dv (UInt8.ofNat n)) && decide (dv (UInt8.ofNat n) < 10)
theorem dv_all : (List.range 256).all dvck = true := by decide +kernel
theorem dv_at (c : UInt8) : -1 ≤ dv c ∧ dv c < 10 := by
  have h := List.all_eq_true.1 dv_all c.toNat (by have := c.toNat_lt; simpa using this)
  have e : UInt8.ofNat c.toNat = c := UInt8.ofNat_toNat
  simp only [dvck, e, Bool.and_eq_true, decide_eq_true_eq] at h
  exact h
theorem dv_dig_all : (List.range 10).all (fun n => decide (dv (dig n) = (n : Int))) = true := by decide +kernel
theorem dv_dig {n : Nat} (h : n < 10) : dv (dig n) = (n : Int) := by
  have := List.all_eq_true.1 dv_dig_all n (by simpa using h)
  simpa using this
def numT : List UInt8 → Nat → Option Nat
  | [], n => some n
  | c :: s, n => if dv c < 0 ∨ 1099511627776 < n then none else numT s (10 * n + (dv c).toNat)
theorem numT_app : ∀ (a b : List UInt8) (n : Nat), numT (a ++ b) n = (numT a n).bind (numT b)
  | [], b, n => rfl
  | c :: a, b, n => by
    rw [List.cons_append, numT, numT]
    split
    · rfl
    · exact numT_app a b _
theorem numT_decN : ∀ (n : Nat), n ≤ 1099511627776 → numT (decN n) 0 = some n := by
  intro n
  induction n using Nat.strongRecOn with
  | ind n ih =>
    intro hn
    by_cases h : n < 10
    · rw [decN_lo h, numT, dv_dig h, if_neg (by omega), numT]
      congr 1; omega
    · rw [decN_hi h, numT_app, ih (n / 10) (by omega) (by omega), Option.bind_some, numT, dv_dig (by omega), if_neg (by omega), numT]
      congr 1; omega
def numR (s : List UInt8) : Int × Bool :=
  match numT s 0 with
  | some n => if n ≤ 1099511627776 ∧ decN n = s then ((n : Int), true) else (0, false)
  | none => (0, false)
theorem numR_cases (s : List UInt8) : (∃ n : Nat, numR s = ((n : Int), true) ∧ n ≤ 1099511627776 ∧ decN n = s) ∨ numR s = (0, false) := by
  unfold numR
  split
  · rename_i n _
    split
    · rename_i h; exact .inl ⟨n, rfl, h.1, h.2⟩
    · exact .inr rfl
  · exact .inr rfl
theorem numR_dec {n : Nat} (h : n ≤ 1099511627776) : numR (decN n) = ((n : Int), true) := by
  unfold numR
  rw [numT_decN n h]
  dsimp only
  rw [if_pos ⟨h, rfl⟩]
theorem num_loop {k : Nat} {s : List UInt8} (hk : 20 < k) (hs : s.length < 1000000) : ∀ (m i fuel : Nat) (n : Nat), i + m = s.length → m < fuel → n < 100000000000000 →
    loopC (fun (r : List UInt8 × Int × Int × Int → Option (Int × Bool)) y => p_tape_Number.b2 k (fun y => p_tape_Number.j0 k y.1 y.2) r y.1 y.2.1 y.2.2.1 y.2.2.2) fuel (s, (n : Int), (s.length : Int), (i : Int)) =
      some (match numT (s.drop i) n with | some n => if n ≤ 1099511627776 ∧ decN n = s then ((n : Int), true) else (0, false) | none => (0, false))
  | 0, i, fuel + 1, n, hi, _, hn => by
    rw [loopC_succ, List.drop_of_length_le (by omega), numT]
    dsimp only
    unfold p_tape_Number.b2 p_tape_Number.j0 joinC p_tape_Number.j1
    rw [decide_eq_false (by omega), cond_false]
    dsimp only
    by_cases h : (n : Int) > 1099511627776
    · rw [decide_eq_true h, cond_true, cond_true, if_neg (by omega)]
    · rw [decide_eq_false h, cond_false, tdec_eq hk (by omega), Option.bind_some]
      by_cases e : decN n = s
      · have e' : (!decN n == s) = false := by simpa using e
        rw [e', cond_false, if_pos ⟨by omega, e⟩]
      · have e' : (!decN n == s) = true := by simpa using e
        rw [e', cond_true, if_neg (fun q => e q.2)]
  | m + 1, i, fuel + 1, n, hi, hf, hn => by
    have hx : i < s.length := by omega
    have hd := dv_at s[i]
    have e2 : IntKind.wrap .i64 ((i : Int) + 1) = ((i + 1 : Nat) : Int) := by rw [wrap_i64 (by omega)]; omega
    have ih := fun n h => num_loop hk hs m (i + 1) fuel n (by omega) (by omega) h
    have hb : bat s (i : Int) = ((s[i].toNat : Nat) : Int) := by rw [bat_byt, byt, List.getD_eq_getElem?_getD, List.getElem?_eq_getElem hx]; rfl
    have hix : p_strings_IndexByte [(48 : UInt8), (49 : UInt8), (50 : UInt8), (51 : UInt8), (52 : UInt8), (53 : UInt8), (54 : UInt8), (55 : UInt8), (56 : UInt8), (57 : UInt8)] ((s[i].toNat : Nat) : Int) = some (dv s[i]) := by
      unfold p_strings_IndexByte p_stringslite_IndexByte
      rfl
    rw [loopC_succ, List.drop_eq_getElem_cons hx, numT]
    dsimp only
    generalize loopC (fun (r : List UInt8 × Int × Int × Int → Option (Int × Bool)) y => p_tape_Number.b2 k (fun y => p_tape_Number.j0 k y.1 y.2) r y.1 y.2.1 y.2.2.1 y.2.2.2) fuel = rec at *
    unfold p_tape_Number.b2 joinC p_tape_Number.j3
    dsimp only
    rw [decide_eq_true (by omega), cond_true, need_yes (by omega), hb, hix, Option.bind_some, e2]
    by_cases h : dv s[i] < 0
    · rw [decide_eq_true h, cond_true, cond_true, if_pos (.inl h)]
    · rw [decide_eq_false h, cond_false]
      by_cases h2 : (n : Int) > 1099511627776
      · rw [decide_eq_true h2, cond_true, if_pos (.inr (by omega))]
      · rw [decide_eq_false h2, cond_false, if_neg (by omega)]
        have e3 : IntKind.wrap .i64 (IntKind.wrap .i64 (10 * (n : Int)) + dv s[i]) = ((10 * n + (dv s[i]).toNat : Nat) : Int) := by
          have ea : IntKind.wrap .i64 (10 * (n : Int)) = 10 * (n : Int) := by rw [wrap_i64 (by omega)]
          rw [ea, wrap_i64 (by omega)]; omega
        rw [e3, ih _ (by omega)]
theorem Number_eq {k : Nat} {s : List UInt8} (hk : 20 < k) (hks : s.length < k) (hs : s.length < 1000000) : p_tape_Number k s = some (numR s) := by
  unfold p_tape_Number joinC numR
  have := num_loop hk hs s.length 0 k 0 (by omega) hks (by omega)
  rw [List.drop_zero] at this
  exact this
theorem law_TapeNumbers (s : List UInt8) (n : Int) (hn : okD (.int .u64) n) : p_dormouselaw40_TapeNumbers 2000 s n = some true := by
  have hn : (Lit.int .u64 n).wf = true := hn
  simp only [Lit.wf, Bool.and_eq_true, decide_eq_true_eq] at hn
  have h0 : IntKind.min .u64 = 0 := rfl
  have h1 : IntKind.max .u64 = 18446744073709551615 := rfl
  obtain ⟨m, rfl⟩ : ∃ m : Nat, n = (m : Int) := ⟨n.toNat, by omega⟩
  have hm : m < 18446744073709551616 := by omega
  unfold p_dormouselaw40_TapeNumbers joinC
  by_cases g1 : (s.length : Int) > 100
  · rw [decide_eq_true g1, cond_true, awake40]; rfl
  · have hl := decN_len20 hm
    rw [decide_eq_false g1, cond_false, Number_eq (by omega) (by omega) (by omega), Option.bind_some, Digits20 (by omega) hm, Option.bind_some, Number_eq (by omega) (by omega) (by omega), Option.bind_some]
    dsimp only
    have hj : p_dormouselaw40_TapeNumbers.j0 2000 s (numR s).1 (numR s).2 false = some true := by
      unfold p_dormouselaw40_TapeNumbers.j0 joinC p_dormouselaw40_TapeNumbers.j1
      dsimp only
      rw [cond_false, awake40, Option.bind_some, cond_true]
      rcases numR_cases s with ⟨q, h1, h2, h3⟩ | h1
      · have ew : IntKind.wrap .u64 (q : Int) = (q : Int) := by rw [wrap_u64]; omega
        rw [h1]
        dsimp only
        rw [cond_true, decide_eq_true (by omega), cond_true, decide_eq_true (by omega), cond_true, ew, Digits20 (by omega) (by omega), Option.bind_some, h3]
        simp
      · rw [h1]; rfl
    by_cases h : m ≤ 1099511627776
    · have ew : IntKind.wrap .u64 (m : Int) = (m : Int) := by rw [wrap_u64]; omega
      have e1 : (!(true == true)) = false := rfl
      have e2 : ((m : Int) != (m : Int)) = false := by simp
      rw [numR_dec h, decide_eq_true (by omega : (m : Int) ≤ 1099511627776)]
      dsimp only
      rw [e1, cond_false, cond_true, ew, e2, cond_false, Bool.not_true, cond_false]
      exact hj
    · have hr : numR (decN m) = (0, false) := by
        rcases numR_cases (decN m) with ⟨q, h1, h2, h3⟩ | h1
        · have := numD_decN m hm
          rw [← h3, numD_decN q (by omega)] at this
          omega
        · exact h1
      have e1 : (!(false == false)) = false := rfl
      have e2 : ((0 : Int) != 0) = false := rfl
      rw [hr, decide_eq_false (by omega : ¬ (m : Int) ≤ 1099511627776)]
      dsimp only
      rw [e1, cond_false, cond_false, Bool.not_false, cond_true, e2]
      exact hj
end Go.Dor.Tp
end

section
/- PICKED: Print_eq, printL_all, printL_not, Light_eq, okS_of, LineS_eq, parseS_line, lineS_len, lineS_10, lineS_ne, linesP_len, linesP_snoc, Parse_eq, Split_eq, parseC_cases, ref38Hex_eq, cmdHex_eq, Bytes_eq, bytR_hexS, bytR_back, bytR_len, hexS_len, hexS_32, hexS_10, Check_eq, May_eq, spl_mem_len, spl_le, Lines_eq, decN_10, decN_32, bat_get, sub_get, st_eq, joinS. -/
set_option linter.unusedVariables false
set_option linter.unusedSimpArgs false
namespace Go.Dor.Tp
open Go.Proofs

set_option maxRecDepth 100000 in
theorem tbD5 : Go.TypeInfo.bytes (Go.Tables.types (Go.Program.toTables Go.Proofs.Tryd.prog))[(5 : Nat)] = 1 := by kernel_rfl
theorem IndexC {s : List UInt8} {c : UInt8} : p_stringslite_Index s [c] = some (Lib.indexByte s c) := by
  unfold p_stringslite_Index joinC
  have e0 : (([c].length : Int) == 0) = false := rfl
  dsimp only
  rw [e0, cond_false]
  unfold p_stringslite_Index.j0
  by_cases h : [c] = s
  · subst h
    have e1 : ([c] == [c]) = true := by simp
    rw [e1, cond_true]
    simp [Lib.indexByte]
  · have e1 : ([c] == s) = false := by simpa using h
    have e2 : (([c].length : Int) == 1) = true := rfl
    have e3 : bat [c] 0 = ((c.toNat : Nat) : Int) := rfl
    rw [e1, cond_false, e2, cond_true, need_yes (by simp), e3]
    unfold p_stringslite_IndexByte indexByteOf
    simp
def hexS (s : List UInt8) : List UInt8 := if s = [] then [45] else hexL (natsOf s)
theorem cmdHex_eq {k : Nat} {s : List UInt8} (hk : s.length < k) (hs : s.length < 1000000) : p_cmd_Hex k s = some (hexS s) := by
  unfold p_cmd_Hex hexS
  by_cases h0 : s = []
  · subst h0; rfl
  have e0 : (s == []) = false := by simpa using h0
  rw [e0, cond_false, if_neg h0]
  have hnl := natsOf_len s
  have hnb := natsOf_lt s
  unfold joinC
  have L := loop_count (body := fun (r : List UInt8 × Int × Int × List Int → Option (List UInt8)) y => p_cmd_Hex.b1 k (p_cmd_Hex.j0 k) r y.1 y.2.1 y.2.2.1 y.2.2.2) (res := some (hexL (natsOf s))) s.length k
    (fun i => (s, (s.length : Int), (i : Int), numsOf (hexL ((natsOf s).take i)))) hk ?_ ?_
  · exact L
  · intro i hi rec
    dsimp only
    unfold p_cmd_Hex.b1
    have h1 : decide ((i : Int) < (s.length : Int)) = true := by simpa using hi
    have hid : i < (natsOf s).length := by omega
    have hlt := hnb (natsOf s)[i] (List.getElem_mem hid)
    have hb : bat s (i : Int) = (((natsOf s)[i] : Nat) : Int) := by simp [bat, natsOf, hi]
    have hlen : (hexL ((natsOf s).take i)).length = 2 * i := by rw [hexL_len, List.length_take]; omega
    have ht := hexL_take hid
    rw [h1, cond_true, need_yes (by omega), hb]
    generalize (natsOf s)[i] = c at *
    have e1 : ishr .u8 (c : Int) 4 = ((c / 16 : Nat) : Int) := by
      have := shr_nat (k := .u8) (a := c) (n := 4) (by show 4 ≤ 8; omega)
      simpa using this
    have e2 : iand .u8 (c : Int) 15 = ((c % 16 : Nat) : Int) := by
      have := and_nat (k := .u8) (a := c) (b := 15) rfl (by show c < 256; omega) (by show 15 < 256; omega)
      have h2 : c &&& 15 = c % 16 := Nat.and_two_pow_sub_one_eq_mod _ 4
      rw [h2] at this
      exact this
    rw [e1, e2, need_yes (by omega), need_yes (by omega), need_yes (by omega), ← DIG, dig_bat, dig_bat]
    first | rw [tbD5] | skip
    rw [need_yes (by rw [numsOf_len, hlen]; simp only [List.length_cons, List.length_nil]; omega), wrap_i64 (by omega), ht, numsOf_app]
    rfl
  · intro rec
    dsimp only
    unfold p_cmd_Hex.b1
    have h1 : decide ((s.length : Int) < (s.length : Int)) = false := by simp
    rw [h1, cond_false, List.take_of_length_le (by omega)]
    unfold p_cmd_Hex.j0
    rw [bytesOf_numsOf]
def hm (s : List UInt8) (i : Nat) : Nat := (max (hexv (byt s i)) 0).toNat
theorem hm_lt (s : List UInt8) (i : Nat) : hm s i < 16 := by
  unfold hm
  by_cases h : 0 ≤ hexv (byt s i)
  · have := (hexv_at (byt_lt s i) h).1; omega
  · omega
theorem IndexD {s : List UInt8} {i : Nat} : p_strings_IndexByte DIG (bat s (i : Int)) = some (hexv (byt s i)) := by
  unfold p_strings_IndexByte p_stringslite_IndexByte
  rw [bat_byt]
  rfl
def prs (s : List UInt8) (n : Nat) : List Nat := (List.range n).map fun j => 16 * hm s (2 * j) + hm s (2 * j + 1)
theorem prs_len (s : List UInt8) (n : Nat) : (prs s n).length = n := by simp [prs]
theorem prs_succ (s : List UInt8) (n : Nat) : prs s (n + 1) = prs s n ++ [16 * hm s (2 * n) + hm s (2 * n + 1)] := by simp [prs, List.range_succ]
def bytR (s : List UInt8) : List UInt8 × Bool :=
  if s = [45] then ([], true) else if prs s (s.length / 2) = [] ∨ hexS (byl (prs s (s.length / 2))) ≠ s then ([], false) else (byl (prs s (s.length / 2)), true)
theorem Bytes_eq {k : Nat} {s : List UInt8} (hk : s.length < k) (hs : s.length < 1000000) : p_cmd_Bytes k s = some (bytR s) := by
  unfold p_cmd_Bytes bytR
  by_cases h0 : s = [45]
  · subst h0; rfl
  have e0 : (s == [45]) = false := by simpa using h0
  rw [e0, cond_false, if_neg h0]
  unfold joinC
  have tail : p_cmd_Bytes.j0 k s (casts (prs s (s.length / 2))) = some (if prs s (s.length / 2) = [] ∨ hexS (byl (prs s (s.length / 2))) ≠ s then ([], false) else (byl (prs s (s.length / 2)), true)) := by
    have hpl := prs_len s (s.length / 2)
    generalize prs s (s.length / 2) = d at *
    unfold p_cmd_Bytes.j0 joinC
    dsimp only
    rw [casts_len]
    by_cases hd : d = []
    · subst hd
      rw [if_pos (.inl rfl)]; rfl
    · have e1 : ((d.length : Int) == 0) = false := by
        have : 0 < d.length := List.length_pos_iff.2 hd
        simp only [beq_eq_false_iff_ne, ne_eq]; omega
      rw [e1, cond_false, bytesOf_casts, cmdHex_eq (by rw [byl_len]; omega) (by rw [byl_len]; omega), Option.bind_some]
      unfold p_cmd_Bytes.j1
      rw [bytesOf_casts]
      by_cases hx : hexS (byl d) = s
      · have e2 : (!hexS (byl d) == s) = false := by simpa using hx
        rw [e2, cond_false, if_neg (by simp [hd, hx])]
      · have e2 : (!hexS (byl d) == s) = true := by simpa using hx
        rw [e2, cond_true, if_pos (.inr hx)]
  have L := loop_count (body := fun (r : List UInt8 × Int × List Int → Option (List UInt8 × Bool)) y => p_cmd_Bytes.b2 k (fun y => p_cmd_Bytes.j0 k y.1 y.2) r y.1 y.2.1 y.2.2) (res := some (if prs s (s.length / 2) = [] ∨ hexS (byl (prs s (s.length / 2))) ≠ s then ([], false) else (byl (prs s (s.length / 2)), true))) (s.length / 2) k
    (fun i => (s, ((2 * i : Nat) : Int), casts (prs s i))) (by omega) ?_ ?_
  · exact L
  · intro i hi rec
    dsimp only
    unfold p_cmd_Bytes.b2
    have ei : IntKind.wrap .i64 (((2 * i : Nat) : Int) + 1) = ((2 * i + 1 : Nat) : Int) := by rw [wrap_i64 (by omega)]; omega
    have ei2 : IntKind.wrap .i64 (((2 * i : Nat) : Int) + 2) = ((2 * (i + 1) : Nat) : Int) := by rw [wrap_i64 (by omega)]; omega
    have h1 : decide (((2 * i + 1 : Nat) : Int) < (s.length : Int)) = true := by simpa using (by omega : ((2 * i + 1 : Nat) : Int) < (s.length : Int))
    have ha := hm_lt s (2 * i)
    have hb := hm_lt s (2 * i + 1)
    have e4 : Max.max (hexv (byt s (2 * i))) 0 = ((hm s (2 * i) : Nat) : Int) := by unfold hm; omega
    have e5 : Max.max (hexv (byt s (2 * i + 1))) 0 = ((hm s (2 * i + 1) : Nat) : Int) := by unfold hm; omega
    have e6 : IntKind.wrap .u8 (IntKind.wrap .i64 (IntKind.wrap .i64 (16 * ((hm s (2 * i) : Nat) : Int)) + ((hm s (2 * i + 1) : Nat) : Int))) = ((16 * hm s (2 * i) + hm s (2 * i + 1) : Nat) : Int) := by
      rw [wrap_i64 (n := 16 * ((hm s (2 * i) : Nat) : Int)) (by omega), wrap_i64 (by omega), wrap_u8]; omega
    rw [ei, h1, cond_true, need_yes (by omega), ← DIG, IndexD, Option.bind_some, need_yes (by omega), IndexD, Option.bind_some, e4, e5, e6, tbD5, need_yes (by rw [casts_len, prs_len]; simp only [List.length_cons, List.length_nil]; omega), ei2, prs_succ]
    simp [casts]
  · intro rec
    dsimp only
    unfold p_cmd_Bytes.b2
    have ei : IntKind.wrap .i64 (((2 * (s.length / 2) : Nat) : Int) + 1) = ((2 * (s.length / 2) + 1 : Nat) : Int) := by rw [wrap_i64 (by omega)]; omega
    have h1 : decide (((2 * (s.length / 2) + 1 : Nat) : Int) < (s.length : Int)) = false := by simpa using (by omega : (s.length : Int) ≤ ((2 * (s.length / 2) + 1 : Nat) : Int))
    rw [ei, h1, cond_false]
    exact tail
theorem prs_hexL {d : List Nat} (hd : ∀ x ∈ d, x < 256) : prs (hexL d) d.length = d := by
  apply List.ext_getElem
  · simp [prs]
  · intro j h1 h2
    have hj : j < d.length := h2
    simp only [prs, List.getElem_map, List.getElem_range]
    have hb := hd d[j] (List.getElem_mem _)
    obtain ⟨a, b⟩ := byt_hexL (l := d) hj
    rw [hm, hm, a, b, hexv_back (by omega), hexv_back (by omega)]; omega
theorem bytR_hex {v : List UInt8} (hv : v ≠ []) : bytR (hexL (natsOf v)) = (v, true) := by
  have hl : (hexL (natsOf v)).length = 2 * v.length := by rw [hexL_len, natsOf_len]
  have h0 : 0 < v.length := List.length_pos_iff.2 hv
  have hp := prs_hexL (natsOf_lt v)
  rw [natsOf_len] at hp
  unfold bytR
  rw [if_neg (fun e => by rw [e] at hl; simp at hl; omega), hl, show 2 * v.length / 2 = v.length from by omega, hp, byl_natsOf]
  have hne : natsOf v ≠ [] := fun e => hv (by have := congrArg List.length e; rw [natsOf_len] at this; exact List.eq_nil_of_length_eq_zero this)
  rw [if_neg (by rw [hexS, if_neg hv]; simp [hne])]
theorem bytR_len (s : List UInt8) : (bytR s).1.length ≤ s.length := by
  unfold bytR
  split
  · simp
  · split
    · simp
    · rw [byl_len, prs_len]; omega
theorem dig_32 {n : Nat} (h : n < 16) : dig n ≠ 32 := by
  have : (List.range 16).all (fun n => decide (dig n ≠ 32)) = true := by decide
  have := List.all_eq_true.1 this n (by simpa using h)
  simpa using this
theorem decN_32 : ∀ (n : Nat), (32 : UInt8) ∉ decN n := by
  intro n
  induction n using Nat.strongRecOn with
  | _ n ih =>
    by_cases h : n < 10
    · rw [decN_lo h]; simpa using (dig_32 (n := n) (by omega)).symm
    · rw [decN_hi h, List.mem_append, not_or]
      exact ⟨ih _ (by omega), by simpa using (dig_32 (n := n % 10) (by omega)).symm⟩
def spl (c : UInt8) : List UInt8 → List (List UInt8)
  | [] => [[]]
  | x :: s => if x = c then [] :: spl c s else match spl c s with | [] => [[x]] | a :: r => (x :: a) :: r
theorem spl_not {c : UInt8} : ∀ {a : List UInt8}, c ∉ a → spl c a = [a]
  | [], _ => rfl
  | x :: a, h => by
    have h1 : ¬ x = c := fun e => h (by simp [e])
    have h2 : c ∉ a := fun e => h (by simp [e])
    unfold spl; rw [if_neg h1, spl_not h2]
theorem spl_app {c : UInt8} {b : List UInt8} : ∀ {a : List UInt8}, c ∉ a → spl c (a ++ c :: b) = a :: spl c b
  | [], _ => by show spl c (c :: b) = _; rw [spl, if_pos rfl]
  | x :: a, h => by
    have h1 : ¬ x = c := fun e => h (by simp [e])
    have h2 : c ∉ a := fun e => h (by simp [e])
    show spl c (x :: (a ++ c :: b)) = _
    rw [spl, if_neg h1, spl_app h2]
theorem spl_len {c : UInt8} : ∀ (a : List UInt8), (spl c a).length = Lib.countByte a c + 1
  | [] => by simp [spl, Lib.countByte]
  | x :: a => by
    have ih := spl_len (c := c) a
    unfold spl
    by_cases h : x = c
    · rw [if_pos h, List.length_cons, ih]; simp [Lib.countByte, h]
    · rw [if_neg h]
      cases hs : spl c a with
      | nil => rw [hs] at ih; simp at ih
      | cons y r => rw [hs] at ih; simp [Lib.countByte, h] at ih ⊢; exact ih
theorem spl_le {c : UInt8} (a : List UInt8) : (spl c a).length ≤ a.length + 1 := by
  rw [spl_len]
  have : Lib.countByte a c ≤ a.length := by unfold Lib.countByte; exact List.countP_le_length
  omega
theorem take_set {α : Type} {l : List α} {i : Nat} {x : α} (h : i < l.length) : (l.set i x).take (i + 1) = l.take i ++ [x] := by
  rw [List.take_succ_eq_append_getElem (by simpa using h), List.getElem_set_self, List.take_set_of_le (Nat.le_refl i)]
theorem IndexS {a b : List UInt8} {c : UInt8} (h : c ∉ a) : p_strings_Index (a ++ c :: b) [c] = some (a.length : Int) := by
  unfold p_strings_Index
  rw [IndexC, index_app h]; rfl
set_option maxRecDepth 100000 in
theorem tbD9 : Go.TypeInfo.bytes (Go.Tables.types (Go.Program.toTables Go.Proofs.Tryd.prog))[(9 : Nat)] = 16 := by kernel_rfl
theorem ref38Hex_eq {k : Nat} {s : List UInt8} (hk : s.length < k) (hs : s.length < 100000) : p_dormouseref38_Hex k s = some (hexS s) := by
  unfold p_dormouseref38_Hex hexS
  by_cases h : s = []
  · subst h; rfl
  · have e : (s == []) = false := by simpa using h
    have := refHex_eq (k := k) (d := natsOf s) (by rw [natsOf_len]; exact hk) (by rw [natsOf_len]; omega) (natsOf_lt s)
    rw [byl_natsOf] at this
    rw [e, cond_false, this, if_neg h]
    rfl
theorem hexS_len (s : List UInt8) : (hexS s).length ≤ 1 + 2 * s.length := by
  unfold hexS
  split
  · simp
  · rw [hexL_len, natsOf_len]; omega
theorem bytR_hexS (s : List UInt8) : bytR (hexS s) = (s, true) := by
  unfold hexS
  by_cases h : s = []
  · subst h; rfl
  · rw [if_neg h]; exact bytR_hex h
theorem bytR_back (t : List UInt8) : ((bytR t).2 = true ∧ hexS (bytR t).1 = t) ∨ ((bytR t).2 = false ∧ (bytR t).1 = []) := by
  unfold bytR
  split
  · rename_i h; left; subst h; exact ⟨rfl, rfl⟩
  · split
    · right; exact ⟨rfl, rfl⟩
    · rename_i h1 h2
      left
      refine ⟨rfl, ?_⟩
      exact Classical.byContradiction fun h3 => h2 (Or.inr h3)
def vecN (n : Nat) (l : List Nat) : Vector Int n := Vector.ofFn fun i => ((l.getD i 0 : Nat) : Int)
theorem at_vecN {n : Nat} {i : Nat} {l : List Nat} {d : Int} (hi : i < n) : at_ d (vecN n l).toList (i : Int) = ((l.getD i 0 : Nat) : Int) := by
  simp [at_, vecN, hi]
set_option maxRecDepth 100000 in
theorem tb5 : Go.TypeInfo.bytes (Go.Tables.types (Go.Program.toTables Go.Proofs.Tryd.prog))[(5 : Nat)] = 1 := by kernel_rfl
theorem vset_vecN {n i : Nat} {l : List Nat} {v : Nat} (hl : l.length = i) : vset (vecN n l) (i : Int) (v : Int) = vecN n (l ++ [v]) := by
  apply Vector.toArray_inj.1
  apply Array.toList_inj.1
  show (vecN n l).toList.set (i : Int).toNat (v : Int) = (vecN n (l ++ [v])).toList
  apply List.ext_getElem
  · simp [vecN]
  · intro j h1 h2
    simp only [vecN, Vector.toList_ofFn, Int.toNat_natCast, List.getElem_set, List.getElem_ofFn]
    simp only [List.getD_eq_getElem?_getD]
    split
    · rename_i h; subst h; simp [← hl]
    · rename_i h
      by_cases hj : j < l.length
      · simp [hj, List.getElem?_append_left hj]
      · have h3 : l.length + 1 ≤ j := by omega
        rw [List.getElem?_eq_none (by omega), List.getElem?_eq_none (by simp; omega)]
theorem repl_vecN (n : Nat) : Vector.replicate n (0 : Int) = vecN n [] := by
  apply Vector.toArray_inj.1
  apply Array.toList_inj.1
  apply List.ext_getElem <;> simp [vecN]
theorem vset_vecN2 {n i : Nat} {l : List Nat} {v : Nat} (hl : i < l.length) : vset (vecN n l) (i : Int) (v : Int) = vecN n (l.set i v) := by
  apply Vector.toArray_inj.1
  apply Array.toList_inj.1
  show (vecN n l).toList.set (i : Int).toNat (v : Int) = (vecN n (l.set i v)).toList
  apply List.ext_getElem
  · simp [vecN]
  · intro j h1 h2
    simp only [vecN, Vector.toList_ofFn, Int.toNat_natCast, List.getElem_set, List.getElem_ofFn]
    simp only [List.getD_eq_getElem?_getD]
    split
    · rename_i h; subst h; simp [hl]
    · rename_i h; simp [h]
def numL (x n : Nat) : List Nat := (List.range n).map fun i => x / 256 ^ i % 256
def numB (x n : Nat) : List UInt8 := byl (numL x n)
theorem numL_len (x n : Nat) : (numL x n).length = n := by simp [numL]
theorem numB_len (x n : Nat) : (numB x n).length = n := by rw [numB, byl_len, numL_len]
theorem numL_succ (x n : Nat) : numL x (n + 1) = numL x n ++ [x / 256 ^ n % 256] := by simp [numL, List.range_succ]
theorem numL_lt (x n : Nat) : ∀ y ∈ numL x n, y < 256 := by
  intro y hy
  simp only [numL, List.mem_map] at hy
  obtain ⟨i, _, rfl⟩ := hy
  exact Nat.mod_lt _ (by omega)
theorem sub_vecN {n m : Nat} {l : List Nat} (hm : l.length = m) (hn : m ≤ n) : sub_ (vecN n l).toList 0 (m : Int) = casts l := by
  unfold sub_
  apply List.ext_getElem
  · simp [vecN, casts]; omega
  · intro i h1 h2
    have hi : i < l.length := by simpa [casts] using h2
    simp [vecN, casts, hi]
theorem div_pow_succ (x i : Nat) : x / 256 ^ (i + 1) = x / 256 ^ i / 256 := by rw [Nat.pow_succ, Nat.div_div_eq_div_mul]
theorem div8 {y : Nat} (hy : y < 18446744073709551616) : IntKind.wrap .u64 (Int.tdiv (y : Int) 256) = ((y / 256 : Nat) : Int) := by rw [Int.tdiv_eq_ediv_of_nonneg (by omega), wrap_u64]; omega
theorem wideNum_eq {k x n : Nat} (hk : 8 < k) (hn : n ≤ 8) : p_wide_Num k (x : Int) (n : Int) = some (numB x n) := by
  have hm : Min.min (Max.max (n : Int) 0) 8 = (n : Int) := by omega
  have hd : dflt (T.int IntKind.u8) = (0 : Int) := rfl
  unfold p_wide_Num joinC
  rw [hm, hd, repl_vecN]
  have L := loop_count (body := fun (r : Int × Int × Int × Int × Vector Int (8) → Option (List UInt8)) y => p_wide_Num.b1 k (fun y => p_wide_Num.j0 k y.1 y.2) r y.1 y.2.1 y.2.2.1 y.2.2.2.1 y.2.2.2.2) (res := some (numB x n)) n k
    (fun i => (((x / 256 ^ i : Nat) : Int), (n : Int), (n : Int), (i : Int), vecN 8 (numL x i))) (by omega) ?_ ?_
  · simp only [Nat.pow_zero, Nat.div_one] at L
    exact L
  · intro i hi rec
    dsimp only
    unfold p_wide_Num.b1
    have h1 : decide ((i : Int) < (n : Int)) = true := by simpa using hi
    have hs := shr_nat (k := .u64) (a := x / 256 ^ i) (n := 8) (by show 8 ≤ 64; omega)
    have e8 : IntKind.wrap .u8 ((x / 256 ^ i : Nat) : Int) = ((x / 256 ^ i % 256 : Nat) : Int) := low8' _
    simp only [Int.cast_ofNat_Int] at hs
    rw [h1, cond_true, need_yes (by omega), hs, wrap_i64 (by omega), e8, vset_vecN (numL_len x i), ← numL_succ, div_pow_succ]
    rfl
  · intro rec
    dsimp only
    unfold p_wide_Num.b1
    have h1 : decide ((n : Int) < (n : Int)) = false := by simp
    rw [h1, cond_false]
    dsimp only
    unfold p_wide_Num.j0
    rw [need_yes (by omega), sub_vecN (numL_len x n) hn, bytesOf_casts]
    rfl
theorem refNum_eq {k x n : Nat} (hk : n < k) (hn : n < 1000000) (hx : x < 18446744073709551616) : p_dormouseref01_Num k (x : Int) (n : Int) = some (numB x n) := by
  unfold p_dormouseref01_Num joinC
  have L := loop_count (body := fun (r : Int × Int × List UInt8 × Int → Option (List UInt8)) y => p_dormouseref01_Num.b1 k (p_dormouseref01_Num.j0 k) r y.1 y.2.1 y.2.2.1 y.2.2.2) (res := some (numB x n)) n k
    (fun i => (((x / 256 ^ i : Nat) : Int), (n : Int), numB x i, (i : Int))) hk ?_ ?_
  · simp only [Nat.pow_zero, Nat.div_one] at L
    exact L
  · intro i hi rec
    dsimp only
    unfold p_dormouseref01_Num.b1
    have h1 : decide ((i : Int) < (n : Int)) = true := by simpa using hi
    have hle : x / 256 ^ i ≤ x := Nat.div_le_self _ _
    have e8 : IntKind.wrap .u8 (Int.tmod ((x / 256 ^ i : Nat) : Int) 256) = ((x / 256 ^ i % 256 : Nat) : Int) := low8 _
    have e9 : IntKind.wrap .u64 (Int.tdiv ((x / 256 ^ i : Nat) : Int) 256) = ((x / 256 ^ (i + 1) : Nat) : Int) := by rw [div_pow_succ]; exact div8 (Nat.lt_of_le_of_lt hle hx)
    rw [h1, cond_true, e8, e9, bytesOf_one, need_yes (by rw [numB_len]; simp only [List.length_cons, List.length_nil]; omega), wrap_i64 (by omega)]
    have e : numB x i ++ [UInt8.ofNat (x / 256 ^ i % 256)] = numB x (i + 1) := by rw [numB, numB, numL_succ]; simp [byl]
    rw [e]
    rfl
  · intro rec
    dsimp only
    unfold p_dormouseref01_Num.b1
    have h1 : decide ((n : Int) < (n : Int)) = false := by simp
    rw [h1, cond_false]
    rfl
theorem sumHex_eq {k : Nat} {d : List Nat} (hk : 32 < k) (hl : d.length = 32) (hd : ∀ x ∈ d, x < 256) : joinC (p_key_Text.j0 k) (fun (j128 : List Int → Option (List UInt8)) => loopC (fun (r : Vector Int 32 × Int × List Int → Option (List UInt8)) y => p_key_Text.b1 k j128 r y.1 y.2.1 y.2.2) k (vecN 32 d, (0 : Int), [])) = some (hexL d) := by
  have hz : dflt (T.int IntKind.u8) = (0 : Int) := rfl
  unfold joinC
  dsimp only
  have L := loop_count (body := fun (r : Vector Int (32) × Int × List Int → Option (List UInt8)) y => p_key_Text.b1 k (p_key_Text.j0 k) r y.1 y.2.1 y.2.2) (res := some (hexL d)) 32 k
    (fun i => (vecN 32 d, (i : Int), numsOf (hexL (d.take i)))) hk ?_ ?_
  · exact L
  · intro i hi rec
    dsimp only
    unfold p_key_Text.b1
    have h1 : decide ((i : Int) < (32 : Int)) = true := by simpa using (by omega : (i : Int) < 32)
    have hid : i < d.length := by omega
    have hg : d.getD i 0 = d[i] := by simp [hid]
    have hlt := hd d[i] (List.getElem_mem hid)
    have hlen : (hexL (d.take i)).length = 2 * i := by rw [hexL_len, List.length_take]; omega
    have ht := hexL_take hid
    rw [h1, cond_true, need_yes (by omega), hz, at_vecN hi, hg]
    generalize d[i] = c at *
    have e1 : ishr .u8 (c : Int) 4 = ((c / 16 : Nat) : Int) := by
      have := shr_nat (k := .u8) (a := c) (n := 4) (by show 4 ≤ 8; omega)
      simpa using this
    have e2 : iand .u8 (c : Int) 15 = ((c % 16 : Nat) : Int) := by
      have := and_nat (k := .u8) (a := c) (b := 15) rfl (by show c < 256; omega) (by show 15 < 256; omega)
      have h2 : c &&& 15 = c % 16 := Nat.and_two_pow_sub_one_eq_mod _ 4
      rw [h2] at this
      exact this
    rw [e1, e2, need_yes (by omega), need_yes (by omega), ← DIG, dig_bat, dig_bat, tb5, need_yes (by rw [numsOf_len, hlen]; simp only [List.length_cons, List.length_nil]; omega), wrap_i64 (by omega), ht, numsOf_app]
    rfl
  · intro rec
    dsimp only
    unfold p_key_Text.b1
    have h1 : decide (((32 : Nat) : Int) < (32 : Int)) = false := by decide
    rw [h1, cond_false, List.take_of_length_le (by omega)]
    unfold p_key_Text.j0
    rw [bytesOf_numsOf]
theorem nib_or {a b : Nat} (ha : a < 16) (hb : b < 16) : ior .u8 (ishl .u8 (a : Int) 4) (IntKind.wrap .u8 (b : Int)) = ((16 * a + b : Nat) : Int) := by
  have h1 := shl_nat (k := .u8) (a := a) (n := 4) rfl (by show 4 ≤ 8; omega)
  simp only [Int.cast_ofNat_Int] at h1
  have e8 : 2 ^ IntKind.bits .u8 = 256 := rfl
  have p4 : (2 : Nat) ^ 4 = 16 := rfl
  rw [e8, p4, Nat.mod_eq_of_lt (by omega)] at h1
  rw [h1, low8', Nat.mod_eq_of_lt (by omega), or_nat (k := .u8) rfl (by rw [e8]; omega) (by rw [e8]; omega), or_lit (c := a) 4 rfl (by omega) (by omega)]
  congr 1; omega
theorem index_eq {s : List UInt8} {i : Nat} : p_strings_IndexByte DIG (bat s (i : Int)) = some (hexv (byt s i)) := by
  unfold p_strings_IndexByte p_stringslite_IndexByte
  rw [bat_byt]
  rfl
theorem vecN_get {n : Nat} {l : List Nat} {i : Nat} (hi : i < n) : (vecN n l)[i] = ((l.getD i 0 : Nat) : Int) := by simp [vecN]
theorem toList_vecN {n : Nat} {l : List Nat} (h : l.length = n) : (vecN n l).toList = casts l := by
  apply List.ext_getElem
  · simp [vecN, casts, h]
  · intro i h1 h2
    have hi : i < l.length := by simpa [casts] using h2
    simp [vecN, casts, hi]
theorem vecN_inj {n : Nat} {a b : List Nat} (ha : a.length = n) (hb : b.length = n) (h : vecN n a = vecN n b) : a = b := by
  have h1 : casts a = casts b := by rw [← toList_vecN ha, ← toList_vecN hb, h]
  have h2 := congrArg (List.map Int.toNat) h1
  simpa [casts, Function.comp_def] using h2
theorem vcopy_vecN {n lo : Nat} {l xs : List Nat} (hl : l.length = n) (hx : lo + xs.length ≤ n) : vcopy (vecN n l) (lo : Int) (casts xs) = vecN n (l.take lo ++ xs ++ l.drop (lo + xs.length)) := by
  have hc : (casts xs).length = xs.length := casts_len xs
  unfold vcopy
  rw [dif_pos (by rw [hc]; simpa using hx)]
  apply Vector.toArray_inj.1
  apply Array.toList_inj.1
  have e := toList_vecN (n := n) (l := l.take lo ++ xs ++ l.drop (lo + xs.length)) (by simp; omega)
  show (vecN n l).toList.take (lo : Int).toNat ++ casts xs ++ (vecN n l).toList.drop ((lo : Int).toNat + (casts xs).length) = (vecN n (l.take lo ++ xs ++ l.drop (lo + xs.length))).toList
  rw [e, toList_vecN hl, hc, Int.toNat_natCast]
  simp [casts]
theorem repl_casts {n : Nat} : Vector.replicate n (0 : Int) = vecN n (List.replicate n 0) := by
  rw [repl_vecN]
  apply Vector.ext
  intro i hi
  rw [vecN_get hi, vecN_get hi]; simp [List.getD_eq_getElem?_getD, hi]
def valL : List Nat → Nat
  | [] => 0
  | c :: l => c + 256 * valL l
theorem valL_lt : ∀ {l : List Nat} {n : Nat}, l.length ≤ n → (∀ x ∈ l, x < 256) → valL l < 256 ^ n
  | [], n, _, _ => by simpa [valL] using Nat.pow_pos (by omega)
  | c :: l, n + 1, h, hx => by
    have h1 := valL_lt (l := l) (n := n) (by simpa using h) fun x q => hx x (List.mem_cons_of_mem _ q)
    have h2 := hx c List.mem_cons_self
    simp only [valL, Nat.pow_succ]; omega
  | c :: l, 0, h, _ => by simp at h
theorem valL_drop (l : List Nat) {i : Nat} (hi : i < l.length) : valL (l.drop i) = l[i] + 256 * valL (l.drop (i + 1)) := by
  rw [List.drop_eq_getElem_cons hi, valL]
theorem or_u64 {a b c : Nat} (ha : a < 18446744073709551616) (hb : b < 18446744073709551616) (h : a ||| b = c) : ior .u64 (a : Int) (b : Int) = (c : Int) := by
  rw [or_nat (k := .u64) rfl ha hb, h]
theorem pow8 : 256 ^ 8 = 18446744073709551616 := rfl
theorem pow7 : 256 ^ 7 = 72057594037927936 := rfl
theorem wideVal_eq {k : Nat} {d : List Nat} (hk : 8 < k) (hl : d.length = 8) (hd : ∀ x ∈ d, x < 256) : p_wide_Val k (byl d) = some ((valL d : Nat) : Int) := by
  unfold p_wide_Val joinC
  have e0 : IntKind.wrap .i64 (Min.min ((byl d).length : Int) 8 - 1) = 7 := by rw [byl_len, hl]; rfl
  rw [e0]
  have L := loop_count (body := fun (r : List UInt8 × Int × Int → Option Int) y => p_wide_Val.b1 k (p_wide_Val.j0 k) r y.1 y.2.1 y.2.2) (res := some ((valL d : Nat) : Int)) 8 k
    (fun j => (byl d, ((valL (d.drop (8 - j)) : Nat) : Int), 7 - (j : Int))) (by omega) ?_ ?_
  · rw [List.drop_of_length_le (by omega)] at L
    exact L
  · intro j hj rec
    dsimp only
    unfold p_wide_Val.b1
    have h1 : decide (7 - (j : Int) ≥ 0) = true := by simp; omega
    have e7 : (7 - (j : Int)) = ((7 - j : Nat) : Int) := by omega
    have hlt : 7 - j < d.length := by omega
    have hb := hd d[7 - j] (List.getElem_mem hlt)
    have hv := valL_lt (l := d.drop (8 - j)) (n := 7) (by rw [List.length_drop]; omega) fun x q => hd x (List.mem_of_mem_drop q)
    have hdr := valL_drop d hlt
    rw [pow7] at hv
    rw [show 7 - j + 1 = 8 - j from by omega] at hdr
    rw [h1, cond_true, e7, need_yes (by rw [byl_len]; omega), byl_getD hlt hd]
    generalize d[7 - j] = c at *
    have hvd : valL (d.drop (8 - (j + 1))) = c + 256 * valL (d.drop (8 - j)) := by rw [show 8 - (j + 1) = 7 - j from by omega]; exact hdr
    generalize valL (d.drop (8 - j)) = v at *
    have s8 := shl_nat (k := .u64) (a := v) (n := 8) rfl (by show 8 ≤ 64; omega)
    simp only [Int.cast_ofNat_Int] at s8
    have p8 : (2 : Nat) ^ 8 = 256 := rfl
    have p64 : (2 : Nat) ^ IntKind.bits .u64 = 18446744073709551616 := rfl
    rw [p8, p64, Nat.mod_eq_of_lt (by omega)] at s8
    have e1 : IntKind.wrap .u64 (c : Int) = (c : Int) := by rw [wrap_u64]; omega
    have e2 : IntKind.wrap .i64 (((7 - j : Nat) : Int) - 1) = 7 - ((j + 1 : Nat) : Int) := by rw [wrap_i64 (by omega)]; omega
    rw [s8, e1, or_u64 (c := v * 256 + c) (by omega) (by omega) (or_lit (c := v) 8 rfl (by omega) (by omega)), e2, hvd]
    rw [show v * 256 + c = c + 256 * v from by omega]
  · intro rec
    dsimp only
    unfold p_wide_Val.b1
    have h1 : decide (7 - ((8 : Nat) : Int) ≥ 0) = false := by decide
    rw [h1, cond_false]
    rfl
theorem valL_take_succ : ∀ (l : List Nat) {i : Nat} (hi : i < l.length), valL (l.take (i + 1)) = valL (l.take i) + 256 ^ i * l[i]
  | c :: l, 0, _ => by simp [valL]
  | c :: l, i + 1, hi => by
    have ih := valL_take_succ l (i := i) (by simpa using hi)
    simp only [List.take_succ_cons, valL, List.getElem_cons_succ]
    rw [ih, Nat.pow_succ, Nat.mul_add, Nat.add_assoc]
    congr 2
    rw [← Nat.mul_assoc, Nat.mul_comm 256]
theorem refVal_eq {k : Nat} {d : List Nat} (hk : 8 < k) (hl : d.length = 8) (hd : ∀ x ∈ d, x < 256) : p_dormouseref01_Val k (byl d) = some ((valL d : Nat) : Int) := by
  unfold p_dormouseref01_Val joinC
  have L := loop_count (body := fun (r : List UInt8 × Int × Int × Int → Option Int) y => p_dormouseref01_Val.b1 k (p_dormouseref01_Val.j0 k) r y.1 y.2.1 y.2.2.1 y.2.2.2) (res := some ((valL d : Nat) : Int)) 8 k
    (fun j => (byl d, ((valL (d.take j) : Nat) : Int), ((256 ^ j % 18446744073709551616 : Nat) : Int), (j : Int))) (by omega) ?_ ?_
  · exact L
  · intro j hj rec
    dsimp only
    unfold p_dormouseref01_Val.b1 joinC
    have h1 : decide ((j : Int) < ((byl d).length : Int)) = true := by rw [byl_len, hl]; simpa using (by omega : (j : Int) < 8)
    have h2 : decide ((j : Int) < (8 : Int)) = true := by simpa using (by omega : (j : Int) < 8)
    dsimp only
    rw [h1, cond_true, h2]
    unfold p_dormouseref01_Val.j2
    have hlt : j < d.length := by omega
    have hb := hd d[j] (List.getElem_mem hlt)
    have hs := valL_take_succ d hlt
    have hv := valL_lt (l := d.take (j + 1)) (n := 8) (by rw [List.length_take]; omega) fun x q => hd x (List.mem_of_mem_take q)
    rw [pow8] at hv
    have hp : 256 ^ j ≤ 256 ^ 7 := Nat.pow_le_pow_right (by omega) (by omega)
    rw [pow7] at hp
    rw [cond_true, need_yes (by rw [byl_len]; omega), byl_getD hlt hd]
    generalize d[j] = c at *
    rw [Nat.mod_eq_of_lt (by omega), hs]
    rw [hs] at hv
    have hpn : 256 ^ (j + 1) = 256 ^ j * 256 := Nat.pow_succ ..
    rw [hpn]
    generalize 256 ^ j = P at *
    generalize valL (d.take j) = v at *
    have hm : P * c ≤ P * 255 := Nat.mul_le_mul_left _ (by omega)
    have e1 : IntKind.wrap .u64 (c : Int) = (c : Int) := by rw [wrap_u64]; omega
    have e2 : IntKind.wrap .u64 ((P : Int) * (c : Int)) = ((P * c : Nat) : Int) := by rw [← Int.natCast_mul, wrap_u64]; omega
    have e3 : IntKind.wrap .u64 ((v : Int) + ((P * c : Nat) : Int)) = ((v + P * c : Nat) : Int) := by rw [wrap_u64]; omega
    have e4 : IntKind.wrap .u64 ((P : Int) * 256) = ((P * 256 % 18446744073709551616 : Nat) : Int) := by rw [wrap_u64]; omega
    rw [e1, e2, e3, e4, wrap_i64 (by omega)]
    rfl
  · intro rec
    dsimp only
    unfold p_dormouseref01_Val.b1 joinC
    have h1 : decide (((8 : Nat) : Int) < ((byl d).length : Int)) = false := by rw [byl_len, hl]; decide
    dsimp only
    rw [h1, cond_false]
    unfold p_dormouseref01_Val.j2
    rw [cond_false, List.take_of_length_le (by omega)]
    rfl
theorem sub_one64 {n : Nat} (hn : n < 16) : sub_ DIG (n : Int) (IntKind.wrap .u64 ((n : Int) + 1)) = [dig n] := by
  have e : IntKind.wrap .u64 ((n : Int) + 1) = ((n + 1 : Nat) : Int) := by rw [wrap_u64]; omega
  rw [e]; exact sub_one hn
theorem decimal_go {k' : Nat} : ∀ (j k n : Nat) (s : List UInt8), n < 10 ^ j → n < 18446744073709551616 → j < k → s.length + j < 1000000 →
    loopC (fun (r : Int × List UInt8 → Option (List UInt8)) y => p_key_decimal.b1 k' (fun y => p_key_decimal.j0 k' y.1 y.2) r y.1 y.2) k ((n : Int), s) = some (decN n ++ s)
  | j, 0, n, s, h, _, hk, hs => by omega
  | j, k + 1, n, s, h, hn, hk, hs => by
    have ih := fun (j n : Nat) (s : List UInt8) (h : n < 10 ^ j) (hn : n < 18446744073709551616) (hk : j < k) (hs : s.length + j < 1000000) => decimal_go (k' := k') j k n s h hn hk hs
    rw [loopC_succ]
    generalize loopC (fun (r : Int × List UInt8 → Option (List UInt8)) y => p_key_decimal.b1 k' (fun y => p_key_decimal.j0 k' y.1 y.2) r y.1 y.2) k = R at ih ⊢
    dsimp only
    unfold p_key_decimal.b1
    have ew : ∀ m : Nat, m < 16 → IntKind.wrap .u64 ((m : Int) + 1) = ((m + 1 : Nat) : Int) := fun m hm => by rw [wrap_u64]; omega
    by_cases h1 : n < 10
    · have e1 : decide ((n : Int) > 9) = false := by simpa using (by omega : (n : Int) ≤ 9)
      rw [e1, cond_false]
      dsimp only
      unfold p_key_decimal.j0
      rw [← DIG, sub_one64 (by omega), ew n (by omega), need_yes (by omega), need_yes (by simp only [List.length_cons, List.length_nil]; omega), decN_lo h1]
    · have e1 : decide ((n : Int) > 9) = true := by simpa using (by omega : (n : Int) > 9)
      have em : Int.tmod (n : Int) 10 = ((n % 10 : Nat) : Int) := by rw [Int.tmod_eq_emod_of_nonneg (by omega)]; omega
      have ed : IntKind.wrap .u64 (Int.tdiv (n : Int) 10) = ((n / 10 : Nat) : Int) := by rw [Int.tdiv_eq_ediv_of_nonneg (by omega), wrap_u64]; omega
      rw [e1, cond_true, ← DIG, em, ed, sub_one64 (by omega), ew (n % 10) (by omega), need_yes (by omega), need_yes (by simp only [List.length_cons, List.length_nil]; omega)]
      cases j with
      | zero => simp at h; omega
      | succ j =>
        rw [ih j (n / 10) _ (by rw [Nat.pow_succ] at h; omega) (by omega) (by omega) (by simp only [List.length_append, List.length_cons, List.length_nil]; omega), decN_hi h1]
        simp
theorem decimal_eq {k n : Nat} (hk : 20 < k) (hn : n < 18446744073709551616) : p_key_decimal k (n : Int) = some (decN n) := by
  unfold p_key_decimal joinC
  have := decimal_go (k' := k) 20 k n [] (by have : (10 : Nat) ^ 20 = 100000000000000000000 := rfl
                                             omega) hn hk (by simp)
  rw [List.append_nil] at this
  exact this
theorem number_eq {k : Nat} {s : List UInt8} (hk : s.length < k) (hs : s.length < 1000000) : p_key_number k s = some ((numD s : Nat) : Int) := by
  unfold p_key_number joinC
  have L := loop_count (body := fun (r : List UInt8 × Int × Int × Int → Option Int) y => p_key_number.b1 k (p_key_number.j0 k) r y.1 y.2.1 y.2.2.1 y.2.2.2) (res := some ((numD s : Nat) : Int)) s.length k
    (fun i => (s, ((numD (s.take i) : Nat) : Int), (s.length : Int), (i : Int))) hk ?_ ?_
  · exact L
  · intro i hi rec
    dsimp only
    unfold p_key_number.b1
    have h1 : decide ((i : Int) < (s.length : Int)) = true := by simpa using hi
    have hb : bat s (i : Int) = ((s[i].toNat : Nat) : Int) := by simp [bat, hi]
    have hc := UInt8.toNat_lt s[i]
    have hf : numD (s.take (i + 1)) = (10 * numD (s.take i) % 18446744073709551616 + (s[i].toNat + 256 - 48) % 256 % 10) % 18446744073709551616 := foldl_take _ _ _ hi
    rw [h1, cond_true, need_yes (by omega), hb, wrap_i64 (by omega), hf]
    generalize s[i].toNat = c at *
    generalize numD (s.take i) = n at *
    have e1 : IntKind.wrap .u64 (IntKind.wrap .u8 ((c : Int) - 48)) = (((c + 256 - 48) % 256 : Nat) : Int) := by simp only [wrap_u64, wrap_u8]; omega
    have e2 : IntKind.wrap .u64 (10 * (n : Int)) = ((10 * n % 18446744073709551616 : Nat) : Int) := by rw [wrap_u64]; omega
    rw [e1, e2, Int.tmod_eq_emod_of_nonneg (by omega)]
    have e3 : IntKind.wrap .u64 (((10 * n % 18446744073709551616 : Nat) : Int) + (((c + 256 - 48) % 256 : Nat) : Int) % 10) = (((10 * n % 18446744073709551616 + (c + 256 - 48) % 256 % 10) % 18446744073709551616 : Nat) : Int) := by rw [wrap_u64]; omega
    rw [e3]
    rfl
  · intro rec
    dsimp only
    unfold p_key_number.b1
    have h1 : decide ((s.length : Int) < (s.length : Int)) = false := by simp
    rw [h1, cond_false, List.take_length]
    rfl
theorem dig_dot {n : Nat} (h : n < 16) : dig n ≠ 46 := by
  have : (List.range 16).all (fun n => decide (dig n ≠ 46)) = true := by decide
  have := List.all_eq_true.1 this n (by simpa using h)
  simpa using this
theorem decN_dot : ∀ (n : Nat), (46 : UInt8) ∉ decN n := by
  intro n
  induction n using Nat.strongRecOn with
  | _ n ih =>
    by_cases h : n < 10
    · rw [decN_lo h]; simpa using (dig_dot (n := n) (by omega)).symm
    · rw [decN_hi h, List.mem_append, not_or]
      exact ⟨ih _ (by omega), by simpa using (dig_dot (n := n % 10) (by omega)).symm⟩
theorem hexL_dot {d : List Nat} (hd : ∀ x ∈ d, x < 256) : (46 : UInt8) ∉ hexL d := by
  unfold hexL
  intro h
  obtain ⟨c, hc, h⟩ := List.mem_flatMap.1 h
  have := hd c hc
  simp only [List.mem_cons, List.not_mem_nil, or_false] at h
  rcases h with h | h
  · exact dig_dot (n := c / 16) (by omega) h.symm
  · exact dig_dot (n := c % 16) (by omega) h.symm
theorem Index_eq {s : List UInt8} : p_stringslite_Index s [(46 : UInt8)] = some (Lib.indexByte s 46) := by
  unfold p_stringslite_Index joinC
  have e0 : (([(46 : UInt8)].length : Int) == 0) = false := rfl
  dsimp only
  rw [e0, cond_false]
  unfold p_stringslite_Index.j0
  by_cases h : [(46 : UInt8)] = s
  · subst h
    rfl
  · have e1 : ([(46 : UInt8)] == s) = false := by simpa using h
    have e2 : (([(46 : UInt8)].length : Int) == 1) = true := rfl
    rw [e1, cond_false, e2, cond_true, need_yes (by simp)]
    rfl
theorem Cut_not {s : List UInt8} (h : (46 : UInt8) ∉ s) : p_strings_Cut s [(46 : UInt8)] = some (s, [], false) := by
  unfold p_strings_Cut p_stringslite_Cut
  rw [Index_eq, index_not h]
  rfl
theorem Cut_app {a b : List UInt8} (h : (46 : UInt8) ∉ a) (hl : a.length + b.length < 1000000) : p_strings_Cut (a ++ 46 :: b) [(46 : UInt8)] = some (a, b, true) := by
  unfold p_strings_Cut p_stringslite_Cut
  have e1 : decide ((a.length : Int) ≥ 0) = true := by simp
  have e2 : IntKind.wrap .i64 ((a.length : Int) + ([(46 : UInt8)].length : Int)) = ((a.length + 1 : Nat) : Int) := by rw [wrap_i64 (by simp; omega)]; rfl
  have hlen : (a ++ 46 :: b).length = a.length + b.length + 1 := by simp; omega
  rw [Index_eq, index_app h, Option.bind_some, e1, cond_true, e2, need_yes (by rw [hlen]; omega), need_yes (by rw [hlen]; omega), Option.bind_some]
  have s1 : sub_ (a ++ 46 :: b) 0 (a.length : Int) = a := by simp [sub_]
  have s2 : sub_ (a ++ 46 :: b) ((a.length + 1 : Nat) : Int) ((a ++ 46 :: b).length : Int) = b := by
    rw [sub_, Int.toNat_natCast, Int.toNat_natCast, List.take_length, show a.length + 1 = (a ++ [46]).length from by simp]
    rw [show a ++ 46 :: b = (a ++ [46]) ++ b from by simp, List.drop_left]
  rw [s1, s2]
def okL (n : Nat) (d : List Nat) : Prop := d.length = n ∧ ∀ x ∈ d, x < 256
def ofN (a b : Nat) : List Nat := numL a 8 ++ List.replicate 16 0 ++ numL b 8
theorem ofN_len (a b : Nat) : (ofN a b).length = 32 := by simp [ofN, numL_len]
theorem ofN_ok (a b : Nat) : okL 32 (ofN a b) := by
  refine ⟨ofN_len a b, fun x hx => ?_⟩
  simp only [ofN, List.mem_append, List.mem_replicate] at hx
  rcases hx with (hx | hx) | hx
  · exact numL_lt _ _ x hx
  · omega
  · exact numL_lt _ _ x hx
theorem numsOf_numB (x n : Nat) : numsOf (numB x n) = casts (numL x n) := by rw [numB, numsOf_casts, natsOf_byl (numL_lt x n)]
theorem wideNum8 {k x : Nat} (hk : 8 < k) : p_wide_Num k (x : Int) 8 = some (numB x 8) := wideNum_eq (n := 8) hk (by omega)
theorem keyOf_eq {k a b : Nat} (hk : 8 < k) : p_key_Of k (a : Int) (b : Int) = some (vecN 32 (ofN a b)) := by
  have hz : dflt (T.int IntKind.u8) = (0 : Int) := rfl
  unfold p_key_Of
  rw [wideNum8 hk, Option.bind_some, need_yes (by rw [numsOf_len, numB_len]; decide), wideNum8 hk, Option.bind_some, need_yes (by rw [numsOf_len, numB_len]; decide), hz, numsOf_numB, numsOf_numB, repl_casts]
  have e1 := vcopy_vecN (n := 32) (lo := 0) (l := List.replicate 32 0) (xs := numL a 8) (by simp) (by rw [numL_len]; omega)
  have e2 := vcopy_vecN (n := 32) (lo := 24) (l := numL a 8 ++ List.replicate 24 0) (xs := numL b 8) (by simp [numL_len]) (by rw [numL_len]; omega)
  have q0 : ((0 : Nat) : Int) = 0 := rfl
  have q24 : ((24 : Nat) : Int) = 24 := rfl
  rw [q0] at e1
  rw [q24] at e2
  rw [e1]
  have f1 : (List.replicate 32 0).take 0 ++ numL a 8 ++ (List.replicate 32 0).drop (0 + (numL a 8).length) = numL a 8 ++ List.replicate 24 0 := by rw [numL_len]; simp
  rw [f1, e2]
  congr 2
theorem sub_casts (d : List Nat) (a b : Int) : sub_ (casts d) a b = casts (sub_ d a b) := by simp [sub_, casts]
theorem take_lt {d : List Nat} (hd : ∀ x ∈ d, x < 256) (i : Nat) : ∀ x ∈ d.take i, x < 256 := fun x h => hd x (List.mem_of_mem_take h)
theorem drop_lt {d : List Nat} (hd : ∀ x ∈ d, x < 256) (i : Nat) : ∀ x ∈ d.drop i, x < 256 := fun x h => hd x (List.mem_of_mem_drop h)
theorem split_c1 {k : Nat} {d : List Nat} {o : Nat} (hk : 8 < k) (hd : okL 32 d) (ho : o + 8 ≤ 32) : p_key_Split_c1 k (o : Int) (vecN 32 d) = some ((valL ((d.drop o).take 8) : Nat) : Int) := by
  unfold p_key_Split_c1
  have e : IntKind.wrap .i64 ((o : Int) + 8) = ((o + 8 : Nat) : Int) := by rw [wrap_i64 (by omega)]; omega
  have hs : sub_ d (o : Int) ((o + 8 : Nat) : Int) = (d.drop o).take 8 := by rw [sub_, Int.toNat_natCast, Int.toNat_natCast, List.take_drop, Nat.add_comm]
  rw [e, need_yes (by omega), toList_vecN hd.1, sub_casts, bytesOf_casts, hs, wideVal_eq hk (by rw [List.length_take, List.length_drop, hd.1]; omega) (take_lt (drop_lt hd.2 o) 8)]
  rfl
def va (d : List Nat) : Nat := valL (d.take 8)
def vb (d : List Nat) : Nat := valL (d.drop 24)
theorem va_lt {d : List Nat} (hd : okL 32 d) : va d < 18446744073709551616 := valL_lt (n := 8) (by rw [List.length_take]; omega) (take_lt hd.2 8)
theorem vb_lt {d : List Nat} (hd : okL 32 d) : vb d < 18446744073709551616 := valL_lt (n := 8) (by rw [List.length_drop, hd.1]; omega) (drop_lt hd.2 24)
theorem keySplit_eq {k : Nat} {d : List Nat} (hk : 8 < k) (hd : okL 32 d) : p_key_Split k (vecN 32 d) = some (if ofN (va d) (vb d) = d then (((va d : Nat) : Int), ((vb d : Nat) : Int), true) else (0, 0, false)) := by
  unfold p_key_Split
  have h0 := split_c1 (o := 0) hk hd (by omega)
  have h24 := split_c1 (o := 24) hk hd (by omega)
  have q0 : ((0 : Nat) : Int) = 0 := rfl
  have q24 : ((24 : Nat) : Int) = 24 := rfl
  rw [q0, List.drop_zero] at h0
  rw [q24, List.take_of_length_le (by rw [List.length_drop, hd.1]; omega)] at h24
  rw [h0, Option.bind_some, h24, Option.bind_some, keyOf_eq hk, Option.bind_some]
  by_cases h : ofN (va d) (vb d) = d
  · have e : (!decide (vecN 32 (ofN (valL (d.take 8)) (valL (d.drop 24))) = vecN 32 d)) = false := by
      have : ofN (valL (d.take 8)) (valL (d.drop 24)) = d := h
      rw [this]; simp
    rw [e, cond_false, if_pos h]; rfl
  · have e : (!decide (vecN 32 (ofN (valL (d.take 8)) (valL (d.drop 24))) = vecN 32 d)) = true := by
      have : ¬ vecN 32 (ofN (valL (d.take 8)) (valL (d.drop 24))) = vecN 32 d := fun q => h (vecN_inj (ofN_len _ _) hd.1 q)
      simp [this]
    rw [e, cond_true, if_neg h]
def txt (d : List Nat) : List UInt8 := if ofN (va d) (vb d) = d then decN (va d) ++ [46] ++ decN (vb d) else hexL d
theorem keyHex_eq {k : Nat} {d : List Nat} (hk : 32 < k) (hd : okL 32 d) :
    joinC (p_key_Text.j0 k) (fun (j128 : List Int → Option (List UInt8)) => loopC (fun (r : Vector Int 32 × Int × List Int → Option (List UInt8)) y => p_key_Text.b1 k j128 r y.1 y.2.1 y.2.2) k (vecN 32 d, (0 : Int), [])) = some (hexL d) :=
  sumHex_eq hk hd.1 hd.2
theorem keyText_eq {k : Nat} {d : List Nat} (hk : 32 < k) (hd : okL 32 d) : p_key_Text k (vecN 32 d) = some (txt d) := by
  unfold p_key_Text txt
  rw [keySplit_eq (by omega) hd, Option.bind_some]
  have ha := va_lt hd
  have hb := vb_lt hd
  by_cases h : ofN (va d) (vb d) = d
  · have la := decN_len20 ha
    have lb := decN_len20 hb
    rw [if_pos h, if_pos h]
    dsimp only
    rw [cond_true, decimal_eq (by omega) ha, Option.bind_some, need_yes (by omega), decimal_eq (by omega) hb, Option.bind_some, need_yes (by rw [List.length_append]; simp only [List.length_cons, List.length_nil]; omega)]
  · rw [if_neg h, if_neg h]
    dsimp only
    rw [cond_false]
    exact keyHex_eq hk hd
theorem refBytes_eq {k : Nat} {d : List Nat} (hk : 32 < k) (hd : okL 32 d) : p_dormouseref16_Bytes k (vecN 32 d) = some (byl d) := by
  have hz : dflt (T.int IntKind.u8) = (0 : Int) := rfl
  unfold p_dormouseref16_Bytes joinC
  have L := loop_count (body := fun (r : List UInt8 × Int × Vector Int 32 → Option (List UInt8)) y => p_dormouseref16_Bytes.b1 k (p_dormouseref16_Bytes.j0 k) r y.1 y.2.1 y.2.2) (res := some (byl d)) 32 k
    (fun i => (byl (d.take i), (i : Int), vecN 32 d)) hk ?_ ?_
  · exact L
  · intro i hi rec
    dsimp only
    unfold p_dormouseref16_Bytes.b1
    have h1 : decide ((i : Int) < (32 : Int)) = true := by simpa using (by omega : (i : Int) < 32)
    have hid : i < d.length := by rw [hd.1]; exact hi
    have hg : d.getD i 0 = d[i] := by simp [hid]
    rw [h1, cond_true, need_yes (by omega), hz, at_vecN hi, hg, bytesOf_one, need_yes (by rw [byl_len, List.length_take]; simp only [List.length_cons, List.length_nil]; omega), wrap_i64 (by omega), List.take_succ_eq_append_getElem hid, byl_app]
    rfl
  · intro rec
    dsimp only
    unfold p_dormouseref16_Bytes.b1
    have h1 : decide (((32 : Nat) : Int) < (32 : Int)) = false := by decide
    rw [h1, cond_false, List.take_of_length_le (by rw [hd.1]; omega)]
    rfl
theorem refNum8 {k x : Nat} (hk : 8 < k) (hx : x < 18446744073709551616) : p_dormouseref01_Num k (x : Int) 8 = some (numB x 8) := refNum_eq (n := 8) hk (by omega) hx
theorem refOf16_eq {k a b : Nat} (hk : 8 < k) (ha : a < 18446744073709551616) (hb : b < 18446744073709551616) : p_dormouseref16_Of k (a : Int) (b : Int) = some (byl (ofN a b)) := by
  unfold p_dormouseref16_Of
  rw [refNum8 hk ha, Option.bind_some, need_yes (by rw [numB_len]; omega), refNum8 hk hb, Option.bind_some, need_yes (by rw [List.length_append, numB_len, numB_len]; simp only [List.length_cons, List.length_nil]; omega)]
  unfold ofN numB
  rw [byl_app, byl_app]
  rfl
theorem byl_sub (d : List Nat) (a b : Int) : sub_ (byl d) a b = byl (sub_ d a b) := by simp [sub_, byl]
theorem byl_inj {a b : List Nat} (ha : ∀ x ∈ a, x < 256) (hb : ∀ x ∈ b, x < 256) (h : byl a = byl b) : a = b := by
  rw [← natsOf_byl ha, ← natsOf_byl hb, h]
theorem refSplit_eq {k : Nat} {d : List Nat} (hk : 32 < k) (hd : okL 32 d) : p_dormouseref16_Split k (vecN 32 d) = some (if ofN (va d) (vb d) = d then (((va d : Nat) : Int), ((vb d : Nat) : Int), true) else (0, 0, false)) := by
  unfold p_dormouseref16_Split
  have hl : (byl d).length = 32 := by rw [byl_len, hd.1]
  have s0 : sub_ (byl d) 0 8 = byl (d.take 8) := by rw [byl_sub]; rfl
  have s24 : sub_ (byl d) 24 ((byl d).length : Int) = byl (d.drop 24) := by
    rw [byl_sub, hl]; unfold sub_
    rw [List.take_of_length_le (by rw [hd.1]; exact Nat.le_refl _)]; rfl
  rw [refBytes_eq hk hd, Option.bind_some, need_yes (by rw [hl]; omega), s0, refVal_eq (by omega) (by rw [List.length_take, hd.1]; rfl) (take_lt hd.2 8), Option.bind_some, need_yes (by rw [hl]; omega), s24,
    refVal_eq (by omega) (by rw [List.length_drop, hd.1]) (drop_lt hd.2 24), Option.bind_some]
  have ha := va_lt hd
  have hb := vb_lt hd
  have ho := refOf16_eq (k := k) (by omega) ha hb
  unfold va vb at ho
  rw [ho, Option.bind_some]
  by_cases h : ofN (va d) (vb d) = d
  · have e : (!byl (ofN (valL (d.take 8)) (valL (d.drop 24))) == byl d) = false := by
      have : ofN (valL (d.take 8)) (valL (d.drop 24)) = d := h
      rw [this]; simp
    rw [e, cond_false, if_pos h]; rfl
  · have e : (!byl (ofN (valL (d.take 8)) (valL (d.drop 24))) == byl d) = true := by
      have : ¬ byl (ofN (valL (d.take 8)) (valL (d.drop 24))) = byl d := fun q => h (byl_inj (ofN_ok _ _).2 hd.2 q)
      simpa using this
    rw [e, cond_true, if_neg h]
theorem refText16_eq {k : Nat} {d : List Nat} (hk : 32 < k) (hd : okL 32 d) : p_dormouseref16_Text k (vecN 32 d) = some (txt d) := by
  unfold p_dormouseref16_Text txt
  rw [refSplit_eq hk hd, Option.bind_some]
  have ha := va_lt hd
  have hb := vb_lt hd
  by_cases h : ofN (va d) (vb d) = d
  · have la := decN_len20 ha
    have lb := decN_len20 hb
    rw [if_pos h, if_pos h]
    dsimp only
    rw [cond_true, Digits20 (by omega) ha, Option.bind_some, need_yes (by omega), Digits20 (by omega) hb, Option.bind_some, need_yes (by rw [List.length_append]; simp only [List.length_cons, List.length_nil]; omega)]
  · rw [if_neg h, if_neg h]
    dsimp only
    rw [cond_false, refBytes_eq hk hd, Option.bind_some, refHex_eq (by rw [hd.1]; exact hk) (by rw [hd.1]; omega) hd.2, Option.bind_some]
def pdN (s : List UInt8) (i : Nat) : List Nat := (List.range 32).map fun j => if 2 * j + 1 < i then 16 * hm s (2 * j) + hm s (2 * j + 1) else if 2 * j < i then hm s (2 * j) else 0
theorem pdN_len (s : List UInt8) (i : Nat) : (pdN s i).length = 32 := by simp [pdN]
theorem pdN_zero (s : List UInt8) : vecN 32 (pdN s 0) = vecN 32 [] := by
  apply Vector.ext
  intro j hj
  rw [vecN_get hj, vecN_get hj]
  simp [pdN, List.getD_eq_getElem?_getD, hj]
theorem pdN_at {s : List UInt8} {i : Nat} (hi : i < 64) : (pdN s i).getD (i / 2) 0 = if i % 2 = 0 then 0 else hm s (i - 1) := by
  have h2 : i / 2 < 32 := by omega
  simp only [pdN, List.getD_eq_getElem?_getD, List.getElem?_map, List.getElem?_range h2, Option.map_some, Option.getD_some]
  rcases Nat.mod_two_eq_zero_or_one i with h | h
  · rw [if_neg (by omega), if_neg (by omega), if_pos h]
  · rw [if_neg (by omega), if_pos (by omega), if_neg (by omega)]
    congr 1; omega
theorem pdN_succ {s : List UInt8} {i : Nat} (hi : i < 64) : (pdN s i).set (i / 2) (16 * (pdN s i).getD (i / 2) 0 + hm s i) = pdN s (i + 1) := by
  rw [pdN_at hi]
  apply List.ext_getElem
  · simp [pdN]
  · intro j h1 h2
    have hj : j < 32 := by simpa [pdN] using h2
    simp only [pdN, List.getElem_set, List.getElem_map, List.getElem_range]
    rcases Nat.mod_two_eq_zero_or_one i with h | h
    · rw [if_pos h]
      by_cases hij : i / 2 = j
      · rw [if_pos hij, if_neg (by omega), if_pos (by omega), Nat.mul_zero, Nat.zero_add]; congr 1; omega
      · rw [if_neg hij]
        by_cases h3 : 2 * j + 1 < i
        · rw [if_pos h3, if_pos (by omega)]
        · rw [if_neg h3, if_neg (by omega), if_neg (by omega), if_neg (by omega)]
    · rw [if_neg (show ¬ i % 2 = 0 by omega)]
      by_cases hij : i / 2 = j
      · rw [if_pos hij, if_pos (by omega)]
        have a1 : i - 1 = 2 * j := by omega
        have a2 : i = 2 * j + 1 := by omega
        rw [a1, a2]
      · rw [if_neg hij]
        by_cases h3 : 2 * j + 1 < i
        · rw [if_pos h3, if_pos (by omega)]
        · rw [if_neg h3, if_neg (by omega), if_neg (by omega), if_neg (by omega)]
theorem pdN_ok (s : List UInt8) (i : Nat) : okL 32 (pdN s i) := by
  refine ⟨pdN_len s i, fun x hx => ?_⟩
  simp only [pdN, List.mem_map, List.mem_range] at hx
  obtain ⟨j, hj, rfl⟩ := hx
  have a := hm_lt s (2 * j)
  have b := hm_lt s (2 * j + 1)
  split
  · omega
  · split <;> omega
theorem zero_ok : okL 32 (List.replicate 32 0) := ⟨by simp, fun x hx => by simp at hx; omega⟩
noncomputable def guess (s : List UInt8) : List Nat :=
  open Classical in
  if h : (46 : UInt8) ∈ s then ofN (numD (Classical.choose (cut_at h))) (numD (Classical.choose (Classical.choose_spec (cut_at h)))) else if s.length = 64 then pdN s 64 else List.replicate 32 0
theorem parse_j0 {k : Nat} {s : List UInt8} {d : List Nat} {v : Vector Int 32} (hk : 64 < k) (hd : okL 32 d) : p_key_Parse.j0 k s v (vecN 32 d) = some (if txt d = s then (vecN 32 d, 0) else (vecN 32 [], 6)) := by
  unfold p_key_Parse.j0
  rw [keyText_eq (by omega) hd, Option.bind_some]
  by_cases h : txt d = s
  · have e : (!txt d == s) = false := by simpa using h
    rw [e, cond_false, if_pos h]
  · have e : (!txt d == s) = true := by simpa using h
    rw [e, cond_true, if_neg h, ← repl_vecN]; rfl
theorem guess_ok (s : List UInt8) : okL 32 (guess s) := by
  unfold guess
  split
  · exact ofN_ok _ _
  · split
    · exact pdN_ok _ _
    · exact zero_ok
theorem parse_eq {k : Nat} {s : List UInt8} (hk : 64 < k) (hks : s.length < k) (hs : s.length < 100000) : p_key_Parse k s = some (if txt (guess s) = s then (vecN 32 (guess s), 0) else (vecN 32 [], 6)) := by
  unfold p_key_Parse joinC
  have hz : dflt (T.int IntKind.u8) = (0 : Int) := rfl
  dsimp only
  by_cases h : (46 : UInt8) ∈ s
  · have hg : guess s = ofN (numD (Classical.choose (cut_at h))) (numD (Classical.choose (Classical.choose_spec (cut_at h)))) := by unfold guess; rw [dif_pos h]
    have hsp := Classical.choose_spec (Classical.choose_spec (cut_at h))
    generalize Classical.choose (Classical.choose_spec (cut_at h)) = b at *
    generalize Classical.choose (cut_at h) = a at *
    obtain ⟨rfl, hna⟩ := hsp
    have hlen : (a ++ 46 :: b).length = a.length + b.length + 1 := by simp; omega
    rw [Cut_app hna (by omega), Option.bind_some]
    dsimp only
    rw [cond_true, number_eq (by omega) (by omega), Option.bind_some, number_eq (by omega) (by omega), Option.bind_some, keyOf_eq (by omega), Option.bind_some, hg]
    exact parse_j0 (by omega) (ofN_ok _ _)
  · rw [Cut_not h, Option.bind_some]
    dsimp only
    rw [cond_false]
    by_cases h64 : s.length = 64
    · have hg : guess s = pdN s 64 := by unfold guess; rw [dif_neg h, if_pos h64]
      have e1 : ((s.length : Int) == 64) = true := by rw [h64]; rfl
      rw [e1, cond_true, hg, hz, repl_vecN]
      have L := loop_count (body := fun (r : List UInt8 × Int × Int × Vector Int 32 × Vector Int 32 → Option (Vector Int 32 × Int)) y => p_key_Parse.b1 k (fun y => p_key_Parse.j0 k y.1 y.2.1 y.2.2) r y.1 y.2.1 y.2.2.1 y.2.2.2.1 y.2.2.2.2) (res := some (if txt (pdN s 64) = s then (vecN 32 (pdN s 64), 0) else (vecN 32 [], 6))) 64 k
        (fun i => (s, (s.length : Int), (i : Int), vecN 32 [], vecN 32 (pdN s i))) (by omega) ?_ ?_
      · rw [pdN_zero] at L
        exact L
      · intro i hi rec
        dsimp only
        unfold p_key_Parse.b1
        have h1 : decide ((i : Int) < (s.length : Int)) = true := by rw [h64]; simpa using (by omega : (i : Int) < 64)
        have e3 : IntKind.wrap .i64 (Int.tdiv (i : Int) 2) = ((i / 2 : Nat) : Int) := by rw [Int.tdiv_eq_ediv_of_nonneg (by omega), wrap_i64 (by omega)]; omega
        have hvl := hm_lt s i
        have hat := pdN_at (s := s) hi
        have hal : (pdN s i).getD (i / 2) 0 < 16 := by
          rw [hat]; split
          · omega
          · exact hm_lt _ _
        have e4 : Max.max (hexv (byt s i)) 0 = ((hm s i : Nat) : Int) := by unfold hm; omega
        have hsucc := pdN_succ (s := s) hi
        have hset := pdN_len s i
        rw [h1, cond_true, need_yes (by omega), ← DIG, index_eq, Option.bind_some, e3, need_yes (by omega), need_yes (by omega), hz, at_vecN (by omega), e4, nib_or hal hvl, vset_vecN2 (by omega), hsucc, wrap_i64 (by omega)]
        rfl
      · intro rec
        dsimp only
        unfold p_key_Parse.b1
        have h1 : decide (((64 : Nat) : Int) < (s.length : Int)) = false := by rw [h64]; decide
        rw [h1, cond_false]
        exact parse_j0 (by omega) (pdN_ok s 64)
    · have hg : guess s = List.replicate 32 0 := by unfold guess; rw [dif_neg h, if_neg h64]
      have e1 : ((s.length : Int) == 64) = false := by simp only [beq_eq_false_iff_ne, ne_eq]; omega
      rw [e1, cond_false, hg, hz, repl_casts]
      exact parse_j0 (by omega) zero_ok
theorem cut_one {a b c d : List UInt8} (h : a ++ 46 :: b = c ++ 46 :: d) (ha : (46 : UInt8) ∉ a) (hc : (46 : UInt8) ∉ c) : a = c ∧ b = d := by
  induction a generalizing c with
  | nil =>
    cases c with
    | nil => simp at h; exact ⟨rfl, h⟩
    | cons x c => simp at h; exact absurd h.1.symm (by simp at hc; exact fun e => hc.1 e.symm)
  | cons y a ih =>
    cases c with
    | nil => simp at h; exact absurd h.1 (by simp at ha; exact fun e => ha.1 e.symm)
    | cons x c =>
      simp at h ha hc
      obtain ⟨h1, h2⟩ := ih h.2 ha.2 hc.2
      exact ⟨by rw [h.1, h1], h2⟩
theorem hm_hexL {d : List Nat} (hd : okL 32 d) : pdN (hexL d) 64 = d := by
  apply List.ext_getElem
  · simp [pdN, hd.1]
  · intro j h1 h2
    have hj : j < 32 := by simpa [pdN] using h1
    simp only [pdN, List.getElem_map, List.getElem_range]
    have hb := hd.2 d[j] (List.getElem_mem _)
    obtain ⟨a, b⟩ := byt_hexL (l := d) (j := j) (by rw [hd.1]; exact hj)
    rw [if_pos (by omega), hm, hm, a, b, hexv_back (by omega), hexv_back (by omega)]; omega
theorem guess_txt {d : List Nat} (hd : okL 32 d) : guess (txt d) = d := by
  unfold txt
  by_cases h : ofN (va d) (vb d) = d
  · rw [if_pos h]
    have hin : (46 : UInt8) ∈ decN (va d) ++ [46] ++ decN (vb d) := by simp
    unfold guess
    rw [dif_pos hin]
    have hsp := Classical.choose_spec (Classical.choose_spec (cut_at hin))
    generalize Classical.choose (Classical.choose_spec (cut_at hin)) = b at *
    generalize Classical.choose (cut_at hin) = a at *
    obtain ⟨e, hna⟩ := hsp
    have e : decN (va d) ++ 46 :: decN (vb d) = a ++ 46 :: b := by rw [← e]; simp
    obtain ⟨rfl, rfl⟩ := cut_one e (decN_dot _) hna
    rw [numD_decN _ (va_lt hd), numD_decN _ (vb_lt hd), h]
  · rw [if_neg h]
    have hn := hexL_dot hd.2
    unfold guess
    rw [dif_neg hn, if_pos (by rw [hexL_len, hd.1]), hm_hexL hd]
theorem txt_len {d : List Nat} (hd : okL 32 d) : (txt d).length ≤ 64 := by
  unfold txt
  split
  · have := decN_len20 (va_lt hd)
    have := decN_len20 (vb_lt hd)
    simp only [List.length_append, List.length_cons, List.length_nil]; omega
  · rw [hexL_len, hd.1]; exact Nat.le_refl _
abbrev Stp := Int × Vector Int 32 × List UInt8
def WORDS : List (List UInt8) := [[103, 101, 116], [112, 117, 116], [100, 101, 108, 101, 116, 101], [116, 111, 117, 99, 104], [114, 111, 108, 108], [114, 101, 115, 117, 114, 114, 101, 99, 116], [99, 111, 109, 109, 105, 116], [97, 98, 111, 114, 116], [111, 112, 101, 110], [98, 97, 99, 107]]
def wordN (n : Nat) : List UInt8 := WORDS.getD n []
def PARTS : List Nat := [1, 2, 1, 1, 0, 2, 0, 0, 0, 1]
def partN (n : Nat) : Nat := PARTS.getD n 0
def wordZ (e : Int) : List UInt8 := if 0 ≤ e ∧ e ≤ 9 then wordN e.toNat else []
def partZ (e : Int) : Nat := if 0 ≤ e ∧ e ≤ 9 then partN e.toNat else 0
theorem ten {e : Int} (h : 0 ≤ e ∧ e ≤ 9) : ∃ n : Nat, e = (n : Int) ∧ n < 10 := ⟨e.toNat, by omega, by omega⟩
theorem word_all : (List.range 10).all (fun (n : Nat) => decide (p_cmd_word (n : Int) = some (wordN n) ∧ wordN n ≠ [] ∧ (32 : UInt8) ∉ wordN n ∧ (10 : UInt8) ∉ wordN n ∧ (wordN n).length ≤ 10 ∧ p_dormouseref38_Word (n : Int) = some (wordN n))) = true := by decide +kernel
theorem word_at {n : Nat} (h : n < 10) : p_cmd_word (n : Int) = some (wordN n) ∧ wordN n ≠ [] ∧ (32 : UInt8) ∉ wordN n ∧ (10 : UInt8) ∉ wordN n ∧ (wordN n).length ≤ 10 ∧ p_dormouseref38_Word (n : Int) = some (wordN n) := by
  have := List.all_eq_true.1 word_all n (by simpa using h)
  simpa only [decide_eq_true_eq] using this
theorem part_all : (List.range 10).all (fun (n : Nat) => decide (p_cmd_parts (n : Int) = some ((partN n : Nat) : Int) ∧ partN n ≤ 2)) = true := by decide +kernel
theorem part_at {n : Nat} (h : n < 10) : p_cmd_parts (n : Int) = some ((partN n : Nat) : Int) ∧ partN n ≤ 2 := by
  have := List.all_eq_true.1 part_all n (by simpa using h)
  simpa only [decide_eq_true_eq] using this
theorem ten_ne {e c : Int} (h : ¬ (0 ≤ e ∧ e ≤ 9)) (hc : 0 ≤ c ∧ c ≤ 9) : (e == c) = false := by
  simp only [beq_eq_false_iff_ne, ne_eq]; omega
theorem word_eq (e : Int) : p_cmd_word e = some (wordZ e) := by
  by_cases h : 0 ≤ e ∧ e ≤ 9
  · obtain ⟨n, rfl, hn⟩ := ten h
    unfold wordZ
    rw [if_pos h, (word_at hn).1, Int.toNat_natCast]
  · unfold wordZ p_cmd_word
    rw [if_neg h, ten_ne h (by omega), ten_ne h (by omega), ten_ne h (by omega), ten_ne h (by omega), ten_ne h (by omega), ten_ne h (by omega), ten_ne h (by omega), ten_ne h (by omega), ten_ne h (by omega), ten_ne h (by omega)]
    rfl
theorem part_eq (e : Int) : p_cmd_parts e = some ((partZ e : Nat) : Int) := by
  by_cases h : 0 ≤ e ∧ e ≤ 9
  · obtain ⟨n, rfl, hn⟩ := ten h
    unfold partZ
    rw [if_pos h, (part_at hn).1, Int.toNat_natCast]
  · unfold partZ p_cmd_parts joinC
    rw [if_neg h, ten_ne h (by omega), ten_ne h (by omega)]
    unfold p_cmd_parts.j3 p_cmd_parts.j0
    dsimp only
    rw [cond_false, cond_false, ten_ne h (by omega), ten_ne h (by omega), ten_ne h (by omega), ten_ne h (by omega)]
    rfl
theorem part_le (e : Int) : partZ e ≤ 2 := by
  unfold partZ
  split
  · rename_i h
    exact (part_at (by omega)).2
  · omega
theorem wordZ_ne {e : Int} (h : 0 ≤ e ∧ e ≤ 9) : wordZ e ≠ [] := by
  unfold wordZ
  rw [if_pos h]
  exact (word_at (by omega)).2.1
def Z0 : Vector Int 32 := Vector.replicate 32 0
theorem bparts_Z0 : bparts (32 : Nat) (dflt (T.int IntKind.u8)) [] = Z0 := rfl
def mayC (s : Stp) : Bool := decide (0 ≤ s.1 ∧ s.1 ≤ 9 ∧ s.2.2.length ≤ 70000 ∧ (partZ s.1 < 2 → s.2.2 = []) ∧ (partZ s.1 < 1 → s.2.1 = Z0))
theorem Check_eq (e : Int) (v : Vector Int 32) (t : List UInt8) : p_cmd_Check (e, v, t) = some (if mayC (e, v, t) then 0 else 2) := by
  have hw : ∀ w : List UInt8, (!w == []) = !decide (w = []) := by intro w; cases w <;> rfl
  unfold p_cmd_Check joinC p_cmd_Check.j0
  dsimp only
  rw [part_eq, Option.bind_some, word_eq, Option.bind_some, bparts_Z0]
  by_cases h : 0 ≤ e ∧ e ≤ 9
  · have h3 : (wordZ e == []) = false := by simpa using wordZ_ne h
    rw [h3, cond_false]
    unfold mayC
    dsimp only
    generalize partZ e = p
    rw [hw]
    by_cases hl : (t.length : Int) > 70000
    · have hl2 : ¬ t.length ≤ 70000 := by omega
      rw [decide_eq_true hl]
      simp [hl2]
    · have hl2 : t.length ≤ 70000 := by omega
      rw [decide_eq_false hl, cond_false]
      by_cases h2 : (p : Int) < 2
      · have h2' : p < 2 := by omega
        rw [decide_eq_true h2]
        by_cases ht : t = []
        · by_cases h1 : (p : Int) < 1
          · have h1' : p < 1 := by omega
            rw [decide_eq_true h1]
            by_cases hv : v = Z0 <;> simp [h, ht, h1', hv]
          · have h1' : ¬ p < 1 := by omega
            rw [decide_eq_false h1]
            simp [h, ht, h1']
        · simp [h2', ht]
      · have h2' : ¬ p < 2 := by omega
        have h1' : ¬ p < 1 := by omega
        rw [decide_eq_false h2, decide_eq_false (by omega : ¬ (p : Int) < 1)]
        simp [h, h2', h1', hl2]
  · have h3 : wordZ e = [] := by unfold wordZ; rw [if_neg h]
    have hm : mayC (e, v, t) = false := by
      unfold mayC
      simp only [decide_eq_false_iff_not]
      intro hh; exact h ⟨hh.1, hh.2.1⟩
    rw [h3, hm]
    rfl
theorem May_eq (e : Int) (v : Vector Int 32) (t : List UInt8) : p_dormouseref38_May (e, v, t) = some (mayC (e, v, t)) := by
  have hw : ∀ w : List UInt8, (!w == []) = !decide (w = []) := by intro w; cases w <;> rfl
  unfold p_dormouseref38_May joinC
  dsimp only
  by_cases h0 : e < 0
  · have hm : mayC (e, v, t) = false := by unfold mayC; simp only [decide_eq_false_iff_not]; omega
    rw [decide_eq_true h0, hm]; rfl
  · by_cases h9 : e > 9
    · have hm : mayC (e, v, t) = false := by unfold mayC; simp only [decide_eq_false_iff_not]; omega
      rw [decide_eq_false h0, decide_eq_true h9, hm]; rfl
    · rw [decide_eq_false h0, decide_eq_false h9, cond_false, cond_false]
      unfold p_dormouseref38_May.j0 joinC
      by_cases hl : (t.length : Int) > 70000
      · have hm : mayC (e, v, t) = false := by
          unfold mayC; simp only [decide_eq_false_iff_not]; intro hh; have := hh.2.2.1; omega
        rw [decide_eq_true hl, hm]; rfl
      · have hl2 : t.length ≤ 70000 := by omega
        rw [decide_eq_false hl, cond_false]
        dsimp only
        rw [hw]
        unfold p_dormouseref38_May.j1 p_dormouseref38_May.j2 p_dormouseref38_May.j3 joinC
        rw [bparts_Z0]
        have hn : e = 0 ∨ e = 1 ∨ e = 2 ∨ e = 3 ∨ e = 4 ∨ e = 5 ∨ e = 6 ∨ e = 7 ∨ e = 8 ∨ e = 9 := by omega
        unfold mayC
        dsimp only
        rcases hn with rfl | rfl | rfl | rfl | rfl | rfl | rfl | rfl | rfl | rfl <;> by_cases ht : t = [] <;> by_cases hv : v = Z0 <;> simp [ht, hv, hl2, partZ, partN, PARTS]
def lineC (e : Int) (d : List Nat) (t : List UInt8) : List UInt8 := wordZ e ++ ((if partZ e < 1 then [] else 32 :: txt d) ++ (if partZ e < 2 then [] else 32 :: hexS t))
theorem wordZ_len (e : Int) : (wordZ e).length ≤ 10 := by
  unfold wordZ
  split
  · rename_i h
    exact (word_at (by omega)).2.2.2.2.1
  · simp
theorem join1 {w : List UInt8} : Lib.join [w] [32] = w := by rw [Lib.join_cons]; simp [Lib.joinTail]
theorem join2 {w a : List UInt8} : Lib.join [w, a] [32] = w ++ 32 :: a := by rw [Lib.join_cons]; simp [Lib.joinTail]
theorem join3 {w a b : List UInt8} : Lib.join [w, a, b] [32] = w ++ (32 :: a ++ 32 :: b) := by rw [Lib.join_cons]; simp [Lib.joinTail]
theorem joinS {l : List (List UInt8)} {sep r : List UInt8} (h1 : l.length ≤ 3) (h2 : Lib.join l sep = r) (h3 : r.length < 1000000) : p_strings_Join l sep = some r := by
  subst h2
  unfold p_strings_Join
  rw [need_yes (by omega), need_yes (by omega)]
theorem Text_eq {k : Nat} {e : Int} {d : List Nat} {t : List UInt8} (hk : 32 < k) (hd : okL 32 d) (ht : mayC (e, vecN 32 d, t) = true → t.length < k) :
    p_cmd_Text k (e, vecN 32 d, t) = some (if mayC (e, vecN 32 d, t) then (lineC e d t, 0) else ([], 2)) := by
  unfold p_cmd_Text
  dsimp only
  rw [Check_eq, Option.bind_some]
  by_cases hm : mayC (e, vecN 32 d, t) = true
  · have e0 : ((0 : Int) != 0) = false := rfl
    have htk := ht hm
    have hm2 := hm
    simp only [mayC, decide_eq_true_eq] at hm2
    rw [if_pos hm, if_pos hm, e0, cond_false, word_eq, Option.bind_some, keyText_eq hk hd, Option.bind_some, cmdHex_eq htk (by omega), Option.bind_some, part_eq, Option.bind_some]
    have hp := part_le e
    have hwl := wordZ_len e
    have htl := txt_len hd
    have hhl := hexS_len t
    have e1 : IntKind.wrap .i64 (1 + ((partZ e : Nat) : Int)) = ((1 + partZ e : Nat) : Int) := by rw [wrap_i64 (by omega)]; omega
    rw [e1, need_yes (by simp only [List.length_cons, List.length_nil]; omega), Int.toNat_natCast]
    unfold lineC
    generalize wordZ e = w at *
    generalize txt d = a at *
    generalize hexS t = b at *
    have h3 : partZ e = 0 ∨ partZ e = 1 ∨ partZ e = 2 := by omega
    rcases h3 with h3 | h3 | h3
    · rw [h3, if_pos (by omega), if_pos (by omega), joinS (l := List.take (1 + 0) [w, a, b]) (r := w) (by simp) join1 (by omega)]
      simp
    · rw [h3, if_neg (by omega), if_pos (by omega), joinS (l := List.take (1 + 1) [w, a, b]) (r := w ++ 32 :: a) (by simp) join2 (by simp only [List.length_append, List.length_cons]; omega)]
      simp
    · rw [h3, if_neg (by omega), if_neg (by omega), joinS (l := List.take (1 + 2) [w, a, b]) (r := w ++ (32 :: a ++ 32 :: b)) (by simp) join3 (by simp only [List.length_append, List.length_cons]; omega)]
      simp
  · have e0 : ((2 : Int) != 0) = true := rfl
    rw [if_neg hm, if_neg hm, e0, cond_true]
theorem Line_eq {k : Nat} {e : Int} {d : List Nat} {t : List UInt8} (hk : 32 < k) (hd : okL 32 d) (ht : t.length < k) (htl : t.length < 100000) (he : 0 ≤ e ∧ e ≤ 9) :
    p_dormouseref38_Line k (e, vecN 32 d, t) = some (lineC e d t) := by
  have hwl := wordZ_len e
  have hal := txt_len hd
  have hhl := hexS_len t
  have hn : e = 0 ∨ e = 1 ∨ e = 2 ∨ e = 3 ∨ e = 4 ∨ e = 5 ∨ e = 6 ∨ e = 7 ∨ e = 8 ∨ e = 9 := by omega
  have h1 : p_dormouseref38_Word e = some (wordZ e) := by
    obtain ⟨n, rfl, hn10⟩ := ten he
    unfold wordZ
    rw [if_pos he, (word_at hn10).2.2.2.2.2, Int.toNat_natCast]
  have hj : ∀ (c : Bool), c = decide (partZ e < 1) → p_dormouseref38_Line.j0 k (wordZ e) c (e, vecN 32 d, t) = some (lineC e d t) := by
    intro c hc
    unfold lineC p_dormouseref38_Line.j0 joinC
    by_cases hp : partZ e < 1
    · rw [hc, decide_eq_true hp, cond_true, if_pos hp, if_pos (by omega)]; simp
    · rw [hc, decide_eq_false hp, cond_false, if_neg hp, need_yes (by omega)]
      dsimp only
      rw [refText16_eq hk hd, Option.bind_some, need_yes (by simp only [List.length_append, List.length_cons, List.length_nil]; omega)]
      have hj2 : ∀ (c : Bool), c = !decide (partZ e < 2) → p_dormouseref38_Line.j2 k (p_dormouseref38_Line.j1 k) (wordZ e ++ [32] ++ txt d) c (e, vecN 32 d, t) = some (wordZ e ++ (32 :: txt d ++ if partZ e < 2 then [] else 32 :: hexS t)) := by
        intro c hc
        unfold p_dormouseref38_Line.j2
        by_cases hp : partZ e < 2
        · rw [hc, decide_eq_true hp, if_pos hp, Bool.not_true, cond_false]; unfold p_dormouseref38_Line.j1; simp
        · rw [hc, decide_eq_false hp, if_neg hp, Bool.not_false, cond_true, need_yes (by simp only [List.length_append, List.length_cons, List.length_nil]; omega), ref38Hex_eq ht htl, Option.bind_some, need_yes (by simp only [List.length_append, List.length_cons, List.length_nil]; omega)]
          unfold p_dormouseref38_Line.j1; simp
      rcases hn with h | h | h | h | h | h | h | h | h | h <;> rw [h] at hj2 ⊢ <;> exact hj2 _ rfl
  unfold p_dormouseref38_Line joinC
  dsimp only
  rw [h1, Option.bind_some]
  rcases hn with h | h | h | h | h | h | h | h | h | h <;> rw [h] at hj ⊢ <;> exact hj _ rfl
def kindF (w : List UInt8) : Nat → Nat → Int
  | 0, _ => -1
  | m + 1, i => if wordN i = w then (i : Int) else kindF w m (i + 1)
def kindZ (w : List UInt8) : Int := kindF w 10 0
theorem kind_loop {k' : Nat} {w : List UInt8} : ∀ (m i fuel : Nat), i + m = 10 → m < fuel →
    loopC (fun (r : List UInt8 × Int → Option Int) y => p_cmd_kind.b1 k' (fun _ => p_cmd_kind.j0 k') r y.1 y.2) fuel (w, (i : Int)) = some (kindF w m i)
  | 0, i, fuel + 1, h, _ => by
    unfold loopC
    dsimp only
    unfold p_cmd_kind.b1 p_cmd_kind.j0
    rw [decide_eq_false (by omega), cond_false]
    rfl
  | m + 1, i, fuel + 1, h, hf => by
    have ih := kind_loop (k' := k') (w := w) m (i + 1) fuel (by omega) (by omega)
    unfold loopC
    dsimp only
    generalize loopC (fun (r : List UInt8 × Int → Option Int) y => p_cmd_kind.b1 k' (fun _ => p_cmd_kind.j0 k') r y.1 y.2) fuel = rec at *
    unfold p_cmd_kind.b1
    have e2 : IntKind.wrap .i64 ((i : Int) + 1) = ((i + 1 : Nat) : Int) := by rw [wrap_i64 (by omega)]; omega
    rw [decide_eq_true (by omega), cond_true, (word_at (by omega)).1, Option.bind_some, e2, kindF]
    by_cases e : wordN i = w
    · rw [if_pos e, e]; simp
    · have e' : (wordN i == w) = false := by simpa using e
      rw [if_neg e, e', cond_false, ih]
theorem kind_eq {k : Nat} {w : List UInt8} (hk : 10 < k) : p_cmd_kind k w = some (kindZ w) := by
  unfold p_cmd_kind joinC
  exact kind_loop 10 0 k (by omega) hk
theorem word_inj_all : (List.range 10).all (fun (n : Nat) => decide (kindZ (wordN n) = (n : Int))) = true := by decide +kernel
theorem kind_word {n : Nat} (h : n < 10) : kindZ (wordN n) = (n : Int) := by
  have := List.all_eq_true.1 word_inj_all n (by simpa using h)
  simpa only [decide_eq_true_eq] using this
theorem kind_wordZ {e : Int} (h : 0 ≤ e ∧ e ≤ 9) : kindZ (wordZ e) = e := by
  obtain ⟨n, rfl, hn⟩ := ten h
  unfold wordZ
  rw [if_pos h, Int.toNat_natCast, kind_word hn]
def wAt (l : List (List UInt8)) (i : Nat) : List UInt8 := l.getD i []
theorem c1_eq {l : List (List UInt8)} {i : Nat} : p_cmd_Parse_c1 (i : Int) l = some (wAt l i) := by
  unfold p_cmd_Parse_c1 wAt
  by_cases h : i < l.length
  · rw [decide_eq_true (by omega), cond_true, need_yes (by omega)]
    unfold at_
    rw [Int.toNat_natCast]; rfl
  · rw [decide_eq_false (by omega), cond_false, List.getD_eq_getElem?_getD, List.getElem?_eq_none (by omega)]; rfl
noncomputable def keyV (w : List UInt8) : List Nat := open Classical in if txt (guess w) = w then guess w else List.replicate 32 0
theorem keyV_ok (w : List UInt8) : okL 32 (keyV w) := by
  unfold keyV
  split
  · exact guess_ok w
  · exact zero_ok
theorem keyV_txt {d : List Nat} (hd : okL 32 d) : keyV (txt d) = d := by
  unfold keyV
  rw [guess_txt hd, if_pos rfl]
theorem Z0_vecN : Z0 = vecN 32 (List.replicate 32 0) := repl_casts
theorem keyParse_eq {k : Nat} {w : List UInt8} (hk : 64 < k) (hw : w.length < k) (hw2 : w.length < 100000) : ∃ q, p_key_Parse k w = some (vecN 32 (keyV w), q) := by
  rw [parse_eq hk hw hw2]
  unfold keyV
  by_cases h : txt (guess w) = w
  · rw [if_pos h, if_pos h]; exact ⟨_, rfl⟩
  · rw [if_neg h, if_neg h, ← repl_vecN, repl_casts]; exact ⟨_, rfl⟩
theorem spl_mem_len {c : UInt8} : ∀ (s w : List UInt8), w ∈ spl c s → w.length ≤ s.length
  | [], w, h => by simp [spl] at h; subst h; simp
  | x :: s, w, h => by
    rw [spl] at h
    by_cases e : x = c
    · rw [if_pos e] at h
      rcases List.mem_cons.1 h with rfl | h
      · simp
      · have := spl_mem_len s w h; simp only [List.length_cons]; omega
    · rw [if_neg e] at h
      have hs := spl_mem_len (c := c) s
      cases hz : spl c s with
      | nil => rw [hz] at h; simp at h; subst h; simp
      | cons y z =>
        rw [hz] at h hs
        rcases List.mem_cons.1 h with rfl | h
        · have := hs y (by simp); simp only [List.length_cons]; omega
        · have := hs w (by simp [h]); simp only [List.length_cons]; omega
theorem wAt_len {c : UInt8} (s : List UInt8) (i : Nat) : (wAt (spl c s) i).length ≤ s.length := by
  unfold wAt
  rw [List.getD_eq_getElem?_getD]
  cases h : (spl c s)[i]? with
  | none => simp
  | some w => exact spl_mem_len s w (List.mem_of_getElem? h)
noncomputable def guessD (line : List UInt8) : List Nat := open Classical in if partZ (kindZ (wAt (spl 32 line) 0)) < 1 then List.replicate 32 0 else keyV (wAt (spl 32 line) 1)
noncomputable def guessT (line : List UInt8) : List UInt8 := open Classical in if partZ (kindZ (wAt (spl 32 line) 0)) < 2 then [] else (bytR (wAt (spl 32 line) 2)).1
theorem guessD_ok (line : List UInt8) : okL 32 (guessD line) := by
  unfold guessD
  split
  · exact zero_ok
  · exact keyV_ok _
theorem guessT_len (line : List UInt8) : (guessT line).length ≤ line.length := by
  unfold guessT
  split
  · simp
  · exact Nat.le_trans (bytR_len _) (wAt_len _ _)
def okC (line : List UInt8) (e : Int) (d : List Nat) (t : List UInt8) : Prop := mayC (e, vecN 32 d, t) = true ∧ lineC e d t = line
noncomputable def parseC (line : List UInt8) : Stp × Int :=
  open Classical in if kindZ (wAt (spl 32 line) 0) < 0 then ((0, Z0, []), 15) else
    if okC line (kindZ (wAt (spl 32 line) 0)) (guessD line) (guessT line) then ((kindZ (wAt (spl 32 line) 0), vecN 32 (guessD line), guessT line), 0) else ((0, Z0, []), 6)
theorem cparse_j1 {k : Nat} {line : List UInt8} {x : Stp} {e : Int} {d : List Nat} {t : List UInt8} (hk : 32 < k) (hd : okL 32 d) (ht : t.length < k) :
    p_cmd_Parse.j1 k line x (e, vecN 32 d, t) = some (open Classical in if okC line e d t then ((e, vecN 32 d, t), 0) else ((0, Z0, []), 6)) := by
  unfold p_cmd_Parse.j1 joinC p_cmd_Parse.j2
  dsimp only
  rw [Text_eq hk hd (fun _ => ht), Option.bind_some]
  by_cases hm : mayC (e, vecN 32 d, t) = true
  · have e0 : ((0 : Int) != 0) = false := rfl
    rw [if_pos hm]
    dsimp only
    rw [e0, cond_false]
    by_cases hl : lineC e d t = line
    · have e1 : (!lineC e d t == line) = false := by simpa using hl
      rw [e1, cond_false, if_pos ⟨hm, hl⟩]
    · have e1 : (!lineC e d t == line) = true := by simpa using hl
      rw [e1, cond_true, if_neg (fun h => hl h.2)]
      rfl
  · have e0 : ((2 : Int) != 0) = true := rfl
    rw [if_neg hm]
    dsimp only
    rw [e0, cond_true, cond_true, if_neg (fun h => hm h.1)]
    rfl
theorem vec_nats {n : Nat} (x : Vector Int n) (h : okD (.arr n (.int .u8)) x) : ∃ d : List Nat, x = vecN n d ∧ d.length = n ∧ ∀ y ∈ d, y < 256 := by
  have h : ∀ y ∈ x.toList, (Lit.int .u8 y).wf = true := h
  have hr : ∀ y ∈ x.toList, 0 ≤ y ∧ y < 256 := fun y hy => by
    have := h y hy
    simp only [Lit.wf, Bool.and_eq_true, decide_eq_true_eq] at this
    have a : IntKind.min .u8 = 0 := rfl
    have b : IntKind.max .u8 = 255 := rfl
    omega
  refine ⟨x.toList.map Int.toNat, ?_, by simp, fun y hy => ?_⟩
  · apply Vector.ext
    intro i hi
    rw [vecN_get hi]
    have hm : x[i] ∈ x.toList := by simp
    have := hr _ hm
    have e : (x.toList.map Int.toNat).getD i 0 = x[i].toNat := by simp [hi]
    rw [e]; omega
  · obtain ⟨z, hz, rfl⟩ := List.mem_map.1 hy
    have := hr z hz
    omega
theorem hexL_32 {d : List Nat} (hd : ∀ x ∈ d, x < 256) : (32 : UInt8) ∉ hexL d := by
  unfold hexL
  intro h
  rw [List.mem_flatMap] at h
  obtain ⟨c, hc, h⟩ := h
  have := hd c hc
  rcases List.mem_cons.1 h with h | h
  · exact dig_32 (n := c / 16) (by omega) h.symm
  · rcases List.mem_cons.1 h with h | h
    · exact dig_32 (n := c % 16) (by omega) h.symm
    · cases h
theorem txt_32 {d : List Nat} (hd : okL 32 d) : (32 : UInt8) ∉ txt d := by
  unfold txt
  split
  · intro h
    rcases List.mem_append.1 h with h | h
    · rcases List.mem_append.1 h with h | h
      · exact decN_32 _ h
      · simp at h
    · exact decN_32 _ h
  · exact hexL_32 hd.2
theorem hexS_32 (t : List UInt8) : (32 : UInt8) ∉ hexS t := by
  unfold hexS
  split
  · simp
  · exact hexL_32 (natsOf_lt t)
theorem wordZ_32 (e : Int) : (32 : UInt8) ∉ wordZ e := by
  unfold wordZ
  split
  · exact (word_at (by omega)).2.2.1
  · simp
theorem spl_line {e : Int} {d : List Nat} {t : List UInt8} (hd : okL 32 d) : wAt (spl 32 (lineC e d t)) 0 = wordZ e ∧ (¬ partZ e < 1 → wAt (spl 32 (lineC e d t)) 1 = txt d) ∧ (¬ partZ e < 2 → wAt (spl 32 (lineC e d t)) 2 = hexS t) := by
  unfold lineC
  by_cases h1 : partZ e < 1
  · have h2 : partZ e < 2 := by omega
    rw [if_pos h1, if_pos h2, List.append_nil, List.append_nil, spl_not (wordZ_32 e)]
    exact ⟨rfl, fun h => absurd h1 h, fun h => absurd h2 h⟩
  · rw [if_neg h1, List.cons_append, spl_app (wordZ_32 e)]
    by_cases h2 : partZ e < 2
    · rw [if_pos h2, List.append_nil, spl_not (txt_32 hd)]
      exact ⟨rfl, fun _ => rfl, fun h => absurd h2 h⟩
    · rw [if_neg h2, spl_app (txt_32 hd), spl_not (hexS_32 t)]
      exact ⟨rfl, fun _ => rfl, fun _ => rfl⟩
theorem parse_line {e : Int} {d : List Nat} {t : List UInt8} (hd : okL 32 d) (hm : mayC (e, vecN 32 d, t) = true) : parseC (lineC e d t) = ((e, vecN 32 d, t), 0) := by
  have hm2 := hm
  simp only [mayC, decide_eq_true_eq] at hm2
  obtain ⟨h0, h9, _, h2, h1⟩ := hm2
  obtain ⟨s0, s1, s2⟩ := spl_line (e := e) (t := t) hd
  have hk := kind_wordZ ⟨h0, h9⟩
  have hD : guessD (lineC e d t) = d := by
    unfold guessD
    rw [s0, hk]
    by_cases hp : partZ e < 1
    · rw [if_pos hp]
      have := h1 hp
      rw [Z0_vecN] at this
      exact (vecN_inj hd.1 zero_ok.1 this).symm
    · rw [if_neg hp, s1 hp, keyV_txt hd]
  have hT : guessT (lineC e d t) = t := by
    unfold guessT
    rw [s0, hk]
    by_cases hp : partZ e < 2
    · rw [if_pos hp, h2 hp]
    · rw [if_neg hp, s2 hp, bytR_hexS]
  unfold parseC
  rw [s0, hk, hD, hT, if_neg (by omega), if_pos ⟨hm, rfl⟩]
theorem parseC_cases (line : List UInt8) : (kindZ (wAt (spl 32 line) 0) < 0 ∧ parseC line = ((0, Z0, []), 15)) ∨ (¬ kindZ (wAt (spl 32 line) 0) < 0 ∧ parseC line = ((0, Z0, []), 6)) ∨
    (¬ kindZ (wAt (spl 32 line) 0) < 0 ∧ ∃ e d t, parseC line = ((e, vecN 32 d, t), 0) ∧ okL 32 d ∧ mayC (e, vecN 32 d, t) = true ∧ lineC e d t = line ∧ t.length ≤ line.length) := by
  unfold parseC
  by_cases h : kindZ (wAt (spl 32 line) 0) < 0
  · rw [if_pos h]; exact .inl ⟨h, rfl⟩
  · rw [if_neg h]
    by_cases h2 : okC line (kindZ (wAt (spl 32 line) 0)) (guessD line) (guessT line)
    · rw [if_pos h2]
      exact .inr (.inr ⟨h, _, _, _, rfl, guessD_ok line, h2.1, h2.2, guessT_len line⟩)
    · rw [if_neg h2]
      exact .inr (.inl ⟨h, rfl⟩)
theorem lineC_len {e : Int} {d : List Nat} {t : List UInt8} (hd : okL 32 d) : (lineC e d t).length ≤ 77 + 2 * t.length := by
  have := wordZ_len e
  have := txt_len hd
  have := hexS_len t
  unfold lineC
  rw [List.length_append, List.length_append]
  split <;> split <;> simp only [List.length_nil, List.length_cons] <;> omega
theorem bat_get {t : List UInt8} {i : Nat} (hi : i < t.length) : bat t (i : Int) = (t[i].toNat : Int) := by
  unfold bat
  rw [Int.toNat_natCast, List.getD_eq_getElem?_getD, List.getElem?_eq_getElem hi]; rfl
theorem sub_get {t : List UInt8} {i : Nat} (hi : i < t.length) : sub_ t (i : Int) ((i + 1 : Nat) : Int) = [t[i]] := by
  unfold sub_
  rw [Int.toNat_natCast, Int.toNat_natCast, List.take_succ_eq_append_getElem hi, List.drop_append_of_le_length (by rw [List.length_take]; omega), List.drop_of_length_le (by rw [List.length_take]; omega)]
  rfl
theorem split_loop {c : UInt8} {k : Nat} : ∀ (m : Nat) (s : List UInt8) (a : List (List UInt8)) (i fuel : Nat), Lib.countByte s c = m → m < fuel → s.length < 10000000 → a.length = i + m + 1 → i + m < 10000000 →
    loopC (fun (r : List UInt8 × List UInt8 × Int × Int × Int × List (List UInt8) → Option (List (List UInt8))) y => p_strings_genSplit.b2 k (fun (y : List UInt8 × Int × List (List UInt8)) => p_strings_genSplit.j1 k y.1 y.2.1 y.2.2) r y.1 y.2.1 y.2.2.1 y.2.2.2.1 y.2.2.2.2.1 y.2.2.2.2.2) fuel (s, [c], (0 : Int), ((i + m : Nat) : Int), (i : Int), a) = some (a.take i ++ spl c s)
  | 0, s, a, i, fuel + 1, hc, _, hl, ha, hi => by
    have hn : c ∉ s := by
      unfold Lib.countByte at hc
      exact List.count_eq_zero.1 hc
    unfold loopC
    dsimp only
    unfold p_strings_genSplit.b2
    have h1 : decide ((i : Int) < ((i + 0 : Nat) : Int)) = false := by simp
    rw [h1, cond_false]
    dsimp only
    unfold p_strings_genSplit.j1 lset
    have e1 : IntKind.wrap .i64 ((i : Int) + 1) = ((i + 1 : Nat) : Int) := by rw [wrap_i64 (by omega)]; omega
    rw [e1, need_yes (by omega), need_yes (by rw [List.length_set]; omega), Int.toNat_natCast, Int.toNat_natCast, take_set (by omega), spl_not hn]
  | m + 1, s, a, i, fuel + 1, hc, hf, hl, ha, hi => by
    have hin : c ∈ s := by
      unfold Lib.countByte at hc
      exact List.count_pos_iff.1 (by omega)
    obtain ⟨u, b, rfl, hn⟩ := cut_at hin
    have hcb : Lib.countByte b c = m := by
      have h2 := spl_len (c := c) (u ++ c :: b)
      rw [spl_app hn, List.length_cons, spl_len, hc] at h2
      omega
    have hlen : (u ++ c :: b).length = u.length + b.length + 1 := by simp; omega
    unfold loopC
    dsimp only
    unfold p_strings_genSplit.b2
    have h1 : decide ((i : Int) < ((i + (m + 1) : Nat) : Int)) = true := by simp; omega
    have h2 : decide ((u.length : Int) < 0) = false := by simp
    have h0 : ([c].length : Int) = 1 := rfl
    have e1 : IntKind.wrap .i64 ((u.length : Int) + 0) = (u.length : Int) := by rw [wrap_i64 (by omega)]; omega
    have e2 : IntKind.wrap .i64 ((u.length : Int) + 1) = ((u.length + 1 : Nat) : Int) := by rw [wrap_i64 (by omega)]; omega
    have e3 : IntKind.wrap .i64 ((i : Int) + 1) = ((i + 1 : Nat) : Int) := by rw [wrap_i64 (by omega)]; omega
    have s1 : sub_ (u ++ c :: b) 0 (u.length : Int) = u := by simp [sub_]
    have s2 : sub_ (u ++ c :: b) ((u.length + 1 : Nat) : Int) ((u ++ c :: b).length : Int) = b := by
      rw [sub_, Int.toNat_natCast, Int.toNat_natCast, List.take_length, show u.length + 1 = (u ++ [c]).length from by simp]
      rw [show u ++ c :: b = (u ++ [c]) ++ b from by simp, List.drop_left]
    rw [h1, cond_true, IndexS hn, Option.bind_some, h2, cond_false, h0, e1, e2, e3, s1, s2, need_yes (by rw [hlen]; omega), need_yes (by omega), need_yes (by rw [hlen]; omega)]
    have ih := split_loop (k := k) m b (lset a (i : Int) u) (i + 1) fuel hcb (by omega) (by omega) (by unfold lset; rw [List.length_set]; omega) (by omega)
    rw [show i + 1 + m = i + (m + 1) from by omega] at ih
    have hia : i < a.length := by omega
    have hs := take_set (x := u) hia
    unfold p_strings_genSplit.b2 at ih
    rw [ih, spl_app hn]
    clear ih
    unfold lset
    rw [Int.toNat_natCast, hs]
    generalize spl c b = z
    generalize a.take i = w
    exact congrArg some (List.append_assoc w [u] z)
theorem CountG {k : Nat} {s : List UInt8} {c : UInt8} : p_strings_Count k s [c] = some ((Lib.countByte s c : Nat) : Int) := by
  unfold p_strings_Count
  have e0 : (([c].length : Int) == 0) = false := rfl
  have e1 : (([c].length : Int) == 1) = true := rfl
  have e2 : bat [c] 0 = (c.toNat : Int) := rfl
  rw [e0, cond_false, e1, cond_true, need_yes (by simp), e2]
  unfold countByteOf
  rw [Int.toNat_natCast]
  simp
theorem Split_eq {c : UInt8} {k : Nat} {s : List UInt8} (hk : s.length + 1 < k) (hl : s.length < 1000000) : p_strings_Split k s [c] = some (spl c s) := by
  have hle := spl_le (c := c) s
  rw [spl_len] at hle
  have e0 : ((-1 : Int) == 0) = false := rfl
  have e1 : ([c] == []) = false := rfl
  have e2 : decide ((-1 : Int) < 0) = true := by decide
  unfold p_strings_Split p_strings_genSplit joinC
  rw [e0, cond_false, e1, cond_false, e2]
  dsimp only
  rw [cond_true, CountG, Option.bind_some]
  generalize hc : Lib.countByte s c = m at *
  have e3 : IntKind.wrap .i64 ((m : Int) + 1) = ((m + 1 : Nat) : Int) := by rw [wrap_i64 (by omega)]; omega
  have e4 : IntKind.wrap .i64 ((s.length : Int) + 1) = ((s.length + 1 : Nat) : Int) := by rw [wrap_i64 (by omega)]; omega
  have e5 : Min.min ((m + 1 : Nat) : Int) ((s.length + 1 : Nat) : Int) = ((m + 1 : Nat) : Int) := by omega
  have e6 : IntKind.wrap .i64 (((m + 1 : Nat) : Int) - 1) = ((0 + m : Nat) : Int) := by rw [wrap_i64 (by omega)]; omega
  unfold p_strings_genSplit.j0 joinC
  rw [e3, e4, e5, e6, tbD9, need_yes (by omega), Int.toNat_natCast]
  have L := split_loop (k := k) m s (List.replicate (m + 1) (dflt T.str)) 0 k hc (by omega) (by omega) (by simp) (by omega)
  rw [show (((0 : Nat) : Int)) = (0 : Int) from rfl] at L
  dsimp only
  rw [L]
  rfl
theorem cparse_j0 {k : Nat} {line : List UInt8} {x : Stp} {d : List Nat} (hk : 64 < k) (hlk : line.length + 1 < k) (hl : line.length < 100000) (hd : okL 32 d) :
    p_cmd_Parse.j0 k line x (spl 32 line) (kindZ (wAt (spl 32 line) 0), vecN 32 d, []) = some (open Classical in if okC line (kindZ (wAt (spl 32 line) 0)) d (guessT line) then ((kindZ (wAt (spl 32 line) 0), vecN 32 d, guessT line), 0) else ((0, Z0, []), 6)) := by
  have hg := guessT_len line
  unfold p_cmd_Parse.j0 joinC
  dsimp only
  rw [part_eq, Option.bind_some]
  unfold guessT at *
  by_cases h : partZ (kindZ (wAt (spl 32 line) 0)) < 2
  · rw [decide_eq_false (by omega), cond_false, if_pos h]
    exact cparse_j1 (by omega) hd (by simp; omega)
  · have hw := wAt_len (c := 32) line 2
    rw [if_neg h] at hg
    have hc : p_cmd_Parse_c1 2 (spl 32 line) = some (wAt (spl 32 line) 2) := c1_eq (i := 2)
    rw [decide_eq_true (by omega), cond_true, if_neg h, hc, Option.bind_some, Bytes_eq (by omega) (by omega), Option.bind_some]
    exact cparse_j1 (by omega) hd (by omega)
theorem Parse_eq {k : Nat} {line : List UInt8} (hk : 64 < k) (hlk : line.length + 1 < k) (hl : line.length < 100000) : p_cmd_Parse k line = some (parseC line) := by
  have hc : p_cmd_Parse_c1 0 (spl 32 line) = some (wAt (spl 32 line) 0) := c1_eq (i := 0)
  have hc1 : p_cmd_Parse_c1 1 (spl 32 line) = some (wAt (spl 32 line) 1) := c1_eq (i := 1)
  have hw := wAt_len (c := 32) line 1
  unfold p_cmd_Parse joinC parseC
  rw [Split_eq hlk (by omega), Option.bind_some, hc, Option.bind_some, kind_eq (by omega), Option.bind_some]
  by_cases h : kindZ (wAt (spl 32 line) 0) < 0
  · rw [decide_eq_true h, cond_true, if_pos h]
    rfl
  · rw [decide_eq_false h, cond_false, if_neg h]
    dsimp only
    rw [part_eq, Option.bind_some]
    unfold guessD
    by_cases h1 : partZ (kindZ (wAt (spl 32 line) 0)) < 1
    · rw [decide_eq_false (by omega), cond_false, if_pos h1]
      have := cparse_j0 (x := (0, Z0, [])) hk hlk hl zero_ok
      rw [← Z0_vecN] at this ⊢
      exact this
    · obtain ⟨q, hq⟩ := keyParse_eq (k := k) (w := wAt (spl 32 line) 1) (by omega) (by omega) (by omega)
      rw [decide_eq_true (by omega), cond_true, if_neg h1, hc1, Option.bind_some, hq, Option.bind_some]
      exact cparse_j0 hk hlk hl (keyV_ok _)
theorem at_getI {α : Type} {d : α} {l : List α} {i : Nat} (h : i < l.length) : at_ d l (i : Int) = l[i] := by
  unfold at_
  rw [Int.toNat_natCast, List.getD_eq_getElem?_getD, List.getElem?_eq_getElem h]; rfl
def filC : List (List UInt8) → Nat → List (List UInt8 × Nat)
  | [], _ => []
  | w :: ls, i => if w = [] then filC ls (i + 1) else (w, i + 1) :: filC ls (i + 1)
abbrev LS8 := List UInt8 × List UInt8 × Int × Int × List (List UInt8) × List Int
noncomputable def lb (k : Nat) (r : LS8 → Option (List (List UInt8) × List Int)) (y : LS8) : Option (List (List UInt8) × List Int) := p_dormouseref38_Lines.b1 k (fun y => p_dormouseref38_Lines.j0 k y.1 y.2) r y.1 y.2.1 y.2.2.1 y.2.2.2.1 y.2.2.2.2.1 y.2.2.2.2.2
set_option maxRecDepth 100000 in
theorem tb3 : Go.TypeInfo.bytes (Go.Tables.types (Go.Program.toTables Go.Proofs.Tryd.prog))[(3 : Nat)] = 8 := by kernel_rfl
theorem lines_end {k fuel : Nat} {t line : List UInt8} {n : Int} {i : Nat} {w : List (List UInt8)} {a : List Int} (hi : t.length < i) : loopC (lb k) (fuel + 1) (t, line, n, (i : Int), w, a) = some (w, a) := by
  unfold loopC lb
  dsimp only
  unfold p_dormouseref38_Lines.b1
  rw [decide_eq_false (by omega), cond_false]
  rfl
noncomputable def lj (rec : LS8 → Option (List (List UInt8) × List Int)) (k : Nat) (y : LS8) : Option (List (List UInt8) × List Int) := p_dormouseref38_Lines.j2 k rec y.1 y.2.1 y.2.2.1 y.2.2.2.1 y.2.2.2.2.1 y.2.2.2.2.2
theorem lines_j2 {k : Nat} {rec : LS8 → Option (List (List UInt8) × List Int)} {t line : List UInt8} {n : Int} {i : Nat} {w : List (List UInt8)} {a : List Int} (hi : i < 1000000) :
    lj rec k (t, line, n, (i : Int), w, a) = rec (t, line, n, ((i + 1 : Nat) : Int), w, a) := by
  have e2 : IntKind.wrap .i64 ((i : Int) + 1) = ((i + 1 : Nat) : Int) := by rw [wrap_i64 (by omega)]; omega
  unfold lj p_dormouseref38_Lines.j2
  dsimp only
  rw [e2]
theorem lines_j3 {k : Nat} {rec : LS8 → Option (List (List UInt8) × List Int)} {t line : List UInt8} {n i : Nat} {w : List (List UInt8)} {a : List Int} (hi : i < 1000000) (hn : n < 1000000) (hw : w.length < 1000000) (ha : a.length < 1000000) :
    p_dormouseref38_Lines.j3 k (lj rec k) t line ((n + 1 : Nat) : Int) (i : Int) false w a =
      rec (t, [], ((n + 1 + 1 : Nat) : Int), ((i + 1 : Nat) : Int), if line = [] then w else w ++ [line], if line = [] then a else a ++ [((n + 1 : Nat) : Int)]) := by
  have e3 : IntKind.wrap .i64 (((n + 1 : Nat) : Int) + 1) = ((n + 1 + 1 : Nat) : Int) := by rw [wrap_i64 (by omega)]; omega
  unfold p_dormouseref38_Lines.j3 joinC p_dormouseref38_Lines.j4
  dsimp only
  rw [cond_false, e3]
  by_cases e : line = []
  · have e' : (!line == []) = false := by simpa using e
    rw [e', cond_false, if_pos e, if_pos e, lines_j2 hi]
  · have e' : (!line == []) = true := by simpa using e
    rw [e', cond_true, if_neg e, if_neg e, tbD9, tb3, need_yes (by simp only [List.length_cons, List.length_nil]; omega), need_yes (by simp only [List.length_cons, List.length_nil]; omega), lines_j2 hi]
theorem lines_loop {k : Nat} {t : List UInt8} (ht : t.length < 100000) : ∀ (m i n fuel : Nat) (line : List UInt8) (w : List (List UInt8)) (a : List Int), i + m = t.length → m + 1 < fuel → line.length ≤ i → w.length ≤ i → a.length ≤ i → n ≤ i → (10 : UInt8) ∉ line →
    loopC (lb k) fuel (t, line, ((n + 1 : Nat) : Int), (i : Int), w, a) = some (w ++ (filC (spl 10 (line ++ t.drop i)) n).map (·.1), a ++ (filC (spl 10 (line ++ t.drop i)) n).map fun x => (x.2 : Int))
  | 0, i, n, fuel + 1 + 1, line, w, a, hi, _, hl, hw, ha, hn, hc => by
    have he := fun (line : List UInt8) (n : Int) (w : List (List UInt8)) (a : List Int) => lines_end (k := k) (fuel := fuel) (t := t) (line := line) (n := n) (i := i + 1) (w := w) (a := a) (by omega)
    rw [List.drop_of_length_le (by omega), List.append_nil, spl_not hc]
    rw [loopC_succ]
    generalize loopC (lb k) (fuel + 1) = rec at *
    unfold lb
    dsimp only
    unfold p_dormouseref38_Lines.b1 joinC
    dsimp only
    rw [decide_eq_true (by omega), cond_true, decide_eq_false (by omega), cond_false]
    refine (lines_j3 (by omega) (by omega) (by omega) (by omega)).trans ?_
    rw [he]
    unfold filC filC
    by_cases e : line = []
    · rw [if_pos e, if_pos e, if_pos e]; simp
    · rw [if_neg e, if_neg e, if_neg e]; simp
  | m + 1, i, n, fuel + 1, line, w, a, hi, hf, hl, hw, ha, hn, hc => by
    have hx : i < t.length := by omega
    have e2 : IntKind.wrap .i64 ((i : Int) + 1) = ((i + 1 : Nat) : Int) := by rw [wrap_i64 (by omega)]; omega
    have ih := fun n line w a h1 h2 h3 h4 h5 => lines_loop (k := k) ht m (i + 1) n fuel line w a (by omega) (by omega) h1 h2 h3 h4 h5
    rw [loopC_succ, List.drop_eq_getElem_cons hx]
    generalize loopC (lb k) fuel = rec at *
    unfold lb
    dsimp only
    unfold p_dormouseref38_Lines.b1 joinC
    dsimp only
    rw [decide_eq_true (by omega), cond_true, decide_eq_true (by omega), cond_true, need_yes (by omega), bat_get hx]
    by_cases e : t[i] = 10
    · have e' : ((t[i].toNat : Int) != 10) = false := by rw [e]; rfl
      rw [e']
      refine (lines_j3 (by omega) (by omega) (by omega) (by omega)).trans ?_
      rw [e, spl_app hc, filC]
      by_cases e0 : line = []
      · rw [if_pos e0, if_pos e0, if_pos e0, ih (n + 1) [] w a (by simp) (by omega) (by omega) (by omega) (by simp)]
        simp
      · rw [if_neg e0, if_neg e0, if_neg e0, ih (n + 1) [] _ _ (by simp) (by rw [List.length_append]; simp only [List.length_cons, List.length_nil]; omega) (by rw [List.length_append]; simp only [List.length_cons, List.length_nil]; omega) (by omega) (by simp)]
        simp
    · have hne : t[i].toNat ≠ 10 := fun h => e (UInt8.toNat_inj.1 h)
      have e' : ((t[i].toNat : Int) != 10) = true := by simp only [bne_iff_ne, ne_eq]; omega
      rw [e']
      unfold p_dormouseref38_Lines.j3
      rw [cond_true, e2, sub_get hx, need_yes (by omega), need_yes (by simp only [List.length_cons, List.length_nil]; omega)]
      refine (lines_j2 (by omega)).trans ?_
      rw [ih n (line ++ [t[i]]) w a (by rw [List.length_append]; simp only [List.length_cons, List.length_nil]; omega) (by omega) (by omega) (by omega) (by
        intro h
        rcases List.mem_append.1 h with h | h
        · exact hc h
        · exact e (List.mem_singleton.1 h).symm)]
      rw [List.append_assoc]
      rfl
theorem Lines_eq {k : Nat} {t : List UInt8} (hk : t.length + 1 < k) (ht : t.length < 100000) : p_dormouseref38_Lines k t = some ((filC (spl 10 t) 0).map (·.1), (filC (spl 10 t) 0).map fun x => (x.2 : Int)) := by
  unfold p_dormouseref38_Lines joinC
  have := lines_loop (k := k) ht t.length 0 0 k [] [] [] (by omega) (by omega) (by simp) (by simp) (by simp) (by omega) (by simp)
  rw [List.drop_zero, List.nil_append, List.nil_append, List.nil_append] at this
  exact this
theorem st_eq (a b : Stp) : (a.1 == b.1 && (decide (a.2.1 = b.2.1) && (a.2.2 == b.2.2 && true))) = decide (a = b) := by
  obtain ⟨a1, a2, a3⟩ := a
  obtain ⟨b1, b2, b3⟩ := b
  rw [Bool.eq_iff_iff]
  simp
def natsV (v : Vector Int 32) : List Nat := v.toList.map Int.toNat
theorem natsV_vecN {d : List Nat} (hd : okL 32 d) : natsV (vecN 32 d) = d := by
  unfold natsV
  rw [toList_vecN hd.1]
  unfold casts
  rw [List.map_map]
  exact (List.map_congr_left (fun a _ => Int.toNat_natCast a)).trans (List.map_id d)
def okS (s : Stp) : Prop := okL 32 (natsV s.2.1) ∧ s.2.1 = vecN 32 (natsV s.2.1)
def lineS (s : Stp) : List UInt8 := lineC s.1 (natsV s.2.1) s.2.2
theorem okS_of {s : Stp} (h : okD (.pair (.int .i64) (.pair (.arr 32 (.int .u8)) .str)) s) : okS s := by
  obtain ⟨e, v, t⟩ := s
  obtain ⟨d, rfl, h1, h2⟩ := vec_nats v h.2.1
  have hd : okL 32 d := ⟨h1, h2⟩
  exact ⟨by rw [natsV_vecN hd]; exact hd, by rw [natsV_vecN hd]⟩
theorem TextS_eq {k : Nat} {s : Stp} (hk : 32 < k) (hs : okS s) (ht : s.2.2.length < k) : p_cmd_Text k (s.1, s.2.1, s.2.2) = some (if mayC s then (lineS s, 0) else ([], 2)) := by
  obtain ⟨e, v, t⟩ := s
  obtain ⟨hd, hv⟩ := hs
  unfold lineS
  dsimp only at hd hv ht ⊢
  rw [hv]
  have := Text_eq (k := k) (e := e) (d := natsV v) (t := t) hk hd (fun _ => ht)
  rw [natsV_vecN hd]
  exact this
theorem LineS_eq {k : Nat} {s : Stp} (hk : 32 < k) (hs : okS s) (ht : s.2.2.length < k) (ht2 : s.2.2.length < 100000) (hm : mayC s = true) : p_dormouseref38_Line k (s.1, s.2.1, s.2.2) = some (lineS s) := by
  obtain ⟨e, v, t⟩ := s
  obtain ⟨hd, hv⟩ := hs
  simp only [mayC, decide_eq_true_eq] at hm
  unfold lineS
  dsimp only at hd hv ht hm ⊢
  rw [hv]
  have := Line_eq (k := k) (e := e) (d := natsV v) (t := t) hk hd ht ht2 ⟨hm.1, hm.2.1⟩
  rw [natsV_vecN hd]
  exact this
theorem parseS_line {s : Stp} (hs : okS s) (hm : mayC s = true) : parseC (lineS s) = (s, 0) := by
  obtain ⟨e, v, t⟩ := s
  obtain ⟨hd, hv⟩ := hs
  unfold lineS
  dsimp only at hd hv ⊢
  have hm2 : mayC (e, vecN 32 (natsV v), t) = true := by rw [← hv]; exact hm
  rw [parse_line hd hm2, ← hv]
theorem lineS_len {s : Stp} (hs : okS s) : (lineS s).length ≤ 77 + 2 * s.2.2.length := lineC_len hs.1
def printL : List Stp → List UInt8 → List UInt8 × Int
  | [], acc => (acc, 0)
  | s :: l, acc => if mayC s = true then printL l (acc ++ (lineS s ++ [10])) else ([], 2)
def linesP (l : List Stp) : List UInt8 := (l.map fun s => lineS s ++ [10]).flatten
theorem WriteS {s : List UInt8} {xs : List Int} (h : xs.length + s.length ≤ 140737488355328) : p__strings_Builder_WriteString s xs = some ((s.length : Int), xs ++ numsOf s) := by
  unfold p__strings_Builder_WriteString p_Builder_copyCheck
  rw [Option.bind_some, tbD5, need_yes (by rw [numsOf_len]; omega)]
noncomputable def pb (k : Nat) (r : List Stp × Int × Int × List Int → Option (List UInt8 × Int)) (y : List Stp × Int × Int × List Int) : Option (List UInt8 × Int) := p_cmd_Print.b1 k (p_cmd_Print.j0 k) r y.1 y.2.1 y.2.2.1 y.2.2.2
theorem print_loop {k : Nat} {l : List Stp} (hk : 4000 < k) (hn : l.length ≤ 30) (hs : ∀ s ∈ l, okS s ∧ s.2.2.length ≤ 3000) : ∀ (m i fuel : Nat) (acc : List UInt8), i + m = l.length → m < fuel → acc.length ≤ 7000 * i →
    loopC (pb k) fuel (l, (l.length : Int), (i : Int), numsOf acc) = some (printL (l.drop i) acc)
  | 0, i, fuel + 1, acc, hi, _, ha => by
    rw [loopC_succ]
    unfold pb
    dsimp only
    unfold p_cmd_Print.b1 p_cmd_Print.j0 p_Builder_String
    rw [decide_eq_false (by omega), cond_false, List.drop_of_length_le (by omega), Option.bind_some, bytesOf_numsOf]
    rfl
  | m + 1, i, fuel + 1, acc, hi, hf, ha => by
    have hx : i < l.length := by omega
    obtain ⟨h1, h2⟩ := hs _ (List.getElem_mem hx)
    have e2 : IntKind.wrap .i64 ((i : Int) + 1) = ((i + 1 : Nat) : Int) := by rw [wrap_i64 (by omega)]; omega
    have ih := fun a h => print_loop hk hn hs m (i + 1) fuel a (by omega) (by omega) h
    have hll := lineS_len h1
    rw [loopC_succ, List.drop_eq_getElem_cons hx, printL]
    generalize loopC (pb k) fuel = rec at *
    unfold pb
    dsimp only
    unfold p_cmd_Print.b1
    rw [decide_eq_true (by omega), cond_true, need_yes (by omega), at_getI hx, TextS_eq (by omega) h1 (by omega), Option.bind_some, e2]
    by_cases e : mayC l[i] = true
    · have e0 : ((0 : Int) != 0) = false := rfl
      simp only [e, if_true]
      rw [e0, cond_false, WriteS (by rw [numsOf_len]; omega), Option.bind_some]
      dsimp only
      rw [WriteS (by rw [List.length_append, numsOf_len, numsOf_len]; simp only [List.length_cons, List.length_nil]; omega), Option.bind_some]
      dsimp only
      rw [← numsOf_app, ← numsOf_app, List.append_assoc, ih _ (by rw [List.length_append, List.length_append]; simp only [List.length_cons, List.length_nil]; omega)]
    · have e0 : ((2 : Int) != 0) = true := rfl
      have e' : mayC l[i] = false := by simpa using e
      simp only [e', Bool.false_eq_true, if_false]
      rw [e0, cond_true]
theorem Print_eq {k : Nat} {l : List Stp} (hk : 4000 < k) (hn : l.length ≤ 30) (hs : ∀ s ∈ l, okS s ∧ s.2.2.length ≤ 3000) : p_cmd_Print k l = some (printL l []) := by
  unfold p_cmd_Print joinC
  have := print_loop hk hn hs l.length 0 k [] (by omega) (by omega) (by simp)
  exact this
theorem printL_all : ∀ (l : List Stp) (acc : List UInt8), (∀ s ∈ l, mayC s = true) → printL l acc = (acc ++ linesP l, 0)
  | [], acc, _ => by simp [printL, linesP]
  | s :: l, acc, h => by
    rw [printL, if_pos (h s (by simp)), printL_all l _ (fun q hq => h q (by simp [hq]))]
    unfold linesP
    rw [List.map_cons, List.flatten_cons, List.append_assoc]
theorem printL_not : ∀ (l : List Stp) (acc : List UInt8), (∃ s ∈ l, mayC s = false) → printL l acc = ([], 2)
  | [], acc, ⟨s, h, _⟩ => by cases h
  | s :: l, acc, ⟨q, hq, hm⟩ => by
    rw [printL]
    by_cases h : mayC s = true
    · rw [if_pos h]
      rcases List.mem_cons.1 hq with rfl | hq
      · rw [h] at hm; cases hm
      · exact printL_not l _ ⟨q, hq, hm⟩
    · rw [if_neg h]
theorem wordZ_10 (e : Int) : (10 : UInt8) ∉ wordZ e := by
  unfold wordZ
  split
  · exact (word_at (by omega)).2.2.2.1
  · simp
theorem dig_10 {n : Nat} (h : n < 16) : dig n ≠ 10 := by
  have : (List.range 16).all (fun n => decide (dig n ≠ 10)) = true := by decide
  have := List.all_eq_true.1 this n (by simpa using h)
  simpa using this
theorem hexL_10 {d : List Nat} (hd : ∀ x ∈ d, x < 256) : (10 : UInt8) ∉ hexL d := by
  unfold hexL
  intro h
  rw [List.mem_flatMap] at h
  obtain ⟨c, hc, h⟩ := h
  have := hd c hc
  rcases List.mem_cons.1 h with h | h
  · exact dig_10 (n := c / 16) (by omega) h.symm
  · rcases List.mem_cons.1 h with h | h
    · exact dig_10 (n := c % 16) (by omega) h.symm
    · cases h
theorem decN_10 : ∀ (n : Nat), (10 : UInt8) ∉ decN n := by
  intro n
  induction n using Nat.strongRecOn with
  | ind n ih =>
    by_cases h : n < 10
    · rw [decN_lo h]
      intro hh
      exact dig_10 (n := n) (by omega) (List.mem_singleton.1 hh).symm
    · rw [decN_hi h]
      intro hh
      rcases List.mem_append.1 hh with hh | hh
      · exact ih (n / 10) (by omega) hh
      · exact dig_10 (n := n % 10) (by omega) (List.mem_singleton.1 hh).symm
theorem txt_10 {d : List Nat} (hd : okL 32 d) : (10 : UInt8) ∉ txt d := by
  unfold txt
  split
  · intro h
    rcases List.mem_append.1 h with h | h
    · rcases List.mem_append.1 h with h | h
      · exact decN_10 _ h
      · simp at h
    · exact decN_10 _ h
  · exact hexL_10 hd.2
theorem hexS_10 (t : List UInt8) : (10 : UInt8) ∉ hexS t := by
  unfold hexS
  split
  · simp
  · exact hexL_10 (natsOf_lt t)
theorem lineS_10 {s : Stp} (hs : okS s) : (10 : UInt8) ∉ lineS s := by
  unfold lineS lineC
  intro h
  rcases List.mem_append.1 h with h | h
  · exact wordZ_10 _ h
  · rcases List.mem_append.1 h with h | h
    · split at h
      · cases h
      · rcases List.mem_cons.1 h with h | h
        · cases h
        · exact txt_10 hs.1 h
    · split at h
      · cases h
      · rcases List.mem_cons.1 h with h | h
        · cases h
        · exact hexS_10 _ h
theorem lineS_ne {s : Stp} (hm : mayC s = true) : lineS s ≠ [] := by
  simp only [mayC, decide_eq_true_eq] at hm
  unfold lineS lineC
  intro h
  exact wordZ_ne ⟨hm.1, hm.2.1⟩ (List.append_eq_nil_iff.1 h).1
theorem linesP_len : ∀ (l : List Stp), (∀ s ∈ l, okS s ∧ s.2.2.length ≤ 3000) → (linesP l).length ≤ 7000 * l.length
  | [], _ => by simp [linesP]
  | s :: l, h => by
    have ih := linesP_len l (fun q hq => h q (by simp [hq]))
    obtain ⟨h1, h2⟩ := h s (by simp)
    have := lineS_len h1
    have e : linesP (s :: l) = lineS s ++ 10 :: linesP l := by unfold linesP; simp
    rw [e, List.length_append, List.length_cons, List.length_cons]
    omega
noncomputable def gb (k : Nat) (r : List Stp × Int → Option Bool) (y : List Stp × Int) : Option Bool := p_dormouselaw37_Light.b1 k (p_dormouselaw37_Light.j0 k) r y.1 y.2
def lightL (l : List Stp) : Bool := l.all fun s => decide (s.2.2.length ≤ 3000)
theorem light_loop {k : Nat} {l : List Stp} (hn : l.length ≤ 9223372036854775807) : ∀ (m i fuel : Nat), i + m = l.length → m < fuel →
    loopC (gb k) fuel (l, (i : Int)) = some (lightL (l.drop i) && decide (l.length ≤ 30))
  | 0, i, fuel + 1, hi, _ => by
    rw [loopC_succ]
    unfold gb
    dsimp only
    unfold p_dormouselaw37_Light.b1 p_dormouselaw37_Light.j0
    rw [decide_eq_false (by omega), cond_false, List.drop_of_length_le (by omega)]
    unfold lightL
    rw [List.all_nil, Bool.true_and]
    congr 1
    rw [decide_eq_decide]
    omega
  | m + 1, i, fuel + 1, hi, hf => by
    have hx : i < l.length := by omega
    have e2 : IntKind.wrap .i64 ((i : Int) + 1) = ((i + 1 : Nat) : Int) := by rw [wrap_i64 (by omega)]; omega
    have ih := light_loop (k := k) hn m (i + 1) fuel (by omega) (by omega)
    rw [loopC_succ, List.drop_eq_getElem_cons hx]
    generalize loopC (gb k) fuel = rec at *
    unfold gb
    dsimp only
    unfold p_dormouselaw37_Light.b1
    rw [decide_eq_true (by omega), cond_true, need_yes (by omega), at_getI hx, e2]
    unfold lightL at ih ⊢
    rw [List.all_cons]
    by_cases h : l[i].2.2.length ≤ 3000
    · rw [decide_eq_false (by omega), cond_false, ih, decide_eq_true h, Bool.true_and]
    · rw [decide_eq_true (by omega), cond_true, decide_eq_false h, Bool.false_and, Bool.false_and]
theorem Light_eq {k : Nat} {l : List Stp} (hk : l.length < k) (hn : l.length ≤ 9223372036854775807) : p_dormouselaw37_Light k l = some (lightL l && decide (l.length ≤ 30)) := by
  unfold p_dormouselaw37_Light joinC
  exact light_loop hn l.length 0 k (by omega) hk
theorem linesP_snoc {a : List Stp} {s : Stp} : linesP (a ++ [s]) = linesP a ++ (lineS s ++ [10]) := by
  unfold linesP
  rw [List.map_append, List.flatten_append]
  simp
end Go.Dor.Tp
end

section
/- A LINE OF A SCRIPT READ, plain. -/
set_option linter.unusedVariables false
set_option linter.unusedSimpArgs false
namespace Go.Dor.Tp
open Go.Proofs

abbrev Cr := Int × List Int
abbrev Sc := Int × List Cr × List Stp
def sDisk : List UInt8 := [100, 105, 115, 107]
def sCrash : List UInt8 := [99, 114, 97, 115, 104]
def diskT (n : Int) : List UInt8 := [100, 105, 115, 107, 32] ++ decN n.toNat
def crashT (c : Cr) : List UInt8 := [99, 114, 97, 115, 104, 32] ++ decN c.1.toNat ++ [32] ++ hexS (bytesOf c.2)
theorem numR_nat (s : List UInt8) : ∃ m : Nat, (numR s).1 = (m : Int) ∧ m ≤ 1099511627776 := by
  rcases numR_cases s with ⟨n, h, h1, _⟩ | h
  · exact ⟨n, by rw [h], h1⟩
  · exact ⟨0, by rw [h]; rfl, by omega⟩
theorem numR_nil : (numR []).1 = 0 := by
  unfold numR numT
  dsimp only
  rw [if_neg (by rw [decN_lo (by omega)]; simp)]
def numAt (w : List (List UInt8)) (i : Nat) : Int := (numR (wAt w i)).1
theorem c1_num {k : Nat} {w : List (List UInt8)} (hk : 20 < k) (hw : ∀ i, (wAt w i).length < k ∧ (wAt w i).length < 1000000) (i : Nat) : p_tape_reader_one_c1 k (i : Int) w = some (numAt w i) := by
  unfold p_tape_reader_one_c1 numAt
  by_cases h : i < w.length
  · have e : at_ (dflt T.str) w (i : Int) = wAt w i := by
      unfold at_ wAt
      rw [Int.toNat_natCast]; rfl
    rw [decide_eq_false (by omega), cond_false, need_yes (by omega), e, Number_eq hk (hw i).1 (hw i).2]
    rfl
  · rw [decide_eq_true (by omega), cond_true]
    unfold wAt
    rw [List.getD_eq_getElem?_getD, List.getElem?_eq_none (by omega)]
    exact congrArg some numR_nil.symm
theorem disk_eq {k : Nat} {n : Nat} (hk : 20 < k) (hn : n < 9223372036854775807) : p_tape_disk k (n : Int) = some (diskT n) := by
  have hl := decN_len20 (n := n) (by omega)
  unfold p_tape_disk diskT
  rw [tdec_eq hk hn, Option.bind_some, need_yes (by omega), Int.toNat_natCast]
theorem line_eq {k : Nat} {n : Nat} {b : List Int} (hk : 20 < k) (hn : n < 9223372036854775807) (hb : b.length < k) (hb2 : b.length < 1000000) : p_tape_line k ((n : Int), b) = some (crashT ((n : Int), b)) := by
  have hl := decN_len20 (n := n) (by omega)
  have hbl : (bytesOf b).length = b.length := by simp [bytesOf]
  have hh := hexS_len (bytesOf b)
  unfold p_tape_line crashT
  dsimp only
  rw [tdec_eq hk hn, Option.bind_some, need_yes (by omega), need_yes (by simp only [List.length_append, List.length_cons, List.length_nil]; omega), cmdHex_eq (by omega) (by omega), Option.bind_some, need_yes (by simp only [List.length_append, List.length_cons, List.length_nil]; omega), Int.toNat_natCast]
theorem form_eq (b : Bool) : p_tape_form b = some (if b = true then 0 else 6) := by
  unfold p_tape_form
  cases b <;> rfl
/-! ### joined parts -/
theorem spl_cons {c : UInt8} (s : List UInt8) : ∃ y z, spl c s = y :: z := by
  cases h : spl c s with
  | nil => have := spl_len (c := c) s; rw [h] at this; simp at this
  | cons y z => exact ⟨y, z, rfl⟩
theorem spl_join {c : UInt8} : ∀ (s : List UInt8), Lib.join (spl c s) [c] = s
  | [] => by rw [spl, Lib.join_cons]; simp [Lib.joinTail]
  | x :: s => by
    have ih := spl_join (c := c) s
    obtain ⟨y, z, h⟩ := spl_cons (c := c) s
    rw [h, Lib.join_cons] at ih
    rw [spl]
    by_cases e : x = c
    · rw [if_pos e, h, Lib.join_cons]
      unfold Lib.joinTail at ih ⊢
      rw [List.map_cons, List.flatten_cons, List.nil_append, List.append_assoc, ih, e]
      rfl
    · rw [if_neg e, h]
      dsimp only
      rw [Lib.join_cons, List.cons_append, ih]
theorem join_le (l : List (List UInt8)) (sep : List UInt8) : (Lib.join l sep).length ≤ (Lib.joinTail sep l).length := by
  cases l with
  | nil => simp [Lib.join]
  | cons x r =>
    rw [Lib.join_cons]
    unfold Lib.joinTail
    rw [List.map_cons, List.flatten_cons]
    simp only [List.length_append]
    omega
theorem tail_drop (l : List (List UInt8)) (sep : List UInt8) (i : Nat) : (Lib.joinTail sep (l.drop i)).length ≤ (Lib.joinTail sep l).length := by
  have e : l = l.take i ++ l.drop i := (List.take_append_drop i l).symm
  conv => rhs; rw [e]
  unfold Lib.joinTail
  rw [List.map_append, List.flatten_append, List.length_append]
  omega
theorem join_drop (l : List (List UInt8)) (sep : List UInt8) : (Lib.join (l.drop 2) sep).length ≤ (Lib.join l sep).length := by
  cases l with
  | nil => simp
  | cons x r =>
    have h1 := join_le (r.drop 1) sep
    have h2 := tail_drop r sep 1
    rw [List.drop_succ_cons, Lib.join_cons, List.length_append]
    omega
def mask (w : List (List UInt8)) : List UInt8 := (bytR (Lib.join (w.drop 2) [32])).1
def crAt (w : List (List UInt8)) : Cr := (numAt w 1, numsOf (mask w))
theorem mask_len (t : List UInt8) : (mask (spl 32 t)).length ≤ t.length := by
  unfold mask
  have h1 := bytR_len (Lib.join ((spl 32 t).drop 2) [32])
  have h2 := join_drop (spl 32 t) [32]
  rw [spl_join] at h2
  omega
theorem drop_sub (w : List (List UInt8)) : sub_ w (Min.min ((w.length : Nat) : Int) 2) ((w.length : Nat) : Int) = w.drop 2 := by
  unfold sub_
  rw [Int.toNat_natCast, List.take_length]
  by_cases h : w.length ≤ 2
  · have e : (Min.min ((w.length : Nat) : Int) 2).toNat = w.length := by omega
    rw [e, List.drop_length, List.drop_of_length_le h]
  · have e : (Min.min ((w.length : Nat) : Int) 2).toNat = 2 := by omega
    rw [e]
noncomputable def oneR (t : List UInt8) (n a : Int) (cr : List Cr) (st : List Stp) : Int × Int × Int × List Cr × List Stp :=
  if wAt (spl 32 t) 0 = sDisk then (if a = 0 then (if diskT (numAt (spl 32 t) 1) = t then 0 else 6, numAt (spl 32 t) 1, 1, cr, st) else (15, n, a, cr, st))
  else if a = 0 then (15, n, a, cr, st)
  else if wAt (spl 32 t) 0 = sCrash then (if a = 2 then (15, n, a, cr, st) else (if crashT (crAt (spl 32 t)) = t then 0 else 6, n, a, cr ++ [crAt (spl 32 t)], st))
  else ((parseC t).2, n, 2, cr, st ++ [(parseC t).1])
set_option maxRecDepth 100000 in
theorem tb58 : Go.TypeInfo.bytes (Go.Tables.types (Go.Program.toTables Go.Proofs.Tryd.prog))[(58 : Nat)] = 32 := by kernel_rfl
set_option maxRecDepth 100000 in
theorem tb62 : Go.TypeInfo.bytes (Go.Tables.types (Go.Program.toTables Go.Proofs.Tryd.prog))[(62 : Nat)] = 56 := by kernel_rfl
theorem one_j1 {k : Nat} {t : List UInt8} {n a : Int} {cr : List Cr} {st : List Stp} (hk : 64 < k) (hlk : t.length + 1 < k) (ht : t.length < 100000) (hcr : cr.length < 1000000) (hst : st.length < 1000000) (hw0 : 0 < (spl 32 t).length) :
    p_tape_reader_one.j1 k t false n a cr st (spl 32 t) = some (if wAt (spl 32 t) 0 = sCrash then (if crashT (crAt (spl 32 t)) = t then 0 else 6, n, a, cr ++ [crAt (spl 32 t)], st) else ((parseC t).2, n, 2, cr, st ++ [(parseC t).1])) := by
  have hwl : ∀ i, (wAt (spl 32 t) i).length < k ∧ (wAt (spl 32 t) i).length < 1000000 := fun i => by have := wAt_len (c := 32) t i; omega
  have ha0 : at_ (dflt T.str) (spl 32 t) 0 = wAt (spl 32 t) 0 := by unfold at_ wAt; rfl
  have hle := spl_le (c := 32) t
  have hjl := join_drop (spl 32 t) [32]
  rw [spl_join] at hjl
  have hml := mask_len t
  obtain ⟨m, hm, hm2⟩ := numR_nat (wAt (spl 32 t) 1)
  have hnm : numAt (spl 32 t) 1 = (m : Int) := hm
  unfold p_tape_reader_one.j1
  rw [cond_false, need_yes (by omega), ha0]
  by_cases h : wAt (spl 32 t) 0 = sCrash
  · have e : (wAt (spl 32 t) 0 == [(99 : UInt8), (114 : UInt8), (97 : UInt8), (115 : UInt8), (104 : UInt8)]) = true := by rw [h]; rfl
    have hj : p_strings_Join ((spl 32 t).drop 2) [32] = some (Lib.join ((spl 32 t).drop 2) [32]) := by
      unfold p_strings_Join
      rw [need_yes (by rw [List.length_drop]; omega), need_yes (by omega)]
    have hc1 : p_tape_reader_one_c1 k 1 (spl 32 t) = some (numAt (spl 32 t) 1) := c1_num (by omega) hwl 1
    rw [e, cond_true, need_yes (by omega), drop_sub, hj, Option.bind_some, Bytes_eq (by omega) (by omega), Option.bind_some, hc1, Option.bind_some, need_yes (by unfold mask at hml; omega), tb58, need_yes (by simp only [List.length_cons, List.length_nil]; omega), if_pos h]
    have el : p_tape_line k (numAt (spl 32 t) 1, numsOf (bytR (Lib.join ((spl 32 t).drop 2) [32])).1) = some (crashT (crAt (spl 32 t))) := by
      unfold crAt mask
      rw [hnm]
      exact line_eq (by omega) (by omega) (by rw [numsOf_len]; unfold mask at hml; omega) (by rw [numsOf_len]; unfold mask at hml; omega)
    rw [el, Option.bind_some, form_eq, Option.bind_some]
    by_cases e2 : crashT (crAt (spl 32 t)) = t
    · rw [if_pos (by simpa using e2), if_pos e2]; rfl
    · rw [if_neg (by simpa using e2), if_neg e2]; rfl
  · have e : (wAt (spl 32 t) 0 == [(99 : UInt8), (114 : UInt8), (97 : UInt8), (115 : UInt8), (104 : UInt8)]) = false := by rw [beq_eq_false_iff_ne]; exact h
    rw [e, cond_false, Parse_eq hk hlk ht, Option.bind_some, tb62, need_yes (by simp only [List.length_cons, List.length_nil]; omega), if_neg h]
theorem one_eq {k : Nat} {t : List UInt8} {n a : Int} {cr : List Cr} {st : List Stp} (hk : 64 < k) (hlk : t.length + 1 < k) (ht : t.length < 100000) (hcr : cr.length < 1000000) (hst : st.length < 1000000) :
    p_tape_reader_one k t n a cr st = some (oneR t n a cr st) := by
  have hwl : ∀ i, (wAt (spl 32 t) i).length < k ∧ (wAt (spl 32 t) i).length < 1000000 := fun i => by have := wAt_len (c := 32) t i; omega
  have ha0 : at_ (dflt T.str) (spl 32 t) 0 = wAt (spl 32 t) 0 := by unfold at_ wAt; rfl
  have hw0 : 0 < (spl 32 t).length := by rw [spl_len]; omega
  obtain ⟨m, hm, hm2⟩ := numR_nat (wAt (spl 32 t) 1)
  have hnm : numAt (spl 32 t) 1 = (m : Int) := hm
  have hc1 : p_tape_reader_one_c1 k 1 (spl 32 t) = some (numAt (spl 32 t) 1) := c1_num (by omega) hwl 1
  have hj1 := one_j1 (n := n) (a := a) hk hlk ht hcr hst hw0
  have hjt : p_tape_reader_one.j1 k t true n a cr st (spl 32 t) = some (15, n, a, cr, st) := by unfold p_tape_reader_one.j1; rfl
  unfold p_tape_reader_one joinC oneR
  rw [Split_eq hlk (by omega), Option.bind_some]
  dsimp only
  rw [need_yes (by omega), ha0]
  unfold p_tape_reader_one.j0 joinC
  by_cases h : wAt (spl 32 t) 0 = sDisk
  · have e : (wAt (spl 32 t) 0 == [(100 : UInt8), (105 : UInt8), (115 : UInt8), (107 : UInt8)]) = true := by rw [h]; rfl
    rw [e, cond_true, if_pos h]
    by_cases h0 : a = 0
    · have e0 : (a == 0) = true := by simpa using h0
      have hd : p_tape_disk k (numAt (spl 32 t) 1) = some (diskT (numAt (spl 32 t) 1)) := by rw [hnm]; exact disk_eq (by omega) (by omega)
      rw [e0, cond_true, if_pos h0, hc1, Option.bind_some, hd, Option.bind_some, form_eq, Option.bind_some]
      by_cases e2 : diskT (numAt (spl 32 t) 1) = t
      · rw [if_pos (by simpa using e2), if_pos e2]
      · rw [if_neg (by simpa using e2), if_neg e2]
    · have e0 : (a == 0) = false := by simpa using h0
      rw [e0, cond_false, if_neg h0]
      dsimp only
      rw [need_yes (by omega), ha0, e, cond_true, hjt]
  · have e : (wAt (spl 32 t) 0 == [(100 : UInt8), (105 : UInt8), (115 : UInt8), (107 : UInt8)]) = false := by rw [beq_eq_false_iff_ne]; exact h
    rw [e, cond_false, if_neg h, cond_false]
    dsimp only
    rw [need_yes (by omega), ha0, e, cond_false]
    by_cases h0 : a = 0
    · have e0 : (a == 0) = true := by simpa using h0
      rw [e0, cond_true, if_pos h0, hjt]
    · have e0 : (a == 0) = false := by simpa using h0
      rw [e0, cond_false, if_neg h0, need_yes (by omega)]
      by_cases hc : wAt (spl 32 t) 0 = sCrash
      · have e3 : (wAt (spl 32 t) 0 == [(99 : UInt8), (114 : UInt8), (97 : UInt8), (115 : UInt8), (104 : UInt8)]) = true := by rw [hc]; rfl
        rw [e3, cond_true, if_pos hc]
        rw [if_pos hc] at hj1
        by_cases h2 : a = 2
        · have e4 : (a == 2) = true := by simpa using h2
          rw [e4, if_pos h2, hjt]
        · have e4 : (a == 2) = false := by simpa using h2
          rw [e4, if_neg h2, hj1]
      · have e3 : (wAt (spl 32 t) 0 == [(99 : UInt8), (114 : UInt8), (97 : UInt8), (115 : UInt8), (104 : UInt8)]) = false := by rw [beq_eq_false_iff_ne]; exact hc
        rw [if_neg hc] at hj1
        rw [e3, cond_false, if_neg hc, hj1]
end Go.Dor.Tp
end

section
/- SCRIPTS: what may be, and what a text comes to: plain. -/
set_option linter.unusedVariables false
set_option linter.unusedSimpArgs false
namespace Go.Dor.Tp
open Go.Proofs

def crOk (c : Cr) : Bool := decide (0 ≤ c.1 ∧ c.1 ≤ 1048576 ∧ c.2.length ≤ 64)
def mayT (s : Sc) : Bool := decide (4 ≤ s.1 ∧ s.1 ≤ 65536 ∧ s.2.1.length ≤ 64 ∧ s.2.2.length ≤ 4096) && (s.2.1.all crOk && s.2.2.all mayC)
theorem c1_ok (c : Cr) : p_tape_Check_c1 (c.1, c.2) = some (!crOk c) := by
  obtain ⟨a, b⟩ := c
  unfold p_tape_Check_c1 joinC p_tape_Check_c1.j0 crOk
  dsimp only
  by_cases h1 : a < 0
  · rw [decide_eq_true h1, decide_eq_false (by omega : ¬ (0 ≤ a ∧ a ≤ 1048576 ∧ b.length ≤ 64))]; rfl
  · by_cases h2 : a > 1048576
    · rw [decide_eq_false h1, decide_eq_true h2, decide_eq_false (by omega : ¬ (0 ≤ a ∧ a ≤ 1048576 ∧ b.length ≤ 64))]; rfl
    · rw [decide_eq_false h1, decide_eq_false h2, cond_false, cond_false]
      by_cases h3 : b.length ≤ 64
      · rw [decide_eq_true (by omega : 0 ≤ a ∧ a ≤ 1048576 ∧ b.length ≤ 64), decide_eq_false (by omega)]; rfl
      · rw [decide_eq_false (by omega : ¬ (0 ≤ a ∧ a ≤ 1048576 ∧ b.length ≤ 64)), decide_eq_true (by omega)]; rfl
theorem c2_ok (s : Stp) : p_tape_Check_c2 (s.1, s.2.1, s.2.2) = some (!mayC s) := by
  obtain ⟨e, v, t⟩ := s
  unfold p_tape_Check_c2
  dsimp only
  rw [Check_eq, Option.bind_some]
  cases mayC (e, v, t) <;> rfl
theorem cont1_loop {k : Nat} {l : List Cr} (hn : l.length < 1000000) : ∀ (m i fuel : Nat), i + m = l.length → m < fuel →
    ∃ z : Int, loopC (fun (r : List (Int × List Int) × Int × Int → Option Int) y => p_slices_IndexFunc_api_Crash_api_Crash.b1 k (fun _ => p_slices_IndexFunc_api_Crash_api_Crash.j0 k) r y.1 y.2.1 y.2.2) fuel (l, (l.length : Int), (i : Int)) = some z ∧ decide (z ≥ 0) = !(l.drop i).all crOk
  | 0, i, fuel + 1, hi, _ => by
    rw [loopC_succ, List.drop_of_length_le (by omega)]
    dsimp only
    unfold p_slices_IndexFunc_api_Crash_api_Crash.b1 p_slices_IndexFunc_api_Crash_api_Crash.j0
    rw [decide_eq_false (by omega), cond_false]
    exact ⟨-1, rfl, rfl⟩
  | m + 1, i, fuel + 1, hi, hf => by
    have hx : i < l.length := by omega
    have e2 : IntKind.wrap .i64 ((i : Int) + 1) = ((i + 1 : Nat) : Int) := by rw [wrap_i64 (by omega)]; omega
    obtain ⟨z, h1, h2⟩ := cont1_loop (k := k) hn m (i + 1) fuel (by omega) (by omega)
    rw [loopC_succ, List.drop_eq_getElem_cons hx]
    generalize loopC (fun (r : List (Int × List Int) × Int × Int → Option Int) y => p_slices_IndexFunc_api_Crash_api_Crash.b1 k (fun _ => p_slices_IndexFunc_api_Crash_api_Crash.j0 k) r y.1 y.2.1 y.2.2) fuel = rec at *
    dsimp only
    unfold p_slices_IndexFunc_api_Crash_api_Crash.b1
    rw [decide_eq_true (by omega), cond_true, need_yes (by omega), at_getI hx, c1_ok, Option.bind_some, e2, List.all_cons]
    cases hc : crOk l[i] with
    | true =>
      rw [Bool.not_true, cond_false, Bool.true_and]
      exact ⟨z, h1, h2⟩
    | false =>
      rw [Bool.not_false, cond_true, Bool.false_and]
      exact ⟨i, rfl, by rw [decide_eq_true (by omega)]; rfl⟩
theorem cont1_eq {k : Nat} {l : List Cr} (hk : l.length < k) (hn : l.length < 1000000) : p_slices_ContainsFunc_api_Crash_api_Crash k l = some (!l.all crOk) := by
  obtain ⟨z, h1, h2⟩ := cont1_loop (k := k) hn l.length 0 k (by omega) hk
  unfold p_slices_ContainsFunc_api_Crash_api_Crash p_slices_IndexFunc_api_Crash_api_Crash joinC
  refine (congrArg (fun o => Option.bind o fun t996 => some (decide (t996 ≥ (0 : Int)))) h1).trans ?_
  rw [Option.bind_some, h2, List.drop_zero]
theorem cont2_loop {k : Nat} {l : List Stp} (hn : l.length < 1000000) : ∀ (m i fuel : Nat), i + m = l.length → m < fuel →
    ∃ z : Int, loopC (fun (r : List Stp × Int × Int → Option Int) y => p_slices_IndexFunc_api_Step_api_Step.b1 k (fun _ => p_slices_IndexFunc_api_Step_api_Step.j0 k) r y.1 y.2.1 y.2.2) fuel (l, (l.length : Int), (i : Int)) = some z ∧ decide (z ≥ 0) = !(l.drop i).all mayC
  | 0, i, fuel + 1, hi, _ => by
    rw [loopC_succ, List.drop_of_length_le (by omega)]
    dsimp only
    unfold p_slices_IndexFunc_api_Step_api_Step.b1 p_slices_IndexFunc_api_Step_api_Step.j0
    rw [decide_eq_false (by omega), cond_false]
    exact ⟨-1, rfl, rfl⟩
  | m + 1, i, fuel + 1, hi, hf => by
    have hx : i < l.length := by omega
    have e2 : IntKind.wrap .i64 ((i : Int) + 1) = ((i + 1 : Nat) : Int) := by rw [wrap_i64 (by omega)]; omega
    obtain ⟨z, h1, h2⟩ := cont2_loop (k := k) hn m (i + 1) fuel (by omega) (by omega)
    rw [loopC_succ, List.drop_eq_getElem_cons hx]
    generalize loopC (fun (r : List Stp × Int × Int → Option Int) y => p_slices_IndexFunc_api_Step_api_Step.b1 k (fun _ => p_slices_IndexFunc_api_Step_api_Step.j0 k) r y.1 y.2.1 y.2.2) fuel = rec at *
    dsimp only
    unfold p_slices_IndexFunc_api_Step_api_Step.b1
    rw [decide_eq_true (by omega), cond_true, need_yes (by omega), at_getI hx, c2_ok, Option.bind_some, e2, List.all_cons]
    cases hc : mayC l[i] with
    | true =>
      rw [Bool.not_true, cond_false, Bool.true_and]
      exact ⟨z, h1, h2⟩
    | false =>
      rw [Bool.not_false, cond_true, Bool.false_and]
      exact ⟨i, rfl, by rw [decide_eq_true (by omega)]; rfl⟩
theorem cont2_eq {k : Nat} {l : List Stp} (hk : l.length < k) (hn : l.length < 1000000) : p_slices_ContainsFunc_api_Step_api_Step k l = some (!l.all mayC) := by
  obtain ⟨z, h1, h2⟩ := cont2_loop (k := k) hn l.length 0 k (by omega) hk
  unfold p_slices_ContainsFunc_api_Step_api_Step p_slices_IndexFunc_api_Step_api_Step joinC
  refine (congrArg (fun o => Option.bind o fun t996 => some (decide (t996 ≥ (0 : Int)))) h1).trans ?_
  rw [Option.bind_some, h2, List.drop_zero]
theorem TCheck_eq {k : Nat} {s : Sc} (hk : s.2.1.length < k ∧ s.2.2.length < k) (hn : s.2.1.length < 1000000 ∧ s.2.2.length < 1000000) : p_tape_Check k (s.1, s.2.1, s.2.2) = some (if mayT s = true then 0 else 3) := by
  obtain ⟨n, cr, st⟩ := s
  dsimp only at hk hn
  unfold p_tape_Check joinC p_tape_Check.j0 mayT
  dsimp only
  rw [cont1_eq hk.1 hn.1, Option.bind_some, cont2_eq hk.2 hn.2, Option.bind_some]
  by_cases h1 : n < 4
  · rw [decide_eq_true h1, decide_eq_false (by omega : ¬ (4 ≤ n ∧ n ≤ 65536 ∧ cr.length ≤ 64 ∧ st.length ≤ 4096))]; rfl
  · rw [decide_eq_false h1, cond_false]
    by_cases h2 : n > 65536
    · rw [decide_eq_true h2, decide_eq_false (by omega : ¬ (4 ≤ n ∧ n ≤ 65536 ∧ cr.length ≤ 64 ∧ st.length ≤ 4096))]; rfl
    · rw [decide_eq_false h2, cond_false]
      by_cases h3 : (cr.length : Int) > 64
      · rw [decide_eq_true h3, decide_eq_false (by omega : ¬ (4 ≤ n ∧ n ≤ 65536 ∧ cr.length ≤ 64 ∧ st.length ≤ 4096))]; rfl
      · rw [decide_eq_false h3, cond_false]
        cases hc : cr.all crOk with
        | false => simp
        | true =>
          rw [Bool.not_true, cond_false]
          by_cases h4 : (st.length : Int) > 4096
          · rw [decide_eq_true h4, decide_eq_false (by omega : ¬ (4 ≤ n ∧ n ≤ 65536 ∧ cr.length ≤ 64 ∧ st.length ≤ 4096))]; rfl
          · rw [decide_eq_false h4, cond_false, decide_eq_true (by omega : 4 ≤ n ∧ n ≤ 65536 ∧ cr.length ≤ 64 ∧ st.length ≤ 4096)]
            cases hs : st.all mayC <;> rfl
/-! ### the document's -/
noncomputable def mb3 (k : Nat) (r : Int × Sc → Option Bool) (y : Int × Sc) : Option Bool := p_dormouseref40_May.b3 k (fun _ => p_dormouseref40_May.j2 k) r y.1 y.2
theorem rmay3 {k : Nat} {s : Sc} (hn : s.2.2.length < 1000000) : ∀ (m i fuel : Nat), i + m = s.2.2.length → m < fuel → loopC (mb3 k) fuel ((i : Int), s) = some ((s.2.2.drop i).all mayC)
  | 0, i, fuel + 1, hi, _ => by
    rw [loopC_succ, List.drop_of_length_le (by omega)]
    unfold mb3
    dsimp only
    unfold p_dormouseref40_May.b3 p_dormouseref40_May.j2
    rw [decide_eq_false (by omega), cond_false]
    rfl
  | m + 1, i, fuel + 1, hi, hf => by
    have hx : i < s.2.2.length := by omega
    have e2 : IntKind.wrap .i64 ((i : Int) + 1) = ((i + 1 : Nat) : Int) := by rw [wrap_i64 (by omega)]; omega
    have ih := rmay3 (k := k) hn m (i + 1) fuel (by omega) (by omega)
    rw [loopC_succ, List.drop_eq_getElem_cons hx]
    generalize loopC (mb3 k) fuel = rec at *
    unfold mb3
    dsimp only
    unfold p_dormouseref40_May.b3
    rw [decide_eq_true (by omega), cond_true, need_yes (by omega), at_getI hx, May_eq, Option.bind_some, e2, List.all_cons]
    cases mayC s.2.2[i] with
    | true => rw [Bool.not_true, cond_false, Bool.true_and]; exact ih
    | false => rfl
theorem rmay_j1 {k : Nat} {s : Sc} (hk : s.2.2.length < k) (hn : s.2.2.length < 1000000) : p_dormouseref40_May.j1 k s = some (s.2.2.all mayC) := by
  unfold p_dormouseref40_May.j1 joinC
  have := rmay3 (k := k) hn s.2.2.length 0 k (by omega) hk
  rw [List.drop_zero] at this
  exact this
noncomputable def mb4 (k : Nat) (r : Int × Sc → Option Bool) (y : Int × Sc) : Option Bool := p_dormouseref40_May.b4 k (p_dormouseref40_May.j1 k) r y.1 y.2
theorem rmay4 {k : Nat} {s : Sc} (hk : s.2.2.length < k) (hn : s.2.1.length < 1000000 ∧ s.2.2.length < 1000000) : ∀ (m i fuel : Nat), i + m = s.2.1.length → m < fuel → loopC (mb4 k) fuel ((i : Int), s) = some ((s.2.1.drop i).all crOk && s.2.2.all mayC)
  | 0, i, fuel + 1, hi, _ => by
    rw [loopC_succ, List.drop_of_length_le (by omega)]
    unfold mb4
    dsimp only
    unfold p_dormouseref40_May.b4
    rw [decide_eq_false (by omega), cond_false]
    exact (rmay_j1 hk hn.2).trans (by rw [List.all_nil, Bool.true_and])
  | m + 1, i, fuel + 1, hi, hf => by
    have hx : i < s.2.1.length := by omega
    have e2 : IntKind.wrap .i64 ((i : Int) + 1) = ((i + 1 : Nat) : Int) := by rw [wrap_i64 (by omega)]; omega
    have ih := rmay4 (k := k) hk hn m (i + 1) fuel (by omega) (by omega)
    rw [loopC_succ, List.drop_eq_getElem_cons hx]
    generalize loopC (mb4 k) fuel = rec at *
    have h5 : ∀ b : Bool, p_dormouseref40_May.j5 k rec (i : Int) b s = if b = true then some false else some ((s.2.1.drop (i + 1)).all crOk && s.2.2.all mayC) := by
      intro b
      unfold p_dormouseref40_May.j5
      cases b with
      | true => rfl
      | false => rw [cond_false, e2, if_neg (by simp)]; exact ih
    unfold mb4
    dsimp only
    unfold p_dormouseref40_May.b4 joinC
    dsimp only
    rw [decide_eq_true (by omega), cond_true, need_yes (by omega), at_getI hx, List.all_cons]
    have h5' : ∀ b : Bool, p_dormouseref40_May.j5 k rec (i : Int) b (s.1, s.2.1, s.2.2) = if b = true then some false else some ((s.2.1.drop (i + 1)).all crOk && s.2.2.all mayC) := h5
    rw [h5', h5']
    unfold crOk
    generalize s.2.1[i] = c
    by_cases h1 : c.1 < 0
    · rw [decide_eq_true h1, decide_eq_false (by omega : ¬ (0 ≤ c.1 ∧ c.1 ≤ 1048576 ∧ c.2.length ≤ 64))]; rfl
    · rw [decide_eq_false h1, cond_false]
      by_cases h2 : c.1 > 1048576
      · rw [decide_eq_true h2, decide_eq_false (by omega : ¬ (0 ≤ c.1 ∧ c.1 ≤ 1048576 ∧ c.2.length ≤ 64))]; rfl
      · rw [decide_eq_false h2, cond_false]
        by_cases h3 : c.2.length ≤ 64
        · rw [decide_eq_true (by omega : 0 ≤ c.1 ∧ c.1 ≤ 1048576 ∧ c.2.length ≤ 64), decide_eq_false (by omega)]; rfl
        · rw [decide_eq_false (by omega : ¬ (0 ≤ c.1 ∧ c.1 ≤ 1048576 ∧ c.2.length ≤ 64)), decide_eq_true (by omega)]; rfl
end Go.Dor.Tp
end

section
/- THE LAW OF THE SCRIPT OF ANY TEXT, plain. -/
set_option linter.unusedVariables false
set_option linter.unusedSimpArgs false
namespace Go.Dor.Tp
open Go.Proofs

theorem RMay_eq {k : Nat} {s : Sc} (hk : s.2.1.length < k ∧ s.2.2.length < k) (hn : s.2.1.length < 1000000 ∧ s.2.2.length < 1000000) : p_dormouseref40_May k (s.1, s.2.1, s.2.2) = some (mayT s) := by
  have h0 : p_dormouseref40_May.j0 k false s = some (s.2.1.all crOk && s.2.2.all mayC) := by
    unfold p_dormouseref40_May.j0 joinC
    rw [cond_false]
    have := rmay4 (k := k) hk.2 hn s.2.1.length 0 k (by omega) hk.1
    rw [List.drop_zero] at this
    exact this
  have ht : p_dormouseref40_May.j0 k true s = some false := by unfold p_dormouseref40_May.j0; rfl
  obtain ⟨n, cr, st⟩ := s
  unfold p_dormouseref40_May joinC mayT
  dsimp only at h0 ht ⊢
  by_cases h1 : n < 4
  · rw [decide_eq_true h1, decide_eq_false (by omega : ¬ (4 ≤ n ∧ n ≤ 65536 ∧ cr.length ≤ 64 ∧ st.length ≤ 4096))]; exact ht
  · rw [decide_eq_false h1, cond_false]
    by_cases h2 : n > 65536
    · rw [decide_eq_true h2, decide_eq_false (by omega : ¬ (4 ≤ n ∧ n ≤ 65536 ∧ cr.length ≤ 64 ∧ st.length ≤ 4096))]; exact ht
    · rw [decide_eq_false h2, cond_false]
      by_cases h3 : (cr.length : Int) > 64
      · rw [decide_eq_true h3, decide_eq_false (by omega : ¬ (4 ≤ n ∧ n ≤ 65536 ∧ cr.length ≤ 64 ∧ st.length ≤ 4096))]; exact ht
      · rw [decide_eq_false h3, cond_false]
        by_cases h4 : (st.length : Int) > 4096
        · rw [decide_eq_true h4, decide_eq_false (by omega : ¬ (4 ≤ n ∧ n ≤ 65536 ∧ cr.length ≤ 64 ∧ st.length ≤ 4096))]; exact ht
        · rw [decide_eq_false h4, decide_eq_true (by omega : 4 ≤ n ∧ n ≤ 65536 ∧ cr.length ≤ 64 ∧ st.length ≤ 4096), Bool.true_and]; exact h0
/-! ### lines that are not empty -/
def keepL (ls : List (List UInt8)) : List (List UInt8) := ls.filter fun w => !w.isEmpty
def flatT (w : List (List UInt8)) : List UInt8 := (w.map fun x => x ++ [10]).flatten
theorem keep_nil : keepL [] = [] := rfl
theorem keep_cons (w : List UInt8) (ls : List (List UInt8)) : keepL (w :: ls) = if w = [] then keepL ls else w :: keepL ls := by
  unfold keepL
  cases w <;> simp
theorem fil_mem : ∀ (ls : List (List UInt8)) (i : Nat) (x : List UInt8 × Nat), x ∈ filC ls i → x.1 ∈ ls
  | [], _, x, h => by cases h
  | w :: ls, i, x, h => by
    rw [filC] at h
    split at h
    · exact List.mem_cons_of_mem _ (fil_mem ls _ x h)
    · rcases List.mem_cons.1 h with rfl | h
      · simp
      · exact List.mem_cons_of_mem _ (fil_mem ls _ x h)
theorem fil_len : ∀ (ls : List (List UInt8)) (i : Nat), (filC ls i).length ≤ ls.length
  | [], _ => by simp [filC]
  | w :: ls, i => by
    have := fil_len ls (i + 1)
    rw [filC]
    split <;> simp only [List.length_cons] <;> omega
theorem fil_keep : ∀ (ls : List (List UInt8)) (i : Nat), (filC ls i).map (·.1) = keepL ls
  | [], _ => rfl
  | w :: ls, i => by
    rw [filC, keep_cons]
    split
    · exact fil_keep ls _
    · rw [List.map_cons, fil_keep ls]
theorem flatT_app (a b : List (List UInt8)) : flatT (a ++ b) = flatT a ++ flatT b := by simp [flatT]
theorem flatT_cons (x : List UInt8) (r : List (List UInt8)) : flatT (x :: r) = x ++ [10] ++ flatT r := by simp [flatT]
theorem flatT_one (a : List UInt8) : flatT [a] = a ++ [10] := by simp [flatT]
theorem drop_loop {k B : Nat} {l : List (List UInt8)} (hB : B < 1000000) (hn : l.length < 1000000) (hl : ∀ w ∈ l, w.length < B) : ∀ (m i fuel : Nat) (acc : List UInt8), i + m = l.length → m < fuel → acc.length ≤ B * i →
    loopC (fun (r : List UInt8 × Int × List (List UInt8) → Option (List UInt8)) y => p_dormouseref40_Drop.b1 k (p_dormouseref40_Drop.j0 k) r y.1 y.2.1 y.2.2) fuel (acc, (i : Int), l) = some (acc ++ flatT (l.drop i))
  | 0, i, fuel + 1, acc, hi, _, ha => by
    rw [loopC_succ, List.drop_of_length_le (by omega)]
    dsimp only
    unfold p_dormouseref40_Drop.b1 p_dormouseref40_Drop.j0
    rw [decide_eq_false (by omega), cond_false]
    simp [flatT]
  | m + 1, i, fuel + 1, acc, hi, hf, ha => by
    have hx : i < l.length := by omega
    have e2 : IntKind.wrap .i64 ((i : Int) + 1) = ((i + 1 : Nat) : Int) := by rw [wrap_i64 (by omega)]; omega
    have ih := fun a h => drop_loop (k := k) hB hn hl m (i + 1) fuel a (by omega) (by omega) h
    have hw := hl _ (List.getElem_mem hx)
    have hm1 : B * i ≤ B * 1000000 := Nat.mul_le_mul_left _ (by omega)
    have hm2 : B * 1000000 ≤ 1000000 * 1000000 := Nat.mul_le_mul_right _ (by omega)
    have hm3 : B * (i + 1) = B * i + B := Nat.mul_succ _ _
    rw [loopC_succ, List.drop_eq_getElem_cons hx]
    generalize loopC (fun (r : List UInt8 × Int × List (List UInt8) → Option (List UInt8)) y => p_dormouseref40_Drop.b1 k (p_dormouseref40_Drop.j0 k) r y.1 y.2.1 y.2.2) fuel = rec at *
    dsimp only
    unfold p_dormouseref40_Drop.b1
    rw [decide_eq_true (by omega), cond_true, need_yes (by omega), at_getI hx, need_yes (by omega), need_yes (by rw [List.length_append]; omega), e2, ih _ (by rw [List.length_append, List.length_append]; simp only [List.length_cons, List.length_nil]; omega), flatT_cons]
    simp only [List.append_assoc]
theorem Drop_eq {k : Nat} {t : List UInt8} (hk : t.length + 2 < k) (ht : t.length < 100000) : p_dormouseref40_Drop k t = some (flatT (keepL (spl 10 t))) := by
  have hfl := fil_len (spl 10 t) 0
  have hsl := spl_le (c := 10) t
  unfold p_dormouseref40_Drop joinC
  rw [Lines_eq (by omega) ht, Option.bind_some]
  have hlen : ((filC (spl 10 t) 0).map (·.1)).length = (filC (spl 10 t) 0).length := by simp
  have := drop_loop (k := k) (B := 100000) (l := (filC (spl 10 t) 0).map (·.1)) (by omega) (by omega) (fun w hw => by
    obtain ⟨x, hx, rfl⟩ := List.mem_map.1 hw
    have := spl_mem_len t _ (fil_mem _ _ x hx)
    omega) _ 0 k [] (by omega : 0 + ((filC (spl 10 t) 0).map (·.1)).length = _) (by omega) (by simp)
  rw [List.drop_zero, List.nil_append, fil_keep] at this
  rw [fil_keep]
  exact this
/-! ### a script read -/
noncomputable def parL : List (List UInt8) → Nat → Int → Int → List Cr → List Stp → Sc × Int × Int
  | [], _, n, a, cr, st => if a = 0 then ((0, [], []), 0, 5) else if mayT (n, cr, st) = true then ((n, cr, st), 0, 0) else ((0, [], []), 0, 3)
  | w :: ls, i, n, a, cr, st => if w = [] then parL ls (i + 1) n a cr st else if (oneR w n a cr st).1 = 0 then parL ls (i + 1) (oneR w n a cr st).2.1 (oneR w n a cr st).2.2.1 (oneR w n a cr st).2.2.2.1 (oneR w n a cr st).2.2.2.2 else ((0, [], []), ((i + 1 : Nat) : Int), (oneR w n a cr st).1)
theorem oneR_len (w : List UInt8) (n a : Int) (cr : List Cr) (st : List Stp) : (oneR w n a cr st).2.2.2.1.length ≤ cr.length + 1 ∧ (oneR w n a cr st).2.2.2.2.length ≤ st.length + 1 := by
  unfold oneR
  split
  · split <;> exact ⟨by dsimp only; omega, by dsimp only; omega⟩
  · split
    · exact ⟨by dsimp only; omega, by dsimp only; omega⟩
    · split
      · split
        · exact ⟨by dsimp only; omega, by dsimp only; omega⟩
        · exact ⟨by simp, by dsimp only; omega⟩
      · exact ⟨by dsimp only; omega, by simp⟩
abbrev PS := List (List UInt8) × Int × Int × Int × Int × Int × List Cr × List Stp × List Cr × List Stp
noncomputable def pj0 (k : Nat) (y : Int × Int × Int × List Cr × List Stp × List Cr × List Stp) : Option (Sc × Int × Int) := p_tape_Parse.j0 k y.1 y.2.1 y.2.2.1 y.2.2.2.1 y.2.2.2.2.1 y.2.2.2.2.2.1 y.2.2.2.2.2.2
noncomputable def pb1 (k : Nat) (r : PS → Option (Sc × Int × Int)) (y : PS) : Option (Sc × Int × Int) := p_tape_Parse.b1 k (pj0 k) r y.1 y.2.1 y.2.2.1 y.2.2.2.1 y.2.2.2.2.1 y.2.2.2.2.2.1 y.2.2.2.2.2.2.1 y.2.2.2.2.2.2.2.1 y.2.2.2.2.2.2.2.2.1 y.2.2.2.2.2.2.2.2.2
theorem par_loop {k : Nat} {ls : List (List UInt8)} {z : Int} (hk : 64 < k) (hkl : ls.length + 1 < k) (hn : ls.length < 100000) (hl : ∀ w ∈ ls, w.length + 1 < k ∧ w.length < 100000) : ∀ (m i fuel : Nat) (n a : Int) (cr : List Cr) (st : List Stp), i + m = ls.length → m < fuel → cr.length ≤ i → st.length ≤ i →
    loopC (pb1 k) fuel (ls, (ls.length : Int), (i : Int), z, n, a, [], [], cr, st) = some (parL (ls.drop i) i n a cr st)
  | 0, i, fuel + 1, n, a, cr, st, hi, _, hcr, hst => by
    rw [loopC_succ, List.drop_of_length_le (by omega), parL]
    unfold pb1
    dsimp only
    unfold p_tape_Parse.b1
    rw [decide_eq_false (by omega), cond_false]
    unfold pj0
    dsimp only
    unfold p_tape_Parse.j0
    by_cases h0 : a = 0
    · have e0 : (a == 0) = true := by simpa using h0
      rw [e0, cond_true, if_pos h0]
    · have e0 : (a == 0) = false := by simpa using h0
      have hch := TCheck_eq (k := k) (s := (n, cr, st)) ⟨by dsimp only; omega, by dsimp only; omega⟩ ⟨by dsimp only; omega, by dsimp only; omega⟩
      dsimp only at hch
      rw [e0, cond_false, if_neg h0, hch, Option.bind_some]
      by_cases hm : mayT (n, cr, st) = true
      · have e1 : ((0 : Int) != 0) = false := rfl
        rw [if_pos hm, if_pos hm, e1, cond_false]
      · have e1 : ((3 : Int) != 0) = true := rfl
        rw [if_neg hm, if_neg hm, e1, cond_true]
  | m + 1, i, fuel + 1, n, a, cr, st, hi, hf, hcr, hst => by
    have hx : i < ls.length := by omega
    have e2 : IntKind.wrap .i64 ((i : Int) + 1) = ((i + 1 : Nat) : Int) := by rw [wrap_i64 (by omega)]; omega
    obtain ⟨h1, h2⟩ := hl _ (List.getElem_mem hx)
    have ih := fun n a cr st h3 h4 => par_loop (z := z) hk hkl hn hl m (i + 1) fuel n a cr st (by omega) (by omega) h3 h4
    have hol := oneR_len ls[i] n a cr st
    rw [loopC_succ, List.drop_eq_getElem_cons hx, parL]
    generalize loopC (pb1 k) fuel = rec at *
    unfold pb1
    dsimp only
    unfold p_tape_Parse.b1 joinC p_tape_Parse.j2
    dsimp only
    rw [decide_eq_true (by omega), cond_true, need_yes (by omega), at_getI hx, e2]
    by_cases e : ls[i] = []
    · have e' : (ls[i] == []) = true := by simpa using e
      rw [if_pos e, e', cond_true, ih _ _ _ _ (by omega) (by omega)]
    · have e' : (ls[i] == []) = false := by simpa using e
      rw [if_neg e, e', cond_false, one_eq hk h1 h2 (by omega) (by omega), Option.bind_some]
      by_cases e0 : (oneR ls[i] n a cr st).1 = 0
      · have e3 : ((oneR ls[i] n a cr st).1 != 0) = false := by simp [e0]
        rw [if_pos e0, e3, cond_false, ih _ _ _ _ (by omega) (by omega)]
      · have e3 : ((oneR ls[i] n a cr st).1 != 0) = true := by simpa using e0
        rw [if_neg e0, e3, cond_true]
theorem TParse_eq {k : Nat} {t : List UInt8} (hk : 64 < k) (hkl : t.length + 2 < k) (ht : t.length < 99999) : p_tape_Parse k t = some (parL (spl 10 t) 0 0 0 [] []) := by
  have hsl := spl_le (c := 10) t
  unfold p_tape_Parse joinC
  dsimp only
  rw [Split_eq (by omega) (by omega), Option.bind_some]
  have := par_loop (k := k) (ls := spl 10 t) (z := 0) hk (by omega) (by omega) (fun w hw => by have := spl_mem_len t w hw; omega) (spl 10 t).length 0 k 0 0 [] [] (by omega) (by omega) (by simp) (by simp)
  rw [List.drop_zero] at this
  exact this
end Go.Dor.Tp
end

section
/- THE LAW OF THE SCRIPT OF ANY TEXT, its end, plain. -/
set_option linter.unusedVariables false
set_option linter.unusedSimpArgs false
namespace Go.Dor.Tp
open Go.Proofs

set_option maxRecDepth 100000 in
theorem awake40b : p_dormouselaw40_awake 10000 = some true := by kernel_rfl
set_option maxRecDepth 100000 in
theorem same_zero : p_dormouseref40_Same 10000 ((0 : Int), [], []) ((0 : Int), [], []) = some true := by kernel_rfl
def crT (cr : List Cr) : List UInt8 := (cr.map fun c => crashT c ++ [10]).flatten
def textT (s : Sc) : List UInt8 := diskT s.1 ++ [10] ++ crT s.2.1 ++ linesP s.2.2
theorem crT_snoc {a : List Cr} {c : Cr} : crT (a ++ [c]) = crT a ++ (crashT c ++ [10]) := by
  unfold crT
  rw [List.map_append, List.flatten_append]
  simp
theorem crT_cons {a : List Cr} {c : Cr} : crT (c :: a) = (crashT c ++ [10]) ++ crT a := by
  unfold crT
  rw [List.map_cons, List.flatten_cons]
theorem linesP_cons {a : List Stp} {s : Stp} : linesP (s :: a) = (lineS s ++ [10]) ++ linesP a := by
  unfold linesP
  rw [List.map_cons, List.flatten_cons]
noncomputable def txb2 (k : Nat) (r : List UInt8 × Int × Sc → Option (List UInt8)) (y : List UInt8 × Int × Sc) : Option (List UInt8) := p_dormouseref40_Text.b2 k (p_dormouseref40_Text.j1 k) r y.1 y.2.1 y.2.2
theorem rtext2 {k : Nat} {s : Sc} (hk : 64 < k) (hn : s.2.2.length ≤ 4096) (hs : ∀ x ∈ s.2.2, okS x ∧ mayC x = true ∧ x.2.2.length < k ∧ x.2.2.length < 100000) : ∀ (m i fuel : Nat) (acc : List UInt8), i + m = s.2.2.length → m < fuel → acc.length ≤ 300000 * (i + 1) →
    loopC (txb2 k) fuel (acc, (i : Int), s) = some (acc ++ linesP (s.2.2.drop i))
  | 0, i, fuel + 1, acc, hi, _, ha => by
    rw [loopC_succ, List.drop_of_length_le (by omega)]
    unfold txb2
    dsimp only
    unfold p_dormouseref40_Text.b2 p_dormouseref40_Text.j1
    rw [decide_eq_false (by omega), cond_false]
    simp [linesP]
  | m + 1, i, fuel + 1, acc, hi, hf, ha => by
    have hx : i < s.2.2.length := by omega
    have e2 : IntKind.wrap .i64 ((i : Int) + 1) = ((i + 1 : Nat) : Int) := by rw [wrap_i64 (by omega)]; omega
    obtain ⟨h1, h2, h3, h4⟩ := hs _ (List.getElem_mem hx)
    have hll := lineS_len h1
    have ih := fun a h => rtext2 hk hn hs m (i + 1) fuel a (by omega) (by omega) h
    rw [loopC_succ, List.drop_eq_getElem_cons hx, linesP_cons]
    generalize loopC (txb2 k) fuel = rec at *
    unfold txb2
    dsimp only
    unfold p_dormouseref40_Text.b2
    rw [decide_eq_true (by omega), cond_true, need_yes (by omega), at_getI hx, LineS_eq (by omega) h1 h3 h4 h2, Option.bind_some, need_yes (by omega), need_yes (by rw [List.length_append]; omega), e2]
    refine (ih _ (by rw [List.length_append, List.length_append]; simp only [List.length_cons, List.length_nil]; omega)).trans ?_
    simp
noncomputable def txb3 (k : Nat) (r : List UInt8 × Int × Sc → Option (List UInt8)) (y : List UInt8 × Int × Sc) : Option (List UInt8) := p_dormouseref40_Text.b3 k (fun y => p_dormouseref40_Text.j0 k y.1 y.2) r y.1 y.2.1 y.2.2
theorem rtext3 {k : Nat} {s : Sc} (hk : 64 < k) (hkl : s.2.2.length < k) (hc : s.2.1.length ≤ 64) (hn : s.2.2.length ≤ 4096) (hcr : ∀ c ∈ s.2.1, crOk c = true) (hs : ∀ x ∈ s.2.2, okS x ∧ mayC x = true ∧ x.2.2.length < k ∧ x.2.2.length < 100000) : ∀ (m i fuel : Nat) (acc : List UInt8), i + m = s.2.1.length → m < fuel → acc.length ≤ 300 * (i + 1) →
    loopC (txb3 k) fuel (acc, (i : Int), s) = some (acc ++ (crT (s.2.1.drop i) ++ linesP s.2.2))
  | 0, i, fuel + 1, acc, hi, _, ha => by
    rw [loopC_succ, List.drop_of_length_le (by omega)]
    unfold txb3
    dsimp only
    unfold p_dormouseref40_Text.b3
    rw [decide_eq_false (by omega), cond_false]
    dsimp only
    unfold p_dormouseref40_Text.j0 joinC
    have := rtext2 (k := k) (s := s) hk hn hs s.2.2.length 0 k acc (by omega) hkl (by omega)
    rw [List.drop_zero] at this
    exact this.trans (by simp [crT])
  | m + 1, i, fuel + 1, acc, hi, hf, ha => by
    have hx : i < s.2.1.length := by omega
    have e2 : IntKind.wrap .i64 ((i : Int) + 1) = ((i + 1 : Nat) : Int) := by rw [wrap_i64 (by omega)]; omega
    have h1 := hcr _ (List.getElem_mem hx)
    have ih := fun a h => rtext3 hk hkl hc hn hcr hs m (i + 1) fuel a (by omega) (by omega) h
    rw [loopC_succ, List.drop_eq_getElem_cons hx, crT_cons]
    generalize loopC (txb3 k) fuel = rec at *
    unfold txb3
    dsimp only
    unfold p_dormouseref40_Text.b3
    rw [at_getI hx]
    generalize s.2.1[i] = c at *
    obtain ⟨z, b⟩ := c
    simp only [crOk, decide_eq_true_eq] at h1
    obtain ⟨q, rfl⟩ : ∃ q : Nat, z = (q : Int) := ⟨z.toNat, by omega⟩
    have ew : IntKind.wrap .u64 (q : Int) = (q : Int) := by rw [wrap_u64]; omega
    have hdl := decN_len20 (n := q) (by omega)
    have hbl : (bytesOf b).length = b.length := by simp [bytesOf]
    have hh := hexS_len (bytesOf b)
    dsimp only
    rw [decide_eq_true (by omega), cond_true, need_yes (by omega), need_yes (by omega), ew, Digits20 (by omega) (by omega), Option.bind_some, need_yes (by simp only [List.length_append, List.length_cons, List.length_nil]; omega), need_yes (by simp only [List.length_append, List.length_cons, List.length_nil]; omega), need_yes (by omega),
      ref38Hex_eq (by omega) (by omega), Option.bind_some, need_yes (by simp only [List.length_append, List.length_cons, List.length_nil]; omega), need_yes (by simp only [List.length_append, List.length_cons, List.length_nil]; omega), e2]
    refine (ih _ (by simp only [List.length_append, List.length_cons, List.length_nil]; omega)).trans ?_
    unfold crashT
    rw [Int.toNat_natCast]
    simp
theorem RText_eq {k : Nat} {s : Sc} (hk : 64 < k) (hkl : s.2.2.length < k) (hm : mayT s = true) (hs : ∀ x ∈ s.2.2, okS x ∧ mayC x = true ∧ x.2.2.length < k ∧ x.2.2.length < 100000) : p_dormouseref40_Text k (s.1, s.2.1, s.2.2) = some (textT s) := by
  simp only [mayT, Bool.and_eq_true, decide_eq_true_eq, List.all_eq_true] at hm
  obtain ⟨⟨h1, h2, h3, h4⟩, h5, h6⟩ := hm
  obtain ⟨n, cr, st⟩ := s
  dsimp only at h1 h2 h3 h4 h5 h6 hs hkl
  obtain ⟨q, rfl⟩ : ∃ q : Nat, n = (q : Int) := ⟨n.toNat, by omega⟩
  have ew : IntKind.wrap .u64 (q : Int) = (q : Int) := by rw [wrap_u64]; omega
  have hdl := decN_len20 (n := q) (by omega)
  unfold p_dormouseref40_Text joinC
  dsimp only
  rw [ew, Digits20 (by omega) (by omega), Option.bind_some, need_yes (by omega), need_yes (by simp only [List.length_append, List.length_cons, List.length_nil]; omega)]
  have := rtext3 (k := k) (s := ((q : Int), cr, st)) hk hkl h3 h4 h5 hs cr.length 0 k ([100, 105, 115, 107, 32] ++ decN q ++ [10]) (by dsimp only; omega) (by omega) (by simp only [List.length_append, List.length_cons, List.length_nil]; omega)
  rw [List.drop_zero] at this
  refine Eq.trans this ?_
  unfold textT diskT
  dsimp only
  rw [Int.toNat_natCast]
  simp
/-! ### what a text comes to -/
def Good (B : Nat) (w : List (List UInt8)) (n a : Int) (cr : List Cr) (st : List Stp) : Prop :=
  (a = 0 ∧ w = [] ∧ cr = [] ∧ st = []) ∨ (((a = 1 ∧ st = []) ∨ a = 2) ∧ w ≠ [] ∧ flatT w = textT (n, cr, st) ∧ ∀ x ∈ st, okS x ∧ mayC x = true ∧ x.2.2.length ≤ B)
theorem oneR_err (t : List UInt8) (n a : Int) (cr : List Cr) (st : List Stp) : (oneR t n a cr st).1 = 0 ∨ (oneR t n a cr st).1 = 6 ∨ (oneR t n a cr st).1 = 15 := by
  unfold oneR
  split
  · split
    · dsimp only; split <;> simp
    · simp
  · split
    · simp
    · split
      · split
        · simp
        · dsimp only; split <;> simp
      · rcases parseC_cases t with ⟨_, h⟩ | ⟨_, h⟩ | ⟨_, e, d, x, h, _⟩ <;> rw [h] <;> simp
theorem one_good {B : Nat} {w : List (List UInt8)} {t : List UInt8} {n a : Int} {cr : List Cr} {st : List Stp} (hg : Good B w n a cr st) (ht : t.length ≤ B) (h0 : (oneR t n a cr st).1 = 0) :
    Good B (w ++ [t]) (oneR t n a cr st).2.1 (oneR t n a cr st).2.2.1 (oneR t n a cr st).2.2.2.1 (oneR t n a cr st).2.2.2.2 := by
  unfold oneR at h0 ⊢
  by_cases hd : wAt (spl 32 t) 0 = sDisk
  · rw [if_pos hd] at h0 ⊢
    by_cases ha : a = 0
    · rw [if_pos ha] at h0 ⊢
      dsimp only at h0 ⊢
      have he : diskT (numAt (spl 32 t) 1) = t := by
        by_cases q : diskT (numAt (spl 32 t) 1) = t
        · exact q
        · rw [if_neg q] at h0; cases h0
      rcases hg with ⟨_, rfl, rfl, rfl⟩ | ⟨h1, _⟩
      · refine .inr ⟨.inl ⟨rfl, rfl⟩, by simp, ?_, by simp⟩
        rw [List.nil_append, flatT_one]
        unfold textT
        dsimp only
        rw [he]
        simp [crT, linesP]
      · rcases h1 with ⟨h1, _⟩ | h1 <;> omega
    · rw [if_neg ha] at h0; cases h0
  · rw [if_neg hd] at h0 ⊢
    by_cases ha : a = 0
    · rw [if_pos ha] at h0; cases h0
    · rw [if_neg ha] at h0 ⊢
      rcases hg with ⟨h1, _⟩ | ⟨h1, h2, h3, h4⟩
      · exact absurd h1 ha
      · by_cases hc : wAt (spl 32 t) 0 = sCrash
        · rw [if_pos hc] at h0 ⊢
          by_cases h5 : a = 2
          · rw [if_pos h5] at h0; cases h0
          · rw [if_neg h5] at h0 ⊢
            dsimp only at h0 ⊢
            have he : crashT (crAt (spl 32 t)) = t := by
              by_cases q : crashT (crAt (spl 32 t)) = t
              · exact q
              · rw [if_neg q] at h0; cases h0
            rcases h1 with ⟨h6, rfl⟩ | h6
            · refine .inr ⟨.inl ⟨h6, rfl⟩, by simp, ?_, by simp⟩
              rw [flatT_app, flatT_one, h3]
              unfold textT
              dsimp only
              rw [crT_snoc, he]
              simp [linesP]
            · exact absurd h6 h5
        · rw [if_neg hc] at h0 ⊢
          dsimp only at h0 ⊢
          rcases parseC_cases t with ⟨_, h⟩ | ⟨_, h⟩ | ⟨_, e, d, x, h, k1, k2, k3, k4⟩
          · rw [h] at h0; cases h0
          · rw [h] at h0; cases h0
          · rw [h]
            dsimp only
            have hl : lineS (e, vecN 32 d, x) = t := by unfold lineS; dsimp only; rw [natsV_vecN k1]; exact k3
            have ho : okS (e, vecN 32 d, x) := by unfold okS; dsimp only; rw [natsV_vecN k1]; exact ⟨k1, rfl⟩
            refine .inr ⟨.inr rfl, by simp, ?_, fun y hy => ?_⟩
            · rw [flatT_app, flatT_one, h3]
              unfold textT
              dsimp only
              rw [linesP_snoc, hl]
              simp
            · rcases List.mem_append.1 hy with hy | hy
              · exact h4 y hy
              · rw [List.mem_singleton.1 hy]; exact ⟨ho, k2, by dsimp only; omega⟩
theorem parL_spec {B : Nat} : ∀ (ls : List (List UInt8)) (i : Nat) (w : List (List UInt8)) (n a : Int) (cr : List Cr) (st : List Stp), Good B w n a cr st → (∀ t ∈ ls, t.length ≤ B) →
    (∃ sc, parL ls i n a cr st = (sc, 0, 0) ∧ mayT sc = true ∧ (∀ x ∈ sc.2.2, okS x ∧ mayC x = true ∧ x.2.2.length ≤ B) ∧ textT sc = flatT (w ++ keepL ls)) ∨
    (∃ j e : Int, parL ls i n a cr st = ((0, [], []), j, e) ∧ e ≠ 0 ∧ (e = 5 ↔ w ++ keepL ls = []) ∧ (j = 0 ↔ (e = 5 ∨ e = 3)))
  | [], i, w, n, a, cr, st, hg, _ => by
    rw [parL, keep_nil, List.append_nil]
    by_cases h0 : a = 0
    · rw [if_pos h0]
      refine .inr ⟨0, 5, rfl, by decide, ⟨fun _ => ?_, fun _ => rfl⟩, by simp⟩
      rcases hg with ⟨_, h, _⟩ | ⟨h1, _⟩
      · exact h
      · rcases h1 with ⟨h1, _⟩ | h1 <;> omega
    · rw [if_neg h0]
      rcases hg with ⟨h, _⟩ | ⟨h1, h2, h3, h4⟩
      · exact absurd h h0
      · by_cases hm : mayT (n, cr, st) = true
        · rw [if_pos hm]
          exact .inl ⟨_, rfl, hm, h4, h3.symm⟩
        · rw [if_neg hm]
          exact .inr ⟨0, 3, rfl, by decide, ⟨fun h => (by cases h), fun h => absurd h h2⟩, by simp⟩
  | t :: ls, i, w, n, a, cr, st, hg, hl => by
    have hl2 : ∀ t ∈ ls, t.length ≤ B := fun x hx => hl x (by simp [hx])
    rw [parL, keep_cons]
    by_cases e : t = []
    · rw [if_pos e, if_pos e]
      exact parL_spec ls (i + 1) w n a cr st hg hl2
    · rw [if_neg e, if_neg e]
      by_cases e0 : (oneR t n a cr st).1 = 0
      · rw [if_pos e0]
        have := parL_spec ls (i + 1) (w ++ [t]) _ _ _ _ (one_good hg (hl t (by simp)) e0) hl2
        rw [List.append_assoc] at this
        exact this
      · rw [if_neg e0]
        have h6 : (oneR t n a cr st).1 = 6 ∨ (oneR t n a cr st).1 = 15 := by
          rcases oneR_err t n a cr st with h | h
          · exact absurd h e0
          · exact h
        refine .inr ⟨_, _, rfl, e0, ⟨fun h => ?_, fun h => ?_⟩, ⟨fun h => ?_, fun h => ?_⟩⟩
        · rcases h6 with h6 | h6 <;> rw [h6] at h <;> cases h
        · simp at h
        · omega
        · rcases h6 with h6 | h6 <;> rw [h6] at h <;> rcases h with h | h <;> cases h
theorem flatT_nil {w : List (List UInt8)} : flatT w = [] ↔ w = [] := by
  constructor
  · intro h
    cases w with
    | nil => rfl
    | cons x r => unfold flatT at h; simp at h
  · intro h; subst h; rfl
theorem law_TapeParses (t : List UInt8) : p_dormouselaw40_TapeParses 10000 t = some true := by
  unfold p_dormouselaw40_TapeParses joinC p_dormouselaw40_As p_dormouselaw40_TapeParses.j0 p_dormouselaw40_TapeParses.j1
  by_cases g1 : (t.length : Int) > 4000
  · rw [decide_eq_true g1, cond_true, awake40b]; rfl
  · have hg : Good 4000 [] 0 0 [] [] := .inl ⟨rfl, rfl, rfl, rfl⟩
    have hsp := parL_spec (spl 10 t) 0 [] 0 0 [] [] hg (fun w hw => by have := spl_mem_len t w hw; omega)
    have hsl := spl_le (c := 10) t
    rw [decide_eq_false g1, cond_false, TParse_eq (by omega) (by omega) (by omega), Option.bind_some, Drop_eq (by omega) (by omega)]
    rw [List.nil_append] at hsp
    rcases hsp with ⟨sc, h, hm, hs, ht⟩ | ⟨j, e, h, h0, h5, hj⟩
    · have hm2 := hm
      simp only [mayT, Bool.and_eq_true, decide_eq_true_eq] at hm2
      have e0 : ((0 : Int) != 0) = false := rfl
      have e1 : ((0 : Int) == 0) = true := rfl
      have hmay := RMay_eq (k := 10000) (s := sc) ⟨by omega, by omega⟩ ⟨by omega, by omega⟩
      have htext := RText_eq (k := 10000) (s := sc) (by omega) (by omega) hm (fun x hx => ⟨(hs x hx).1, (hs x hx).2.1, by have := (hs x hx).2.2; omega, by have := (hs x hx).2.2; omega⟩)
      rw [h]
      dsimp only
      rw [e0, cond_false, awake40b, Option.bind_some, cond_true, e1, cond_true, Option.bind_some, hmay, Option.bind_some, hm, cond_true, Option.bind_some, htext, Option.bind_some, Option.bind_some, ht]
      simp
    · have e0 : (e != 0) = true := by simpa using h0
      rw [h]
      dsimp only
      rw [e0, cond_true, Option.bind_some, awake40b, Option.bind_some, cond_true, Option.bind_some, same_zero, Option.bind_some, cond_true]
      by_cases h6 : e = 5
      · subst h6
        have h7 : flatT (keepL (spl 10 t)) = [] := flatT_nil.2 (h5.1 rfl)
        have h8 : j = 0 := hj.2 (.inl rfl)
        rw [h7, h8]
        rfl
      · have h7 : (flatT (keepL (spl 10 t)) == []) = false := by
          rw [beq_eq_false_iff_ne]
          intro q
          exact h6 (h5.2 (flatT_nil.1 q))
        have h8 : (e == 5) = false := by simpa using h6
        rw [h7, h8]
        have h9 : (j == 0) = (e == 3) := by
          rw [Bool.eq_iff_iff]
          simp only [beq_iff_eq]
          constructor
          · intro q
            rcases hj.1 q with q | q
            · exact absurd q h6
            · exact q
          · intro q; exact hj.2 (.inr q)
        rw [h9]
        simp
end Go.Dor.Tp
end

section
/- The functions that the law calls, as the machine shows them. -/
namespace Go.Dor
open Go.Proofs
set_option maxRecDepth 100000
set_option linter.unusedVariables false
noncomputable section

/- dormouse/dormouselaw40.TapeTexts: function 5 -/
noncomputable def p_dormouselaw40_TapeTexts.j2 (k : Nat) (x1851 : Bool) : Option Bool :=
  some x1851
noncomputable def p_dormouselaw40_TapeTexts.j3 (k : Nat) (x1861 : Bool) : Option Bool :=
  some x1861
noncomputable def p_dormouselaw40_TapeTexts.j1 (k : Nat) (x1843 : List UInt8) (x1844 : Int) (x1845 : Bool) (x1846 : Bool) (x1847 : Int × List (Int × List Int) × List (Int × Vector Int (32) × List UInt8)) : Option Bool :=
  bif x1846 then some Bool.false else bif !x1845 then joinC (p_dormouselaw40_TapeTexts.j2 k) fun (j1852 : Bool → Option Bool) => Option.bind (p_dormouselaw40_awake k) fun t1850 => bif t1850 then bif (x1843 == []) then j1852 (x1844 == (3 : Int)) else j1852 Bool.false else j1852 Bool.false else Option.bind (p_tape_Parse k x1843) fun t1854 => joinC (p_dormouselaw40_TapeTexts.j3 k) fun (j1862 : Bool → Option Bool) => Option.bind (p_dormouselaw40_awake k) fun t1855 => bif t1855 then bif (x1844 == (0 : Int)) then Option.bind (p_dormouselaw40_As (Prod.fst x1847, Prod.fst (Prod.snd x1847), Prod.snd (Prod.snd x1847))) fun t1856 => Option.bind (p_dormouseref40_Text k (Prod.fst t1856, Prod.fst (Prod.snd t1856), Prod.snd (Prod.snd t1856))) fun t1857 => bif (x1843 == t1857) then bif (Prod.fst (Prod.snd t1854) == (0 : Int)) then bif (Prod.snd (Prod.snd t1854) == (0 : Int)) then Option.bind (p_dormouselaw40_As (Prod.fst (Prod.fst t1854), Prod.fst (Prod.snd (Prod.fst t1854)), Prod.snd (Prod.snd (Prod.fst t1854)))) fun t1858 => Option.bind (p_dormouselaw40_As (Prod.fst x1847, Prod.fst (Prod.snd x1847), Prod.snd (Prod.snd x1847))) fun t1859 => Option.bind (p_dormouseref40_Same k (Prod.fst t1858, Prod.fst (Prod.snd t1858), Prod.snd (Prod.snd t1858)) (Prod.fst t1859, Prod.fst (Prod.snd t1859), Prod.snd (Prod.snd t1859))) fun t1860 => j1862 t1860 else j1862 Bool.false else j1862 Bool.false else j1862 Bool.false else j1862 Bool.false else j1862 Bool.false
noncomputable def p_dormouselaw40_TapeTexts.j0 (k : Nat) (x1829 : Bool) (x1830 : Int × List (Int × List Int) × List (Int × Vector Int (32) × List UInt8)) (x1831 : Int × List (Int × List Int) × List (Int × Vector Int (32) × List UInt8)) : Option Bool :=
  bif x1829 then Option.bind (p_dormouselaw40_awake k) fun t1834 => some t1834 else Option.bind (p_tape_Text k (Prod.fst x1830, Prod.fst (Prod.snd x1830), Prod.snd (Prod.snd x1830))) fun t1835 => Option.bind (p_dormouselaw40_As (Prod.fst x1830, Prod.fst (Prod.snd x1830), Prod.snd (Prod.snd x1830))) fun t1836 => Option.bind (p_dormouseref40_May k (Prod.fst t1836, Prod.fst (Prod.snd t1836), Prod.snd (Prod.snd t1836))) fun t1837 => joinC (fun (y : List UInt8 × Int × Bool × Bool × Int × List (Int × List Int) × List (Int × Vector Int (32) × List UInt8)) => p_dormouselaw40_TapeTexts.j1 k y.1 y.2.1 y.2.2.1 y.2.2.2.1 y.2.2.2.2) fun (j1848 : List UInt8 × Int × Bool × Bool × Int × List (Int × List Int) × List (Int × Vector Int (32) × List UInt8) → Option Bool) => Option.bind (p_tape_Check k (Prod.fst x1830, Prod.fst (Prod.snd x1830), Prod.snd (Prod.snd x1830))) fun t1838 => bif (!(t1838 == (0 : Int)) == t1837) then j1848 (Prod.fst t1835, Prod.snd t1835, t1837, Bool.true, Prod.fst x1830, Prod.fst (Prod.snd x1830), Prod.snd (Prod.snd x1830)) else Option.bind (p_tape_Same k (Prod.fst x1830, Prod.fst (Prod.snd x1830), Prod.snd (Prod.snd x1830)) (Prod.fst x1831, Prod.fst (Prod.snd x1831), Prod.snd (Prod.snd x1831))) fun t1839 => Option.bind (p_dormouselaw40_As (Prod.fst x1830, Prod.fst (Prod.snd x1830), Prod.snd (Prod.snd x1830))) fun t1840 => Option.bind (p_dormouselaw40_As (Prod.fst x1831, Prod.fst (Prod.snd x1831), Prod.snd (Prod.snd x1831))) fun t1841 => Option.bind (p_dormouseref40_Same k (Prod.fst t1840, Prod.fst (Prod.snd t1840), Prod.snd (Prod.snd t1840)) (Prod.fst t1841, Prod.fst (Prod.snd t1841), Prod.snd (Prod.snd t1841))) fun t1842 => j1848 (Prod.fst t1835, Prod.snd t1835, t1837, !t1839 == t1842, Prod.fst x1830, Prod.fst (Prod.snd x1830), Prod.snd (Prod.snd x1830))
noncomputable def p_dormouselaw40_TapeTexts (k : Nat) (x1825 : Int × List (Int × List Int) × List (Int × Vector Int (32) × List UInt8)) (x1826 : Int × List (Int × List Int) × List (Int × Vector Int (32) × List UInt8)) : Option Bool :=
  joinC (fun (y : Bool × (Int × List (Int × List Int) × List (Int × Vector Int (32) × List UInt8)) × Int × List (Int × List Int) × List (Int × Vector Int (32) × List UInt8)) => p_dormouselaw40_TapeTexts.j0 k y.1 y.2.1 y.2.2) fun (j1832 : Bool × (Int × List (Int × List Int) × List (Int × Vector Int (32) × List UInt8)) × Int × List (Int × List Int) × List (Int × Vector Int (32) × List UInt8) → Option Bool) => Option.bind (p_dormouselaw40_Light k (Prod.fst x1825, Prod.fst (Prod.snd x1825), Prod.snd (Prod.snd x1825))) fun t1827 => bif !t1827 then j1832 (Bool.true, (Prod.fst x1825, Prod.fst (Prod.snd x1825), Prod.snd (Prod.snd x1825)), Prod.fst x1826, Prod.fst (Prod.snd x1826), Prod.snd (Prod.snd x1826)) else Option.bind (p_dormouselaw40_Light k (Prod.fst x1826, Prod.fst (Prod.snd x1826), Prod.snd (Prod.snd x1826))) fun t1828 => j1832 (!t1828, (Prod.fst x1825, Prod.fst (Prod.snd x1825), Prod.snd (Prod.snd x1825)), Prod.fst x1826, Prod.fst (Prod.snd x1826), Prod.snd (Prod.snd x1826))
noncomputable def e_dormouselaw40_TapeTexts (k : Nat) : Entry := ⟨Ds.mk [Vd.st (T.pair (T.int IntKind.i64) (T.pair (T.sl (T.pair (T.int IntKind.i64) (T.sl (T.int IntKind.u8)))) (T.sl (T.pair (T.int IntKind.i64) (T.pair (T.arr (32) (T.int IntKind.u8)) T.str))))), Vd.st (T.pair (T.int IntKind.i64) (T.pair (T.sl (T.pair (T.int IntKind.i64) (T.sl (T.int IntKind.u8)))) (T.sl (T.pair (T.int IntKind.i64) (T.pair (T.arr (32) (T.int IntKind.u8)) T.str)))))] [], Ds.mk [Vd.one (Ld.im T.bool)] [], fun x => p_dormouselaw40_TapeTexts k x.1 x.2⟩
noncomputable def c_dormouselaw40_TapeTexts (k : Nat) : Cx := ⟨Tryd.prog, [(15, e_dormouselaw40_Light k), (17, e_tape_Check k), (7, e_tape_Parse k), (16, e_tape_Text k), (6, e_dormouselaw40_awake k), (10, e_dormouselaw40_As), (11, e_dormouseref40_May k), (18, e_tape_Same k), (9, e_dormouseref40_Same k), (12, e_dormouseref40_Text k)], [], [(1, Sd.mk [2, 3, 18] (Ds.mk [Vd.one (Ld.ptr (0) (0)), Vd.one (Ld.ptr (1) (0)), Vd.one (Ld.im T.bool)] [Od.blkT (26) (T.pair (T.int IntKind.i64) (T.pair (T.sl (T.pair (T.int IntKind.i64) (T.sl (T.int IntKind.u8)))) (T.sl (T.pair (T.int IntKind.i64) (T.pair (T.arr (32) (T.int IntKind.u8)) T.str))))), Od.blkT (26) (T.pair (T.int IntKind.i64) (T.pair (T.sl (T.pair (T.int IntKind.i64) (T.sl (T.int IntKind.u8)))) (T.sl (T.pair (T.int IntKind.i64) (T.pair (T.arr (32) (T.int IntKind.u8)) T.str)))))])), (5, Sd.mk [2, 5, 6, 7, 43] (Ds.mk [Vd.one (Ld.ptr (0) (0)), Vd.one (Ld.im T.str), Vd.one (Ld.im (T.int IntKind.i64)), Vd.one (Ld.im T.bool), Vd.one (Ld.im T.bool)] [Od.blkT (26) (T.pair (T.int IntKind.i64) (T.pair (T.sl (T.pair (T.int IntKind.i64) (T.sl (T.int IntKind.u8)))) (T.sl (T.pair (T.int IntKind.i64) (T.pair (T.arr (32) (T.int IntKind.u8)) T.str)))))])), (8, Sd.mk [4] (Ds.mk [Vd.one (Ld.im T.bool)] [])), (10, Sd.mk [4] (Ds.mk [Vd.one (Ld.im T.bool)] []))], [], [(5, ([(0, 1), (1, 0), (2, 2), (3, 2), (4, 2), (5, 2), (6, 1), (7, 1), (8, 0), (9, 1), (11, 1)], [(10, Bool.true), (12, Bool.false), (13, Bool.false), (14, Bool.false), (15, Bool.false)], [])), (10, ([(0, 0), (1, 2), (2, 2), (3, 2), (4, 2), (5, 2)], [], [])), (10, ([(6, 2), (7, 1)], [(8, Bool.false), (9, Bool.false)], [])), (10, ([(10, 2), (11, 2), (12, 2), (13, 2), (14, 2), (15, 2), (16, 2), (17, 2), (18, 2), (19, 2), (20, 2)], [], [])), (10, ([(21, 1), (23, 1)], [(22, Bool.true)], [])), (10, ([], [(24, Bool.false), (25, Bool.false), (26, Bool.false), (27, Bool.false)], []))], 0, 88, [(67, 0), (73, 1)], fun _ _ _ => none⟩
theorem q_dormouselaw40_TapeTexts (k : Nat) (x : HL (e_dormouselaw40_TapeTexts k).pre.ts) : runF (c_dormouselaw40_TapeTexts k) k Tryd.f5 (e_dormouselaw40_TapeTexts k).pre (e_dormouselaw40_TapeTexts k).post x = (e_dormouselaw40_TapeTexts k).fn x := by kernel_rfl
theorem s_dormouselaw40_TapeTexts (k : Nat) : Entry.Sound Tryd.prog 5 (e_dormouselaw40_TapeTexts k) := runF_sound (X := c_dormouselaw40_TapeTexts k) (pre := (e_dormouselaw40_TapeTexts k).pre) (post := (e_dormouselaw40_TapeTexts k).post) (q := (e_dormouselaw40_TapeTexts k).fn) ⟨(dOk_cons (s_dormouselaw40_Light k) (dOk_cons (s_tape_Check k) (dOk_cons (s_tape_Parse k) (dOk_cons (s_tape_Text k) (dOk_cons (s_dormouselaw40_awake k) (dOk_cons (s_dormouselaw40_As) (dOk_cons (s_dormouseref40_May k) (dOk_cons (s_tape_Same k) (dOk_cons (s_dormouseref40_Same k) (dOk_cons (s_dormouseref40_Text k) dOk_nil)))))))))), x_ext, x_mo⟩ Tryd.func5 (q_dormouselaw40_TapeTexts k)
end
end Go.Dor
end

section
/- SCRIPTS WEIGHED AND COMPARED, plain. -/
set_option linter.unusedVariables false
set_option linter.unusedSimpArgs false
namespace Go.Dor.Tp
open Go.Proofs

noncomputable def gb21 (k : Nat) (r : List Cr × Int → Option Bool) (y : List Cr × Int) : Option Bool := p_dormouselaw21_Light.b1 k (p_dormouselaw21_Light.j0 k) r y.1 y.2
def light21 (l : List Cr) : Bool := l.all fun c => decide (c.2.length ≤ 100)
theorem light21_loop {k : Nat} {l : List Cr} (hn : l.length ≤ 9223372036854775807) : ∀ (m i fuel : Nat), i + m = l.length → m < fuel →
    loopC (gb21 k) fuel (l, (i : Int)) = some (light21 (l.drop i) && decide (l.length ≤ 40))
  | 0, i, fuel + 1, hi, _ => by
    rw [loopC_succ]
    unfold gb21
    dsimp only
    unfold p_dormouselaw21_Light.b1 p_dormouselaw21_Light.j0
    rw [decide_eq_false (by omega), cond_false, List.drop_of_length_le (by omega)]
    unfold light21
    rw [List.all_nil, Bool.true_and]
    congr 1
    rw [decide_eq_decide]
    omega
  | m + 1, i, fuel + 1, hi, hf => by
    have hx : i < l.length := by omega
    have e2 : IntKind.wrap .i64 ((i : Int) + 1) = ((i + 1 : Nat) : Int) := by rw [wrap_i64 (by omega)]; omega
    have ih := light21_loop (k := k) hn m (i + 1) fuel (by omega) (by omega)
    rw [loopC_succ, List.drop_eq_getElem_cons hx]
    generalize loopC (gb21 k) fuel = rec at *
    unfold gb21
    dsimp only
    unfold p_dormouselaw21_Light.b1
    rw [decide_eq_true (by omega), cond_true, need_yes (by omega), at_getI hx, e2]
    unfold light21 at ih ⊢
    rw [List.all_cons]
    by_cases h : l[i].2.length ≤ 100
    · rw [decide_eq_false (by omega), cond_false, ih, decide_eq_true h, Bool.true_and]
    · rw [decide_eq_true (by omega), cond_true, decide_eq_false h, Bool.false_and, Bool.false_and]
theorem Light21_eq {k : Nat} {l : List Cr} (hk : l.length < k) (hn : l.length ≤ 9223372036854775807) : p_dormouselaw21_Light k l = some (light21 l && decide (l.length ≤ 40)) := by
  unfold p_dormouselaw21_Light joinC
  exact light21_loop hn l.length 0 k (by omega) hk
def lightT (s : Sc) : Bool := (light21 s.2.1 && decide (s.2.1.length ≤ 40)) && (lightL s.2.2 && decide (s.2.2.length ≤ 30))
theorem LightT_eq {k : Nat} {s : Sc} (hk : s.2.1.length < k ∧ s.2.2.length < k) (hn : s.2.1.length ≤ 9223372036854775807 ∧ s.2.2.length ≤ 9223372036854775807) : p_dormouselaw40_Light k (s.1, s.2.1, s.2.2) = some (lightT s) := by
  unfold p_dormouselaw40_Light joinC p_dormouselaw40_Light.j0 lightT
  dsimp only
  rw [Light21_eq hk.1 hn.1, Option.bind_some]
  cases h : light21 s.2.1 && decide (s.2.1.length ≤ 40) with
  | true => rw [cond_true, Light_eq hk.2 hn.2, Option.bind_some, Bool.true_and]
  | false => rw [cond_false, Bool.false_and]

/-! ### the same scripts -/
def crE (x y : Cr) : Bool := x.1 == y.1 && bytesOf x.2 == bytesOf y.2
theorem c1same (x y : Cr) : p_tape_Same_c1 (x.1, x.2) (y.1, y.2) = some (crE x y) := by
  unfold p_tape_Same_c1 joinC p_tape_Same_c1.j0 crE
  dsimp only
  cases x.1 == y.1 <;> rfl
def crsE (a b : List Cr) : Bool := (a.zip b).all fun p => crE p.1 p.2
def stsE (a b : List Stp) : Bool := (a.zip b).all fun p => decide (p.1 = p.2)
def sameT (a b : Sc) : Bool := a.1 == b.1 && ((decide (a.2.1.length = b.2.1.length) && crsE a.2.1 b.2.1) && (decide (a.2.2.length = b.2.2.length) && stsE a.2.2 b.2.2))
theorem zip_drop {α β : Type} {a : List α} {b : List β} {i : Nat} (ha : i < a.length) (hb : i < b.length) : (a.drop i).zip (b.drop i) = (a[i], b[i]) :: (a.drop (i + 1)).zip (b.drop (i + 1)) := by
  rw [List.drop_eq_getElem_cons ha, List.drop_eq_getElem_cons hb, List.zip_cons_cons]
abbrev EF := List Cr × List Cr × Int × Int
noncomputable def efb (k : Nat) (r : EF → Option Bool) (y : EF) : Option Bool := p_slices_EqualFunc_api_Crash_api_Crash_api_Crash_api_Crash.b1 k (fun _ => p_slices_EqualFunc_api_Crash_api_Crash_api_Crash_api_Crash.j0 k) r y.1 y.2.1 y.2.2.1 y.2.2.2
theorem ef_loop {k : Nat} {a b : List Cr} (he : a.length = b.length) (hn : a.length < 1000000) : ∀ (m i fuel : Nat), i + m = a.length → m < fuel →
    loopC (efb k) fuel (b, a, (a.length : Int), (i : Int)) = some (crsE (a.drop i) (b.drop i))
  | 0, i, fuel + 1, hi, _ => by
    rw [loopC_succ]
    unfold efb
    dsimp only
    unfold p_slices_EqualFunc_api_Crash_api_Crash_api_Crash_api_Crash.b1 p_slices_EqualFunc_api_Crash_api_Crash_api_Crash_api_Crash.j0
    rw [decide_eq_false (by omega), cond_false, List.drop_of_length_le (by omega)]
    rfl
  | m + 1, i, fuel + 1, hi, hf => by
    have hx : i < a.length := by omega
    have hy : i < b.length := by omega
    have e2 : IntKind.wrap .i64 ((i : Int) + 1) = ((i + 1 : Nat) : Int) := by rw [wrap_i64 (by omega)]; omega
    have ih := ef_loop (k := k) he hn m (i + 1) fuel (by omega) (by omega)
    unfold crsE at ih ⊢
    rw [loopC_succ, zip_drop hx hy, List.all_cons]
    generalize loopC (efb k) fuel = rec at *
    unfold efb
    dsimp only
    unfold p_slices_EqualFunc_api_Crash_api_Crash_api_Crash_api_Crash.b1
    rw [decide_eq_true (by omega), cond_true, need_yes (by omega), need_yes (by omega), at_getI hx, at_getI hy, c1same, Option.bind_some, e2]
    cases h : crE a[i] b[i] with
    | true => rw [Bool.not_true, cond_false, ih, Bool.true_and]
    | false => rw [Bool.not_false, cond_true, Bool.false_and]
theorem EqF_eq {k : Nat} {a b : List Cr} (hk : a.length < k) (hn : a.length < 1000000) (hn2 : b.length < 1000000) : p_slices_EqualFunc_api_Crash_api_Crash_api_Crash_api_Crash k a b = some (decide (a.length = b.length) && crsE a b) := by
  unfold p_slices_EqualFunc_api_Crash_api_Crash_api_Crash_api_Crash joinC
  by_cases he : a.length = b.length
  · have e : (((a.length : Nat) : Int) != ((b.length : Nat) : Int)) = false := by simp [he]
    rw [e, cond_false, decide_eq_true he, Bool.true_and]
    exact ef_loop (k := k) he hn a.length 0 k (by omega) hk
  · have e : (((a.length : Nat) : Int) != ((b.length : Nat) : Int)) = true := by simp; omega
    rw [e, cond_true, decide_eq_false he, Bool.false_and]
theorem st_cmp (x y : Stp) : (Prod.fst x == Prod.fst y && (decide (Prod.fst (Prod.snd x) = Prod.fst (Prod.snd y)) && (Prod.snd (Prod.snd x) == Prod.snd (Prod.snd y) && Bool.true))) = decide (x = y) := by
  obtain ⟨a, b, c⟩ := x
  obtain ⟨a', b', c'⟩ := y
  rw [Bool.eq_iff_iff]
  simp
abbrev EQ := List Stp × List Stp × Int × Int
noncomputable def eqb (k : Nat) (r : EQ → Option Bool) (y : EQ) : Option Bool := p_slices_Equal_api_Step_api_Step.b1 k (fun _ => p_slices_Equal_api_Step_api_Step.j0 k) r y.1 y.2.1 y.2.2.1 y.2.2.2
theorem eq_loop {k : Nat} {a b : List Stp} (he : a.length = b.length) (hn : a.length < 1000000) : ∀ (m i fuel : Nat), i + m = a.length → m < fuel →
    loopC (eqb k) fuel (a, b, (a.length : Int), (i : Int)) = some (stsE (a.drop i) (b.drop i))
  | 0, i, fuel + 1, hi, _ => by
    rw [loopC_succ]
    unfold eqb
    dsimp only
    unfold p_slices_Equal_api_Step_api_Step.b1 p_slices_Equal_api_Step_api_Step.j0
    rw [decide_eq_false (by omega), cond_false, List.drop_of_length_le (by omega)]
    rfl
  | m + 1, i, fuel + 1, hi, hf => by
    have hx : i < a.length := by omega
    have hy : i < b.length := by omega
    have e2 : IntKind.wrap .i64 ((i : Int) + 1) = ((i + 1 : Nat) : Int) := by rw [wrap_i64 (by omega)]; omega
    have ih := eq_loop (k := k) he hn m (i + 1) fuel (by omega) (by omega)
    unfold stsE at ih ⊢
    rw [loopC_succ, zip_drop hx hy, List.all_cons]
    generalize loopC (eqb k) fuel = rec at *
    unfold eqb
    dsimp only
    unfold p_slices_Equal_api_Step_api_Step.b1
    rw [decide_eq_true (by omega), cond_true, need_yes (by omega), need_yes (by omega), at_getI hx, at_getI hy, st_cmp, e2]
    cases h : decide (a[i] = b[i]) with
    | true => rw [Bool.not_true, cond_false, ih, Bool.true_and]
    | false => rw [Bool.not_false, cond_true, Bool.false_and]
theorem Eq_eq {k : Nat} {a b : List Stp} (hk : a.length < k) (hn : a.length < 1000000) (hn2 : b.length < 1000000) : p_slices_Equal_api_Step_api_Step k a b = some (decide (a.length = b.length) && stsE a b) := by
  unfold p_slices_Equal_api_Step_api_Step joinC
  by_cases he : a.length = b.length
  · have e : (((a.length : Nat) : Int) != ((b.length : Nat) : Int)) = false := by simp [he]
    rw [e, cond_false, decide_eq_true he, Bool.true_and]
    exact eq_loop (k := k) he hn a.length 0 k (by omega) hk
  · have e : (((a.length : Nat) : Int) != ((b.length : Nat) : Int)) = true := by simp; omega
    rw [e, cond_true, decide_eq_false he, Bool.false_and]
theorem TSame_eq {k : Nat} {a b : Sc} (hk : a.2.1.length < k ∧ a.2.2.length < k) (hn : a.2.1.length < 1000000 ∧ a.2.2.length < 1000000) (hn2 : b.2.1.length < 1000000 ∧ b.2.2.length < 1000000) : p_tape_Same k (a.1, a.2.1, a.2.2) (b.1, b.2.1, b.2.2) = some (sameT a b) := by
  unfold p_tape_Same joinC p_tape_Same.j0 sameT
  dsimp only
  cases a.1 == b.1 with
  | false => rw [cond_false, Bool.false_and]
  | true =>
    rw [cond_true, EqF_eq hk.1 hn.1 hn2.1, Option.bind_some, Bool.true_and]
    cases decide (a.2.1.length = b.2.1.length) && crsE a.2.1 b.2.1 with
    | false => rw [cond_false, Bool.false_and]
    | true => rw [cond_true, Eq_eq hk.2 hn.2 hn2.2, Option.bind_some, Bool.true_and]
abbrev RS := Int × Sc × Sc
noncomputable def rsb3 (k : Nat) (r : RS → Option Bool) (y : RS) : Option Bool := p_dormouseref40_Same.b3 k (fun _ => p_dormouseref40_Same.j2 k) r y.1 y.2.1 y.2.2
theorem rs3_loop {k : Nat} {a b : Sc} (he : a.2.2.length = b.2.2.length) (hn : a.2.2.length < 1000000) : ∀ (m i fuel : Nat), i + m = a.2.2.length → m < fuel →
    loopC (rsb3 k) fuel ((i : Int), a, b) = some (stsE (a.2.2.drop i) (b.2.2.drop i))
  | 0, i, fuel + 1, hi, _ => by
    rw [loopC_succ]
    unfold rsb3
    dsimp only
    unfold p_dormouseref40_Same.b3 p_dormouseref40_Same.j2
    rw [decide_eq_false (by omega), cond_false, List.drop_of_length_le (by omega)]
    rfl
  | m + 1, i, fuel + 1, hi, hf => by
    have hx : i < a.2.2.length := by omega
    have hy : i < b.2.2.length := by omega
    have e2 : IntKind.wrap .i64 ((i : Int) + 1) = ((i + 1 : Nat) : Int) := by rw [wrap_i64 (by omega)]; omega
    have ih := rs3_loop (k := k) he hn m (i + 1) fuel (by omega) (by omega)
    unfold stsE at ih ⊢
    rw [loopC_succ, zip_drop hx hy, List.all_cons]
    generalize loopC (rsb3 k) fuel = rec at *
    unfold rsb3
    dsimp only
    unfold p_dormouseref40_Same.b3
    rw [decide_eq_true (by omega), cond_true, need_yes (by omega), need_yes (by omega), at_getI hx, at_getI hy, st_cmp, e2]
    cases h : decide (a.2.2[i] = b.2.2[i]) with
    | true => rw [Bool.not_true, cond_false]; exact ih.trans (by rw [Bool.true_and])
    | false => rw [Bool.not_false, cond_true, Bool.false_and]
noncomputable def rsb4 (k : Nat) (r : RS → Option Bool) (y : RS) : Option Bool := p_dormouseref40_Same.b4 k (fun y => p_dormouseref40_Same.j1 k y.1 y.2) r y.1 y.2.1 y.2.2
theorem rs4_loop {k : Nat} {a b : Sc} (hk : a.2.2.length < k) (he : a.2.1.length = b.2.1.length) (hn : a.2.1.length < 1000000) (he2 : a.2.2.length = b.2.2.length) (hn2 : a.2.2.length < 1000000) : ∀ (m i fuel : Nat), i + m = a.2.1.length → m < fuel →
    loopC (rsb4 k) fuel ((i : Int), a, b) = some (crsE (a.2.1.drop i) (b.2.1.drop i) && stsE a.2.2 b.2.2)
  | 0, i, fuel + 1, hi, _ => by
    rw [loopC_succ]
    unfold rsb4
    dsimp only
    unfold p_dormouseref40_Same.b4
    rw [decide_eq_false (by omega), cond_false, List.drop_of_length_le (by omega)]
    dsimp only
    unfold p_dormouseref40_Same.j1 joinC
    have := rs3_loop (k := k) he2 hn2 a.2.2.length 0 k (by omega) hk
    rw [List.drop_zero, List.drop_zero] at this
    exact this.trans (by simp [crsE])
  | m + 1, i, fuel + 1, hi, hf => by
    have hx : i < a.2.1.length := by omega
    have hy : i < b.2.1.length := by omega
    have e2 : IntKind.wrap .i64 ((i : Int) + 1) = ((i + 1 : Nat) : Int) := by rw [wrap_i64 (by omega)]; omega
    have ih := rs4_loop hk he hn he2 hn2 m (i + 1) fuel (by omega) (by omega)
    unfold crsE at ih ⊢
    rw [loopC_succ, zip_drop hx hy, List.all_cons]
    generalize loopC (rsb4 k) fuel = rec at *
    unfold rsb4
    dsimp only
    unfold p_dormouseref40_Same.b4 joinC
    dsimp only
    unfold p_dormouseref40_Same.j5
    rw [decide_eq_true (by omega), cond_true, need_yes (by omega), need_yes (by omega), need_yes (by omega), need_yes (by omega), at_getI hx, at_getI hy, e2]
    unfold crE at ih ⊢
    dsimp only
    cases h : a.2.1[i].1 == b.2.1[i].1 with
    | false =>
      have h' : (a.2.1[i].1 != b.2.1[i].1) = true := by rw [bne, h]; rfl
      rw [h', cond_true, cond_true, Bool.false_and, Bool.false_and, Bool.false_and]
    | true =>
      have h' : (a.2.1[i].1 != b.2.1[i].1) = false := by rw [bne, h]; rfl
      rw [h', cond_false, Bool.true_and]
      cases h2 : bytesOf a.2.1[i].2 == bytesOf b.2.1[i].2 with
      | true =>
        rw [Bool.not_true, cond_false, Bool.true_and]
        exact ih
      | false =>
        rw [Bool.not_false, cond_true, Bool.false_and, Bool.false_and]
theorem RSame_eq {k : Nat} {a b : Sc} (hk : a.2.1.length < k ∧ a.2.2.length < k) (hn : a.2.1.length < 1000000 ∧ a.2.2.length < 1000000) : p_dormouseref40_Same k (a.1, a.2.1, a.2.2) (b.1, b.2.1, b.2.2) = some (sameT a b) := by
  unfold p_dormouseref40_Same joinC p_dormouseref40_Same.j0 sameT
  dsimp only
  by_cases h1 : a.1 = b.1
  · have e1 : (a.1 != b.1) = false := by simp [h1]
    have e1' : (a.1 == b.1) = true := by simp [h1]
    rw [e1, cond_false, e1', Bool.true_and]
    by_cases h2 : a.2.1.length = b.2.1.length
    · have e2 : (((a.2.1.length : Nat) : Int) != ((b.2.1.length : Nat) : Int)) = false := by simp [h2]
      rw [e2, cond_false, decide_eq_true h2, Bool.true_and]
      by_cases h3 : a.2.2.length = b.2.2.length
      · have e3 : (((a.2.2.length : Nat) : Int) != ((b.2.2.length : Nat) : Int)) = false := by simp [h3]
        rw [e3, cond_false, decide_eq_true h3, Bool.true_and]
        exact rs4_loop (k := k) hk.2 h2 hn.1 h3 hn.2 a.2.1.length 0 k (by omega) hk.1
      · have e3 : (((a.2.2.length : Nat) : Int) != ((b.2.2.length : Nat) : Int)) = true := by simp; omega
        rw [e3, cond_true, decide_eq_false h3, Bool.false_and, Bool.and_false]
    · have e2 : (((a.2.1.length : Nat) : Int) != ((b.2.1.length : Nat) : Int)) = true := by simp; omega
      rw [e2, cond_true, cond_true, decide_eq_false h2, Bool.false_and, Bool.false_and]
  · have e1 : (a.1 != b.1) = true := by simp [h1]
    have e1' : (a.1 == b.1) = false := by simp [h1]
    rw [e1, cond_true, cond_true, e1', Bool.false_and]
end Go.Dor.Tp
end

section
/- A SCRIPT PRINTED AND READ AGAIN: the law of the text of any script, plain. -/
set_option linter.unusedVariables false
set_option linter.unusedSimpArgs false
namespace Go.Dor.Tp
open Go.Proofs

theorem TParse_big {k : Nat} {t : List UInt8} (hk : 64 < k) (hkl : t.length + 2 < k) (ht : t.length < 999999) (hn : (spl 10 t).length < 100000) (hl : ∀ w ∈ spl 10 t, w.length + 1 < 100000) : p_tape_Parse k t = some (parL (spl 10 t) 0 0 0 [] []) := by
  have hsl := spl_le (c := 10) t
  unfold p_tape_Parse joinC
  dsimp only
  rw [Split_eq (by omega) (by omega), Option.bind_some]
  have := par_loop (k := k) (ls := spl 10 t) (z := 0) hk (by omega) hn (fun w hw => by have := spl_mem_len t w hw; have := hl w hw; omega) (spl 10 t).length 0 k 0 0 [] [] (by omega) (by omega) (by simp) (by simp)
  rw [List.drop_zero] at this
  exact this
theorem tail_flat : ∀ (l : List (List UInt8)), Lib.joinTail [10] l ++ [10] = [10] ++ flatT l
  | [] => by simp [Lib.joinTail, flatT]
  | x :: l => by
    have ih := tail_flat l
    have e : Lib.joinTail [10] (x :: l) = [10] ++ x ++ Lib.joinTail [10] l := by simp [Lib.joinTail]
    rw [e, List.append_assoc, ih, flatT_cons]
    simp
theorem join_flat (x : List UInt8) (l : List (List UInt8)) : Lib.join (x :: l) [10] ++ [10] = flatT (x :: l) := by
  rw [Lib.join_cons, List.append_assoc, tail_flat, flatT_cons]
  simp
theorem crT_flat (cr : List Cr) : crT cr = flatT (cr.map crashT) := by simp [crT, flatT, Function.comp_def]
theorem linesP_flat (st : List Stp) : linesP st = flatT (st.map lineS) := by simp [linesP, flatT, Function.comp_def]
def scrL (s : Sc) : List (List UInt8) := diskT s.1 :: (s.2.1.map crashT ++ s.2.2.map lineS)
theorem flat_scr (s : Sc) : flatT (scrL s) = textT s := by
  unfold scrL textT
  rw [flatT_cons, flatT_app, crT_flat, linesP_flat]
  simp
theorem crash_len {c : Cr} (h : crOk c = true) : (crashT c).length ≤ 200 := by
  simp only [crOk, decide_eq_true_eq] at h
  have h1 := decN_len20 (n := c.1.toNat) (by omega)
  have h2 := hexS_len (bytesOf c.2)
  have h3 : (bytesOf c.2).length = c.2.length := by simp [bytesOf]
  unfold crashT
  simp only [List.length_append, List.length_cons, List.length_nil]
  omega
theorem disk_len {n : Int} (h : n ≤ 65536) : (diskT n).length ≤ 30 := by
  have h1 := decN_len20 (n := n.toNat) (by omega)
  unfold diskT
  simp only [List.length_append, List.length_cons, List.length_nil]
  omega
theorem flat_len {B : Nat} : ∀ (l : List (List UInt8)), (∀ w ∈ l, w.length ≤ B) → (flatT l).length ≤ (B + 1) * l.length
  | [], _ => by simp [flatT]
  | x :: l, h => by
    have h1 := h x (by simp)
    have h2 := flat_len l (fun w hw => h w (by simp [hw]))
    have e : (B + 1) * (x :: l).length = (B + 1) * l.length + (B + 1) := Nat.mul_succ _ _
    rw [flatT_cons, List.length_append, List.length_append, e]
    simp only [List.length_cons, List.length_nil]
    omega

/-! ### printed -/
abbrev TX := List Cr × Int × Int × Sc × List (List UInt8)
noncomputable def txj (k : Nat) (y : Sc × List (List UInt8)) : Option (List UInt8 × Int) := p_tape_Text.j0 k y.1 y.2
noncomputable def txb (k : Nat) (r : TX → Option (List UInt8 × Int)) (y : TX) : Option (List UInt8 × Int) := p_tape_Text.b1 k (txj k) r y.1 y.2.1 y.2.2.1 y.2.2.2.1 y.2.2.2.2
theorem text_loop {k : Nat} {s : Sc} {a : List UInt8} (hk : 4000 < k) (hc : s.2.1.length ≤ 64) (hn : s.2.2.length ≤ 30) (hcr : ∀ c ∈ s.2.1, crOk c = true) (hs : ∀ x ∈ s.2.2, okS x ∧ x.2.2.length ≤ 3000) (hm : ∀ x ∈ s.2.2, mayC x = true) (ha : a.length ≤ 30) : ∀ (m i fuel : Nat), i + m = s.2.1.length → m < fuel →
    loopC (txb k) fuel (s.2.1, (s.2.1.length : Int), (i : Int), s, a :: (s.2.1.take i).map crashT) = some (flatT (a :: s.2.1.map crashT) ++ linesP s.2.2, 0)
  | 0, i, fuel + 1, hi, _ => by
    have hfl := flat_len (B := 200) (a :: s.2.1.map crashT) (fun w hw => by
      rcases List.mem_cons.1 hw with rfl | hw
      · omega
      · obtain ⟨c, hc, rfl⟩ := List.mem_map.1 hw
        exact crash_len (hcr c hc))
    have hjf := join_flat a (s.2.1.map crashT)
    have hlp := linesP_len s.2.2 hs
    have hjl : (Lib.join (a :: s.2.1.map crashT) [10]).length + 1 = (flatT (a :: s.2.1.map crashT)).length := by rw [← hjf]; simp
    rw [List.length_cons, List.length_map] at hfl
    rw [loopC_succ, List.take_of_length_le (by omega)]
    unfold txb
    dsimp only
    unfold p_tape_Text.b1
    rw [decide_eq_false (by omega), cond_false]
    unfold txj
    dsimp only
    unfold p_tape_Text.j0
    have hj : p_strings_Join (a :: s.2.1.map crashT) [10] = some (Lib.join (a :: s.2.1.map crashT) [10]) := by
      unfold p_strings_Join
      rw [need_yes (by rw [List.length_cons, List.length_map]; omega), need_yes (by omega)]
    dsimp only
    rw [Print_eq hk hn hs, Option.bind_some, printL_all _ _ hm, hj, Option.bind_some, need_yes (by omega), need_yes (by rw [List.length_append]; simp only [List.length_cons, List.length_nil, List.nil_append]; omega), List.nil_append]
    dsimp only
    rw [hjf]
  | m + 1, i, fuel + 1, hi, hf => by
    have hx : i < s.2.1.length := by omega
    have e2 : IntKind.wrap .i64 ((i : Int) + 1) = ((i + 1 : Nat) : Int) := by rw [wrap_i64 (by omega)]; omega
    have ih := text_loop (k := k) hk hc hn hcr hs hm ha m (i + 1) fuel (by omega) (by omega)
    rw [loopC_succ]
    have et : a :: (s.2.1.take (i + 1)).map crashT = a :: (s.2.1.take i).map crashT ++ [crashT s.2.1[i]] := by
      rw [List.take_succ_eq_append_getElem hx, List.map_append]; rfl
    rw [et] at ih
    generalize loopC (txb k) fuel = rec at *
    unfold txb
    dsimp only
    unfold p_tape_Text.b1
    have h1 := hcr _ (List.getElem_mem hx)
    rw [decide_eq_true (by omega), cond_true, need_yes (by omega), at_getI hx]
    generalize s.2.1[i] = c at *
    obtain ⟨z, b⟩ := c
    simp only [crOk, decide_eq_true_eq] at h1
    obtain ⟨q, rfl⟩ : ∃ q : Nat, z = (q : Int) := ⟨z.toNat, by omega⟩
    dsimp only
    rw [line_eq (by omega) (by omega) (by omega) (by omega), Option.bind_some, tbD9, need_yes (by simp only [List.length_cons, List.length_map, List.length_take, List.length_nil]; omega), e2]
    exact ih
theorem TText_eq {k : Nat} {s : Sc} (hk : 4000 < k) (hl : lightT s = true) (ho : ∀ x ∈ s.2.2, okS x) : p_tape_Text k (s.1, s.2.1, s.2.2) = some (if mayT s = true then (textT s, 0) else ([], 3)) := by
  simp only [lightT, light21, lightL, Bool.and_eq_true, decide_eq_true_eq, List.all_eq_true] at hl
  obtain ⟨⟨h1, h2⟩, h3, h4⟩ := hl
  unfold p_tape_Text joinC
  dsimp only
  rw [TCheck_eq ⟨by omega, by omega⟩ ⟨by omega, by omega⟩, Option.bind_some]
  by_cases hm : mayT s = true
  · have e0 : ((0 : Int) != 0) = false := rfl
    rw [if_pos hm, if_pos hm, e0, cond_false]
    simp only [mayT, Bool.and_eq_true, decide_eq_true_eq, List.all_eq_true] at hm
    obtain ⟨⟨m1, m2, m3, m4⟩, m5, m6⟩ := hm
    obtain ⟨n, cr, st⟩ := s
    dsimp only at *
    obtain ⟨q, rfl⟩ : ∃ q : Nat, n = (q : Int) := ⟨n.toNat, by omega⟩
    rw [disk_eq (by omega) (by omega), Option.bind_some]
    have := text_loop (k := k) (s := ((q : Int), cr, st)) (a := diskT q) hk m3 h4 m5 (fun x hx => ⟨ho x hx, h3 x hx⟩) m6 (disk_len (by omega)) cr.length 0 k (by dsimp only; omega) (by omega)
    rw [List.take_zero] at this
    refine Eq.trans this ?_
    rw [flatT_cons, ← crT_flat]
    unfold textT
    dsimp only
  · have e0 : ((3 : Int) != 0) = true := rfl
    rw [if_neg hm, if_neg hm, e0, cond_true]
end Go.Dor.Tp
end

section
/- THE LAW OF THE TEXT OF ANY SCRIPT, its end, plain. -/
set_option linter.unusedVariables false
set_option linter.unusedSimpArgs false
namespace Go.Dor.Tp
open Go.Proofs

set_option maxRecDepth 100000 in
theorem awakeT (n : Nat) : p_dormouselaw40_awake (n + 400000) = some true := by kernel_rfl

/-! ### read again -/
def nrm (c : Cr) : Cr := (c.1, numsOf (bytesOf c.2))
theorem crOk_nrm (c : Cr) : crOk (nrm c) = crOk c := by
  unfold crOk nrm
  have : (numsOf (bytesOf c.2)).length = c.2.length := by rw [numsOf_len]; simp [bytesOf]
  dsimp only
  rw [this]
theorem all_nrm (l : List Cr) : (l.map nrm).all crOk = l.all crOk := by
  rw [List.all_map]
  congr 1
  funext c
  exact crOk_nrm c
theorem mayT_nrm {n : Int} {cr : List Cr} {st : List Stp} : mayT (n, cr.map nrm, st) = mayT (n, cr, st) := by
  unfold mayT
  dsimp only
  rw [all_nrm, List.length_map]
theorem crE_nrm (c : Cr) : crE (nrm c) c = true := by
  unfold crE nrm
  dsimp only
  rw [bytesOf_numsOf]
  simp
theorem crsE_nrm : ∀ (l : List Cr), crsE (l.map nrm) l = true
  | [] => rfl
  | c :: l => by
    have ih := crsE_nrm l
    unfold crsE at ih ⊢
    rw [List.map_cons, List.zip_cons_cons, List.all_cons, ih, crE_nrm]
    rfl
theorem stsE_self : ∀ (l : List Stp), stsE l l = true
  | [] => rfl
  | c :: l => by
    have ih := stsE_self l
    unfold stsE at ih ⊢
    rw [List.zip_cons_cons, List.all_cons, ih]
    simp
theorem same_nrm (s : Sc) : sameT (s.1, s.2.1.map nrm, s.2.2) s = true := by
  unfold sameT
  dsimp only
  rw [crsE_nrm, stsE_self, List.length_map]
  simp
theorem diskT_spl (n : Int) : spl 32 (diskT n) = [sDisk, decN n.toNat] := by
  have e : diskT n = sDisk ++ 32 :: decN n.toNat := rfl
  rw [e, spl_app (by decide), spl_not (decN_32 _)]
theorem crashT_spl (c : Cr) : spl 32 (crashT c) = [sCrash, decN c.1.toNat, hexS (bytesOf c.2)] := by
  have e : crashT c = sCrash ++ 32 :: (decN c.1.toNat ++ 32 :: hexS (bytesOf c.2)) := by unfold crashT sCrash; simp
  rw [e, spl_app (by decide), spl_app (decN_32 _), spl_not (hexS_32 _)]
theorem word_first {e : Int} : wordZ e ≠ sDisk ∧ wordZ e ≠ sCrash := by
  unfold wordZ
  split
  · have h : ∀ n, n < 10 → wordN n ≠ sDisk ∧ wordN n ≠ sCrash := by decide +kernel
    exact h _ (by omega)
  · exact ⟨by decide, by decide⟩
theorem oneR_disk {n : Nat} (h : n ≤ 65536) : oneR (diskT n) 0 0 [] [] = (0, (n : Int), 1, [], []) := by
  unfold oneR
  have e0 : wAt (spl 32 (diskT n)) 0 = sDisk := by rw [diskT_spl]; rfl
  have e1 : numAt (spl 32 (diskT n)) 1 = (n : Int) := by
    rw [diskT_spl]
    unfold numAt wAt
    show (numR (decN ((n : Int).toNat))).1 = _
    rw [Int.toNat_natCast, numR_dec (by omega)]
  rw [if_pos e0, if_pos rfl, e1, if_pos rfl]
theorem oneR_crash {c : Cr} {n : Int} {cr : List Cr} {st : List Stp} (h : crOk c = true) : oneR (crashT c) n 1 cr st = (0, n, 1, cr ++ [nrm c], st) := by
  simp only [crOk, decide_eq_true_eq] at h
  unfold oneR
  have e0 : wAt (spl 32 (crashT c)) 0 = sCrash := by rw [crashT_spl]; rfl
  have hx : crAt (spl 32 (crashT c)) = nrm c := by
    rw [crashT_spl]
    unfold crAt nrm mask numAt wAt
    have e2 : Lib.join (List.drop 2 [sCrash, decN c.1.toNat, hexS (bytesOf c.2)]) [32] = hexS (bytesOf c.2) := by simp [Lib.join_cons, Lib.joinTail]
    rw [e2, bytR_hexS]
    show ((numR (decN c.1.toNat)).1, numsOf (bytesOf c.2)) = _
    rw [numR_dec (by omega)]
    dsimp only
    rw [Int.toNat_of_nonneg h.1]
  have hne : sCrash ≠ sDisk := by decide
  have hct : crashT (nrm c) = crashT c := by unfold crashT nrm; dsimp only; rw [bytesOf_numsOf]
  rw [e0, if_neg hne, if_neg (by decide), if_pos rfl, if_neg (by decide), hx, hct, if_pos rfl]
theorem oneR_step {x : Stp} {n a : Int} {cr : List Cr} {st : List Stp} (ha : a = 1 ∨ a = 2) (h : okS x) (hm : mayC x = true) : oneR (lineS x) n a cr st = (0, n, 2, cr, st ++ [x]) := by
  unfold oneR
  have e0 : wAt (spl 32 (lineS x)) 0 = wordZ x.1 := by unfold lineS; exact (spl_line h.1).1
  rw [e0, if_neg word_first.1, if_neg (by omega), if_neg word_first.2, parseS_line h hm]
theorem crashT_ne (c : Cr) : crashT c ≠ [] := by unfold crashT; simp
theorem parL_st {n : Int} {cr : List Cr} : ∀ (l : List Stp) (i : Nat) (a : Int) (st : List Stp), (a = 1 ∨ a = 2) → (∀ x ∈ l, okS x ∧ mayC x = true) → mayT (n, cr, st ++ l) = true →
    parL (l.map lineS ++ [[]]) i n a cr st = ((n, cr, st ++ l), 0, 0)
  | [], i, a, st, ha, _, hm => by
    rw [List.map_nil, List.nil_append, parL, if_pos rfl, parL, if_neg (by omega), List.append_nil]
    rw [List.append_nil] at hm
    rw [if_pos hm]
  | x :: l, i, a, st, ha, hs, hm => by
    obtain ⟨h1, h2⟩ := hs x (by simp)
    have e : st ++ x :: l = st ++ [x] ++ l := by simp
    rw [e] at hm ⊢
    rw [List.map_cons, List.cons_append, parL, if_neg (lineS_ne h2), oneR_step ha h1 h2]
    dsimp only
    rw [if_pos rfl]
    exact parL_st l (i + 1) 2 (st ++ [x]) (.inr rfl) (fun y hy => hs y (by simp [hy])) hm
theorem parL_cr {n : Int} {rest : List (List UInt8)} : ∀ (l : List Cr) (i : Nat) (cr : List Cr), (∀ c ∈ l, crOk c = true) → ∃ j, parL (l.map crashT ++ rest) i n 1 cr [] = parL rest j n 1 (cr ++ l.map nrm) []
  | [], i, cr, _ => ⟨i, by simp⟩
  | c :: l, i, cr, h => by
    obtain ⟨j, hj⟩ := parL_cr (n := n) (rest := rest) l (i + 1) (cr ++ [nrm c]) (fun x hx => h x (by simp [hx]))
    refine ⟨j, ?_⟩
    rw [List.map_cons, List.cons_append, parL, if_neg (crashT_ne c), oneR_crash (h c (by simp))]
    dsimp only
    rw [if_pos rfl, hj, List.map_cons, List.append_assoc]
    rfl
theorem parL_scr {s : Sc} (hm : mayT s = true) (ho : ∀ x ∈ s.2.2, okS x) : parL (scrL s ++ [[]]) 0 0 0 [] [] = ((s.1, s.2.1.map nrm, s.2.2), 0, 0) := by
  obtain ⟨n, cr, st⟩ := s
  have hm2 := hm
  simp only [mayT, Bool.and_eq_true, decide_eq_true_eq, List.all_eq_true] at hm2
  obtain ⟨⟨m1, m2, m3, m4⟩, m5, m6⟩ := hm2
  obtain ⟨q, rfl⟩ : ∃ q : Nat, n = (q : Int) := ⟨n.toNat, by omega⟩
  obtain ⟨j, hj⟩ := parL_cr (n := (q : Int)) (rest := st.map lineS ++ [[]]) cr 1 [] m5
  unfold scrL
  dsimp only
  rw [List.cons_append, parL, if_neg (by simp [diskT]), oneR_disk (by omega)]
  dsimp only
  rw [if_pos rfl, List.append_assoc]
  refine hj.trans ?_
  rw [List.nil_append]
  have := parL_st (n := (q : Int)) (cr := cr.map nrm) st j 1 [] (.inl rfl) (fun x hx => ⟨ho x hx, m6 x hx⟩) (by rw [List.nil_append, mayT_nrm]; exact hm)
  exact this
theorem spl_flat : ∀ (l : List (List UInt8)), (∀ w ∈ l, (10 : UInt8) ∉ w) → spl 10 (flatT l) = l ++ [[]]
  | [], _ => rfl
  | x :: l, h => by
    have e : flatT (x :: l) = x ++ 10 :: flatT l := by rw [flatT_cons]; simp
    rw [e, spl_app (h x (by simp)), spl_flat l (fun w hw => h w (by simp [hw]))]
    rfl
theorem scr_10 {s : Sc} (ho : ∀ x ∈ s.2.2, okS x) : ∀ w ∈ scrL s, (10 : UInt8) ∉ w := by
  intro w hw
  unfold scrL at hw
  rcases List.mem_cons.1 hw with rfl | hw
  · unfold diskT
    rw [List.mem_append, not_or]
    exact ⟨by decide, decN_10 _⟩
  · rcases List.mem_append.1 hw with hw | hw
    · obtain ⟨c, hc, rfl⟩ := List.mem_map.1 hw
      unfold crashT
      rw [List.mem_append, List.mem_append, List.mem_append, not_or, not_or, not_or]
      exact ⟨⟨⟨by decide, decN_10 _⟩, by decide⟩, hexS_10 _⟩
    · obtain ⟨x, hx, rfl⟩ := List.mem_map.1 hw
      exact lineS_10 (ho x hx)
theorem scr_len {s : Sc} (hm : mayT s = true) (ho : ∀ x ∈ s.2.2, okS x ∧ x.2.2.length ≤ 3000) : ∀ w ∈ scrL s, w.length ≤ 6999 := by
  simp only [mayT, Bool.and_eq_true, decide_eq_true_eq, List.all_eq_true] at hm
  obtain ⟨⟨m1, m2, m3, m4⟩, m5, m6⟩ := hm
  intro w hw
  unfold scrL at hw
  rcases List.mem_cons.1 hw with rfl | hw
  · have := disk_len (n := s.1) (by omega); omega
  · rcases List.mem_append.1 hw with hw | hw
    · obtain ⟨c, hc, rfl⟩ := List.mem_map.1 hw
      have := crash_len (m5 c hc); omega
    · obtain ⟨x, hx, rfl⟩ := List.mem_map.1 hw
      have := lineS_len (ho x hx).1
      have := (ho x hx).2
      omega
theorem read_scr {k : Nat} {s : Sc} (hk : 400000 ≤ k) (hm : mayT s = true) (hc : s.2.1.length ≤ 40 ∧ s.2.2.length ≤ 30) (ho : ∀ x ∈ s.2.2, okS x ∧ x.2.2.length ≤ 3000) : p_tape_Parse k (textT s) = some ((s.1, s.2.1.map nrm, s.2.2), 0, 0) := by
  have ho1 : ∀ x ∈ s.2.2, okS x := fun x hx => (ho x hx).1
  have hsl := scr_len hm ho
  have hll : (scrL s).length = s.2.1.length + s.2.2.length + 1 := by simp [scrL]; 
  have hfl : (crT s.2.1).length ≤ 201 * s.2.1.length := by
    simp only [mayT, Bool.and_eq_true, decide_eq_true_eq, List.all_eq_true] at hm
    rw [crT_flat]
    have := flat_len (B := 200) (s.2.1.map crashT) (fun w hw => by
      obtain ⟨c, hc, rfl⟩ := List.mem_map.1 hw
      exact crash_len (hm.2.1 c hc))
    rw [List.length_map] at this
    exact this
  have hlp := linesP_len s.2.2 ho
  have hdl : (diskT s.1).length ≤ 30 := by
    simp only [mayT, Bool.and_eq_true, decide_eq_true_eq, List.all_eq_true] at hm
    exact disk_len (by omega)
  have htl : (textT s).length ≤ 230000 := by
    unfold textT
    simp only [List.length_append, List.length_cons, List.length_nil]
    omega
  have hsp : spl 10 (textT s) = scrL s ++ [[]] := by rw [← flat_scr]; exact spl_flat _ (scr_10 ho1)
  rw [TParse_big (by omega) (by omega) (by omega) (by rw [hsp, List.length_append, hll]; simp only [List.length_cons, List.length_nil]; omega) (fun w hw => by
    rw [hsp] at hw
    rcases List.mem_append.1 hw with hw | hw
    · have := hsl w hw; omega
    · rw [List.mem_singleton.1 hw]; simp), hsp, parL_scr hm ho1]
theorem law_TapeTexts (s z : Sc) (hs : okD (.pair (.int .i64) (.pair (.sl (.pair (.int .i64) (.sl (.int .u8)))) (.sl (.pair (.int .i64) (.pair (.arr 32 (.int .u8)) .str))))) s) (hz : okD (.pair (.int .i64) (.pair (.sl (.pair (.int .i64) (.sl (.int .u8)))) (.sl (.pair (.int .i64) (.pair (.arr 32 (.int .u8)) .str))))) z) :
    p_dormouselaw40_TapeTexts (s.2.1.length + s.2.2.length + z.2.1.length + z.2.2.length + 400000) s z = some true := by
  have haw := awakeT (s.2.1.length + s.2.2.length + z.2.1.length + z.2.2.length)
  have hk : 400000 ≤ s.2.1.length + s.2.2.length + z.2.1.length + z.2.2.length + 400000 := by omega
  have hks : s.2.1.length < s.2.1.length + s.2.2.length + z.2.1.length + z.2.2.length + 400000 ∧ s.2.2.length < s.2.1.length + s.2.2.length + z.2.1.length + z.2.2.length + 400000 := ⟨by omega, by omega⟩
  have hkz : z.2.1.length < s.2.1.length + s.2.2.length + z.2.1.length + z.2.2.length + 400000 ∧ z.2.2.length < s.2.1.length + s.2.2.length + z.2.1.length + z.2.2.length + 400000 := ⟨by omega, by omega⟩
  generalize s.2.1.length + s.2.2.length + z.2.1.length + z.2.2.length + 400000 = k at *
  have ho : ∀ x ∈ s.2.2, okS x := fun x hx => okS_of (hs.2.2.2 x hx)
  have hj : ∀ a b, p_dormouselaw40_TapeTexts.j0 k true a b = some true := by
    intro a b
    unfold p_dormouselaw40_TapeTexts.j0
    rw [cond_true, haw]; rfl
  unfold p_dormouselaw40_TapeTexts joinC
  dsimp only
  rw [LightT_eq hks ⟨hs.2.1.1, hs.2.2.1⟩, Option.bind_some]
  cases hls : lightT s with
  | false => rw [Bool.not_false, cond_true]; exact hj _ _
  | true =>
    rw [Bool.not_true, cond_false, LightT_eq hkz ⟨hz.2.1.1, hz.2.2.1⟩, Option.bind_some]
    cases hlz : lightT z with
    | false => exact hj _ _
    | true =>
      have hls2 := hls
      simp only [lightT, light21, lightL, Bool.and_eq_true, decide_eq_true_eq, List.all_eq_true] at hls2 hlz
      obtain ⟨⟨h1, h2⟩, h3, h4⟩ := hls2
      obtain ⟨⟨g1, g2⟩, g3, g4⟩ := hlz
      unfold p_dormouselaw40_TapeTexts.j0 joinC p_dormouselaw40_As
      dsimp only
      have q1 := TText_eq (k := k) (s := s) (by omega) hls ho
      have q2 := RMay_eq (k := k) (s := s) ⟨by omega, by omega⟩ ⟨by omega, by omega⟩
      have q3 := TCheck_eq (k := k) (s := s) ⟨by omega, by omega⟩ ⟨by omega, by omega⟩
      have q4 := TSame_eq (k := k) (a := s) (b := z) ⟨by omega, by omega⟩ ⟨by omega, by omega⟩ ⟨by omega, by omega⟩
      have q5 := RSame_eq (k := k) (a := s) (b := z) ⟨by omega, by omega⟩ ⟨by omega, by omega⟩
      rw [Bool.not_true, cond_false, q1, Option.bind_some, Option.bind_some, q2, Option.bind_some, q3, Option.bind_some, q4, Option.bind_some, Option.bind_some, Option.bind_some, q5, Option.bind_some]
      have e0 : ((0 : Int) == 0) = true := rfl
      have e3 : ((3 : Int) == 3) = true := rfl
      cases hm : mayT s with
      | false =>
        have e1 : ((3 : Int) == 0) = false := rfl
        simp only [Bool.false_eq_true, if_false, e1, Bool.not_false, Bool.true_eq_false, BEq.rfl, Bool.not_true, cond_false, bne_self_eq_false]
        unfold p_dormouselaw40_TapeTexts.j1 joinC p_dormouselaw40_TapeTexts.j2
        rw [cond_false, Bool.not_false, cond_true, haw]
        rfl
      | true =>
        simp only [if_true, e0, Bool.not_true, BEq.rfl, Bool.not_false, cond_false, bne_self_eq_false]
        unfold p_dormouselaw40_TapeTexts.j1 joinC p_dormouselaw40_TapeTexts.j3 p_dormouselaw40_As
        dsimp only
        have hrt := RText_eq (k := k) (s := s) (by omega) (by omega) hm (fun x hx => ⟨ho x hx, by simp only [mayT, Bool.and_eq_true, List.all_eq_true] at hm; exact hm.2.2 x hx, by have := h3 x hx; omega, by have := h3 x hx; omega⟩)
        have hsm := RSame_eq (k := k) (a := (s.1, s.2.1.map nrm, s.2.2)) (b := s) ⟨by simp only [List.length_map]; omega, by dsimp only; omega⟩ ⟨by simp only [List.length_map]; omega, by dsimp only; omega⟩
        dsimp only at hsm
        rw [cond_false, Bool.not_true, cond_false, read_scr hk hm ⟨h2, h4⟩ (fun x hx => ⟨ho x hx, h3 x hx⟩), Option.bind_some, haw, Option.bind_some, cond_true, e0, cond_true, Option.bind_some, hrt, Option.bind_some]
        dsimp only
        rw [BEq.rfl, cond_true, cond_true, cond_true, Option.bind_some, Option.bind_some, hsm, Option.bind_some, same_nrm]
end Go.Dor.Tp
end

section
/- AN ARGUMENT OF A LAW, as data of its type: numbers fit, the value reads as the data. -/
namespace Go.Dor
section
variable {H : Type} {enc' : TypeId × Value → H} {P : Program} {w : World}

def vOf : (c : T) → den c → V
  | .int k, n => .one (.i k n)
  | .bool, x => .one (.b x)
  | .str, l => .one (.s l)
  | .flt k, n => .one (.f k n)
  | .sl e, xs => .one (.ro e xs)
  | .unit, x => .ag (enc .unit x)
  | .pair a b, x => .ag (enc (.pair a b) x)
  | .arr n e, x => .ag (enc (.arr n e) x)

def aggT : T → Bool
  | .unit | .pair .. | .arr .. => true
  | _ => false

theorem okWide_agg {t : TypeId} {r : Reach} {base : Nat} {v : Value} (hv : Value.okWide P w r base t v) (hg : (∃ fs, P.underlying t = some (.struct fs)) ∨ ∃ m e, P.underlying t = some (.array m e)) : ∃ cs, v = .agg cs := by
  rcases hg with ⟨fs, hg⟩ | ⟨m, e, hg⟩ <;>
  · simp only [Value.okWide, hg] at hv
    obtain ⟨cs, h1, _⟩ := hv
    exact ⟨cs, h1⟩

theorem one_cells {v : Value} (h : ∀ cs, v ≠ .agg cs) : v.cells.toList = [v] := by
  cases v <;> first | rfl | exact absurd rfl (h _)

theorem arg_rv {t : TypeId} {v : Value} {d : DataW H} {p : List MemPlace} {c : T} (hag : (match P.underlying t with | some (.struct _) | some (.array _ _) => true | _ => false) = aggT c)
    (h : DataW.Trod enc' P w 0 (fun _ => true) true t v d p) (hc : codeT P depth t = some c) (ht : tiled P depth t = true) {r : Reach} {base : Nat} (hv : Value.okWide P w r base t v) : ∃ a : den c, Rv (m0 w) (vOf c a) v ∧ okD c a := by
  obtain ⟨a, ha, hk⟩ := arg_ok h hc ht
  refine ⟨a, ?_, hk⟩
  cases hx : aggT c with
  | true =>
    rw [hx] at hag
    have hcs : ∃ cs, v = .agg cs := by
      split at hag
      · rename_i fs hu; exact okWide_agg hv (.inl ⟨_, hu⟩)
      · rename_i m e hu; exact okWide_agg hv (.inr ⟨_, _, hu⟩)
      · cases hag
    obtain ⟨cs, hcs⟩ := hcs
    cases c <;> first | exact rv_ag hcs ha | cases hx
  | false =>
    rw [hx] at hag
    have hne : ∀ cs, v ≠ .agg cs := by
      rintro cs rfl
      split at hag
      · cases hag
      · cases hag
      · rename_i h1 h2
        unfold Value.okWide at hv
        split at hv
        · rename_i hu; exact h1 _ hu
        · rename_i hu; exact h2 _ _ hu
        · unfold Cell.okWide at hv
          cases hu : P.underlying t with
          | none => rw [hu] at hv; simp [Cell.ok, hu] at hv
          | some u => cases u <;> simp_all [Cell.ok]
    rw [one_cells hne] at ha
    cases c <;> first | exact ha | cases hx
end
end Go.Dor
end

section
/- TapeTexts AT EVERY INPUT: true; each argument reads behind the call as it read before. No condition but the row's own. -/
namespace Go.Proofs.YtmfldcggbfcfbaaDoor
open Go.ChangeShapes Go.WideShapes Go.ChangeAt Go.RowKit

theorem tapeTexts_ownNone : ownKnob Tryd.prog.godebug = none := by kernel_rfl
theorem tapeTexts_laidOk : laidOutB Tryd.prog = true := by kernel_rfl
/-- A world that meets the condition: the listed variables' cells laid. -/
noncomputable def tapeTexts_laidWorld (os : Os) : World :=
  let w0 := World.holding Tryd.prog os ⟨#[], #[], []⟩
  let put (h : Array Obj) (g : Nat) (cs : Array Value) : Array Obj := h.modify g fun
    | .cells _ t frozen => .cells cs t frozen
    | o => o
  let h1 := put w0.heap 1 (Go.Pinned.utf8FirstZ.map fun (z : Nat) => Value.int .u8 (z : Int)).toArray
  let h2 := put h1 2 (([128, 191, 160, 191, 128, 159, 144, 191, 128, 143, 0, 0, 0, 0, 0, 0, 0, 0, 0, 0, 0, 0, 0, 0, 0, 0, 0, 0, 0, 0, 0, 0] : List Int).map fun z => Value.int .u8 z).toArray
  { w0 with heap := h2 }
set_option maxRecDepth 100000 in
theorem tapeTexts_laid_met (os : Os) (args : Array Value) : laidMet Tryd.prog Rows.tapeTextsRow.laid ((tapeTexts_laidWorld os).forCall (fun _ _ => 0) ⟨#[], args, []⟩).memory :=
  (LaidIn.of_run [1, 2] 8 (by kernel_rfl) (by kernel_rfl) (by kernel_rfl) (by kernel_rfl)).met
set_option maxRecDepth 100000 in
theorem tapeTexts_laidWorld_met (os : Os) (args : Array Value) : laidMetH Tryd.prog Rows.tapeTextsRow.laid ((tapeTexts_laidWorld os).forCall (fun _ _ => 0) ⟨#[], args, []⟩).memory :=
  tapeTexts_laid_met os args
set_option maxRecDepth 100000 in
theorem tapeTexts_lifted (os : Os) (started : os.Started) (H : Type) (enc : TypeId × Value → H) :
    ReturnsInHanded {} Tryd.checked os 5 .any (fun w args => (Rows.tapeTextsSpec.pre enc Tryd.prog Tryd.f5 [] false w args ∧ laidMetH Tryd.prog Rows.tapeTextsRow.laid w) ∧ sizedMet enc Tryd.prog Tryd.f5 (OpenSpec.ofChange Rows.tapeTextsSpec) false w args) (Rows.tapeTextsSpec.post enc Tryd.prog Tryd.f5 false true false false) := by
  refine returnsInHanded_of_change_and (C := Tryd.checked) (X := fun w _ => laidMetH Tryd.prog Rows.tapeTextsRow.laid w) (fun _ _ _ hh h => h.of_heap hh) tapeTexts_ownNone started (by kernel_rfl) Tryd.func5
    (ChangeSpec.witness_at (enc := enc) (C := Tryd.checked) (os := os) (X := fun w _ => laidMetH Tryd.prog Rows.tapeTextsRow.laid w) false (tapeTexts_laidWorld os) #[.agg #[.int .i64 0, .slice none 0 0, .slice none 0 0], .agg #[.int .i64 0, .slice none 0 0, .slice none 0 0]] 8 rfl (by kernel_rfl) (by kernel_rfl) (by kernel_rfl) (by kernel_rfl) (by kernel_rfl) (tapeTexts_laidWorld_met os _)) ?_
  intro W base args ds gs before hval0 hW _ _ _ _
  have hval : ∀ (j : Nat) t v, Tryd.f5.params[j]? = some t → args[j]? = some v → Value.okWide Tryd.prog W .any base t v := hval0
  have hW' := hW
  obtain ⟨p, q, hA0, hV, rfl, _, _⟩ := hW
  have hA : DataW.TrodAll enc Tryd.prog W 0 (fun _ => true) true Tryd.f5.params.toList args.toList ds p := hA0
  have hA2 := hA
  rw [Tryd.params5] at hA hval
  obtain ⟨rfl, rfl⟩ := trodVars_none hV
  simp only [List.append_nil] at hW'
  have hlt : ∀ x ∈ p, x.block < W.heap.size := fun x hx => by simpa using hW'.lt x hx
  obtain ⟨v0, v1, d0, d1, p0, p1, rfl, rfl, rfl, h0, h1⟩ := trodAll_two hA
  obtain ⟨a0, r0, k0⟩ := Dor.arg_rv (c := .pair (.int .i64) (.pair (.sl (.pair (.int .i64) (.sl (.int .u8)))) (.sl (.pair (.int .i64) (.pair (.arr 32 (.int .u8)) .str))))) (by kernel_rfl) h0 (by kernel_rfl) (by kernel_rfl) (hval 0 _ v0 rfl rfl)
  obtain ⟨a1, r1, k1⟩ := Dor.arg_rv (c := .pair (.int .i64) (.pair (.sl (.pair (.int .i64) (.sl (.int .u8)))) (.sl (.pair (.int .i64) (.pair (.arr 32 (.int .u8)) .str))))) (by kernel_rfl) h1 (by kernel_rfl) (by kernel_rfl) (hval 1 _ v1 rfl rfl)
  have hk := Dor.Tp.law_TapeTexts a0 a1 k0 k1
  refine (Dor.law_calls (Dor.s_dormouselaw40_TapeTexts (List.length a0.2.1 + List.length a0.2.2 + List.length a1.2.1 + List.length a1.2.2 + 400000)) (vals := [v0, v1]) (x := (a0, a1)) (w := W) ⟨r0, r1, trivial⟩ hk).mono fun e W' ⟨he, hnx⟩ => ⟨_, he, ?_⟩
  refine ⟨_, _, _, [] ++ [], p0 ++ p1, [], hW', trodAll_mk1 (shut_bool (by kernel_rfl) true), ?_, rfl, hnx.frame _, fun h => by cases h⟩
  exact Dor.trodAll_stays tapeTexts_laidOk hnx (by decide +kernel) hA2 hlt

theorem tapeTexts_holds : Rows.TapeTextsSaid :=
  OpenClaim.holds_of_wide 5 Tryd.f5 rfl rfl rfl rfl rfl rfl rfl ⟨rfl, rfl, rfl, rfl, rfl⟩ rfl rfl rfl rfl rfl (by kernel_rfl) Tryd.func5 (by kernel_rfl)
    (of_decide_eq_true (by kernel_rfl)) (by unfold Func.isWrapper; first | (rw [if_pos (by decide +kernel)]; kernel_rfl) | (rw [if_neg (by decide +kernel)]; exact ⟨rfl, rfl⟩))
    (fun os started H enc _ => tapeTexts_lifted os started H enc)

theorem tapeTexts_card : Rows.TapeTextsCardSaid :=
  Claim7.holds_tied_plain_at .later [] [.data, .pinned] true (true, "521ffeb49ba3d178d38c0a9f0d2d282dfb27837396b0bdd165259254d6925f5c") false
    tapeTexts_holds (fun _ h => by cases h) (by kernel_rfl) (fun _ h => by cases h) tapeTexts_row_tie rfl ⟨rfl, rfl⟩ (by kernel_rfl) rfl
    (fun f fn hf hfn => by
      obtain rfl : f = 5 := Option.some.inj ((show Tryd.prog.funcNamed "dormouse/dormouselaw40.TapeTexts" = some 5 by kernel_rfl).symm.trans hf) |>.symm
      obtain rfl : fn = Tryd.f5 := (Option.some.inj (Tryd.func5.symm.trans hfn)).symm
      exact ⟨by kernel_rfl, fun j t ht => by
        have h3 : (Tryd.f5.params.toList.all fun t => !Tryd.prog.wantsStandIn t) = true := by kernel_rfl
        have hm : t ∈ Tryd.f5.params.toList := by rw [Array.mem_toList_iff]; exact Array.mem_of_getElem? ht
        exact (show Tryd.prog.wantsStandIn t = false by simpa using List.all_eq_true.1 h3 t hm)⟩)
    (by kernel_rfl)

end Go.Proofs.YtmfldcggbfcfbaaDoor
end
