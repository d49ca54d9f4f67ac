/- THE ROW, AND WHAT IT STANDS ON: the texts Zs Zu Zt Wa Zv Wb Na Fa Fb Fc Fd Fe Ff Fg Fh R6, one behind the other. -/
import Derived.Test.YtkffblmobccedaaX63
import Derived.Shelf.SlSortCmp.NoneTotal
import Derived.Test.YtkffblmobccedaaProg
import Derived.Shelf.SlLaysF
import Derived.Shelf.SlLaysF0
import Derived.KernelRfl
import Derived.Test.YtkffblmobccedaaX62
import Derived.Test.YtkffblmobccedaaX61
import Derived.Test.YtkffblmobccedaaRows
import Derived.ProofKit
import Derived.SizedLaws
section
/- slices.SortFunc AS AN ENTRY: what the shelf proves of it, turned to the machine's words. Plain lemmas over any program that bears it. -/
set_option linter.unusedVariables false
set_option linter.unusedSimpArgs false
namespace Go.Dor
open Go.Proofs Go.Shelf Go.Sort

/-! ### cells of data without slices -/
def encC : (t : T) → den t → List Value
  | .int k, n => [.int k n]
  | .bool, x => [.bool x]
  | .str, l => [sv l]
  | .flt k, n => [.float k n]
  | .fx _, _ => []
  | .unit, _ => []
  | .pair a b, x => encC a x.1 ++ encC b x.2
  | .arr _ e, x => (x.toList.map (encC e)).flatten
  | .sl _, _ => []
theorem al2_map {α β : Type} {R : α → β → Prop} {f : α → β} (h : ∀ x y, R x y ↔ y = f x) : ∀ {xs : List α} {ys : List β}, Al2 R xs ys ↔ ys = xs.map f
  | [], [] => by simp [Al2]
  | [], _ :: _ => by simp [Al2]
  | _ :: _, [] => by simp [Al2]
  | x :: xs, y :: ys => by
    rw [List.map_cons, List.cons.injEq]
    show R x y ∧ Al2 R xs ys ↔ _
    rw [h, al2_map h]
theorem at_encC {w : World} {I : Nat → Prop} : ∀ (t : T) (x : den t) (c : List Value), flat t = true → (At w I t x c ↔ c = encC t x)
  | .int _, _, _, _ => Iff.rfl
  | .bool, _, _, _ => Iff.rfl
  | .str, _, _, _ => Iff.rfl
  | .flt _, _, _, _ => Iff.rfl
  | .fx _, _, _, hf => by cases hf
  | .unit, _, _, _ => Iff.rfl
  | .pair a b, x, c, hf => by
    have hf : (flat a && flat b) = true := hf
    rw [Bool.and_eq_true] at hf
    constructor
    · rintro ⟨c1, c2, rfl, h1, h2⟩
      rw [(at_encC a _ _ hf.1).1 h1, (at_encC b _ _ hf.2).1 h2]
      rfl
    · rintro rfl
      exact ⟨_, _, rfl, (at_encC a _ _ hf.1).2 rfl, (at_encC b _ _ hf.2).2 rfl⟩
  | .arr n e, x, c, hf => by
    have hf : flat e = true := hf
    constructor
    · rintro ⟨ys, rfl, h⟩
      rw [(al2_map fun x c => at_encC e x c hf).1 h]
      rfl
    · rintro rfl
      exact ⟨_, rfl, (al2_map fun x c => at_encC e x c hf).2 rfl⟩
theorem encC_len {t : T} (hf : flat t = true) (x : den t) : (encC t x).length = wid t := At.len (w := default) (I := fun _ => True) t x _ ((at_encC t x _ hf).2 rfl)
theorem encC_one {t : T} (hf : flat t = true) (x : den t) : ∀ v ∈ encC t x, v.oneCell' = true := At.one (w := default) (I := fun _ => True) t x _ ((at_encC t x _ hf).2 rfl)

/-! ### a row of them -/
theorem flat_atK {α : Type} [Inhabited α] {enc : α → List Value} {k : Nat} (hk : ∀ x, (enc x).length = k) : ∀ (l : List α) (j : Nat), j < l.length * k → (l.map enc).flatten[j]? = some ((enc (l.toArray[j / k]!))[j % k]!)
  | [], j, h => by simp at h
  | a :: l, j, h => by
    have hk0 : 0 < k := by
      rcases Nat.eq_zero_or_pos k with q | q
      · subst q; simp at h
      · exact q
    rw [List.map_cons, List.flatten_cons]
    by_cases hj : j < k
    · rw [List.getElem?_append_left (by rw [hk]; exact hj), Nat.div_eq_of_lt hj, Nat.mod_eq_of_lt hj]
      have e : (a :: l).toArray[0]! = a := by simp
      rw [e, getElem!_pos _ j (by rw [hk]; exact hj), List.getElem?_eq_getElem]
    · have e : (l.length + 1) * k = l.length * k + k := Nat.succ_mul _ _
      rw [List.length_cons, e] at h
      have ih := flat_atK hk l (j - k) (by omega)
      rw [List.getElem?_append_right (by rw [hk]; omega), hk, ih]
      have h1 : j / k = (j - k) / k + 1 := by rw [Nat.div_eq_sub_div hk0 (by omega)]
      have h2 : j % k = (j - k) % k := by rw [Nat.mod_eq_sub_mod (by omega)]
      have h3 : ∀ i, (a :: l).toArray[i + 1]! = l.toArray[i]! := fun i => by simp [Array.getElem!_eq_getD, Array.getD]
      rw [h1, h2, h3]
theorem flatK_list {α : Type} [Inhabited α] {enc : α → List Value} {k : Nat} (hk : ∀ x, (enc x).length = k) (l : List α) (j : Nat) (h : j < l.length * k) : (l.map enc).flatten[j]? = some (flatK enc k l.toArray)[j]! := by
  rw [flat_atK hk l j h, get_flatK enc k l.toArray j (by simpa using h)]
theorem flat_size {α : Type} {enc : α → List Value} {k : Nat} (hk : ∀ x, (enc x).length = k) : ∀ (l : List α), (l.map enc).flatten.length = l.length * k
  | [] => by simp
  | a :: l => by rw [List.map_cons, List.flatten_cons, List.length_append, hk, flat_size hk l, List.length_cons, Nat.succ_mul]; omega
theorem holds_row {α : Type} [Inhabited α] {enc : α → List Value} {k : Nat} (hk : ∀ x, (enc x).length = k) {w : World} {b : Nat} {cur : Array Value} {ty : TypeId} {fz : Nat × Nat} {l : List α} (hb : w.heap[b]? = some (.cells cur ty fz))
    (hfz : ∀ j, j < cur.size → ¬ (fz.1 ≤ j ∧ j < fz.2)) (hx : ∀ (j : Nat) x, (l.map enc).flatten[j]? = some x → cur[j]? = some x) : HoldsK enc k w b 0 l.toArray := by
  intro j hj
  rw [size_flatK] at hj
  have hj' : j < l.length * k := by simpa using hj
  have h1 := hx j _ (flatK_list hk l j hj')
  have h2 : j < cur.size := (Array.getElem?_eq_some_iff.1 h1).1
  refine ⟨?_, ?_⟩
  · simp only [World.cell?, hb, Nat.zero_add, Option.isSome_none, Bool.false_eq_true, if_false]
    exact h1
  · have h3 := hfz j h2
    simp only [World.frozen?, hb, Nat.zero_add]
    simpa using h3
section
variable {α : Type} [Inhabited α] {enc : α → List Value} {k : Nat}
theorem heap_sortedK {w : World} {b n : Nat} {os : Array Obj} {cur : Array Value} {ty : TypeId} {fz : Nat × Nat} (d : Array α) (hb : w.heap[b]? = some (.cells cur ty fz)) :
    (sortWorldK enc k w b 0 n d os).heap[b]? = some (.cells (putCells id 0 (flatK enc k d) cur) ty fz) := by
  have hg : b < w.heap.size := (Array.getElem?_eq_some_iff.1 hb).1
  unfold sortWorldK putRowK
  rw [heap_grow_old _ _ (by simpa using hg)]
  simp [putRow, mapBlock, Sort.ahead, Array.getElem?_modify, hb, onCells]
theorem grown_sortedK {w : World} {b n : Nat} {os : Array Obj} (d : Array α) : w.grownBy (sortWorldK enc k w b 0 n d os) (some b) := by
  refine ⟨rfl, rfl, rfl, by simp [sortWorldK, putRowK], fun q hq hne => ?_⟩
  unfold sortWorldK putRowK
  rw [heap_grow_old _ _ (by simpa using hq)]
  have : b ≠ q := fun e => hne (by rw [e])
  simp [putRow, mapBlock, Sort.ahead, Array.getElem?_modify, this]
theorem own_sortedK (hk : ∀ x, (enc x).length = k) {w : World} {b n cap : Nat} {os : Array Obj} {cur : Array Value} {ty : TypeId} {fz : Nat × Nat} {l l' : List α} (hl : l'.length = l.length) (hb : w.heap[b]? = some (.cells cur ty fz))
    (h1 : l.length ≤ cap) (h2 : cap ≤ maxLen) (h3 : cur.size = cap * k) (hfz : ∀ j, j < cur.size → ¬ (fz.1 ≤ j ∧ j < fz.2)) :
    Own (sortWorldK enc k w b 0 n l'.toArray os) (.slice (some ⟨b, 0, none⟩) l.length cap) ty k (l'.map enc) := by
  have hs : (putCells id 0 (flatK enc k l'.toArray) cur).size = cur.size := by simp [putCells]
  refine ⟨fun x hx => ?_, .inr ⟨b, cap, _, fz, by rw [List.length_map, hl], by rw [List.length_map, hl]; exact h1, h2, heap_sortedK _ hb, fun j hj => hfz j (by rw [← hs]; exact hj), by rw [hs, h3], fun j x hx => ?_⟩⟩
  · obtain ⟨a, _, rfl⟩ := List.mem_map.1 hx
    exact hk a
  · have hj : j < l'.length * k := by
      have := (List.getElem?_eq_some_iff.1 hx).1
      rw [flat_size hk] at this
      exact this
    rw [flatK_list hk l' j hj] at hx
    have hjc : j < cur.size := by
      rw [h3]
      exact Nat.lt_of_lt_of_le hj (Nat.mul_le_mul_right _ (by omega))
    have e : (putCells id 0 (flatK enc k l'.toArray) cur)[j]? = some (flatK enc k l'.toArray)[j]! := by
      have h5 : 0 ≤ j ∧ j < 0 + (flatK enc k l'.toArray).size := ⟨Nat.zero_le _, by rw [size_flatK]; simpa using hj⟩
      simp only [putCells, Array.getElem?_mapIdx, Array.getElem?_eq_getElem hjc, Option.map_some, if_pos h5, Nat.sub_zero, id]
    rw [e]
    exact hx
end

/-! ### the closure's contract -/
theorem world_grown {w w' : World} (h1 : w'.os = w.os) (h2 : w'.tape = w.tape) (h3 : w'.output = w.output) (h4 : w.heap.size ≤ w'.heap.size) (h5 : ∀ b, b < w.heap.size → w'.heap[b]? = w.heap[b]?) (h6 : w.drawn ≤ w'.drawn) : ∃ q os', w' = grow (w.drewN q) os' := by
  obtain ⟨hp, tp, dr, o, out⟩ := w
  obtain ⟨hp', tp', dr', o', out'⟩ := w'
  dsimp only at *
  subst h1 h2 h3
  refine ⟨dr' - dr, hp'.extract hp.size hp'.size, ?_⟩
  have e : (World.drewN ⟨hp, tp', dr, o', out'⟩ (dr' - dr)) = ⟨hp, tp', dr + (dr' - dr), o', out'⟩ := by
    rfl
  rw [e]
  unfold grow
  have e2 : hp ++ hp'.extract hp.size hp'.size = hp' := by
    apply Array.ext_getElem?
    intro i
    rw [Array.getElem?_append]
    by_cases hi : i < hp.size
    · rw [if_pos hi]; exact (h5 i hi).symm
    · rw [if_neg hi, Array.getElem?_extract]
      have : hp.size + (i - hp.size) = i := by omega
      by_cases hj : i < hp'.size
      · rw [if_pos (by omega), this]
      · rw [if_neg (by omega), Array.getElem?_eq_none (by omega)]
  dsimp only
  rw [e2]
  congr 1
  omega
abbrev cmpE (t : T) (fn : den t × den t → Option Int) : Entry := ⟨Ds.mk [Vd.st t, Vd.st t] [], Ds.mk [Vd.one (Ld.im (.int .i64))] [], fn⟩
theorem cmp_calls {P : Program} {c : Nat} {t : T} {fn : den t × den t → Option Int} (ft : flat t = true) (hc : Entry.Sound P c (cmpE t fn)) {x y : den t} {z : Int} (h : fn (x, y) = some z) (W : World) :
    Calls P c #[.agg (encC t x).toArray, .agg (encC t y).toArray] W fun e w' => e = .returned (.int .i64 z) ∧ ∃ q os', w' = grow (W.drewN q) os' := by
  have rv : ∀ a : den t, Rv (m0 W) (.ag (Dor.enc t a)) (.agg (encC t a).toArray) := fun a => by
    obtain ⟨s, h1, h2⟩ := At.enc (m := m0 W) t a _ ((at_encC t a _ ft).2 rfl)
    refine ⟨s, ?_, h2⟩
    rw [h1]
    simp [ag, cells]
  have hs : Start (cmpE t fn).pre (x, y) (fun _ => True) W (fun _ => undef) [.agg (encC t x).toArray, .agg (encC t y).toArray] := by
    have hg : givenO (cmpE t fn).pre id (x, y) = [] := rfl
    refine ⟨?_, rv x, rv y, trivial⟩
    refine ⟨rfl, rfl, .refl _, rfl, Nat.le_refl _, fun _ _ _ => rfl, fun b _ => ?_, fun id o hid => ?_, fun id hid => ?_, fun i j hi => ?_⟩
    · rintro ⟨i, hi, _⟩
      rw [hg] at hi
      simp [lives, liveO] at hi
    · rw [hg] at hid; simp at hid
    · rw [hg] at hid; simp [lives, liveO] at hid
    · rw [hg] at hi; simp [lives, liveO] at hi
  refine (hc.out (x, y) z h (fun _ => True) W (fun _ => undef) _ hs).mono fun e w' ⟨vs, g', he, R', hv', _⟩ => ?_
  obtain ⟨v, vs, rfl, h1, h2⟩ := hv'.cons_left
  obtain rfl := h2.nil_left
  have h1 : [v] = [Value.int .i64 z] := h1
  cases h1
  refine ⟨he, world_grown R'.os R'.tape R'.output R'.size (fun b hb => R'.old b hb ?_) R'.drawn.le⟩
  rintro ⟨i, hi, _⟩
  have hg' : lives ([] : Hm) i := hi
  simp [lives, liveO] at hg'

/-! ### the sort -/
noncomputable def sortL {t : T} (cf : den t → den t → Int) (l : List (den t)) : List (den t) :=
  letI : Inhabited (den t) := ⟨dflt t⟩
  (pdq (ltOf cf) l.toArray 0 l.length (Lib.bitLen l.length) true true).toList
theorem sortL_perm {t : T} {cf : den t → den t → Int} (hO : SWO (ltOf cf)) (l : List (den t)) : (sortL cf l).Perm l := by
  letI : Inhabited (den t) := ⟨dflt t⟩
  have h := pdq_sorts (ltOf cf) hO l.toArray 0 l.length (Lib.bitLen l.length) true true (Nat.zero_le _) (by simp) (Or.inl rfl)
  have h1 := h.1.2.2
  have h2 := h.1.1
  have e1 : (l.toArray.extract 0 l.length).toList = l := by simp
  have e2 : ((pdq (ltOf cf) l.toArray 0 l.length (Lib.bitLen l.length) true true).extract 0 l.length).toList = sortL cf l := by
    have h3 : (pdq (ltOf cf) l.toArray 0 l.length (Lib.bitLen l.length) true true).size = l.length := by rw [h2]; simp
    unfold sortL
    generalize pdq (ltOf cf) l.toArray 0 l.length (Lib.bitLen l.length) true true = A at h3 ⊢
    rw [← h3]
    simp
  rw [e1, e2] at h1
  exact h1
theorem sortL_len {t : T} {cf : den t → den t → Int} (hO : SWO (ltOf cf)) (l : List (den t)) : (sortL cf l).length = l.length := (sortL_perm hO l).length_eq
theorem sortL_sorted {t : T} {cf : den t → den t → Int} (hO : SWO (ltOf cf)) (l : List (den t)) : (sortL cf l).Pairwise fun a b => ¬ cf b a < 0 := by
  letI : Inhabited (den t) := ⟨dflt t⟩
  have h := pdq_sorts (ltOf cf) hO l.toArray 0 l.length (Lib.bitLen l.length) true true (Nat.zero_le _) (by simp) (Or.inl rfl)
  have hs : (pdq (ltOf cf) l.toArray 0 l.length (Lib.bitLen l.length) true true).size = l.length := by rw [h.1.1]; simp
  rw [List.pairwise_iff_getElem]
  intro i j hi hj hij
  have hj' : j < l.length := by rw [sortL_len hO] at hj; exact hj
  have h2 := h.2 i j (Nat.zero_le _) hij hj'
  unfold sortL
  rw [getElem!_pos _ j (by rw [hs]; exact hj'), getElem!_pos _ i (by rw [hs]; omega)] at h2
  simp only [ltOf, decide_eq_false_iff_not] at h2
  intro hlt
  refine h2 ?_
  rw [← Array.getElem_toList, ← Array.getElem_toList]
  exact hlt
noncomputable def sortE (t : T) (ty : TypeId) (c : Nat) (cf : den t → den t → Int) : Entry := ⟨Ds.mk [Vd.one (Ld.own 0), Vd.one (Ld.fn c [])] [Od.arr ty t], Ds.mk [] [Od.arr ty t], fun (l : List (den t)) => need (l.length < 4611686018427387904) (some (sortL cf l))⟩
theorem sortK_sound {P : Program} {ρ : Go.Shelf.Ren} (L : SlLaysF0.n6 P ρ) {t : T} {ty : TypeId} {c : Nat} {fn : den t × den t → Option Int} (ft : flat t = true) (hc : Entry.Sound P c (cmpE t fn))
    (cf : den t → den t → Int) (hcf : ∀ x y, fn (x, y) = some (cf x y)) (hO : SWO (ltOf cf)) (aE : ∀ w, (isAgg (ρ.t 24)).run P w = .ok true w) (zE : ∀ w, (Go.sizeOf (ρ.t 24)).run P w = .ok (wid t) w)
    (eg : ∀ args w, (callFunc c args).run P w = .ok (.enter c args) w) : Entry.Sound P (ρ.f 6) (sortE t ty c cf) := ⟨fun (l : List (den t)) y hy S w g vals hst => by
  letI : Inhabited (den t) := ⟨dflt t⟩
  obtain ⟨hsz, hy⟩ := need_some hy
  cases hy
  have hrel := hst.rel
  obtain ⟨v0, vs1, rfl, h0, hv1⟩ := hst.vals.cons_left
  obtain ⟨v1, vs2, rfl, hf, hv2⟩ := hv1.cons_left
  obtain rfl := hv2.nil_left
  obtain ⟨_, hf⟩ := hf
  cases hf
  obtain ⟨_, v, hv, hone, hcells, hlive⟩ := h0
  cases hv
  have live0 : lives (givenO (sortE t ty c cf).pre id l) 0 := rfl
  have hvg : v0 = g 0 := hlive live0
  subst hvg
  obtain ⟨ys, hown, hal⟩ := hrel.obj 0 (.arr ty t l) rfl
  have hys : ys = l.map (encC t) := (al2_map fun x c => at_encC t x c ft).1 hal
  have hk : ∀ x : den t, (encC t x).length = wid t := encC_len ft
  have none_ : ∀ (p : Option Addr) (cap : Nat), g 0 = .slice p 0 cap → l = [] → Calls P (ρ.f 6) [g 0, .func (.func c) #[] #[]].toArray w fun e w' => ∃ vs g', e = .returned (one vs) ∧ Rel (lentOf (givenO (sortE t ty c cf).pre id l) g) S w (givenO (sortE t ty c cf).post id (sortL cf l)) g' w' ∧
      Al2 (Rv (memOf (lentOf (givenO (sortE t ty c cf).pre id l) g) S w (givenO (sortE t ty c cf).post id (sortL cf l)) g' w')) (givenV (sortE t ty c cf).post id (sortL cf l)).1 vs ∧ ∀ i, i < (sortE t ty c cf).pre.objs.length → g' i = g i := by
    intro p cap hp hl
    have hn : sortL cf l = l := by
      have := sortL_len hO l
      rw [hl] at this ⊢
      exact List.eq_nil_of_length_eq_zero this
    rw [hn]
    rw [hp]
    refine (AnyF.slices_SortFunc_none L p cap (.func (.func c) #[] #[]) w).mono fun e w' ⟨he, hw⟩ => ?_
    subst hw
    exact ⟨[], g, he, hrel, trivial, fun _ _ => rfl⟩
  by_cases hl0 : l = []
  · rcases hown.2 with ⟨⟨a, hva, _⟩, _⟩ | ⟨b, cap, cur, fz, hv, _⟩
    · exact none_ a 0 hva hl0
    · rw [hys, hl0] at hv
      exact none_ _ cap hv hl0
  · rcases hown.2 with ⟨_, hn⟩ | ⟨b, cap, cur, fz, hv, hnc, hcm, hgc, hfz, hcs, hx⟩
    · rw [hys] at hn
      exact absurd (List.map_eq_nil_iff.1 hn) hl0
    · rw [hys, List.length_map] at hv hnc
      rw [hys] at hx
      have hpos : 0 < l.length := List.length_pos_iff.2 hl0
      have hc0 : cap ≠ 0 := by omega
      have hfoot : foot (g 0) = some b := by rw [hv]; simp [foot, vfoot, hc0]
      have hH : HoldsK (encC t) (wid t) w b 0 l.toArray := holds_row hk hgc hfz hx
      have hcmp : CmpLays P c #[] (encC t) (wid t) cf b 0 l.toArray.size w := fun m os dk _ x y => cmp_calls ft hc (hcf x y) _
      have key := AnyQ.slices_SortFunc_eq L (wid t) aE zE (encC t) hk (encC_one ft) cf hO c #[] b 0 cap l.toArray w eg hcmp hH (heap_lt hgc) (by simpa using hsz)
      have hsl : (pdq (ltOf cf) l.toArray 0 l.toArray.size (Lib.bitLen l.toArray.size) true true) = (sortL cf l).toArray := by
        have : l.toArray.size = l.length := by simp
        rw [this]
        unfold sortL
        simp
      rw [hsl] at key
      have key' : Calls P (ρ.f 6) [g 0, .func (.func c) #[] #[]].toArray w fun e w' => e = .returned (.tuple #[]) ∧ ∃ n os, w' = sortWorldK (encC t) (wid t) w b 0 n (sortL cf l).toArray os := by
        rw [hv]
        have : l.toArray.size = l.length := by simp
        rw [this] at key
        exact key
      refine key'.mono fun e w' ⟨he, n, os, hw⟩ => ?_
      have hO' : Own w' (g 0) ty (wid t) ((sortL cf l).map (encC t)) := by
        rw [hw, hv]
        exact own_sortedK hk (sortL_len hO l) hgc hnc hcm hcs hfz
      have hdr : Dr w w' := .of (by rw [hw]; exact Nat.le_add_right _ _)
      have hs := hrel.set (id := 0) live0 (.arr ty t (sortL cf l)) (w' := w') (by rw [hfoot, hw]; exact grown_sortedK _) fun le => ⟨_, hO', (al2_map fun x c => at_encC t x c ft).2 rfl⟩
      exact ⟨[], g, he, hs.1, trivial, fun _ _ => rfl⟩⟩
end Go.Dor
end

section
/- slices.SortFunc AS AN ENTRY, AT ELEMENTS OF ONE CELL. Plain lemmas over any program that bears it. -/
set_option linter.unusedVariables false
set_option linter.unusedSimpArgs false
namespace Go.Dor
open Go.Proofs Go.Shelf Go.Sort

def enc1 : (t : T) → den t → Value
  | .int k, n => .int k n
  | .bool, x => .bool x
  | .str, l => sv l
  | .flt k, n => .float k n
  | _, _ => .nilFunc
theorem at_enc1 {w : World} {I : Nat → Prop} {t : T} (ht : scalT t = true) (x : den t) (c : List Value) : At w I t x c ↔ c = [enc1 t x] := by
  cases t <;> simp only [scalT] at ht <;> first | exact Iff.rfl | cases ht
theorem enc1_one {t : T} (ht : scalT t = true) (x : den t) : (enc1 t x).oneCell' = true := by
  cases t <;> simp only [scalT] at ht <;> first | rfl | cases ht
theorem wid_scal {t : T} (ht : scalT t = true) : wid t = 1 := by
  cases t <;> simp only [scalT] at ht <;> first | rfl | cases ht
theorem enc_scal {m : Mem} {t : T} (ht : scalT t = true) (x : den t) : Rv m (.one (giveL ⟨t, x⟩)) (enc1 t x) := by
  cases t <;> simp only [scalT] at ht <;> first | rfl | cases ht

/-! ### a row of single cells is a row of cells -/
section
variable {α : Type} [Inhabited α] {f : α → Value}
theorem get_flat1 (d : Array α) (j : Nat) (h : j < d.size) : (flatK (fun x => [f x]) 1 d)[j]! = f d[j]! := by
  rw [get_flatK _ _ _ _ (by omega), Nat.div_one, Nat.mod_one]
  simp
theorem putRow_one (w : World) (b off : Nat) (d : Array α) : putRowK (fun x => [f x]) 1 w b off d = putRow f w b off d := by
  unfold putRowK putRow
  congr 1
  funext c
  unfold putCells
  apply Array.ext
  · simp
  · intro i h1 h2
    simp only [Array.getElem_mapIdx, size_flatK, Nat.mul_one]
    split
    · rename_i h
      rw [get_flat1 d (i - off) (by omega)]
      rfl
    · rfl
theorem sortWorld_one (w : World) (b off n : Nat) (d : Array α) (os : Array Obj) : sortWorldK (fun x => [f x]) 1 w b off n d os = sortWorld f w b off n d os := by
  unfold sortWorldK sortWorld
  rw [putRow_one]
theorem holds_one {w : World} {b off : Nat} {d : Array α} (h : HoldsK (fun x => [f x]) 1 w b off d) : Holds f w b off d := by
  intro j hj
  have h1 := h j (by simpa using hj)
  rw [get_flat1 d j hj] at h1
  exact h1
end

abbrev cmp1E (t : T) (fn : den t × den t → Option Int) : Entry := ⟨Ds.mk [Vd.one (Ld.im t), Vd.one (Ld.im t)] [], Ds.mk [Vd.one (Ld.im (.int .i64))] [], fn⟩
theorem cmp1_calls {P : Program} {c : Nat} {t : T} {fn : den t × den t → Option Int} (ht : scalT t = true) (hc : Entry.Sound P c (cmp1E t fn)) {x y : den t} {z : Int} (h : fn (x, y) = some z) (W : World) :
    Calls P c #[enc1 t x, enc1 t y] W fun e w' => e = .returned (.int .i64 z) ∧ ∃ q os', w' = grow (W.drewN q) os' := by
  have hs : Start (cmp1E t fn).pre (x, y) (fun _ => True) W (fun _ => undef) [enc1 t x, enc1 t y] := by
    have hg : givenO (cmp1E t fn).pre id (x, y) = [] := rfl
    refine ⟨?_, enc_scal ht x, enc_scal ht y, trivial⟩
    refine ⟨rfl, rfl, .refl _, rfl, Nat.le_refl _, fun _ _ _ => rfl, fun b _ => ?_, fun id o hid => ?_, fun id hid => ?_, fun i j hi => ?_⟩
    · rintro ⟨i, hi, _⟩
      rw [hg] at hi
      simp [lives, liveO] at hi
    · rw [hg] at hid; simp at hid
    · rw [hg] at hid; simp [lives, liveO] at hid
    · rw [hg] at hi; simp [lives, liveO] at hi
  refine (hc.out (x, y) z h (fun _ => True) W (fun _ => undef) _ hs).mono fun e w' ⟨vs, g', he, R', hv', _⟩ => ?_
  obtain ⟨v, vs, rfl, h1, h2⟩ := hv'.cons_left
  obtain rfl := h2.nil_left
  have h1 : [v] = [Value.int .i64 z] := h1
  cases h1
  refine ⟨he, world_grown R'.os R'.tape R'.output R'.size (fun b hb => R'.old b hb ?_) R'.drawn.le⟩
  rintro ⟨i, hi, _⟩
  have hg' : lives ([] : Hm) i := hi
  simp [lives, liveO] at hg'

theorem sort1_sound {P : Program} {ρ : Go.Shelf.Ren} (L : SlLaysF.n6 P ρ) {t : T} {ty : TypeId} {c : Nat} {fn : den t × den t → Option Int} (ht : scalT t = true) (hc : Entry.Sound P c (cmp1E t fn))
    (cf : den t → den t → Int) (hcf : ∀ x y, fn (x, y) = some (cf x y)) (hO : SWO (ltOf cf))
    (eg : ∀ args w, (callFunc c args).run P w = .ok (.enter c args) w) : Entry.Sound P (ρ.f 6) (sortE t ty c cf) := ⟨fun (l : List (den t)) y hy S w g vals hst => by
  letI : Inhabited (den t) := ⟨dflt t⟩
  obtain ⟨hsz, hy⟩ := need_some hy
  cases hy
  have hrel := hst.rel
  obtain ⟨v0, vs1, rfl, h0, hv1⟩ := hst.vals.cons_left
  obtain ⟨v1, vs2, rfl, hf, hv2⟩ := hv1.cons_left
  obtain rfl := hv2.nil_left
  obtain ⟨_, hf⟩ := hf
  cases hf
  obtain ⟨_, v, hv, hone, hcells, hlive⟩ := h0
  cases hv
  have live0 : lives (givenO (sortE t ty c cf).pre id l) 0 := rfl
  have hvg : v0 = g 0 := hlive live0
  subst hvg
  obtain ⟨ys, hown, hal⟩ := hrel.obj 0 (.arr ty t l) rfl
  have hys : ys = l.map (fun x => [enc1 t x]) := (al2_map fun x c => at_enc1 ht x c).1 hal
  have hk : ∀ x : den t, ((fun x => [enc1 t x]) x).length = 1 := fun _ => rfl
  have hw1 : wid t = 1 := wid_scal ht
  have L0 : SlLaysF0.n6 P ρ := { L with }
  have none_ : ∀ (p : Option Addr) (cap : Nat), g 0 = .slice p 0 cap → l = [] → Calls P (ρ.f 6) [g 0, .func (.func c) #[] #[]].toArray w fun e w' => ∃ vs g', e = .returned (one vs) ∧ Rel (lentOf (givenO (sortE t ty c cf).pre id l) g) S w (givenO (sortE t ty c cf).post id (sortL cf l)) g' w' ∧
      Al2 (Rv (memOf (lentOf (givenO (sortE t ty c cf).pre id l) g) S w (givenO (sortE t ty c cf).post id (sortL cf l)) g' w')) (givenV (sortE t ty c cf).post id (sortL cf l)).1 vs ∧ ∀ i, i < (sortE t ty c cf).pre.objs.length → g' i = g i := by
    intro p cap hp hl
    have hn : sortL cf l = l := by
      have := sortL_len hO l
      rw [hl] at this ⊢
      exact List.eq_nil_of_length_eq_zero this
    rw [hn]
    rw [hp]
    refine (AnyF.slices_SortFunc_none L0 p cap (.func (.func c) #[] #[]) w).mono fun e w' ⟨he, hw⟩ => ?_
    subst hw
    exact ⟨[], g, he, hrel, trivial, fun _ _ => rfl⟩
  by_cases hl0 : l = []
  · rcases hown.2 with ⟨⟨a, hva, _⟩, _⟩ | ⟨b, cap, cur, fz, hv, _⟩
    · exact none_ a 0 hva hl0
    · rw [hys, hl0] at hv
      exact none_ _ cap hv hl0
  · rcases hown.2 with ⟨_, hn⟩ | ⟨b, cap, cur, fz, hv, hnc, hcm, hgc, hfz, hcs, hx⟩
    · rw [hys] at hn
      exact absurd (List.map_eq_nil_iff.1 hn) hl0
    · rw [hys, List.length_map] at hv hnc
      rw [hys] at hx
      rw [hw1] at hcs
      have hpos : 0 < l.length := List.length_pos_iff.2 hl0
      have hc0 : cap ≠ 0 := by omega
      have hfoot : foot (g 0) = some b := by rw [hv]; simp [foot, vfoot, hc0]
      have hH : HoldsK (fun x => [enc1 t x]) 1 w b 0 l.toArray := holds_row hk hgc hfz hx
      have hcmp : CmpLays1 P c #[] (enc1 t) cf b 0 l.toArray.size w := fun m os dk _ x y => cmp1_calls ht hc (hcf x y) _
      have key := Any.slices_SortFunc_eq L (enc1 t) (enc1_one ht) cf hO c #[] b 0 cap l.toArray w eg hcmp (holds_one hH) (heap_lt hgc) (by simpa using hsz)
      have hsl : (pdq (ltOf cf) l.toArray 0 l.toArray.size (Lib.bitLen l.toArray.size) true true) = (sortL cf l).toArray := by
        have : l.toArray.size = l.length := by simp
        rw [this]
        unfold sortL
        simp
      rw [hsl] at key
      have key' : Calls P (ρ.f 6) [g 0, .func (.func c) #[] #[]].toArray w fun e w' => e = .returned (.tuple #[]) ∧ ∃ n os, w' = sortWorldK (fun x => [enc1 t x]) 1 w b 0 n (sortL cf l).toArray os := by
        rw [hv]
        have : l.toArray.size = l.length := by simp
        rw [this] at key
        refine key.mono fun e w' ⟨he, n, os, hw⟩ => ⟨he, n, os, ?_⟩
        rw [hw, sortWorld_one]
      refine key'.mono fun e w' ⟨he, n, os, hw⟩ => ?_
      have hO' : Own w' (g 0) ty (wid t) ((sortL cf l).map (fun x => [enc1 t x])) := by
        rw [hw, hv, hw1]
        exact own_sortedK hk (sortL_len hO l) hgc hnc hcm hcs hfz
      have hdr : Dr w w' := .of (by rw [hw]; exact Nat.le_add_right _ _)
      have hs := hrel.set (id := 0) live0 (.arr ty t (sortL cf l)) (w' := w') (by rw [hfoot, hw]; exact grown_sortedK _) fun le => ⟨_, hO', (al2_map fun x c => at_enc1 ht x c).2 rfl⟩
      exact ⟨[], g, he, hs.1, trivial, fun _ _ => rfl⟩⟩
end Go.Dor
end

section
/- THE SHELF's CONTRACTS FOR GENERIC FUNCTIONS, LAID AT THIS PROGRAM: the numbers of its functions and types, and that they are what the contracts speak of. -/
namespace Go.Proofs
open Go.Shelf

def Try.laysSort1_ren : Go.Shelf.Ren := ⟨fun | 6 => 70 | 15 => 92 | 14 => 102 | 28 => 123 | 29 => 124 | 20 => 128 | 21 => 129 | 22 => 130 | 23 => 131 | 24 => 132 | 25 => 133 | 26 => 134 | 27 => 135 | 46 => 145 | 47 => 139 | 48 => 140 | 49 => 146 | 50 => 147 | 57 => 154 | n => n, fun | 22 => 37 | 24 => 31 | 25 => 92 | 3 => 3 | 39 => 112 | 0 => 0 | 53 => 137 | 55 => 30 | 4 => 4 | 46 => 131 | 45 => 130 | 50 => 103 | 5 => 5 | 9 => 9 | 66 => 146 | 70 => 150 | 76 => 157 | 77 => 158 | n => n, fun | n => n⟩
theorem Try.laysSort1 : Go.Proofs.SlLaysF.n6 Try.prog Try.laysSort1_ren :=
  {
    mixed := by kernel_rfl,
    f6 := ⟨"slices.SortFunc[[]float64,float64]", by decide, Try.func70.trans (congrArg some (by kernel_rfl))⟩,
    f14 := ⟨"slices.pdqsortCmpFunc[float64]", by decide, Try.func102.trans (congrArg some (by kernel_rfl))⟩,
    f15 := Try.func92.trans (congrArg some (by kernel_rfl)),
    f20 := ⟨"slices.insertionSortCmpFunc[float64]", by decide, Try.func128.trans (congrArg some (by kernel_rfl))⟩,
    f21 := ⟨"slices.heapSortCmpFunc[float64]", by decide, Try.func129.trans (congrArg some (by kernel_rfl))⟩,
    f22 := ⟨"slices.breakPatternsCmpFunc[float64]", by decide, Try.func130.trans (congrArg some (by kernel_rfl))⟩,
    f23 := ⟨"slices.choosePivotCmpFunc[float64]", by decide, Try.func131.trans (congrArg some (by kernel_rfl))⟩,
    f24 := ⟨"slices.reverseRangeCmpFunc[float64]", by decide, Try.func132.trans (congrArg some (by kernel_rfl))⟩,
    f25 := ⟨"slices.partialInsertionSortCmpFunc[float64]", by decide, Try.func133.trans (congrArg some (by kernel_rfl))⟩,
    f26 := ⟨"slices.partitionEqualCmpFunc[float64]", by decide, Try.func134.trans (congrArg some (by kernel_rfl))⟩,
    f27 := ⟨"slices.partitionCmpFunc[float64]", by decide, Try.func135.trans (congrArg some (by kernel_rfl))⟩,
    f28 := Try.func123.trans (congrArg some (by kernel_rfl)),
    f29 := Try.func124.trans (congrArg some (by kernel_rfl)),
    f46 := ⟨"slices.siftDownCmpFunc[float64]", by decide, Try.func145.trans (congrArg some (by kernel_rfl))⟩,
    f47 := Try.func139.trans (congrArg some (by kernel_rfl)),
    f48 := Try.func140.trans (congrArg some (by kernel_rfl)),
    f49 := ⟨"slices.medianAdjacentCmpFunc[float64]", by decide, Try.func146.trans (congrArg some (by kernel_rfl))⟩,
    f50 := ⟨"slices.medianCmpFunc[float64]", by decide, Try.func147.trans (congrArg some (by kernel_rfl))⟩,
    f57 := ⟨"slices.order2CmpFunc[float64]", by decide, Try.func154.trans (congrArg some (by kernel_rfl))⟩,
    t0 := Try.underlying0,
    a0 := Try.isAgg0,
    z0 := Try.sizeOf0,
    v0 := Try.zeroValue0,
    t3 := Try.underlying3,
    a3 := Try.isAgg3,
    z3 := Try.sizeOf3,
    v3 := Try.zeroValue3,
    t4 := Try.underlying4,
    a4 := Try.isAgg4,
    z4 := Try.sizeOf4,
    v4 := Try.zeroValue4,
    t5 := Try.underlying5,
    a5 := Try.isAgg5,
    z5 := Try.sizeOf5,
    v5 := Try.zeroValue5,
    t9 := Try.underlying9,
    a9 := Try.isAgg9,
    z9 := Try.sizeOf9,
    v9 := Try.zeroValue9,
    t22 := Try.underlying37,
    a22 := Try.isAgg37,
    z22 := Try.sizeOf37,
    v22 := Try.zeroValue37,
    a24 := Try.isAgg31,
    z24 := Try.sizeOf31,
    t25 := Try.underlying92,
    a25 := Try.isAgg92,
    z25 := Try.sizeOf92,
    v25 := Try.zeroValue92,
    t39 := Try.underlying112,
    a39 := Try.isAgg112,
    z39 := Try.sizeOf112,
    v39 := Try.zeroValue112,
    t45 := Try.underlying130,
    a45 := Try.isAgg130,
    z45 := Try.sizeOf130,
    v45 := Try.zeroValue130,
    t46 := Try.underlying131,
    a46 := Try.isAgg131,
    z46 := Try.sizeOf131,
    v46 := Try.zeroValue131,
    t50 := Try.underlying103,
    a50 := Try.isAgg103,
    z50 := Try.sizeOf103,
    v50 := Try.zeroValue103,
    t53 := Try.underlying137,
    a53 := Try.isAgg137,
    z53 := Try.sizeOf137,
    v53 := Try.zeroValue137,
    t55 := Try.underlying30,
    a55 := Try.isAgg30,
    z55 := Try.sizeOf30,
    v55 := Try.zeroValue30,
    t66 := Try.underlying146,
    a66 := Try.isAgg146,
    z66 := Try.sizeOf146,
    v66 := Try.zeroValue146,
    t70 := Try.underlying150,
    a70 := Try.isAgg150,
    z70 := Try.sizeOf150,
    v70 := Try.zeroValue150,
    t76 := Try.underlying157,
    a76 := Try.isAgg157,
    z76 := Try.sizeOf157,
    v76 := Try.zeroValue157,
    t77 := Try.underlying158,
    a77 := Try.isAgg158,
    z77 := Try.sizeOf158,
    v77 := Try.zeroValue158 }

def Try.laysSortK_ren : Go.Shelf.Ren := ⟨fun | 6 => 57 | 15 => 92 | 14 => 91 | 28 => 123 | 29 => 124 | 20 => 115 | 21 => 116 | 22 => 117 | 23 => 118 | 24 => 119 | 25 => 120 | 26 => 121 | 27 => 122 | 46 => 138 | 47 => 139 | 48 => 140 | 49 => 141 | 50 => 142 | 57 => 150 | n => n, fun | 22 => 22 | 24 => 25 | 25 => 83 | 3 => 3 | 39 => 112 | 0 => 0 | 53 => 137 | 55 => 30 | 4 => 4 | 46 => 131 | 45 => 130 | 50 => 103 | 5 => 5 | 9 => 9 | 66 => 146 | 70 => 150 | 76 => 157 | 77 => 158 | n => n, fun | n => n⟩
theorem Try.laysSortK : Go.Proofs.SlLaysF0.n6 Try.prog Try.laysSortK_ren :=
  {
    mixed := by kernel_rfl,
    f6 := ⟨"slices.SortFunc[[]dormouse/api.Key,dormouse/api.Key]", by decide, Try.func57.trans (congrArg some (by kernel_rfl))⟩,
    f14 := ⟨"slices.pdqsortCmpFunc[dormouse/api.Key]", by decide, Try.func91.trans (congrArg some (by kernel_rfl))⟩,
    f15 := Try.func92.trans (congrArg some (by kernel_rfl)),
    f20 := ⟨"slices.insertionSortCmpFunc[dormouse/api.Key]", by decide, Try.func115.trans (congrArg some (by kernel_rfl))⟩,
    f21 := ⟨"slices.heapSortCmpFunc[dormouse/api.Key]", by decide, Try.func116.trans (congrArg some (by kernel_rfl))⟩,
    f22 := ⟨"slices.breakPatternsCmpFunc[dormouse/api.Key]", by decide, Try.func117.trans (congrArg some (by kernel_rfl))⟩,
    f23 := ⟨"slices.choosePivotCmpFunc[dormouse/api.Key]", by decide, Try.func118.trans (congrArg some (by kernel_rfl))⟩,
    f24 := ⟨"slices.reverseRangeCmpFunc[dormouse/api.Key]", by decide, Try.func119.trans (congrArg some (by kernel_rfl))⟩,
    f25 := ⟨"slices.partialInsertionSortCmpFunc[dormouse/api.Key]", by decide, Try.func120.trans (congrArg some (by kernel_rfl))⟩,
    f26 := ⟨"slices.partitionEqualCmpFunc[dormouse/api.Key]", by decide, Try.func121.trans (congrArg some (by kernel_rfl))⟩,
    f27 := ⟨"slices.partitionCmpFunc[dormouse/api.Key]", by decide, Try.func122.trans (congrArg some (by kernel_rfl))⟩,
    f28 := Try.func123.trans (congrArg some (by kernel_rfl)),
    f29 := Try.func124.trans (congrArg some (by kernel_rfl)),
    f46 := ⟨"slices.siftDownCmpFunc[dormouse/api.Key]", by decide, Try.func138.trans (congrArg some (by kernel_rfl))⟩,
    f47 := Try.func139.trans (congrArg some (by kernel_rfl)),
    f48 := Try.func140.trans (congrArg some (by kernel_rfl)),
    f49 := ⟨"slices.medianAdjacentCmpFunc[dormouse/api.Key]", by decide, Try.func141.trans (congrArg some (by kernel_rfl))⟩,
    f50 := ⟨"slices.medianCmpFunc[dormouse/api.Key]", by decide, Try.func142.trans (congrArg some (by kernel_rfl))⟩,
    f57 := ⟨"slices.order2CmpFunc[dormouse/api.Key]", by decide, Try.func150.trans (congrArg some (by kernel_rfl))⟩,
    t0 := Try.underlying0,
    a0 := Try.isAgg0,
    z0 := Try.sizeOf0,
    v0 := Try.zeroValue0,
    t3 := Try.underlying3,
    a3 := Try.isAgg3,
    z3 := Try.sizeOf3,
    v3 := Try.zeroValue3,
    t4 := Try.underlying4,
    a4 := Try.isAgg4,
    z4 := Try.sizeOf4,
    v4 := Try.zeroValue4,
    t5 := Try.underlying5,
    a5 := Try.isAgg5,
    z5 := Try.sizeOf5,
    v5 := Try.zeroValue5,
    t9 := Try.underlying9,
    a9 := Try.isAgg9,
    z9 := Try.sizeOf9,
    v9 := Try.zeroValue9,
    t22 := Try.underlying22,
    a22 := Try.isAgg22,
    z22 := Try.sizeOf22,
    v22 := Try.zeroValue22,
    t25 := Try.underlying83,
    a25 := Try.isAgg83,
    z25 := Try.sizeOf83,
    v25 := Try.zeroValue83,
    t39 := Try.underlying112,
    a39 := Try.isAgg112,
    z39 := Try.sizeOf112,
    v39 := Try.zeroValue112,
    t45 := Try.underlying130,
    a45 := Try.isAgg130,
    z45 := Try.sizeOf130,
    v45 := Try.zeroValue130,
    t46 := Try.underlying131,
    a46 := Try.isAgg131,
    z46 := Try.sizeOf131,
    v46 := Try.zeroValue131,
    t50 := Try.underlying103,
    a50 := Try.isAgg103,
    z50 := Try.sizeOf103,
    v50 := Try.zeroValue103,
    t53 := Try.underlying137,
    a53 := Try.isAgg137,
    z53 := Try.sizeOf137,
    v53 := Try.zeroValue137,
    t55 := Try.underlying30,
    a55 := Try.isAgg30,
    z55 := Try.sizeOf30,
    v55 := Try.zeroValue30,
    t66 := Try.underlying146,
    a66 := Try.isAgg146,
    z66 := Try.sizeOf146,
    v66 := Try.zeroValue146,
    t70 := Try.underlying150,
    a70 := Try.isAgg150,
    z70 := Try.sizeOf150,
    v70 := Try.zeroValue150,
    t76 := Try.underlying157,
    a76 := Try.isAgg157,
    z76 := Try.sizeOf157,
    v76 := Try.zeroValue157,
    t77 := Try.underlying158,
    a77 := Try.isAgg158,
    z77 := Try.sizeOf158,
    v77 := Try.zeroValue158 }
end Go.Proofs
end

section
/- The functions that the law calls, as the machine shows them. -/
namespace Go.Dor
open Go.Proofs
set_option maxRecDepth 100000
set_option linter.unusedVariables false
noncomputable section
theorem x_mo : Try.prog.follows .mixedOrders = true := by kernel_rfl
theorem x_ext15 : ExternOf Try.prog 15 (externFn 3) := ⟨⟨_, Try.func15, by kernel_rfl, by kernel_rfl, by kernel_rfl, by kernel_rfl⟩⟩
theorem x_ext65 : ExternOf Try.prog 65 (externFn 2) := ⟨⟨_, Try.func65, by kernel_rfl, by kernel_rfl, by kernel_rfl, by kernel_rfl⟩⟩
theorem x_ext144 : ExternOf Try.prog 144 (externFn 0) := ⟨⟨_, Try.func144, by kernel_rfl, by kernel_rfl, by kernel_rfl, by kernel_rfl⟩⟩
theorem x_ext : ∀ f kd, findA [(15, 3), (65, 2), (144, 0)] f = some kd → ExternOf Try.prog f (externFn kd) := (ext_cons (kd := 3) x_ext15 (ext_cons (kd := 2) x_ext65 (ext_cons (kd := 0) x_ext144 ext_nil)))

/- dormouse/gauge.Bits: function 20 -/
noncomputable def p_gauge_Bits (x6 : Nat) : Option Int :=
  some (↑x6 : Int)
noncomputable def e_gauge_Bits : Entry := ⟨Ds.mk [Vd.one (Ld.im (T.flt Go.FloatKind.f64))] [], Ds.mk [Vd.one (Ld.im (T.int IntKind.u64))] [], fun x => p_gauge_Bits x⟩
noncomputable def c_gauge_Bits : Cx := ⟨Try.prog, [], [], [], [], [], 0, 5, [(15, 3), (65, 2), (144, 0)], fun _ _ _ => none⟩
theorem q_gauge_Bits (x : HL (e_gauge_Bits).pre.ts) : runF (c_gauge_Bits) 0 Try.f20 (e_gauge_Bits).pre (e_gauge_Bits).post x = (e_gauge_Bits).fn x := by kernel_rfl
theorem s_gauge_Bits : Entry.Sound Try.prog 20 (e_gauge_Bits) := runF_sound (X := c_gauge_Bits) (pre := (e_gauge_Bits).pre) (post := (e_gauge_Bits).post) (q := (e_gauge_Bits).fn) ⟨dOk_nil, x_ext, x_mo⟩ Try.func20 (q_gauge_Bits)

/- dormouse/gauge.Key: function 19 -/
noncomputable def p_gauge_Key (x8 : Nat) : Option Int :=
  Option.bind (p_gauge_Bits x8) fun t9 => bif (iand IntKind.u64 t9 (9223372036854775808 : Int) != (0 : Int)) then some (inot IntKind.u64 t9) else some (ior IntKind.u64 t9 (9223372036854775808 : Int))
noncomputable def e_gauge_Key : Entry := ⟨Ds.mk [Vd.one (Ld.im (T.flt Go.FloatKind.f64))] [], Ds.mk [Vd.one (Ld.im (T.int IntKind.u64))] [], fun x => p_gauge_Key x⟩
noncomputable def c_gauge_Key : Cx := ⟨Try.prog, [(20, e_gauge_Bits)], [], [], [], [], 0, 13, [(15, 3), (65, 2), (144, 0)], fun _ _ _ => none⟩
theorem q_gauge_Key (x : HL (e_gauge_Key).pre.ts) : runF (c_gauge_Key) 0 Try.f19 (e_gauge_Key).pre (e_gauge_Key).post x = (e_gauge_Key).fn x := by kernel_rfl
theorem s_gauge_Key : Entry.Sound Try.prog 19 (e_gauge_Key) := runF_sound (X := c_gauge_Key) (pre := (e_gauge_Key).pre) (post := (e_gauge_Key).post) (q := (e_gauge_Key).fn) ⟨(dOk_cons (s_gauge_Bits) dOk_nil), x_ext, x_mo⟩ Try.func19 (q_gauge_Key)

/- cmp.isNaN[uint64]: function 103 -/
noncomputable def p_cmp_isNaN_uint64 (x19 : Int) : Option Bool :=
  some (x19 != x19)
noncomputable def e_cmp_isNaN_uint64 : Entry := ⟨Ds.mk [Vd.one (Ld.im (T.int IntKind.u64))] [], Ds.mk [Vd.one (Ld.im T.bool)] [], fun x => p_cmp_isNaN_uint64 x⟩
noncomputable def c_cmp_isNaN_uint64 : Cx := ⟨Try.prog, [], [], [], [], [], 0, 6, [(15, 3), (65, 2), (144, 0)], fun _ _ _ => none⟩
theorem q_cmp_isNaN_uint64 (x : HL (e_cmp_isNaN_uint64).pre.ts) : runF (c_cmp_isNaN_uint64) 0 Try.f103 (e_cmp_isNaN_uint64).pre (e_cmp_isNaN_uint64).post x = (e_cmp_isNaN_uint64).fn x := by kernel_rfl
theorem s_cmp_isNaN_uint64 : Entry.Sound Try.prog 103 (e_cmp_isNaN_uint64) := runF_sound (X := c_cmp_isNaN_uint64) (pre := (e_cmp_isNaN_uint64).pre) (post := (e_cmp_isNaN_uint64).post) (q := (e_cmp_isNaN_uint64).fn) ⟨dOk_nil, x_ext, x_mo⟩ Try.func103 (q_cmp_isNaN_uint64)

/- cmp.Compare[uint64]: function 72 -/
noncomputable def p_cmp_Compare_uint64 (x21 : Int) (x22 : Int) : Option Int :=
  Option.bind (p_cmp_isNaN_uint64 x21) fun t23 => Option.bind (p_cmp_isNaN_uint64 x22) fun t24 => bif t23 then bif t24 then some (0 : Int) else some (-1 : Int) else bif t24 then some (1 : Int) else bif (decide (x21 < x22)) then some (-1 : Int) else bif (decide (x21 > x22)) then some (1 : Int) else some (0 : Int)
noncomputable def e_cmp_Compare_uint64 : Entry := ⟨Ds.mk [Vd.one (Ld.im (T.int IntKind.u64)), Vd.one (Ld.im (T.int IntKind.u64))] [], Ds.mk [Vd.one (Ld.im (T.int IntKind.i64))] [], fun x => p_cmp_Compare_uint64 x.1 x.2⟩
noncomputable def c_cmp_Compare_uint64 : Cx := ⟨Try.prog, [(103, e_cmp_isNaN_uint64)], [], [], [], [], 0, 20, [(15, 3), (65, 2), (144, 0)], fun _ _ _ => none⟩
theorem q_cmp_Compare_uint64 (x : HL (e_cmp_Compare_uint64).pre.ts) : runF (c_cmp_Compare_uint64) 0 Try.f72 (e_cmp_Compare_uint64).pre (e_cmp_Compare_uint64).post x = (e_cmp_Compare_uint64).fn x := by kernel_rfl
theorem s_cmp_Compare_uint64 : Entry.Sound Try.prog 72 (e_cmp_Compare_uint64) := runF_sound (X := c_cmp_Compare_uint64) (pre := (e_cmp_Compare_uint64).pre) (post := (e_cmp_Compare_uint64).post) (q := (e_cmp_Compare_uint64).fn) ⟨(dOk_cons (s_cmp_isNaN_uint64) dOk_nil), x_ext, x_mo⟩ Try.func72 (q_cmp_Compare_uint64)

/- dormouse/gauge.Sort$1: function 71 -/
noncomputable def p_gauge_Sort_c1 (x26 : Nat) (x27 : Nat) : Option Int :=
  Option.bind (p_gauge_Key x26) fun t28 => Option.bind (p_gauge_Key x27) fun t29 => Option.bind (p_cmp_Compare_uint64 t28 t29) fun t30 => some t30
noncomputable def e_gauge_Sort_c1 : Entry := ⟨Ds.mk [Vd.one (Ld.im (T.flt Go.FloatKind.f64)), Vd.one (Ld.im (T.flt Go.FloatKind.f64))] [], Ds.mk [Vd.one (Ld.im (T.int IntKind.i64))] [], fun x => p_gauge_Sort_c1 x.1 x.2⟩
noncomputable def c_gauge_Sort_c1 : Cx := ⟨Try.prog, [(19, e_gauge_Key), (72, e_cmp_Compare_uint64)], [], [], [], [], 0, 10, [(15, 3), (65, 2), (144, 0)], fun _ _ _ => none⟩
theorem q_gauge_Sort_c1 (x : HL (e_gauge_Sort_c1).pre.ts) : runF (c_gauge_Sort_c1) 0 Try.f71 (e_gauge_Sort_c1).pre (e_gauge_Sort_c1).post x = (e_gauge_Sort_c1).fn x := by kernel_rfl
theorem s_gauge_Sort_c1 : Entry.Sound Try.prog 71 (e_gauge_Sort_c1) := runF_sound (X := c_gauge_Sort_c1) (pre := (e_gauge_Sort_c1).pre) (post := (e_gauge_Sort_c1).post) (q := (e_gauge_Sort_c1).fn) ⟨(dOk_cons (s_gauge_Key) (dOk_cons (s_cmp_Compare_uint64) dOk_nil)), x_ext, x_mo⟩ Try.func71 (q_gauge_Sort_c1)

/- cmp.isNaN[byte]: function 125 -/
noncomputable def p_cmp_isNaN_byte (x48 : Int) : Option Bool :=
  some (x48 != x48)
noncomputable def e_cmp_isNaN_byte : Entry := ⟨Ds.mk [Vd.one (Ld.im (T.int IntKind.u8))] [], Ds.mk [Vd.one (Ld.im T.bool)] [], fun x => p_cmp_isNaN_byte x⟩
noncomputable def c_cmp_isNaN_byte : Cx := ⟨Try.prog, [], [], [], [], [], 0, 6, [(15, 3), (65, 2), (144, 0)], fun _ _ _ => none⟩
theorem q_cmp_isNaN_byte (x : HL (e_cmp_isNaN_byte).pre.ts) : runF (c_cmp_isNaN_byte) 0 Try.f125 (e_cmp_isNaN_byte).pre (e_cmp_isNaN_byte).post x = (e_cmp_isNaN_byte).fn x := by kernel_rfl
theorem s_cmp_isNaN_byte : Entry.Sound Try.prog 125 (e_cmp_isNaN_byte) := runF_sound (X := c_cmp_isNaN_byte) (pre := (e_cmp_isNaN_byte).pre) (post := (e_cmp_isNaN_byte).post) (q := (e_cmp_isNaN_byte).fn) ⟨dOk_nil, x_ext, x_mo⟩ Try.func125 (q_cmp_isNaN_byte)

/- cmp.Compare[byte]: function 93 -/
noncomputable def p_cmp_Compare_byte (x50 : Int) (x51 : Int) : Option Int :=
  Option.bind (p_cmp_isNaN_byte x50) fun t52 => Option.bind (p_cmp_isNaN_byte x51) fun t53 => bif t52 then bif t53 then some (0 : Int) else some (-1 : Int) else bif t53 then some (1 : Int) else bif (decide (x50 < x51)) then some (-1 : Int) else bif (decide (x50 > x51)) then some (1 : Int) else some (0 : Int)
noncomputable def e_cmp_Compare_byte : Entry := ⟨Ds.mk [Vd.one (Ld.im (T.int IntKind.u8)), Vd.one (Ld.im (T.int IntKind.u8))] [], Ds.mk [Vd.one (Ld.im (T.int IntKind.i64))] [], fun x => p_cmp_Compare_byte x.1 x.2⟩
noncomputable def c_cmp_Compare_byte : Cx := ⟨Try.prog, [(125, e_cmp_isNaN_byte)], [], [], [], [], 0, 20, [(15, 3), (65, 2), (144, 0)], fun _ _ _ => none⟩
theorem q_cmp_Compare_byte (x : HL (e_cmp_Compare_byte).pre.ts) : runF (c_cmp_Compare_byte) 0 Try.f93 (e_cmp_Compare_byte).pre (e_cmp_Compare_byte).post x = (e_cmp_Compare_byte).fn x := by kernel_rfl
theorem s_cmp_Compare_byte : Entry.Sound Try.prog 93 (e_cmp_Compare_byte) := runF_sound (X := c_cmp_Compare_byte) (pre := (e_cmp_Compare_byte).pre) (post := (e_cmp_Compare_byte).post) (q := (e_cmp_Compare_byte).fn) ⟨(dOk_cons (s_cmp_isNaN_byte) dOk_nil), x_ext, x_mo⟩ Try.func93 (q_cmp_Compare_byte)

/- slices.Compare[[]byte,byte]: function 59 -/
noncomputable def p_slices_Compare_byte_byte.j0 (k : Nat) (x67 : List Int) (x68 : List Int) : Option Int :=
  bif (decide ((↑(List.length x67) : Int) < (↑(List.length x68) : Int))) then some (-1 : Int) else some (0 : Int)
noncomputable def p_slices_Compare_byte_byte.b1 (k : Nat) (j69 : List Int × List Int → Option Int) (rec65 : List Int × List Int × List Int × Int × Int → Option Int) (x57 : List Int) (x58 : List Int) (x59 : List Int) (x60 : Int) (x61 : Int) : Option Int :=
  bif (decide (x61 < x60)) then need ((0 : Int) ≤ x61 ∧ x61 < (↑(List.length x59) : Int)) (bif (decide (x61 ≥ (↑(List.length x58) : Int))) then some (1 : Int) else need ((0 : Int) ≤ x61 ∧ x61 < (↑(List.length x58) : Int)) (Option.bind (p_cmp_Compare_byte (at_ (dflt (T.int IntKind.u8)) x59 x61) (at_ (dflt (T.int IntKind.u8)) x58 x61)) fun t64 => bif (t64 != (0 : Int)) then some t64 else rec65 (x57, x58, x59, x60, IntKind.wrap IntKind.i64 (x61 + (1 : Int))))) else j69 (x57, x58)
noncomputable def p_slices_Compare_byte_byte (k : Nat) (x55 : List Int) (x56 : List Int) : Option Int :=
  joinC (fun (y : List Int × List Int) => p_slices_Compare_byte_byte.j0 k y.1 y.2) fun (j69 : List Int × List Int → Option Int) => loopC (fun (r : List Int × List Int × List Int × Int × Int → Option Int) y => p_slices_Compare_byte_byte.b1 k j69 r y.1 y.2.1 y.2.2.1 y.2.2.2.1 y.2.2.2.2) k (x55, x56, x55, (↑(List.length x55) : Int), (0 : Int))
noncomputable def e_slices_Compare_byte_byte (k : Nat) : Entry := ⟨Ds.mk [Vd.one (Ld.im (T.sl (T.int IntKind.u8))), Vd.one (Ld.im (T.sl (T.int IntKind.u8)))] [], Ds.mk [Vd.one (Ld.im (T.int IntKind.i64))] [], fun x => p_slices_Compare_byte_byte k x.1 x.2⟩
noncomputable def c_slices_Compare_byte_byte (k : Nat) : Cx := ⟨Try.prog, [(93, e_cmp_Compare_byte)], [(11, Sd.mk [0, 1] (Ds.mk [Vd.one (Ld.im (T.sl (T.int IntKind.u8))), Vd.one (Ld.im (T.sl (T.int IntKind.u8)))] []))], [], [(2, Sd.mk [0, 1, 9, 10, 11] (Ds.mk [Vd.one (Ld.im (T.sl (T.int IntKind.u8))), Vd.one (Ld.im (T.sl (T.int IntKind.u8))), Vd.one (Ld.im (T.sl (T.int IntKind.u8))), Vd.one (Ld.im (T.int IntKind.i64)), Vd.one (Ld.im (T.int IntKind.i64))] []))], [], 0, 36, [(15, 3), (65, 2), (144, 0)], fun _ _ _ => none⟩
theorem q_slices_Compare_byte_byte (k : Nat) (x : HL (e_slices_Compare_byte_byte k).pre.ts) : runF (c_slices_Compare_byte_byte k) k Try.f59 (e_slices_Compare_byte_byte k).pre (e_slices_Compare_byte_byte k).post x = (e_slices_Compare_byte_byte k).fn x := by kernel_rfl
theorem s_slices_Compare_byte_byte (k : Nat) : Entry.Sound Try.prog 59 (e_slices_Compare_byte_byte k) := runF_sound (X := c_slices_Compare_byte_byte k) (pre := (e_slices_Compare_byte_byte k).pre) (post := (e_slices_Compare_byte_byte k).post) (q := (e_slices_Compare_byte_byte k).fn) ⟨(dOk_cons (s_cmp_Compare_byte) dOk_nil), x_ext, x_mo⟩ Try.func59 (q_slices_Compare_byte_byte k)

/- dormouse/key.Sort$1: function 58 -/
noncomputable def p_key_Sort_c1 (k : Nat) (x76 : Vector Int (32)) (x77 : Vector Int (32)) : Option Int :=
  Option.bind (p_slices_Compare_byte_byte k (sub_ (Vector.toList x76) (0 : Int) (↑(32 : Nat) : Int)) (sub_ (Vector.toList x77) (0 : Int) (↑(32 : Nat) : Int))) fun t78 => some t78
noncomputable def e_key_Sort_c1 (k : Nat) : Entry := ⟨Ds.mk [Vd.st (T.arr (32) (T.int IntKind.u8)), Vd.st (T.arr (32) (T.int IntKind.u8))] [], Ds.mk [Vd.one (Ld.im (T.int IntKind.i64))] [], fun x => p_key_Sort_c1 k x.1 x.2⟩
noncomputable def c_key_Sort_c1 (k : Nat) : Cx := ⟨Try.prog, [(59, e_slices_Compare_byte_byte k)], [], [], [], [(1, ([(0, 2), (1, 2), (2, 0), (3, 2)], [], []))], 0, 8, [(15, 3), (65, 2), (144, 0)], fun _ _ _ => none⟩
theorem q_key_Sort_c1 (k : Nat) (x : HL (e_key_Sort_c1 k).pre.ts) : runF (c_key_Sort_c1 k) k Try.f58 (e_key_Sort_c1 k).pre (e_key_Sort_c1 k).post x = (e_key_Sort_c1 k).fn x := by kernel_rfl
theorem s_key_Sort_c1 (k : Nat) : Entry.Sound Try.prog 58 (e_key_Sort_c1 k) := runF_sound (X := c_key_Sort_c1 k) (pre := (e_key_Sort_c1 k).pre) (post := (e_key_Sort_c1 k).post) (q := (e_key_Sort_c1 k).fn) ⟨(dOk_cons (s_slices_Compare_byte_byte k) dOk_nil), x_ext, x_mo⟩ Try.func58 (q_key_Sort_c1 k)
end
end Go.Dor
end

section
/- slices.SortFunc AT THIS PROGRAM's NUMBERS, with its comparison. -/
set_option linter.unusedVariables false
set_option linter.unusedSimpArgs false
namespace Go.Dor
open Go.Proofs Go.Shelf Go.Sort

def cmpN (a b : Int) : Int := if a < b then -1 else if a > b then 1 else 0
theorem cmpN_lt (a b : Int) : (cmpN a b < 0) ↔ a < b := by
  unfold cmpN
  split
  · rename_i h; simp [h]
  · rename_i h
    split <;> simp [h]
theorem swo_key {α : Type} (f : α → Int) : SWO (ltOf fun x y => cmpN (f x) (f y)) := by
  have e : ∀ x y, ltOf (fun x y => cmpN (f x) (f y)) x y = decide (f x < f y) := fun x y => by
    simp only [ltOf, cmpN_lt]
  refine ⟨fun x => ?_, fun x y z h1 h2 => ?_, fun x y z h1 h2 => ?_⟩
  · rw [e]; simp
  · rw [e] at h1 h2 ⊢
    simp only [decide_eq_true_eq] at h1 h2 ⊢
    omega
  · rw [e] at h1 h2 ⊢
    simp only [decide_eq_false_iff_not] at h1 h2 ⊢
    omega
/-- the place of a number in the order of all -/
noncomputable def keyF (x : Nat) : Int := (p_gauge_Key x).getD 0
theorem key_eq (x : Nat) : p_gauge_Key x = some (keyF x) := by
  unfold keyF p_gauge_Key p_gauge_Bits
  simp only [Option.bind_some]
  cases (iand IntKind.u64 (↑x : Int) (9223372036854775808 : Int) != (0 : Int)) <;> rfl
noncomputable def cf71 (x y : Nat) : Int := cmpN (keyF x) (keyF y)
theorem compareU_eq (a b : Int) : p_cmp_Compare_uint64 a b = some (cmpN a b) := by
  unfold p_cmp_Compare_uint64 p_cmp_isNaN_uint64 cmpN
  simp only [bne_self_eq_false, Option.bind_some, cond_false]
  by_cases h : a < b
  · simp [h]
  · by_cases h2 : a > b
    · simp [h, h2]
    · simp [h, h2]
theorem c71_eq (x y : Nat) : p_gauge_Sort_c1 x y = some (cf71 x y) := by
  unfold p_gauge_Sort_c1
  simp only [key_eq, compareU_eq, Option.bind_some]
  rfl
theorem swo71 : SWO (ltOf cf71) := swo_key keyF
noncomputable def p_sort_71 (l : List Nat) : Option (List Nat) := need (l.length < 4611686018427387904) (some (sortL (t := .flt .f64) cf71 l))
noncomputable def e_sort_71 : Entry := ⟨Ds.mk [Vd.one (Ld.own 0), Vd.one (Ld.fn 71 [])] [Od.arr 31 (.flt .f64)], Ds.mk [] [Od.arr 31 (.flt .f64)], fun l => p_sort_71 l⟩
set_option maxRecDepth 100000 in
theorem s_sort_71 : Entry.Sound Try.prog 70 e_sort_71 :=
  sort1_sound (ty := 31) (c := 71) Try.laysSort1 (t := .flt .f64) rfl s_gauge_Sort_c1 cf71 (fun x y => c71_eq x y) swo71 (enters_of Try.func71 (by kernel_rfl) rfl)
end Go.Dor
end

section
/- The functions that the law calls, as the machine shows them. -/
namespace Go.Dor
open Go.Proofs
set_option maxRecDepth 100000
set_option linter.unusedVariables false
noncomputable section

/- slices.Clone[[]float64,float64]: function 69 -/
noncomputable def p_slices_Clone_float64_float64.j0 (x8 : List Nat) (x9 : Bool) : Option (List Nat) :=
  bif x9 then some [] else need ((0 + List.length x8) * 8 ≤ (140737488355328 : Nat)) (some ([] ++ x8))
noncomputable def p_slices_Clone_float64_float64 (x7 : List Nat) : Option (List Nat) :=
  joinC (fun (y : List Nat × Bool) => p_slices_Clone_float64_float64.j0 y.1 y.2) fun (j10 : List Nat × Bool → Option (List Nat)) => bif (List.isEmpty x7) then bothC (j10 (x7, Bool.true)) (j10 (x7, Bool.false)) else j10 (x7, Bool.false)
noncomputable def e_slices_Clone_float64_float64 : Entry := ⟨Ds.mk [Vd.one (Ld.im (T.sl (T.flt Go.FloatKind.f64)))] [], Ds.mk [Vd.one (Ld.own (0))] [Od.arr (31) (T.flt Go.FloatKind.f64)], fun x => p_slices_Clone_float64_float64 x⟩
noncomputable def c_slices_Clone_float64_float64 : Cx := ⟨Try.prog, [], [], [(1, Sd.mk [0, 4] (Ds.mk [Vd.one (Ld.im (T.sl (T.flt Go.FloatKind.f64))), Vd.one (Ld.im T.bool)] []))], [], [], 0, 8, [(15, 3), (65, 2), (144, 0)], fun _ _ _ => none⟩
theorem q_slices_Clone_float64_float64 (x : HL (e_slices_Clone_float64_float64).pre.ts) : runF (c_slices_Clone_float64_float64) 0 Try.f69 (e_slices_Clone_float64_float64).pre (e_slices_Clone_float64_float64).post x = (e_slices_Clone_float64_float64).fn x := by kernel_rfl
theorem s_slices_Clone_float64_float64 : Entry.Sound Try.prog 69 (e_slices_Clone_float64_float64) := runF_sound (X := c_slices_Clone_float64_float64) (pre := (e_slices_Clone_float64_float64).pre) (post := (e_slices_Clone_float64_float64).post) (q := (e_slices_Clone_float64_float64).fn) ⟨dOk_nil, x_ext, x_mo⟩ Try.func69 (q_slices_Clone_float64_float64)

/- dormouse/gauge.Sort: function 25 -/
noncomputable def p_gauge_Sort (x17 : List Nat) : Option (List Nat) :=
  Option.bind (p_slices_Clone_float64_float64 x17) fun t18 => Option.bind (p_sort_71 t18) fun t19 => some t19
noncomputable def e_gauge_Sort : Entry := ⟨Ds.mk [Vd.one (Ld.im (T.sl (T.flt Go.FloatKind.f64)))] [], Ds.mk [Vd.one (Ld.own (0))] [Od.arr (31) (T.flt Go.FloatKind.f64)], fun x => p_gauge_Sort x⟩
noncomputable def c_gauge_Sort : Cx := ⟨Try.prog, [(69, e_slices_Clone_float64_float64), (70, e_sort_71)], [], [], [], [], 0, 9, [(15, 3), (65, 2), (144, 0)], fun _ _ _ => none⟩
theorem q_gauge_Sort (x : HL (e_gauge_Sort).pre.ts) : runF (c_gauge_Sort) 0 Try.f25 (e_gauge_Sort).pre (e_gauge_Sort).post x = (e_gauge_Sort).fn x := by kernel_rfl
theorem s_gauge_Sort : Entry.Sound Try.prog 25 (e_gauge_Sort) := runF_sound (X := c_gauge_Sort) (pre := (e_gauge_Sort).pre) (post := (e_gauge_Sort).post) (q := (e_gauge_Sort).fn) ⟨(dOk_cons (s_slices_Clone_float64_float64) (dOk_cons (s_sort_71) dOk_nil)), x_ext, x_mo⟩ Try.func25 (q_gauge_Sort)

/- dormouse/dormouseref04.minus: function 66 -/
noncomputable def p_dormouseref04_minus (x40 : Nat) : Option Bool :=
  some (decide ((↑x40 : Int) ≥ (9223372036854775808 : Int)))
noncomputable def e_dormouseref04_minus : Entry := ⟨Ds.mk [Vd.one (Ld.im (T.flt Go.FloatKind.f64))] [], Ds.mk [Vd.one (Ld.im T.bool)] [], fun x => p_dormouseref04_minus x⟩
noncomputable def c_dormouseref04_minus : Cx := ⟨Try.prog, [], [], [], [], [], 0, 6, [(15, 3), (65, 2), (144, 0)], fun _ _ _ => none⟩
theorem q_dormouseref04_minus (x : HL (e_dormouseref04_minus).pre.ts) : runF (c_dormouseref04_minus) 0 Try.f66 (e_dormouseref04_minus).pre (e_dormouseref04_minus).post x = (e_dormouseref04_minus).fn x := by kernel_rfl
theorem s_dormouseref04_minus : Entry.Sound Try.prog 66 (e_dormouseref04_minus) := runF_sound (X := c_dormouseref04_minus) (pre := (e_dormouseref04_minus).pre) (post := (e_dormouseref04_minus).post) (q := (e_dormouseref04_minus).fn) ⟨dOk_nil, x_ext, x_mo⟩ Try.func66 (q_dormouseref04_minus)

/- dormouse/dormouseref04.Less: function 16 -/
noncomputable def p_dormouseref04_Less (x42 : Nat) (x43 : Nat) : Option Bool :=
  Option.bind (p_dormouseref04_minus x42) fun t44 => Option.bind (p_dormouseref04_minus x43) fun t45 => bif (!t44 == t45) then Option.bind (p_dormouseref04_minus x42) fun t46 => some t46 else Option.bind (p_dormouseref04_minus x42) fun t47 => bif t47 then some (decide ((↑x42 : Int) > (↑x43 : Int))) else some (decide ((↑x42 : Int) < (↑x43 : Int)))
noncomputable def e_dormouseref04_Less : Entry := ⟨Ds.mk [Vd.one (Ld.im (T.flt Go.FloatKind.f64)), Vd.one (Ld.im (T.flt Go.FloatKind.f64))] [], Ds.mk [Vd.one (Ld.im T.bool)] [], fun x => p_dormouseref04_Less x.1 x.2⟩
noncomputable def c_dormouseref04_Less : Cx := ⟨Try.prog, [(66, e_dormouseref04_minus)], [], [], [], [], 0, 26, [(15, 3), (65, 2), (144, 0)], fun _ _ _ => none⟩
theorem q_dormouseref04_Less (x : HL (e_dormouseref04_Less).pre.ts) : runF (c_dormouseref04_Less) 0 Try.f16 (e_dormouseref04_Less).pre (e_dormouseref04_Less).post x = (e_dormouseref04_Less).fn x := by kernel_rfl
theorem s_dormouseref04_Less : Entry.Sound Try.prog 16 (e_dormouseref04_Less) := runF_sound (X := c_dormouseref04_Less) (pre := (e_dormouseref04_Less).pre) (post := (e_dormouseref04_Less).post) (q := (e_dormouseref04_Less).fn) ⟨(dOk_cons (s_dormouseref04_minus) dOk_nil), x_ext, x_mo⟩ Try.func16 (q_dormouseref04_Less)

/- dormouse/dormouseref04.Sort: function 26 -/
noncomputable def p_dormouseref04_Sort.j0 (k : Nat) (x131 : List Nat) : Option (List Nat) :=
  some x131
noncomputable def p_dormouseref04_Sort.j2 (k : Nat) (rec129 : List Nat × List Nat × Int → Option (List Nat)) (x124 : List Nat) (x125 : Int) (x126 : List Nat) : Option (List Nat) :=
  rec129 (x124, x126, IntKind.wrap IntKind.i64 (x125 + (1 : Int)))
noncomputable def p_dormouseref04_Sort.j3 (k : Nat) (j127 : List Nat × Int × List Nat → Option (List Nat)) (x112 : List Nat) (x113 : List Nat) (x114 : Int) (x115 : Int) : Option (List Nat) :=
  need ((0 : Int) ≤ (0 : Int) ∧ (0 : Int) ≤ x115 ∧ x115 ≤ (↑(List.length x113) : Int)) (need ((0 + List.length (sub_ x113 (0 : Int) x115)) * 8 ≤ (140737488355328 : Nat)) (need ((0 : Int) ≤ x114 ∧ x114 < (↑(List.length x112) : Int)) (need ((List.length ([] ++ sub_ x113 (0 : Int) x115) + List.length [at_ (dflt (T.flt Go.FloatKind.f64)) x112 x114]) * 8 ≤ (140737488355328 : Nat)) (need ((0 : Int) ≤ x115 ∧ x115 ≤ (↑(List.length x113) : Int) ∧ (↑(List.length x113) : Int) ≤ (↑(List.length x113) : Int)) (need ((List.length ([] ++ sub_ x113 (0 : Int) x115 ++ [at_ (dflt (T.flt Go.FloatKind.f64)) x112 x114]) + List.length (sub_ x113 x115 (↑(List.length x113) : Int))) * 8 ≤ (140737488355328 : Nat)) (j127 (x112, x114, [] ++ sub_ x113 (0 : Int) x115 ++ [at_ (dflt (T.flt Go.FloatKind.f64)) x112 x114] ++ sub_ x113 x115 (↑(List.length x113) : Int))))))))
noncomputable def p_dormouseref04_Sort.j5 (k : Nat) (rec110 : List Nat × List Nat × Int × Int → Option (List Nat)) (j122 : List Nat × List Nat × Int × Int → Option (List Nat)) (x103 : List Nat) (x104 : List Nat) (x105 : Int) (x106 : Int) (x107 : Bool) : Option (List Nat) :=
  bif x107 then rec110 (x103, x104, x105, IntKind.wrap IntKind.i64 (x106 + (1 : Int))) else j122 (x103, x104, x105, x106)
noncomputable def p_dormouseref04_Sort.b4 (k : Nat) (j122 : List Nat × List Nat × Int × Int → Option (List Nat)) (rec110 : List Nat × List Nat × Int × Int → Option (List Nat)) (x96 : List Nat) (x97 : List Nat) (x98 : Int) (x99 : Int) : Option (List Nat) :=
  joinC (fun (y : List Nat × List Nat × Int × Int × Bool) => p_dormouseref04_Sort.j5 k rec110 j122 y.1 y.2.1 y.2.2.1 y.2.2.2.1 y.2.2.2.2) fun (j108 : List Nat × List Nat × Int × Int × Bool → Option (List Nat)) => bif (decide (x99 < (↑(List.length x97) : Int))) then need ((0 : Int) ≤ x98 ∧ x98 < (↑(List.length x96) : Int)) (need ((0 : Int) ≤ x99 ∧ x99 < (↑(List.length x97) : Int)) (Option.bind (p_dormouseref04_Less (at_ (dflt (T.flt Go.FloatKind.f64)) x96 x98) (at_ (dflt (T.flt Go.FloatKind.f64)) x97 x99)) fun t102 => j108 (x96, x97, x98, x99, !t102))) else j108 (x96, x97, x98, x99, Bool.false)
noncomputable def p_dormouseref04_Sort.b1 (k : Nat) (j132 : List Nat → Option (List Nat)) (rec129 : List Nat × List Nat × Int → Option (List Nat)) (x93 : List Nat) (x94 : List Nat) (x95 : Int) : Option (List Nat) :=
  bif (decide (x95 < (↑(List.length x93) : Int))) then joinC (fun (y : List Nat × Int × List Nat) => p_dormouseref04_Sort.j2 k rec129 y.1 y.2.1 y.2.2) fun (j127 : List Nat × Int × List Nat → Option (List Nat)) => joinC (fun (y : List Nat × List Nat × Int × Int) => p_dormouseref04_Sort.j3 k j127 y.1 y.2.1 y.2.2.1 y.2.2.2) fun (j122 : List Nat × List Nat × Int × Int → Option (List Nat)) => loopC (fun (r : List Nat × List Nat × Int × Int → Option (List Nat)) y => p_dormouseref04_Sort.b4 k j122 r y.1 y.2.1 y.2.2.1 y.2.2.2) k (x93, x94, x95, (0 : Int)) else j132 x94
noncomputable def p_dormouseref04_Sort (k : Nat) (x92 : List Nat) : Option (List Nat) :=
  joinC (p_dormouseref04_Sort.j0 k) fun (j132 : List Nat → Option (List Nat)) => loopC (fun (r : List Nat × List Nat × Int → Option (List Nat)) y => p_dormouseref04_Sort.b1 k j132 r y.1 y.2.1 y.2.2) k (x92, [], (0 : Int))
noncomputable def e_dormouseref04_Sort (k : Nat) : Entry := ⟨Ds.mk [Vd.one (Ld.im (T.sl (T.flt Go.FloatKind.f64)))] [], Ds.mk [Vd.one (Ld.im (T.sl (T.flt Go.FloatKind.f64)))] [], fun x => p_dormouseref04_Sort k x⟩
noncomputable def c_dormouseref04_Sort (k : Nat) : Cx := ⟨Try.prog, [(16, e_dormouseref04_Less)], [(8, Sd.mk [0, 3, 4, 5] (Ds.mk [Vd.one (Ld.im (T.sl (T.flt Go.FloatKind.f64))), Vd.one (Ld.im (T.sl (T.flt Go.FloatKind.f64))), Vd.one (Ld.im (T.int IntKind.i64)), Vd.one (Ld.im (T.int IntKind.i64))] [])), (4, Sd.mk [0, 3, 4] (Ds.mk [Vd.one (Ld.im (T.sl (T.flt Go.FloatKind.f64))), Vd.one (Ld.own (0)), Vd.one (Ld.im (T.int IntKind.i64))] [Od.arr (31) (T.flt Go.FloatKind.f64)])), (11, Sd.mk [3] (Ds.mk [Vd.one (Ld.im (T.sl (T.flt Go.FloatKind.f64)))] []))], [(6, Sd.mk [0, 3, 4, 5, 28] (Ds.mk [Vd.one (Ld.im (T.sl (T.flt Go.FloatKind.f64))), Vd.one (Ld.im (T.sl (T.flt Go.FloatKind.f64))), Vd.one (Ld.im (T.int IntKind.i64)), Vd.one (Ld.im (T.int IntKind.i64)), Vd.one (Ld.im T.bool)] []))], [(3, Sd.mk [0, 3, 4] (Ds.mk [Vd.one (Ld.im (T.sl (T.flt Go.FloatKind.f64))), Vd.one (Ld.im (T.sl (T.flt Go.FloatKind.f64))), Vd.one (Ld.im (T.int IntKind.i64))] [])), (6, Sd.mk [0, 3, 4, 5] (Ds.mk [Vd.one (Ld.im (T.sl (T.flt Go.FloatKind.f64))), Vd.one (Ld.im (T.sl (T.flt Go.FloatKind.f64))), Vd.one (Ld.im (T.int IntKind.i64)), Vd.one (Ld.im (T.int IntKind.i64))] []))], [(6, ([(0, 2), (1, 2), (2, 2), (3, 2), (4, 2), (5, 2), (6, 2), (7, 2), (8, 1), (9, 2), (10, 2), (11, 2), (12, 1), (13, 0), (14, 2), (15, 2)], [], []))], 0, 49, [(15, 3), (65, 2), (144, 0)], fun _ _ _ => none⟩
theorem q_dormouseref04_Sort (k : Nat) (x : HL (e_dormouseref04_Sort k).pre.ts) : runF (c_dormouseref04_Sort k) k Try.f26 (e_dormouseref04_Sort k).pre (e_dormouseref04_Sort k).post x = (e_dormouseref04_Sort k).fn x := by kernel_rfl
theorem s_dormouseref04_Sort (k : Nat) : Entry.Sound Try.prog 26 (e_dormouseref04_Sort k) := runF_sound (X := c_dormouseref04_Sort k) (pre := (e_dormouseref04_Sort k).pre) (post := (e_dormouseref04_Sort k).post) (q := (e_dormouseref04_Sort k).fn) ⟨(dOk_cons (s_dormouseref04_Less) dOk_nil), x_ext, x_mo⟩ Try.func26 (q_dormouseref04_Sort k)

/- dormouse/dormouseref04.Same: function 27 -/
noncomputable def p_dormouseref04_Same (x147 : Nat) (x148 : Nat) : Option Bool :=
  some ((↑x147 : Int) == (↑x148 : Int))
noncomputable def e_dormouseref04_Same : Entry := ⟨Ds.mk [Vd.one (Ld.im (T.flt Go.FloatKind.f64)), Vd.one (Ld.im (T.flt Go.FloatKind.f64))] [], Ds.mk [Vd.one (Ld.im T.bool)] [], fun x => p_dormouseref04_Same x.1 x.2⟩
noncomputable def c_dormouseref04_Same : Cx := ⟨Try.prog, [], [], [], [], [], 0, 10, [(15, 3), (65, 2), (144, 0)], fun _ _ _ => none⟩
theorem q_dormouseref04_Same (x : HL (e_dormouseref04_Same).pre.ts) : runF (c_dormouseref04_Same) 0 Try.f27 (e_dormouseref04_Same).pre (e_dormouseref04_Same).post x = (e_dormouseref04_Same).fn x := by kernel_rfl
theorem s_dormouseref04_Same : Entry.Sound Try.prog 27 (e_dormouseref04_Same) := runF_sound (X := c_dormouseref04_Same) (pre := (e_dormouseref04_Same).pre) (post := (e_dormouseref04_Same).post) (q := (e_dormouseref04_Same).fn) ⟨dOk_nil, x_ext, x_mo⟩ Try.func27 (q_dormouseref04_Same)

/- dormouse/gauge.Of: function 21 -/
noncomputable def p_gauge_Of (x168 : Int) : Option Nat :=
  some (Int.toNat x168)
noncomputable def e_gauge_Of : Entry := ⟨Ds.mk [Vd.one (Ld.im (T.int IntKind.u64))] [], Ds.mk [Vd.one (Ld.im (T.flt Go.FloatKind.f64))] [], fun x => p_gauge_Of x⟩
noncomputable def c_gauge_Of : Cx := ⟨Try.prog, [], [], [], [], [], 0, 5, [(15, 3), (65, 2), (144, 0)], fun _ _ _ => none⟩
theorem q_gauge_Of (x : HL (e_gauge_Of).pre.ts) : runF (c_gauge_Of) 0 Try.f21 (e_gauge_Of).pre (e_gauge_Of).post x = (e_gauge_Of).fn x := by kernel_rfl
theorem s_gauge_Of : Entry.Sound Try.prog 21 (e_gauge_Of) := runF_sound (X := c_gauge_Of) (pre := (e_gauge_Of).pre) (post := (e_gauge_Of).post) (q := (e_gauge_Of).fn) ⟨dOk_nil, x_ext, x_mo⟩ Try.func21 (q_gauge_Of)

/- math.Abs: function 101 -/
noncomputable def p_math_Abs (x178 : Nat) : Option Nat :=
  some (Int.toNat (iandn IntKind.u64 (↑x178 : Int) (9223372036854775808 : Int)))
noncomputable def e_math_Abs : Entry := ⟨Ds.mk [Vd.one (Ld.im (T.flt Go.FloatKind.f64))] [], Ds.mk [Vd.one (Ld.im (T.flt Go.FloatKind.f64))] [], fun x => p_math_Abs x⟩
noncomputable def c_math_Abs : Cx := ⟨Try.prog, [], [], [], [], [], 0, 7, [(15, 3), (65, 2), (144, 0)], fun _ _ _ => none⟩
theorem q_math_Abs (x : HL (e_math_Abs).pre.ts) : runF (c_math_Abs) 0 Try.f101 (e_math_Abs).pre (e_math_Abs).post x = (e_math_Abs).fn x := by kernel_rfl
theorem s_math_Abs : Entry.Sound Try.prog 101 (e_math_Abs) := runF_sound (X := c_math_Abs) (pre := (e_math_Abs).pre) (post := (e_math_Abs).post) (q := (e_math_Abs).fn) ⟨dOk_nil, x_ext, x_mo⟩ Try.func101 (q_math_Abs)

/- math.IsInf: function 67 -/
noncomputable def p_math_IsInf.j0 (x183 : Nat) : Option Bool :=
  some (flGt Go.FloatKind.f64 x183 (9218868437227405311 : Nat))
noncomputable def p_math_IsInf (x180 : Nat) (x181 : Int) : Option Bool :=
  joinC (p_math_IsInf.j0) fun (j184 : Nat → Option Bool) => bif (x181 == (0 : Int)) then Option.bind (p_math_Abs x180) fun t182 => j184 t182 else bif (decide (x181 < (0 : Int))) then j184 (flNeg Go.FloatKind.f64 x180) else j184 x180
noncomputable def e_math_IsInf : Entry := ⟨Ds.mk [Vd.one (Ld.im (T.flt Go.FloatKind.f64)), Vd.one (Ld.im (T.int IntKind.i64))] [], Ds.mk [Vd.one (Ld.im T.bool)] [], fun x => p_math_IsInf x.1 x.2⟩
noncomputable def c_math_IsInf : Cx := ⟨Try.prog, [(101, e_math_Abs)], [(5, Sd.mk [0] (Ds.mk [Vd.one (Ld.im (T.flt Go.FloatKind.f64))] []))], [], [], [], 0, 15, [(15, 3), (65, 2), (144, 0)], fun _ _ _ => none⟩
theorem q_math_IsInf (x : HL (e_math_IsInf).pre.ts) : runF (c_math_IsInf) 0 Try.f67 (e_math_IsInf).pre (e_math_IsInf).post x = (e_math_IsInf).fn x := by kernel_rfl
theorem s_math_IsInf : Entry.Sound Try.prog 67 (e_math_IsInf) := runF_sound (X := c_math_IsInf) (pre := (e_math_IsInf).pre) (post := (e_math_IsInf).post) (q := (e_math_IsInf).fn) ⟨(dOk_cons (s_math_Abs) dOk_nil), x_ext, x_mo⟩ Try.func67 (q_math_IsInf)

/- math.NaN: function 104 -/
noncomputable def p_math_NaN : Option Nat :=
  some (9221120237041090561)
noncomputable def e_math_NaN : Entry := ⟨Ds.mk [] [], Ds.mk [Vd.one (Ld.im (T.flt Go.FloatKind.f64))] [], fun x => p_math_NaN⟩
noncomputable def c_math_NaN : Cx := ⟨Try.prog, [], [], [], [], [], 0, 2, [(15, 3), (65, 2), (144, 0)], fun _ _ _ => none⟩
theorem q_math_NaN (x : HL (e_math_NaN).pre.ts) : runF (c_math_NaN) 0 Try.f104 (e_math_NaN).pre (e_math_NaN).post x = (e_math_NaN).fn x := by kernel_rfl
theorem s_math_NaN : Entry.Sound Try.prog 104 (e_math_NaN) := runF_sound (X := c_math_NaN) (pre := (e_math_NaN).pre) (post := (e_math_NaN).post) (q := (e_math_NaN).fn) ⟨dOk_nil, x_ext, x_mo⟩ Try.func104 (q_math_NaN)

/- dormouse/gauge.none: function 73 -/
noncomputable def p_gauge_none : Option Nat :=
  Option.bind p_math_NaN fun t198 => some t198
noncomputable def e_gauge_none : Entry := ⟨Ds.mk [] [], Ds.mk [Vd.one (Ld.im (T.flt Go.FloatKind.f64))] [], fun x => p_gauge_none⟩
noncomputable def c_gauge_none : Cx := ⟨Try.prog, [(104, e_math_NaN)], [], [], [], [], 0, 2, [(15, 3), (65, 2), (144, 0)], fun _ _ _ => none⟩
theorem q_gauge_none (x : HL (e_gauge_none).pre.ts) : runF (c_gauge_none) 0 Try.f73 (e_gauge_none).pre (e_gauge_none).post x = (e_gauge_none).fn x := by kernel_rfl
theorem s_gauge_none : Entry.Sound Try.prog 73 (e_gauge_none) := runF_sound (X := c_gauge_none) (pre := (e_gauge_none).pre) (post := (e_gauge_none).post) (q := (e_gauge_none).fn) ⟨(dOk_cons (s_math_NaN) dOk_nil), x_ext, x_mo⟩ Try.func73 (q_gauge_none)

/- dormouse/gauge.plus: function 74 -/
noncomputable def p_gauge_plus (x215 : Nat) : Option Nat :=
  bif (flEq Go.FloatKind.f64 x215 (0 : Nat)) then some (0 : Nat) else some x215
noncomputable def e_gauge_plus : Entry := ⟨Ds.mk [Vd.one (Ld.im (T.flt Go.FloatKind.f64))] [], Ds.mk [Vd.one (Ld.im (T.flt Go.FloatKind.f64))] [], fun x => p_gauge_plus x⟩
noncomputable def c_gauge_plus : Cx := ⟨Try.prog, [], [], [], [], [], 0, 6, [(15, 3), (65, 2), (144, 0)], fun _ _ _ => none⟩
theorem q_gauge_plus (x : HL (e_gauge_plus).pre.ts) : runF (c_gauge_plus) 0 Try.f74 (e_gauge_plus).pre (e_gauge_plus).post x = (e_gauge_plus).fn x := by kernel_rfl
theorem s_gauge_plus : Entry.Sound Try.prog 74 (e_gauge_plus) := runF_sound (X := c_gauge_plus) (pre := (e_gauge_plus).pre) (post := (e_gauge_plus).post) (q := (e_gauge_plus).fn) ⟨dOk_nil, x_ext, x_mo⟩ Try.func74 (q_gauge_plus)

/- dormouse/gauge.Share: function 30 -/
noncomputable def p_gauge_Share.j1 (x226 : Nat) (x227 : Nat) (x228 : Bool) : Option Nat :=
  bif x228 then some (0 : Nat) else Option.bind (p_gauge_plus x226) fun t231 => Option.bind (p_gauge_plus x227) fun t232 => Option.bind (flOp (3 : Nat) Go.FloatKind.f64 t231 t232) fun t233 => some t233
noncomputable def p_gauge_Share.j0 (x220 : Nat) (x221 : Nat) (x222 : Bool) : Option Nat :=
  bif x222 then Option.bind p_gauge_none fun t225 => some t225 else joinC (fun (y : Nat × Nat × Bool) => p_gauge_Share.j1 y.1 y.2.1 y.2.2) fun (j229 : Nat × Nat × Bool → Option Nat) => bif (flEq Go.FloatKind.f64 x220 (0 : Nat)) then j229 (x220, x221, flEq Go.FloatKind.f64 x221 (0 : Nat)) else j229 (x220, x221, Bool.false)
noncomputable def p_gauge_Share (x217 : Nat) (x218 : Nat) : Option Nat :=
  joinC (fun (y : Nat × Nat × Bool) => p_gauge_Share.j0 y.1 y.2.1 y.2.2) fun (j223 : Nat × Nat × Bool → Option Nat) => bif (!(flGt Go.FloatKind.f64 x217 (0 : Nat) || flEq Go.FloatKind.f64 x217 (0 : Nat))) then j223 (x217, x218, Bool.true) else bif (!(flGt Go.FloatKind.f64 x218 (0 : Nat) || flEq Go.FloatKind.f64 x218 (0 : Nat))) then j223 (x217, x218, Bool.true) else Option.bind (p_math_IsInf x218 (1 : Int)) fun t219 => j223 (x217, x218, t219)
noncomputable def e_gauge_Share : Entry := ⟨Ds.mk [Vd.one (Ld.im (T.flt Go.FloatKind.f64)), Vd.one (Ld.im (T.flt Go.FloatKind.f64))] [], Ds.mk [Vd.one (Ld.im (T.flt Go.FloatKind.f64))] [], fun x => p_gauge_Share x.1 x.2⟩
noncomputable def c_gauge_Share : Cx := ⟨Try.prog, [(67, e_math_IsInf), (73, e_gauge_none), (74, e_gauge_plus)], [], [(1, Sd.mk [0, 1, 5] (Ds.mk [Vd.one (Ld.im (T.flt Go.FloatKind.f64)), Vd.one (Ld.im (T.flt Go.FloatKind.f64)), Vd.one (Ld.im T.bool)] [])), (3, Sd.mk [0, 1, 19] (Ds.mk [Vd.one (Ld.im (T.flt Go.FloatKind.f64)), Vd.one (Ld.im (T.flt Go.FloatKind.f64)), Vd.one (Ld.im T.bool)] []))], [], [], 0, 31, [(15, 3), (65, 2), (144, 0)], fun _ _ _ => none⟩
theorem q_gauge_Share (x : HL (e_gauge_Share).pre.ts) : runF (c_gauge_Share) 0 Try.f30 (e_gauge_Share).pre (e_gauge_Share).post x = (e_gauge_Share).fn x := by kernel_rfl
theorem s_gauge_Share : Entry.Sound Try.prog 30 (e_gauge_Share) := runF_sound (X := c_gauge_Share) (pre := (e_gauge_Share).pre) (post := (e_gauge_Share).post) (q := (e_gauge_Share).fn) ⟨(dOk_cons (s_math_IsInf) (dOk_cons (s_gauge_none) (dOk_cons (s_gauge_plus) dOk_nil))), x_ext, x_mo⟩ Try.func30 (q_gauge_Share)

/- dormouse/gauge.Less: function 18 -/
noncomputable def p_gauge_Less (x249 : Nat) (x250 : Nat) : Option Bool :=
  Option.bind (p_gauge_Key x249) fun t251 => Option.bind (p_gauge_Key x250) fun t252 => some (decide (t251 < t252))
noncomputable def e_gauge_Less : Entry := ⟨Ds.mk [Vd.one (Ld.im (T.flt Go.FloatKind.f64)), Vd.one (Ld.im (T.flt Go.FloatKind.f64))] [], Ds.mk [Vd.one (Ld.im T.bool)] [], fun x => p_gauge_Less x.1 x.2⟩
noncomputable def c_gauge_Less : Cx := ⟨Try.prog, [(19, e_gauge_Key)], [], [], [], [], 0, 10, [(15, 3), (65, 2), (144, 0)], fun _ _ _ => none⟩
theorem q_gauge_Less (x : HL (e_gauge_Less).pre.ts) : runF (c_gauge_Less) 0 Try.f18 (e_gauge_Less).pre (e_gauge_Less).post x = (e_gauge_Less).fn x := by kernel_rfl
theorem s_gauge_Less : Entry.Sound Try.prog 18 (e_gauge_Less) := runF_sound (X := c_gauge_Less) (pre := (e_gauge_Less).pre) (post := (e_gauge_Less).post) (q := (e_gauge_Less).fn) ⟨(dOk_cons (s_gauge_Key) dOk_nil), x_ext, x_mo⟩ Try.func18 (q_gauge_Less)

/- math.Signbit: function 68 -/
noncomputable def p_math_Signbit (x264 : Nat) : Option Bool :=
  some (decide (IntKind.wrap IntKind.i64 (↑x264 : Int) < (0 : Int)))
noncomputable def e_math_Signbit : Entry := ⟨Ds.mk [Vd.one (Ld.im (T.flt Go.FloatKind.f64))] [], Ds.mk [Vd.one (Ld.im T.bool)] [], fun x => p_math_Signbit x⟩
noncomputable def c_math_Signbit : Cx := ⟨Try.prog, [], [], [], [], [], 0, 7, [(15, 3), (65, 2), (144, 0)], fun _ _ _ => none⟩
theorem q_math_Signbit (x : HL (e_math_Signbit).pre.ts) : runF (c_math_Signbit) 0 Try.f68 (e_math_Signbit).pre (e_math_Signbit).post x = (e_math_Signbit).fn x := by kernel_rfl
theorem s_math_Signbit : Entry.Sound Try.prog 68 (e_math_Signbit) := runF_sound (X := c_math_Signbit) (pre := (e_math_Signbit).pre) (post := (e_math_Signbit).post) (q := (e_math_Signbit).fn) ⟨dOk_nil, x_ext, x_mo⟩ Try.func68 (q_math_Signbit)

/- dormouse/gauge.Class: function 23 -/
noncomputable def p_gauge_Class.j0 (x269 : Nat) (x270 : Bool) : Option Int :=
  bif x270 then some (3 : Int) else bif (flEq Go.FloatKind.f64 x269 (0 : Nat)) then some (4 : Int) else Option.bind (p_math_IsInf x269 (1 : Int)) fun t273 => bif t273 then some (6 : Int) else some (5 : Int)
noncomputable def p_gauge_Class (x266 : Nat) : Option Int :=
  bif (!flEq Go.FloatKind.f64 x266 x266) then some (0 : Int) else Option.bind (p_math_IsInf x266 (-1 : Int)) fun t267 => bif t267 then some (1 : Int) else bif (flLt Go.FloatKind.f64 x266 (0 : Nat)) then some (2 : Int) else joinC (fun (y : Nat × Bool) => p_gauge_Class.j0 y.1 y.2) fun (j271 : Nat × Bool → Option Int) => bif (flEq Go.FloatKind.f64 x266 (0 : Nat)) then Option.bind (p_math_Signbit x266) fun t268 => j271 (x266, t268) else j271 (x266, Bool.false)
noncomputable def e_gauge_Class : Entry := ⟨Ds.mk [Vd.one (Ld.im (T.flt Go.FloatKind.f64))] [], Ds.mk [Vd.one (Ld.im (T.int IntKind.i64))] [], fun x => p_gauge_Class x⟩
noncomputable def c_gauge_Class : Cx := ⟨Try.prog, [(67, e_math_IsInf), (68, e_math_Signbit)], [], [(7, Sd.mk [0, 13] (Ds.mk [Vd.one (Ld.im (T.flt Go.FloatKind.f64)), Vd.one (Ld.im T.bool)] []))], [], [], 0, 26, [(15, 3), (65, 2), (144, 0)], fun _ _ _ => none⟩
theorem q_gauge_Class (x : HL (e_gauge_Class).pre.ts) : runF (c_gauge_Class) 0 Try.f23 (e_gauge_Class).pre (e_gauge_Class).post x = (e_gauge_Class).fn x := by kernel_rfl
theorem s_gauge_Class : Entry.Sound Try.prog 23 (e_gauge_Class) := runF_sound (X := c_gauge_Class) (pre := (e_gauge_Class).pre) (post := (e_gauge_Class).post) (q := (e_gauge_Class).fn) ⟨(dOk_cons (s_math_IsInf) (dOk_cons (s_math_Signbit) dOk_nil)), x_ext, x_mo⟩ Try.func23 (q_gauge_Class)

/- dormouse/gauge.Smooth: function 34 -/
noncomputable def p_gauge_Smooth.j0 (x287 : Nat) (x288 : Nat) (x289 : Nat) (x290 : Bool) : Option Nat :=
  bif x290 then some x287 else Option.bind (flMax Go.FloatKind.f64 x289 (0 : Nat)) fun t293 => Option.bind (flMin Go.FloatKind.f64 t293 (4607182418800017408 : Nat)) fun t294 => some (flOpX (0 : Nat) Go.FloatKind.f64 x287 (flOpX (2 : Nat) Go.FloatKind.f64 (flOpX (1 : Nat) Go.FloatKind.f64 x288 x287) t294))
noncomputable def p_gauge_Smooth (x284 : Nat) (x285 : Nat) (x286 : Nat) : Option Nat :=
  bif (!flEq Go.FloatKind.f64 x284 x284) then some x285 else joinC (fun (y : Nat × Nat × Nat × Bool) => p_gauge_Smooth.j0 y.1 y.2.1 y.2.2.1 y.2.2.2) fun (j291 : Nat × Nat × Nat × Bool → Option Nat) => bif (!flEq Go.FloatKind.f64 x285 x285) then j291 (x284, x285, x286, Bool.true) else j291 (x284, x285, x286, !flEq Go.FloatKind.f64 x286 x286)
noncomputable def e_gauge_Smooth : Entry := ⟨Ds.mk [Vd.one (Ld.im (T.flt Go.FloatKind.f64)), Vd.one (Ld.im (T.flt Go.FloatKind.f64)), Vd.one (Ld.im (T.flt Go.FloatKind.f64))] [], Ds.mk [Vd.one (Ld.im (T.fx Go.FloatKind.f64))] [], fun x => p_gauge_Smooth x.1 x.2.1 x.2.2⟩
noncomputable def c_gauge_Smooth : Cx := ⟨Try.prog, [], [], [(3, Sd.mk [0, 1, 2, 13] (Ds.mk [Vd.one (Ld.im (T.fx Go.FloatKind.f64)), Vd.one (Ld.im (T.fx Go.FloatKind.f64)), Vd.one (Ld.im (T.fx Go.FloatKind.f64)), Vd.one (Ld.im T.bool)] []))], [(999998, Sd.mk [] (Ds.mk [] []))], [], 0, 33, [(15, 3), (65, 2), (144, 0)], fun _ _ _ => none⟩
theorem q_gauge_Smooth (x : HL (e_gauge_Smooth).pre.ts) : runF (c_gauge_Smooth) 0 Try.f34 (e_gauge_Smooth).pre (e_gauge_Smooth).post x = (e_gauge_Smooth).fn x := by kernel_rfl
theorem s_gauge_Smooth : Entry.Sound Try.prog 34 (e_gauge_Smooth) := runF_sound (X := c_gauge_Smooth) (pre := (e_gauge_Smooth).pre) (post := (e_gauge_Smooth).post) (q := (e_gauge_Smooth).fn) ⟨dOk_nil, x_ext, x_mo⟩ Try.func34 (q_gauge_Smooth)

/- dormouse/gauge.Mean: function 33 -/
noncomputable def p_gauge_Mean.j0 (k : Nat) (x315 : List Nat) (x316 : Nat) : Option Nat :=
  some (flOpX (3 : Nat) Go.FloatKind.f64 x316 (flNear Go.FloatKind.f64 (↑(List.length x315) : Int)))
noncomputable def p_gauge_Mean.b1 (k : Nat) (j317 : List Nat × Nat → Option Nat) (rec313 : List Nat × Nat × List Nat × Int × Int → Option Nat) (x307 : List Nat) (x308 : Nat) (x309 : List Nat) (x310 : Int) (x311 : Int) : Option Nat :=
  bif (decide (x311 < x310)) then need ((0 : Int) ≤ x311 ∧ x311 < (↑(List.length x309) : Int)) (rec313 (x307, flOpX (0 : Nat) Go.FloatKind.f64 x308 (at_ (dflt (T.flt Go.FloatKind.f64)) x309 x311), x309, x310, IntKind.wrap IntKind.i64 (x311 + (1 : Int)))) else j317 (x307, x308)
noncomputable def p_gauge_Mean (k : Nat) (x306 : List Nat) : Option Nat :=
  joinC (fun (y : List Nat × Nat) => p_gauge_Mean.j0 k y.1 y.2) fun (j317 : List Nat × Nat → Option Nat) => loopC (fun (r : List Nat × Nat × List Nat × Int × Int → Option Nat) y => p_gauge_Mean.b1 k j317 r y.1 y.2.1 y.2.2.1 y.2.2.2.1 y.2.2.2.2) k (x306, (0 : Nat), x306, (↑(List.length x306) : Int), (0 : Int))
noncomputable def e_gauge_Mean (k : Nat) : Entry := ⟨Ds.mk [Vd.one (Ld.im (T.sl (T.flt Go.FloatKind.f64)))] [], Ds.mk [Vd.one (Ld.im (T.fx Go.FloatKind.f64))] [], fun x => p_gauge_Mean k x⟩
noncomputable def c_gauge_Mean (k : Nat) : Cx := ⟨Try.prog, [], [(7, Sd.mk [0, 3] (Ds.mk [Vd.one (Ld.im (T.sl (T.flt Go.FloatKind.f64))), Vd.one (Ld.im (T.fx Go.FloatKind.f64))] []))], [], [(999998, Sd.mk [] (Ds.mk [] [])), (3, Sd.mk [0, 3, 6, 7, 8] (Ds.mk [Vd.one (Ld.im (T.sl (T.flt Go.FloatKind.f64))), Vd.one (Ld.im (T.fx Go.FloatKind.f64)), Vd.one (Ld.im (T.sl (T.flt Go.FloatKind.f64))), Vd.one (Ld.im (T.int IntKind.i64)), Vd.one (Ld.im (T.int IntKind.i64))] []))], [], 0, 21, [(15, 3), (65, 2), (144, 0)], fun _ _ _ => none⟩
theorem q_gauge_Mean (k : Nat) (x : HL (e_gauge_Mean k).pre.ts) : runF (c_gauge_Mean k) k Try.f33 (e_gauge_Mean k).pre (e_gauge_Mean k).post x = (e_gauge_Mean k).fn x := by kernel_rfl
theorem s_gauge_Mean (k : Nat) : Entry.Sound Try.prog 33 (e_gauge_Mean k) := runF_sound (X := c_gauge_Mean k) (pre := (e_gauge_Mean k).pre) (post := (e_gauge_Mean k).post) (q := (e_gauge_Mean k).fn) ⟨dOk_nil, x_ext, x_mo⟩ Try.func33 (q_gauge_Mean k)

/- dormouse/gauge.Most: function 29 -/
noncomputable def p_gauge_Most (x331 : List Nat) : Option Nat :=
  bif ((↑(List.length x331) : Int) == (0 : Int)) then some (0 : Nat) else Option.bind (p_gauge_Sort x331) fun t332 => need ((0 : Int) ≤ IntKind.wrap IntKind.i64 ((↑(List.length x331) : Int) - (1 : Int)) ∧ IntKind.wrap IntKind.i64 ((↑(List.length x331) : Int) - (1 : Int)) < (↑(List.length t332) : Int)) (some (at_ (dflt (T.flt Go.FloatKind.f64)) t332 (IntKind.wrap IntKind.i64 ((↑(List.length x331) : Int) - (1 : Int)))))
noncomputable def e_gauge_Most : Entry := ⟨Ds.mk [Vd.one (Ld.im (T.sl (T.flt Go.FloatKind.f64)))] [], Ds.mk [Vd.one (Ld.im (T.flt Go.FloatKind.f64))] [], fun x => p_gauge_Most x⟩
noncomputable def c_gauge_Most : Cx := ⟨Try.prog, [(25, e_gauge_Sort)], [], [], [], [], 0, 13, [(15, 3), (65, 2), (144, 0)], fun _ _ _ => none⟩
theorem q_gauge_Most (x : HL (e_gauge_Most).pre.ts) : runF (c_gauge_Most) 0 Try.f29 (e_gauge_Most).pre (e_gauge_Most).post x = (e_gauge_Most).fn x := by kernel_rfl
theorem s_gauge_Most : Entry.Sound Try.prog 29 (e_gauge_Most) := runF_sound (X := c_gauge_Most) (pre := (e_gauge_Most).pre) (post := (e_gauge_Most).post) (q := (e_gauge_Most).fn) ⟨(dOk_cons (s_gauge_Sort) dOk_nil), x_ext, x_mo⟩ Try.func29 (q_gauge_Most)

/- dormouse/dormouselaw04.awake: function 17 -/
noncomputable def p_dormouselaw04_awake.j0 (k : Nat) (x346 : Bool) : Option Bool :=
  some x346
noncomputable def p_dormouselaw04_awake (k : Nat) : Option Bool :=
  Option.bind (p_gauge_Of (9223372036854775808 : Int)) fun t335 => joinC (p_dormouselaw04_awake.j0 k) fun (j347 : Bool → Option Bool) => Option.bind (p_gauge_Share (0) (0)) fun t336 => bif (flEq Go.FloatKind.f64 t336 (0 : Nat)) then Option.bind (p_gauge_Share (4607182418800017408) (4616189618054758400)) fun t337 => bif (flEq Go.FloatKind.f64 t337 (4598175219545276416 : Nat)) then Option.bind (p_gauge_Less t335 (0 : Nat)) fun t338 => bif t338 then Option.bind (p_gauge_Key (0 : Nat)) fun t339 => Option.bind (p_gauge_Key t335) fun t340 => bif (IntKind.wrap IntKind.u64 (t339 - t340) == (1 : Int)) then Option.bind (p_gauge_Class t335) fun t341 => bif (t341 == (3 : Int)) then Option.bind (p_gauge_Class (4607182418800017408 : Nat)) fun t342 => bif (t342 == (5 : Int)) then Option.bind (p_gauge_Smooth (4611686018427387904) (4616189618054758400) (4602678819172646912)) fun t343 => bif (flEq Go.FloatKind.f64 t343 (4613937818241073152 : Nat)) then Option.bind (p_gauge_Mean k [(4607182418800017408 : Nat), (4613937818241073152 : Nat)]) fun t344 => bif (flEq Go.FloatKind.f64 t344 (4611686018427387904 : Nat)) then Option.bind (p_gauge_Most [(4607182418800017408 : Nat), (4613937818241073152 : Nat)]) fun t345 => j347 (flEq Go.FloatKind.f64 t345 (4613937818241073152 : Nat)) else j347 Bool.false else j347 Bool.false else j347 Bool.false else j347 Bool.false else j347 Bool.false else j347 Bool.false else j347 Bool.false else j347 Bool.false
noncomputable def e_dormouselaw04_awake (k : Nat) : Entry := ⟨Ds.mk [] [], Ds.mk [Vd.one (Ld.im T.bool)] [], fun x => p_dormouselaw04_awake k⟩
noncomputable def c_dormouselaw04_awake (k : Nat) : Cx := ⟨Try.prog, [(21, e_gauge_Of), (30, e_gauge_Share), (19, e_gauge_Key), (18, e_gauge_Less), (23, e_gauge_Class), (34, e_gauge_Smooth), (33, e_gauge_Mean k), (29, e_gauge_Most)], [], [(2, Sd.mk [0] (Ds.mk [Vd.one (Ld.im T.bool)] []))], [], [], 0, 43, [(15, 3), (65, 2), (144, 0)], fun _ _ _ => none⟩
theorem q_dormouselaw04_awake (k : Nat) (x : HL (e_dormouselaw04_awake k).pre.ts) : runF (c_dormouselaw04_awake k) k Try.f17 (e_dormouselaw04_awake k).pre (e_dormouselaw04_awake k).post x = (e_dormouselaw04_awake k).fn x := by kernel_rfl
theorem s_dormouselaw04_awake (k : Nat) : Entry.Sound Try.prog 17 (e_dormouselaw04_awake k) := runF_sound (X := c_dormouselaw04_awake k) (pre := (e_dormouselaw04_awake k).pre) (post := (e_dormouselaw04_awake k).post) (q := (e_dormouselaw04_awake k).fn) ⟨(dOk_cons (s_gauge_Of) (dOk_cons (s_gauge_Share) (dOk_cons (s_gauge_Key) (dOk_cons (s_gauge_Less) (dOk_cons (s_gauge_Class) (dOk_cons (s_gauge_Smooth) (dOk_cons (s_gauge_Mean k) (dOk_cons (s_gauge_Most) dOk_nil)))))))), x_ext, x_mo⟩ Try.func17 (q_dormouselaw04_awake k)

/- dormouse/gauge.Least: function 28 -/
noncomputable def p_gauge_Least (x368 : List Nat) : Option Nat :=
  bif ((↑(List.length x368) : Int) == (0 : Int)) then some (0 : Nat) else Option.bind (p_gauge_Sort x368) fun t369 => need ((0 : Int) ≤ (0 : Int) ∧ (0 : Int) < (↑(List.length t369) : Int)) (some (at_ (dflt (T.flt Go.FloatKind.f64)) t369 (0 : Int)))
noncomputable def e_gauge_Least : Entry := ⟨Ds.mk [Vd.one (Ld.im (T.sl (T.flt Go.FloatKind.f64)))] [], Ds.mk [Vd.one (Ld.im (T.flt Go.FloatKind.f64))] [], fun x => p_gauge_Least x⟩
noncomputable def c_gauge_Least : Cx := ⟨Try.prog, [(25, e_gauge_Sort)], [], [], [], [], 0, 10, [(15, 3), (65, 2), (144, 0)], fun _ _ _ => none⟩
theorem q_gauge_Least (x : HL (e_gauge_Least).pre.ts) : runF (c_gauge_Least) 0 Try.f28 (e_gauge_Least).pre (e_gauge_Least).post x = (e_gauge_Least).fn x := by kernel_rfl
theorem s_gauge_Least : Entry.Sound Try.prog 28 (e_gauge_Least) := runF_sound (X := c_gauge_Least) (pre := (e_gauge_Least).pre) (post := (e_gauge_Least).post) (q := (e_gauge_Least).fn) ⟨(dOk_cons (s_gauge_Sort) dOk_nil), x_ext, x_mo⟩ Try.func28 (q_gauge_Least)

/- dormouse/dormouselaw04.GaugeSorts: function 5 -/
noncomputable def p_dormouselaw04_GaugeSorts.j2 (k : Nat) (x428 : Bool) : Option Bool :=
  some x428
noncomputable def p_dormouselaw04_GaugeSorts.j3 (k : Nat) (x438 : Bool) : Option Bool :=
  some x438
noncomputable def p_dormouselaw04_GaugeSorts.j1 (k : Nat) (x423 : List Nat) (x424 : List Nat) : Option Bool :=
  bif ((↑(List.length x423) : Int) == (0 : Int)) then joinC (p_dormouselaw04_GaugeSorts.j2 k) fun (j429 : Bool → Option Bool) => Option.bind (p_dormouselaw04_awake k) fun t425 => bif t425 then Option.bind (p_gauge_Least []) fun t426 => bif (flEq Go.FloatKind.f64 t426 (0 : Nat)) then Option.bind (p_gauge_Most []) fun t427 => j429 (flEq Go.FloatKind.f64 t427 (0 : Nat)) else j429 Bool.false else j429 Bool.false else joinC (p_dormouselaw04_GaugeSorts.j3 k) fun (j439 : Bool → Option Bool) => Option.bind (p_dormouselaw04_awake k) fun t431 => bif t431 then Option.bind (p_gauge_Least x423) fun t432 => need ((0 : Int) ≤ (0 : Int) ∧ (0 : Int) < (↑(List.length x424) : Int)) (Option.bind (p_dormouseref04_Same t432 (at_ (dflt (T.flt Go.FloatKind.f64)) x424 (0 : Int))) fun t434 => bif t434 then Option.bind (p_gauge_Most x423) fun t435 => need ((0 : Int) ≤ IntKind.wrap IntKind.i64 ((↑(List.length x423) : Int) - (1 : Int)) ∧ IntKind.wrap IntKind.i64 ((↑(List.length x423) : Int) - (1 : Int)) < (↑(List.length x424) : Int)) (Option.bind (p_dormouseref04_Same t435 (at_ (dflt (T.flt Go.FloatKind.f64)) x424 (IntKind.wrap IntKind.i64 ((↑(List.length x423) : Int) - (1 : Int))))) fun t437 => j439 t437) else j439 Bool.false) else j439 Bool.false
noncomputable def p_dormouselaw04_GaugeSorts.b4 (k : Nat) (j441 : List Nat × List Nat → Option Bool) (rec421 : List Nat × List Nat × Int × List Nat → Option Bool) (x414 : List Nat) (x415 : List Nat) (x416 : Int) (x417 : List Nat) : Option Bool :=
  bif (decide (x416 < (↑(List.length x417) : Int))) then need ((0 : Int) ≤ x416 ∧ x416 < (↑(List.length x417) : Int)) (need ((0 : Int) ≤ x416 ∧ x416 < (↑(List.length x415) : Int)) (Option.bind (p_dormouseref04_Same (at_ (dflt (T.flt Go.FloatKind.f64)) x417 x416) (at_ (dflt (T.flt Go.FloatKind.f64)) x415 x416)) fun t420 => bif !t420 then some Bool.false else rec421 (x414, x415, IntKind.wrap IntKind.i64 (x416 + (1 : Int)), x417))) else j441 (x414, x415)
noncomputable def p_dormouselaw04_GaugeSorts.j0 (k : Nat) (x411 : List Nat) : Option Bool :=
  Option.bind (p_gauge_Sort x411) fun t412 => Option.bind (p_dormouseref04_Sort k x411) fun t413 => bif ((↑(List.length t412) : Int) != (↑(List.length t413) : Int)) then some Bool.false else joinC (fun (y : List Nat × List Nat) => p_dormouselaw04_GaugeSorts.j1 k y.1 y.2) fun (j441 : List Nat × List Nat → Option Bool) => loopC (fun (r : List Nat × List Nat × Int × List Nat → Option Bool) y => p_dormouselaw04_GaugeSorts.b4 k j441 r y.1 y.2.1 y.2.2.1 y.2.2.2) k (x411, t413, (0 : Int), t412)
noncomputable def p_dormouselaw04_GaugeSorts (k : Nat) (x409 : List Nat) : Option Bool :=
  joinC (p_dormouselaw04_GaugeSorts.j0 k) fun (j443 : List Nat → Option Bool) => bif (decide ((↑(List.length x409) : Int) > (60 : Int))) then need ((0 : Int) ≤ (0 : Int) ∧ (0 : Int) ≤ (60 : Int) ∧ (60 : Int) ≤ (↑(List.length x409) : Int)) (j443 (sub_ x409 (0 : Int) (60 : Int))) else j443 x409
noncomputable def e_dormouselaw04_GaugeSorts (k : Nat) : Entry := ⟨Ds.mk [Vd.one (Ld.im (T.sl (T.flt Go.FloatKind.f64)))] [], Ds.mk [Vd.one (Ld.im T.bool)] [], fun x => p_dormouselaw04_GaugeSorts k x⟩
noncomputable def c_dormouselaw04_GaugeSorts (k : Nat) : Cx := ⟨Try.prog, [(25, e_gauge_Sort), (26, e_dormouseref04_Sort k), (27, e_dormouseref04_Same), (29, e_gauge_Most), (17, e_dormouselaw04_awake k), (28, e_gauge_Least)], [(3, Sd.mk [0] (Ds.mk [Vd.one (Ld.im (T.sl (T.flt Go.FloatKind.f64)))] [])), (11, Sd.mk [0, 4] (Ds.mk [Vd.one (Ld.im (T.sl (T.flt Go.FloatKind.f64))), Vd.one (Ld.im (T.sl (T.flt Go.FloatKind.f64)))] []))], [(12, Sd.mk [2] (Ds.mk [Vd.one (Ld.im T.bool)] [])), (13, Sd.mk [2] (Ds.mk [Vd.one (Ld.im T.bool)] []))], [(7, Sd.mk [0, 3, 4, 5] (Ds.mk [Vd.one (Ld.im (T.sl (T.flt Go.FloatKind.f64))), Vd.one (Ld.own (0)), Vd.one (Ld.im (T.sl (T.flt Go.FloatKind.f64))), Vd.one (Ld.im (T.int IntKind.i64))] [Od.arr (31) (T.flt Go.FloatKind.f64)]))], [(9, ([(0, 2), (1, 2), (2, 2), (3, 1), (4, 2), (5, 2), (6, 2), (7, 1), (8, 0), (9, 2)], [], [])), (13, ([(0, 0), (1, 2), (2, 2), (3, 0), (4, 2), (5, 2), (6, 1), (7, 0), (8, 2), (9, 2), (10, 2), (11, 0), (12, 2), (13, 2), (14, 2), (15, 2), (16, 2), (17, 1), (18, 0), (19, 2), (20, 2)], [], []))], 0, 68, [(15, 3), (65, 2), (144, 0)], fun _ _ _ => none⟩
theorem q_dormouselaw04_GaugeSorts (k : Nat) (x : HL (e_dormouselaw04_GaugeSorts k).pre.ts) : runF (c_dormouselaw04_GaugeSorts k) k Try.f5 (e_dormouselaw04_GaugeSorts k).pre (e_dormouselaw04_GaugeSorts k).post x = (e_dormouselaw04_GaugeSorts k).fn x := by kernel_rfl
theorem s_dormouselaw04_GaugeSorts (k : Nat) : Entry.Sound Try.prog 5 (e_dormouselaw04_GaugeSorts k) := runF_sound (X := c_dormouselaw04_GaugeSorts k) (pre := (e_dormouselaw04_GaugeSorts k).pre) (post := (e_dormouselaw04_GaugeSorts k).post) (q := (e_dormouselaw04_GaugeSorts k).fn) ⟨(dOk_cons (s_gauge_Sort) (dOk_cons (s_dormouseref04_Sort k) (dOk_cons (s_dormouseref04_Same) (dOk_cons (s_gauge_Most) (dOk_cons (s_dormouselaw04_awake k) (dOk_cons (s_gauge_Least) dOk_nil)))))), x_ext, x_mo⟩ Try.func5 (q_dormouselaw04_GaugeSorts k)

/- dormouse/gauge.Same: function 22 -/
noncomputable def p_gauge_Same (x456 : Nat) (x457 : Nat) : Option Bool :=
  Option.bind (p_gauge_Bits x456) fun t458 => Option.bind (p_gauge_Bits x457) fun t459 => some (t458 == t459)
noncomputable def e_gauge_Same : Entry := ⟨Ds.mk [Vd.one (Ld.im (T.flt Go.FloatKind.f64)), Vd.one (Ld.im (T.flt Go.FloatKind.f64))] [], Ds.mk [Vd.one (Ld.im T.bool)] [], fun x => p_gauge_Same x.1 x.2⟩
noncomputable def c_gauge_Same : Cx := ⟨Try.prog, [(20, e_gauge_Bits)], [], [], [], [], 0, 10, [(15, 3), (65, 2), (144, 0)], fun _ _ _ => none⟩
theorem q_gauge_Same (x : HL (e_gauge_Same).pre.ts) : runF (c_gauge_Same) 0 Try.f22 (e_gauge_Same).pre (e_gauge_Same).post x = (e_gauge_Same).fn x := by kernel_rfl
theorem s_gauge_Same : Entry.Sound Try.prog 22 (e_gauge_Same) := runF_sound (X := c_gauge_Same) (pre := (e_gauge_Same).pre) (post := (e_gauge_Same).post) (q := (e_gauge_Same).fn) ⟨(dOk_cons (s_gauge_Bits) dOk_nil), x_ext, x_mo⟩ Try.func22 (q_gauge_Same)

/- dormouse/dormouseref04.Infinite: function 31 -/
noncomputable def p_dormouseref04_Infinite.j0 (x476 : Bool) : Option Bool :=
  some x476
noncomputable def p_dormouseref04_Infinite (x475 : Nat) : Option Bool :=
  joinC (p_dormouseref04_Infinite.j0) fun (j477 : Bool → Option Bool) => bif (flEq Go.FloatKind.f64 x475 x475) then j477 (!flEq Go.FloatKind.f64 (flOpX (1 : Nat) Go.FloatKind.f64 x475 x475) (0 : Nat)) else j477 Bool.false
noncomputable def e_dormouseref04_Infinite : Entry := ⟨Ds.mk [Vd.one (Ld.im (T.flt Go.FloatKind.f64))] [], Ds.mk [Vd.one (Ld.im T.bool)] [], fun x => p_dormouseref04_Infinite x⟩
noncomputable def c_dormouseref04_Infinite : Cx := ⟨Try.prog, [], [], [(1, Sd.mk [2] (Ds.mk [Vd.one (Ld.im T.bool)] []))], [(999998, Sd.mk [] (Ds.mk [] []))], [], 0, 12, [(15, 3), (65, 2), (144, 0)], fun _ _ _ => none⟩
theorem q_dormouseref04_Infinite (x : HL (e_dormouseref04_Infinite).pre.ts) : runF (c_dormouseref04_Infinite) 0 Try.f31 (e_dormouseref04_Infinite).pre (e_dormouseref04_Infinite).post x = (e_dormouseref04_Infinite).fn x := by kernel_rfl
theorem s_dormouseref04_Infinite : Entry.Sound Try.prog 31 (e_dormouseref04_Infinite) := runF_sound (X := c_dormouseref04_Infinite) (pre := (e_dormouseref04_Infinite).pre) (post := (e_dormouseref04_Infinite).post) (q := (e_dormouseref04_Infinite).fn) ⟨dOk_nil, x_ext, x_mo⟩ Try.func31 (q_dormouseref04_Infinite)

/- dormouse/dormouseref04.Class: function 24 -/
noncomputable def p_dormouseref04_Class.j0 (x482 : Nat) (x483 : Bool) : Option Int :=
  bif x483 then some (1 : Int) else Option.bind (p_dormouseref04_Infinite x482) fun t486 => bif t486 then some (6 : Int) else bif (flLt Go.FloatKind.f64 x482 (0 : Nat)) then some (2 : Int) else bif (flGt Go.FloatKind.f64 x482 (0 : Nat)) then some (5 : Int) else Option.bind (p_dormouseref04_minus x482) fun t487 => bif t487 then some (3 : Int) else some (4 : Int)
noncomputable def p_dormouseref04_Class (x480 : Nat) : Option Int :=
  bif (!flEq Go.FloatKind.f64 x480 x480) then some (0 : Int) else joinC (fun (y : Nat × Bool) => p_dormouseref04_Class.j0 y.1 y.2) fun (j484 : Nat × Bool → Option Int) => Option.bind (p_dormouseref04_Infinite x480) fun t481 => bif t481 then j484 (x480, flLt Go.FloatKind.f64 x480 (0 : Nat)) else j484 (x480, Bool.false)
noncomputable def e_dormouseref04_Class : Entry := ⟨Ds.mk [Vd.one (Ld.im (T.flt Go.FloatKind.f64))] [], Ds.mk [Vd.one (Ld.im (T.int IntKind.i64))] [], fun x => p_dormouseref04_Class x⟩
noncomputable def c_dormouseref04_Class : Cx := ⟨Try.prog, [(66, e_dormouseref04_minus), (31, e_dormouseref04_Infinite)], [], [(3, Sd.mk [0, 11] (Ds.mk [Vd.one (Ld.im (T.flt Go.FloatKind.f64)), Vd.one (Ld.im T.bool)] []))], [], [], 0, 20, [(15, 3), (65, 2), (144, 0)], fun _ _ _ => none⟩
theorem q_dormouseref04_Class (x : HL (e_dormouseref04_Class).pre.ts) : runF (c_dormouseref04_Class) 0 Try.f24 (e_dormouseref04_Class).pre (e_dormouseref04_Class).post x = (e_dormouseref04_Class).fn x := by kernel_rfl
theorem s_dormouseref04_Class : Entry.Sound Try.prog 24 (e_dormouseref04_Class) := runF_sound (X := c_dormouseref04_Class) (pre := (e_dormouseref04_Class).pre) (post := (e_dormouseref04_Class).post) (q := (e_dormouseref04_Class).fn) ⟨(dOk_cons (s_dormouseref04_minus) (dOk_cons (s_dormouseref04_Infinite) dOk_nil)), x_ext, x_mo⟩ Try.func24 (q_dormouseref04_Class)

/- dormouse/dormouselaw04.GaugeOrders: function 4 -/
noncomputable def p_dormouselaw04_GaugeOrders.j0 (k : Nat) (x513 : Bool) : Option Bool :=
  some x513
noncomputable def p_dormouselaw04_GaugeOrders (k : Nat) (x489 : Int) (x490 : Int) : Option Bool :=
  Option.bind (p_dormouseref04_Less (Int.toNat x489) (Int.toNat x490)) fun t491 => joinC (p_dormouselaw04_GaugeOrders.j0 k) fun (j514 : Bool → Option Bool) => Option.bind (p_dormouselaw04_awake k) fun t492 => bif t492 then Option.bind (p_gauge_Less (Int.toNat x489) (Int.toNat x490)) fun t493 => bif (t493 == t491) then bif t491 then bif (Bool.true == (x489 != x490)) then Option.bind (p_gauge_Key (Int.toNat x489)) fun t494 => Option.bind (p_gauge_Key (Int.toNat x490)) fun t495 => bif (decide (t494 < t495) == t491) then Option.bind (p_gauge_Of x489) fun t496 => Option.bind (p_gauge_Bits t496) fun t497 => bif (t497 == x489) then Option.bind (p_gauge_Same (Int.toNat x489) (Int.toNat x490)) fun t498 => bif (t498 == (x489 == x490)) then bif (!flLt Go.FloatKind.f64 (Int.toNat x489) (Int.toNat x490)) then Option.bind (p_gauge_Class (Int.toNat x489)) fun t499 => Option.bind (p_dormouseref04_Class (Int.toNat x489)) fun t500 => j514 (t499 == t500) else bif t491 then Option.bind (p_gauge_Class (Int.toNat x489)) fun t501 => Option.bind (p_dormouseref04_Class (Int.toNat x489)) fun t502 => j514 (t501 == t502) else j514 Bool.false else j514 Bool.false else j514 Bool.false else j514 Bool.false else j514 Bool.false else Option.bind (p_dormouseref04_Less (Int.toNat x490) (Int.toNat x489)) fun t503 => bif (t503 == (x489 != x490)) then Option.bind (p_gauge_Key (Int.toNat x489)) fun t504 => Option.bind (p_gauge_Key (Int.toNat x490)) fun t505 => bif (decide (t504 < t505) == t491) then Option.bind (p_gauge_Of x489) fun t506 => Option.bind (p_gauge_Bits t506) fun t507 => bif (t507 == x489) then Option.bind (p_gauge_Same (Int.toNat x489) (Int.toNat x490)) fun t508 => bif (t508 == (x489 == x490)) then bif (!flLt Go.FloatKind.f64 (Int.toNat x489) (Int.toNat x490)) then Option.bind (p_gauge_Class (Int.toNat x489)) fun t509 => Option.bind (p_dormouseref04_Class (Int.toNat x489)) fun t510 => j514 (t509 == t510) else bif t491 then Option.bind (p_gauge_Class (Int.toNat x489)) fun t511 => Option.bind (p_dormouseref04_Class (Int.toNat x489)) fun t512 => j514 (t511 == t512) else j514 Bool.false else j514 Bool.false else j514 Bool.false else j514 Bool.false else j514 Bool.false else j514 Bool.false else j514 Bool.false
noncomputable def e_dormouselaw04_GaugeOrders (k : Nat) : Entry := ⟨Ds.mk [Vd.one (Ld.im (T.int IntKind.u64)), Vd.one (Ld.im (T.int IntKind.u64))] [], Ds.mk [Vd.one (Ld.im T.bool)] [], fun x => p_dormouselaw04_GaugeOrders k x.1 x.2⟩
noncomputable def c_dormouselaw04_GaugeOrders (k : Nat) : Cx := ⟨Try.prog, [(16, e_dormouseref04_Less), (21, e_gauge_Of), (20, e_gauge_Bits), (19, e_gauge_Key), (18, e_gauge_Less), (23, e_gauge_Class), (17, e_dormouselaw04_awake k), (22, e_gauge_Same), (24, e_dormouseref04_Class)], [], [(3, Sd.mk [4] (Ds.mk [Vd.one (Ld.im T.bool)] []))], [], [], 0, 76, [(15, 3), (65, 2), (144, 0)], fun _ _ _ => none⟩
theorem q_dormouselaw04_GaugeOrders (k : Nat) (x : HL (e_dormouselaw04_GaugeOrders k).pre.ts) : runF (c_dormouselaw04_GaugeOrders k) k Try.f4 (e_dormouselaw04_GaugeOrders k).pre (e_dormouselaw04_GaugeOrders k).post x = (e_dormouselaw04_GaugeOrders k).fn x := by kernel_rfl
theorem s_dormouselaw04_GaugeOrders (k : Nat) : Entry.Sound Try.prog 4 (e_dormouselaw04_GaugeOrders k) := runF_sound (X := c_dormouselaw04_GaugeOrders k) (pre := (e_dormouselaw04_GaugeOrders k).pre) (post := (e_dormouselaw04_GaugeOrders k).post) (q := (e_dormouselaw04_GaugeOrders k).fn) ⟨(dOk_cons (s_dormouseref04_Less) (dOk_cons (s_gauge_Of) (dOk_cons (s_gauge_Bits) (dOk_cons (s_gauge_Key) (dOk_cons (s_gauge_Less) (dOk_cons (s_gauge_Class) (dOk_cons (s_dormouselaw04_awake k) (dOk_cons (s_gauge_Same) (dOk_cons (s_dormouseref04_Class) dOk_nil))))))))), x_ext, x_mo⟩ Try.func4 (q_dormouselaw04_GaugeOrders k)

/- dormouse/dormouseref04.Alike: function 32 -/
noncomputable def p_dormouseref04_Alike.j0 (x552 : Bool) : Option Bool :=
  some x552
noncomputable def p_dormouseref04_Alike (x550 : Nat) (x551 : Nat) : Option Bool :=
  joinC (p_dormouseref04_Alike.j0) fun (j553 : Bool → Option Bool) => bif (flEq Go.FloatKind.f64 x550 x551) then j553 Bool.true else bif (!flEq Go.FloatKind.f64 x550 x550) then j553 (!flEq Go.FloatKind.f64 x551 x551) else j553 Bool.false
noncomputable def e_dormouseref04_Alike : Entry := ⟨Ds.mk [Vd.one (Ld.im (T.flt Go.FloatKind.f64)), Vd.one (Ld.im (T.flt Go.FloatKind.f64))] [], Ds.mk [Vd.one (Ld.im T.bool)] [], fun x => p_dormouseref04_Alike x.1 x.2⟩
noncomputable def c_dormouseref04_Alike : Cx := ⟨Try.prog, [], [], [(1, Sd.mk [4] (Ds.mk [Vd.one (Ld.im T.bool)] []))], [], [], 0, 18, [(15, 3), (65, 2), (144, 0)], fun _ _ _ => none⟩
theorem q_dormouseref04_Alike (x : HL (e_dormouseref04_Alike).pre.ts) : runF (c_dormouseref04_Alike) 0 Try.f32 (e_dormouseref04_Alike).pre (e_dormouseref04_Alike).post x = (e_dormouseref04_Alike).fn x := by kernel_rfl
theorem s_dormouseref04_Alike : Entry.Sound Try.prog 32 (e_dormouseref04_Alike) := runF_sound (X := c_dormouseref04_Alike) (pre := (e_dormouseref04_Alike).pre) (post := (e_dormouseref04_Alike).post) (q := (e_dormouseref04_Alike).fn) ⟨dOk_nil, x_ext, x_mo⟩ Try.func32 (q_dormouseref04_Alike)

/- dormouse/dormouselaw04.GaugeShares: function 6 -/
noncomputable def p_dormouselaw04_GaugeShares.j1 (k : Nat) (x567 : Bool) : Option Bool :=
  some x567
noncomputable def p_dormouselaw04_GaugeShares.j3 (k : Nat) (x578 : Bool) : Option Bool :=
  some x578
noncomputable def p_dormouselaw04_GaugeShares.j4 (k : Nat) (x583 : Bool) : Option Bool :=
  some x583
noncomputable def p_dormouselaw04_GaugeShares.j5 (k : Nat) (x589 : Bool) : Option Bool :=
  some x589
noncomputable def p_dormouselaw04_GaugeShares.j2 (k : Nat) (x570 : Nat) (x571 : Nat) (x572 : Nat) (x573 : Bool) : Option Bool :=
  bif x573 then joinC (p_dormouselaw04_GaugeShares.j3 k) fun (j579 : Bool → Option Bool) => Option.bind (p_dormouselaw04_awake k) fun t576 => bif t576 then Option.bind (p_dormouseref04_Same x572 (0 : Nat)) fun t577 => j579 t577 else j579 Bool.false else bif (flEq Go.FloatKind.f64 x571 (0 : Nat)) then joinC (p_dormouselaw04_GaugeShares.j4 k) fun (j584 : Bool → Option Bool) => Option.bind (p_dormouselaw04_awake k) fun t581 => bif t581 then Option.bind (p_dormouseref04_Infinite x572) fun t582 => bif t582 then j584 (flGt Go.FloatKind.f64 x572 (0 : Nat)) else j584 Bool.false else j584 Bool.false else joinC (p_dormouselaw04_GaugeShares.j5 k) fun (j590 : Bool → Option Bool) => Option.bind (p_dormouselaw04_awake k) fun t586 => bif t586 then Option.bind (flOp (3 : Nat) Go.FloatKind.f64 x570 x571) fun t587 => Option.bind (p_dormouseref04_Alike x572 t587) fun t588 => bif t588 then bif (flGt Go.FloatKind.f64 x572 (0 : Nat) || flEq Go.FloatKind.f64 x572 (0 : Nat)) then bif (!(flLt Go.FloatKind.f64 x570 x571 || flEq Go.FloatKind.f64 x570 x571)) then j590 Bool.true else j590 (flLt Go.FloatKind.f64 x572 (4607182418800017408 : Nat) || flEq Go.FloatKind.f64 x572 (4607182418800017408 : Nat)) else j590 Bool.false else j590 Bool.false else j590 Bool.false
noncomputable def p_dormouselaw04_GaugeShares.j0 (k : Nat) (x560 : Nat) (x561 : Nat) (x562 : Nat) (x563 : Bool) : Option Bool :=
  bif x563 then joinC (p_dormouselaw04_GaugeShares.j1 k) fun (j568 : Bool → Option Bool) => Option.bind (p_dormouselaw04_awake k) fun t566 => bif t566 then j568 (!flEq Go.FloatKind.f64 x562 x562) else j568 Bool.false else joinC (fun (y : Nat × Nat × Nat × Bool) => p_dormouselaw04_GaugeShares.j2 k y.1 y.2.1 y.2.2.1 y.2.2.2) fun (j574 : Nat × Nat × Nat × Bool → Option Bool) => bif (flEq Go.FloatKind.f64 x560 (0 : Nat)) then j574 (x560, x561, x562, flEq Go.FloatKind.f64 x561 (0 : Nat)) else j574 (x560, x561, x562, Bool.false)
noncomputable def p_dormouselaw04_GaugeShares (k : Nat) (x556 : Nat) (x557 : Nat) : Option Bool :=
  Option.bind (p_gauge_Share x556 x557) fun t558 => joinC (fun (y : Nat × Nat × Nat × Bool) => p_dormouselaw04_GaugeShares.j0 k y.1 y.2.1 y.2.2.1 y.2.2.2) fun (j564 : Nat × Nat × Nat × Bool → Option Bool) => bif (!flEq Go.FloatKind.f64 x556 x556) then j564 (x556, x557, t558, Bool.true) else bif (!flEq Go.FloatKind.f64 x557 x557) then j564 (x556, x557, t558, Bool.true) else bif (flLt Go.FloatKind.f64 x556 (0 : Nat)) then j564 (x556, x557, t558, Bool.true) else bif (flLt Go.FloatKind.f64 x557 (0 : Nat)) then j564 (x556, x557, t558, Bool.true) else Option.bind (p_dormouseref04_Infinite x557) fun t559 => j564 (x556, x557, t558, t559)
noncomputable def e_dormouselaw04_GaugeShares (k : Nat) : Entry := ⟨Ds.mk [Vd.one (Ld.im (T.flt Go.FloatKind.f64)), Vd.one (Ld.im (T.flt Go.FloatKind.f64))] [], Ds.mk [Vd.one (Ld.im T.bool)] [], fun x => p_dormouselaw04_GaugeShares k x.1 x.2⟩
noncomputable def c_dormouselaw04_GaugeShares (k : Nat) : Cx := ⟨Try.prog, [(27, e_dormouseref04_Same), (30, e_gauge_Share), (17, e_dormouselaw04_awake k), (31, e_dormouseref04_Infinite), (32, e_dormouseref04_Alike)], [], [(2, Sd.mk [0, 1, 5, 28] (Ds.mk [Vd.one (Ld.im (T.flt Go.FloatKind.f64)), Vd.one (Ld.im (T.flt Go.FloatKind.f64)), Vd.one (Ld.im (T.flt Go.FloatKind.f64)), Vd.one (Ld.im T.bool)] [])), (3, Sd.mk [4] (Ds.mk [Vd.one (Ld.im T.bool)] [])), (4, Sd.mk [0, 1, 5, 40] (Ds.mk [Vd.one (Ld.im (T.flt Go.FloatKind.f64)), Vd.one (Ld.im (T.flt Go.FloatKind.f64)), Vd.one (Ld.im (T.flt Go.FloatKind.f64)), Vd.one (Ld.im T.bool)] [])), (5, Sd.mk [4] (Ds.mk [Vd.one (Ld.im T.bool)] [])), (7, Sd.mk [4] (Ds.mk [Vd.one (Ld.im T.bool)] [])), (8, Sd.mk [4] (Ds.mk [Vd.one (Ld.im T.bool)] []))], [], [], 0, 79, [(15, 3), (65, 2), (144, 0)], fun _ _ _ => none⟩
theorem q_dormouselaw04_GaugeShares (k : Nat) (x : HL (e_dormouselaw04_GaugeShares k).pre.ts) : runF (c_dormouselaw04_GaugeShares k) k Try.f6 (e_dormouselaw04_GaugeShares k).pre (e_dormouselaw04_GaugeShares k).post x = (e_dormouselaw04_GaugeShares k).fn x := by kernel_rfl
theorem s_dormouselaw04_GaugeShares (k : Nat) : Entry.Sound Try.prog 6 (e_dormouselaw04_GaugeShares k) := runF_sound (X := c_dormouselaw04_GaugeShares k) (pre := (e_dormouselaw04_GaugeShares k).pre) (post := (e_dormouselaw04_GaugeShares k).post) (q := (e_dormouselaw04_GaugeShares k).fn) ⟨(dOk_cons (s_dormouseref04_Same) (dOk_cons (s_gauge_Share) (dOk_cons (s_dormouselaw04_awake k) (dOk_cons (s_dormouseref04_Infinite) (dOk_cons (s_dormouseref04_Alike) dOk_nil))))), x_ext, x_mo⟩ Try.func6 (q_dormouselaw04_GaugeShares k)

/- dormouse/gauge.Smooth: function 34 -/
noncomputable def p_gauge_Smooth_v1.j0 (x661 : Nat) (x662 : Nat) (x663 : Nat) (x664 : Bool) : Option Nat :=
  bif x664 then some x661 else Option.bind (flMax Go.FloatKind.f64 x663 (0 : Nat)) fun t667 => Option.bind (flMin Go.FloatKind.f64 t667 (4607182418800017408 : Nat)) fun t668 => some (flOpX (0 : Nat) Go.FloatKind.f64 x661 (flOpX (2 : Nat) Go.FloatKind.f64 (flOpX (1 : Nat) Go.FloatKind.f64 x662 x661) t668))
noncomputable def p_gauge_Smooth_v1 (x658 : Nat) (x659 : Nat) (x660 : Nat) : Option Nat :=
  bif (!flEq Go.FloatKind.f64 x658 x658) then some x659 else joinC (fun (y : Nat × Nat × Nat × Bool) => p_gauge_Smooth_v1.j0 y.1 y.2.1 y.2.2.1 y.2.2.2) fun (j665 : Nat × Nat × Nat × Bool → Option Nat) => bif (!flEq Go.FloatKind.f64 x659 x659) then j665 (x658, x659, x660, Bool.true) else j665 (x658, x659, x660, !flEq Go.FloatKind.f64 x660 x660)
noncomputable def e_gauge_Smooth_v1 : Entry := ⟨Ds.mk [Vd.one (Ld.im (T.fx Go.FloatKind.f64)), Vd.one (Ld.im (T.fx Go.FloatKind.f64)), Vd.one (Ld.im (T.fx Go.FloatKind.f64))] [], Ds.mk [Vd.one (Ld.im (T.fx Go.FloatKind.f64))] [], fun x => p_gauge_Smooth_v1 x.1 x.2.1 x.2.2⟩
noncomputable def c_gauge_Smooth_v1 : Cx := ⟨Try.prog, [], [], [(3, Sd.mk [0, 1, 2, 13] (Ds.mk [Vd.one (Ld.im (T.fx Go.FloatKind.f64)), Vd.one (Ld.im (T.fx Go.FloatKind.f64)), Vd.one (Ld.im (T.fx Go.FloatKind.f64)), Vd.one (Ld.im T.bool)] []))], [(999998, Sd.mk [] (Ds.mk [] []))], [], 0, 33, [(15, 3), (65, 2), (144, 0)], fun _ _ _ => none⟩
theorem q_gauge_Smooth_v1 (x : HL (e_gauge_Smooth_v1).pre.ts) : runF (c_gauge_Smooth_v1) 0 Try.f34 (e_gauge_Smooth_v1).pre (e_gauge_Smooth_v1).post x = (e_gauge_Smooth_v1).fn x := by kernel_rfl
theorem s_gauge_Smooth_v1 : Entry.Sound Try.prog 34 (e_gauge_Smooth_v1) := runF_sound (X := c_gauge_Smooth_v1) (pre := (e_gauge_Smooth_v1).pre) (post := (e_gauge_Smooth_v1).post) (q := (e_gauge_Smooth_v1).fn) ⟨dOk_nil, x_ext, x_mo⟩ Try.func34 (q_gauge_Smooth_v1)

/- dormouse/dormouseref04.Alike: function 32 -/
noncomputable def p_dormouseref04_Alike_v1.j0 (x738 : Bool) : Option Bool :=
  some x738
noncomputable def p_dormouseref04_Alike_v1 (x736 : Nat) (x737 : Nat) : Option Bool :=
  joinC (p_dormouseref04_Alike_v1.j0) fun (j739 : Bool → Option Bool) => bif (flEq Go.FloatKind.f64 x736 x737) then j739 Bool.true else bif (!flEq Go.FloatKind.f64 x736 x736) then j739 (!flEq Go.FloatKind.f64 x737 x737) else j739 Bool.false
noncomputable def e_dormouseref04_Alike_v1 : Entry := ⟨Ds.mk [Vd.one (Ld.im (T.fx Go.FloatKind.f64)), Vd.one (Ld.im (T.fx Go.FloatKind.f64))] [], Ds.mk [Vd.one (Ld.im T.bool)] [], fun x => p_dormouseref04_Alike_v1 x.1 x.2⟩
noncomputable def c_dormouseref04_Alike_v1 : Cx := ⟨Try.prog, [], [], [(1, Sd.mk [4] (Ds.mk [Vd.one (Ld.im T.bool)] []))], [], [], 0, 18, [(15, 3), (65, 2), (144, 0)], fun _ _ _ => none⟩
theorem q_dormouseref04_Alike_v1 (x : HL (e_dormouseref04_Alike_v1).pre.ts) : runF (c_dormouseref04_Alike_v1) 0 Try.f32 (e_dormouseref04_Alike_v1).pre (e_dormouseref04_Alike_v1).post x = (e_dormouseref04_Alike_v1).fn x := by kernel_rfl
theorem s_dormouseref04_Alike_v1 : Entry.Sound Try.prog 32 (e_dormouseref04_Alike_v1) := runF_sound (X := c_dormouseref04_Alike_v1) (pre := (e_dormouseref04_Alike_v1).pre) (post := (e_dormouseref04_Alike_v1).post) (q := (e_dormouseref04_Alike_v1).fn) ⟨dOk_nil, x_ext, x_mo⟩ Try.func32 (q_dormouseref04_Alike_v1)

/- dormouse/dormouselaw04.GaugeSmooths: function 7 -/
noncomputable def p_dormouselaw04_GaugeSmooths.j4 (k : Nat) (x888 : Bool) : Option Bool :=
  some x888
noncomputable def p_dormouselaw04_GaugeSmooths.j3 (k : Nat) (x877 : Nat) (x878 : Nat) (x879 : Nat) (x880 : List Nat) (x881 : Nat) (x882 : Nat) : Option Bool :=
  Option.bind (p_gauge_Mean k x880) fun t883 => joinC (p_dormouselaw04_GaugeSmooths.j4 k) fun (j889 : Bool → Option Bool) => Option.bind (p_dormouselaw04_awake k) fun t884 => bif t884 then Option.bind (p_gauge_Smooth_v1 x877 x878 x879) fun t885 => Option.bind (p_dormouseref04_Alike_v1 t885 x881) fun t886 => bif t886 then Option.bind (p_dormouseref04_Alike_v1 t883 (flOpX (3 : Nat) Go.FloatKind.f64 x882 (flNear Go.FloatKind.f64 (↑(List.length x880) : Int)))) fun t887 => j889 t887 else j889 Bool.false else j889 Bool.false
noncomputable def p_dormouselaw04_GaugeSmooths.b5 (k : Nat) (j891 : Nat × Nat × Nat × List Nat × Nat × Nat → Option Bool) (rec875 : Nat × Nat × Nat × List Nat × Nat × Nat × Int → Option Bool) (x867 : Nat) (x868 : Nat) (x869 : Nat) (x870 : List Nat) (x871 : Nat) (x872 : Nat) (x873 : Int) : Option Bool :=
  bif (decide (x873 < (↑(List.length x870) : Int))) then need ((0 : Int) ≤ x873 ∧ x873 < (↑(List.length x870) : Int)) (rec875 (x867, x868, x869, x870, x871, flOpX (0 : Nat) Go.FloatKind.f64 x872 (at_ (dflt (T.flt Go.FloatKind.f64)) x870 x873), IntKind.wrap IntKind.i64 (x873 + (1 : Int)))) else j891 (x867, x868, x869, x870, x871, x872)
noncomputable def p_dormouselaw04_GaugeSmooths.j2 (k : Nat) (x862 : Nat) (x863 : Nat) (x864 : Nat) (x865 : List Nat) (x866 : Nat) : Option Bool :=
  joinC (fun (y : Nat × Nat × Nat × List Nat × Nat × Nat) => p_dormouselaw04_GaugeSmooths.j3 k y.1 y.2.1 y.2.2.1 y.2.2.2.1 y.2.2.2.2.1 y.2.2.2.2.2) fun (j891 : Nat × Nat × Nat × List Nat × Nat × Nat → Option Bool) => loopC (fun (r : Nat × Nat × Nat × List Nat × Nat × Nat × Int → Option Bool) y => p_dormouselaw04_GaugeSmooths.b5 k j891 r y.1 y.2.1 y.2.2.1 y.2.2.2.1 y.2.2.2.2.1 y.2.2.2.2.2.1 y.2.2.2.2.2.2) k (x862, x863, x864, x865, x866, (0 : Nat), (0 : Int))
noncomputable def p_dormouselaw04_GaugeSmooths.j8 (k : Nat) (j893 : Nat × Nat × Nat × List Nat × Nat → Option Bool) (x853 : Nat) (x854 : Nat) (x855 : Nat) (x856 : List Nat) (x857 : Nat) : Option Bool :=
  j893 (x853, x854, x855, x856, flOpX (0 : Nat) Go.FloatKind.f64 x853 (flOpX (2 : Nat) Go.FloatKind.f64 (flOpX (1 : Nat) Go.FloatKind.f64 x854 x853) x857))
noncomputable def p_dormouselaw04_GaugeSmooths.j7 (k : Nat) (j893 : Nat × Nat × Nat × List Nat × Nat → Option Bool) (x848 : Nat) (x849 : Nat) (x850 : Nat) (x851 : List Nat) (x852 : Nat) : Option Bool :=
  joinC (fun (y : Nat × Nat × Nat × List Nat × Nat) => p_dormouselaw04_GaugeSmooths.j8 k j893 y.1 y.2.1 y.2.2.1 y.2.2.2.1 y.2.2.2.2) fun (j858 : Nat × Nat × Nat × List Nat × Nat → Option Bool) => bif (flGt Go.FloatKind.f64 x852 (4607182418800017408 : Nat)) then j858 (x848, x849, x850, x851, (4607182418800017408 : Nat)) else j858 (x848, x849, x850, x851, x852)
noncomputable def p_dormouselaw04_GaugeSmooths.j6 (k : Nat) (j893 : Nat × Nat × Nat × List Nat × Nat → Option Bool) (x840 : Nat) (x841 : Nat) (x842 : Nat) (x843 : List Nat) (x844 : Nat) (x845 : Bool) : Option Bool :=
  bif x845 then joinC (fun (y : Nat × Nat × Nat × List Nat × Nat) => p_dormouselaw04_GaugeSmooths.j7 k j893 y.1 y.2.1 y.2.2.1 y.2.2.2.1 y.2.2.2.2) fun (j860 : Nat × Nat × Nat × List Nat × Nat → Option Bool) => bif (flLt Go.FloatKind.f64 x842 (0 : Nat)) then j860 (x840, x841, x842, x843, (0 : Nat)) else j860 (x840, x841, x842, x843, x842) else j893 (x840, x841, x842, x843, x844)
noncomputable def p_dormouselaw04_GaugeSmooths.j1 (k : Nat) (x835 : Nat) (x836 : Nat) (x837 : Nat) (x838 : List Nat) (x839 : Nat) : Option Bool :=
  joinC (fun (y : Nat × Nat × Nat × List Nat × Nat) => p_dormouselaw04_GaugeSmooths.j2 k y.1 y.2.1 y.2.2.1 y.2.2.2.1 y.2.2.2.2) fun (j893 : Nat × Nat × Nat × List Nat × Nat → Option Bool) => joinC (fun (y : Nat × Nat × Nat × List Nat × Nat × Bool) => p_dormouselaw04_GaugeSmooths.j6 k j893 y.1 y.2.1 y.2.2.1 y.2.2.2.1 y.2.2.2.2.1 y.2.2.2.2.2) fun (j846 : Nat × Nat × Nat × List Nat × Nat × Bool → Option Bool) => bif (flEq Go.FloatKind.f64 x835 x835) then bif (flEq Go.FloatKind.f64 x836 x836) then j846 (x835, x836, x837, x838, x839, flEq Go.FloatKind.f64 x837 x837) else j846 (x835, x836, x837, x838, x839, Bool.false) else j846 (x835, x836, x837, x838, x839, Bool.false)
noncomputable def p_dormouselaw04_GaugeSmooths.j9 (k : Nat) (j895 : Nat × Nat × Nat × List Nat × Nat → Option Bool) (x827 : Nat) (x828 : Nat) (x829 : Nat) (x830 : List Nat) (x831 : Nat) (x832 : Bool) : Option Bool :=
  bif x832 then j895 (x827, x828, x829, x830, x827) else j895 (x827, x828, x829, x830, x831)
noncomputable def p_dormouselaw04_GaugeSmooths.j0 (k : Nat) (x823 : Nat) (x824 : Nat) (x825 : Nat) (x826 : List Nat) : Option Bool :=
  joinC (fun (y : Nat × Nat × Nat × List Nat × Nat) => p_dormouselaw04_GaugeSmooths.j1 k y.1 y.2.1 y.2.2.1 y.2.2.2.1 y.2.2.2.2) fun (j895 : Nat × Nat × Nat × List Nat × Nat → Option Bool) => joinC (fun (y : Nat × Nat × Nat × List Nat × Nat × Bool) => p_dormouselaw04_GaugeSmooths.j9 k j895 y.1 y.2.1 y.2.2.1 y.2.2.2.1 y.2.2.2.2.1 y.2.2.2.2.2) fun (j833 : Nat × Nat × Nat × List Nat × Nat × Bool → Option Bool) => bif (flEq Go.FloatKind.f64 x823 x823) then bif (!flEq Go.FloatKind.f64 x824 x824) then j833 (x823, x824, x825, x826, x824, Bool.true) else j833 (x823, x824, x825, x826, x824, !flEq Go.FloatKind.f64 x825 x825) else j833 (x823, x824, x825, x826, x824, Bool.false)
noncomputable def p_dormouselaw04_GaugeSmooths (k : Nat) (x821 : Nat × Nat × Nat × List Nat) : Option Bool :=
  joinC (fun (y : Nat × Nat × Nat × List Nat) => p_dormouselaw04_GaugeSmooths.j0 k y.1 y.2.1 y.2.2.1 y.2.2.2) fun (j897 : Nat × Nat × Nat × List Nat → Option Bool) => bif (decide ((↑(List.length (Prod.snd (Prod.snd (Prod.snd x821)))) : Int) > (60 : Int))) then need ((0 : Int) ≤ (0 : Int) ∧ (0 : Int) ≤ (60 : Int) ∧ (60 : Int) ≤ (↑(List.length (Prod.snd (Prod.snd (Prod.snd x821)))) : Int)) (j897 (Prod.fst x821, Prod.fst (Prod.snd x821), Prod.fst (Prod.snd (Prod.snd x821)), sub_ (Prod.snd (Prod.snd (Prod.snd x821))) (0 : Int) (60 : Int))) else j897 (Prod.fst x821, Prod.fst (Prod.snd x821), Prod.fst (Prod.snd (Prod.snd x821)), Prod.snd (Prod.snd (Prod.snd x821)))
noncomputable def e_dormouselaw04_GaugeSmooths (k : Nat) : Entry := ⟨Ds.mk [Vd.st (T.pair (T.flt Go.FloatKind.f64) (T.pair (T.flt Go.FloatKind.f64) (T.pair (T.flt Go.FloatKind.f64) (T.sl (T.flt Go.FloatKind.f64)))))] [], Ds.mk [Vd.one (Ld.im T.bool)] [], fun x => p_dormouselaw04_GaugeSmooths k x⟩
noncomputable def c_dormouselaw04_GaugeSmooths (k : Nat) : Cx := ⟨Try.prog, [(33, e_gauge_Mean k), (17, e_dormouselaw04_awake k), (34, e_gauge_Smooth_v1), (32, e_dormouseref04_Alike_v1)], [(4, Sd.mk [3, 4, 5, 6] (Ds.mk [Vd.one (Ld.im (T.fx Go.FloatKind.f64)), Vd.one (Ld.im (T.fx Go.FloatKind.f64)), Vd.one (Ld.im (T.fx Go.FloatKind.f64)), Vd.one (Ld.im (T.sl (T.flt Go.FloatKind.f64)))] [])), (7, Sd.mk [3, 4, 5, 6, 7] (Ds.mk [Vd.one (Ld.im (T.fx Go.FloatKind.f64)), Vd.one (Ld.im (T.fx Go.FloatKind.f64)), Vd.one (Ld.im (T.fx Go.FloatKind.f64)), Vd.one (Ld.im (T.sl (T.flt Go.FloatKind.f64))), Vd.one (Ld.im (T.fx Go.FloatKind.f64))] [])), (11, Sd.mk [3, 4, 5, 6, 8] (Ds.mk [Vd.one (Ld.im (T.fx Go.FloatKind.f64)), Vd.one (Ld.im (T.fx Go.FloatKind.f64)), Vd.one (Ld.im (T.fx Go.FloatKind.f64)), Vd.one (Ld.im (T.sl (T.flt Go.FloatKind.f64))), Vd.one (Ld.im (T.fx Go.FloatKind.f64))] [])), (13, Sd.mk [3, 4, 5, 6, 8] (Ds.mk [Vd.one (Ld.im (T.fx Go.FloatKind.f64)), Vd.one (Ld.im (T.fx Go.FloatKind.f64)), Vd.one (Ld.im (T.fx Go.FloatKind.f64)), Vd.one (Ld.im (T.sl (T.flt Go.FloatKind.f64))), Vd.one (Ld.im (T.fx Go.FloatKind.f64))] [])), (14, Sd.mk [3, 4, 5, 6, 7] (Ds.mk [Vd.one (Ld.im (T.fx Go.FloatKind.f64)), Vd.one (Ld.im (T.fx Go.FloatKind.f64)), Vd.one (Ld.im (T.fx Go.FloatKind.f64)), Vd.one (Ld.im (T.sl (T.flt Go.FloatKind.f64))), Vd.one (Ld.im (T.fx Go.FloatKind.f64))] [])), (19, Sd.mk [3, 4, 5, 6, 7, 9] (Ds.mk [Vd.one (Ld.im (T.fx Go.FloatKind.f64)), Vd.one (Ld.im (T.fx Go.FloatKind.f64)), Vd.one (Ld.im (T.fx Go.FloatKind.f64)), Vd.one (Ld.im (T.sl (T.flt Go.FloatKind.f64))), Vd.one (Ld.im (T.fx Go.FloatKind.f64)), Vd.one (Ld.im (T.fx Go.FloatKind.f64))] []))], [(5, Sd.mk [3, 4, 5, 6, 7, 38] (Ds.mk [Vd.one (Ld.im (T.fx Go.FloatKind.f64)), Vd.one (Ld.im (T.fx Go.FloatKind.f64)), Vd.one (Ld.im (T.fx Go.FloatKind.f64)), Vd.one (Ld.im (T.sl (T.flt Go.FloatKind.f64))), Vd.one (Ld.im (T.fx Go.FloatKind.f64)), Vd.one (Ld.im T.bool)] [])), (7, Sd.mk [3, 4, 5, 6, 7, 52] (Ds.mk [Vd.one (Ld.im (T.fx Go.FloatKind.f64)), Vd.one (Ld.im (T.fx Go.FloatKind.f64)), Vd.one (Ld.im (T.fx Go.FloatKind.f64)), Vd.one (Ld.im (T.sl (T.flt Go.FloatKind.f64))), Vd.one (Ld.im (T.fx Go.FloatKind.f64)), Vd.one (Ld.im T.bool)] [])), (20, Sd.mk [2] (Ds.mk [Vd.one (Ld.im T.bool)] []))], [(999998, Sd.mk [] (Ds.mk [] [])), (16, Sd.mk [3, 4, 5, 6, 7, 9, 10] (Ds.mk [Vd.one (Ld.im (T.fx Go.FloatKind.f64)), Vd.one (Ld.im (T.fx Go.FloatKind.f64)), Vd.one (Ld.im (T.fx Go.FloatKind.f64)), Vd.one (Ld.im (T.sl (T.flt Go.FloatKind.f64))), Vd.one (Ld.im (T.fx Go.FloatKind.f64)), Vd.one (Ld.im (T.fx Go.FloatKind.f64)), Vd.one (Ld.im (T.int IntKind.i64))] []))], [(1, ([(0, 2), (1, 1), (2, 2), (3, 1), (4, 2), (5, 1), (6, 2), (7, 1), (8, 2), (9, 2), (10, 2), (11, 2)], [], []))], 0, 97, [(15, 3), (65, 2), (144, 0)], fun _ _ _ => none⟩
theorem q_dormouselaw04_GaugeSmooths (k : Nat) (x : HL (e_dormouselaw04_GaugeSmooths k).pre.ts) : runF (c_dormouselaw04_GaugeSmooths k) k Try.f7 (e_dormouselaw04_GaugeSmooths k).pre (e_dormouselaw04_GaugeSmooths k).post x = (e_dormouselaw04_GaugeSmooths k).fn x := by kernel_rfl
theorem s_dormouselaw04_GaugeSmooths (k : Nat) : Entry.Sound Try.prog 7 (e_dormouselaw04_GaugeSmooths k) := runF_sound (X := c_dormouselaw04_GaugeSmooths k) (pre := (e_dormouselaw04_GaugeSmooths k).pre) (post := (e_dormouselaw04_GaugeSmooths k).post) (q := (e_dormouselaw04_GaugeSmooths k).fn) ⟨(dOk_cons (s_gauge_Mean k) (dOk_cons (s_dormouselaw04_awake k) (dOk_cons (s_gauge_Smooth_v1) (dOk_cons (s_dormouseref04_Alike_v1) dOk_nil)))), x_ext, x_mo⟩ Try.func7 (q_dormouselaw04_GaugeSmooths k)
end
end Go.Dor
end

section
/- NUMBERS: what the bit operations of unsigned kinds come to, as natural numbers. Plain lemmas, no program. -/
namespace Go.Dor

theorem wrap_u8 (n : Int) : IntKind.wrap .u8 n = n % 256 := rfl
theorem wrap_u32 (n : Int) : IntKind.wrap .u32 n = n % 4294967296 := rfl
theorem wrap_u64 (n : Int) : IntKind.wrap .u64 n = n % 18446744073709551616 := rfl
theorem wrap_i64 {n : Int} (h : -9223372036854775808 ≤ n ∧ n < 9223372036854775808) : IntKind.wrap .i64 n = n := by
  unfold IntKind.wrap
  have e1 : (2 : Int) ^ IntKind.bits .i64 = 18446744073709551616 := rfl
  have e2 : (2 : Int) ^ (IntKind.bits .i64 - 1) = 9223372036854775808 := rfl
  have e3 : IntKind.signed .i64 = true := rfl
  simp only [e1, e2, e3, Bool.true_and, decide_eq_true_eq]
  split <;> omega

section
variable {k : IntKind} {a b : Nat}
theorem bits_nat (f : ∀ {n : Nat}, BitVec n → BitVec n → BitVec n) (hk : k.signed = false) : ibits f k (a : Int) (b : Int) = ((f (BitVec.ofNat k.bits a) (BitVec.ofNat k.bits b)).toNat : Int) := by
  unfold ibits IntKind.wrap
  simp only [hk, Bool.false_and, Bool.false_eq_true, if_false]
  have h := (f (BitVec.ofInt k.bits (a : Int)) (BitVec.ofInt k.bits (b : Int))).isLt
  rw [BitVec.ofInt_natCast, BitVec.ofInt_natCast] at h ⊢
  have e : ((2 : Int) ^ k.bits) = ((2 ^ k.bits : Nat) : Int) := by simp
  rw [e, ← Int.natCast_emod, Nat.mod_eq_of_lt h]
theorem and_nat (hk : k.signed = false) (ha : a < 2 ^ k.bits) (hb : b < 2 ^ k.bits) : iand k (a : Int) (b : Int) = ((a &&& b : Nat) : Int) := by
  unfold iand
  rw [bits_nat _ hk, BitVec.toNat_and, BitVec.toNat_ofNat, BitVec.toNat_ofNat, Nat.mod_eq_of_lt ha, Nat.mod_eq_of_lt hb]
theorem or_nat (hk : k.signed = false) (ha : a < 2 ^ k.bits) (hb : b < 2 ^ k.bits) : ior k (a : Int) (b : Int) = ((a ||| b : Nat) : Int) := by
  unfold ior
  rw [bits_nat _ hk, BitVec.toNat_or, BitVec.toNat_ofNat, BitVec.toNat_ofNat, Nat.mod_eq_of_lt ha, Nat.mod_eq_of_lt hb]
theorem xor_nat (hk : k.signed = false) (ha : a < 2 ^ k.bits) (hb : b < 2 ^ k.bits) : ixor k (a : Int) (b : Int) = ((a ^^^ b : Nat) : Int) := by
  unfold ixor
  rw [bits_nat _ hk, BitVec.toNat_xor, BitVec.toNat_ofNat, BitVec.toNat_ofNat, Nat.mod_eq_of_lt ha, Nat.mod_eq_of_lt hb]
end

theorem shr_nat {k : IntKind} {a n : Nat} (hn : n ≤ k.bits) : ishr k (a : Int) (n : Int) = ((a / 2 ^ n : Nat) : Int) := by
  unfold ishr
  rw [Int.toNat_natCast, Nat.min_eq_left hn]
  have e : ((2 : Int) ^ n) = ((2 ^ n : Nat) : Int) := by simp
  rw [e, Int.fdiv_eq_ediv_of_nonneg _ (Int.natCast_nonneg _)]
  rfl
theorem shl_nat {k : IntKind} {a n : Nat} (hk : k.signed = false) (hn : n ≤ k.bits) : ishl k (a : Int) (n : Int) = ((a * 2 ^ n % 2 ^ k.bits : Nat) : Int) := by
  unfold ishl IntKind.wrap
  rw [Int.toNat_natCast, Nat.min_eq_left hn]
  simp only [hk, Bool.false_and, Bool.false_eq_true, if_false]
  have e : ((2 : Int) ^ n) = ((2 ^ n : Nat) : Int) := by simp
  have e2 : ((2 : Int) ^ k.bits) = ((2 ^ k.bits : Nat) : Int) := by simp
  rw [e, e2, ← Int.natCast_mul, ← Int.natCast_emod]

/-- a word turned right -/
def rot (n x : Nat) : Nat := x / 2 ^ n + x % 2 ^ n * 2 ^ (32 - n)
theorem rot_lt {n x : Nat} (hn : n ≤ 32) (hx : x < 4294967296) : rot n x < 4294967296 := by
  unfold rot
  have h1 : 2 ^ n * 2 ^ (32 - n) = 4294967296 := by rw [← Nat.pow_add, Nat.add_sub_cancel' hn]
  have h2 : x / 2 ^ n < 2 ^ (32 - n) := Nat.div_lt_of_lt_mul (by rw [h1]; exact hx)
  have h3 : x % 2 ^ n < 2 ^ n := Nat.mod_lt _ (Nat.two_pow_pos n)
  have h4 : (x % 2 ^ n + 1) * 2 ^ (32 - n) ≤ 2 ^ n * 2 ^ (32 - n) := Nat.mul_le_mul_right _ h3
  rw [h1, Nat.add_mul] at h4
  omega
theorem or_add {a b n : Nat} (hb : b < 2 ^ n) : a * 2 ^ n ||| b = a * 2 ^ n + b := by
  have := Nat.two_pow_add_eq_or_of_lt hb a
  rw [Nat.mul_comm a, this]
/-- turned by shifts -/
theorem rot_or {n x : Nat} (hn : n ≤ 32) (hx : x < 4294967296) : (x * 2 ^ (32 - n) % 4294967296) ||| (x / 2 ^ n) = rot n x := by
  have h1 : 2 ^ n * 2 ^ (32 - n) = 4294967296 := by rw [← Nat.pow_add, Nat.add_sub_cancel' hn]
  have h2 : x / 2 ^ n < 2 ^ (32 - n) := Nat.div_lt_of_lt_mul (by rw [h1]; exact hx)
  have h3 : x * 2 ^ (32 - n) % 4294967296 = x % 2 ^ n * 2 ^ (32 - n) := by rw [← h1, Nat.mul_mod_mul_right]
  rw [h3, or_add h2, rot]; omega
/-- turned step by step -/
theorem rot_zero (x : Nat) : rot 0 x = x := by simp [rot]; omega
theorem rot_succ {n x : Nat} (hn : n < 32) : rot (n + 1) x = rot n x / 2 + rot n x % 2 * 2147483648 := by
  obtain ⟨m, hm⟩ : ∃ m, 32 - n = m + 1 := ⟨31 - n, by omega⟩
  have hm' : 32 - (n + 1) = m := by omega
  have h1 : 2 ^ n * 2 ^ m = 2147483648 := by rw [← Nat.pow_add]; have : n + m = 31 := by omega
                                             rw [this]
  unfold rot
  rw [hm, hm']
  have hA : x / 2 ^ (n + 1) = x / 2 ^ n / 2 := by rw [Nat.pow_succ, Nat.div_div_eq_div_mul]
  have hB : x % 2 ^ (n + 1) = x % 2 ^ n + 2 ^ n * (x / 2 ^ n % 2) := by rw [Nat.pow_succ, Nat.mod_mul]
  rw [hA, hB, Nat.pow_succ]
  generalize x / 2 ^ n = q
  generalize x % 2 ^ n = p
  have e1 : p * (2 ^ m * 2) = 2 * (p * 2 ^ m) := by rw [← Nat.mul_assoc, Nat.mul_comm]
  have e2 : (p + 2 ^ n * (q % 2)) * 2 ^ m = p * 2 ^ m + q % 2 * 2147483648 := by rw [Nat.add_mul, ← h1, Nat.mul_comm (2 ^ n) (q % 2), Nat.mul_assoc]
  rw [e1, e2]
  generalize p * 2 ^ m = s
  omega

/-- one of two, by a mask -/
theorem choose_nat {a b c : Nat} (ha : a < 4294967296) (hc : c < 4294967296) : (a &&& b) ^^^ ((4294967295 ^^^ a) &&& c) = (a &&& b) ||| ((4294967295 - a) &&& c) := by
  have h : 4294967295 ^^^ a = 4294967295 - a := by
    have h1 := BitVec.toNat_not (x := BitVec.ofNat 32 a)
    have h2 : (~~~ BitVec.ofNat 32 a) = BitVec.ofNat 32 4294967295 ^^^ BitVec.ofNat 32 a := by
      rw [show BitVec.ofNat 32 4294967295 = BitVec.allOnes 32 from rfl, BitVec.allOnes_xor]
    rw [h2, BitVec.toNat_xor, BitVec.toNat_ofNat, BitVec.toNat_ofNat, Nat.mod_eq_of_lt (by omega : a < 2 ^ 32)] at h1
    simpa using h1
  rw [← h]
  apply Nat.eq_of_testBit_eq
  intro i
  simp only [Nat.testBit_xor, Nat.testBit_and, Nat.testBit_or]
  by_cases hi : i < 32
  · have : Nat.testBit 4294967295 i = true := by
      have := Nat.testBit_two_pow_sub_one 32 i
      simp at this
      rw [this]; simpa using hi
    rw [this]
    cases a.testBit i <;> cases b.testBit i <;> cases c.testBit i <;> rfl
  · have hge : 2 ^ 32 ≤ 2 ^ i := Nat.pow_le_pow_right (by omega) (by omega)
    have h1 : a.testBit i = false := Nat.testBit_lt_two_pow (by omega)
    have h2 : c.testBit i = false := Nat.testBit_lt_two_pow (by omega)
    rw [h1, h2]; simp
theorem most_nat (a b c : Nat) : (a &&& b) ^^^ (a &&& c) ^^^ (b &&& c) = (a &&& b) ||| (a &&& c) ||| (b &&& c) := by
  apply Nat.eq_of_testBit_eq
  intro i
  simp only [Nat.testBit_xor, Nat.testBit_and, Nat.testBit_or]
  cases a.testBit i <;> cases b.testBit i <;> cases c.testBit i <;> rfl

end Go.Dor
namespace Go.Dor
/-- a loop that goes n rounds -/
theorem loop_count {α β : Type} {body : (α → Option β) → α → Option β} {res : Option β} : ∀ (n k : Nat) (s : Nat → α), n < k → (∀ i, i < n → ∀ rec, body rec (s i) = rec (s (i + 1))) → (∀ rec, body rec (s n) = res) → loopC body k (s 0) = res
  | 0, k + 1, s, _, _, hl => hl _
  | n + 1, k + 1, s, hk, hs, hl => by
    show body (loopC body k) (s 0) = res
    rw [hs 0 (by omega)]
    exact loop_count n k (fun i => s (i + 1)) (by omega) (fun i hi rec => hs (i + 1) (by omega) rec) hl
end Go.Dor
end

section
/- NUMBERS IN THE ORDER OF ALL: keys, the reference's Less, sorting on both sides. -/
set_option linter.unusedVariables false
set_option linter.unusedSimpArgs false
namespace Go.Dor
open Go.Proofs Go.Sort

theorem need_yesF {α : Type} {c : Prop} [Decidable c] {x : Option α} (h : c) : need c x = x := if_pos h
theorem bothC_same {R : Type} (a : Option R) : bothC a a = a := if_pos rfl
theorem not_u64 {x : Nat} (h : x < 18446744073709551616) : inot .u64 (x : Int) = ((18446744073709551615 - x : Nat) : Int) := by
  have e : inot .u64 (x : Int) = ixor .u64 ((18446744073709551615 : Nat) : Int) (x : Int) := rfl
  rw [e, xor_nat rfl (by decide) (by simpa [IntKind.bits] using h)]
  congr 1
  have e2 : (18446744073709551615 ^^^ x) = (BitVec.allOnes 64 ^^^ BitVec.ofNat 64 x).toNat := by
    rw [BitVec.toNat_xor, BitVec.toNat_allOnes, BitVec.toNat_ofNat, Nat.mod_eq_of_lt (by simpa using h)]
  rw [e2, BitVec.allOnes_xor, BitVec.toNat_not, BitVec.toNat_ofNat, Nat.mod_eq_of_lt (by simpa using h)]
theorem keyF_val {x : Nat} (h : x < 18446744073709551616) : keyF x = if 9223372036854775808 ≤ x then ((18446744073709551615 - x : Nat) : Int) else ((x + 9223372036854775808 : Nat) : Int) := by
  unfold keyF p_gauge_Key p_gauge_Bits
  simp only [Option.bind_some]
  have ea : iand .u64 (x : Int) (9223372036854775808 : Int) = ((x &&& 9223372036854775808 : Nat) : Int) := and_nat (b := 9223372036854775808) rfl (by simpa [IntKind.bits] using h) (by decide)
  have eb : ior .u64 (x : Int) (9223372036854775808 : Int) = ((x ||| 9223372036854775808 : Nat) : Int) := or_nat (b := 9223372036854775808) rfl (by simpa [IntKind.bits] using h) (by decide)
  have ec : x &&& 9223372036854775808 = (x.testBit 63).toNat * 9223372036854775808 := by
    have e63 : (9223372036854775808 : Nat) = 2 ^ 63 := rfl
    rw [e63]
    apply Nat.eq_of_testBit_eq
    intro i
    rw [Nat.testBit_and, Nat.testBit_two_pow]
    by_cases hi : 63 = i
    · subst hi
      cases hb : x.testBit 63
      · simp
      · simp only [decide_true, Bool.and_true, Bool.toNat_true, Nat.one_mul, Nat.testBit_two_pow]
    · cases hb : x.testBit 63
      · simp [hi]
      · simp only [hi, decide_false, Bool.and_false, Bool.toNat_true, Nat.one_mul, Nat.testBit_two_pow]
  have ed : x.testBit 63 = decide (9223372036854775808 ≤ x) := by
    rw [Nat.testBit_eq_decide_div_mod_eq]
    have : (2 : Nat) ^ 63 = 9223372036854775808 := rfl
    rw [this]
    congr 1
    apply propext
    omega
  rw [ea, eb, ec, ed, not_u64 h]
  by_cases hc : 9223372036854775808 ≤ x
  · simp [hc]
  · have hx : x < 2 ^ 63 := by omega
    have eo : x ||| 9223372036854775808 = x + 9223372036854775808 := by
      have := or_add (a := 1) (b := x) (n := 63) hx
      rw [Nat.one_mul] at this
      rw [Nat.or_comm, Nat.add_comm]
      exact this
    simp [hc, eo]
theorem keyF_inj {x y : Nat} (hx : x < 18446744073709551616) (hy : y < 18446744073709551616) (h : keyF x = keyF y) : x = y := by
  rw [keyF_val hx, keyF_val hy] at h
  split at h <;> split at h <;> omega
/-- the reference's order is that of the keys -/
theorem less04 {x y : Nat} (hx : x < 18446744073709551616) (hy : y < 18446744073709551616) : p_dormouseref04_Less x y = some (decide (keyF x < keyF y)) := by
  unfold p_dormouseref04_Less p_dormouseref04_minus
  simp only [Option.bind_some]
  rw [keyF_val hx, keyF_val hy]
  by_cases h1 : 9223372036854775808 ≤ x <;> by_cases h2 : 9223372036854775808 ≤ y
  · have e1 : decide ((x : Int) ≥ (9223372036854775808 : Int)) = true := by simp; omega
    have e2 : decide ((y : Int) ≥ (9223372036854775808 : Int)) = true := by simp; omega
    rw [e1, e2, if_pos h1, if_pos h2]
    refine congrArg some ?_
    have : (x : Int) > (y : Int) ↔ ((18446744073709551615 - x : Nat) : Int) < ((18446744073709551615 - y : Nat) : Int) := by omega
    exact decide_eq_decide.2 this
  · have e1 : decide ((x : Int) ≥ (9223372036854775808 : Int)) = true := by simp; omega
    have e2 : decide ((y : Int) ≥ (9223372036854775808 : Int)) = false := by simp; omega
    rw [e1, e2, if_pos h1, if_neg h2]
    have : ((18446744073709551615 - x : Nat) : Int) < ((y + 9223372036854775808 : Nat) : Int) := by omega
    exact congrArg some (decide_eq_true this).symm
  · have e1 : decide ((x : Int) ≥ (9223372036854775808 : Int)) = false := by simp; omega
    have e2 : decide ((y : Int) ≥ (9223372036854775808 : Int)) = true := by simp; omega
    rw [e1, e2, if_neg h1, if_pos h2]
    have : ¬ ((x + 9223372036854775808 : Nat) : Int) < ((18446744073709551615 - y : Nat) : Int) := by omega
    exact congrArg some (decide_eq_false this).symm
  · have e1 : decide ((x : Int) ≥ (9223372036854775808 : Int)) = false := by simp; omega
    have e2 : decide ((y : Int) ≥ (9223372036854775808 : Int)) = false := by simp; omega
    rw [e1, e2, if_neg h1, if_neg h2]
    have : ((x : Int) < (y : Int)) ↔ ((x + 9223372036854775808 : Nat) : Int) < ((y + 9223372036854775808 : Nat) : Int) := by omega
    exact congrArg some (decide_eq_decide.2 this)

/-! ### put in one by one -/
def insK (f : Nat → Int) (a : Nat) (out : List Nat) : List Nat := out.takeWhile (fun y => !decide (f a < f y)) ++ [a] ++ out.dropWhile (fun y => !decide (f a < f y))
def sortK (f : Nat → Int) (l : List Nat) : List Nat := l.foldl (fun o a => insK f a o) []
theorem insK_perm (f : Nat → Int) (a : Nat) (out : List Nat) : (insK f a out).Perm (a :: out) := by
  unfold insK
  have h : (out.takeWhile (fun y => !decide (f a < f y)) ++ [a] ++ out.dropWhile (fun y => !decide (f a < f y))).Perm (a :: (out.takeWhile (fun y => !decide (f a < f y)) ++ out.dropWhile (fun y => !decide (f a < f y)))) := by
    rw [List.append_assoc]
    exact List.perm_middle
  rw [List.takeWhile_append_dropWhile] at h
  exact h
theorem insK_sorted (f : Nat → Int) (a : Nat) : ∀ (out : List Nat), out.Pairwise (fun x y => f x ≤ f y) → (insK f a out).Pairwise (fun x y => f x ≤ f y)
  | [], _ => by simp [insK]
  | y :: out, h => by
    have h' := List.pairwise_cons.1 h
    by_cases hc : f a < f y
    · have e : insK f a (y :: out) = a :: y :: out := by simp [insK, hc]
      rw [e]
      refine List.pairwise_cons.2 ⟨fun z hz => ?_, h⟩
      rcases List.mem_cons.1 hz with rfl | hz
      · omega
      · have := h'.1 z hz
        omega
    · have e : insK f a (y :: out) = y :: insK f a out := by simp [insK, hc]
      rw [e]
      refine List.pairwise_cons.2 ⟨fun z hz => ?_, insK_sorted f a out h'.2⟩
      have hz := (insK_perm f a out).mem_iff.1 hz
      rcases List.mem_cons.1 hz with rfl | hz
      · omega
      · exact h'.1 z hz
theorem sortK_snoc (f : Nat → Int) (l : List Nat) (a : Nat) : sortK f (l ++ [a]) = insK f a (sortK f l) := by simp [sortK]
theorem foldK_perm (f : Nat → Int) : ∀ (l o : List Nat), (l.foldl (fun o a => insK f a o) o).Perm (l ++ o)
  | [], o => by simp
  | a :: l, o => by
    simp only [List.foldl_cons, List.cons_append]
    refine (foldK_perm f l _).trans ?_
    refine (List.Perm.append_left l (insK_perm f a o)).trans ?_
    exact List.perm_middle
theorem sortK_perm (f : Nat → Int) (l : List Nat) : (sortK f l).Perm l := by have := foldK_perm f l []; rw [List.append_nil] at this; exact this
theorem foldK_sorted (f : Nat → Int) : ∀ (l o : List Nat), o.Pairwise (fun x y => f x ≤ f y) → (l.foldl (fun o a => insK f a o) o).Pairwise (fun x y => f x ≤ f y)
  | [], o, h => h
  | a :: l, o, h => foldK_sorted f l _ (insK_sorted f a o h)
theorem sortK_sorted (f : Nat → Int) (l : List Nat) : (sortK f l).Pairwise (fun x y => f x ≤ f y) := foldK_sorted f l [] List.Pairwise.nil
theorem sortK_len (f : Nat → Int) (l : List Nat) : (sortK f l).length = l.length := (sortK_perm f l).length_eq

/-- all bits fit -/
def Fit (l : List Nat) : Prop := ∀ x ∈ l, x < 18446744073709551616
/-- both sorts come to the same -/
theorem sort_same {l : List Nat} (h : Fit l) : sortL (t := .flt .f64) cf71 l = sortK keyF l := by
  have h1 := sortL_perm (t := .flt .f64) swo71 l
  have h2 := sortL_sorted (t := .flt .f64) swo71 l
  refine List.Perm.eq_of_pairwise (le := fun x y => keyF x ≤ keyF y) (fun a b ha hb h3 h4 => ?_) ?_ (sortK_sorted keyF l) (h1.trans (sortK_perm keyF l).symm)
  · exact keyF_inj (h _ (h1.mem_iff.1 ha)) (h _ ((sortK_perm keyF l).mem_iff.1 hb)) (Int.le_antisymm h3 h4)
  · refine h2.imp fun {a b} hab => ?_
    exact Int.not_lt.1 fun q => hab ((cmpN_lt (keyF b) (keyF a)).2 q)
end Go.Dor
end

section
/- GaugeSorts, BEHIND ITS WALK: both sorts come to the same; the first and the last. -/
set_option linter.unusedVariables false
set_option linter.unusedSimpArgs false
namespace Go.Dor
open Go.Proofs Go.Sort

theorem at_getF {α : Type} {d : α} {l : List α} {i : Nat} (h : i < l.length) : at_ d l (i : Int) = l[i] := by simp [at_, h]
theorem sub_takeF {α : Type} (l : List α) (n : Nat) : sub_ l (0 : Int) (n : Int) = l.take n := by simp [sub_]
theorem sub_dropF {α : Type} (l : List α) (n : Nat) : sub_ l (n : Int) (l.length : Int) = l.drop n := by simp [sub_]
theorem take_tw {α : Type} (p : α → Bool) (l : List α) : l.take (l.takeWhile p).length = l.takeWhile p := by
  conv => lhs; rw [← List.takeWhile_append_dropWhile (p := p) (l := l)]
  rw [List.takeWhile_append_dropWhile]
  exact (List.prefix_iff_eq_take.1 (List.takeWhile_prefix p)).symm
theorem drop_tw {α : Type} (p : α → Bool) (l : List α) : l.drop (l.takeWhile p).length = l.dropWhile p := by
  have h := List.takeWhile_append_dropWhile (p := p) (l := l)
  have h2 := List.take_append_drop (l.takeWhile p).length l
  rw [take_tw] at h2
  exact List.append_cancel_left (h2.trans h.symm)
theorem tw_len {α : Type} (p : α → Bool) (l : List α) : (l.takeWhile p).length ≤ l.length := (List.takeWhile_sublist p).length_le

theorem place_loop (k : Nat) (j : List Nat × List Nat × Int × Int → Option (List Nat)) {x out : List Nat} {i : Nat} (hi : i < x.length) (hx : Fit x) (ho : Fit out) (hb : out.length < 4611686018427387904) : ∀ (n fuel q : Nat), out.length - q = n → n < fuel → q ≤ out.length →
    loopC (fun (r : List Nat × List Nat × Int × Int → Option (List Nat)) y => p_dormouseref04_Sort.b4 k j r y.1 y.2.1 y.2.2.1 y.2.2.2) fuel (x, out, (i : Int), (q : Int)) =
      j (x, out, (i : Int), ((q + ((out.drop q).takeWhile fun y => !decide (keyF x[i] < keyF y)).length : Nat) : Int)) := by
  intro n
  induction n with
  | zero =>
    intro fuel q h1 h2 h3
    obtain ⟨fuel, rfl⟩ : ∃ f, fuel = f + 1 := ⟨fuel - 1, by omega⟩
    have e : q = out.length := by omega
    subst e
    simp only [loopC, p_dormouseref04_Sort.b4, p_dormouseref04_Sort.j5, joinC, Int.lt_irrefl, decide_false, cond_false, List.drop_length, List.takeWhile_nil, List.length_nil, Nat.add_zero]
  | succ n ih =>
    intro fuel q h1 h2 h3
    obtain ⟨fuel, rfl⟩ : ∃ f, fuel = f + 1 := ⟨fuel - 1, by omega⟩
    have hq : q < out.length := by omega
    have hd : out.drop q = out[q] :: out.drop (q + 1) := List.drop_eq_getElem_cons hq
    have hl : ((q : Int) < (out.length : Int)) := by omega
    have ih' := ih fuel (q + 1) (by omega) (by omega) (by omega)
    revert ih'
    show _ → p_dormouseref04_Sort.b4 k j (loopC _ fuel) x out (i : Int) (q : Int) = _
    generalize loopC (fun (r : List Nat × List Nat × Int × Int → Option (List Nat)) y => p_dormouseref04_Sort.b4 k j r y.1 y.2.1 y.2.2.1 y.2.2.2) fuel = rec
    intro ih'
    unfold p_dormouseref04_Sort.b4 joinC
    dsimp only
    rw [decide_eq_true hl, cond_true, need_yesF ⟨by omega, by omega⟩, need_yesF ⟨by omega, by omega⟩, at_getF hi, at_getF hq, less04 (hx _ (List.getElem_mem hi)) (ho _ (List.getElem_mem hq)), Option.bind_some]
    unfold p_dormouseref04_Sort.j5
    by_cases hc : keyF x[i] < keyF out[q]
    · rw [decide_eq_true hc, hd]
      simp only [Bool.not_true, cond_false, List.takeWhile_cons, decide_eq_true hc, Bool.false_eq_true, if_false, List.length_nil, Nat.add_zero]
    · rw [decide_eq_false hc, hd]
      simp only [Bool.not_false, cond_true, List.takeWhile_cons, decide_eq_false hc, if_true, List.length_cons]
      have ew : IntKind.wrap .i64 ((q : Int) + 1) = ((q + 1 : Nat) : Int) := by rw [wrap_i64 (by omega)]; omega
      rw [ew, ih']
      congr 4
      omega
theorem fit_perm {l l' : List Nat} (h : l'.Perm l) (hl : Fit l) : Fit l' := fun x hx => hl x (h.mem_iff.1 hx)
theorem refSort_eq {k : Nat} {x : List Nat} (hx : Fit x) (hk : x.length < k) (hb : x.length ≤ 60) : p_dormouseref04_Sort k x = some (sortK keyF x) := by
  unfold p_dormouseref04_Sort joinC
  refine loop_count (body := fun (r : List Nat × List Nat × Int → Option (List Nat)) y => p_dormouseref04_Sort.b1 k (p_dormouseref04_Sort.j0 k) r y.1 y.2.1 y.2.2) x.length k (fun i => (x, sortK keyF (x.take i), (i : Int))) hk (fun i hi rec => ?_) (fun rec => ?_)
  · dsimp only
    have hl : ((i : Int) < (x.length : Int)) := by omega
    have hlen : (sortK keyF (x.take i)).length = i := by rw [sortK_len, List.length_take]; omega
    have hfo : Fit (sortK keyF (x.take i)) := fit_perm (sortK_perm keyF _) fun y hy => hx y (List.mem_of_mem_take hy)
    unfold p_dormouseref04_Sort.b1 joinC
    rw [decide_eq_true hl, cond_true]
    have hp := place_loop k (fun y => p_dormouseref04_Sort.j3 k (fun y => p_dormouseref04_Sort.j2 k rec y.1 y.2.1 y.2.2) y.1 y.2.1 y.2.2.1 y.2.2.2) hi hx hfo (by omega) i k 0 (by omega) (by omega) (by omega)
    rw [List.drop_zero, Nat.zero_add] at hp
    refine hp.trans ?_
    dsimp only
    have htl := tw_len (fun y => !decide (keyF x[i] < keyF y)) (sortK keyF (x.take i))
    unfold p_dormouseref04_Sort.j3 p_dormouseref04_Sort.j2
    rw [sub_takeF, sub_dropF, take_tw, drop_tw, at_getF hi]
    have hdl : ((sortK keyF (x.take i)).dropWhile fun y => !decide (keyF x[i] < keyF y)).length ≤ i := Nat.le_trans (List.dropWhile_sublist _).length_le (Nat.le_of_eq hlen)
    rw [hlen] at htl
    rw [need_yesF ⟨by omega, by omega, by omega⟩, need_yesF (by omega), need_yesF ⟨by omega, by omega⟩, need_yesF (by simp only [List.nil_append, List.length_cons, List.length_nil]; omega), need_yesF ⟨by omega, by omega, by omega⟩,
      need_yesF (by simp only [List.nil_append, List.length_append, List.length_cons, List.length_nil]; omega)]
    have ew : IntKind.wrap .i64 ((i : Int) + 1) = ((i + 1 : Nat) : Int) := by rw [wrap_i64 (by omega)]; omega
    dsimp only
    rw [ew]
    have es : sortK keyF (x.take (i + 1)) = insK keyF x[i] (sortK keyF (x.take i)) := by
      rw [List.take_succ_eq_append_getElem hi, sortK_snoc]
    rw [es]
    rfl
  · dsimp only
    unfold p_dormouseref04_Sort.b1 p_dormouseref04_Sort.j0
    rw [decide_eq_false (Int.lt_irrefl _), cond_false, List.take_length]

theorem clone_eq {x : List Nat} (hb : x.length ≤ 17592186044416) : p_slices_Clone_float64_float64 x = some x := by
  unfold p_slices_Clone_float64_float64 joinC p_slices_Clone_float64_float64.j0
  cases x with
  | nil =>
    have : need ((0 + List.length ([] : List Nat)) * 8 ≤ (140737488355328 : Nat)) (some (([] : List Nat) ++ [])) = some [] := need_yesF (by simp)
    simp only [List.isEmpty_nil, cond_true, cond_false, this]
    exact bothC_same _
  | cons a l =>
    simp only [List.isEmpty_cons, cond_false]
    exact need_yesF (by omega)
theorem gaugeSort_eq {x : List Nat} (hx : Fit x) (hb : x.length ≤ 60) : p_gauge_Sort x = some (sortK keyF x) := by
  unfold p_gauge_Sort p_sort_71
  rw [clone_eq (by omega), Option.bind_some, need_yesF (by omega), Option.bind_some, sort_same hx]
set_option maxRecDepth 100000 in
theorem most_awake : p_gauge_Most [(4607182418800017408 : Nat), (4613937818241073152 : Nat)] = some 4613937818241073152 := by
  have h : p_gauge_Sort [(4607182418800017408 : Nat), (4613937818241073152 : Nat)] = some [(4607182418800017408 : Nat), (4613937818241073152 : Nat)] := by
    rw [gaugeSort_eq (by intro y hy; simp at hy; omega) (by simp)]
    kernel_rfl
  unfold p_gauge_Most
  rw [h]
  show (_ : Option Nat) = _
  kernel_rfl
set_option maxRecDepth 100000 in
theorem awake04 : p_dormouselaw04_awake 1000 = some true := by
  unfold p_dormouselaw04_awake
  rw [most_awake]
  kernel_rfl

theorem least_eq {x : List Nat} (hx : Fit x) (hb : x.length ≤ 60) (h0 : 0 < x.length) : p_gauge_Least x = some ((sortK keyF x)[0]'(by rw [sortK_len]; exact h0)) := by
  unfold p_gauge_Least
  have hl := sortK_len keyF x
  have : ((x.length : Int) == 0) = false := beq_eq_false_iff_ne.2 (by omega)
  rw [this, cond_false, gaugeSort_eq hx hb, Option.bind_some, need_yesF ⟨by omega, by omega⟩]
  exact congrArg some (at_getF (i := 0) (by rw [sortK_len]; exact h0))
theorem most_eq {x : List Nat} (hx : Fit x) (hb : x.length ≤ 60) (h0 : 0 < x.length) : p_gauge_Most x = some ((sortK keyF x)[x.length - 1]'(by rw [sortK_len]; omega)) := by
  unfold p_gauge_Most
  have hl := sortK_len keyF x
  have : ((x.length : Int) == 0) = false := beq_eq_false_iff_ne.2 (by omega)
  have ew : IntKind.wrap .i64 ((x.length : Int) - 1) = ((x.length - 1 : Nat) : Int) := by rw [wrap_i64 (by omega)]; omega
  rw [this, cond_false, gaugeSort_eq hx hb, Option.bind_some, ew, need_yesF ⟨by omega, by omega⟩]
  exact congrArg some (at_getF (by rw [sortK_len]; omega))
theorem same_eq (x y : Nat) : p_dormouseref04_Same x y = some (decide (x = y)) := by
  unfold p_dormouseref04_Same
  refine congrArg some ?_
  by_cases h : x = y
  · simp [h]
  · have : ¬ (x : Int) = (y : Int) := by omega
    simp [h, this]
set_option maxRecDepth 100000 in
theorem sorts_j1 {x : List Nat} (hx : Fit x) (hb : x.length ≤ 60) : p_dormouselaw04_GaugeSorts.j1 1000 x (sortK keyF x) = some true := by
  unfold p_dormouselaw04_GaugeSorts.j1 p_dormouselaw04_GaugeSorts.j2 p_dormouselaw04_GaugeSorts.j3 joinC
  dsimp only
  by_cases h0 : x.length = 0
  · have : ((x.length : Int) == 0) = true := by simp [h0]
    rw [this, cond_true, awake04]
    show (_ : Option Bool) = _
    kernel_rfl
  · have : ((x.length : Int) == 0) = false := beq_eq_false_iff_ne.2 (by omega)
    have ew : IntKind.wrap .i64 ((x.length : Int) - 1) = ((x.length - 1 : Nat) : Int) := by rw [wrap_i64 (by omega)]; omega
    have hl := sortK_len keyF x
    rw [this, cond_false, awake04, Option.bind_some, cond_true, least_eq hx hb (by omega), Option.bind_some, need_yesF ⟨by omega, by omega⟩]
    have a0 : at_ (dflt (T.flt Go.FloatKind.f64)) (sortK keyF x) (0 : Int) = (sortK keyF x)[0]'(by omega) := at_getF (i := 0) (by omega)
    rw [a0, same_eq, Option.bind_some, decide_eq_true rfl, cond_true, most_eq hx hb (by omega), Option.bind_some, ew, need_yesF ⟨by omega, by omega⟩, at_getF (by omega), same_eq, Option.bind_some, decide_eq_true rfl]
theorem sorts_j0 {x : List Nat} (hx : Fit x) (hb : x.length ≤ 60) : p_dormouselaw04_GaugeSorts.j0 1000 x = some true := by
  unfold p_dormouselaw04_GaugeSorts.j0
  rw [gaugeSort_eq hx hb, Option.bind_some, refSort_eq hx (by omega) hb, Option.bind_some]
  simp only [bne_self_eq_false, cond_false]
  unfold joinC
  have hl := sortK_len keyF x
  refine loop_count (body := fun (r : List Nat × List Nat × Int × List Nat → Option Bool) y => p_dormouselaw04_GaugeSorts.b4 1000 (fun y => p_dormouselaw04_GaugeSorts.j1 1000 y.1 y.2) r y.1 y.2.1 y.2.2.1 y.2.2.2) x.length 1000 (fun i => (x, sortK keyF x, (i : Int), sortK keyF x)) (by omega) (fun i hi rec => ?_) (fun rec => ?_)
  · dsimp only
    unfold p_dormouselaw04_GaugeSorts.b4
    have ew : IntKind.wrap .i64 ((i : Int) + 1) = ((i + 1 : Nat) : Int) := by rw [wrap_i64 (by omega)]; omega
    rw [decide_eq_true (by omega), cond_true, need_yesF ⟨by omega, by omega⟩, need_yesF ⟨by omega, by omega⟩, same_eq, Option.bind_some, decide_eq_true rfl, ew]
    rfl
  · dsimp only
    unfold p_dormouselaw04_GaugeSorts.b4
    rw [decide_eq_false (by omega), cond_false]
    exact sorts_j1 hx hb
/-- the law, behind its walk -/
theorem law_GaugeSorts (x : List Nat) (ok : okD (.sl (.flt .f64)) x) : p_dormouselaw04_GaugeSorts 1000 x = some true := by
  have hx : Fit x := fun y hy => by
    have := ok.2 y hy
    have h : (Lit.float .f64 y).wf = true := this
    simpa [Lit.wf] using h
  unfold p_dormouselaw04_GaugeSorts joinC
  dsimp only
  by_cases h : x.length ≤ 60
  · rw [decide_eq_false (by omega), cond_false]
    exact sorts_j0 hx h
  · rw [decide_eq_true (by omega), cond_true, need_yesF ⟨by omega, by omega, by omega⟩]
    have e : sub_ x (0 : Int) (60 : Int) = x.take 60 := sub_takeF x 60
    rw [e]
    exact sorts_j0 (fun y hy => hx y (List.mem_of_mem_take hy)) (by rw [List.length_take]; omega)
end Go.Dor
end

section
/- FLOATS' ORDER: comparisons of words told by whole numbers. No program. -/
set_option linter.unusedVariables false
set_option linter.unusedSimpArgs false
namespace Go.Dor

/-- what a word's lower bits stand for, in the least units -/
def U (r : Nat) : Nat := if r < 4503599627370496 then r else (4503599627370496 + r % 4503599627370496) * 2 ^ (r / 4503599627370496 - 1)
theorem U_mono {r s : Nat} (h : r < s) : U r < U s := by
  unfold U
  have hr := Nat.div_add_mod r 4503599627370496
  have hs := Nat.div_add_mod s 4503599627370496
  have fr : r % 4503599627370496 < 4503599627370496 := Nat.mod_lt _ (by decide)
  have fs : s % 4503599627370496 < 4503599627370496 := Nat.mod_lt _ (by decide)
  generalize hq : r / 4503599627370496 = q at *
  generalize hq' : s / 4503599627370496 = q' at *
  generalize r % 4503599627370496 = f at *
  generalize s % 4503599627370496 = f' at *
  by_cases h1 : r < 4503599627370496
  · rw [if_pos h1]
    by_cases h2 : s < 4503599627370496
    · rw [if_pos h2]; exact h
    · rw [if_neg h2]
      have : 1 ≤ 2 ^ (q' - 1) := Nat.one_le_two_pow
      calc r < 4503599627370496 := h1
        _ ≤ (4503599627370496 + f') * 1 := by omega
        _ ≤ (4503599627370496 + f') * 2 ^ (q' - 1) := Nat.mul_le_mul_left _ this
  · have h2 : ¬ s < 4503599627370496 := by omega
    rw [if_neg h1, if_neg h2]
    have q1 : 1 ≤ q := by omega
    by_cases he : q = q'
    · subst he
      exact Nat.mul_lt_mul_of_pos_right (by omega) (Nat.two_pow_pos _)
    · have hlt : q < q' := by omega
      calc (4503599627370496 + f) * 2 ^ (q - 1) < (4503599627370496 * 2) * 2 ^ (q - 1) := Nat.mul_lt_mul_of_pos_right (by omega) (Nat.two_pow_pos _)
        _ = 4503599627370496 * 2 ^ (q - 1 + 1) := by rw [Nat.pow_succ]; rw [Nat.mul_assoc, Nat.mul_comm 2]
        _ ≤ 4503599627370496 * 2 ^ (q' - 1) := Nat.mul_le_mul_left _ (Nat.pow_le_pow_right (by decide) (by omega))
        _ ≤ (4503599627370496 + f') * 2 ^ (q' - 1) := Nat.mul_le_mul_right _ (by omega)
theorem U_lt {r s : Nat} : U r < U s ↔ r < s := by
  constructor
  · intro h
    rcases Nat.lt_trichotomy r s with q | q | q
    · exact q
    · subst q; omega
    · have := U_mono q; omega
  · exact U_mono
theorem U_eq {r s : Nat} : U r = U s ↔ r = s := by
  constructor
  · intro h
    rcases Nat.lt_trichotomy r s with q | q | q
    · have := U_mono q; omega
    · exact q
    · have := U_mono q; omega
  · rintro rfl; rfl
theorem U_zero : U 0 = 0 := rfl

/-- lower bits and sign -/
def rg (x : Nat) : Nat := x % 9223372036854775808
def ng (x : Nat) : Bool := x / 9223372036854775808 % 2 == 1
/-- a word as a whole number of its own order -/
def fv (x : Nat) : Int := if ng x then -(rg x : Int) else (rg x : Int)
def isN (x : Nat) : Prop := 9218868437227405312 < rg x
def isI (x : Nat) : Prop := rg x = 9218868437227405312
def isF (x : Nat) : Prop := rg x < 9218868437227405312

theorem read_F {x : Nat} (h : isF x) : ∃ (m a : Nat), Ieee.double.read x = .number (ng x) m (-1074 + (a : Int)) ∧ m * 2 ^ a = U (rg x) := by
  unfold isF at h
  have hb : Ieee.double.binade = 4503599627370496 := rfl
  have hi : Ieee.double.infRung = 9218868437227405312 := rfl
  have hs : Ieee.double.signWeight = 9223372036854775808 := rfl
  have hl : Ieee.double.leastPlace = -1074 := rfl
  unfold Ieee.Format.read
  rw [hb, hi, hs, hl]
  dsimp only
  have e1 : x % 9223372036854775808 = rg x := rfl
  have e2 : (x / 9223372036854775808 % 2 == 1) = ng x := rfl
  rw [e1, e2]
  by_cases h1 : rg x < 4503599627370496
  · rw [if_pos h1]
    refine ⟨rg x, 0, by simp, ?_⟩
    unfold U
    rw [if_pos h1]; omega
  · rw [if_neg h1, if_pos h]
    refine ⟨_, rg x / 4503599627370496 - 1, rfl, ?_⟩
    unfold U
    rw [if_neg h1]
theorem read_I {x : Nat} (h : isI x) : Ieee.double.read x = .infinity (ng x) := by
  unfold isI at h
  have hb : Ieee.double.binade = 4503599627370496 := rfl
  have hi : Ieee.double.infRung = 9218868437227405312 := rfl
  have hs : Ieee.double.signWeight = 9223372036854775808 := rfl
  unfold Ieee.Format.read
  rw [hb, hi, hs]
  dsimp only
  have e1 : x % 9223372036854775808 = rg x := rfl
  rw [e1, h]
  rfl
theorem read_N {x : Nat} (h : isN x) : (Ieee.double.read x).isNaN = true := by
  unfold isN at h
  have hb : Ieee.double.binade = 4503599627370496 := rfl
  have hi : Ieee.double.infRung = 9218868437227405312 := rfl
  have hs : Ieee.double.signWeight = 9223372036854775808 := rfl
  unfold Ieee.Format.read
  rw [hb, hi, hs]
  dsimp only
  have e1 : x % 9223372036854775808 = rg x := rfl
  rw [e1, if_neg (by omega), if_neg (by omega), if_neg (by omega)]
  rfl

theorem cmp_iff {a b c d : Int} (h1 : a < b ↔ c < d) (h2 : a = b ↔ c = d) : compare a b = compare c d := by
  show compareOfLessAndEq a b = compareOfLessAndEq c d
  unfold compareOfLessAndEq
  by_cases q : a < b
  · rw [if_pos q, if_pos (h1.1 q)]
  · rw [if_neg q, if_neg (fun k => q (h1.2 k))]
    by_cases q2 : a = b
    · rw [if_pos q2, if_pos (h2.1 q2)]
    · rw [if_neg q2, if_neg (fun k => q2 (h2.2 k))]
theorem cmp_fv {p q : Bool} {A B r s : Nat} (h1 : A < B ↔ r < s) (h2 : A = B ↔ r = s) (h3 : A = 0 ↔ r = 0) (h4 : B = 0 ↔ s = 0) :
    compare (if p then -(A : Int) else (A : Int)) (if q then -(B : Int) else (B : Int)) = compare (if p then -(r : Int) else (r : Int)) (if q then -(s : Int) else (s : Int)) := by
  apply cmp_iff
  · cases p <;> cases q <;> simp only [if_true, if_false, Bool.false_eq_true] <;> omega
  · cases p <;> cases q <;> simp only [if_true, if_false, Bool.false_eq_true] <;> omega

/-- two words that are no NaNs stand to each other as these whole numbers do -/
theorem order_fv {x y : Nat} (hx : ¬ isN x) (hy : ¬ isN y) : Ieee.double.order x y = some (compare (fv x) (fv y)) := by
  unfold Ieee.Format.order
  have ix : isI x ∨ isF x := by unfold isN isI isF at *; omega
  have iy : isI y ∨ isF y := by unfold isN isI isF at *; omega
  rcases ix with ix | ix <;> rcases iy with iy | iy
  · rw [read_I ix, read_I iy]
    unfold isI at ix iy
    show some (compare (ng y).toNat (ng x).toNat) = _
    unfold fv
    rw [ix, iy]
    cases ng x <;> cases ng y <;> rfl
  · obtain ⟨n, b, e, hb⟩ := read_F iy
    rw [read_I ix, e]
    unfold isI at ix
    unfold isF at iy
    show some (if (ng x) = true then Ordering.lt else Ordering.gt) = _
    congr 1
    show _ = compareOfLessAndEq _ _
    unfold compareOfLessAndEq fv
    rw [ix]
    cases ng x <;> cases ng y <;> simp only [if_true, if_false, Bool.false_eq_true]
    · rw [if_neg (by omega), if_neg (by omega)]
    · rw [if_neg (by omega), if_neg (by omega)]
    · rw [if_pos (by omega)]
    · rw [if_pos (by omega)]
  · obtain ⟨n, b, e, hb⟩ := read_F ix
    rw [read_I iy, e]
    unfold isI at iy
    unfold isF at ix
    show some (if (ng y) = true then Ordering.gt else Ordering.lt) = _
    congr 1
    show _ = compareOfLessAndEq _ _
    unfold compareOfLessAndEq fv
    rw [iy]
    cases ng x <;> cases ng y <;> simp only [if_true, if_false, Bool.false_eq_true]
    · rw [if_pos (by omega)]
    · rw [if_neg (by omega), if_neg (by omega)]
    · rw [if_pos (by omega)]
    · rw [if_neg (by omega), if_neg (by omega)]
  · obtain ⟨m, a, e1, ha⟩ := read_F ix
    obtain ⟨n, b, e2, hb⟩ := read_F iy
    rw [e1, e2]
    show some (compare (Ieee.signed (ng x) m ((-1074 + (a : Int)) - min (-1074 + (a : Int)) (-1074 + (b : Int))).toNat) (Ieee.signed (ng y) n ((-1074 + (b : Int)) - min (-1074 + (a : Int)) (-1074 + (b : Int))).toNat)) = _
    have ea : ((-1074 + (a : Int)) - min (-1074 + (a : Int)) (-1074 + (b : Int))).toNat = a - min a b := by omega
    have eb : ((-1074 + (b : Int)) - min (-1074 + (a : Int)) (-1074 + (b : Int))).toNat = b - min a b := by omega
    rw [ea, eb]
    unfold Ieee.signed fv
    rw [Nat.shiftLeft_eq, Nat.shiftLeft_eq]
    congr 1
    have pc : 0 < 2 ^ min a b := Nat.two_pow_pos _
    have ka : m * 2 ^ (a - min a b) * 2 ^ min a b = U (rg x) := by
      rw [Nat.mul_assoc, ← Nat.pow_add, Nat.sub_add_cancel (Nat.min_le_left a b)]; exact ha
    have kb : n * 2 ^ (b - min a b) * 2 ^ min a b = U (rg y) := by
      rw [Nat.mul_assoc, ← Nat.pow_add, Nat.sub_add_cancel (Nat.min_le_right a b)]; exact hb
    generalize m * 2 ^ (a - min a b) = A at ka ⊢
    generalize n * 2 ^ (b - min a b) = B at kb ⊢
    generalize 2 ^ min a b = C at ka kb pc
    refine cmp_fv ?_ ?_ ?_ ?_
    · rw [← U_lt (r := rg x), ← ka, ← kb]
      exact (Nat.mul_lt_mul_right pc).symm
    · rw [← U_eq (r := rg x), ← ka, ← kb]
      exact (Nat.mul_left_inj (by omega)).symm
    · rw [← U_eq (r := rg x), ← ka, U_zero]
      rw [Nat.mul_eq_zero]
      omega
    · rw [← U_eq (r := rg y), ← kb, U_zero]
      rw [Nat.mul_eq_zero]
      omega
theorem order_N {x y : Nat} (h : isN x ∨ isN y) : Ieee.double.order x y = none := by
  rcases h with h | h
  · exact order_nan_l (k := .f64) (read_N h)
  · exact order_nan_r (k := .f64) (read_N h)

instance (x : Nat) : Decidable (isN x) := inferInstanceAs (Decidable (_ < _))
theorem eq_fv (x y : Nat) : flEq .f64 x y = (!decide (isN x) && !decide (isN y) && decide (fv x = fv y)) := by
  unfold flEq
  show (Ieee.double.order x y == some .eq) = _
  by_cases hx : isN x
  · rw [order_N (.inl hx)]; simp [hx]
  · by_cases hy : isN y
    · rw [order_N (.inr hy)]; simp [hy]
    · rw [order_fv hx hy]
      simp only [hx, hy, decide_false, Bool.not_false, Bool.true_and]
      show (some (compareOfLessAndEq (fv x) (fv y)) == some Ordering.eq) = _
      unfold compareOfLessAndEq
      by_cases q : fv x < fv y
      · rw [if_pos q, decide_eq_false (by omega)]; rfl
      · rw [if_neg q]
        by_cases q2 : fv x = fv y
        · rw [if_pos q2, decide_eq_true q2]; rfl
        · rw [if_neg q2, decide_eq_false q2]; rfl
theorem lt_fv (x y : Nat) : flLt .f64 x y = (!decide (isN x) && !decide (isN y) && decide (fv x < fv y)) := by
  unfold flLt
  show (Ieee.double.order x y == some .lt) = _
  by_cases hx : isN x
  · rw [order_N (.inl hx)]; simp [hx]
  · by_cases hy : isN y
    · rw [order_N (.inr hy)]; simp [hy]
    · rw [order_fv hx hy]
      simp only [hx, hy, decide_false, Bool.not_false, Bool.true_and]
      show (some (compareOfLessAndEq (fv x) (fv y)) == some Ordering.lt) = _
      unfold compareOfLessAndEq
      by_cases q : fv x < fv y
      · rw [if_pos q, decide_eq_true q]; rfl
      · rw [if_neg q, decide_eq_false q]
        by_cases q2 : fv x = fv y
        · rw [if_pos q2]; rfl
        · rw [if_neg q2]; rfl
theorem gt_fv (x y : Nat) : flGt .f64 x y = (!decide (isN x) && !decide (isN y) && decide (fv y < fv x)) := by
  unfold flGt
  show (Ieee.double.order x y == some .gt) = _
  by_cases hx : isN x
  · rw [order_N (.inl hx)]; simp [hx]
  · by_cases hy : isN y
    · rw [order_N (.inr hy)]; simp [hy]
    · rw [order_fv hx hy]
      simp only [hx, hy, decide_false, Bool.not_false, Bool.true_and]
      show (some (compareOfLessAndEq (fv x) (fv y)) == some Ordering.gt) = _
      unfold compareOfLessAndEq
      by_cases q : fv x < fv y
      · rw [if_pos q, decide_eq_false (by omega)]; rfl
      · rw [if_neg q]
        by_cases q2 : fv x = fv y
        · rw [if_pos q2, decide_eq_false (by omega)]; rfl
        · rw [if_neg q2, decide_eq_true (by omega)]; rfl
end Go.Dor
end

section
/- GaugeOrders, BEHIND ITS WALK: the order, the bits, the classes. -/
set_option linter.unusedVariables false
set_option linter.unusedSimpArgs false
namespace Go.Dor
open Go.Proofs

theorem fv_lo {x : Nat} (h : x < 9223372036854775808) : fv x = (x : Int) ∧ rg x = x := by
  have e1 : rg x = x := Nat.mod_eq_of_lt h
  have e2 : ng x = false := by
    unfold ng
    rw [Nat.div_eq_of_lt h]; rfl
  unfold fv
  rw [e1, e2]
  exact ⟨if_neg (by decide), rfl⟩
theorem fv_hi {x : Nat} (h : 9223372036854775808 ≤ x) (h2 : x < 18446744073709551616) : fv x = -((x - 9223372036854775808 : Nat) : Int) ∧ rg x = x - 9223372036854775808 := by
  have e1 : rg x = x - 9223372036854775808 := by unfold rg; omega
  have e2 : ng x = true := by
    unfold ng
    have : x / 9223372036854775808 = 1 := by omega
    rw [this]; rfl
  unfold fv
  rw [e1, e2]
  exact ⟨if_pos rfl, rfl⟩
theorem xor_top {x : Nat} (h : x < 9223372036854775808) : x ^^^ 9223372036854775808 = x + 9223372036854775808 := by
  have hx : x < 2 ^ 63 := h
  have e1 : x ^^^ 9223372036854775808 = x ||| 9223372036854775808 := by
    have e63 : (9223372036854775808 : Nat) = 2 ^ 63 := rfl
    rw [e63]
    apply Nat.eq_of_testBit_eq
    intro i
    rw [Nat.testBit_xor, Nat.testBit_or, Nat.testBit_two_pow]
    by_cases hi : 63 = i
    · subst hi
      rw [Nat.testBit_lt_two_pow hx]; simp
    · simp [hi]
  have := or_add (a := 1) (b := x) (n := 63) hx
  rw [Nat.one_mul] at this
  rw [e1, Nat.or_comm, Nat.add_comm]
  exact this
theorem neg_lo {x : Nat} (h : x < 9223372036854775808) : flNeg .f64 x = x + 9223372036854775808 := xor_top h
theorem neg_hi {x : Nat} (h : 9223372036854775808 ≤ x) (h2 : x < 18446744073709551616) : flNeg .f64 x = x - 9223372036854775808 := by
  show x ^^^ 9223372036854775808 = _
  have e : x = (x - 9223372036854775808) ^^^ 9223372036854775808 := by
    rw [xor_top (by omega)]; omega
  conv => lhs; rw [e]
  rw [Nat.xor_assoc, Nat.xor_self, Nat.xor_zero]
theorem neg_fv {x : Nat} (h : x < 18446744073709551616) : fv (flNeg .f64 x) = - fv x ∧ (isN (flNeg .f64 x) ↔ isN x) := by
  by_cases h1 : x < 9223372036854775808
  · rw [neg_lo h1]
    obtain ⟨e1, e2⟩ := fv_lo h1
    obtain ⟨e3, e4⟩ := fv_hi (x := x + 9223372036854775808) (by omega) (by omega)
    rw [e1, e3]
    unfold isN
    rw [e2, e4]
    exact ⟨by omega, by omega⟩
  · rw [neg_hi (by omega) h]
    obtain ⟨e1, e2⟩ := fv_hi (by omega) h
    obtain ⟨e3, e4⟩ := fv_lo (x := x - 9223372036854775808) (by omega)
    rw [e1, e3]
    unfold isN
    rw [e2, e4]
    exact ⟨by omega, by omega⟩
theorem subself_F {x : Nat} (h : isF x) : flOpX 1 .f64 x x = 0 := by
  obtain ⟨m, a, e, _⟩ := read_F h
  have : flOp 1 .f64 x x = some 0 := by
    show ((Ieee.double.read x).sum (Ieee.double.read x).opposite).map Ieee.double.write = some 0
    rw [e]
    show some (Ieee.double.write (.number (if Ieee.signed (ng x) m _ + Ieee.signed (!ng x) m _ = 0 then ng x && !ng x else _) _ _)) = some 0
    have et : ∀ q : Nat, Ieee.signed (ng x) m q + Ieee.signed (!ng x) m q = 0 := fun q => by
      unfold Ieee.signed
      cases ng x <;> simp <;> omega
    rw [et]
    simp only [if_true, Bool.and_not_self, Int.natAbs_zero]
    rfl
  unfold flOpX
  rw [this]; rfl
theorem subself_I {x : Nat} (h : isI x) : flOpX 1 .f64 x x = nanC := by
  have : flOp 1 .f64 x x = none := by
    show ((Ieee.double.read x).sum (Ieee.double.read x).opposite).map Ieee.double.write = none
    rw [read_I h]
    show (if ng x = !ng x then some _ else none : Option Ieee.Datum).map _ = none
    rw [if_neg (by cases ng x <;> decide)]
    rfl
  unfold flOpX
  rw [this]; rfl
theorem nanC_isN : isN nanC := by decide
theorem self_eq (x : Nat) : flEq .f64 x x = !decide (isN x) := by rw [eq_fv]; simp
instance (x : Nat) : Decidable (isI x) := inferInstanceAs (Decidable (_ = _))
theorem infinite_eq (x : Nat) : p_dormouseref04_Infinite x = some (decide (isI x)) := by
  unfold p_dormouseref04_Infinite p_dormouseref04_Infinite.j0 joinC
  rw [self_eq]
  by_cases hn : isN x
  · have : ¬ isI x := by unfold isN isI at *; omega
    rw [decide_eq_true hn, decide_eq_false this]; rfl
  · rw [decide_eq_false hn]
    by_cases hi : isI x
    · rw [subself_I hi, decide_eq_true hi, eq_fv, decide_eq_true nanC_isN]; rfl
    · have hf : isF x := by unfold isN isI isF at *; omega
      rw [subself_F hf, decide_eq_false hi]
      have : flEq .f64 0 0 = true := by rw [self_eq]; rfl
      rw [this]; rfl
theorem n0 : ¬ isN 0 := by decide
theorem fv0 : fv 0 = 0 := rfl
theorem lt0 {x : Nat} (h : ¬ isN x) : flLt .f64 x 0 = decide (fv x < 0) := by rw [lt_fv]; simp [h, n0, fv0]; rfl
theorem eq0 {x : Nat} (h : ¬ isN x) : flEq .f64 x 0 = decide (fv x = 0) := by rw [eq_fv]; simp [h, n0, fv0]; rfl
theorem gt0 {x : Nat} (h : ¬ isN x) : flGt .f64 x 0 = decide (0 < fv x) := by rw [gt_fv]; simp [h, n0, fv0]; rfl
theorem gtMax {x : Nat} (h : ¬ isN x) : flGt .f64 x 9218868437227405311 = decide (9218868437227405311 < fv x) := by
  rw [gt_fv]
  have h1 : ¬ isN 9218868437227405311 := by decide
  have h2 : fv 9218868437227405311 = 9218868437227405311 := rfl
  simp [h, h1, h2]
theorem isInf_p {x : Nat} (h : ¬ isN x) : p_math_IsInf x 1 = some (decide (9218868437227405311 < fv x)) := by
  unfold p_math_IsInf p_math_IsInf.j0 joinC
  show some (flGt .f64 x 9218868437227405311) = _
  rw [gtMax h]
theorem isInf_m {x : Nat} (hx : x < 18446744073709551616) (h : ¬ isN x) : p_math_IsInf x (-1) = some (decide (9218868437227405311 < - fv x)) := by
  unfold p_math_IsInf p_math_IsInf.j0 joinC
  have h1 := neg_fv hx
  have h2 : ¬ isN (flNeg .f64 x) := fun q => h (h1.2.1 q)
  show some (flGt .f64 (flNeg .f64 x) 9218868437227405311) = _
  rw [gtMax h2, h1.1]
theorem signbit_eq {x : Nat} (hx : x < 18446744073709551616) : p_math_Signbit x = some (decide (9223372036854775808 ≤ x)) := by
  unfold p_math_Signbit
  refine congrArg some (decide_eq_decide.2 ?_)
  by_cases h : 9223372036854775808 ≤ x
  · have : IntKind.wrap .i64 (x : Int) = (x : Int) - 18446744073709551616 := by
      unfold IntKind.wrap
      have e1 : (2 : Int) ^ IntKind.bits .i64 = 18446744073709551616 := rfl
      have e2 : (2 : Int) ^ (IntKind.bits .i64 - 1) = 9223372036854775808 := rfl
      have e3 : IntKind.signed .i64 = true := rfl
      simp only [e1, e2, e3]
      have : (x : Int) % 18446744073709551616 = x := by omega
      rw [this]
      have : ((x : Int) ≥ 9223372036854775808) := by omega
      simp [this]
    rw [this]; omega
  · rw [wrap_i64 (by omega)]; omega
theorem class_eq {x : Nat} (hx : x < 18446744073709551616) : ∃ c, p_gauge_Class x = some c ∧ p_dormouseref04_Class x = some c := by
  unfold p_gauge_Class p_dormouseref04_Class p_gauge_Class.j0 p_dormouseref04_Class.j0 joinC p_dormouseref04_minus
  dsimp only
  rw [self_eq, infinite_eq]
  by_cases hn : isN x
  · rw [decide_eq_true hn]
    exact ⟨0, rfl, rfl⟩
  · rw [decide_eq_false hn, isInf_m hx hn, lt0 hn, eq0 hn, gt0 hn, isInf_p hn, signbit_eq hx]
    have hc : (x < 9223372036854775808 ∧ fv x = (x : Int) ∧ rg x = x) ∨ (9223372036854775808 ≤ x ∧ fv x = -((x - 9223372036854775808 : Nat) : Int) ∧ rg x = x - 9223372036854775808) := by
      by_cases h1 : x < 9223372036854775808
      · exact .inl ⟨h1, fv_lo h1⟩
      · exact .inr ⟨by omega, fv_hi (by omega) hx⟩
    simp only [Bool.not_true, Bool.not_false, cond_false, cond_true, Option.bind_some]
    have hI : decide (isI x) = decide (9218868437227405311 < fv x ∨ 9218868437227405311 < - fv x) := by
      apply decide_eq_decide.2
      unfold isI isN at *
      omega
    rw [hI]
    have hM : decide ((x : Int) ≥ (9223372036854775808 : Int)) = decide (9223372036854775808 ≤ x) := decide_eq_decide.2 (by omega)
    rw [hM]
    by_cases a1 : 9218868437227405311 < - fv x
    · refine ⟨1, ?_, ?_⟩
      · simp [a1]
      · have : fv x < 0 := by omega
        simp [a1, this]
    · by_cases a2 : 9218868437227405311 < fv x
      · have b1 : ¬ fv x < 0 := by omega
        have b2 : ¬ fv x = 0 := by omega
        refine ⟨6, ?_, ?_⟩ <;> simp [a1, a2, b1, b2]
      · by_cases a3 : fv x < 0
        · refine ⟨2, ?_, ?_⟩ <;> simp [a1, a2, a3]
        · by_cases a4 : fv x = 0
          · have b1 : ¬ 0 < fv x := by omega
            by_cases a5 : 9223372036854775808 ≤ x
            · refine ⟨3, ?_, ?_⟩ <;> simp [a4, a5]
            · refine ⟨4, ?_, ?_⟩ <;> simp [a4, a5]
          · have b1 : 0 < fv x := by omega
            refine ⟨5, ?_, ?_⟩ <;> simp [a1, a2, a3, a4, b1]
theorem fv_key {x y : Nat} (hx : x < 18446744073709551616) (hy : y < 18446744073709551616) (h : fv x < fv y) : keyF x < keyF y := by
  rw [keyF_val hx, keyF_val hy]
  by_cases h1 : x < 9223372036854775808 <;> by_cases h2 : y < 9223372036854775808
  · rw [(fv_lo h1).1, (fv_lo h2).1] at h
    rw [if_neg (by omega), if_neg (by omega)]; omega
  · rw [(fv_lo h1).1, (fv_hi (by omega) hy).1] at h
    omega
  · rw [(fv_hi (by omega) hx).1, (fv_lo h2).1] at h
    rw [if_pos (by omega), if_neg (by omega)]; omega
  · rw [(fv_hi (by omega) hx).1, (fv_hi (by omega) hy).1] at h
    rw [if_pos (by omega), if_pos (by omega)]; omega
theorem lt_key {x y : Nat} (hx : x < 18446744073709551616) (hy : y < 18446744073709551616) (h : flLt .f64 x y = true) : keyF x < keyF y := by
  rw [lt_fv] at h
  simp only [Bool.and_eq_true, decide_eq_true_eq] at h
  exact fv_key hx hy h.2
theorem gaugeLess_eq (x y : Nat) : p_gauge_Less x y = some (decide (keyF x < keyF y)) := by
  unfold p_gauge_Less
  rw [key_eq, key_eq]; rfl
/-- the law, behind its walk -/
theorem law_GaugeOrders (x y : Int) (okx : okD (.int .u64) x) (oky : okD (.int .u64) y) : p_dormouselaw04_GaugeOrders 1000 x y = some true := by
  have hx : 0 ≤ x ∧ x < 18446744073709551616 := by
    have h : (Lit.int .u64 x).wf = true := okx
    have h' : 0 ≤ x ∧ x ≤ 18446744073709551615 := by simpa [Lit.wf, IntKind.min, IntKind.max, IntKind.signed, IntKind.bits] using h
    omega
  have hy : 0 ≤ y ∧ y < 18446744073709551616 := by
    have h : (Lit.int .u64 y).wf = true := oky
    have h' : 0 ≤ y ∧ y ≤ 18446744073709551615 := by simpa [Lit.wf, IntKind.min, IntKind.max, IntKind.signed, IntKind.bits] using h
    omega
  obtain ⟨a, rfl⟩ : ∃ a : Nat, x = a := ⟨x.toNat, by omega⟩
  obtain ⟨b, rfl⟩ : ∃ b : Nat, y = b := ⟨y.toNat, by omega⟩
  have ha : a < 18446744073709551616 := by omega
  have hb : b < 18446744073709551616 := by omega
  obtain ⟨c, hc1, hc2⟩ := class_eq ha
  unfold p_dormouselaw04_GaugeOrders p_dormouselaw04_GaugeOrders.j0 joinC p_gauge_Of p_gauge_Bits p_gauge_Same p_gauge_Bits
  simp only [Int.toNat_natCast, less04 ha hb, less04 hb ha, awake04, gaugeLess_eq, key_eq, hc1, hc2, Option.bind_some, cond_true, beq_self_eq_true]
  have hne : ((a : Int) != (b : Int)) = decide (keyF a < keyF b ∨ keyF b < keyF a) := by
    by_cases h : a = b
    · subst h; simp
    · have h1 : (a : Int) ≠ (b : Int) := by omega
      have h2 : keyF a ≠ keyF b := fun q => h (keyF_inj ha hb q)
      have h3 : keyF a < keyF b ∨ keyF b < keyF a := by omega
      rw [decide_eq_true h3]
      exact bne_iff_ne.2 h1
  rw [hne]
  by_cases h1 : keyF a < keyF b
  · simp [h1]
  · have h3 : flLt .f64 a b = false := by
      cases q : flLt .f64 a b
      · rfl
      · exact absurd (lt_key ha hb q) h1
    by_cases h2 : keyF b < keyF a
    · simp [h1, h2, h3]
    · simp [h1, h2, h3]
end Go.Dor
end

section
/- GaugeSmooths, BEHIND ITS WALK: the same operations on both sides; where they part (a zero's sign) the numbers are alike. -/
set_option linter.unusedVariables false
set_option linter.unusedSimpArgs false
namespace Go.Dor
open Go.Proofs

/-- alike: the same number, or both none -/
def alike (x y : Nat) : Bool := flEq .f64 x y || (!flEq .f64 x x && !flEq .f64 y y)
theorem alike_p (x y : Nat) : p_dormouseref04_Alike_v1 x y = some (alike x y) := by
  unfold p_dormouseref04_Alike_v1 p_dormouseref04_Alike_v1.j0 joinC alike
  dsimp only
  cases flEq .f64 x y <;> cases flEq .f64 x x <;> rfl
theorem alike_self (x : Nat) : alike x x = true := by
  unfold alike
  cases flEq .f64 x x <;> rfl
theorem alike_N {x y : Nat} (hx : isN x) (hy : isN y) : alike x y = true := by
  unfold alike
  rw [self_eq, self_eq, decide_eq_true hx, decide_eq_true hy]
  simp

/-! ### sums with a zero -/
theorem opX_nan_l {n x y : Nat} (h : isN x) : flOpX n .f64 x y = nanC := by
  unfold flOpX
  rw [flOp_nan_l (k := .f64) (read_N h)]; rfl
theorem opX_nan_r {n x y : Nat} (h : isN y) : flOpX n .f64 x y = nanC := by
  unfold flOpX
  rw [flOp_nan_r (k := .f64) (read_N h)]; rfl
theorem read_zero (z : Nat) (h : z = 0 ∨ z = 9223372036854775808) : Ieee.double.read z = .number (ng z) 0 (-1074) := by
  rcases h with rfl | rfl <;> rfl
theorem near_zero (s : Bool) (p : Int) : Ieee.double.nearest s 0 p = 0 ∨ Ieee.double.nearest s 0 p = 9223372036854775808 := by
  cases s
  · left; rfl
  · right; rfl
/-- a product with a zero: a zero, or a NaN's mark -/
theorem mul_zero {x z : Nat} (h : z = 0 ∨ z = 9223372036854775808) : (isF x ∧ (flOpX 2 .f64 x z = 0 ∨ flOpX 2 .f64 x z = 9223372036854775808)) ∨ (¬ isF x ∧ flOpX 2 .f64 x z = nanC) := by
  by_cases hn : isN x
  · right
    exact ⟨by unfold isN isF at *; omega, opX_nan_l hn⟩
  · by_cases hi : isI x
    · right
      refine ⟨by unfold isI isF at *; omega, ?_⟩
      unfold flOpX
      show (((Ieee.double.read x).product (Ieee.double.read z)).map Ieee.double.write).getD nanC = nanC
      rw [read_I hi, read_zero z h]
      rfl
    · have hf : isF x := by unfold isN isI isF at *; omega
      left
      refine ⟨hf, ?_⟩
      obtain ⟨m, a, e, _⟩ := read_F hf
      have : flOpX 2 .f64 x z = Ieee.double.nearest (ng x ^^ ng z) (m * 0) (-1074 + (a : Int) + -1074) := by
        unfold flOpX
        show (((Ieee.double.read x).product (Ieee.double.read z)).map Ieee.double.write).getD nanC = _
        rw [e, read_zero z h]
        rfl
      rw [this, Nat.mul_zero]
      exact near_zero _ _
theorem near_fin {s : Bool} {m : Nat} {p : Int} : ¬ isN (Ieee.double.nearest s m p) := by
  have key : ∀ r : Nat, r ≤ 9218868437227405312 → ¬ isN (Ieee.double.word s r) := by
    intro r hr
    have hs : Ieee.double.signWeight = 9223372036854775808 := rfl
    unfold isN rg Ieee.Format.word
    rw [hs]
    cases s
    · simp only [Bool.false_eq_true, if_false]; omega
    · simp only [if_true]; omega
  unfold Ieee.Format.nearest
  split
  · exact key 0 (by omega)
  · dsimp only
    exact key _ (Nat.min_le_right _ _)
/-- a number with a zero behind it: whatever the zero's sign, the sums are alike -/
theorem add_zero {x z1 z2 : Nat} (hx : ¬ isN x) (h1 : z1 = 0 ∨ z1 = 9223372036854775808) (h2 : z2 = 0 ∨ z2 = 9223372036854775808) : alike (flOpX 0 .f64 x z1) (flOpX 0 .f64 x z2) = true := by
  by_cases hi : isI x
  · have e : ∀ z, z = 0 ∨ z = 9223372036854775808 → flOpX 0 .f64 x z = Ieee.double.write (.infinity (ng x)) := fun z h => by
      unfold flOpX
      show (((Ieee.double.read x).sum (Ieee.double.read z)).map Ieee.double.write).getD nanC = _
      rw [read_I hi, read_zero z h]
      rfl
    rw [e z1 h1, e z2 h2]
    exact alike_self _
  · have hf : isF x := by unfold isN isI isF at *; omega
    obtain ⟨m, a, e, ha⟩ := read_F hf
    have es : ∀ z, z = 0 ∨ z = 9223372036854775808 → flOpX 0 .f64 x z = Ieee.double.nearest (if Ieee.signed (ng x) m a = 0 then ng x && ng z else decide (Ieee.signed (ng x) m a < 0)) (Ieee.signed (ng x) m a).natAbs (-1074) := fun z h => by
      unfold flOpX
      show (((Ieee.double.read x).sum (Ieee.double.read z)).map Ieee.double.write).getD nanC = _
      rw [e, read_zero z h]
      have hmin : min (-1074 + (a : Int)) (-1074) = -1074 := by omega
      have h3 : Ieee.signed (ng z) 0 ((-1074 : Int) - -1074).toNat = 0 := by cases ng z <;> rfl
      have h4 : (-1074 + (a : Int) - -1074).toNat = a := by omega
      show Ieee.double.nearest (if Ieee.signed (ng x) m (-1074 + (a : Int) - min (-1074 + (a : Int)) (-1074)).toNat + Ieee.signed (ng z) 0 ((-1074 : Int) - min (-1074 + (a : Int)) (-1074)).toNat = 0 then ng x && ng z else decide (Ieee.signed (ng x) m (-1074 + (a : Int) - min (-1074 + (a : Int)) (-1074)).toNat + Ieee.signed (ng z) 0 ((-1074 : Int) - min (-1074 + (a : Int)) (-1074)).toNat < 0))
        (Ieee.signed (ng x) m (-1074 + (a : Int) - min (-1074 + (a : Int)) (-1074)).toNat + Ieee.signed (ng z) 0 ((-1074 : Int) - min (-1074 + (a : Int)) (-1074)).toNat).natAbs (min (-1074 + (a : Int)) (-1074)) = _
      rw [hmin, h3, h4, Int.add_zero]
    rw [es z1 h1, es z2 h2]
    by_cases ht : Ieee.signed (ng x) m a = 0
    · rw [if_pos ht, if_pos ht, ht]
      have hz : ∀ s1 s2 : Bool, alike (Ieee.double.nearest s1 (Int.natAbs 0) (-1074)) (Ieee.double.nearest s2 (Int.natAbs 0) (-1074)) = true := by
        intro s1 s2
        cases s1 <;> cases s2 <;> decide +kernel
      exact hz _ _
    · rw [if_neg ht, if_neg ht]
      exact alike_self _

/-! ### the mean: the same sum on both sides -/
theorem mean_eq {l : List Nat} (hb : l.length ≤ 60) : p_gauge_Mean 1000 l = some (flOpX 3 .f64 (l.foldl (fun n x => flOpX 0 .f64 n x) 0) (flNear .f64 (l.length : Int))) := by
  unfold p_gauge_Mean joinC
  refine loop_count (body := fun (r : List Nat × Nat × List Nat × Int × Int → Option Nat) y => p_gauge_Mean.b1 1000 (fun y => p_gauge_Mean.j0 1000 y.1 y.2) r y.1 y.2.1 y.2.2.1 y.2.2.2.1 y.2.2.2.2) l.length 1000 (fun i => (l, (l.take i).foldl (fun n x => flOpX 0 .f64 n x) 0, l, (l.length : Int), (i : Int))) (by omega) (fun i hi rec => ?_) (fun rec => ?_)
  · dsimp only
    unfold p_gauge_Mean.b1
    have ew : IntKind.wrap .i64 ((i : Int) + 1) = ((i + 1 : Nat) : Int) := by rw [wrap_i64 (by omega)]; omega
    rw [decide_eq_true (by omega), cond_true, need_yesF ⟨by omega, by omega⟩, at_getF hi, ew, List.take_succ_eq_append_getElem hi, List.foldl_append]
    rfl
  · dsimp only
    unfold p_gauge_Mean.b1 p_gauge_Mean.j0
    rw [decide_eq_false (by omega), cond_false, List.take_length]
end Go.Dor
end

section
/- GaugeSmooths, BEHIND ITS WALK: the law. -/
set_option linter.unusedVariables false
set_option linter.unusedSimpArgs false
namespace Go.Dor
open Go.Proofs

theorem order_at {x y : Nat} (hx : ¬ isN x) (hy : ¬ isN y) : FloatKind.f64.format.order x y = some (compare (fv x) (fv y)) := order_fv hx hy
theorem cmp_lt {a b : Int} (h : a < b) : compare a b = .lt := by show compareOfLessAndEq a b = _; unfold compareOfLessAndEq; rw [if_pos h]
theorem cmp_eq {a b : Int} (h : a = b) : compare a b = .eq := by show compareOfLessAndEq a b = _; unfold compareOfLessAndEq; rw [if_neg (by omega), if_pos h]
theorem cmp_gt {a b : Int} (h : b < a) : compare a b = .gt := by show compareOfLessAndEq a b = _; unfold compareOfLessAndEq; rw [if_neg (by omega), if_neg (by omega)]
theorem n1 : ¬ isN 4607182418800017408 := by decide
theorem fv1 : fv 4607182418800017408 = 4607182418800017408 := rfl
theorem fv_zero {x : Nat} (hx : x < 18446744073709551616) (h : fv x = 0) : x = 0 ∨ x = 9223372036854775808 := by
  by_cases h1 : x < 9223372036854775808
  · rw [(fv_lo h1).1] at h; omega
  · rw [(fv_hi (by omega) hx).1] at h; omega
theorem fv_one {x : Nat} (hx : x < 18446744073709551616) (h : fv x = 4607182418800017408) : x = 4607182418800017408 := by
  by_cases h1 : x < 9223372036854775808
  · rw [(fv_lo h1).1] at h; omega
  · rw [(fv_hi (by omega) hx).1] at h; omega
def cl1 (s : Nat) : Nat := if flLt .f64 s 0 then 0 else s
def cl2 (s : Nat) : Nat := if flGt .f64 s 4607182418800017408 then 4607182418800017408 else s
theorem min_one {s : Nat} (hs : s < 18446744073709551616) (hn : ¬ isN s) : flMin .f64 s 4607182418800017408 = some (cl2 s) := by
  unfold flMin cl2
  rw [order_at hn n1, fv1, gt_fv, decide_eq_false hn, decide_eq_false n1, fv1]
  rcases Int.lt_trichotomy (fv s) 4607182418800017408 with h | h | h
  · rw [cmp_lt h, decide_eq_false (by omega)]; rfl
  · rw [cmp_eq h, decide_eq_false (by omega)]
    have := fv_one hs h
    subst this
    rfl
  · rw [cmp_gt h, decide_eq_true (by omega)]; rfl
/-- a share held between 0 and 1: the same on both sides, but for a zero's sign -/
theorem clamp_eq {s : Nat} (hs : s < 18446744073709551616) (hn : ¬ isN s) : ∃ m, flMax .f64 s 0 = some m ∧ ∃ t, flMin .f64 m 4607182418800017408 = some t ∧ (t = cl2 (cl1 s) ∨ ((t = 0 ∨ t = 9223372036854775808) ∧ (cl2 (cl1 s) = 0 ∨ cl2 (cl1 s) = 9223372036854775808))) := by
  have hl : flLt .f64 s 0 = decide (fv s < 0) := lt0 hn
  rcases Int.lt_trichotomy (fv s) 0 with h | h | h
  · refine ⟨0, ?_, _, min_one (by decide) n0, .inl ?_⟩
    · unfold flMax
      rw [order_at hn n0, fv0, cmp_lt h]
    · unfold cl1
      rw [hl, decide_eq_true h]; rfl
  · have hz := fv_zero hs h
    have hc : cl1 s = s := by unfold cl1; rw [hl, decide_eq_false (by omega)]; rfl
    have hc2 : ∀ z, z = 0 ∨ z = 9223372036854775808 → cl2 z = z := by
      rintro z (rfl | rfl) <;> decide +kernel
    have hm : flMax .f64 s 0 = some 0 ∨ flMax .f64 s 0 = some s := by
      unfold flMax
      rw [order_at hn n0, fv0, cmp_eq h]
      dsimp only
      split
      · exact .inl rfl
      · exact .inr rfl
    rcases hm with hm | hm
    · exact ⟨0, hm, _, min_one (by decide) n0, .inr ⟨by rw [hc2 0 (.inl rfl)]; exact .inl rfl, by rw [hc, hc2 s hz]; exact hz⟩⟩
    · exact ⟨s, hm, _, min_one hs hn, .inl (by rw [hc])⟩
  · refine ⟨s, ?_, _, min_one hs hn, .inl ?_⟩
    · unfold flMax
      rw [order_at hn n0, fv0, cmp_gt h]
    · unfold cl1
      rw [hl, decide_eq_false (by omega)]; rfl
theorem smooth_alike {o x s : Nat} (ho : ¬ isN o) (hx : ¬ isN x) (hs : s < 18446744073709551616) (hn : ¬ isN s) :
    ∃ r, p_gauge_Smooth_v1 o x s = some r ∧ alike r (flOpX 0 .f64 o (flOpX 2 .f64 (flOpX 1 .f64 x o) (cl2 (cl1 s)))) = true := by
  obtain ⟨m, h1, t, h2, h3⟩ := clamp_eq hs hn
  refine ⟨flOpX 0 .f64 o (flOpX 2 .f64 (flOpX 1 .f64 x o) t), ?_, ?_⟩
  · unfold p_gauge_Smooth_v1 p_gauge_Smooth_v1.j0 joinC
    dsimp only
    rw [self_eq, self_eq, self_eq, decide_eq_false ho, decide_eq_false hx, decide_eq_false hn]
    simp only [Bool.not_false, Bool.not_true, cond_false, h1, h2, Option.bind_some]
  · rcases h3 with rfl | ⟨h3, h4⟩
    · exact alike_self _
    · rcases mul_zero (x := flOpX 1 .f64 x o) h3 with ⟨h5, h6⟩ | ⟨h5, h6⟩
      · rcases mul_zero (x := flOpX 1 .f64 x o) h4 with ⟨_, h7⟩ | ⟨h7, _⟩
        · exact add_zero ho h6 h7
        · exact absurd h5 h7
      · rcases mul_zero (x := flOpX 1 .f64 x o) h4 with ⟨h7, _⟩ | ⟨_, h7⟩
        · exact absurd h7 h5
        · rw [h6, h7]; exact alike_self _
theorem smooths_j2 {o x s w r : Nat} {l : List Nat} (hb : l.length ≤ 60) (h1 : p_gauge_Smooth_v1 o x s = some r) (h2 : alike r w = true) : p_dormouselaw04_GaugeSmooths.j2 1000 o x s l w = some true := by
  unfold p_dormouselaw04_GaugeSmooths.j2 joinC
  refine loop_count (body := fun (r : Nat × Nat × Nat × List Nat × Nat × Nat × Int → Option Bool) y => p_dormouselaw04_GaugeSmooths.b5 1000 (fun y => p_dormouselaw04_GaugeSmooths.j3 1000 y.1 y.2.1 y.2.2.1 y.2.2.2.1 y.2.2.2.2.1 y.2.2.2.2.2) r y.1 y.2.1 y.2.2.1 y.2.2.2.1 y.2.2.2.2.1 y.2.2.2.2.2.1 y.2.2.2.2.2.2) l.length 1000 (fun i => (o, x, s, l, w, (l.take i).foldl (fun n x => flOpX 0 .f64 n x) 0, (i : Int))) (by omega) (fun i hi rec => ?_) (fun rec => ?_)
  · dsimp only
    unfold p_dormouselaw04_GaugeSmooths.b5
    have ew : IntKind.wrap .i64 ((i : Int) + 1) = ((i + 1 : Nat) : Int) := by rw [wrap_i64 (by omega)]; omega
    rw [decide_eq_true (by omega), cond_true, need_yesF ⟨by omega, by omega⟩, at_getF hi, ew, List.take_succ_eq_append_getElem hi, List.foldl_append]
    rfl
  · dsimp only
    unfold p_dormouselaw04_GaugeSmooths.b5
    rw [decide_eq_false (by omega), cond_false, List.take_length]
    unfold p_dormouselaw04_GaugeSmooths.j3 p_dormouselaw04_GaugeSmooths.j4 joinC
    dsimp only
    rw [mean_eq hb, awake04, h1]
    simp only [Option.bind_some, cond_true, alike_p, h2, alike_self]
theorem smooths_j0 {o x s : Nat} {l : List Nat} (hb : l.length ≤ 60) (hs : s < 18446744073709551616) : p_dormouselaw04_GaugeSmooths.j0 1000 o x s l = some true := by
  unfold p_dormouselaw04_GaugeSmooths.j0 p_dormouselaw04_GaugeSmooths.j9 p_dormouselaw04_GaugeSmooths.j1 p_dormouselaw04_GaugeSmooths.j6 p_dormouselaw04_GaugeSmooths.j7 p_dormouselaw04_GaugeSmooths.j8 joinC
  dsimp only
  have e1 := self_eq o
  have e2 := self_eq x
  have e3 := self_eq s
  by_cases ho : isN o
  · rw [decide_eq_true ho] at e1
    rw [e1]
    simp only [Bool.not_true, cond_false]
    refine smooths_j2 (r := x) hb ?_ (alike_self _)
    unfold p_gauge_Smooth_v1 joinC
    rw [e1]; rfl
  · rw [decide_eq_false ho] at e1
    by_cases hx : isN x
    · rw [decide_eq_true hx] at e2
      rw [e1, e2]
      simp only [Bool.not_true, Bool.not_false, cond_true, cond_false]
      refine smooths_j2 (r := o) hb ?_ (alike_self _)
      unfold p_gauge_Smooth_v1 p_gauge_Smooth_v1.j0 joinC
      rw [e1, e2]; rfl
    · rw [decide_eq_false hx] at e2
      by_cases hn : isN s
      · rw [decide_eq_true hn] at e3
        rw [e1, e2, e3]
        simp only [Bool.not_true, Bool.not_false, cond_true, cond_false]
        refine smooths_j2 (r := o) hb ?_ (alike_self _)
        unfold p_gauge_Smooth_v1 p_gauge_Smooth_v1.j0 joinC
        rw [e1, e2, e3]; rfl
      · rw [decide_eq_false hn] at e3
        rw [e1, e2, e3]
        simp only [Bool.not_true, Bool.not_false, cond_true, cond_false]
        obtain ⟨r, h1, h2⟩ := smooth_alike ho hx hs hn
        have fin := smooths_j2 (l := l) hb h1 h2
        unfold cl2 cl1 at fin
        cases q1 : flLt .f64 s 0
        · rw [q1] at fin
          simp only [Bool.false_eq_true, if_false] at fin
          cases q2 : flGt .f64 s 4607182418800017408
          · rw [q2] at fin
            exact fin
          · rw [q2] at fin
            exact fin
        · rw [q1] at fin
          simp only [if_true] at fin
          exact fin
/-- the law, behind its walk -/
theorem law_GaugeSmooths (q : Nat × Nat × Nat × List Nat) (ok : okD (.pair (.flt .f64) (.pair (.flt .f64) (.pair (.flt .f64) (.sl (.flt .f64))))) q) : p_dormouselaw04_GaugeSmooths 1000 q = some true := by
  obtain ⟨o, x, s, l⟩ := q
  obtain ⟨ho, hx, hs, hl⟩ := ok
  have hs' : s < 18446744073709551616 := by
    have h : (Lit.float .f64 s).wf = true := hs
    simpa [Lit.wf] using h
  unfold p_dormouselaw04_GaugeSmooths joinC
  dsimp only
  by_cases h : l.length ≤ 60
  · rw [decide_eq_false (by omega), cond_false]
    exact smooths_j0 h hs'
  · rw [decide_eq_true (by omega), cond_true, need_yesF ⟨by omega, by omega, by omega⟩]
    have e : sub_ l (0 : Int) (60 : Int) = l.take 60 := sub_takeF l 60
    rw [e]
    exact smooths_j0 (by rw [List.length_take]; omega) hs'
end Go.Dor
end

section
/- ROUNDING: what is no more than a word's number is rounded to no more than that word. No program. -/
set_option linter.unusedVariables false
set_option linter.unusedSimpArgs false
namespace Go.Dor

theorem cut_le {n d : Nat} : Ieee.Toward.even.cut false n d ≤ n / 2 ^ (min d (n.log2 + 2)) + 1 ∧ (d ≤ n.log2 + 2 → (2 * Ieee.Toward.even.cut false n d - 1) * 2 ^ d ≤ 2 * n ∧ n / 2 ^ d ≤ Ieee.Toward.even.cut false n d) ∧ (n.log2 + 2 < d → Ieee.Toward.even.cut false n d = 0) := by
  unfold Ieee.Toward.cut
  dsimp only
  rw [Nat.one_shiftLeft]
  have hn : n < 2 ^ (n.log2 + 1) := Nat.lt_log2_self
  generalize hg : 2 ^ (min d (n.log2 + 2)) = gap
  have hpos : 0 < gap := by rw [← hg]; exact Nat.two_pow_pos _
  have hdm := Nat.div_add_mod n gap
  have hml := Nat.mod_lt n hpos
  generalize hlow : n / gap = low at *
  generalize hrest : n % gap = rest at *
  have hmore : ∀ b : Bool, b.toNat ≤ 1 := fun b => by cases b <;> decide
  refine ⟨Nat.add_le_add_left (hmore _) _, fun hd => ?_, fun hd => ?_⟩
  · rw [Nat.min_eq_left hd] at hg
    rw [hg]
    refine ⟨?_, by rw [hlow]; exact Nat.le_add_right _ _⟩
    cases hb : (decide (gap < 2 * rest) || (gap == 2 * rest && low % 2 == 1))
    · simp only [Bool.toNat_false, Nat.add_zero]
      have : 2 * low * gap ≤ 2 * n := by
        rw [Nat.mul_assoc, Nat.mul_comm low]; omega
      exact Nat.le_trans (Nat.mul_le_mul_right _ (Nat.sub_le _ _)) this
    · simp only [Bool.toNat_true]
      have h2 : gap ≤ 2 * rest := by
        rw [Bool.or_eq_true] at hb
        rcases hb with hb | hb
        · exact Nat.le_of_lt (of_decide_eq_true hb)
        · rw [Bool.and_eq_true] at hb
          exact Nat.le_of_eq (eq_of_beq hb.1)
      have e : (2 * (low + 1) - 1) * gap = 2 * (gap * low) + gap := by
        have : 2 * (low + 1) - 1 = 2 * low + 1 := by omega
        rw [this, Nat.add_mul, Nat.one_mul, Nat.mul_assoc, Nat.mul_comm low]
      rw [e]
      omega
  · rw [Nat.min_eq_right (Nat.le_of_lt hd)] at hg
    have h4 : gap = 2 * 2 ^ (n.log2 + 1) := by rw [← hg, Nat.pow_succ, Nat.mul_comm]
    have hlt : 2 * n < gap := by omega
    have h0 : low = 0 := by rw [← hlow]; exact Nat.div_eq_of_lt (by omega)
    have hr : rest = n := by rw [← hrest]; exact Nat.mod_eq_of_lt (by omega)
    rw [h0, hr]
    have b1 : decide (gap < 2 * n) = false := decide_eq_false (by omega)
    have b2 : (gap == 2 * n) = false := beq_eq_false_iff_ne.2 (by omega)
    rw [b1, b2]; rfl

theorem U_top {q k : Nat} (h1 : 4503599627370496 ≤ k) (h2 : k < 9007199254740992) : U (q * 4503599627370496 + k) = k * 2 ^ q := by
  unfold U
  rw [if_neg (by omega)]
  have e1 : (q * 4503599627370496 + k) / 4503599627370496 = q + 1 := by omega
  have e2 : (q * 4503599627370496 + k) % 4503599627370496 = k - 4503599627370496 := by omega
  have e3 : 4503599627370496 + (k - 4503599627370496) = k := by omega
  rw [e1, e2, e3, Nat.add_sub_cancel]
theorem U_low {k : Nat} (h2 : k < 9007199254740992) : U k = k := by
  by_cases h : k < 4503599627370496
  · unfold U; rw [if_pos h]
  · have := U_top (q := 0) (k := k) (by omega) h2
    simpa using this
theorem U_edge {q : Nat} : U (q * 4503599627370496 + 9007199254740991) = 9007199254740991 * 2 ^ q := U_top (by decide) (by decide)
theorem pow53 (b : Nat) : 2 ^ (53 + b) = 9007199254740992 * 2 ^ b := Nat.pow_add 2 53 b
theorem pow52 (b : Nat) : 2 ^ (52 + b) = 4503599627370496 * 2 ^ b := Nat.pow_add 2 52 b
theorem word_le (r : Nat) : Ieee.double.word false (min r Ieee.double.infRung) ≤ r := by
  have : Ieee.double.word false (min r Ieee.double.infRung) = min r Ieee.double.infRung := rfl
  rw [this]
  exact Nat.min_le_left _ _
theorem near_le {mag : Nat} {place : Int} {w K : Nat} (hK : 1074 ≤ K) (hp : 0 ≤ (K : Int) + place) (h : mag * 2 ^ ((K : Int) + place).toNat ≤ U w * 2 ^ (K - 1074)) : Ieee.double.nearest false mag place ≤ w := by
  unfold Ieee.Format.nearest
  by_cases h0 : mag = 0
  · rw [if_pos h0]
    exact Nat.zero_le _
  rw [if_neg h0]
  have hl : Ieee.double.leastPlace = -1074 := rfl
  have hf : (Ieee.double.fractionBits : Int) = 52 := rfl
  have hb : Ieee.double.binade = 4503599627370496 := rfl
  dsimp only
  rw [hl, hf, hb]
  obtain ⟨Q, hQ⟩ : ∃ Q : Nat, max (place + (mag.log2 : Int) - 52) (-1074) = (Q : Int) - 1074 := ⟨(max (place + (mag.log2 : Int) - 52) (-1074) + 1074).toNat, by omega⟩
  rw [hQ]
  have eQ : ((Q : Int) - 1074 - -1074).toNat = Q := by omega
  rw [eQ]
  generalize hA : (place - ((Q : Int) - 1074)).toNat = A
  generalize hB : ((Q : Int) - 1074 - place).toNat = B
  have hAB : (A : Int) - B = place - ((Q : Int) - 1074) := by omega
  have hAB0 : A = 0 ∨ B = 0 := by omega
  rw [Nat.shiftLeft_eq]
  have hm1 : 2 ^ mag.log2 ≤ mag := Nat.log2_self_le h0
  have hm2 : mag < 2 ^ (mag.log2 + 1) := Nat.lt_log2_self
  have hn0 : mag * 2 ^ A ≠ 0 := Nat.mul_ne_zero h0 (Nat.ne_of_gt (Nat.two_pow_pos _))
  have hcut := cut_le (n := mag * 2 ^ A) (d := B)
  have hnl : mag * 2 ^ A < 2 ^ ((mag * 2 ^ A).log2 + 1) := Nat.lt_log2_self
  have hn2 : mag * 2 ^ A < 2 ^ (mag.log2 + 1 + A) := by rw [Nat.pow_add]; exact Nat.mul_lt_mul_of_pos_right hm2 (Nat.two_pow_pos _)
  have hn1 : 2 ^ (mag.log2 + A) ≤ mag * 2 ^ A := by rw [Nat.pow_add]; exact Nat.mul_le_mul_right _ hm1
  obtain ⟨c1, c2, c3⟩ := hcut
  generalize hk : Ieee.Toward.even.cut false (mag * 2 ^ A) B = kept at *
  refine Nat.le_trans (word_le _) ?_
  by_cases hd : B ≤ (mag * 2 ^ A).log2 + 2
  · obtain ⟨c2, c4⟩ := c2 hd
    rw [Nat.min_eq_left hd] at c1
    have hlow : mag * 2 ^ A / 2 ^ B < 9007199254740992 := by
      rw [Nat.div_lt_iff_lt_mul (Nat.two_pow_pos _)]
      exact Nat.lt_of_lt_of_le hn2 (Nat.le_trans (Nat.pow_le_pow_right (by decide) (by omega)) (Nat.le_of_eq (pow53 B)))
    have hkm : kept ≤ 9007199254740992 := by omega
    -- the number in the least units
    have hu : ∀ z : Nat, 2 * z + 1 ≤ 2 * kept → 2 * (mag * 2 ^ ((K : Int) + place).toNat) > 2 * (z * 2 ^ Q * 2 ^ (K - 1074)) := by
      intro z hz
      have e1 : mag * 2 ^ ((K : Int) + place).toNat * 2 ^ B = mag * 2 ^ A * (2 ^ Q * 2 ^ (K - 1074)) := by
        have e0 : ((K : Int) + place).toNat + B = A + (Q + (K - 1074)) := by omega
        rw [Nat.mul_assoc, Nat.mul_assoc, ← Nat.pow_add, ← Nat.pow_add, ← Nat.pow_add, e0]
      have pb : 0 < 2 ^ B := Nat.two_pow_pos _
      have pq : 0 < 2 ^ Q * 2 ^ (K - 1074) := Nat.mul_pos (Nat.two_pow_pos _) (Nat.two_pow_pos _)
      have e2 : (2 * z + 1) * 2 ^ B ≤ 2 * (mag * 2 ^ A) := by
        refine Nat.le_trans (Nat.mul_le_mul_right _ ?_) c2
        omega
      have e3 : (2 * z + 1) * 2 ^ B * (2 ^ Q * 2 ^ (K - 1074)) ≤ 2 * (mag * 2 ^ ((K : Int) + place).toNat) * 2 ^ B := by
        rw [Nat.mul_assoc 2, e1, ← Nat.mul_assoc 2]
        exact Nat.mul_le_mul_right _ e2
      have e4 : (2 * z + 1) * (2 ^ Q * 2 ^ (K - 1074)) ≤ 2 * (mag * 2 ^ ((K : Int) + place).toNat) := by
        refine Nat.le_of_mul_le_mul_right ?_ pb
        calc (2 * z + 1) * (2 ^ Q * 2 ^ (K - 1074)) * 2 ^ B = (2 * z + 1) * 2 ^ B * (2 ^ Q * 2 ^ (K - 1074)) := by rw [Nat.mul_assoc, Nat.mul_comm (2 ^ Q * 2 ^ (K - 1074)), ← Nat.mul_assoc]
          _ ≤ _ := e3
      have e5 : 2 * (z * 2 ^ Q * 2 ^ (K - 1074)) = 2 * z * (2 ^ Q * 2 ^ (K - 1074)) := by rw [Nat.mul_assoc z, ← Nat.mul_assoc 2]
      rw [e5]
      refine Nat.lt_of_lt_of_le (Nat.mul_lt_mul_of_pos_right (Nat.lt_succ_self _) pq) e4
    refine Nat.le_of_not_lt fun hw => ?_
    have fin : ∀ z : Nat, 2 * z + 1 ≤ 2 * kept → U (Q * 4503599627370496 + kept - 1) = z * 2 ^ Q → False := by
      intro z hz hU
      have h1 : U w ≤ U (Q * 4503599627370496 + kept - 1) := by
        rcases Nat.lt_or_ge w (Q * 4503599627370496 + kept - 1) with q | q
        · exact Nat.le_of_lt (U_mono q)
        · have : w = Q * 4503599627370496 + kept - 1 := by omega
          rw [this]; exact Nat.le_refl _
      have h2 := hu z hz
      have h3 : U w * 2 ^ (K - 1074) ≤ z * 2 ^ Q * 2 ^ (K - 1074) := by
        rw [← hU]; exact Nat.mul_le_mul_right _ h1
      omega
    by_cases hQ0 : Q = 0
    · subst hQ0
      have hk1 : 1 ≤ kept := by omega
      refine fin (kept - 1) (by omega) ?_
      rw [Nat.zero_mul, Nat.zero_add, U_low (by omega), Nat.pow_zero, Nat.mul_one]
    · -- the number is a full one
      have hfull : 4503599627370496 ≤ mag * 2 ^ A / 2 ^ B := by
        rw [Nat.le_div_iff_mul_le (Nat.two_pow_pos _)]
        exact Nat.le_trans (Nat.le_of_eq (pow52 B).symm) (Nat.le_trans (Nat.pow_le_pow_right (by decide) (by omega)) hn1)
      by_cases hk52 : kept = 4503599627370496
      · -- below it stands the last word of the binade below
        have eU : U (Q * 4503599627370496 + kept - 1) = 9007199254740991 * 2 ^ (Q - 1) := by
          have e : Q * 4503599627370496 + kept - 1 = (Q - 1) * 4503599627370496 + 9007199254740991 := by omega
          rw [e]
          exact U_edge
        have h1 : U w ≤ U (Q * 4503599627370496 + kept - 1) := by
          rcases Nat.lt_or_ge w (Q * 4503599627370496 + kept - 1) with q | q
          · exact Nat.le_of_lt (U_mono q)
          · have : w = Q * 4503599627370496 + kept - 1 := by omega
            rw [this]; exact Nat.le_refl _
        rw [eU] at h1
        have e1 : mag * 2 ^ ((K : Int) + place).toNat * 2 ^ B = mag * 2 ^ A * (2 ^ Q * 2 ^ (K - 1074)) := by
          have e0 : ((K : Int) + place).toNat + B = A + (Q + (K - 1074)) := by omega
          rw [Nat.mul_assoc, Nat.mul_assoc, ← Nat.pow_add, ← Nat.pow_add, ← Nat.pow_add, e0]
        have e2 : 4503599627370496 * 2 ^ B ≤ mag * 2 ^ A := (Nat.le_div_iff_mul_le (Nat.two_pow_pos _)).1 hfull
        have e3 : 4503599627370496 * (2 ^ Q * 2 ^ (K - 1074)) ≤ mag * 2 ^ ((K : Int) + place).toNat := by
          refine Nat.le_of_mul_le_mul_right ?_ (Nat.two_pow_pos B)
          rw [e1]
          calc 4503599627370496 * (2 ^ Q * 2 ^ (K - 1074)) * 2 ^ B = 4503599627370496 * 2 ^ B * (2 ^ Q * 2 ^ (K - 1074)) := by rw [Nat.mul_assoc, Nat.mul_comm (2 ^ Q * 2 ^ (K - 1074)), ← Nat.mul_assoc]
            _ ≤ _ := Nat.mul_le_mul_right _ e2
        have e4 : 2 ^ Q = 2 * 2 ^ (Q - 1) := by
          have : Q = (Q - 1) + 1 := by omega
          conv => lhs; rw [this, Nat.pow_succ, Nat.mul_comm]
        have e5 : U w * 2 ^ (K - 1074) ≤ 9007199254740991 * 2 ^ (Q - 1) * 2 ^ (K - 1074) := Nat.mul_le_mul_right _ h1
        have e6 : 4503599627370496 * (2 ^ Q * 2 ^ (K - 1074)) = 9007199254740992 * (2 ^ (Q - 1) * 2 ^ (K - 1074)) := by
          rw [e4, Nat.mul_assoc 2, ← Nat.mul_assoc 4503599627370496]
        have e7 : 9007199254740991 * 2 ^ (Q - 1) * 2 ^ (K - 1074) = 9007199254740991 * (2 ^ (Q - 1) * 2 ^ (K - 1074)) := Nat.mul_assoc _ _ _
        have pq : 0 < 2 ^ (Q - 1) * 2 ^ (K - 1074) := Nat.mul_pos (Nat.two_pow_pos _) (Nat.two_pow_pos _)
        rw [e6] at e3
        rw [e7] at e5
        generalize 2 ^ (Q - 1) * 2 ^ (K - 1074) = Z at *
        omega
      · refine fin (kept - 1) (by omega) ?_
        have : Q * 4503599627370496 + kept - 1 = Q * 4503599627370496 + (kept - 1) := by omega
        rw [this, U_top (by omega) (by omega)]
  · -- far below the least word
    have hk0 := c3 (by omega)
    have hA0 : A = 0 := by omega
    have hQ0 : Q = 0 := by
      have hlg : mag.log2 ≤ (mag * 2 ^ A).log2 := by rw [hA0, Nat.pow_zero, Nat.mul_one]; exact Nat.le_refl _
      omega
    simp only [hk0, hQ0, Nat.zero_mul, Nat.add_zero, Nat.zero_le]
end Go.Dor
end

section
/- GaugeShares, BEHIND ITS WALK: quotients, and that a part's share is no more than 1. -/
set_option linter.unusedVariables false
set_option linter.unusedSimpArgs false
namespace Go.Dor
open Go.Proofs

theorem fv_pos {x : Nat} (hx : x < 18446744073709551616) (h : 0 < fv x) : x < 9223372036854775808 ∧ fv x = (x : Int) ∧ rg x = x ∧ ng x = false ∧ 0 < x := by
  by_cases h1 : x < 9223372036854775808
  · obtain ⟨e1, e2⟩ := fv_lo h1
    refine ⟨h1, e1, e2, ?_, by omega⟩
    unfold ng
    rw [Nat.div_eq_of_lt h1]; rfl
  · rw [(fv_hi (by omega) hx).1] at h; omega
theorem read_pos {x : Nat} (hx : x < 18446744073709551616) (h : 0 < fv x) (hf : isF x) : ∃ m a : Nat, Ieee.double.read x = .number false m (-1074 + (a : Int)) ∧ m * 2 ^ a = U x ∧ m ≠ 0 := by
  obtain ⟨h1, h2, h3, h4, h5⟩ := fv_pos hx h
  obtain ⟨m, a, e, ha⟩ := read_F hf
  rw [h4] at e
  rw [h3] at ha
  refine ⟨m, a, e, ha, ?_⟩
  rintro rfl
  have := U_mono h5
  rw [U_zero, ← ha] at this
  omega
theorem word_inf (s : Bool) : Ieee.double.write (.infinity s) = if s then 18442240474082181120 else 9218868437227405312 := by cases s <;> rfl
theorem quo_def (x y : Nat) : flOp 3 .f64 x y = ((Ieee.double.read x).quotient 54 (Ieee.double.read y)).map Ieee.double.write := rfl
/-- a zero by a number -/
theorem quo_zero {z w : Nat} (hz : z = 0 ∨ z = 9223372036854775808) (hw : w < 18446744073709551616) (h : 0 < fv w) (hf : isF w) : ∃ q, flOp 3 .f64 z w = some q ∧ (q = 0 ∨ q = 9223372036854775808) := by
  obtain ⟨n, b, e, hb, hn⟩ := read_pos hw h hf
  rw [quo_def, read_zero z hz, e]
  have : (Ieee.Datum.number (ng z) 0 (-1074)).quotient 54 (.number false n (-1074 + (b : Int))) = some (.number (ng z ^^ false) 0 (-1074 - (-1074 + (b : Int)) - (54 + n.log2 - (0 : Nat).log2 : Nat) - 1)) := by
    unfold Ieee.Datum.quotient
    dsimp only
    rw [if_neg hn]
    simp
  rw [this]
  exact ⟨_, rfl, near_zero _ _⟩
theorem quo_inf {x w : Nat} (hx : x < 18446744073709551616) (hp : 0 < fv x) (hi : isI x) (hw : w < 18446744073709551616) (h : 0 < fv w) (hf : isF w) : flOp 3 .f64 x w = some 9218868437227405312 := by
  obtain ⟨n, b, e, hb, hn⟩ := read_pos hw h hf
  rw [quo_def, read_I hi, e, (fv_pos hx hp).2.2.2.1]
  rfl
theorem quo_by_zero {x : Nat} (hx : x < 18446744073709551616) (hp : 0 < fv x) (hn : ¬ isN x) : flOp 3 .f64 x 0 = some 9218868437227405312 := by
  by_cases hi : isI x
  · rw [quo_def, read_I hi, (fv_pos hx hp).2.2.2.1]
    rfl
  · have hf : isF x := by unfold isN isI isF at *; omega
    obtain ⟨m, a, e, ha, hm⟩ := read_pos hx hp hf
    have e2 : (Ieee.Datum.number false m (-1074 + (a : Int))).quotient 54 (.number (ng 0) 0 (-1074)) = some (.infinity (false ^^ ng 0)) := by
      unfold Ieee.Datum.quotient
      dsimp only
      rw [if_pos rfl, if_neg hm]
    rw [quo_def, e, read_zero 0 (.inl rfl), e2]
    rfl
theorem word_top (r : Nat) : Ieee.double.word false (min r Ieee.double.infRung) ≤ 9218868437227405312 := by
  have : Ieee.double.word false (min r Ieee.double.infRung) = min r Ieee.double.infRung := rfl
  rw [this]
  exact Nat.min_le_right _ _
theorem near_word {m : Nat} {p : Int} : Ieee.double.nearest false m p ≤ 9218868437227405312 := by
  unfold Ieee.Format.nearest
  split
  · exact Nat.zero_le _
  · exact word_top _
theorem U_one {E : Nat} (h : E = 1074) : U 4607182418800017408 = 2 ^ E := by
  obtain ⟨q, hq⟩ : ∃ q, E = 52 + q := ⟨E - 52, by omega⟩
  have e1 : 4607182418800017408 = q * 4503599627370496 + 4503599627370496 := by omega
  rw [e1, U_top (by decide) (by decide), hq, pow52]
/-- two numbers: a word of no sign; no more than 1 where the one is no more than the other -/
theorem quo_fin {x w : Nat} (hx : x < 18446744073709551616) (hp : 0 < fv x) (hfx : isF x) (hw : w < 18446744073709551616) (h : 0 < fv w) (hf : isF w) :
    ∃ q, flOp 3 .f64 x w = some q ∧ q ≤ 9218868437227405312 ∧ (fv x ≤ fv w → q ≤ 4607182418800017408) := by
  obtain ⟨m, a, e1, ha, hm⟩ := read_pos hx hp hfx
  obtain ⟨n, b, e2, hb, hn⟩ := read_pos hw h hf
  obtain ⟨_, f1, _, _, _⟩ := fv_pos hx hp
  obtain ⟨_, f2, _, _, _⟩ := fv_pos hw h
  rw [quo_def, e1, e2]
  generalize hmore : 54 + n.log2 - m.log2 = more
  have e : (Ieee.Datum.number false m (-1074 + (a : Int))).quotient 54 (.number false n (-1074 + (b : Int))) = some (.number false (2 * (m * 2 ^ more / n) + (m * 2 ^ more % n != 0).toNat) (-1074 + (a : Int) - (-1074 + (b : Int)) - more - 1)) := by
    unfold Ieee.Datum.quotient
    dsimp only
    rw [if_neg hn, hmore, Nat.shiftLeft_eq]
    rfl
  rw [e]
  refine ⟨_, rfl, near_word, fun hle => ?_⟩
  have hU : U x ≤ U w := by
    rw [f1, f2] at hle
    rcases Nat.lt_or_ge x w with q | q
    · exact Nat.le_of_lt (U_mono q)
    · have : x = w := by omega
      rw [this]; exact Nat.le_refl _
  rw [← ha, ← hb] at hU
  have pn : 0 < n := Nat.pos_of_ne_zero hn
  -- the dividend is no less than the divisor
  have hD : n ≤ m * 2 ^ more := by
    have h1 : n < 2 ^ (n.log2 + 1) := Nat.lt_log2_self
    have h2 : 2 ^ m.log2 ≤ m := Nat.log2_self_le hm
    have h3 : 2 ^ (m.log2 + more) ≤ m * 2 ^ more := by rw [Nat.pow_add]; exact Nat.mul_le_mul_right _ h2
    have h4 : 2 ^ (n.log2 + 1) ≤ 2 ^ (m.log2 + more) := Nat.pow_le_pow_right (by decide) (by omega)
    omega
  have hM : m * 2 ^ more * 2 ^ a ≤ n * 2 ^ (b + more) := by
    rw [Nat.pow_add, ← Nat.mul_assoc, Nat.mul_right_comm]
    exact Nat.mul_le_mul_right _ hU
  generalize m * 2 ^ more = D at *
  have hab : a ≤ b + more := by
    refine Nat.le_of_not_lt fun hlt => ?_
    have h1 : n * 2 ^ (b + more + 1) ≤ D * 2 ^ a := Nat.mul_le_mul hD (Nat.pow_le_pow_right (by decide) hlt)
    have h2 : n * 2 ^ (b + more) < n * 2 ^ (b + more + 1) := Nat.mul_lt_mul_of_pos_left (by rw [Nat.pow_succ]; have := Nat.two_pow_pos (b + more); omega) pn
    omega
  obtain ⟨t, ht⟩ : ∃ t, b + more = a + t := ⟨b + more - a, by omega⟩
  have hD2 : D ≤ n * 2 ^ t := by
    rw [ht, Nat.pow_add, Nat.mul_comm (2 ^ a), ← Nat.mul_assoc] at hM
    exact Nat.le_of_mul_le_mul_right hM (Nat.two_pow_pos _)
  have hmag : 2 * (D / n) + (D % n != 0).toNat ≤ 2 ^ (t + 1) := by
    have h1 : D / n ≤ 2 ^ t := by
      have := Nat.div_le_div_right (c := n) hD2
      rwa [Nat.mul_div_cancel_left _ pn] at this
    have h3 := Nat.div_add_mod D n
    rw [Nat.pow_succ]
    by_cases h2 : D / n = 2 ^ t
    · have : D % n = 0 := by
        rw [h2] at h3
        omega
      rw [this, h2]
      simp; omega
    · have : (D % n != 0).toNat ≤ 1 := by cases (D % n != 0) <;> decide
      omega
  obtain ⟨E, hE⟩ : ∃ E : Nat, E = 1074 := ⟨_, rfl⟩
  refine near_le (K := E + (t + 1)) (by omega) (by omega) ?_
  have ep : ((E + (t + 1) : Nat) : Int) + (-1074 + (a : Int) - (-1074 + (b : Int)) - (more : Int) - 1) = (E : Int) := by omega
  have eq : E + (t + 1) - 1074 = t + 1 := by omega
  rw [ep, Int.toNat_natCast, U_one hE, eq, Nat.mul_comm (2 ^ E)]
  exact Nat.mul_le_mul_right _ hmag

theorem ge0 (x : Nat) : (flGt .f64 x 0 || flEq .f64 x 0) = (!decide (isN x) && decide (0 ≤ fv x)) := by
  by_cases hn : isN x
  · rw [gt_fv, eq_fv, decide_eq_true hn]; rfl
  · rw [gt0 hn, eq0 hn, decide_eq_false hn]
    by_cases h1 : 0 < fv x
    · rw [decide_eq_true h1, decide_eq_true (show 0 ≤ fv x by omega)]; rfl
    · by_cases h2 : fv x = 0
      · rw [decide_eq_true h2, decide_eq_true (show 0 ≤ fv x by omega)]; simp
      · rw [decide_eq_false h1, decide_eq_false h2, decide_eq_false (show ¬ 0 ≤ fv x by omega)]; rfl
theorem plus_eq {x : Nat} (hn : ¬ isN x) : p_gauge_plus x = some (if fv x = 0 then 0 else x) := by
  unfold p_gauge_plus
  rw [eq0 hn]
  by_cases h : fv x = 0
  · rw [decide_eq_true h, if_pos h]; rfl
  · rw [decide_eq_false h, if_neg h]; rfl
/-- where there is no share -/
theorem share_none {p w : Nat} (h : isN p ∨ isN w ∨ fv p < 0 ∨ fv w < 0 ∨ (isI w ∧ 0 < fv w)) : p_gauge_Share p w = some 9221120237041090561 := by
  unfold p_gauge_Share p_gauge_Share.j0 joinC
  dsimp only
  rw [ge0, ge0]
  have e : p_gauge_none = some 9221120237041090561 := rfl
  by_cases h1 : isN p ∨ fv p < 0
  · have : (!decide (isN p) && decide (0 ≤ fv p)) = false := by
      rcases h1 with h1 | h1
      · rw [decide_eq_true h1]; rfl
      · rw [decide_eq_false (show ¬ 0 ≤ fv p by omega), Bool.and_false]
    rw [this, e]; rfl
  · have h1' : ¬ isN p ∧ 0 ≤ fv p := ⟨fun q => h1 (.inl q), Int.not_lt.1 fun q => h1 (.inr q)⟩
    rw [decide_eq_false h1'.1, decide_eq_true h1'.2]
    by_cases h2 : isN w ∨ fv w < 0
    · have : (!decide (isN w) && decide (0 ≤ fv w)) = false := by
        rcases h2 with h2 | h2
        · rw [decide_eq_true h2]; rfl
        · rw [decide_eq_false (show ¬ 0 ≤ fv w by omega), Bool.and_false]
      rw [this, e]; rfl
    · have h2' : ¬ isN w ∧ 0 ≤ fv w := ⟨fun q => h2 (.inl q), Int.not_lt.1 fun q => h2 (.inr q)⟩
      have h3 : isI w ∧ 0 < fv w := by
        rcases h with q | q | q | q | q
        · exact absurd (.inl q) h1
        · exact absurd (.inl q) h2
        · exact absurd (.inr q) h1
        · exact absurd (.inr q) h2
        · exact q
      have h4 : 9218868437227405311 < fv w := by
        have h5 := h3.1
        have h6 := h3.2
        unfold isI at h5
        unfold fv at h6 ⊢
        rw [h5] at h6 ⊢
        cases q : ng w
        · rw [q] at h6; simp
        · rw [q] at h6; simp at h6
      rw [decide_eq_false h2'.1, decide_eq_true h2'.2, isInf_p h2'.1, decide_eq_true h4, e]; rfl
theorem share_some {p w : Nat} (hp : ¬ isN p) (hw : ¬ isN w) (h1 : 0 ≤ fv p) (h2 : 0 ≤ fv w) (hi : ¬ isI w) :
    p_gauge_Share p w = if fv p = 0 ∧ fv w = 0 then some 0 else flOp 3 .f64 (if fv p = 0 then 0 else p) (if fv w = 0 then 0 else w) := by
  unfold p_gauge_Share p_gauge_Share.j0 p_gauge_Share.j1 joinC
  dsimp only
  have h4 : ¬ 9218868437227405311 < fv w := by
    intro h
    unfold isN at hw
    unfold isI at hi
    unfold fv at h
    cases q : ng w
    · rw [q] at h; simp at h; omega
    · rw [q] at h; simp at h; omega
  rw [ge0, ge0, decide_eq_false hp, decide_eq_false hw, decide_eq_true h1, decide_eq_true h2, isInf_p hw, decide_eq_false h4, plus_eq hp, plus_eq hw, eq0 hp, eq0 hw]
  have eb : ∀ o : Option Nat, (o.bind fun t => some t) = o := fun o => by cases o <;> rfl
  simp only [Bool.not_false, Bool.not_true, Bool.and_true, cond_false, Option.bind_some, eb]
  by_cases q1 : fv p = 0
  · by_cases q2 : fv w = 0
    · simp [q1, q2]
    · simp [q1, q2]
  · simp [q1]
theorem fv_word {q : Nat} (h : q ≤ 9218868437227405312) : ¬ isN q ∧ fv q = (q : Int) := by
  obtain ⟨e1, e2⟩ := fv_lo (x := q) (by omega)
  refine ⟨?_, e1⟩
  unfold isN
  rw [e2]; omega
theorem le1 {q : Nat} (h : ¬ isN q) : (flLt .f64 q 4607182418800017408 || flEq .f64 q 4607182418800017408) = decide (fv q ≤ 4607182418800017408) := by
  rw [lt_fv, eq_fv, decide_eq_false h, decide_eq_false n1, fv1]
  simp only [Bool.not_false, Bool.true_and]
  by_cases h1 : fv q < 4607182418800017408
  · rw [decide_eq_true h1, decide_eq_true (show fv q ≤ 4607182418800017408 by omega)]; rfl
  · by_cases h2 : fv q = 4607182418800017408
    · rw [decide_eq_true h2, decide_eq_true (show fv q ≤ 4607182418800017408 by omega)]; simp
    · rw [decide_eq_false h1, decide_eq_false h2, decide_eq_false (show ¬ fv q ≤ 4607182418800017408 by omega)]; rfl
theorem le2 {x y : Nat} (hx : ¬ isN x) (hy : ¬ isN y) : (flLt .f64 x y || flEq .f64 x y) = decide (fv x ≤ fv y) := by
  rw [lt_fv, eq_fv, decide_eq_false hx, decide_eq_false hy]
  simp only [Bool.not_false, Bool.true_and]
  by_cases h1 : fv x < fv y
  · rw [decide_eq_true h1, decide_eq_true (show fv x ≤ fv y by omega)]; rfl
  · by_cases h2 : fv x = fv y
    · rw [decide_eq_true h2, decide_eq_true (show fv x ≤ fv y by omega)]; simp
    · rw [decide_eq_false h1, decide_eq_false h2, decide_eq_false (show ¬ fv x ≤ fv y by omega)]; rfl
theorem alike_q (x y : Nat) : p_dormouseref04_Alike x y = some (alike x y) := by
  unfold p_dormouseref04_Alike p_dormouseref04_Alike.j0 joinC alike
  dsimp only
  cases flEq .f64 x y <;> cases flEq .f64 x x <;> rfl
/-- where both are numbers: what the last line asks of a share s and the quotient q -/
theorem shares_last {p w s q : Nat} (hp : ¬ isN p) (hw : ¬ isN w) (hq : flOp 3 .f64 p w = some q) (h1 : alike s q = true) (h2 : ¬ isN s ∧ 0 ≤ fv s) (h3 : fv p ≤ fv w → fv s ≤ 4607182418800017408) (hz : ¬ fv w = 0) :
    p_dormouselaw04_GaugeShares.j2 1000 p w s false = some true := by
  unfold p_dormouselaw04_GaugeShares.j2 p_dormouselaw04_GaugeShares.j5 joinC
  dsimp only
  rw [cond_false, eq0 hw, decide_eq_false hz, awake04, hq]
  simp only [cond_false, cond_true, Option.bind_some, alike_q, h1, ge0, decide_eq_false h2.1, decide_eq_true h2.2, Bool.not_false, Bool.and_true, le2 hp hw, le1 h2.1]
  by_cases h : fv p ≤ fv w
  · rw [decide_eq_true h, decide_eq_true (h3 h)]; rfl
  · rw [decide_eq_false h]; rfl
/-- the law, behind its walk -/
theorem law_GaugeShares (p w : Nat) (okp : okD (.flt .f64) p) (okw : okD (.flt .f64) w) : p_dormouselaw04_GaugeShares 1000 p w = some true := by
  have bp : p < 18446744073709551616 := by
    have h : (Lit.float .f64 p).wf = true := okp
    simpa [Lit.wf] using h
  have bw : w < 18446744073709551616 := by
    have h : (Lit.float .f64 w).wf = true := okw
    simpa [Lit.wf] using h
  unfold p_dormouselaw04_GaugeShares joinC
  dsimp only
  have jn : ∀ s, isN s → p_dormouselaw04_GaugeShares.j0 1000 p w s true = some true := by
    intro s hs
    unfold p_dormouselaw04_GaugeShares.j0 p_dormouselaw04_GaugeShares.j1 joinC
    dsimp only
    rw [awake04, self_eq, decide_eq_true hs]; rfl
  have hnan : isN 9221120237041090561 := by decide
  rw [self_eq, self_eq, infinite_eq]
  by_cases h1 : isN p
  · rw [share_none (.inl h1), Option.bind_some, decide_eq_true h1]
    simp only [Bool.not_true, Bool.not_false, cond_true, cond_false, Option.bind_some]
    exact jn _ hnan
  · by_cases h2 : isN w
    · rw [share_none (.inr (.inl h2)), Option.bind_some, decide_eq_false h1, decide_eq_true h2]
      simp only [Bool.not_true, Bool.not_false, cond_true, cond_false, Option.bind_some]
      exact jn _ hnan
    · rw [lt0 h1, lt0 h2, decide_eq_false h1, decide_eq_false h2]
      by_cases h3 : fv p < 0
      · rw [share_none (.inr (.inr (.inl h3))), Option.bind_some, decide_eq_true h3]
        simp only [Bool.not_true, Bool.not_false, cond_true, cond_false, Option.bind_some]
        exact jn _ hnan
      · by_cases h4 : fv w < 0
        · rw [share_none (.inr (.inr (.inr (.inl h4)))), Option.bind_some, decide_eq_false h3, decide_eq_true h4]
          simp only [Bool.not_true, Bool.not_false, cond_true, cond_false, Option.bind_some]
          exact jn _ hnan
        · rw [decide_eq_false h3, decide_eq_false h4]
          by_cases h5 : isI w
          · have h6 : 0 < fv w := by
              have h5' := h5
              unfold isI at h5'
              unfold fv at h4 ⊢
              rw [h5'] at h4 ⊢
              cases q : ng w
              · simp
              · rw [q] at h4; simp at h4
            rw [share_none (.inr (.inr (.inr (.inr ⟨h5, h6⟩)))), Option.bind_some, decide_eq_true h5]
            simp only [Bool.not_true, Bool.not_false, cond_true, cond_false, Option.bind_some]
            exact jn _ hnan
          · have hfw : isF w := by unfold isN isI isF at *; omega
            rw [decide_eq_false h5, share_some h1 h2 (by omega) (by omega) h5]
            unfold p_dormouselaw04_GaugeShares.j0 joinC
            dsimp only
            rw [eq0 h1, eq0 h2]
            simp only [Bool.not_false, Bool.not_true, cond_false, Option.bind_some]
            by_cases z1 : fv p = 0
            · by_cases z2 : fv w = 0
              · rw [if_pos ⟨z1, z2⟩, decide_eq_true z1, decide_eq_true z2]
                unfold p_dormouselaw04_GaugeShares.j2 p_dormouselaw04_GaugeShares.j3 joinC
                simp only [Option.bind_some, cond_true, awake04, same_eq]
                rfl
              · have pw : 0 < fv w := by omega
                rw [if_neg (fun q => z2 q.2), if_pos z1, if_neg z2, decide_eq_true z1, decide_eq_false z2]
                obtain ⟨q, e1, e2⟩ := quo_zero (.inl rfl) bw pw hfw
                obtain ⟨q', e3, e4⟩ := quo_zero (fv_zero bp z1) bw pw hfw
                have hq : ∀ z, z = 0 ∨ z = 9223372036854775808 → ¬ isN z ∧ fv z = 0 := by
                  rintro z (rfl | rfl) <;> exact ⟨by decide, rfl⟩
                rw [e1]
                simp only [Option.bind_some, cond_true]
                refine shares_last h1 h2 e3 ?_ ⟨(hq q e2).1, by rw [(hq q e2).2]; exact Int.le_refl _⟩ (fun _ => by rw [(hq q e2).2]; decide) z2
                unfold alike
                rw [eq_fv, decide_eq_false (hq q e2).1, decide_eq_false (hq q' e4).1, (hq q e2).2, (hq q' e4).2]; rfl
            · have pp : 0 < fv p := by omega
              rw [if_neg (fun q => z1 q.1), if_neg z1, decide_eq_false z1]
              simp only [cond_false]
              by_cases z2 : fv w = 0
              · rw [if_pos z2, quo_by_zero bp pp h1, Option.bind_some]
                unfold p_dormouselaw04_GaugeShares.j2 p_dormouselaw04_GaugeShares.j4 joinC
                dsimp only
                rw [eq0 h2, decide_eq_true z2, awake04, infinite_eq]
                have : isI 9218868437227405312 := by decide
                rw [decide_eq_true this, gt0 (by decide)]
                rfl
              · have pw : 0 < fv w := by omega
                rw [if_neg z2]
                by_cases hi : isI p
                · rw [quo_inf bp pp hi bw pw hfw, Option.bind_some]
                  refine shares_last h1 h2 (quo_inf bp pp hi bw pw hfw) (alike_self _) ⟨by decide, by decide⟩ (fun hle => ?_) z2
                  exfalso
                  have e1 := (fv_pos bp pp).2.1
                  have e2 := (fv_pos bw pw).2.1
                  have e3 := (fv_pos bp pp).2.2.1
                  have e4 := (fv_pos bw pw).2.2.1
                  unfold isI at hi
                  unfold isF at hfw
                  omega
                · have hfp : isF p := by unfold isN isI isF at *; omega
                  obtain ⟨q, e1, e2, e3⟩ := quo_fin bp pp hfp bw pw hfw
                  rw [e1, Option.bind_some]
                  obtain ⟨k1, k2⟩ := fv_word e2
                  exact shares_last h1 h2 e1 (alike_self _) ⟨k1, by omega⟩ (fun hle => by have := e3 hle; omega) z2
end Go.Dor
end

section
/- GaugeShares AT EVERY INPUT: true; each argument reads behind the call as it read before. No condition but the row's own. -/
namespace Go.Proofs.Ytkffblmobccedaa
open Go.ChangeShapes Go.WideShapes Go.ChangeAt Go.RowKit

theorem gaugeShares_ownNone : ownKnob Try.prog.godebug = none := by kernel_rfl
theorem gaugeShares_laidOk : laidOutB Try.prog = true := by kernel_rfl
set_option maxRecDepth 100000 in
theorem gaugeShares_lifted (os : Os) (started : os.Started) (H : Type) (enc : TypeId × Value → H) :
    ReturnsInHanded {} Try.checked os 6 .any (Rows.gaugeSharesSpec.pre6 enc Try.prog Try.f6 Rows.gaugeSharesRow.domain false) (Rows.gaugeSharesSpec.post enc Try.prog Try.f6 false true false false) := by
  refine returnsInHanded_of_change_sized (C := Try.checked) gaugeShares_ownNone started (by kernel_rfl) Try.func6
    (ChangeSpec.witness6 (enc := enc) (C := Try.checked) false ⟨#[], #[.float .f64 0, .float .f64 0], []⟩ 8 (by kernel_rfl) (by kernel_rfl) (by kernel_rfl) (by kernel_rfl)) ?_
  intro W base args ds gs before hval0 hW _ _ _
  have hval : ∀ (j : Nat) t v, Try.f6.params[j]? = some t → args[j]? = some v → Value.okWide Try.prog W .any base t v := hval0
  have hW' := hW
  obtain ⟨p, q, hA0, hV, rfl, _, _⟩ := hW
  have hA : DataW.TrodAll enc Try.prog W 0 (fun _ => true) true Try.f6.params.toList args.toList ds p := hA0
  have hA2 := hA
  rw [Try.params6] at hA hval
  obtain ⟨rfl, rfl⟩ := trodVars_none hV
  simp only [List.append_nil] at hW'
  have hlt : ∀ x ∈ p, x.block < W.heap.size := fun x hx => by simpa using hW'.lt x hx
  obtain ⟨v0, v1, d0, d1, p0, p1, rfl, rfl, rfl, h0, h1⟩ := trodAll_two hA
  obtain ⟨a0, r0, k0⟩ := Dor.arg_rv (c := .flt .f64) (by kernel_rfl) h0 (by kernel_rfl) (by kernel_rfl) (hval 0 _ v0 rfl rfl)
  obtain ⟨a1, r1, k1⟩ := Dor.arg_rv (c := .flt .f64) (by kernel_rfl) h1 (by kernel_rfl) (by kernel_rfl) (hval 1 _ v1 rfl rfl)
  have hk := Dor.law_GaugeShares a0 a1 k0 k1
  refine (Dor.law_calls (Dor.s_dormouselaw04_GaugeShares 1000) (vals := [v0, v1]) (x := (a0, a1)) (w := W) ⟨r0, r1, trivial⟩ hk).mono fun e W' ⟨he, hnx⟩ => ⟨_, he, ?_⟩
  refine ⟨_, _, _, [] ++ [], p0 ++ p1, [], hW', trodAll_mk1 (shut_bool (by kernel_rfl) true), ?_, rfl, hnx.frame _, fun h => by cases h⟩
  exact Dor.trodAll_stays gaugeShares_laidOk hnx (by decide +kernel) hA2 hlt

theorem gaugeShares_holds : Rows.GaugeSharesSaid :=
  OpenClaim.holds_of_wide 6 Try.f6 rfl rfl rfl rfl rfl rfl rfl ⟨rfl, rfl, rfl, rfl, rfl⟩ rfl rfl rfl rfl rfl (by kernel_rfl) Try.func6 (by kernel_rfl)
    (of_decide_eq_true (by kernel_rfl)) (by unfold Func.isWrapper; first | (rw [if_pos (by decide +kernel)]; kernel_rfl) | (rw [if_neg (by decide +kernel)]; exact ⟨rfl, rfl⟩))
    (fun os started H enc _ => gaugeShares_lifted os started H enc)

end Go.Proofs.Ytkffblmobccedaa
end
