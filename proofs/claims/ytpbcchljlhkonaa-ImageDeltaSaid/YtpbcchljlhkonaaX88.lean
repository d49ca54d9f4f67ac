/- THE ROW, AND WHAT IT STANDS ON: the texts Ee Ef Eg Ei Wf Ej Zm R8, one behind the other. -/
import Derived.Test.YtpbcchljlhkonaaX87
import Derived.KernelRfl
import Derived.Test.YtpbcchljlhkonaaX86
import Derived.WideShapes
import Derived.Test.YtpbcchljlhkonaaRows
import Derived.ProofKit
import Derived.SizedLaws
section
/- THE RECORDS OF A TEXT, THE TEXT OF RECORDS: behind the walk, on both sides. -/
set_option linter.unusedVariables false
set_option linter.unusedSimpArgs false
namespace Go.Dor.Fd
open Go.Proofs Go.Dor
variable {m : Nat}

theorem getB_nil (f : Nat) : getB (f + 1) [] = ([], 0) := rfl
theorem getB_s4 {f : Nat} {s : List UInt8} (h0 : s ≠ []) (h : s.length < 4) : getB (f + 1) s = ([], 5) := by
  unfold getB; rw [if_neg h0, if_pos h]
theorem getB_s5 {f : Nat} {s : List UInt8} (h0 : s ≠ []) (h : ¬ s.length < 4) (h2 : valB (s.take 4) > s.length - 4) : getB (f + 1) s = ([], 5) := by
  unfold getB; rw [if_neg h0, if_neg h, if_pos h2]
theorem getB_bad {f : Nat} {s : List UInt8} (h0 : s ≠ []) (h : ¬ s.length < 4) (h2 : ¬ valB (s.take 4) > s.length - 4) (h3 : ¬ (getR ((s.drop 4).take (valB (s.take 4)))).2 = 0) : getB (f + 1) s = ([], (getR ((s.drop 4).take (valB (s.take 4)))).2) := by
  conv => lhs; unfold getB
  rw [if_neg h0, if_neg h, if_neg h2, if_neg h3]
theorem getB_ok {f : Nat} {s : List UInt8} (h0 : s ≠ []) (h : ¬ s.length < 4) (h2 : ¬ valB (s.take 4) > s.length - 4) (h3 : (getR ((s.drop 4).take (valB (s.take 4)))).2 = 0) : getB (f + 1) s = ((getR ((s.drop 4).take (valB (s.take 4)))).1 :: (getB f (s.drop (4 + valB (s.take 4)))).1, (getB f (s.drop (4 + valB (s.take 4)))).2) := by
  conv => lhs; unfold getB
  rw [if_neg h0, if_neg h, if_neg h2, if_pos h3]
theorem v4 (s : List UInt8) (h : 4 ≤ s.length) : valB (s.take 4) < 4294967296 := by
  have hv := valB_lt (s.take 4)
  rw [List.length_take, Nat.min_eq_left h] at hv
  exact hv
theorem beq_nilF {s : List UInt8} (h : s ≠ []) : (s == []) = false := by cases s with | nil => exact (h rfl).elim | cons => rfl
theorem push_eq (r : RC) (out : List RC) (h : out.length < 1000000) : p_batch_Get_c1 r out = some (true, out ++ [r]) := by
  unfold p_batch_Get_c1
  exact need_yesF (by simp only [List.length_cons, List.length_nil]; omega)
theorem each_loop (s : List UInt8) : ∀ (f : Nat) (rest : List UInt8) (fuel : Nat) (at' : Int) (out : List RC), rest.length < f → rest.length < fuel → out.length + rest.length < 100000 →
    ∃ a, loopC (fun (r : List UInt8 × Int × (List UInt8 × Int) × List (Int × Vector Int (32) × (Bool × List UInt8) × Vector Int (32) × Int) → Option (Int × Int × List (Int × Vector Int (32) × (Bool × List UInt8) × Vector Int (32) × Int))) y => p_batch_each.b1 (m + 1000) (fun y => p_batch_each.j0 (m + 1000) y.1 y.2) r y.1 y.2.1 y.2.2.1 y.2.2.2) fuel (s, at', (rest, (0 : Int)), out) = some (a, (getB f rest).2, out ++ (getB f rest).1) := by
  intro f
  induction f with
  | zero => intro rest fuel at' out h; omega
  | succ f ih =>
    intro rest fuel at' out h1 h2 h3
    obtain ⟨fuel, rfl⟩ : ∃ q, fuel = q + 1 := ⟨fuel - 1, by omega⟩
    rw [loopC_s]
    dsimp only
    have ih' := fun rest' at' out' => ih rest' fuel at' out'
    generalize loopC (fun (r : List UInt8 × Int × (List UInt8 × Int) × List (Int × Vector Int (32) × (Bool × List UInt8) × Vector Int (32) × Int) → Option (Int × Int × List (Int × Vector Int (32) × (Bool × List UInt8) × Vector Int (32) × Int))) (y : List UInt8 × Int × (List UInt8 × Int) × List (Int × Vector Int (32) × (Bool × List UInt8) × Vector Int (32) × Int)) => p_batch_each.b1 (m + 1000) (fun y => p_batch_each.j0 (m + 1000) y.1 y.2) r y.1 y.2.1 y.2.2.1 y.2.2.2) fuel = rec at ih' ⊢
    unfold p_batch_each.b1 p_wide_Cut_Rest p_wide_Cut_Text p_wide_Cut_Err
    rw [Option.bind_some]
    dsimp only
    by_cases h0 : rest = []
    · subst h0
      exact ⟨at', by rw [getB_nil]; show p_batch_each.j0 (m + 1000) at' out = _; unfold p_batch_each.j0; simp⟩
    rw [beq_nilF h0, Bool.not_false, cond_true]
    by_cases h4 : rest.length < 4
    · have e : p_wide_Cut_Num (m + 1000) (4 : Int) (rest, 0) = _ := num_bad (n := 4) h4 (by omega)
      refine ⟨at', ?_⟩
      rw [e, getB_s4 h0 h4, Option.bind_some, take_err]
      simp
    have e : p_wide_Cut_Num (m + 1000) (4 : Int) (rest, 0) = _ := num_ok (n := 4) (by omega) (by omega) (by omega)
    have hv := v4 rest (by omega)
    have hld : (rest.drop 4).length = rest.length - 4 := List.length_drop
    rw [e, Option.bind_some]
    dsimp only
    rw [wrap_i64 (by omega)]
    by_cases h5 : valB (rest.take 4) > rest.length - 4
    · refine ⟨at', ?_⟩
      rw [take_bad (by omega), getB_s5 h0 h4 h5]
      simp
    have hb0 : ((0 : Int) != 0) = false := rfl
    rw [take_ok (by omega)]
    simp only [Option.bind_some, hb0, cond_false]
    rw [recGet_eq, Option.bind_some, ibn]
    by_cases h6 : (getR ((rest.drop 4).take (valB (rest.take 4)))).2 = 0
    · rw [decide_eq_true h6, Bool.not_true, cond_false, getB_ok h0 h4 h5 h6]
      generalize getR ((rest.drop 4).take (valB (rest.take 4))) = y at h6 ⊢
      have hp : p_batch_Get_c1 (y.1.1, y.1.2.1, (y.1.2.2.1.1, y.1.2.2.1.2), y.1.2.2.2.1, y.1.2.2.2.2) out = some (true, out ++ [y.1]) := push_eq y.1 out (by omega)
      have hdd : (rest.drop 4).drop (valB (rest.take 4)) = rest.drop (4 + valB (rest.take 4)) := by rw [List.drop_drop]
      rw [hp, Option.bind_some, hdd]
      have hl2 : (rest.drop (4 + valB (rest.take 4))).length = rest.length - (4 + valB (rest.take 4)) := List.length_drop
      obtain ⟨a, ha⟩ := ih' (rest.drop (4 + valB (rest.take 4))) (IntKind.wrap IntKind.i64 ((s.length : Int) - ((rest.drop (4 + valB (rest.take 4))).length : Int))) (out ++ [y.1]) (by omega) (by omega) (by simp only [List.length_append, List.length_cons, List.length_nil]; omega)
      refine ⟨a, ?_⟩
      show rec _ = _
      rw [ha, List.append_assoc]
      rfl
    · refine ⟨at', ?_⟩
      rw [decide_eq_false h6, Bool.not_false, cond_true, getB_bad h0 h4 h5 h6]
      simp
theorem batchGet_eq {s : List UInt8} (hs : s.length < 60000) : p_batch_Get (m + s.length + 1000) s = some (if (getB (s.length + 1) s).2 = 0 then (0, (getB (s.length + 1) s).1) else ((getB (s.length + 1) s).2, [])) := by
  unfold p_batch_Get p_batch_each p_wide_On joinC
  obtain ⟨a, ha⟩ := each_loop (m := m + s.length) s (s.length + 1) s (m + s.length + 1000) 0 [] (by omega) (by omega) (by simp; omega)
  rw [decide_eq_false (show ¬ (s.length : Int) > 4194304 by omega), cond_false, Option.bind_some]
  dsimp only
  rw [ha, Option.bind_some, List.nil_append, ibn]
  by_cases h : (getB (s.length + 1) s).2 = 0
  · rw [decide_eq_true h, if_pos h]; rfl
  · rw [decide_eq_false h, if_neg h]; rfl

/-! ### the text of records -/
theorem joinP_len : ∀ l : List RC, (∀ r ∈ l, r.2.2.1.2.length ≤ 300) → (joinB (l.map putR)).length ≤ l.length * 338
  | [], _ => by simp [joinB]
  | r :: l, h => by
    have ih := joinP_len l fun x hx => h x (List.mem_cons_of_mem _ hx)
    have h1 := putR_len r
    have h2 := h r List.mem_cons_self
    have e : joinB ((r :: l).map putR) = lenB (putR r) ++ joinB (l.map putR) := by simp [joinB]
    rw [e, List.length_append, lenB_len, List.length_cons, Nat.add_mul]
    omega
theorem batchPut_eq {l : List RC} (hl : l.length < 900) (hm : ∀ r ∈ l, mayR r = true) (hv : ∀ r ∈ l, r.2.2.1.2.length ≤ 300) : p_batch_Put (m + 1000) l = some (joinB (l.map putR), 0) := by
  unfold p_batch_Put joinC
  refine loop_count (body := fun (r : List (Int × Vector Int (32) × (Bool × List UInt8) × Vector Int (32) × Int) × Int × Int × List (List UInt8) → Option (List UInt8 × Int)) y => p_batch_Put.b1 (m + 1000) (p_batch_Put.j0 (m + 1000)) r y.1 y.2.1 y.2.2.1 y.2.2.2) l.length (m + 1000) (fun i => (l, (l.length : Int), (i : Int), (l.take i).map putR)) (by omega) (fun i hi rec => ?_) (fun rec => ?_)
  · dsimp only
    unfold p_batch_Put.b1
    rw [decide_eq_true (by omega), cond_true, need_yesF ⟨by omega, by omega⟩, at_getF hi, wrap_inc (by omega), List.take_succ_eq_append_getElem hi, List.map_append]
    have hmr := hm _ (List.getElem_mem hi)
    generalize l[i] = r at hmr ⊢
    have hp : p_record_Put (m + 1000) (r.1, r.2.1, (r.2.2.1.1, r.2.2.1.2), r.2.2.2.1, r.2.2.2.2) = _ := recPut_eq r
    rw [hp, hmr, if_pos rfl, Option.bind_some]
    dsimp only
    have hb0 : ((0 : Int) != 0) = false := rfl
    rw [hb0, cond_false, need_yesF (by rw [List.length_map, List.length_take]; simp only [List.length_cons, List.length_nil]; omega)]
    rfl
  · dsimp only
    unfold p_batch_Put.b1 p_batch_Put.j0
    have hjl := joinP_len l hv
    have hx : ∀ x ∈ l.map putR, x.length ≤ 100000 := fun x hx => by
      obtain ⟨r, hr, rfl⟩ := List.mem_map.1 hx
      have := putR_len r
      have := hv r hr
      omega
    rw [decide_eq_false (by omega), cond_false, List.take_length, Texts_eq (by omega) (by rw [List.length_map]; omega) (by rw [List.length_map]; omega) hx, Option.bind_some, decide_eq_false (by omega), cond_false]
end Go.Dor.Fd
end

section
/- PAIRS THAT ARE NOT IN ANOTHER ROW; WHICH CHANGES MAKE ONE STORE OF ANOTHER ONE; IMAGES: behind the walk. -/
set_option linter.unusedVariables false
set_option linter.unusedSimpArgs false
namespace Go.Dor.Fd
open Go.Proofs Go.Dor
variable {m : Nat}

def kpA (c : List P) (x : P) : Bool := !decide (x ∈ c)
theorem index_eq {c : List P} (hc : c.length < 900) (x : P) : ∃ a : Int, p_slices_Index_api_Pair_api_Pair (m + 1000) c x = some a ∧ (decide (a ≥ 0) = decide (x ∈ c)) := by
  unfold p_slices_Index_api_Pair_api_Pair joinC
  have H : ∀ n fuel i : Nat, c.length - i = n → n < fuel → i ≤ c.length → ∃ a : Int, loopC (fun (r : List (Vector Int (32) × List UInt8) × Int × Int × Vector Int (32) × List UInt8 → Option Int) y => p_slices_Index_api_Pair_api_Pair.b1 (m + 1000) (fun (y : Unit) => p_slices_Index_api_Pair_api_Pair.j0 (m + 1000)) r y.1 y.2.1 y.2.2.1 y.2.2.2) fuel (c, (c.length : Int), (i : Int), x.1, x.2) = some a ∧ (decide (a ≥ 0) = decide (x ∈ c.drop i)) := by
    intro n
    induction n with
    | zero =>
      intro fuel i h1 h2 h3
      obtain ⟨fuel, rfl⟩ : ∃ f, fuel = f + 1 := ⟨fuel - 1, by omega⟩
      have e : i = c.length := by omega
      subst e
      refine ⟨-1, ?_, by rw [List.drop_length]; simp⟩
      rw [loopC_s]
      dsimp only
      unfold p_slices_Index_api_Pair_api_Pair.b1 p_slices_Index_api_Pair_api_Pair.j0
      rw [decide_eq_false (Int.lt_irrefl _), cond_false]
    | succ n ih =>
      intro fuel i h1 h2 h3
      obtain ⟨fuel, rfl⟩ : ∃ f, fuel = f + 1 := ⟨fuel - 1, by omega⟩
      have hi : i < c.length := by omega
      obtain ⟨a, ha, hb⟩ := ih fuel (i + 1) (by omega) (by omega) (by omega)
      rw [loopC_s]
      dsimp only
      generalize loopC (fun (r : List (Vector Int (32) × List UInt8) × Int × Int × Vector Int (32) × List UInt8 → Option Int) (y : List (Vector Int (32) × List UInt8) × Int × Int × Vector Int (32) × List UInt8) => p_slices_Index_api_Pair_api_Pair.b1 (m + 1000) (fun (y : Unit) => p_slices_Index_api_Pair_api_Pair.j0 (m + 1000)) r y.1 y.2.1 y.2.2.1 y.2.2.2) fuel = rec at ha ⊢
      unfold p_slices_Index_api_Pair_api_Pair.b1
      have ht : (decide (x.1 = c[i].1) && (x.2 == c[i].2 && Bool.true)) = decide (x = c[i]) := pair_test x c[i]
      rw [decide_eq_true (show (i : Int) < (c.length : Int) by omega), cond_true, need_yesF ⟨by omega, by omega⟩, at_getF hi, List.drop_eq_getElem_cons hi, wrap_inc (by omega)]
      dsimp only
      rw [ht]
      by_cases h : x = c[i]
      · refine ⟨(i : Int), by rw [decide_eq_true h]; rfl, ?_⟩
        rw [decide_eq_true (by omega), decide_eq_true (by rw [h]; exact List.mem_cons_self)]
      · refine ⟨a, by rw [decide_eq_false h]; exact ha, ?_⟩
        rw [hb]
        by_cases h2 : x ∈ c.drop (i + 1)
        · rw [decide_eq_true h2, decide_eq_true (List.mem_cons_of_mem _ h2)]
        · rw [decide_eq_false h2, decide_eq_false fun q => (List.mem_cons.1 q).elim h h2]
  obtain ⟨a, ha, hb⟩ := H c.length (m + 1000) 0 (by omega) (by omega) (by omega)
  exact ⟨a, ha, by rw [hb, List.drop_zero]⟩
theorem pred_eq {e : Int} {f : List Ky} {p c : List P} (hc : c.length < 900) (x : P) : p_image_Delta_c1 (m + 1000) x (e, f, p, c) = some (!kpA c x) := by
  unfold p_image_Delta_c1 p_slices_Contains_api_Pair_api_Pair
  obtain ⟨a, ha, hb⟩ := index_eq (m := m) hc x
  have ha : p_slices_Index_api_Pair_api_Pair (m + 1000) c (x.1, x.2) = some a := ha
  dsimp only
  rw [ha]
  simp only [Option.bind_some]
  unfold kpA
  rw [hb, Bool.not_not]
/-- the first that is struck -/
theorem index_loop {e : Int} {f : List Ky} {p c : List P} (hc : c.length < 900) {x : List P} (hb : x.length < 900) : ∀ (n fuel j : Nat), x.length - j = n → n < fuel → j ≤ x.length → (∀ y ∈ x.take j, kpA c y = true) →
    ((loopC (fun (r : List (Vector Int (32) × List UInt8) × Int × Int × Int × List (Vector Int (32)) × List (Vector Int (32) × List UInt8) × List (Vector Int (32) × List UInt8) → Option Int) y => p_slices_IndexFunc_api_Pair_api_Pair.b1 (m + 1000) (p_slices_IndexFunc_api_Pair_api_Pair.j0 (m + 1000)) r y.1 y.2.1 y.2.2.1 y.2.2.2) fuel (x, (x.length : Int), (j : Int), e, f, p, c) = some (-1) ∧ ∀ y ∈ x, kpA c y = true) ∨
     ∃ i : Nat, loopC (fun (r : List (Vector Int (32) × List UInt8) × Int × Int × Int × List (Vector Int (32)) × List (Vector Int (32) × List UInt8) × List (Vector Int (32) × List UInt8) → Option Int) y => p_slices_IndexFunc_api_Pair_api_Pair.b1 (m + 1000) (p_slices_IndexFunc_api_Pair_api_Pair.j0 (m + 1000)) r y.1 y.2.1 y.2.2.1 y.2.2.2) fuel (x, (x.length : Int), (j : Int), e, f, p, c) = some (i : Int) ∧ ∃ h : i < x.length, kpA c x[i] = false ∧ ∀ y ∈ x.take i, kpA c y = true) := by
  intro n
  induction n with
  | zero =>
    intro fuel j h1 h2 h3 h4
    obtain ⟨fuel, rfl⟩ : ∃ f, fuel = f + 1 := ⟨fuel - 1, by omega⟩
    have ej : j = x.length := by omega
    subst ej
    left
    refine ⟨?_, by rw [List.take_length] at h4; exact h4⟩
    rw [loopC_s]
    dsimp only
    unfold p_slices_IndexFunc_api_Pair_api_Pair.b1 p_slices_IndexFunc_api_Pair_api_Pair.j0
    rw [decide_eq_false (Int.lt_irrefl _), cond_false]
  | succ n ih =>
    intro fuel j h1 h2 h3 h4
    obtain ⟨fuel, rfl⟩ : ∃ f, fuel = f + 1 := ⟨fuel - 1, by omega⟩
    have hj : j < x.length := by omega
    have ih' := ih fuel (j + 1) (by omega) (by omega) (by omega)
    rw [loopC_s]
    dsimp only
    generalize loopC (fun (r : List (Vector Int (32) × List UInt8) × Int × Int × Int × List (Vector Int (32)) × List (Vector Int (32) × List UInt8) × List (Vector Int (32) × List UInt8) → Option Int) (y : List (Vector Int (32) × List UInt8) × Int × Int × Int × List (Vector Int (32)) × List (Vector Int (32) × List UInt8) × List (Vector Int (32) × List UInt8)) => p_slices_IndexFunc_api_Pair_api_Pair.b1 (m + 1000) (p_slices_IndexFunc_api_Pair_api_Pair.j0 (m + 1000)) r y.1 y.2.1 y.2.2.1 y.2.2.2) fuel = rec at ih' ⊢
    unfold p_slices_IndexFunc_api_Pair_api_Pair.b1
    have ew : IntKind.wrap .i64 ((j : Int) + 1) = ((j + 1 : Nat) : Int) := wrap_inc (by omega)
    rw [decide_eq_true (by omega), cond_true, need_yesF ⟨by omega, by omega⟩, at_getF hj, (show p_image_Delta_c1 (m + 1000) (x[j].1, x[j].2) (e, f, p, c) = _ from pred_eq hc x[j]), Option.bind_some, ew]
    cases hf : kpA c x[j]
    · right
      exact ⟨j, rfl, hj, hf, h4⟩
    · simp only [Bool.not_true, cond_false]
      refine ih' ?_
      rw [List.take_succ_eq_append_getElem hj]
      intro y hy
      rcases List.mem_append.1 hy with h | h
      · exact h4 y h
      · rw [List.mem_singleton.1 h]; exact hf
theorem delete_loop {e : Int} {f : List Ky} {p c : List P} (hc : c.length < 900) {x : List P} (hb : x.length < 900) : ∀ (n fuel j i : Nat) (s : List P), x.length - j = n → n < fuel → j ≤ x.length → s.length = x.length → s.take i = (x.take j).filter (kpA c) → i = ((x.take j).filter (kpA c)).length → i ≤ j → s.drop j = x.drop j →
    loopC (fun (r : Int × Int × List (Vector Int (32) × List UInt8) × Int × List (Vector Int (32)) × List (Vector Int (32) × List UInt8) × List (Vector Int (32) × List UInt8) → Option (List (Vector Int (32) × List UInt8))) y => p_slices_DeleteFunc_api_Pair_api_Pair.b1 (m + 1000) (fun (y : Int × List (Vector Int (32) × List UInt8) × Int × List (Vector Int (32)) × List (Vector Int (32) × List UInt8) × List (Vector Int (32) × List UInt8)) => p_slices_DeleteFunc_api_Pair_api_Pair.j0 (m + 1000) y.1 y.2.1 y.2.2) r y.1 y.2.1 y.2.2.1 y.2.2.2) fuel ((i : Int), (j : Int), s, e, f, p, c) = some (x.filter (kpA c)) := by
  intro n
  induction n with
  | zero =>
    intro fuel j i s h1 h2 h3 h4 h5 h6 h7 h8
    obtain ⟨fuel, rfl⟩ : ∃ f, fuel = f + 1 := ⟨fuel - 1, by omega⟩
    have ej : j = x.length := by omega
    subst ej
    rw [List.take_length] at h5 h6
    rw [loopC_s]
    dsimp only
    unfold p_slices_DeleteFunc_api_Pair_api_Pair.b1 p_slices_DeleteFunc_api_Pair_api_Pair.j0
    have hl : (List.take i s ++ List.replicate (s.length - i) (dflt (T.pair (T.arr (32) (T.int IntKind.u8)) T.str))).length = s.length := by rw [List.length_append, List.length_take, List.length_replicate]; omega
    rw [decide_eq_false (by omega), cond_false]
    dsimp only
    rw [Int.toNat_natCast, need_yesF ⟨by omega, by omega⟩, need_yesF ⟨by omega, by omega, by rw [hl]; omega⟩]
    have hl2 : (s.take i).length = i := by rw [List.length_take]; omega
    rw [List.take_append_of_le_length (by omega), List.take_of_length_le (by omega), h5]
  | succ n ih =>
    intro fuel j i s h1 h2 h3 h4 h5 h6 h7 h8
    obtain ⟨fuel, rfl⟩ : ∃ f, fuel = f + 1 := ⟨fuel - 1, by omega⟩
    have hj : j < x.length := by omega
    have hjs : j < s.length := by omega
    have hsj : s[j] = x[j] := by
      have a1 := List.drop_eq_getElem_cons hjs
      have a2 := List.drop_eq_getElem_cons hj
      rw [h8, a2] at a1
      exact (List.cons.inj a1).1.symm
    have h8' : s.drop (j + 1) = x.drop (j + 1) := by
      have a1 := List.drop_eq_getElem_cons hjs
      have a2 := List.drop_eq_getElem_cons hj
      rw [h8, a2] at a1
      exact (List.cons.inj a1).2.symm
    have ih0 := ih fuel (j + 1) i s (by omega) (by omega) (by omega) h4
    have ih1 := ih fuel (j + 1) (i + 1) (s.set i x[j]) (by omega) (by omega) (by omega) (by rw [List.length_set]; exact h4)
    rw [loopC_s]
    dsimp only
    generalize loopC (fun (r : Int × Int × List (Vector Int (32) × List UInt8) × Int × List (Vector Int (32)) × List (Vector Int (32) × List UInt8) × List (Vector Int (32) × List UInt8) → Option (List (Vector Int (32) × List UInt8))) (y : Int × Int × List (Vector Int (32) × List UInt8) × Int × List (Vector Int (32)) × List (Vector Int (32) × List UInt8) × List (Vector Int (32) × List UInt8)) => p_slices_DeleteFunc_api_Pair_api_Pair.b1 (m + 1000) (fun (y : Int × List (Vector Int (32) × List UInt8) × Int × List (Vector Int (32)) × List (Vector Int (32) × List UInt8) × List (Vector Int (32) × List UInt8)) => p_slices_DeleteFunc_api_Pair_api_Pair.j0 (m + 1000) y.1 y.2.1 y.2.2) r y.1 y.2.1 y.2.2.1 y.2.2.2) fuel = rec at ih0 ih1 ⊢
    unfold p_slices_DeleteFunc_api_Pair_api_Pair.b1 joinC
    dsimp only
    have ew : IntKind.wrap .i64 ((j : Int) + 1) = ((j + 1 : Nat) : Int) := wrap_inc (by omega)
    have ew2 : IntKind.wrap .i64 ((i : Int) + 1) = ((i + 1 : Nat) : Int) := by rw [wrap_i64 (by omega)]; omega
    rw [decide_eq_true (by omega), cond_true, need_yesF ⟨by omega, by omega⟩, at_getF hjs, hsj, (show p_image_Delta_c1 (m + 1000) (x[j].1, x[j].2) (e, f, p, c) = _ from pred_eq hc x[j]), Option.bind_some]
    have hfil : (x.take (j + 1)).filter (kpA c) = (x.take j).filter (kpA c) ++ (if kpA c x[j] then [x[j]] else []) := by
      rw [List.take_succ_eq_append_getElem hj, List.filter_append]
      congr 1
      cases h : kpA c x[j] <;> simp [h]
    unfold p_slices_DeleteFunc_api_Pair_api_Pair.j2
    cases hf : kpA c x[j]
    · rw [hf] at hfil
      simp only [Bool.false_eq_true, if_false, List.append_nil] at hfil
      simp only [Bool.not_false, Bool.not_true, cond_false]
      rw [ew]
      exact ih0 (by rw [hfil]; exact h5) (by rw [hfil]; exact h6) (by omega) h8'
    · rw [hf] at hfil
      simp only [if_true] at hfil
      simp only [Bool.not_true, Bool.not_false, cond_true]
      rw [need_yesF ⟨by omega, by omega⟩, ew, ew2]
      show rec (((i + 1 : Nat) : Int), ((j + 1 : Nat) : Int), s.set (i : Int).toNat x[j], e, f, p, c) = _
      rw [Int.toNat_natCast]
      refine ih1 ?_ (by rw [hfil, List.length_append, ← h6]; rfl) (by omega) ?_
      · rw [hfil, ← h5]
        rw [List.take_succ_eq_append_getElem (by rw [List.length_set]; omega)]
        rw [List.take_set_of_le (Nat.le_refl i), List.getElem_set_self]
      · rw [List.drop_set_of_lt (by omega)]
        exact h8'
theorem delete_eq {e : Int} {f : List Ky} {p c : List P} (hc : c.length < 900) {x : List P} (hb : x.length < 900) : p_slices_DeleteFunc_api_Pair_api_Pair (m + 1000) x (e, f, p, c) = some (x.filter (kpA c)) := by
  unfold p_slices_DeleteFunc_api_Pair_api_Pair p_slices_IndexFunc_api_Pair_api_Pair joinC
  dsimp only
  rcases index_loop (m := m) (e := e) (f := f) (p := p) hc hb x.length (m + 1000) 0 (by omega) (by omega) (by omega) (by simp) with ⟨h1, h2⟩ | ⟨i, h1, h2, h3, h4⟩
  · have h1' := h1
    rw [show ((0 : Nat) : Int) = 0 from rfl] at h1'
    rw [h1', Option.bind_some]
    have e : x.filter (kpA c) = x := List.filter_eq_self.2 h2
    rw [e]
    rfl
  · have h1' := h1
    rw [show ((0 : Nat) : Int) = 0 from rfl] at h1'
    rw [h1', Option.bind_some]
    have e : (((i : Nat) : Int) == -1) = false := beq_eq_false_iff_ne.2 (by omega)
    rw [e, cond_false, wrap_inc (by omega)]
    have hfi : (x.take (i + 1)).filter (kpA c) = x.take i := by
      rw [List.take_succ_eq_append_getElem h2, List.filter_append, List.filter_eq_self.2 h4]
      simp [h3]
    refine delete_loop (m := m) hc hb (x.length - (i + 1)) (m + 1000) (i + 1) i x rfl (by omega) (by omega) rfl hfi.symm ?_ (by omega) rfl
    rw [hfi, List.length_take]; omega
end Go.Dor.Fd
end

section
/- IMAGES, behind the walk: what they are, their texts, and what is read of these; ImageOf and ImageReads. -/
set_option linter.unusedVariables false
set_option linter.unusedSimpArgs false
namespace Go.Dor.Fd
open Go.Proofs Go.Dor
variable {m : Nat}

def prevR (x : P) : RC := (2, x.1, (getE x.2).1, zK, 0)
def setR (x : P) : RC := (1, x.1, (getE x.2).1, zK, 0)
def froR (s : Ky) : RC := (4, zK, (false, []), s, 0)
def epR (e : Int) : RC := (5, zK, (false, []), zK, e)
def imgM (p : PL) : List RC := [epR p.1] ++ p.2.1.map froR ++ p.2.2.1.map prevR ++ p.2.2.2.map setR

theorem eachP_eq {l : List P} (hl : l.length < 900) : p_image_each (m + 1000) l = some (l.map prevR) := by
  unfold p_image_each joinC
  refine loop_count (body := fun (r : List (Vector Int (32) × List UInt8) × Int × Int × List (Int × Vector Int (32) × (Bool × List UInt8) × Vector Int (32) × Int) → Option (List (Int × Vector Int (32) × (Bool × List UInt8) × Vector Int (32) × Int))) y => p_image_each.b1 (m + 1000) (p_image_each.j0 (m + 1000)) r y.1 y.2.1 y.2.2.1 y.2.2.2) l.length (m + 1000) (fun i => (l, (l.length : Int), (i : Int), (l.take i).map prevR)) (by omega) (fun i hi rec => ?_) (fun rec => ?_)
  · dsimp only
    unfold p_image_each.b1 p_record_Prev
    rw [decide_eq_true (by omega), cond_true, need_yesF ⟨by omega, by omega⟩, at_getF hi, get_eq, Option.bind_some, Option.bind_some, need_yesF (by rw [List.length_map, List.length_take]; simp only [List.length_cons, List.length_nil]; omega), wrap_inc (by omega), List.take_succ_eq_append_getElem hi, List.map_append]
    rfl
  · dsimp only
    unfold p_image_each.b1 p_image_each.j0
    rw [decide_eq_false (by omega), cond_false, List.take_length]
theorem eachS_eq {l : List P} (hl : l.length < 900) : p_image_each_v1 (m + 1000) l = some (l.map setR) := by
  unfold p_image_each_v1 joinC
  refine loop_count (body := fun (r : List (Vector Int (32) × List UInt8) × Int × Int × List (Int × Vector Int (32) × (Bool × List UInt8) × Vector Int (32) × Int) → Option (List (Int × Vector Int (32) × (Bool × List UInt8) × Vector Int (32) × Int))) y => p_image_each_v1.b1 (m + 1000) (p_image_each_v1.j0 (m + 1000)) r y.1 y.2.1 y.2.2.1 y.2.2.2) l.length (m + 1000) (fun i => (l, (l.length : Int), (i : Int), (l.take i).map setR)) (by omega) (fun i hi rec => ?_) (fun rec => ?_)
  · dsimp only
    unfold p_image_each_v1.b1 p_record_Set
    rw [decide_eq_true (by omega), cond_true, need_yesF ⟨by omega, by omega⟩, at_getF hi, get_eq, Option.bind_some, Option.bind_some, need_yesF (by rw [List.length_map, List.length_take]; simp only [List.length_cons, List.length_nil]; omega), wrap_inc (by omega), List.take_succ_eq_append_getElem hi, List.map_append]
    rfl
  · dsimp only
    unfold p_image_each_v1.b1 p_image_each_v1.j0
    rw [decide_eq_false (by omega), cond_false, List.take_length]
theorem imgOf_eq {e : Int} {f : List Ky} {p c : List P} (hf : f.length < 200) (hp : p.length < 200) (hc : c.length < 200) : p_image_Of (m + 1000) (e, f, p, c) = some (if mayP (e, f, p, c) = true then (0, imgM (e, f, p, c)) else (2, [])) := by
  unfold p_image_Of joinC p_record_Epoch
  dsimp only
  rw [check_eqP (by omega) (by omega), Option.bind_some]
  cases hm : mayP (e, f, p, c)
  · rfl
  rw [if_pos rfl, if_pos rfl]
  have hb0 : ((0 : Int) != 0) = false := rfl
  rw [hb0, cond_false, Option.bind_some]
  refine loop_count (body := fun (r : List (Vector Int (32)) × Int × Int × (Int × List (Vector Int (32)) × List (Vector Int (32) × List UInt8) × List (Vector Int (32) × List UInt8)) × List (Int × Vector Int (32) × (Bool × List UInt8) × Vector Int (32) × Int) → Option (Int × List (Int × Vector Int (32) × (Bool × List UInt8) × Vector Int (32) × Int))) y => p_image_Of.b1 (m + 1000) (fun y => p_image_Of.j0 (m + 1000) y.1 y.2) r y.1 y.2.1 y.2.2.1 y.2.2.2.1 y.2.2.2.2) f.length (m + 1000) (fun i => (f, (f.length : Int), (i : Int), (e, f, p, c), [epR e] ++ (f.take i).map froR)) (by omega) (fun i hi rec => ?_) (fun rec => ?_)
  · dsimp only
    unfold p_image_Of.b1 p_record_Frozen
    dsimp only
    rw [decide_eq_true (by omega), cond_true, need_yesF ⟨by omega, by omega⟩, at_getF hi, Option.bind_some, need_yesF (by rw [List.length_append, List.length_map, List.length_take]; simp only [List.length_cons, List.length_nil]; omega), wrap_inc (by omega), List.take_succ_eq_append_getElem hi, List.map_append, List.append_assoc]
    rfl
  · dsimp only
    unfold p_image_Of.b1 p_image_Of.j0
    dsimp only
    rw [decide_eq_false (by omega), cond_false, List.take_length, eachP_eq (by omega), Option.bind_some, eachS_eq (by omega), need_yesF (by simp only [List.length_append, List.length_map, List.length_cons, List.length_nil]; omega), Option.bind_some, need_yesF (by simp only [List.length_append, List.length_map, List.length_cons, List.length_nil]; omega)]
    rfl
/-! ### what an image holds -/
theorem getE_len (v : List UInt8) : (getE v).1.2.length ≤ v.length := by
  cases v with
  | nil => simp [getE]
  | cons b t =>
    unfold getE
    dsimp only
    split
    · split
      · simp
      · simp
    · split <;> simp
structure Few (p : PL) : Prop where
  fl : p.2.1.length ≤ 60
  pl : p.2.2.1.length ≤ 40
  cl : p.2.2.2.length ≤ 40
  vl : ∀ x ∈ p.2.2.1 ++ p.2.2.2, x.2.length ≤ 300
structure Byts (p : PL) : Prop where
  fb : ∀ s ∈ p.2.1, Byt s.toList
  pb : ∀ x ∈ p.2.2.1, Byt x.1.toList
  cb : ∀ x ∈ p.2.2.2, Byt x.1.toList
theorem img_len {p : PL} (h : Few p) : (imgM p).length ≤ 141 := by
  have := h.fl
  have := h.pl
  have := h.cl
  simp only [imgM, List.length_append, List.length_map, List.length_cons, List.length_nil]
  omega
theorem img_mem {p : PL} {r : RC} (h : r ∈ imgM p) : r = epR p.1 ∨ (∃ s ∈ p.2.1, r = froR s) ∨ (∃ x ∈ p.2.2.1, r = prevR x) ∨ ∃ x ∈ p.2.2.2, r = setR x := by
  unfold imgM at h
  simp only [List.mem_append, List.mem_singleton, List.mem_map] at h
  rcases h with ((h | ⟨s, hs, rfl⟩) | ⟨x, hx, rfl⟩) | ⟨x, hx, rfl⟩
  · exact .inl h
  · exact .inr (.inl ⟨s, hs, rfl⟩)
  · exact .inr (.inr (.inl ⟨x, hx, rfl⟩))
  · exact .inr (.inr (.inr ⟨x, hx, rfl⟩))
theorem risB_mem {l : List P} (h : risB l = true) {x : P} (hx : x ∈ l) : (getE x.2).2 = 0 := by
  obtain ⟨i, hi, rfl⟩ := List.getElem_of_mem hx
  exact risB_get h hi
theorem may_prev {x : P} (h : (getE x.2).2 = 0) : mayR (prevR x) = true := by
  unfold mayR prevR
  rw [if_pos (.inr rfl)]
  exact decide_eq_true ⟨rfl, rfl, (getE_inv h).2⟩
theorem may_set {x : P} (h : (getE x.2).2 = 0) : mayR (setR x) = true := by
  unfold mayR setR
  rw [if_pos (.inl rfl)]
  exact decide_eq_true ⟨rfl, rfl, (getE_inv h).2⟩
theorem img_may {p : PL} (hm : mayP p = true) : ∀ r ∈ imgM p, mayR r = true := by
  intro r hr
  obtain ⟨h1, h2⟩ := mayP_ris hm
  rcases img_mem hr with rfl | ⟨s, hs, rfl⟩ | ⟨x, hx, rfl⟩ | ⟨x, hx, rfl⟩
  · unfold mayP at hm
    have := of_decide_eq_true (Bool.and_eq_true_iff.1 hm).1
    unfold mayR epR
    rw [if_neg (show ¬ ((5 : Int) = 1 ∨ (5 : Int) = 2) by decide), if_neg (show ¬ ((5 : Int) = 3 ∨ (5 : Int) = 4) by decide), if_pos rfl]
    exact decide_eq_true ⟨rfl, rfl, rfl, this.1, this.2⟩
  · unfold mayR froR
    rw [if_neg (show ¬ ((4 : Int) = 1 ∨ (4 : Int) = 2) by decide), if_pos (.inr rfl)]
    exact decide_eq_true ⟨rfl, rfl, rfl⟩
  · exact may_prev (risB_mem h1 hx)
  · exact may_set (risB_mem h2 hx)
theorem img_val {p : PL} (hf : Few p) : ∀ r ∈ imgM p, r.2.2.1.2.length ≤ 300 := by
  intro r hr
  rcases img_mem hr with rfl | ⟨s, hs, rfl⟩ | ⟨x, hx, rfl⟩ | ⟨x, hx, rfl⟩
  · simp [epR]
  · simp [froR]
  · exact Nat.le_trans (getE_len x.2) (hf.vl x (List.mem_append_left _ hx))
  · exact Nat.le_trans (getE_len x.2) (hf.vl x (List.mem_append_right _ hx))
theorem zK_byt : Byt zK.toList := by
  intro n hn
  have hz : zK.toList = List.replicate 32 (0 : Int) := rfl
  rw [hz] at hn
  have : n = 0 := List.eq_of_mem_replicate hn
  omega
theorem img_byt {p : PL} (hb : Byts p) : ∀ r ∈ imgM p, Byt r.2.1.toList ∧ Byt r.2.2.2.1.toList := by
  intro r hr
  rcases img_mem hr with rfl | ⟨s, hs, rfl⟩ | ⟨x, hx, rfl⟩ | ⟨x, hx, rfl⟩
  · exact ⟨zK_byt, zK_byt⟩
  · exact ⟨zK_byt, hb.fb s hs⟩
  · exact ⟨hb.pb x hx, zK_byt⟩
  · exact ⟨hb.cb x hx, zK_byt⟩

/-! ### what an image comes to -/
theorem allM_step {p : PL} {r : RC} {l : List RC} (hm : mayR r = true) (hz : (oneM p r).2 = 0) : allM p (r :: l) = allM (oneM p r).1 l := by
  conv => lhs; unfold allM
  rw [if_pos hm, if_pos hz]
theorem all_fro (rest : List RC) : ∀ (fs : List Ky) (e : Int) (f : List Ky) (p c : List P), allM (e, f, p, c) (fs.map froR ++ rest) = allM (e, f ++ fs, p, c) rest
  | [], e, f, p, c => by simp
  | s :: fs, e, f, p, c => by
    have hm : mayR (froR s) = true := by
      unfold mayR froR
      rw [if_neg (show ¬ ((4 : Int) = 1 ∨ (4 : Int) = 2) by decide), if_pos (.inr rfl)]
      exact decide_eq_true ⟨rfl, rfl, rfl⟩
    have ho : oneM (e, f, p, c) (froR s) = ((e, f ++ [s], p, c), 0) := rfl
    rw [List.map_cons, List.cons_append, allM_step hm (by rw [ho]), ho, all_fro rest fs, List.append_assoc]; rfl
theorem all_prev (rest : List RC) : ∀ (xs : List P) (e : Int) (f : List Ky) (p c : List P), Ris (p ++ xs) → (∀ x ∈ xs, (getE x.2).2 = 0) → allM (e, f, p, c) (xs.map prevR ++ rest) = allM (e, f, p ++ xs, c) rest
  | [], e, f, p, c, _, _ => by simp
  | x :: xs, e, f, p, c, hr, hg => by
    have hx := hg x List.mem_cons_self
    have hp := List.pairwise_append.1 hr
    have ho : oneM (e, f, p, c) (prevR x) = ((e, f, putP p (x.1, enc (getE x.2).1), c), 0) := rfl
    have he : (x.1, enc (getE x.2).1) = x := by rw [(getE_inv hx).1]
    have hl : putP p x = p ++ [x] := putP_last fun y hy => hp.2.2 y hy x List.mem_cons_self
    rw [he, hl] at ho
    rw [List.map_cons, List.cons_append, allM_step (may_prev hx) (by rw [ho]), ho, all_prev rest xs e f (p ++ [x]) c (by rw [List.append_assoc]; exact hr) (fun y hy => hg y (List.mem_cons_of_mem _ hy)), List.append_assoc]; rfl
theorem all_set (rest : List RC) : ∀ (xs : List P) (e : Int) (f : List Ky) (p c : List P), Ris (c ++ xs) → (∀ x ∈ xs, (getE x.2).2 = 0) → allM (e, f, p, c) (xs.map setR ++ rest) = allM (e, f, p, c ++ xs) rest
  | [], e, f, p, c, _, _ => by simp
  | x :: xs, e, f, p, c, hr, hg => by
    have hx := hg x List.mem_cons_self
    have hp := List.pairwise_append.1 hr
    have ho : oneM (e, f, p, c) (setR x) = ((e, f, p, putP c (x.1, enc (getE x.2).1)), 0) := rfl
    have he : (x.1, enc (getE x.2).1) = x := by rw [(getE_inv hx).1]
    have hl : putP c x = c ++ [x] := putP_last fun y hy => hp.2.2 y hy x List.mem_cons_self
    rw [he, hl] at ho
    rw [List.map_cons, List.cons_append, allM_step (may_set hx) (by rw [ho]), ho, all_set rest xs e f p (c ++ [x]) (by rw [List.append_assoc]; exact hr) (fun y hy => hg y (List.mem_cons_of_mem _ hy)), List.append_assoc]; rfl
theorem all_img {p : PL} (hm : mayP p = true) : allM noP (imgM p) = (p, 0) := by
  obtain ⟨e, f, pp, c⟩ := p
  obtain ⟨h1, h2⟩ := mayP_ris hm
  have he : mayR (epR e) = true := img_may hm _ (by simp [imgM])
  have ho : oneM noP (epR e) = ((e, [], [], []), 0) := rfl
  have hi : imgM (e, f, pp, c) = epR e :: (f.map froR ++ (pp.map prevR ++ (c.map setR ++ []))) := by simp [imgM]
  rw [hi, allM_step he (by rw [ho]), ho, all_fro, List.nil_append, all_prev _ pp e f [] [] (by rw [List.nil_append]; exact risB_ris h1) (fun x hx => risB_mem h1 hx), List.nil_append, all_set _ c e f pp [] (by rw [List.nil_append]; exact risB_ris h2) (fun x hx => risB_mem h2 hx), List.nil_append]
  unfold allM
  rw [if_pos hm]

/-! ### read -/
def readM (s : List UInt8) : PL × Int := if (getB (s.length + 1) s).2 = 0 then allM noP (getB (s.length + 1) s).1 else (noP, (getB (s.length + 1) s).2)
theorem read_eq {s : List UInt8} (hs : s.length < 60000) (hl : (getB (s.length + 1) s).1.length < 900) : p_image_Read (m + s.length + 1000) s = some (told (readM s)) := by
  unfold p_image_Read readM
  rw [batchGet_eq hs, Option.bind_some]
  by_cases h : (getB (s.length + 1) s).2 = 0
  · rw [if_pos h, if_pos h]
    have hb0 : ((0 : Int) != 0) = false := rfl
    have ha : p_fold_All (m + s.length + 1000) ((0 : Int), [], [], []) (getB (s.length + 1) s).1 = _ := all_eq (m := m + s.length) (p := noP) (noInv (by omega)) (by omega)
    dsimp only
    rw [hb0, cond_false, ha]; rfl
  · rw [if_neg h, if_neg h, ibn]
    dsimp only
    rw [decide_eq_false h]; rfl
theorem joined_len {p : PL} (hf : Few p) : (joinB ((imgM p).map putR)).length < 60000 := by
  have h1 := joinP_len (imgM p) (img_val hf)
  have h2 := img_len hf
  have h3 : (imgM p).length * 338 ≤ 141 * 338 := Nat.mul_le_mul_right _ h2
  omega
theorem joined_ge : ∀ l : List RC, l.length ≤ (joinB (l.map putR)).length
  | [] => by simp
  | r :: l => by
    have ih := joined_ge l
    have e : joinB ((r :: l).map putR) = lenB (putR r) ++ joinB (l.map putR) := by simp [joinB]
    rw [e, List.length_append, lenB_len, List.length_cons]
    omega
theorem getB_img {p : PL} (hf : Few p) (hb : Byts p) (hm : mayP p = true) : getB ((joinB ((imgM p).map putR)).length + 1) (joinB ((imgM p).map putR)) = (imgM p, 0) := by
  refine getB_join (imgM p) _ (Nat.lt_succ_of_le (joined_ge _)) fun r hr => ⟨img_may hm r hr, (img_byt hb r hr).1, (img_byt hb r hr).2, ?_⟩
  have h1 := putR_len r
  have h2 := img_val hf r hr
  omega
theorem read_img {p : PL} (hf : Few p) (hb : Byts p) (hm : mayP p = true) : p_image_Read 61000 (joinB ((imgM p).map putR)) = some (told (p, 0)) := by
  have hl := joined_len hf
  have hg := getB_img hf hb hm
  have h := read_eq (m := 60000 - (joinB ((imgM p).map putR)).length) hl (by rw [hg]; have := img_len hf; dsimp only; omega)
  have e : 60000 - (joinB ((imgM p).map putR)).length + (joinB ((imgM p).map putR)).length + 1000 = 61000 := by omega
  rw [e] at h
  rw [h]
  unfold readM
  rw [hg, if_pos rfl, all_img hm]
theorem text_img {e : Int} {f : List Ky} {p c : List P} (hf : Few (e, f, p, c)) : p_image_Text (m + 1000) (e, f, p, c) = some (if mayP (e, f, p, c) = true then (joinB ((imgM (e, f, p, c)).map putR), 0) else ([], 2)) := by
  have h1 := hf.fl
  have h2 := hf.pl
  have h3 := hf.cl
  dsimp only at h1 h2 h3
  unfold p_image_Text
  dsimp only
  rw [imgOf_eq (by omega) (by omega) (by omega), Option.bind_some]
  cases hm : mayP (e, f, p, c)
  · rfl
  · rw [if_pos rfl, if_pos rfl]
    have hb0 : ((0 : Int) != 0) = false := rfl
    have := img_len hf
    dsimp only
    rw [hb0, cond_false, batchPut_eq (by omega) (img_may hm) (img_val hf)]; rfl

/-! ### which changes make one of another one -/
def deltaM (a b : PL) : Bool × List RC :=
  if plEq a (b.1, b.2.1, b.2.2.1, a.2.2.2) = true ∧ mayP a = true ∧ mayP b = true then
    (if (allM a ((b.2.2.2.filter (kpA a.2.2.2)).map setR)).2 = 0 ∧ plEq (allM a ((b.2.2.2.filter (kpA a.2.2.2)).map setR)).1 b = true then (true, (b.2.2.2.filter (kpA a.2.2.2)).map setR) else (false, []))
  else (false, [])
theorem allM_inv : ∀ (l : List RC) (p : PL), Inv l.length p → Inv 0 (allM p l).1 := fun l => by
  induction l with
  | nil =>
    intro p h
    unfold allM
    split
    · exact h
    · exact noInv (by omega)
  | cons r l ih =>
    intro p h
    unfold allM
    split
    · split
      · exact ih _ (h.one r)
      · exact noInv (by omega)
    · exact noInv (by omega)
theorem delta_eq {a b : PL} (ha : Few a) (hb : Few b) : p_image_Delta (m + 1000) a b = some (deltaM a b) := by
  obtain ⟨e, f, p, c⟩ := a
  obtain ⟨e', f', p', c'⟩ := b
  have a1 := ha.fl
  have a2 := ha.pl
  have a3 := ha.cl
  have b1 := hb.fl
  have b2 := hb.pl
  have b3 := hb.cl
  dsimp only at a1 a2 a3 b1 b2 b3
  unfold p_image_Delta p_image_Delta.j0 p_image_Delta.j1 joinC
  dsimp only
  rw [foldSame_eq (by omega) (by omega) (by omega), check_eqP (by omega) (by omega), check_eqP (by omega) (by omega)]
  simp only [Option.bind_some]
  have hN : ¬ (plEq (e, f, p, c) (e', f', p', c) = true ∧ mayP (e, f, p, c) = true ∧ mayP (e', f', p', c') = true) → deltaM (e, f, p, c) (e', f', p', c') = (false, []) := fun q => by
    unfold deltaM
    exact if_neg q
  cases h1 : plEq (e, f, p, c) (e', f', p', c)
  · rw [hN (by rw [h1]; simp)]; rfl
  cases h2 : mayP (e, f, p, c)
  · rw [hN (by rw [h2]; simp)]; rfl
  cases h3 : mayP (e', f', p', c')
  · rw [hN (by rw [h3]; simp)]; rfl
  have hR : deltaM (e, f, p, c) (e', f', p', c') = (if (allM (e, f, p, c) ((c'.filter (kpA c)).map setR)).2 = 0 ∧ plEq (allM (e, f, p, c) ((c'.filter (kpA c)).map setR)).1 (e', f', p', c') = true then (true, (c'.filter (kpA c)).map setR) else (false, [])) := by
    unfold deltaM
    exact if_pos ⟨h1, h2, h3⟩
  have hb0 : ((0 : Int) != 0) = false := rfl
  rw [hR]
  simp only [if_true, hb0, Bool.not_true, cond_false]
  rw [cloneP_eq (by omega), Option.bind_some, delete_eq (by omega) (by omega), Option.bind_some]
  have hfl : (c'.filter (kpA c)).length ≤ c'.length := List.length_filter_le _ _
  generalize c'.filter (kpA c) = fr at hfl ⊢
  rw [eachS_eq (by omega), Option.bind_some]
  obtain ⟨r1, r2⟩ := mayP_ris h2
  have hI : Inv (fr.map setR).length (e, f, p, c) := by
    rw [List.length_map]
    exact ⟨by dsimp only; omega, by dsimp only; omega, by dsimp only; omega, risB_ris r1, risB_ris r2⟩
  have hall : p_fold_All (m + 1000) (e, f, p, c) (fr.map setR) = some (told (allM (e, f, p, c) (fr.map setR))) := all_eq hI (by rw [List.length_map]; omega)
  have hJ := allM_inv _ _ hI
  rw [hall, Option.bind_some]
  generalize allM (e, f, p, c) (fr.map setR) = y at hJ ⊢
  have hs : p_fold_Same (m + 1000) (y.1.1, y.1.2.1, y.1.2.2.1, y.1.2.2.2) (e', f', p', c') = some (plEq y.1 (e', f', p', c')) := foldSame_eq hJ.fl hJ.pl hJ.cl
  unfold told
  dsimp only
  rw [hs]
  by_cases hy : y.2 = 0
  · have e1 : (y.2 != 0) = false := by rw [hy]; rfl
    rw [e1]
    by_cases h5 : plEq y.1 (e', f', p', c') = true
    · rw [if_pos ⟨hy, h5⟩, h5]; rfl
    · have h6 : plEq y.1 (e', f', p', c') = false := by simpa using h5
      rw [if_neg (fun q => h5 q.2), h6]; rfl
  · have e1 : (y.2 != 0) = true := bne_iff_ne.2 hy
    rw [if_neg (fun q => hy q.1), e1]; rfl

/-! ### what comes at any rate -/
def k7 : Ky := bparts (32 : Nat) (dflt (T.int IntKind.u8)) [((0 : Nat), (7 : Int))]
def pA : PL := (2, [k7], [], [(zK, [1, 118])])
def pB : PL := (2, [k7], [], [])
theorem pA_may : mayP pA = true := by kernel_rfl
theorem pA_few : Few pA := ⟨by simp [pA], by simp [pA], by simp [pA], by simp [pA]⟩
theorem pB_few : Few pB := ⟨by simp [pB], by simp [pB], by simp [pB], by simp [pB]⟩
theorem k7_byt : Byt k7.toList := by
  have h : (k7.toList.all fun n => decide (0 ≤ n ∧ n < 256)) = true := by kernel_rfl
  intro n hn
  exact of_decide_eq_true (List.all_eq_true.1 h n hn)
theorem pA_byt : Byts pA := ⟨fun s hs => by rw [List.mem_singleton.1 hs]; exact k7_byt, fun x hx => by simp [pA] at hx, fun x hx => by rw [List.mem_singleton.1 hx]; exact zK_byt⟩
theorem awake_delta : deltaM pB pA = (true, [setR (zK, [1, 118])]) := by kernel_rfl
theorem awake27 : p_dormouselaw27_awake 61000 = some true := by
  have h1 : p_image_Of 61000 (2, [k7], [], [(zK, [1, 118])]) = some (0, imgM pA) := (imgOf_eq (m := 60000) (by simp) (by simp) (by simp)).trans (by rw [show mayP ((2 : Int), [k7], [], [(zK, [1, 118])]) = true from pA_may, if_pos rfl]; rfl)
  have h2 : p_image_Text 61000 (2, [k7], [], [(zK, [1, 118])]) = some (joinB ((imgM pA).map putR), 0) := (text_img (m := 60000) pA_few).trans (by rw [show mayP ((2 : Int), [k7], [], [(zK, [1, 118])]) = true from pA_may, if_pos rfl]; rfl)
  have h3 := read_img pA_few pA_byt pA_may
  have h4 : p_image_Delta 61000 (2, [k7], [], []) (2, [k7], [], [(zK, [1, 118])]) = some (true, [setR (zK, [1, 118])]) := (delta_eq (m := 60000) pB_few pA_few).trans (by rw [awake_delta])
  have h5 : p_fold_Same 61000 (2, [k7], [], [(zK, [1, 118])]) (2, [k7], [], [(zK, [1, 118])]) = some true := (foldSame_eq (m := 60000) (by simp) (by simp) (by simp)).trans (by rw [plEq_self])
  have hk : (bparts (32 : Nat) (dflt (T.int IntKind.u8)) [((0 : Nat), (7 : Int))] : Vector Int 32) = k7 := rfl
  have hk2 : (bparts (32 : Nat) (dflt (T.int IntKind.u8)) [((0 : Nat), (7 : Int))] : Vector (den (T.int IntKind.u8)) 32) = k7 := rfl
  have hlen : (((imgM pA).length : Nat) : Int) = 3 := rfl
  unfold p_dormouselaw27_awake p_dormouselaw27_awake.j0 joinC
  simp only [hz2, hz4, hk, hk2]
  rw [h1, Option.bind_some, h2, Option.bind_some]
  dsimp only
  rw [h3, Option.bind_some, h4, Option.bind_some]
  unfold told pA
  dsimp only
  rw [h5]
  rfl

end Go.Dor.Fd
end

section
/- TWO ROWS OF PAIRS THAT RISE: what the second has and the first has not, put into the first; when this is the second. Plain Lean, no program. -/
set_option linter.unusedVariables false
set_option linter.unusedSimpArgs false
namespace Go.Dor.Fd
open Go.Proofs Go.Dor

theorem ris_head {x y : P} {l : List P} (h : Ris (x :: l)) (hy : y ∈ l) : klt x.1 y.1 = true := (List.pairwise_cons.1 h).1 y hy
theorem ris_ext : ∀ {a b : List P}, Ris a → Ris b → (∀ x, x ∈ a ↔ x ∈ b) → a = b
  | [], [], _, _, _ => rfl
  | [], y :: b, _, _, h => absurd ((h y).2 List.mem_cons_self) (by simp)
  | x :: a, [], _, _, h => absurd ((h x).1 List.mem_cons_self) (by simp)
  | x :: a, y :: b, ha, hb, h => by
    have e : x = y := by
      rcases List.mem_cons.1 ((h x).1 List.mem_cons_self) with q | q
      · exact q
      · rcases List.mem_cons.1 ((h y).2 List.mem_cons_self) with q2 | q2
        · exact q2.symm
        · have h1 := ris_head hb q
          have h2 := ris_head ha q2
          have := klt_trans h1 h2
          rw [klt_irr] at this; cases this
    subst e
    have : a = b := ris_ext (List.pairwise_cons.1 ha).2 (List.pairwise_cons.1 hb).2 fun z => by
      constructor
      · intro hz
        rcases List.mem_cons.1 ((h z).1 (List.mem_cons_of_mem _ hz)) with q | q
        · have := ris_head ha hz
          rw [q, klt_irr] at this; cases this
        · exact q
      · intro hz
        rcases List.mem_cons.1 ((h z).2 (List.mem_cons_of_mem _ hz)) with q | q
        · have := ris_head hb hz
          rw [q, klt_irr] at this; cases this
        · exact q
    rw [this]
theorem ris_key {l : List P} (h : Ris l) {x y : P} (hx : x ∈ l) (hy : y ∈ l) (e : x.1 = y.1) : x = y := by
  induction l with
  | nil => cases hx
  | cons z l ih =>
    rcases List.mem_cons.1 hx with q | q
    · rcases List.mem_cons.1 hy with q2 | q2
      · rw [q, q2]
      · have := ris_head h q2
        rw [← q, e, klt_irr] at this; cases this
    · rcases List.mem_cons.1 hy with q2 | q2
      · have := ris_head h q
        rw [← q2, e, klt_irr] at this; cases this
      · exact ih (List.pairwise_cons.1 h).2 q q2
theorem put_mem {l : List P} (h : Ris l) {x y : P} : y ∈ putP l x ↔ y = x ∨ (y ∈ l ∧ y.1 ≠ x.1) := by
  induction l with
  | nil => simp [putP]
  | cons z l ih =>
    have hc := List.pairwise_cons.1 h
    unfold putP
    by_cases hz : klt z.1 x.1 = true
    · have hne : z.1 ≠ x.1 := fun q => by rw [q, klt_irr] at hz; cases hz
      rw [if_pos hz, List.mem_cons, ih hc.2, List.mem_cons]
      constructor
      · rintro (q | q | ⟨q1, q2⟩)
        · rw [q]; exact .inr ⟨.inl rfl, hne⟩
        · exact .inl q
        · exact .inr ⟨.inr q1, q2⟩
      · rintro (q | ⟨q1 | q1, q2⟩)
        · exact .inr (.inl q)
        · exact .inl q1
        · exact .inr (.inr ⟨q1, q2⟩)
    · rw [if_neg hz]
      by_cases he : z.1 = x.1
      · rw [if_pos he, List.mem_cons, List.mem_cons]
        constructor
        · rintro (q | q)
          · exact .inl q
          · refine .inr ⟨.inr q, fun q2 => ?_⟩
            have := hc.1 y q
            rw [q2, he, klt_irr] at this; cases this
        · rintro (q | ⟨q1 | q1, q2⟩)
          · exact .inl q
          · rw [q1] at q2; exact (q2 he).elim
          · exact .inr q1
      · rw [if_neg he, List.mem_cons, List.mem_cons]
        have hx : klt x.1 z.1 = true := by
          cases q : klt x.1 z.1
          · exact absurd (klt_total (by simpa using hz) q) he
          · rfl
        constructor
        · rintro (q | q | q)
          · exact .inl q
          · rw [q]; exact .inr ⟨.inl rfl, he⟩
          · refine .inr ⟨.inr q, fun q2 => ?_⟩
            have := klt_trans hx (hc.1 y q)
            rw [q2, klt_irr] at this; cases this
        · rintro (q | ⟨q1 | q1, q2⟩)
          · exact .inl q
          · exact .inr (.inl q1)
          · exact .inr (.inr q1)
theorem fold_mem : ∀ (fr : List P) {a : List P} {y : P}, Ris a → Ris fr → (y ∈ fr.foldl putP a ↔ y ∈ fr ∨ (y ∈ a ∧ ∀ x ∈ fr, y.1 ≠ x.1))
  | [], a, y, _, _ => by simp
  | x :: fr, a, y, ha, hf => by
    have hc := List.pairwise_cons.1 hf
    rw [List.foldl_cons, fold_mem fr (putP_ris ha) hc.2, put_mem ha, List.mem_cons]
    constructor
    · rintro (q | ⟨q | ⟨q1, q2⟩, q3⟩)
      · exact .inl (.inr q)
      · exact .inl (.inl q)
      · refine .inr ⟨q1, fun z hz => ?_⟩
        rcases List.mem_cons.1 hz with e | e
        · rw [e]; exact q2
        · exact q3 z e
    · rintro ((q | q) | ⟨q1, q2⟩)
      · refine .inr ⟨.inl q, fun z hz e => ?_⟩
        have := hc.1 z hz
        rw [← e, q, klt_irr] at this; cases this
      · exact .inl q
      · exact .inr ⟨.inr ⟨q1, q2 x List.mem_cons_self⟩, fun z hz => q2 z (List.mem_cons_of_mem _ hz)⟩
theorem kpA_iff {a : List P} {x : P} : kpA a x = true ↔ x ∉ a := by simp [kpA]
def allIn (a b : List P) : Bool := a.all fun x => (findP b x.1).isSome
theorem find_some {l : List P} {k : Ky} (h : (findP l k).isSome = true) : ∃ x ∈ l, x.1 = k := by
  unfold findP at h
  cases q : l.find? (fun y => decide (y.1 = k)) with
  | none => rw [q] at h; cases h
  | some x => exact ⟨x, List.mem_of_find?_eq_some q, by simpa using List.find?_some q⟩
theorem find_of {l : List P} {x : P} (h : x ∈ l) : (findP l x.1).isSome = true := by
  unfold findP
  cases q : l.find? (fun y => decide (y.1 = x.1)) with
  | none =>
    have := List.find?_eq_none.1 q x h
    simp at this
  | some y => rfl
theorem merge_eq {a b : List P} (ha : Ris a) (hb : Ris b) : (b.filter (kpA a)).foldl putP a = b ↔ allIn a b = true := by
  have hf : Ris (b.filter (kpA a)) := List.Pairwise.filter _ hb
  have hm : ∀ y, y ∈ (b.filter (kpA a)).foldl putP a ↔ y ∈ b.filter (kpA a) ∨ (y ∈ a ∧ ∀ x ∈ b.filter (kpA a), y.1 ≠ x.1) := fun y => fold_mem _ ha hf
  constructor
  · intro h
    unfold allIn
    rw [List.all_eq_true]
    intro y hy
    by_cases q : ∃ x ∈ b.filter (kpA a), y.1 = x.1
    · obtain ⟨x, hx, e⟩ := q
      rw [e]
      exact find_of (List.mem_filter.1 hx).1
    · have : y ∈ (b.filter (kpA a)).foldl putP a := (hm y).2 (.inr ⟨hy, fun x hx e => q ⟨x, hx, e⟩⟩)
      rw [h] at this
      exact find_of this
  · intro h
    refine ris_ext (foldP_ris _ _ ha) hb fun y => ?_
    rw [hm y]
    constructor
    · rintro (q | ⟨q1, q2⟩)
      · exact (List.mem_filter.1 q).1
      · obtain ⟨z, hz, e⟩ := find_some (List.all_eq_true.1 h y q1)
        by_cases hza : z ∈ a
        · have := ris_key ha hza q1 e
          rw [← this]; exact hz
        · exact (q2 z (List.mem_filter.2 ⟨hz, kpA_iff.2 hza⟩) e.symm).elim
    · intro hy
      by_cases hya : y ∈ a
      · refine .inr ⟨hya, fun x hx e => ?_⟩
        obtain ⟨h1, h2⟩ := List.mem_filter.1 hx
        have := ris_key hb hy h1 e
        rw [this] at hya
        exact kpA_iff.1 h2 hya
      · exact .inl (List.mem_filter.2 ⟨hy, kpA_iff.2 hya⟩)

/-! ### changes that set -/
theorem all_sets : ∀ (fr : List P) (e : Int) (f : List Ky) (p c : List P), (∀ x ∈ fr, (getE x.2).2 = 0) → allM (e, f, p, c) (fr.map setR) = allM (e, f, p, fr.foldl putP c) []
  | [], e, f, p, c, _ => rfl
  | x :: fr, e, f, p, c, hg => by
    have hx := hg x List.mem_cons_self
    have ho : oneM (e, f, p, c) (setR x) = ((e, f, p, putP c (x.1, enc (getE x.2).1)), 0) := rfl
    have he : (x.1, enc (getE x.2).1) = x := by rw [(getE_inv hx).1]
    rw [he] at ho
    rw [List.map_cons, allM_step (may_set hx) (by rw [ho]), ho, all_sets fr e f p (putP c x) fun y hy => hg y (List.mem_cons_of_mem _ hy)]
    rfl
theorem fold_good : ∀ (fr a : List P), (∀ x ∈ fr, (getE x.2).2 = 0) → (∀ x ∈ a, (getE x.2).2 = 0) → ∀ x ∈ fr.foldl putP a, (getE x.2).2 = 0
  | [], a, _, h => h
  | x :: fr, a, h1, h2 => fold_good fr (putP a x) (fun y hy => h1 y (List.mem_cons_of_mem _ hy)) fun y hy => by
    rcases putP_mem hy with q | q
    · rw [q]; exact h1 x List.mem_cons_self
    · exact h2 y q
def canM (a b : PL) : Bool := mayP a && (mayP b && (plEq (a.1, a.2.1, a.2.2.1, []) (b.1, b.2.1, b.2.2.1, []) && allIn a.2.2.2 b.2.2.2))
theorem mayP_cur {e : Int} {f : List Ky} {p c c' : List P} (h : mayP (e, f, p, c) = true) (h' : risB c' = true) : mayP (e, f, p, c') = true := by
  unfold mayP at h ⊢
  simp only [Bool.and_eq_true] at h ⊢
  exact ⟨h.1, h.2.1, h', h.2.2.2⟩
theorem deltaM_can {a b : PL} : deltaM a b = if canM a b = true then (true, (b.2.2.2.filter (kpA a.2.2.2)).map setR) else (false, []) := by
  obtain ⟨e, f, p, c⟩ := a
  obtain ⟨e', f', p', c'⟩ := b
  by_cases h : plEq (e, f, p, c) (e', f', p', c) = true ∧ mayP (e, f, p, c) = true ∧ mayP (e', f', p', c') = true
  · obtain ⟨h1, h2, h3⟩ := h
    have he := plEq_iff.1 h1
    cases he
    obtain ⟨_, r1⟩ := mayP_ris h2
    obtain ⟨_, r2⟩ := mayP_ris h3
    have hg : ∀ x ∈ c'.filter (kpA c), (getE x.2).2 = 0 := fun x hx => risB_mem r2 (List.mem_filter.1 hx).1
    have hris : risB ((c'.filter (kpA c)).foldl putP c) = true := risB_of (foldP_ris _ _ (risB_ris r1)) (fold_good _ _ hg fun x hx => risB_mem r1 hx)
    have hall : allM (e, f, p, c) ((c'.filter (kpA c)).map setR) = ((e, f, p, (c'.filter (kpA c)).foldl putP c), 0) := by
      rw [all_sets _ e f p c hg]
      unfold allM
      rw [if_pos (mayP_cur h2 hris)]
    have hm := merge_eq (risB_ris r1) (risB_ris r2)
    unfold deltaM
    rw [if_pos ⟨h1, h2, h3⟩]
    dsimp only
    rw [hall]
    have hc : canM (e, f, p, c) (e, f, p, c') = allIn c c' := by
      unfold canM
      rw [h2, h3, plEq_self]; rfl
    rw [hc]
    by_cases q : allIn c c' = true
    · rw [if_pos q, if_pos ⟨rfl, plEq_iff.2 (by rw [hm.2 q])⟩]
    · rw [if_neg q, if_neg]
      rintro ⟨_, q2⟩
      have := plEq_iff.1 q2
      injection this with _ this
      injection this with _ this
      injection this with _ this
      exact q (hm.1 this)
  · have hd : deltaM (e, f, p, c) (e', f', p', c') = (false, []) := by
      unfold deltaM
      exact if_neg h
    rw [hd, if_neg]
    intro q
    unfold canM at q
    simp only [Bool.and_eq_true] at q
    obtain ⟨q1, q2, q3, q4⟩ := q
    have := plEq_iff.1 q3
    injection this with t1 this
    injection this with t2 this
    injection this with t3 this
    exact h ⟨plEq_iff.2 (by rw [t1, t2, t3]), q1, q2⟩
end Go.Dor.Fd
end

section
/- The functions that the law calls, as the machine shows them. -/
namespace Go.Dor
open Go.Proofs
set_option maxRecDepth 100000
set_option linter.unusedVariables false
noncomputable section

/- dormouse/dormouseref26.All: function 19 -/
noncomputable def p_dormouseref26_AllL.j0 (k : Nat) (x1823 : List (Int × Vector Int (32) × (Bool × List UInt8) × Vector Int (32) × Int)) (x1824 : Int × List (Vector Int (32)) × List (Vector Int (32) × List UInt8) × List (Vector Int (32) × List UInt8)) (x1825 : Int) (x1826 : List (Vector Int (32))) (x1827 : List (Vector Int (32) × List UInt8)) (x1828 : List (Vector Int (32) × List UInt8)) : Option ((Int × List (Vector Int (32)) × List (Vector Int (32) × List UInt8) × List (Vector Int (32) × List UInt8)) × Int × List (Int × Vector Int (32) × (Bool × List UInt8) × Vector Int (32) × Int)) :=
  Option.bind (p_dormouseref26_May k (Prod.fst x1824, Prod.fst (Prod.snd x1824), Prod.fst (Prod.snd (Prod.snd x1824)), Prod.snd (Prod.snd (Prod.snd x1824)))) fun t1829 => bif !t1829 then some (((0 : Int), [], [], []), (2 : Int), x1823) else some ((Prod.fst x1824, Prod.fst (Prod.snd x1824), Prod.fst (Prod.snd (Prod.snd x1824)), Prod.snd (Prod.snd (Prod.snd x1824))), (0 : Int), x1823)
noncomputable def p_dormouseref26_AllL.j2 (k : Nat) (rec1821 : Int × List (Int × Vector Int (32) × (Bool × List UInt8) × Vector Int (32) × Int) × (Int × List (Vector Int (32)) × List (Vector Int (32) × List UInt8) × List (Vector Int (32) × List UInt8)) × Int × List (Vector Int (32)) × List (Vector Int (32) × List UInt8) × List (Vector Int (32) × List UInt8) → Option ((Int × List (Vector Int (32)) × List (Vector Int (32) × List UInt8) × List (Vector Int (32) × List UInt8)) × Int × List (Int × Vector Int (32) × (Bool × List UInt8) × Vector Int (32) × Int))) (x1810 : Int) (x1811 : Int) (x1812 : List (Int × Vector Int (32) × (Bool × List UInt8) × Vector Int (32) × Int)) (x1813 : Int × List (Vector Int (32)) × List (Vector Int (32) × List UInt8) × List (Vector Int (32) × List UInt8)) (x1814 : Int) (x1815 : Int × List (Vector Int (32)) × List (Vector Int (32) × List UInt8) × List (Vector Int (32) × List UInt8)) (x1816 : List (Vector Int (32))) (x1817 : List (Vector Int (32) × List UInt8)) (x1818 : List (Vector Int (32) × List UInt8)) : Option ((Int × List (Vector Int (32)) × List (Vector Int (32) × List UInt8) × List (Vector Int (32) × List UInt8)) × Int × List (Int × Vector Int (32) × (Bool × List UInt8) × Vector Int (32) × Int)) :=
  bif (x1811 != (0 : Int)) then some (((0 : Int), [], [], []), x1811, x1812) else rec1821 (IntKind.wrap IntKind.i64 (x1810 + (1 : Int)), x1812, (Prod.fst x1815, Prod.fst (Prod.snd x1815), Prod.fst (Prod.snd (Prod.snd x1815)), Prod.snd (Prod.snd (Prod.snd x1815))), x1814, x1816, x1817, x1818)
noncomputable def p_dormouseref26_AllL.b1 (k : Nat) (j1830 : List (Int × Vector Int (32) × (Bool × List UInt8) × Vector Int (32) × Int) × (Int × List (Vector Int (32)) × List (Vector Int (32) × List UInt8) × List (Vector Int (32) × List UInt8)) × Int × List (Vector Int (32)) × List (Vector Int (32) × List UInt8) × List (Vector Int (32) × List UInt8) → Option ((Int × List (Vector Int (32)) × List (Vector Int (32) × List UInt8) × List (Vector Int (32) × List UInt8)) × Int × List (Int × Vector Int (32) × (Bool × List UInt8) × Vector Int (32) × Int))) (rec1821 : Int × List (Int × Vector Int (32) × (Bool × List UInt8) × Vector Int (32) × Int) × (Int × List (Vector Int (32)) × List (Vector Int (32) × List UInt8) × List (Vector Int (32) × List UInt8)) × Int × List (Vector Int (32)) × List (Vector Int (32) × List UInt8) × List (Vector Int (32) × List UInt8) → Option ((Int × List (Vector Int (32)) × List (Vector Int (32) × List UInt8) × List (Vector Int (32) × List UInt8)) × Int × List (Int × Vector Int (32) × (Bool × List UInt8) × Vector Int (32) × Int))) (x1798 : Int) (x1799 : List (Int × Vector Int (32) × (Bool × List UInt8) × Vector Int (32) × Int)) (x1800 : Int × List (Vector Int (32)) × List (Vector Int (32) × List UInt8) × List (Vector Int (32) × List UInt8)) (x1801 : Int) (x1802 : List (Vector Int (32))) (x1803 : List (Vector Int (32) × List UInt8)) (x1804 : List (Vector Int (32) × List UInt8)) : Option ((Int × List (Vector Int (32)) × List (Vector Int (32) × List UInt8) × List (Vector Int (32) × List UInt8)) × Int × List (Int × Vector Int (32) × (Bool × List UInt8) × Vector Int (32) × Int)) :=
  bif (decide (x1798 < (↑(List.length x1799) : Int))) then need ((0 : Int) ≤ x1798 ∧ x1798 < (↑(List.length x1799) : Int)) (Option.bind (p_dormouseref24_May (Prod.fst (at_ (dflt (T.pair (T.int IntKind.i64) (T.pair (T.arr (32) (T.int IntKind.u8)) (T.pair (T.pair T.bool T.str) (T.pair (T.arr (32) (T.int IntKind.u8)) (T.int IntKind.i64)))))) x1799 x1798), Prod.fst (Prod.snd (at_ (dflt (T.pair (T.int IntKind.i64) (T.pair (T.arr (32) (T.int IntKind.u8)) (T.pair (T.pair T.bool T.str) (T.pair (T.arr (32) (T.int IntKind.u8)) (T.int IntKind.i64)))))) x1799 x1798)), (Prod.fst (Prod.fst (Prod.snd (Prod.snd (at_ (dflt (T.pair (T.int IntKind.i64) (T.pair (T.arr (32) (T.int IntKind.u8)) (T.pair (T.pair T.bool T.str) (T.pair (T.arr (32) (T.int IntKind.u8)) (T.int IntKind.i64)))))) x1799 x1798)))), Prod.snd (Prod.fst (Prod.snd (Prod.snd (at_ (dflt (T.pair (T.int IntKind.i64) (T.pair (T.arr (32) (T.int IntKind.u8)) (T.pair (T.pair T.bool T.str) (T.pair (T.arr (32) (T.int IntKind.u8)) (T.int IntKind.i64)))))) x1799 x1798))))), Prod.fst (Prod.snd (Prod.snd (Prod.snd (at_ (dflt (T.pair (T.int IntKind.i64) (T.pair (T.arr (32) (T.int IntKind.u8)) (T.pair (T.pair T.bool T.str) (T.pair (T.arr (32) (T.int IntKind.u8)) (T.int IntKind.i64)))))) x1799 x1798)))), Prod.snd (Prod.snd (Prod.snd (Prod.snd (at_ (dflt (T.pair (T.int IntKind.i64) (T.pair (T.arr (32) (T.int IntKind.u8)) (T.pair (T.pair T.bool T.str) (T.pair (T.arr (32) (T.int IntKind.u8)) (T.int IntKind.i64)))))) x1799 x1798)))))) fun t1806 => bif !t1806 then some (((0 : Int), [], [], []), (2 : Int), x1799) else joinC (fun (y : Int × Int × List (Int × Vector Int (32) × (Bool × List UInt8) × Vector Int (32) × Int) × (Int × List (Vector Int (32)) × List (Vector Int (32) × List UInt8) × List (Vector Int (32) × List UInt8)) × Int × (Int × List (Vector Int (32)) × List (Vector Int (32) × List UInt8) × List (Vector Int (32) × List UInt8)) × List (Vector Int (32)) × List (Vector Int (32) × List UInt8) × List (Vector Int (32) × List UInt8)) => p_dormouseref26_AllL.j2 k rec1821 y.1 y.2.1 y.2.2.1 y.2.2.2.1 y.2.2.2.2.1 y.2.2.2.2.2.1 y.2.2.2.2.2.2.1 y.2.2.2.2.2.2.2.1 y.2.2.2.2.2.2.2.2) fun (j1819 : Int × Int × List (Int × Vector Int (32) × (Bool × List UInt8) × Vector Int (32) × Int) × (Int × List (Vector Int (32)) × List (Vector Int (32) × List UInt8) × List (Vector Int (32) × List UInt8)) × Int × (Int × List (Vector Int (32)) × List (Vector Int (32) × List UInt8) × List (Vector Int (32) × List UInt8)) × List (Vector Int (32)) × List (Vector Int (32) × List UInt8) × List (Vector Int (32) × List UInt8) → Option ((Int × List (Vector Int (32)) × List (Vector Int (32) × List UInt8) × List (Vector Int (32) × List UInt8)) × Int × List (Int × Vector Int (32) × (Bool × List UInt8) × Vector Int (32) × Int))) => need ((0 : Int) ≤ x1798 ∧ x1798 < (↑(List.length x1799) : Int)) (bothC (Option.bind (p_dormouseref26_One k (Prod.fst x1800, Prod.fst (Prod.snd x1800), Prod.fst (Prod.snd (Prod.snd x1800)), Prod.snd (Prod.snd (Prod.snd x1800))) (Prod.fst (at_ (dflt (T.pair (T.int IntKind.i64) (T.pair (T.arr (32) (T.int IntKind.u8)) (T.pair (T.pair T.bool T.str) (T.pair (T.arr (32) (T.int IntKind.u8)) (T.int IntKind.i64)))))) x1799 x1798), Prod.fst (Prod.snd (at_ (dflt (T.pair (T.int IntKind.i64) (T.pair (T.arr (32) (T.int IntKind.u8)) (T.pair (T.pair T.bool T.str) (T.pair (T.arr (32) (T.int IntKind.u8)) (T.int IntKind.i64)))))) x1799 x1798)), (Prod.fst (Prod.fst (Prod.snd (Prod.snd (at_ (dflt (T.pair (T.int IntKind.i64) (T.pair (T.arr (32) (T.int IntKind.u8)) (T.pair (T.pair T.bool T.str) (T.pair (T.arr (32) (T.int IntKind.u8)) (T.int IntKind.i64)))))) x1799 x1798)))), Prod.snd (Prod.fst (Prod.snd (Prod.snd (at_ (dflt (T.pair (T.int IntKind.i64) (T.pair (T.arr (32) (T.int IntKind.u8)) (T.pair (T.pair T.bool T.str) (T.pair (T.arr (32) (T.int IntKind.u8)) (T.int IntKind.i64)))))) x1799 x1798))))), Prod.fst (Prod.snd (Prod.snd (Prod.snd (at_ (dflt (T.pair (T.int IntKind.i64) (T.pair (T.arr (32) (T.int IntKind.u8)) (T.pair (T.pair T.bool T.str) (T.pair (T.arr (32) (T.int IntKind.u8)) (T.int IntKind.i64)))))) x1799 x1798)))), Prod.snd (Prod.snd (Prod.snd (Prod.snd (at_ (dflt (T.pair (T.int IntKind.i64) (T.pair (T.arr (32) (T.int IntKind.u8)) (T.pair (T.pair T.bool T.str) (T.pair (T.arr (32) (T.int IntKind.u8)) (T.int IntKind.i64)))))) x1799 x1798)))))) fun t1808 => bothC (bothC (bothC (bothC (j1819 (x1798, Prod.snd t1808, x1799, (Prod.fst x1800, Prod.fst (Prod.snd x1800), Prod.fst (Prod.snd (Prod.snd x1800)), Prod.snd (Prod.snd (Prod.snd x1800))), x1801, (Prod.fst (Prod.fst t1808), Prod.fst (Prod.snd (Prod.fst t1808)), Prod.fst (Prod.snd (Prod.snd (Prod.fst t1808))), Prod.snd (Prod.snd (Prod.snd (Prod.fst t1808)))), x1802, x1803, x1804)) (bothC (j1819 (x1798, Prod.snd t1808, x1799, (Prod.fst x1800, Prod.fst (Prod.snd x1800), Prod.fst (Prod.snd (Prod.snd x1800)), Prod.snd (Prod.snd (Prod.snd x1800))), x1801, (Prod.fst (Prod.fst t1808), Prod.fst (Prod.snd (Prod.fst t1808)), Prod.fst (Prod.snd (Prod.snd (Prod.fst t1808))), Prod.snd (Prod.snd (Prod.snd (Prod.fst t1808)))), x1802, x1803, x1804)) (j1819 (x1798, Prod.snd t1808, x1799, (Prod.fst x1800, Prod.fst (Prod.snd x1800), Prod.fst (Prod.snd (Prod.snd x1800)), Prod.snd (Prod.snd (Prod.snd x1800))), x1801, (Prod.fst (Prod.fst t1808), Prod.fst (Prod.snd (Prod.fst t1808)), Prod.fst (Prod.snd (Prod.snd (Prod.fst t1808))), Prod.snd (Prod.snd (Prod.snd (Prod.fst t1808)))), x1802, x1803, x1804)))) (bothC (j1819 (x1798, Prod.snd t1808, x1799, (Prod.fst x1800, Prod.fst (Prod.snd x1800), Prod.fst (Prod.snd (Prod.snd x1800)), Prod.snd (Prod.snd (Prod.snd x1800))), x1801, (Prod.fst (Prod.fst t1808), Prod.fst (Prod.snd (Prod.fst t1808)), Prod.fst (Prod.snd (Prod.snd (Prod.fst t1808))), Prod.snd (Prod.snd (Prod.snd (Prod.fst t1808)))), x1802, x1803, x1804)) (j1819 (x1798, Prod.snd t1808, x1799, (Prod.fst x1800, Prod.fst (Prod.snd x1800), Prod.fst (Prod.snd (Prod.snd x1800)), Prod.snd (Prod.snd (Prod.snd x1800))), x1801, (Prod.fst (Prod.fst t1808), Prod.fst (Prod.snd (Prod.fst t1808)), Prod.fst (Prod.snd (Prod.snd (Prod.fst t1808))), Prod.snd (Prod.snd (Prod.snd (Prod.fst t1808)))), x1802, x1803, x1804)))) (bothC (bothC (j1819 (x1798, Prod.snd t1808, x1799, (Prod.fst x1800, Prod.fst (Prod.snd x1800), Prod.fst (Prod.snd (Prod.snd x1800)), Prod.snd (Prod.snd (Prod.snd x1800))), x1801, (Prod.fst (Prod.fst t1808), Prod.fst (Prod.snd (Prod.fst t1808)), Prod.fst (Prod.snd (Prod.snd (Prod.fst t1808))), Prod.snd (Prod.snd (Prod.snd (Prod.fst t1808)))), x1802, x1803, x1804)) (j1819 (x1798, Prod.snd t1808, x1799, (Prod.fst x1800, Prod.fst (Prod.snd x1800), Prod.fst (Prod.snd (Prod.snd x1800)), Prod.snd (Prod.snd (Prod.snd x1800))), x1801, (Prod.fst (Prod.fst t1808), Prod.fst (Prod.snd (Prod.fst t1808)), Prod.fst (Prod.snd (Prod.snd (Prod.fst t1808))), Prod.snd (Prod.snd (Prod.snd (Prod.fst t1808)))), x1802, x1803, x1804))) (j1819 (x1798, Prod.snd t1808, x1799, (Prod.fst x1800, Prod.fst (Prod.snd x1800), Prod.fst (Prod.snd (Prod.snd x1800)), Prod.snd (Prod.snd (Prod.snd x1800))), x1801, (Prod.fst (Prod.fst t1808), Prod.fst (Prod.snd (Prod.fst t1808)), Prod.fst (Prod.snd (Prod.snd (Prod.fst t1808))), Prod.snd (Prod.snd (Prod.snd (Prod.fst t1808)))), x1802, x1803, x1804)))) (bothC (bothC (j1819 (x1798, Prod.snd t1808, x1799, (Prod.fst x1800, Prod.fst (Prod.snd x1800), Prod.fst (Prod.snd (Prod.snd x1800)), Prod.snd (Prod.snd (Prod.snd x1800))), x1801, (Prod.fst (Prod.fst t1808), Prod.fst (Prod.snd (Prod.fst t1808)), Prod.fst (Prod.snd (Prod.snd (Prod.fst t1808))), Prod.snd (Prod.snd (Prod.snd (Prod.fst t1808)))), x1802, x1803, x1804)) (j1819 (x1798, Prod.snd t1808, x1799, (Prod.fst x1800, Prod.fst (Prod.snd x1800), Prod.fst (Prod.snd (Prod.snd x1800)), Prod.snd (Prod.snd (Prod.snd x1800))), x1801, (Prod.fst (Prod.fst t1808), Prod.fst (Prod.snd (Prod.fst t1808)), Prod.fst (Prod.snd (Prod.snd (Prod.fst t1808))), Prod.snd (Prod.snd (Prod.snd (Prod.fst t1808)))), x1802, x1803, x1804))) (j1819 (x1798, Prod.snd t1808, x1799, (Prod.fst x1800, Prod.fst (Prod.snd x1800), Prod.fst (Prod.snd (Prod.snd x1800)), Prod.snd (Prod.snd (Prod.snd x1800))), x1801, (Prod.fst (Prod.fst t1808), Prod.fst (Prod.snd (Prod.fst t1808)), Prod.fst (Prod.snd (Prod.snd (Prod.fst t1808))), Prod.snd (Prod.snd (Prod.snd (Prod.fst t1808)))), x1802, x1803, x1804)))) (Option.bind (p_dormouseref26_One k (Prod.fst x1800, Prod.fst (Prod.snd x1800), Prod.fst (Prod.snd (Prod.snd x1800)), Prod.snd (Prod.snd (Prod.snd x1800))) (Prod.fst (at_ (dflt (T.pair (T.int IntKind.i64) (T.pair (T.arr (32) (T.int IntKind.u8)) (T.pair (T.pair T.bool T.str) (T.pair (T.arr (32) (T.int IntKind.u8)) (T.int IntKind.i64)))))) x1799 x1798), Prod.fst (Prod.snd (at_ (dflt (T.pair (T.int IntKind.i64) (T.pair (T.arr (32) (T.int IntKind.u8)) (T.pair (T.pair T.bool T.str) (T.pair (T.arr (32) (T.int IntKind.u8)) (T.int IntKind.i64)))))) x1799 x1798)), (Prod.fst (Prod.fst (Prod.snd (Prod.snd (at_ (dflt (T.pair (T.int IntKind.i64) (T.pair (T.arr (32) (T.int IntKind.u8)) (T.pair (T.pair T.bool T.str) (T.pair (T.arr (32) (T.int IntKind.u8)) (T.int IntKind.i64)))))) x1799 x1798)))), Prod.snd (Prod.fst (Prod.snd (Prod.snd (at_ (dflt (T.pair (T.int IntKind.i64) (T.pair (T.arr (32) (T.int IntKind.u8)) (T.pair (T.pair T.bool T.str) (T.pair (T.arr (32) (T.int IntKind.u8)) (T.int IntKind.i64)))))) x1799 x1798))))), Prod.fst (Prod.snd (Prod.snd (Prod.snd (at_ (dflt (T.pair (T.int IntKind.i64) (T.pair (T.arr (32) (T.int IntKind.u8)) (T.pair (T.pair T.bool T.str) (T.pair (T.arr (32) (T.int IntKind.u8)) (T.int IntKind.i64)))))) x1799 x1798)))), Prod.snd (Prod.snd (Prod.snd (Prod.snd (at_ (dflt (T.pair (T.int IntKind.i64) (T.pair (T.arr (32) (T.int IntKind.u8)) (T.pair (T.pair T.bool T.str) (T.pair (T.arr (32) (T.int IntKind.u8)) (T.int IntKind.i64)))))) x1799 x1798)))))) fun t1809 => bothC (bothC (j1819 (x1798, Prod.snd t1809, x1799, (Prod.fst x1800, Prod.fst (Prod.snd x1800), Prod.fst (Prod.snd (Prod.snd x1800)), Prod.snd (Prod.snd (Prod.snd x1800))), x1801, (Prod.fst (Prod.fst t1809), Prod.fst (Prod.snd (Prod.fst t1809)), Prod.fst (Prod.snd (Prod.snd (Prod.fst t1809))), Prod.snd (Prod.snd (Prod.snd (Prod.fst t1809)))), x1802, x1803, x1804)) (j1819 (x1798, Prod.snd t1809, x1799, (Prod.fst x1800, Prod.fst (Prod.snd x1800), Prod.fst (Prod.snd (Prod.snd x1800)), Prod.snd (Prod.snd (Prod.snd x1800))), x1801, (Prod.fst (Prod.fst t1809), Prod.fst (Prod.snd (Prod.fst t1809)), Prod.fst (Prod.snd (Prod.snd (Prod.fst t1809))), Prod.snd (Prod.snd (Prod.snd (Prod.fst t1809)))), x1802, x1803, x1804))) (j1819 (x1798, Prod.snd t1809, x1799, (Prod.fst x1800, Prod.fst (Prod.snd x1800), Prod.fst (Prod.snd (Prod.snd x1800)), Prod.snd (Prod.snd (Prod.snd x1800))), x1801, (Prod.fst (Prod.fst t1809), Prod.fst (Prod.snd (Prod.fst t1809)), Prod.fst (Prod.snd (Prod.snd (Prod.fst t1809))), Prod.snd (Prod.snd (Prod.snd (Prod.fst t1809)))), x1802, x1803, x1804))))) else j1830 (x1799, (Prod.fst x1800, Prod.fst (Prod.snd x1800), Prod.fst (Prod.snd (Prod.snd x1800)), Prod.snd (Prod.snd (Prod.snd x1800))), x1801, x1802, x1803, x1804)
noncomputable def p_dormouseref26_AllL (k : Nat) (x1796 : Int × List (Vector Int (32)) × List (Vector Int (32) × List UInt8) × List (Vector Int (32) × List UInt8)) (x1797 : List (Int × Vector Int (32) × (Bool × List UInt8) × Vector Int (32) × Int)) : Option ((Int × List (Vector Int (32)) × List (Vector Int (32) × List UInt8) × List (Vector Int (32) × List UInt8)) × Int × List (Int × Vector Int (32) × (Bool × List UInt8) × Vector Int (32) × Int)) :=
  joinC (fun (y : List (Int × Vector Int (32) × (Bool × List UInt8) × Vector Int (32) × Int) × (Int × List (Vector Int (32)) × List (Vector Int (32) × List UInt8) × List (Vector Int (32) × List UInt8)) × Int × List (Vector Int (32)) × List (Vector Int (32) × List UInt8) × List (Vector Int (32) × List UInt8)) => p_dormouseref26_AllL.j0 k y.1 y.2.1 y.2.2.1 y.2.2.2.1 y.2.2.2.2.1 y.2.2.2.2.2) fun (j1830 : List (Int × Vector Int (32) × (Bool × List UInt8) × Vector Int (32) × Int) × (Int × List (Vector Int (32)) × List (Vector Int (32) × List UInt8) × List (Vector Int (32) × List UInt8)) × Int × List (Vector Int (32)) × List (Vector Int (32) × List UInt8) × List (Vector Int (32) × List UInt8) → Option ((Int × List (Vector Int (32)) × List (Vector Int (32) × List UInt8) × List (Vector Int (32) × List UInt8)) × Int × List (Int × Vector Int (32) × (Bool × List UInt8) × Vector Int (32) × Int))) => loopC (fun (r : Int × List (Int × Vector Int (32) × (Bool × List UInt8) × Vector Int (32) × Int) × (Int × List (Vector Int (32)) × List (Vector Int (32) × List UInt8) × List (Vector Int (32) × List UInt8)) × Int × List (Vector Int (32)) × List (Vector Int (32) × List UInt8) × List (Vector Int (32) × List UInt8) → Option ((Int × List (Vector Int (32)) × List (Vector Int (32) × List UInt8) × List (Vector Int (32) × List UInt8)) × Int × List (Int × Vector Int (32) × (Bool × List UInt8) × Vector Int (32) × Int))) y => p_dormouseref26_AllL.b1 k j1830 r y.1 y.2.1 y.2.2.1 y.2.2.2.1 y.2.2.2.2.1 y.2.2.2.2.2.1 y.2.2.2.2.2.2) k ((0 : Int), x1797, (Prod.fst x1796, Prod.fst (Prod.snd x1796), Prod.fst (Prod.snd (Prod.snd x1796)), Prod.snd (Prod.snd (Prod.snd x1796))), (0 : Int), [], [], [])
noncomputable def e_dormouseref26_AllL (k : Nat) : Entry := ⟨Ds.mk [Vd.st (T.pair (T.int IntKind.i64) (T.pair (T.sl (T.arr (32) (T.int IntKind.u8))) (T.pair (T.sl (T.pair (T.arr (32) (T.int IntKind.u8)) T.str)) (T.sl (T.pair (T.arr (32) (T.int IntKind.u8)) T.str))))), Vd.one (Ld.own (0))] [Od.arr (44) (T.pair (T.int IntKind.i64) (T.pair (T.arr (32) (T.int IntKind.u8)) (T.pair (T.pair T.bool T.str) (T.pair (T.arr (32) (T.int IntKind.u8)) (T.int IntKind.i64)))))], Ds.mk [Vd.st (T.pair (T.int IntKind.i64) (T.pair (T.sl (T.arr (32) (T.int IntKind.u8))) (T.pair (T.sl (T.pair (T.arr (32) (T.int IntKind.u8)) T.str)) (T.sl (T.pair (T.arr (32) (T.int IntKind.u8)) T.str))))), Vd.one (Ld.im (T.int IntKind.i64))] [Od.arr (44) (T.pair (T.int IntKind.i64) (T.pair (T.arr (32) (T.int IntKind.u8)) (T.pair (T.pair T.bool T.str) (T.pair (T.arr (32) (T.int IntKind.u8)) (T.int IntKind.i64)))))], fun x => p_dormouseref26_AllL k x.1 x.2⟩
noncomputable def c_dormouseref26_AllL (k : Nat) : Cx := ⟨Try.prog, [(14, e_dormouseref26_May k), (21, e_dormouseref24_May), (22, e_dormouseref26_One k)], [(10, Sd.mk [2, 4] (Ds.mk [Vd.one (Ld.ptr (1) (0)), Vd.one (Ld.ptr (2) (0))] [Od.arr (44) (T.pair (T.int IntKind.i64) (T.pair (T.arr (32) (T.int IntKind.u8)) (T.pair (T.pair T.bool T.str) (T.pair (T.arr (32) (T.int IntKind.u8)) (T.int IntKind.i64))))), Od.blkT (25) (T.pair (T.int IntKind.i64) (T.pair (T.sl (T.arr (32) (T.int IntKind.u8))) (T.pair (T.sl (T.pair (T.arr (32) (T.int IntKind.u8)) T.str)) (T.sl (T.pair (T.arr (32) (T.int IntKind.u8)) T.str))))), Od.blk (25) [Ld.im (T.int IntKind.i64), Ld.own (3), Ld.own (4), Ld.own (5)], Od.arr (42) (T.arr (32) (T.int IntKind.u8)), Od.arr (56) (T.pair (T.arr (32) (T.int IntKind.u8)) T.str), Od.arr (56) (T.pair (T.arr (32) (T.int IntKind.u8)) T.str)]))], [(6, Sd.mk [1, 2, 4, 6, 7, 8] (Ds.mk [Vd.one (Ld.own (0)), Vd.one (Ld.ptr (1) (0)), Vd.one (Ld.ptr (2) (0)), Vd.one (Ld.im (T.int IntKind.i64)), Vd.one (Ld.ptr (3) (0)), Vd.one (Ld.im (T.int IntKind.i64))] [Od.arr (44) (T.pair (T.int IntKind.i64) (T.pair (T.arr (32) (T.int IntKind.u8)) (T.pair (T.pair T.bool T.str) (T.pair (T.arr (32) (T.int IntKind.u8)) (T.int IntKind.i64))))), Od.blkT (25) (T.pair (T.int IntKind.i64) (T.pair (T.sl (T.arr (32) (T.int IntKind.u8))) (T.pair (T.sl (T.pair (T.arr (32) (T.int IntKind.u8)) T.str)) (T.sl (T.pair (T.arr (32) (T.int IntKind.u8)) T.str))))), Od.blk (25) [Ld.im (T.int IntKind.i64), Ld.own (4), Ld.own (5), Ld.own (6)], Od.blkT (25) (T.pair (T.int IntKind.i64) (T.pair (T.sl (T.arr (32) (T.int IntKind.u8))) (T.pair (T.sl (T.pair (T.arr (32) (T.int IntKind.u8)) T.str)) (T.sl (T.pair (T.arr (32) (T.int IntKind.u8)) T.str))))), Od.arr (42) (T.arr (32) (T.int IntKind.u8)), Od.arr (56) (T.pair (T.arr (32) (T.int IntKind.u8)) T.str), Od.arr (56) (T.pair (T.arr (32) (T.int IntKind.u8)) T.str)]))], [(2, Sd.mk [1, 2, 4, 6] (Ds.mk [Vd.one (Ld.own (0)), Vd.one (Ld.ptr (1) (0)), Vd.one (Ld.ptr (2) (0)), Vd.one (Ld.im (T.int IntKind.i64))] [Od.arr (44) (T.pair (T.int IntKind.i64) (T.pair (T.arr (32) (T.int IntKind.u8)) (T.pair (T.pair T.bool T.str) (T.pair (T.arr (32) (T.int IntKind.u8)) (T.int IntKind.i64))))), Od.blkT (25) (T.pair (T.int IntKind.i64) (T.pair (T.sl (T.arr (32) (T.int IntKind.u8))) (T.pair (T.sl (T.pair (T.arr (32) (T.int IntKind.u8)) T.str)) (T.sl (T.pair (T.arr (32) (T.int IntKind.u8)) T.str))))), Od.blk (25) [Ld.im (T.int IntKind.i64), Ld.own (3), Ld.own (4), Ld.own (5)], Od.arr (42) (T.arr (32) (T.int IntKind.u8)), Od.arr (56) (T.pair (T.arr (32) (T.int IntKind.u8)) T.str), Od.arr (56) (T.pair (T.arr (32) (T.int IntKind.u8)) T.str)]))], [(6, ([(0, 1), (1, 2), (2, 2), (3, 2), (4, 1)], [], [], Tr.alt (Tr.step (5) Bool.true (Tr.alt (Tr.step (6) Bool.true (Tr.alt (Tr.alt (Tr.step (7) Bool.true (Tr.alt (Tr.step (8) Bool.true (Tr.step (9) Bool.true (Tr.step (10) Bool.true Tr.done))) (Tr.step (9) Bool.true (Tr.alt (Tr.step (8) Bool.true (Tr.step (10) Bool.true Tr.done)) (Tr.step (10) Bool.true (Tr.step (8) Bool.true Tr.done)))))) (Tr.step (8) Bool.true (Tr.alt (Tr.step (7) Bool.true (Tr.step (9) Bool.true (Tr.step (10) Bool.true Tr.done))) (Tr.step (9) Bool.true (Tr.step (7) Bool.true (Tr.step (10) Bool.true Tr.done)))))) (Tr.step (9) Bool.true (Tr.alt (Tr.step (7) Bool.true (Tr.alt (Tr.step (8) Bool.true (Tr.step (10) Bool.true Tr.done)) (Tr.step (10) Bool.true (Tr.step (8) Bool.true Tr.done)))) (Tr.step (8) Bool.true (Tr.step (7) Bool.true (Tr.step (10) Bool.true Tr.done))))))) (Tr.step (9) Bool.true (Tr.step (6) Bool.true (Tr.alt (Tr.step (7) Bool.true (Tr.alt (Tr.step (8) Bool.true (Tr.step (10) Bool.true Tr.done)) (Tr.step (10) Bool.true (Tr.step (8) Bool.true Tr.done)))) (Tr.step (8) Bool.true (Tr.step (7) Bool.true (Tr.step (10) Bool.true Tr.done)))))))) (Tr.step (9) Bool.true (Tr.step (5) Bool.true (Tr.step (6) Bool.true (Tr.alt (Tr.step (7) Bool.true (Tr.alt (Tr.step (8) Bool.true (Tr.step (10) Bool.true Tr.done)) (Tr.step (10) Bool.true (Tr.step (8) Bool.true Tr.done)))) (Tr.step (8) Bool.true (Tr.step (7) Bool.true (Tr.step (10) Bool.true Tr.done))))))))), (6, ([], [(11, Bool.false)], [], Tr.done))], 1, 41, [], fun _ _ _ => none⟩
theorem q_dormouseref26_AllL (k : Nat) (x : HL (e_dormouseref26_AllL k).pre.ts) : runF (c_dormouseref26_AllL k) k Try.f19 (e_dormouseref26_AllL k).pre (e_dormouseref26_AllL k).post x = (e_dormouseref26_AllL k).fn x := by kernel_rfl
theorem s_dormouseref26_AllL (k : Nat) : Entry.Sound Try.prog 19 (e_dormouseref26_AllL k) := runF_sound (X := c_dormouseref26_AllL k) (pre := (e_dormouseref26_AllL k).pre) (post := (e_dormouseref26_AllL k).post) (q := (e_dormouseref26_AllL k).fn) ⟨(dOk_cons (s_dormouseref26_May k) (dOk_cons (s_dormouseref24_May) (dOk_cons (s_dormouseref26_One k) dOk_nil))), x_ext, x_mo⟩ Try.func19 (q_dormouseref26_AllL k)

/- dormouse/dormouselaw27.ImageDelta: function 8 -/
noncomputable def p_dormouselaw27_ImageDelta.j3 (k : Nat) (x1968 : Bool) : Option Bool :=
  some x1968
noncomputable def p_dormouselaw27_ImageDelta.j5 (k : Nat) (x2005 : Bool) : Option Bool :=
  some x2005
noncomputable def p_dormouselaw27_ImageDelta.j4 (k : Nat) (x2000 : Int) (x2001 : Int × List (Vector Int (32)) × List (Vector Int (32) × List UInt8) × List (Vector Int (32) × List UInt8)) (x2002 : Int × List (Vector Int (32)) × List (Vector Int (32) × List UInt8) × List (Vector Int (32) × List UInt8)) : Option Bool :=
  joinC (p_dormouselaw27_ImageDelta.j5 k) fun (j2006 : Bool → Option Bool) => Option.bind (p_dormouselaw27_awake k) fun t2003 => bif t2003 then bif (x2000 == (0 : Int)) then Option.bind (p_dormouseref26_Same k (Prod.fst x2002, Prod.fst (Prod.snd x2002), Prod.fst (Prod.snd (Prod.snd x2002)), Prod.snd (Prod.snd (Prod.snd x2002))) (Prod.fst x2001, Prod.fst (Prod.snd x2001), Prod.fst (Prod.snd (Prod.snd x2001)), Prod.snd (Prod.snd (Prod.snd x2001)))) fun t2004 => j2006 t2004 else j2006 Bool.false else j2006 Bool.false
noncomputable def p_dormouselaw27_ImageDelta.j7 (k : Nat) (rec1998 : Int × Int × (Int × List (Vector Int (32)) × List (Vector Int (32) × List UInt8) × List (Vector Int (32) × List UInt8)) × (Int × List (Vector Int (32)) × List (Vector Int (32) × List UInt8) × List (Vector Int (32) × List UInt8)) × List (Int × Vector Int (32) × (Bool × List UInt8) × Vector Int (32) × Int) × Int × List (Vector Int (32)) × List (Vector Int (32) × List UInt8) × List (Vector Int (32) × List UInt8) → Option Bool) (x1989 : Int) (x1990 : Int) (x1991 : Bool) (x1992 : Int × List (Vector Int (32)) × List (Vector Int (32) × List UInt8) × List (Vector Int (32) × List UInt8)) (x1993 : Int × List (Vector Int (32)) × List (Vector Int (32) × List UInt8) × List (Vector Int (32) × List UInt8)) (x1994 : List (Int × Vector Int (32) × (Bool × List UInt8) × Vector Int (32) × Int)) (x1995 : Int × List (Vector Int (32)) × List (Vector Int (32) × List UInt8) × List (Vector Int (32) × List UInt8)) : Option Bool :=
  bif x1991 then some Bool.false else rec1998 (x1989, IntKind.wrap IntKind.i64 (x1990 + (1 : Int)), (Prod.fst x1992, Prod.fst (Prod.snd x1992), Prod.fst (Prod.snd (Prod.snd x1992)), Prod.snd (Prod.snd (Prod.snd x1992))), (Prod.fst x1993, Prod.fst (Prod.snd x1993), Prod.fst (Prod.snd (Prod.snd x1993)), Prod.snd (Prod.snd (Prod.snd x1993))), x1994, Prod.fst x1995, Prod.fst (Prod.snd x1995), Prod.fst (Prod.snd (Prod.snd x1995)), Prod.snd (Prod.snd (Prod.snd x1995)))
noncomputable def p_dormouselaw27_ImageDelta.b6 (k : Nat) (j2008 : Int × (Int × List (Vector Int (32)) × List (Vector Int (32) × List UInt8) × List (Vector Int (32) × List UInt8)) × Int × List (Vector Int (32)) × List (Vector Int (32) × List UInt8) × List (Vector Int (32) × List UInt8) → Option Bool) (rec1998 : Int × Int × (Int × List (Vector Int (32)) × List (Vector Int (32) × List UInt8) × List (Vector Int (32) × List UInt8)) × (Int × List (Vector Int (32)) × List (Vector Int (32) × List UInt8) × List (Vector Int (32) × List UInt8)) × List (Int × Vector Int (32) × (Bool × List UInt8) × Vector Int (32) × Int) × Int × List (Vector Int (32)) × List (Vector Int (32) × List UInt8) × List (Vector Int (32) × List UInt8) → Option Bool) (x1972 : Int) (x1973 : Int) (x1974 : Int × List (Vector Int (32)) × List (Vector Int (32) × List UInt8) × List (Vector Int (32) × List UInt8)) (x1975 : Int × List (Vector Int (32)) × List (Vector Int (32) × List UInt8) × List (Vector Int (32) × List UInt8)) (x1976 : List (Int × Vector Int (32) × (Bool × List UInt8) × Vector Int (32) × Int)) (x1977 : Int × List (Vector Int (32)) × List (Vector Int (32) × List UInt8) × List (Vector Int (32) × List UInt8)) : Option Bool :=
  bif (decide (x1973 < (↑(List.length x1976) : Int))) then need ((0 : Int) ≤ x1973 ∧ x1973 < (↑(List.length x1976) : Int)) (Option.bind (p_dormouseref08_Find k (Prod.snd (Prod.snd (Prod.snd x1974))) (Prod.fst (Prod.snd (at_ (dflt (T.pair (T.int IntKind.i64) (T.pair (T.arr (32) (T.int IntKind.u8)) (T.pair (T.pair T.bool T.str) (T.pair (T.arr (32) (T.int IntKind.u8)) (T.int IntKind.i64)))))) x1976 x1973)))) fun t1979 => joinC (fun (y : Int × Int × Bool × (Int × List (Vector Int (32)) × List (Vector Int (32) × List UInt8) × List (Vector Int (32) × List UInt8)) × (Int × List (Vector Int (32)) × List (Vector Int (32) × List UInt8) × List (Vector Int (32) × List UInt8)) × List (Int × Vector Int (32) × (Bool × List UInt8) × Vector Int (32) × Int) × Int × List (Vector Int (32)) × List (Vector Int (32) × List UInt8) × List (Vector Int (32) × List UInt8)) => p_dormouselaw27_ImageDelta.j7 k rec1998 y.1 y.2.1 y.2.2.1 y.2.2.2.1 y.2.2.2.2.1 y.2.2.2.2.2.1 y.2.2.2.2.2.2) fun (j1996 : Int × Int × Bool × (Int × List (Vector Int (32)) × List (Vector Int (32) × List UInt8) × List (Vector Int (32) × List UInt8)) × (Int × List (Vector Int (32)) × List (Vector Int (32) × List UInt8) × List (Vector Int (32) × List UInt8)) × List (Int × Vector Int (32) × (Bool × List UInt8) × Vector Int (32) × Int) × Int × List (Vector Int (32)) × List (Vector Int (32) × List UInt8) × List (Vector Int (32) × List UInt8) → Option Bool) => need ((0 : Int) ≤ x1973 ∧ x1973 < (↑(List.length x1976) : Int)) (bif (Prod.fst (at_ (dflt (T.pair (T.int IntKind.i64) (T.pair (T.arr (32) (T.int IntKind.u8)) (T.pair (T.pair T.bool T.str) (T.pair (T.arr (32) (T.int IntKind.u8)) (T.int IntKind.i64)))))) x1976 x1973) != (1 : Int)) then j1996 (x1972, x1973, Bool.true, (Prod.fst x1974, Prod.fst (Prod.snd x1974), Prod.fst (Prod.snd (Prod.snd x1974)), Prod.snd (Prod.snd (Prod.snd x1974))), (Prod.fst x1975, Prod.fst (Prod.snd x1975), Prod.fst (Prod.snd (Prod.snd x1975)), Prod.snd (Prod.snd (Prod.snd x1975))), x1976, Prod.fst x1977, Prod.fst (Prod.snd x1977), Prod.fst (Prod.snd (Prod.snd x1977)), Prod.snd (Prod.snd (Prod.snd x1977))) else bif (Prod.snd t1979) then need ((0 : Int) ≤ x1973 ∧ x1973 < (↑(List.length x1976) : Int)) (Option.bind (p_dormouseref17_Put (Prod.fst (Prod.fst (Prod.snd (Prod.snd (at_ (dflt (T.pair (T.int IntKind.i64) (T.pair (T.arr (32) (T.int IntKind.u8)) (T.pair (T.pair T.bool T.str) (T.pair (T.arr (32) (T.int IntKind.u8)) (T.int IntKind.i64)))))) x1976 x1973)))), Prod.snd (Prod.fst (Prod.snd (Prod.snd (at_ (dflt (T.pair (T.int IntKind.i64) (T.pair (T.arr (32) (T.int IntKind.u8)) (T.pair (T.pair T.bool T.str) (T.pair (T.arr (32) (T.int IntKind.u8)) (T.int IntKind.i64)))))) x1976 x1973)))))) fun t1982 => bif (Prod.fst t1979 == t1982) then j1996 (x1972, x1973, Bool.true, (Prod.fst x1974, Prod.fst (Prod.snd x1974), Prod.fst (Prod.snd (Prod.snd x1974)), Prod.snd (Prod.snd (Prod.snd x1974))), (Prod.fst x1975, Prod.fst (Prod.snd x1975), Prod.fst (Prod.snd (Prod.snd x1975)), Prod.snd (Prod.snd (Prod.snd x1975))), x1976, Prod.fst x1977, Prod.fst (Prod.snd x1977), Prod.fst (Prod.snd (Prod.snd x1977)), Prod.snd (Prod.snd (Prod.snd x1977))) else bif (decide (x1973 > (0 : Int))) then need ((0 : Int) ≤ IntKind.wrap IntKind.i64 (x1973 - (1 : Int)) ∧ IntKind.wrap IntKind.i64 (x1973 - (1 : Int)) < (↑(List.length x1976) : Int)) (need ((0 : Int) ≤ x1973 ∧ x1973 < (↑(List.length x1976) : Int)) (Option.bind (p_dormouseref10_Less k (Prod.fst (Prod.snd (at_ (dflt (T.pair (T.int IntKind.i64) (T.pair (T.arr (32) (T.int IntKind.u8)) (T.pair (T.pair T.bool T.str) (T.pair (T.arr (32) (T.int IntKind.u8)) (T.int IntKind.i64)))))) x1976 (IntKind.wrap IntKind.i64 (x1973 - (1 : Int)))))) (Prod.fst (Prod.snd (at_ (dflt (T.pair (T.int IntKind.i64) (T.pair (T.arr (32) (T.int IntKind.u8)) (T.pair (T.pair T.bool T.str) (T.pair (T.arr (32) (T.int IntKind.u8)) (T.int IntKind.i64)))))) x1976 x1973)))) fun t1985 => j1996 (x1972, x1973, !t1985, (Prod.fst x1974, Prod.fst (Prod.snd x1974), Prod.fst (Prod.snd (Prod.snd x1974)), Prod.snd (Prod.snd (Prod.snd x1974))), (Prod.fst x1975, Prod.fst (Prod.snd x1975), Prod.fst (Prod.snd (Prod.snd x1975)), Prod.snd (Prod.snd (Prod.snd x1975))), x1976, Prod.fst x1977, Prod.fst (Prod.snd x1977), Prod.fst (Prod.snd (Prod.snd x1977)), Prod.snd (Prod.snd (Prod.snd x1977))))) else j1996 (x1972, x1973, Bool.false, (Prod.fst x1974, Prod.fst (Prod.snd x1974), Prod.fst (Prod.snd (Prod.snd x1974)), Prod.snd (Prod.snd (Prod.snd x1974))), (Prod.fst x1975, Prod.fst (Prod.snd x1975), Prod.fst (Prod.snd (Prod.snd x1975)), Prod.snd (Prod.snd (Prod.snd x1975))), x1976, Prod.fst x1977, Prod.fst (Prod.snd x1977), Prod.fst (Prod.snd (Prod.snd x1977)), Prod.snd (Prod.snd (Prod.snd x1977)))) else bif (decide (x1973 > (0 : Int))) then need ((0 : Int) ≤ IntKind.wrap IntKind.i64 (x1973 - (1 : Int)) ∧ IntKind.wrap IntKind.i64 (x1973 - (1 : Int)) < (↑(List.length x1976) : Int)) (need ((0 : Int) ≤ x1973 ∧ x1973 < (↑(List.length x1976) : Int)) (Option.bind (p_dormouseref10_Less k (Prod.fst (Prod.snd (at_ (dflt (T.pair (T.int IntKind.i64) (T.pair (T.arr (32) (T.int IntKind.u8)) (T.pair (T.pair T.bool T.str) (T.pair (T.arr (32) (T.int IntKind.u8)) (T.int IntKind.i64)))))) x1976 (IntKind.wrap IntKind.i64 (x1973 - (1 : Int)))))) (Prod.fst (Prod.snd (at_ (dflt (T.pair (T.int IntKind.i64) (T.pair (T.arr (32) (T.int IntKind.u8)) (T.pair (T.pair T.bool T.str) (T.pair (T.arr (32) (T.int IntKind.u8)) (T.int IntKind.i64)))))) x1976 x1973)))) fun t1988 => j1996 (x1972, x1973, !t1988, (Prod.fst x1974, Prod.fst (Prod.snd x1974), Prod.fst (Prod.snd (Prod.snd x1974)), Prod.snd (Prod.snd (Prod.snd x1974))), (Prod.fst x1975, Prod.fst (Prod.snd x1975), Prod.fst (Prod.snd (Prod.snd x1975)), Prod.snd (Prod.snd (Prod.snd x1975))), x1976, Prod.fst x1977, Prod.fst (Prod.snd x1977), Prod.fst (Prod.snd (Prod.snd x1977)), Prod.snd (Prod.snd (Prod.snd x1977))))) else j1996 (x1972, x1973, Bool.false, (Prod.fst x1974, Prod.fst (Prod.snd x1974), Prod.fst (Prod.snd (Prod.snd x1974)), Prod.snd (Prod.snd (Prod.snd x1974))), (Prod.fst x1975, Prod.fst (Prod.snd x1975), Prod.fst (Prod.snd (Prod.snd x1975)), Prod.snd (Prod.snd (Prod.snd x1975))), x1976, Prod.fst x1977, Prod.fst (Prod.snd x1977), Prod.fst (Prod.snd (Prod.snd x1977)), Prod.snd (Prod.snd (Prod.snd x1977))))) else j2008 (x1972, (Prod.fst x1975, Prod.fst (Prod.snd x1975), Prod.fst (Prod.snd (Prod.snd x1975)), Prod.snd (Prod.snd (Prod.snd x1975))), Prod.fst x1977, Prod.fst (Prod.snd x1977), Prod.fst (Prod.snd (Prod.snd x1977)), Prod.snd (Prod.snd (Prod.snd x1977)))
noncomputable def p_dormouselaw27_ImageDelta.j2 (k : Nat) (x1962 : Bool) (x1963 : Bool) (x1964 : Int × List (Vector Int (32)) × List (Vector Int (32) × List UInt8) × List (Vector Int (32) × List UInt8)) (x1965 : Int × List (Vector Int (32)) × List (Vector Int (32) × List UInt8) × List (Vector Int (32) × List UInt8)) (x1966 : List (Int × Vector Int (32) × (Bool × List UInt8) × Vector Int (32) × Int)) : Option Bool :=
  bif (!x1962 == x1963) then some Bool.false else bif !x1963 then joinC (p_dormouselaw27_ImageDelta.j3 k) fun (j1969 : Bool → Option Bool) => Option.bind (p_dormouselaw27_awake k) fun t1967 => bif t1967 then j1969 ((↑(List.length x1966) : Int) == (0 : Int)) else j1969 Bool.false else Option.bind (p_dormouseref26_AllL k (Prod.fst x1964, Prod.fst (Prod.snd x1964), Prod.fst (Prod.snd (Prod.snd x1964)), Prod.snd (Prod.snd (Prod.snd x1964))) x1966) fun t1971 => joinC (fun (y : Int × (Int × List (Vector Int (32)) × List (Vector Int (32) × List UInt8) × List (Vector Int (32) × List UInt8)) × Int × List (Vector Int (32)) × List (Vector Int (32) × List UInt8) × List (Vector Int (32) × List UInt8)) => p_dormouselaw27_ImageDelta.j4 k y.1 y.2.1 y.2.2) fun (j2008 : Int × (Int × List (Vector Int (32)) × List (Vector Int (32) × List UInt8) × List (Vector Int (32) × List UInt8)) × Int × List (Vector Int (32)) × List (Vector Int (32) × List UInt8) × List (Vector Int (32) × List UInt8) → Option Bool) => loopC (fun (r : Int × Int × (Int × List (Vector Int (32)) × List (Vector Int (32) × List UInt8) × List (Vector Int (32) × List UInt8)) × (Int × List (Vector Int (32)) × List (Vector Int (32) × List UInt8) × List (Vector Int (32) × List UInt8)) × List (Int × Vector Int (32) × (Bool × List UInt8) × Vector Int (32) × Int) × Int × List (Vector Int (32)) × List (Vector Int (32) × List UInt8) × List (Vector Int (32) × List UInt8) → Option Bool) y => p_dormouselaw27_ImageDelta.b6 k j2008 r y.1 y.2.1 y.2.2.1 y.2.2.2.1 y.2.2.2.2.1 y.2.2.2.2.2) k (Prod.fst (Prod.snd t1971), (0 : Int), (Prod.fst x1964, Prod.fst (Prod.snd x1964), Prod.fst (Prod.snd (Prod.snd x1964)), Prod.snd (Prod.snd (Prod.snd x1964))), (Prod.fst x1965, Prod.fst (Prod.snd x1965), Prod.fst (Prod.snd (Prod.snd x1965)), Prod.snd (Prod.snd (Prod.snd x1965))), Prod.snd (Prod.snd t1971), Prod.fst (Prod.fst t1971), Prod.fst (Prod.snd (Prod.fst t1971)), Prod.fst (Prod.snd (Prod.snd (Prod.fst t1971))), Prod.snd (Prod.snd (Prod.snd (Prod.fst t1971))))
noncomputable def p_dormouselaw27_ImageDelta.j9 (k : Nat) (rec1960 : Bool × Bool × Int × (Int × List (Vector Int (32)) × List (Vector Int (32) × List UInt8) × List (Vector Int (32) × List UInt8)) × (Int × List (Vector Int (32)) × List (Vector Int (32) × List UInt8) × List (Vector Int (32) × List UInt8)) × List (Int × Vector Int (32) × (Bool × List UInt8) × Vector Int (32) × Int) → Option Bool) (x1952 : Bool) (x1953 : Bool) (x1954 : Int) (x1955 : Int × List (Vector Int (32)) × List (Vector Int (32) × List UInt8) × List (Vector Int (32) × List UInt8)) (x1956 : Int × List (Vector Int (32)) × List (Vector Int (32) × List UInt8) × List (Vector Int (32) × List UInt8)) (x1957 : List (Int × Vector Int (32) × (Bool × List UInt8) × Vector Int (32) × Int)) : Option Bool :=
  rec1960 (x1952, x1953, IntKind.wrap IntKind.i64 (x1954 + (1 : Int)), (Prod.fst x1955, Prod.fst (Prod.snd x1955), Prod.fst (Prod.snd (Prod.snd x1955)), Prod.snd (Prod.snd (Prod.snd x1955))), (Prod.fst x1956, Prod.fst (Prod.snd x1956), Prod.fst (Prod.snd (Prod.snd x1956)), Prod.snd (Prod.snd (Prod.snd x1956))), x1957)
noncomputable def p_dormouselaw27_ImageDelta.b8 (k : Nat) (j2010 : Bool × Bool × (Int × List (Vector Int (32)) × List (Vector Int (32) × List UInt8) × List (Vector Int (32) × List UInt8)) × (Int × List (Vector Int (32)) × List (Vector Int (32) × List UInt8) × List (Vector Int (32) × List UInt8)) × List (Int × Vector Int (32) × (Bool × List UInt8) × Vector Int (32) × Int) → Option Bool) (rec1960 : Bool × Bool × Int × (Int × List (Vector Int (32)) × List (Vector Int (32) × List UInt8) × List (Vector Int (32) × List UInt8)) × (Int × List (Vector Int (32)) × List (Vector Int (32) × List UInt8) × List (Vector Int (32) × List UInt8)) × List (Int × Vector Int (32) × (Bool × List UInt8) × Vector Int (32) × Int) → Option Bool) (x1944 : Bool) (x1945 : Bool) (x1946 : Int) (x1947 : Int × List (Vector Int (32)) × List (Vector Int (32) × List UInt8) × List (Vector Int (32) × List UInt8)) (x1948 : Int × List (Vector Int (32)) × List (Vector Int (32) × List UInt8) × List (Vector Int (32) × List UInt8)) (x1949 : List (Int × Vector Int (32) × (Bool × List UInt8) × Vector Int (32) × Int)) : Option Bool :=
  bif (decide (x1946 < (↑(List.length (Prod.snd (Prod.snd (Prod.snd x1947)))) : Int))) then need ((0 : Int) ≤ x1946 ∧ x1946 < (↑(List.length (Prod.snd (Prod.snd (Prod.snd x1947)))) : Int)) (Option.bind (p_dormouseref08_Find k (Prod.snd (Prod.snd (Prod.snd x1948))) (Prod.fst (at_ (dflt (T.pair (T.arr (32) (T.int IntKind.u8)) T.str)) (Prod.snd (Prod.snd (Prod.snd x1947))) x1946))) fun t1951 => joinC (fun (y : Bool × Bool × Int × (Int × List (Vector Int (32)) × List (Vector Int (32) × List UInt8) × List (Vector Int (32) × List UInt8)) × (Int × List (Vector Int (32)) × List (Vector Int (32) × List UInt8) × List (Vector Int (32) × List UInt8)) × List (Int × Vector Int (32) × (Bool × List UInt8) × Vector Int (32) × Int)) => p_dormouselaw27_ImageDelta.j9 k rec1960 y.1 y.2.1 y.2.2.1 y.2.2.2.1 y.2.2.2.2.1 y.2.2.2.2.2) fun (j1958 : Bool × Bool × Int × (Int × List (Vector Int (32)) × List (Vector Int (32) × List UInt8) × List (Vector Int (32) × List UInt8)) × (Int × List (Vector Int (32)) × List (Vector Int (32) × List UInt8) × List (Vector Int (32) × List UInt8)) × List (Int × Vector Int (32) × (Bool × List UInt8) × Vector Int (32) × Int) → Option Bool) => bif x1945 then j1958 (x1944, Prod.snd t1951, x1946, (Prod.fst x1947, Prod.fst (Prod.snd x1947), Prod.fst (Prod.snd (Prod.snd x1947)), Prod.snd (Prod.snd (Prod.snd x1947))), (Prod.fst x1948, Prod.fst (Prod.snd x1948), Prod.fst (Prod.snd (Prod.snd x1948)), Prod.snd (Prod.snd (Prod.snd x1948))), x1949) else j1958 (x1944, Bool.false, x1946, (Prod.fst x1947, Prod.fst (Prod.snd x1947), Prod.fst (Prod.snd (Prod.snd x1947)), Prod.snd (Prod.snd (Prod.snd x1947))), (Prod.fst x1948, Prod.fst (Prod.snd x1948), Prod.fst (Prod.snd (Prod.snd x1948)), Prod.snd (Prod.snd (Prod.snd x1948))), x1949)) else j2010 (x1944, x1945, (Prod.fst x1947, Prod.fst (Prod.snd x1947), Prod.fst (Prod.snd (Prod.snd x1947)), Prod.snd (Prod.snd (Prod.snd x1947))), (Prod.fst x1948, Prod.fst (Prod.snd x1948), Prod.fst (Prod.snd (Prod.snd x1948)), Prod.snd (Prod.snd (Prod.snd x1948))), x1949)
noncomputable def p_dormouselaw27_ImageDelta.j1 (k : Nat) (x1937 : Bool) (x1938 : Bool) (x1939 : Int × List (Vector Int (32)) × List (Vector Int (32) × List UInt8) × List (Vector Int (32) × List UInt8)) (x1940 : Int × List (Vector Int (32)) × List (Vector Int (32) × List UInt8) × List (Vector Int (32) × List UInt8)) (x1941 : List (Int × Vector Int (32) × (Bool × List UInt8) × Vector Int (32) × Int)) : Option Bool :=
  joinC (fun (y : Bool × Bool × (Int × List (Vector Int (32)) × List (Vector Int (32) × List UInt8) × List (Vector Int (32) × List UInt8)) × (Int × List (Vector Int (32)) × List (Vector Int (32) × List UInt8) × List (Vector Int (32) × List UInt8)) × List (Int × Vector Int (32) × (Bool × List UInt8) × Vector Int (32) × Int)) => p_dormouselaw27_ImageDelta.j2 k y.1 y.2.1 y.2.2.1 y.2.2.2.1 y.2.2.2.2) fun (j2010 : Bool × Bool × (Int × List (Vector Int (32)) × List (Vector Int (32) × List UInt8) × List (Vector Int (32) × List UInt8)) × (Int × List (Vector Int (32)) × List (Vector Int (32) × List UInt8) × List (Vector Int (32) × List UInt8)) × List (Int × Vector Int (32) × (Bool × List UInt8) × Vector Int (32) × Int) → Option Bool) => loopC (fun (r : Bool × Bool × Int × (Int × List (Vector Int (32)) × List (Vector Int (32) × List UInt8) × List (Vector Int (32) × List UInt8)) × (Int × List (Vector Int (32)) × List (Vector Int (32) × List UInt8) × List (Vector Int (32) × List UInt8)) × List (Int × Vector Int (32) × (Bool × List UInt8) × Vector Int (32) × Int) → Option Bool) y => p_dormouselaw27_ImageDelta.b8 k j2010 r y.1 y.2.1 y.2.2.1 y.2.2.2.1 y.2.2.2.2.1 y.2.2.2.2.2) k (x1937, x1938, (0 : Int), (Prod.fst x1939, Prod.fst (Prod.snd x1939), Prod.fst (Prod.snd (Prod.snd x1939)), Prod.snd (Prod.snd (Prod.snd x1939))), (Prod.fst x1940, Prod.fst (Prod.snd x1940), Prod.fst (Prod.snd (Prod.snd x1940)), Prod.snd (Prod.snd (Prod.snd x1940))), x1941)
noncomputable def p_dormouselaw27_ImageDelta.j0 (k : Nat) (x1927 : Bool) (x1928 : Int × List (Vector Int (32)) × List (Vector Int (32) × List UInt8) × List (Vector Int (32) × List UInt8)) (x1929 : Int × List (Vector Int (32)) × List (Vector Int (32) × List UInt8) × List (Vector Int (32) × List UInt8)) : Option Bool :=
  bif x1927 then Option.bind (p_dormouselaw27_awake k) fun t1932 => some t1932 else Option.bind (p_image_Delta k (Prod.fst x1928, Prod.fst (Prod.snd x1928), Prod.fst (Prod.snd (Prod.snd x1928)), Prod.snd (Prod.snd (Prod.snd x1928))) (Prod.fst x1929, Prod.fst (Prod.snd x1929), Prod.fst (Prod.snd (Prod.snd x1929)), Prod.snd (Prod.snd (Prod.snd x1929)))) fun t1933 => joinC (fun (y : Bool × Bool × (Int × List (Vector Int (32)) × List (Vector Int (32) × List UInt8) × List (Vector Int (32) × List UInt8)) × (Int × List (Vector Int (32)) × List (Vector Int (32) × List UInt8) × List (Vector Int (32) × List UInt8)) × List (Int × Vector Int (32) × (Bool × List UInt8) × Vector Int (32) × Int)) => p_dormouselaw27_ImageDelta.j1 k y.1 y.2.1 y.2.2.1 y.2.2.2.1 y.2.2.2.2) fun (j1942 : Bool × Bool × (Int × List (Vector Int (32)) × List (Vector Int (32) × List UInt8) × List (Vector Int (32) × List UInt8)) × (Int × List (Vector Int (32)) × List (Vector Int (32) × List UInt8) × List (Vector Int (32) × List UInt8)) × List (Int × Vector Int (32) × (Bool × List UInt8) × Vector Int (32) × Int) → Option Bool) => Option.bind (p_dormouseref26_May k (Prod.fst x1928, Prod.fst (Prod.snd x1928), Prod.fst (Prod.snd (Prod.snd x1928)), Prod.snd (Prod.snd (Prod.snd x1928)))) fun t1934 => bif t1934 then Option.bind (p_dormouseref26_May k (Prod.fst x1929, Prod.fst (Prod.snd x1929), Prod.fst (Prod.snd (Prod.snd x1929)), Prod.snd (Prod.snd (Prod.snd x1929)))) fun t1935 => bif t1935 then Option.bind (p_dormouseref26_Same k (Prod.fst x1928, Prod.fst (Prod.snd x1928), Prod.fst (Prod.snd (Prod.snd x1928)), []) (Prod.fst x1929, Prod.fst (Prod.snd x1929), Prod.fst (Prod.snd (Prod.snd x1929)), [])) fun t1936 => j1942 (Prod.fst t1933, t1936, (Prod.fst x1928, Prod.fst (Prod.snd x1928), Prod.fst (Prod.snd (Prod.snd x1928)), Prod.snd (Prod.snd (Prod.snd x1928))), (Prod.fst x1929, Prod.fst (Prod.snd x1929), Prod.fst (Prod.snd (Prod.snd x1929)), Prod.snd (Prod.snd (Prod.snd x1929))), Prod.snd t1933) else j1942 (Prod.fst t1933, Bool.false, (Prod.fst x1928, Prod.fst (Prod.snd x1928), Prod.fst (Prod.snd (Prod.snd x1928)), Prod.snd (Prod.snd (Prod.snd x1928))), (Prod.fst x1929, Prod.fst (Prod.snd x1929), Prod.fst (Prod.snd (Prod.snd x1929)), Prod.snd (Prod.snd (Prod.snd x1929))), Prod.snd t1933) else j1942 (Prod.fst t1933, Bool.false, (Prod.fst x1928, Prod.fst (Prod.snd x1928), Prod.fst (Prod.snd (Prod.snd x1928)), Prod.snd (Prod.snd (Prod.snd x1928))), (Prod.fst x1929, Prod.fst (Prod.snd x1929), Prod.fst (Prod.snd (Prod.snd x1929)), Prod.snd (Prod.snd (Prod.snd x1929))), Prod.snd t1933)
noncomputable def p_dormouselaw27_ImageDelta (k : Nat) (x1923 : Int × List (Vector Int (32)) × List (Vector Int (32) × List UInt8) × List (Vector Int (32) × List UInt8)) (x1924 : Int × List (Vector Int (32)) × List (Vector Int (32) × List UInt8) × List (Vector Int (32) × List UInt8)) : Option Bool :=
  joinC (fun (y : Bool × (Int × List (Vector Int (32)) × List (Vector Int (32) × List UInt8) × List (Vector Int (32) × List UInt8)) × Int × List (Vector Int (32)) × List (Vector Int (32) × List UInt8) × List (Vector Int (32) × List UInt8)) => p_dormouselaw27_ImageDelta.j0 k y.1 y.2.1 y.2.2) fun (j1930 : Bool × (Int × List (Vector Int (32)) × List (Vector Int (32) × List UInt8) × List (Vector Int (32) × List UInt8)) × Int × List (Vector Int (32)) × List (Vector Int (32) × List UInt8) × List (Vector Int (32) × List UInt8) → Option Bool) => Option.bind (p_dormouselaw26_Light k (Prod.fst x1923, Prod.fst (Prod.snd x1923), Prod.fst (Prod.snd (Prod.snd x1923)), Prod.snd (Prod.snd (Prod.snd x1923)))) fun t1925 => bif !t1925 then j1930 (Bool.true, (Prod.fst x1923, Prod.fst (Prod.snd x1923), Prod.fst (Prod.snd (Prod.snd x1923)), Prod.snd (Prod.snd (Prod.snd x1923))), Prod.fst x1924, Prod.fst (Prod.snd x1924), Prod.fst (Prod.snd (Prod.snd x1924)), Prod.snd (Prod.snd (Prod.snd x1924))) else Option.bind (p_dormouselaw26_Light k (Prod.fst x1924, Prod.fst (Prod.snd x1924), Prod.fst (Prod.snd (Prod.snd x1924)), Prod.snd (Prod.snd (Prod.snd x1924)))) fun t1926 => j1930 (!t1926, (Prod.fst x1923, Prod.fst (Prod.snd x1923), Prod.fst (Prod.snd (Prod.snd x1923)), Prod.snd (Prod.snd (Prod.snd x1923))), Prod.fst x1924, Prod.fst (Prod.snd x1924), Prod.fst (Prod.snd (Prod.snd x1924)), Prod.snd (Prod.snd (Prod.snd x1924)))
noncomputable def e_dormouselaw27_ImageDelta (k : Nat) : Entry := ⟨Ds.mk [Vd.st (T.pair (T.int IntKind.i64) (T.pair (T.sl (T.arr (32) (T.int IntKind.u8))) (T.pair (T.sl (T.pair (T.arr (32) (T.int IntKind.u8)) T.str)) (T.sl (T.pair (T.arr (32) (T.int IntKind.u8)) T.str))))), Vd.st (T.pair (T.int IntKind.i64) (T.pair (T.sl (T.arr (32) (T.int IntKind.u8))) (T.pair (T.sl (T.pair (T.arr (32) (T.int IntKind.u8)) T.str)) (T.sl (T.pair (T.arr (32) (T.int IntKind.u8)) T.str)))))] [], Ds.mk [Vd.one (Ld.im T.bool)] [], fun x => p_dormouselaw27_ImageDelta k x.1 x.2⟩
noncomputable def c_dormouselaw27_ImageDelta (k : Nat) : Cx := ⟨Try.prog, [(10, e_dormouselaw26_Light k), (39, e_image_Delta k), (31, e_dormouselaw27_awake k), (41, e_dormouseref10_Less k), (14, e_dormouseref26_May k), (16, e_dormouseref26_Same k), (40, e_dormouseref08_Find k), (30, e_dormouseref17_Put), (19, e_dormouseref26_AllL k)], [(10, Sd.mk [2, 3, 5, 6, 7] (Ds.mk [Vd.one (Ld.ptr (0) (0)), Vd.one (Ld.ptr (1) (0)), Vd.one (Ld.own (2)), Vd.one (Ld.im T.bool), Vd.one (Ld.im T.bool)] [Od.blkT (25) (T.pair (T.int IntKind.i64) (T.pair (T.sl (T.arr (32) (T.int IntKind.u8))) (T.pair (T.sl (T.pair (T.arr (32) (T.int IntKind.u8)) T.str)) (T.sl (T.pair (T.arr (32) (T.int IntKind.u8)) T.str))))), Od.blkT (25) (T.pair (T.int IntKind.i64) (T.pair (T.sl (T.arr (32) (T.int IntKind.u8))) (T.pair (T.sl (T.pair (T.arr (32) (T.int IntKind.u8)) T.str)) (T.sl (T.pair (T.arr (32) (T.int IntKind.u8)) T.str))))), Od.arr (44) (T.pair (T.int IntKind.i64) (T.pair (T.arr (32) (T.int IntKind.u8)) (T.pair (T.pair T.bool T.str) (T.pair (T.arr (32) (T.int IntKind.u8)) (T.int IntKind.i64)))))])), (21, Sd.mk [3, 11, 12] (Ds.mk [Vd.one (Ld.ptr (0) (0)), Vd.one (Ld.ptr (1) (0)), Vd.one (Ld.im (T.int IntKind.i64))] [Od.blkT (25) (T.pair (T.int IntKind.i64) (T.pair (T.sl (T.arr (32) (T.int IntKind.u8))) (T.pair (T.sl (T.pair (T.arr (32) (T.int IntKind.u8)) T.str)) (T.sl (T.pair (T.arr (32) (T.int IntKind.u8)) T.str))))), Od.blkT (25) (T.pair (T.int IntKind.i64) (T.pair (T.sl (T.arr (32) (T.int IntKind.u8))) (T.pair (T.sl (T.pair (T.arr (32) (T.int IntKind.u8)) T.str)) (T.sl (T.pair (T.arr (32) (T.int IntKind.u8)) T.str)))))]))], [(1, Sd.mk [2, 3, 23] (Ds.mk [Vd.one (Ld.ptr (0) (0)), Vd.one (Ld.ptr (1) (0)), Vd.one (Ld.im T.bool)] [Od.blkT (25) (T.pair (T.int IntKind.i64) (T.pair (T.sl (T.arr (32) (T.int IntKind.u8))) (T.pair (T.sl (T.pair (T.arr (32) (T.int IntKind.u8)) T.str)) (T.sl (T.pair (T.arr (32) (T.int IntKind.u8)) T.str))))), Od.blkT (25) (T.pair (T.int IntKind.i64) (T.pair (T.sl (T.arr (32) (T.int IntKind.u8))) (T.pair (T.sl (T.pair (T.arr (32) (T.int IntKind.u8)) T.str)) (T.sl (T.pair (T.arr (32) (T.int IntKind.u8)) T.str)))))])), (4, Sd.mk [2, 3, 5, 6, 7] (Ds.mk [Vd.one (Ld.ptr (0) (0)), Vd.one (Ld.ptr (1) (0)), Vd.one (Ld.own (2)), Vd.one (Ld.im T.bool), Vd.one (Ld.im T.bool)] [Od.blkT (25) (T.pair (T.int IntKind.i64) (T.pair (T.sl (T.arr (32) (T.int IntKind.u8))) (T.pair (T.sl (T.pair (T.arr (32) (T.int IntKind.u8)) T.str)) (T.sl (T.pair (T.arr (32) (T.int IntKind.u8)) T.str))))), Od.blkT (25) (T.pair (T.int IntKind.i64) (T.pair (T.sl (T.arr (32) (T.int IntKind.u8))) (T.pair (T.sl (T.pair (T.arr (32) (T.int IntKind.u8)) T.str)) (T.sl (T.pair (T.arr (32) (T.int IntKind.u8)) T.str))))), Od.arr (44) (T.pair (T.int IntKind.i64) (T.pair (T.arr (32) (T.int IntKind.u8)) (T.pair (T.pair T.bool T.str) (T.pair (T.arr (32) (T.int IntKind.u8)) (T.int IntKind.i64)))))])), (9, Sd.mk [2, 3, 5, 6, 7, 8] (Ds.mk [Vd.one (Ld.ptr (0) (0)), Vd.one (Ld.ptr (1) (0)), Vd.one (Ld.own (2)), Vd.one (Ld.im T.bool), Vd.one (Ld.im T.bool), Vd.one (Ld.im (T.int IntKind.i64))] [Od.blkT (25) (T.pair (T.int IntKind.i64) (T.pair (T.sl (T.arr (32) (T.int IntKind.u8))) (T.pair (T.sl (T.pair (T.arr (32) (T.int IntKind.u8)) T.str)) (T.sl (T.pair (T.arr (32) (T.int IntKind.u8)) T.str))))), Od.blkT (25) (T.pair (T.int IntKind.i64) (T.pair (T.sl (T.arr (32) (T.int IntKind.u8))) (T.pair (T.sl (T.pair (T.arr (32) (T.int IntKind.u8)) T.str)) (T.sl (T.pair (T.arr (32) (T.int IntKind.u8)) T.str))))), Od.arr (44) (T.pair (T.int IntKind.i64) (T.pair (T.arr (32) (T.int IntKind.u8)) (T.pair (T.pair T.bool T.str) (T.pair (T.arr (32) (T.int IntKind.u8)) (T.int IntKind.i64)))))])), (13, Sd.mk [4] (Ds.mk [Vd.one (Ld.im T.bool)] [])), (19, Sd.mk [2, 3, 5, 11, 12, 13, 148] (Ds.mk [Vd.one (Ld.ptr (0) (0)), Vd.one (Ld.ptr (1) (0)), Vd.one (Ld.own (2)), Vd.one (Ld.ptr (3) (0)), Vd.one (Ld.im (T.int IntKind.i64)), Vd.one (Ld.im (T.int IntKind.i64)), Vd.one (Ld.im T.bool)] [Od.blkT (25) (T.pair (T.int IntKind.i64) (T.pair (T.sl (T.arr (32) (T.int IntKind.u8))) (T.pair (T.sl (T.pair (T.arr (32) (T.int IntKind.u8)) T.str)) (T.sl (T.pair (T.arr (32) (T.int IntKind.u8)) T.str))))), Od.blkT (25) (T.pair (T.int IntKind.i64) (T.pair (T.sl (T.arr (32) (T.int IntKind.u8))) (T.pair (T.sl (T.pair (T.arr (32) (T.int IntKind.u8)) T.str)) (T.sl (T.pair (T.arr (32) (T.int IntKind.u8)) T.str))))), Od.arr (44) (T.pair (T.int IntKind.i64) (T.pair (T.arr (32) (T.int IntKind.u8)) (T.pair (T.pair T.bool T.str) (T.pair (T.arr (32) (T.int IntKind.u8)) (T.int IntKind.i64))))), Od.blkT (25) (T.pair (T.int IntKind.i64) (T.pair (T.sl (T.arr (32) (T.int IntKind.u8))) (T.pair (T.sl (T.pair (T.arr (32) (T.int IntKind.u8)) T.str)) (T.sl (T.pair (T.arr (32) (T.int IntKind.u8)) T.str)))))])), (21, Sd.mk [4] (Ds.mk [Vd.one (Ld.im T.bool)] []))], [(6, Sd.mk [2, 3, 5, 6, 7, 8] (Ds.mk [Vd.one (Ld.ptr (0) (0)), Vd.one (Ld.ptr (1) (0)), Vd.one (Ld.own (2)), Vd.one (Ld.im T.bool), Vd.one (Ld.im T.bool), Vd.one (Ld.im (T.int IntKind.i64))] [Od.blkT (25) (T.pair (T.int IntKind.i64) (T.pair (T.sl (T.arr (32) (T.int IntKind.u8))) (T.pair (T.sl (T.pair (T.arr (32) (T.int IntKind.u8)) T.str)) (T.sl (T.pair (T.arr (32) (T.int IntKind.u8)) T.str))))), Od.blkT (25) (T.pair (T.int IntKind.i64) (T.pair (T.sl (T.arr (32) (T.int IntKind.u8))) (T.pair (T.sl (T.pair (T.arr (32) (T.int IntKind.u8)) T.str)) (T.sl (T.pair (T.arr (32) (T.int IntKind.u8)) T.str))))), Od.arr (44) (T.pair (T.int IntKind.i64) (T.pair (T.arr (32) (T.int IntKind.u8)) (T.pair (T.pair T.bool T.str) (T.pair (T.arr (32) (T.int IntKind.u8)) (T.int IntKind.i64)))))])), (16, Sd.mk [2, 3, 5, 11, 12, 13] (Ds.mk [Vd.one (Ld.ptr (0) (0)), Vd.one (Ld.ptr (1) (0)), Vd.one (Ld.own (2)), Vd.one (Ld.ptr (3) (0)), Vd.one (Ld.im (T.int IntKind.i64)), Vd.one (Ld.im (T.int IntKind.i64))] [Od.blkT (25) (T.pair (T.int IntKind.i64) (T.pair (T.sl (T.arr (32) (T.int IntKind.u8))) (T.pair (T.sl (T.pair (T.arr (32) (T.int IntKind.u8)) T.str)) (T.sl (T.pair (T.arr (32) (T.int IntKind.u8)) T.str))))), Od.blkT (25) (T.pair (T.int IntKind.i64) (T.pair (T.sl (T.arr (32) (T.int IntKind.u8))) (T.pair (T.sl (T.pair (T.arr (32) (T.int IntKind.u8)) T.str)) (T.sl (T.pair (T.arr (32) (T.int IntKind.u8)) T.str))))), Od.arr (44) (T.pair (T.int IntKind.i64) (T.pair (T.arr (32) (T.int IntKind.u8)) (T.pair (T.pair T.bool T.str) (T.pair (T.arr (32) (T.int IntKind.u8)) (T.int IntKind.i64))))), Od.blkT (25) (T.pair (T.int IntKind.i64) (T.pair (T.sl (T.arr (32) (T.int IntKind.u8))) (T.pair (T.sl (T.pair (T.arr (32) (T.int IntKind.u8)) T.str)) (T.sl (T.pair (T.arr (32) (T.int IntKind.u8)) T.str)))))]))], [(8, ([(0, 2), (1, 1), (2, 2), (3, 1), (4, 2), (5, 2), (6, 2), (7, 1), (8, 0), (9, 2), (10, 2), (11, 2), (12, 2), (13, 2)], [], [], Tr.done)), (18, ([(0, 2), (1, 1), (2, 2), (3, 2), (4, 2), (5, 2), (6, 1), (7, 0), (8, 2), (9, 2), (10, 2), (11, 2), (12, 2)], [], [], Tr.done)), (19, ([(0, 2), (1, 2), (2, 2), (3, 2), (4, 1), (5, 2), (6, 2), (7, 2), (8, 2), (9, 2), (10, 2), (11, 2), (12, 2), (13, 2), (14, 1), (15, 0), (16, 2), (17, 2), (18, 2), (19, 2), (20, 2), (21, 2), (22, 2), (23, 2), (24, 2), (25, 2), (26, 2), (27, 2), (28, 1), (29, 2), (30, 2), (31, 2), (32, 2), (33, 1), (34, 0), (35, 2), (36, 2), (37, 2)], [], [], Tr.done))], 0, 159, [], fun _ _ _ => none⟩
theorem q_dormouselaw27_ImageDelta (k : Nat) (x : HL (e_dormouselaw27_ImageDelta k).pre.ts) : runF (c_dormouselaw27_ImageDelta k) k Try.f8 (e_dormouselaw27_ImageDelta k).pre (e_dormouselaw27_ImageDelta k).post x = (e_dormouselaw27_ImageDelta k).fn x := by kernel_rfl
theorem s_dormouselaw27_ImageDelta (k : Nat) : Entry.Sound Try.prog 8 (e_dormouselaw27_ImageDelta k) := runF_sound (X := c_dormouselaw27_ImageDelta k) (pre := (e_dormouselaw27_ImageDelta k).pre) (post := (e_dormouselaw27_ImageDelta k).post) (q := (e_dormouselaw27_ImageDelta k).fn) ⟨(dOk_cons (s_dormouselaw26_Light k) (dOk_cons (s_image_Delta k) (dOk_cons (s_dormouselaw27_awake k) (dOk_cons (s_dormouseref10_Less k) (dOk_cons (s_dormouseref26_May k) (dOk_cons (s_dormouseref26_Same k) (dOk_cons (s_dormouseref08_Find k) (dOk_cons (s_dormouseref17_Put) (dOk_cons (s_dormouseref26_AllL k) dOk_nil))))))))), x_ext, x_mo⟩ Try.func8 (q_dormouselaw27_ImageDelta k)
end
end Go.Dor
end

section
/- ImageDelta, BEHIND ITS WALK. -/
set_option linter.unusedVariables false
set_option linter.unusedSimpArgs false
namespace Go.Dor.Fd
open Go.Proofs Go.Dor
variable {m : Nat}

theorem refAllL_eq {p : PL} {l : List RC} (H : Inv l.length p) (hl : l.length < 900) : p_dormouseref26_AllL (m + 1000) p l = some ((allM p l).1, (allM p l).2, l) := by
  unfold p_dormouseref26_AllL joinC
  have HH : ∀ n fuel i (p : PL), l.length - i = n → n < fuel → i ≤ l.length → Inv n p → loopC (fun (r : Int × List (Int × Vector Int (32) × (Bool × List UInt8) × Vector Int (32) × Int) × (Int × List (Vector Int (32)) × List (Vector Int (32) × List UInt8) × List (Vector Int (32) × List UInt8)) × Int × List (Vector Int (32)) × List (Vector Int (32) × List UInt8) × List (Vector Int (32) × List UInt8) → Option ((Int × List (Vector Int (32)) × List (Vector Int (32) × List UInt8) × List (Vector Int (32) × List UInt8)) × Int × List (Int × Vector Int (32) × (Bool × List UInt8) × Vector Int (32) × Int))) y => p_dormouseref26_AllL.b1 (m + 1000) (fun y => p_dormouseref26_AllL.j0 (m + 1000) y.1 y.2.1 y.2.2.1 y.2.2.2.1 y.2.2.2.2.1 y.2.2.2.2.2) r y.1 y.2.1 y.2.2.1 y.2.2.2.1 y.2.2.2.2.1 y.2.2.2.2.2.1 y.2.2.2.2.2.2) fuel ((i : Int), l, p, (0 : Int), [], [], []) = some ((allM p (l.drop i)).1, (allM p (l.drop i)).2, l) := by
    intro n
    induction n with
    | zero =>
      intro fuel i p h1 h2 h3 hI
      obtain ⟨fuel, rfl⟩ : ∃ f, fuel = f + 1 := ⟨fuel - 1, by omega⟩
      have e : i = l.length := by omega
      subst e
      obtain ⟨e, f, pp, c⟩ := p
      have hf := hI.fl
      have hp := hI.pl
      have hc := hI.cl
      dsimp only at hf hp hc
      rw [loopC_s]
      dsimp only
      unfold p_dormouseref26_AllL.b1 p_dormouseref26_AllL.j0
      dsimp only
      rw [decide_eq_false (Int.lt_irrefl _), cond_false, may_eqP (by omega) (by omega), Option.bind_some, List.drop_length]
      unfold allM
      cases hm : mayP (e, f, pp, c) <;> rfl
    | succ n ih =>
      intro fuel i p h1 h2 h3 hI
      obtain ⟨fuel, rfl⟩ : ∃ f, fuel = f + 1 := ⟨fuel - 1, by omega⟩
      have hi : i < l.length := by omega
      have ih' := fun q => ih fuel (i + 1) q (by omega) (by omega) (by omega)
      rw [loopC_s]
      dsimp only
      generalize loopC (fun (r : Int × List (Int × Vector Int (32) × (Bool × List UInt8) × Vector Int (32) × Int) × (Int × List (Vector Int (32)) × List (Vector Int (32) × List UInt8) × List (Vector Int (32) × List UInt8)) × Int × List (Vector Int (32)) × List (Vector Int (32) × List UInt8) × List (Vector Int (32) × List UInt8) → Option ((Int × List (Vector Int (32)) × List (Vector Int (32) × List UInt8) × List (Vector Int (32) × List UInt8)) × Int × List (Int × Vector Int (32) × (Bool × List UInt8) × Vector Int (32) × Int))) (y : Int × List (Int × Vector Int (32) × (Bool × List UInt8) × Vector Int (32) × Int) × (Int × List (Vector Int (32)) × List (Vector Int (32) × List UInt8) × List (Vector Int (32) × List UInt8)) × Int × List (Vector Int (32)) × List (Vector Int (32) × List UInt8) × List (Vector Int (32) × List UInt8)) => p_dormouseref26_AllL.b1 (m + 1000) (fun y => p_dormouseref26_AllL.j0 (m + 1000) y.1 y.2.1 y.2.2.1 y.2.2.2.1 y.2.2.2.2.1 y.2.2.2.2.2) r y.1 y.2.1 y.2.2.1 y.2.2.2.1 y.2.2.2.2.1 y.2.2.2.2.2.1 y.2.2.2.2.2.2) fuel = rec at ih' ⊢
      obtain ⟨e, f, pp, c⟩ := p
      have hinv := hI.one l[i]
      unfold p_dormouseref26_AllL.b1 p_dormouseref26_AllL.j2 joinC
      dsimp only
      rw [decide_eq_true (show (i : Int) < (l.length : Int) by omega), cond_true, need_yesF ⟨by omega, by omega⟩, at_getF hi, wrap_inc (by omega), List.drop_eq_getElem_cons hi]
      generalize l[i] = r at hinv ⊢
      have hmay : p_dormouseref24_May (r.1, r.2.1, (r.2.2.1.1, r.2.2.1.2), r.2.2.2.1, r.2.2.2.2) = some (mayR r) := recMay_eq r
      rw [hmay, Option.bind_some]
      unfold allM
      cases hm : mayR r
      · rfl
      · simp only [bothC_same]
        have ho : p_dormouseref26_One (m + 1000) (e, f, pp, c) (r.1, r.2.1, (r.2.2.1.1, r.2.2.1.2), r.2.2.2.1, r.2.2.2.2) = _ := refOne_eq hI (r := r) hm
        rw [ho, need_yesF ⟨by omega, by omega⟩]
        simp only [Bool.not_true, cond_false, Option.bind_some, ibn, if_true]
        by_cases hz : (oneM (e, f, pp, c) r).2 = 0
        · rw [if_pos hz, decide_eq_true hz]
          exact ih' _ hinv
        · rw [if_neg hz, decide_eq_false hz]
          rfl
  have := HH l.length (m + 1000) 0 p (by omega) (by omega) (by omega) H
  rw [List.drop_zero] at this
  exact this

/-! ### is every key found? -/
theorem allIn_take {a b : List P} {i : Nat} (h : i < a.length) : allIn (a.take (i + 1)) b = (allIn (a.take i) b && (findP b a[i].1).isSome) := by
  unfold allIn
  rw [List.take_succ_eq_append_getElem h, List.all_append]; simp
theorem find8_snd {l : List P} (hl : l.length < 900) (k : Ky) : ∃ v, p_dormouseref08_Find (m + 1000) l k = some (v, (findP l k).isSome) ∧ ((findP l k).isSome = true → findP l k = some v) := by
  rw [find8_eq hl]
  cases h : findP l k with
  | none => exact ⟨[], rfl, fun q => by cases q⟩
  | some v => exact ⟨v, rfl, fun _ => rfl⟩
theorem keys_loop {is can : Bool} {a b : PL} {l : List RC} (ha : a.2.2.2.length < 900) (hb : b.2.2.2.length < 900) (j : Bool × Bool × PL × PL × List RC → Option Bool) :
    loopC (fun (r : Bool × Bool × Int × (Int × List (Vector Int (32)) × List (Vector Int (32) × List UInt8) × List (Vector Int (32) × List UInt8)) × (Int × List (Vector Int (32)) × List (Vector Int (32) × List UInt8) × List (Vector Int (32) × List UInt8)) × List (Int × Vector Int (32) × (Bool × List UInt8) × Vector Int (32) × Int) → Option Bool) y => p_dormouselaw27_ImageDelta.b8 (m + 1000) j r y.1 y.2.1 y.2.2.1 y.2.2.2.1 y.2.2.2.2.1 y.2.2.2.2.2) (m + 1000) (is, can, (0 : Int), a, b, l) = j (is, can && allIn a.2.2.2 b.2.2.2, a, b, l) := by
  have L := loop_count (body := fun (r : Bool × Bool × Int × (Int × List (Vector Int (32)) × List (Vector Int (32) × List UInt8) × List (Vector Int (32) × List UInt8)) × (Int × List (Vector Int (32)) × List (Vector Int (32) × List UInt8) × List (Vector Int (32) × List UInt8)) × List (Int × Vector Int (32) × (Bool × List UInt8) × Vector Int (32) × Int) → Option Bool) y => p_dormouselaw27_ImageDelta.b8 (m + 1000) j r y.1 y.2.1 y.2.2.1 y.2.2.2.1 y.2.2.2.2.1 y.2.2.2.2.2) (res := j (is, can && allIn a.2.2.2 b.2.2.2, a, b, l)) a.2.2.2.length (m + 1000) (fun i => (is, can && allIn (a.2.2.2.take i) b.2.2.2, (i : Int), a, b, l)) (by omega) (fun i hi rec => ?_) (fun rec => ?_)
  · have e : (can && allIn (a.2.2.2.take 0) b.2.2.2) = can := by simp [allIn]
    rw [e] at L
    exact L
  · dsimp only
    unfold p_dormouselaw27_ImageDelta.b8 p_dormouselaw27_ImageDelta.j9 joinC
    dsimp only
    obtain ⟨v, hv, _⟩ := find8_snd (m := m) hb a.2.2.2[i].1
    rw [decide_eq_true (by omega), cond_true, need_yesF ⟨by omega, by omega⟩, at_getF hi, hv, Option.bind_some, wrap_inc (by omega), allIn_take hi]
    cases can <;> cases allIn (a.2.2.2.take i) b.2.2.2 <;> rfl
  · dsimp only
    unfold p_dormouselaw27_ImageDelta.b8
    rw [decide_eq_false (by omega), cond_false, List.take_length]

/-! ### are the changes as they are to be? -/
theorem outs_loop {er : Int} {a b q : PL} {fr : List P} (ha : a.2.2.2.length < 900) (hfl : fr.length < 900) (hr : Ris fr) (hA : Ris a.2.2.2) (hg : ∀ x ∈ fr, (getE x.2).2 = 0) (hn : ∀ x ∈ fr, x ∉ a.2.2.2) (hl : ∀ x ∈ fr, x.2.length ≤ 300) (j : Int × PL × PL → Option Bool) :
    loopC (fun (r : Int × Int × (Int × List (Vector Int (32)) × List (Vector Int (32) × List UInt8) × List (Vector Int (32) × List UInt8)) × (Int × List (Vector Int (32)) × List (Vector Int (32) × List UInt8) × List (Vector Int (32) × List UInt8)) × List (Int × Vector Int (32) × (Bool × List UInt8) × Vector Int (32) × Int) × Int × List (Vector Int (32)) × List (Vector Int (32) × List UInt8) × List (Vector Int (32) × List UInt8) → Option Bool) y => p_dormouselaw27_ImageDelta.b6 (m + 1000) j r y.1 y.2.1 y.2.2.1 y.2.2.2.1 y.2.2.2.2.1 y.2.2.2.2.2) (m + 1000) (er, (0 : Int), a, b, fr.map setR, q) = j (er, b, q) := by
  have hlen : (fr.map setR).length = fr.length := List.length_map _
  refine loop_count (body := fun (r : Int × Int × (Int × List (Vector Int (32)) × List (Vector Int (32) × List UInt8) × List (Vector Int (32) × List UInt8)) × (Int × List (Vector Int (32)) × List (Vector Int (32) × List UInt8) × List (Vector Int (32) × List UInt8)) × List (Int × Vector Int (32) × (Bool × List UInt8) × Vector Int (32) × Int) × Int × List (Vector Int (32)) × List (Vector Int (32) × List UInt8) × List (Vector Int (32) × List UInt8) → Option Bool) y => p_dormouselaw27_ImageDelta.b6 (m + 1000) j r y.1 y.2.1 y.2.2.1 y.2.2.2.1 y.2.2.2.2.1 y.2.2.2.2.2) fr.length (m + 1000) (fun i => (er, (i : Int), a, b, fr.map setR, q)) (by omega) (fun i hi rec => ?_) (fun rec => ?_)
  · dsimp only
    unfold p_dormouselaw27_ImageDelta.b6 p_dormouselaw27_ImageDelta.j7 joinC
    dsimp only
    have hm : (fr.map setR)[i]'(by omega) = setR fr[i] := List.getElem_map _
    have hm1 : (fr.map setR).length = fr.length := hlen
    obtain ⟨v, hv, hv2⟩ := find8_snd (m := m) ha fr[i].1
    have hput : p_dormouseref17_Put ((getE fr[i].2).1.1, (getE fr[i].2).1.2) = some (enc (getE fr[i].2).1) := refPut_eq (x := (getE fr[i].2).1) (by
      have h1 := getE_len fr[i].2
      have h2 := hl fr[i] (List.getElem_mem hi)
      omega)
    have henc := (getE_inv (hg fr[i] (List.getElem_mem hi))).1
    have hni : ∀ (o : Option Bool), need ((0 : Int) ≤ (i : Int) ∧ (i : Int) < (((fr.map setR).length : Nat) : Int)) o = o := fun o => need_yesF ⟨by omega, by rw [hm1]; omega⟩
    have hat : ∀ d, at_ d (fr.map setR) (i : Int) = setR fr[i] := fun d => (at_getF (show i < (fr.map setR).length by rw [hm1]; exact hi)).trans hm
    rw [decide_eq_true (by rw [hm1]; omega), cond_true]
    simp only [hni, hat]
    rw [show (setR fr[i]).2.1 = fr[i].1 from rfl, show (setR fr[i]).1 = (1 : Int) from rfl, show (setR fr[i]).2.2.1.1 = (getE fr[i].2).1.1 from rfl, show (setR fr[i]).2.2.1.2 = (getE fr[i].2).1.2 from rfl, hv, Option.bind_some, hput, Option.bind_some, henc, wrap_inc (by omega)]
    have hk1 : ((1 : Int) != 1) = false := rfl
    rw [hk1, cond_false]
    dsimp only
    have hwd : 0 < i → IntKind.wrap IntKind.i64 ((i : Int) - 1) = ((i - 1 : Nat) : Int) := fun h0 => wrap_dec (by omega) h0
    have hlast : (bif decide ((i : Int) > 0) then need ((0 : Int) ≤ IntKind.wrap IntKind.i64 ((i : Int) - 1) ∧ IntKind.wrap IntKind.i64 ((i : Int) - 1) < (((fr.map setR).length : Nat) : Int)) (Option.bind (p_dormouseref10_Less (m + 1000) (at_ (dflt (T.pair (T.int IntKind.i64) (T.pair (T.arr (32) (T.int IntKind.u8)) (T.pair (T.pair T.bool T.str) (T.pair (T.arr (32) (T.int IntKind.u8)) (T.int IntKind.i64)))))) (fr.map setR) (IntKind.wrap IntKind.i64 ((i : Int) - 1))).2.1 fr[i].1) fun t => (bif !t then some false else rec (er, ((i + 1 : Nat) : Int), a, b, fr.map setR, q))) else (bif false then some false else rec (er, ((i + 1 : Nat) : Int), a, b, fr.map setR, q))) = rec (er, ((i + 1 : Nat) : Int), a, b, fr.map setR, q) := by
      by_cases h0 : i = 0
      · rw [decide_eq_false (show ¬ (i : Int) > 0 by omega)]; rfl
      · have hm0 : (fr.map setR)[i - 1]'(by rw [hm1]; omega) = setR (fr[i - 1]'(by omega)) := List.getElem_map _
        have hlt := List.pairwise_iff_getElem.1 hr (i - 1) i (by omega) hi (by omega)
        rw [decide_eq_true (show (i : Int) > 0 by omega), cond_true, hwd (by omega), need_yesF ⟨by omega, by rw [hm1]; omega⟩, at_getF (show i - 1 < (fr.map setR).length by rw [hm1]; omega), hm0, less_eq]
        show (Option.bind (some (klt (fr[i - 1]'(by omega)).1 fr[i].1)) _) = _
        rw [hlt]; rfl
    cases hfs : (findP a.2.2.2 fr[i].1).isSome
    · rw [cond_false]
      exact hlast
    · have hf1 := hv2 hfs
      have hne : (v == fr[i].2) = false := by
        rw [Bool.eq_false_iff]
        intro qe
        have qe := eq_of_beq qe
        rw [qe] at hf1
        unfold findP at hf1
        cases h7 : a.2.2.2.find? (fun y => decide (y.1 = fr[i].1)) with
        | none => rw [h7] at hf1; cases hf1
        | some z =>
          rw [h7] at hf1
          have e1 : z.2 = fr[i].2 := by simpa using hf1
          have e2 : z.1 = fr[i].1 := by simpa using List.find?_some h7
          have e3 : z = fr[i] := Prod.ext e2 e1
          have := List.mem_of_find?_eq_some h7
          rw [e3] at this
          exact hn fr[i] (List.getElem_mem hi) this
      rw [cond_true, hne, cond_false]
      exact hlast
  · dsimp only
    unfold p_dormouselaw27_ImageDelta.b6
    rw [decide_eq_false (by rw [hlen]; omega), cond_false]
theorem law_gen (M : Nat) (hM : M = 60000) (a b : PL) : p_dormouselaw27_ImageDelta (M + 1000) a b = some true := by
  have aw : p_dormouselaw27_awake (M + 1000) = some true := by rw [hM]; exact awake27
  clear hM
  obtain ⟨e, f, p, c⟩ := a
  obtain ⟨e', f', p', c'⟩ := b
  obtain ⟨b1, hl, hb⟩ := light_eq (m := M) (e := e) (f := f) (p := p) (c := c)
  obtain ⟨b2, hl', hb'⟩ := light_eq (m := M) (e := e') (f := f') (p := p') (c := c')
  have hl : p_dormouselaw26_Light (M + 1000) (e, f, p, c) = some b1 := hl
  have hl' : p_dormouselaw26_Light (M + 1000) (e', f', p', c') = some b2 := hl'
  unfold p_dormouselaw27_ImageDelta p_dormouselaw27_ImageDelta.j0 p_dormouselaw27_ImageDelta.j1 joinC
  dsimp only
  rw [aw, hl, hl']
  simp only [Option.bind_some]
  cases b1
  · rfl
  cases b2
  · rfl
  obtain ⟨a1, a2, a3, a4⟩ := hb rfl
  obtain ⟨c1, c2, c3, c4⟩ := hb' rfl
  have hA : Few (e, f, p, c) := ⟨a1, a2, a3, a4⟩
  have hB : Few (e', f', p', c') := ⟨c1, c2, c3, c4⟩
  have h1 : p_image_Delta (M + 1000) (e, f, p, c) (e', f', p', c') = some (deltaM (e, f, p, c) (e', f', p', c')) := delta_eq (m := M) hA hB
  have h2 : p_dormouseref26_May (M + 1000) (e, f, p, c) = _ := may_eqP (m := M) (by omega) (by omega)
  have h3 : p_dormouseref26_May (M + 1000) (e', f', p', c') = _ := may_eqP (m := M) (by omega) (by omega)
  have h4 : p_dormouseref26_Same (M + 1000) (e, f, p, []) (e', f', p', []) = _ := refSameP_eq (m := M) (by omega) (by omega) (by simp)
  have hloop := fun (is can : Bool) (l : List RC) (j : Bool × Bool × PL × PL × List RC → Option Bool) => keys_loop (m := M) (is := is) (can := can) (a := (e, f, p, c)) (b := (e', f', p', c')) (l := l) (by dsimp only; omega) (by dsimp only; omega) j
  rw [h1, h2, h3, h4]
  simp only [Option.bind_some, Bool.not_true, cond_false]
  have hcan : (bif mayP (e, f, p, c) then (bif mayP (e', f', p', c') then plEq (e, f, p, []) (e', f', p', []) else false) else false) = (mayP (e, f, p, c) && (mayP (e', f', p', c') && plEq (e, f, p, []) (e', f', p', []))) := by
    cases mayP (e, f, p, c) <;> cases mayP (e', f', p', c') <;> rfl
  have key : ∀ can : Bool, can = (mayP (e, f, p, c) && (mayP (e', f', p', c') && plEq (e, f, p, []) (e', f', p', []))) →
      loopC (fun (r : Bool × Bool × Int × (Int × List (Vector Int (32)) × List (Vector Int (32) × List UInt8) × List (Vector Int (32) × List UInt8)) × (Int × List (Vector Int (32)) × List (Vector Int (32) × List UInt8) × List (Vector Int (32) × List UInt8)) × List (Int × Vector Int (32) × (Bool × List UInt8) × Vector Int (32) × Int) → Option Bool) y => p_dormouselaw27_ImageDelta.b8 (M + 1000) (fun y => p_dormouselaw27_ImageDelta.j2 (M + 1000) y.1 y.2.1 y.2.2.1 y.2.2.2.1 y.2.2.2.2) r y.1 y.2.1 y.2.2.1 y.2.2.2.1 y.2.2.2.2.1 y.2.2.2.2.2) (M + 1000) ((deltaM (e, f, p, c) (e', f', p', c')).1, can, (0 : Int), (e, f, p, c), (e', f', p', c'), (deltaM (e, f, p, c) (e', f', p', c')).2) = some true := fun can hc => by
    refine (hloop _ can _ _).trans ?_
    dsimp only
    have hcm : (can && allIn c c') = canM (e, f, p, c) (e', f', p', c') := by
      rw [hc]; unfold canM
      cases mayP (e, f, p, c) <;> cases mayP (e', f', p', c') <;> cases plEq (e, f, p, []) (e', f', p', []) <;> rfl
    rw [hcm, deltaM_can]
    unfold p_dormouselaw27_ImageDelta.j2 p_dormouselaw27_ImageDelta.j3 p_dormouselaw27_ImageDelta.j4 p_dormouselaw27_ImageDelta.j5 joinC
    rw [aw]
    cases hq : canM (e, f, p, c) (e', f', p', c')
    · rw [if_neg (by simp)]; rfl
    · rw [if_pos rfl]
      have hd := deltaM_can (a := (e, f, p, c)) (b := (e', f', p', c'))
      rw [hq, if_pos rfl] at hd
      unfold canM at hq
      simp only [Bool.and_eq_true] at hq
      obtain ⟨q1, q2, q3, q4⟩ := hq
      have := plEq_iff.1 q3
      injection this with t1 this
      injection this with t2 this
      injection this with t3 this
      subst t1 t2 t3
      obtain ⟨_, r1⟩ := mayP_ris q1
      obtain ⟨_, r2⟩ := mayP_ris q2
      have hfl : (c'.filter (kpA c)).length ≤ c'.length := List.length_filter_le _ _
      have hg : ∀ x ∈ c'.filter (kpA c), (getE x.2).2 = 0 := fun x hx => risB_mem r2 (List.mem_filter.1 hx).1
      have hall : allM (e, f, p, c) ((c'.filter (kpA c)).map setR) = ((e, f, p, c'), 0) := by
        rw [all_sets _ e f p c hg, (merge_eq (risB_ris r1) (risB_ris r2)).2 q4]
        unfold allM
        rw [if_pos q2]
      have hI : Inv ((c'.filter (kpA c)).map setR).length (e, f, p, c) := by
        rw [List.length_map]
        exact ⟨by dsimp only; omega, by dsimp only; omega, by dsimp only; omega, risB_ris (mayP_ris q1).1, risB_ris r1⟩
      have hR : p_dormouseref26_AllL (M + 1000) (e, f, p, c) ((c'.filter (kpA c)).map setR) = some ((e, f, p, c'), 0, (c'.filter (kpA c)).map setR) := (refAllL_eq (m := M) hI (by rw [List.length_map]; omega)).trans (by rw [hall])
      dsimp only
      rw [hR]
      have hne : (!(true == true)) = false := rfl
      rw [hne]
      simp only [cond_false, Bool.not_true, Option.bind_some, cond_true]
      refine (outs_loop (m := M) (er := 0) (a := (e, f, p, c)) (b := (e, f, p, c')) (q := (e, f, p, c')) (fr := c'.filter (kpA c)) (by dsimp only; omega) (by omega) (List.Pairwise.filter _ (risB_ris r2)) (risB_ris r1) hg (fun x hx => kpA_iff.1 (List.mem_filter.1 hx).2) (fun x hx => c4 x (List.mem_append_right _ (List.mem_filter.1 hx).1)) _).trans ?_
      dsimp only
      have hs : p_dormouseref26_Same (M + 1000) (e, f, p, c') (e, f, p, c') = some true := same_self (m := M) (p := (e, f, p, c')) (by dsimp only; omega) (by dsimp only; omega) (by dsimp only; omega)
      rw [hs]; rfl
  cases h5 : mayP (e, f, p, c)
  · exact key false (by rw [h5]; rfl)
  · cases h6 : mayP (e', f', p', c')
    · exact key false (by rw [h5, h6]; rfl)
    · exact key (plEq (e, f, p, []) (e', f', p', [])) (by rw [h5, h6]; rfl)
theorem law_ImageDelta (a b : PL) : p_dormouselaw27_ImageDelta 61000 a b = some true := law_gen 60000 rfl a b
end Go.Dor.Fd
end

section
/- AN ARGUMENT OF A LAW, as data of its type: numbers fit, the value reads as the data. -/
namespace Go.Dor
section
variable {H : Type} {enc' : TypeId × Value → H} {P : Program} {w : World}

def vOf : (c : T) → den c → V
  | .int k, n => .one (.i k n)
  | .bool, x => .one (.b x)
  | .str, l => .one (.s l)
  | .flt k, n => .one (.f k n)
  | .fx k, n => .one (.fx k n)
  | .sl e, xs => .one (.ro e xs)
  | .unit, x => .ag (enc .unit x)
  | .pair a b, x => .ag (enc (.pair a b) x)
  | .arr n e, x => .ag (enc (.arr n e) x)

def aggT : T → Bool
  | .unit | .pair .. | .arr .. => true
  | _ => false

theorem okWide_agg {t : TypeId} {r : Reach} {base : Nat} {v : Value} (hv : Value.okWide P w r base t v) (hg : (∃ fs, P.underlying t = some (.struct fs)) ∨ ∃ m e, P.underlying t = some (.array m e)) : ∃ cs, v = .agg cs := by
  rcases hg with ⟨fs, hg⟩ | ⟨m, e, hg⟩ <;>
  · simp only [Value.okWide, hg] at hv
    obtain ⟨cs, h1, _⟩ := hv
    exact ⟨cs, h1⟩

theorem one_cells {v : Value} (h : ∀ cs, v ≠ .agg cs) : v.cells.toList = [v] := by
  cases v <;> first | rfl | exact absurd rfl (h _)

theorem arg_rv {t : TypeId} {v : Value} {d : DataW H} {p : List MemPlace} {c : T} (hag : (match P.underlying t with | some (.struct _) | some (.array _ _) => true | _ => false) = aggT c)
    (h : DataW.Trod enc' P w 0 (fun _ => true) true t v d p) (hc : codeT P depth t = some c) (ht : tiled P depth t = true) {r : Reach} {base : Nat} (hv : Value.okWide P w r base t v) : ∃ a : den c, Rv (m0 w) (vOf c a) v ∧ okD c a := by
  obtain ⟨a, ha, hk⟩ := arg_ok h hc ht
  refine ⟨a, ?_, hk⟩
  cases hx : aggT c with
  | true =>
    rw [hx] at hag
    have hcs : ∃ cs, v = .agg cs := by
      split at hag
      · rename_i fs hu; exact okWide_agg hv (.inl ⟨_, hu⟩)
      · rename_i m e hu; exact okWide_agg hv (.inr ⟨_, _, hu⟩)
      · cases hag
    obtain ⟨cs, hcs⟩ := hcs
    cases c <;> first | exact rv_ag hcs ha | cases hx
  | false =>
    rw [hx] at hag
    have hne : ∀ cs, v ≠ .agg cs := by
      rintro cs rfl
      split at hag
      · cases hag
      · cases hag
      · rename_i h1 h2
        unfold Value.okWide at hv
        split at hv
        · rename_i hu; exact h1 _ hu
        · rename_i hu; exact h2 _ _ hu
        · unfold Cell.okWide at hv
          cases hu : P.underlying t with
          | none => rw [hu] at hv; simp [Cell.ok, hu] at hv
          | some u => cases u <;> simp_all [Cell.ok]
    rw [one_cells hne] at ha
    cases c <;> first | exact ha | cases hx
end
end Go.Dor
end

section
/- ImageDelta AT EVERY INPUT: true; each argument reads behind the call as it read before. No condition but the row's own. -/
namespace Go.Proofs.Ytpbcchljlhkonaa
open Go.ChangeShapes Go.WideShapes Go.ChangeAt Go.RowKit

theorem imageDelta_ownNone : ownKnob Try.prog.godebug = none := by kernel_rfl
theorem imageDelta_laidOk : laidOutB Try.prog = true := by kernel_rfl
set_option maxRecDepth 100000 in
theorem imageDelta_lifted (os : Os) (started : os.Started) (H : Type) (enc : TypeId × Value → H) :
    ReturnsInHanded {} Try.checked os 8 .any (Rows.imageDeltaSpec.pre6 enc Try.prog Try.f8 Rows.imageDeltaRow.domain false) (Rows.imageDeltaSpec.post enc Try.prog Try.f8 false true false false) := by
  refine returnsInHanded_of_change_sized (C := Try.checked) imageDelta_ownNone started (by kernel_rfl) Try.func8
    (ChangeSpec.witness6 (enc := enc) (C := Try.checked) false ⟨#[], #[.agg #[.int .i64 0, .slice none 0 0, .slice none 0 0, .slice none 0 0], .agg #[.int .i64 0, .slice none 0 0, .slice none 0 0, .slice none 0 0]], []⟩ 8 (by kernel_rfl) (by kernel_rfl) (by kernel_rfl) (by kernel_rfl)) ?_
  intro W base args ds gs before hval0 hW _ _ _
  have hval : ∀ (j : Nat) t v, Try.f8.params[j]? = some t → args[j]? = some v → Value.okWide Try.prog W .any base t v := hval0
  have hW' := hW
  obtain ⟨p, q, hA0, hV, rfl, _, _⟩ := hW
  have hA : DataW.TrodAll enc Try.prog W 0 (fun _ => true) true Try.f8.params.toList args.toList ds p := hA0
  have hA2 := hA
  rw [Try.params8] at hA hval
  obtain ⟨rfl, rfl⟩ := trodVars_none hV
  simp only [List.append_nil] at hW'
  have hlt : ∀ x ∈ p, x.block < W.heap.size := fun x hx => by simpa using hW'.lt x hx
  obtain ⟨v0, v1, d0, d1, p0, p1, rfl, rfl, rfl, h0, h1⟩ := trodAll_two hA
  obtain ⟨a0, r0, k0⟩ := Dor.arg_rv (c := .pair (.int .i64) (.pair (.sl (.arr 32 (.int .u8))) (.pair (.sl (.pair (.arr 32 (.int .u8)) .str)) (.sl (.pair (.arr 32 (.int .u8)) .str))))) (by kernel_rfl) h0 (by kernel_rfl) (by kernel_rfl) (hval 0 _ v0 rfl rfl)
  obtain ⟨a1, r1, k1⟩ := Dor.arg_rv (c := .pair (.int .i64) (.pair (.sl (.arr 32 (.int .u8))) (.pair (.sl (.pair (.arr 32 (.int .u8)) .str)) (.sl (.pair (.arr 32 (.int .u8)) .str))))) (by kernel_rfl) h1 (by kernel_rfl) (by kernel_rfl) (hval 1 _ v1 rfl rfl)
  have hk := Dor.Fd.law_ImageDelta a0 a1
  refine (Dor.law_calls (Dor.s_dormouselaw27_ImageDelta 61000) (vals := [v0, v1]) (x := (a0, a1)) (w := W) ⟨r0, r1, trivial⟩ hk).mono fun e W' ⟨he, hnx⟩ => ⟨_, he, ?_⟩
  refine ⟨_, _, _, [] ++ [], p0 ++ p1, [], hW', trodAll_mk1 (shut_bool (by kernel_rfl) true), ?_, rfl, hnx.frame _, fun h => by cases h⟩
  exact Dor.trodAll_stays imageDelta_laidOk hnx (by decide +kernel) hA2 hlt

theorem imageDelta_holds : Rows.ImageDeltaSaid :=
  OpenClaim.holds_of_wide 8 Try.f8 rfl rfl rfl rfl rfl rfl rfl ⟨rfl, rfl, rfl, rfl, rfl⟩ rfl rfl rfl rfl rfl (by kernel_rfl) Try.func8 (by kernel_rfl)
    (of_decide_eq_true (by kernel_rfl)) (by unfold Func.isWrapper; first | (rw [if_pos (by decide +kernel)]; kernel_rfl) | (rw [if_neg (by decide +kernel)]; exact ⟨rfl, rfl⟩))
    (fun os started H enc _ => imageDelta_lifted os started H enc)

end Go.Proofs.Ytpbcchljlhkonaa
end
