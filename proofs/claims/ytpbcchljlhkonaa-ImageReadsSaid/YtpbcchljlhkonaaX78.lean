/- THE ROW, AND WHAT IT STANDS ON: the texts Ee Ef Eg Zm R7, one behind the other. -/
import Derived.Test.YtpbcchljlhkonaaX77
import Derived.Test.YtpbcchljlhkonaaX76
import Derived.WideShapes
import Derived.Test.YtpbcchljlhkonaaRows
import Derived.ProofKit
import Derived.SizedLaws
section
/- THE RECORDS OF A TEXT, THE TEXT OF RECORDS: behind the walk, on both sides. -/
set_option linter.unusedVariables false
set_option linter.unusedSimpArgs false
namespace Go.Dor.Fd
open Go.Proofs Go.Dor
variable {m : Nat}

theorem getB_nil (f : Nat) : getB (f + 1) [] = ([], 0) := rfl
theorem getB_s4 {f : Nat} {s : List UInt8} (h0 : s ≠ []) (h : s.length < 4) : getB (f + 1) s = ([], 5) := by
  unfold getB; rw [if_neg h0, if_pos h]
theorem getB_s5 {f : Nat} {s : List UInt8} (h0 : s ≠ []) (h : ¬ s.length < 4) (h2 : valB (s.take 4) > s.length - 4) : getB (f + 1) s = ([], 5) := by
  unfold getB; rw [if_neg h0, if_neg h, if_pos h2]
theorem getB_bad {f : Nat} {s : List UInt8} (h0 : s ≠ []) (h : ¬ s.length < 4) (h2 : ¬ valB (s.take 4) > s.length - 4) (h3 : ¬ (getR ((s.drop 4).take (valB (s.take 4)))).2 = 0) : getB (f + 1) s = ([], (getR ((s.drop 4).take (valB (s.take 4)))).2) := by
  conv => lhs; unfold getB
  rw [if_neg h0, if_neg h, if_neg h2, if_neg h3]
theorem getB_ok {f : Nat} {s : List UInt8} (h0 : s ≠ []) (h : ¬ s.length < 4) (h2 : ¬ valB (s.take 4) > s.length - 4) (h3 : (getR ((s.drop 4).take (valB (s.take 4)))).2 = 0) : getB (f + 1) s = ((getR ((s.drop 4).take (valB (s.take 4)))).1 :: (getB f (s.drop (4 + valB (s.take 4)))).1, (getB f (s.drop (4 + valB (s.take 4)))).2) := by
  conv => lhs; unfold getB
  rw [if_neg h0, if_neg h, if_neg h2, if_pos h3]
theorem getB_len : ∀ (f : Nat) (s : List UInt8), s.length < f → 4 * (getB f s).1.length ≤ s.length
  | f + 1, s, hf => by
    by_cases h0 : s = []
    · subst h0; simp [getB_nil]
    by_cases h : s.length < 4
    · rw [getB_s4 h0 h]; simp
    by_cases h2 : valB (s.take 4) > s.length - 4
    · rw [getB_s5 h0 h h2]; simp
    by_cases h3 : (getR ((s.drop 4).take (valB (s.take 4)))).2 = 0
    · rw [getB_ok h0 h h2 h3]
      have := getB_len f (s.drop (4 + valB (s.take 4))) (by rw [List.length_drop]; omega)
      rw [List.length_drop] at this
      simp only [List.length_cons]; omega
    · rw [getB_bad h0 h h2 h3]; simp
theorem v4 (s : List UInt8) (h : 4 ≤ s.length) : valB (s.take 4) < 4294967296 := by
  have hv := valB_lt (s.take 4)
  rw [List.length_take, Nat.min_eq_left h] at hv
  exact hv
theorem beq_nilF {s : List UInt8} (h : s ≠ []) : (s == []) = false := by cases s with | nil => exact (h rfl).elim | cons => rfl
theorem push_eq (r : RC) (out : List RC) (h : out.length < 1000000) : p_batch_Get_c1 r out = some (true, out ++ [r]) := by
  unfold p_batch_Get_c1
  exact need_yesF (by simp only [List.length_cons, List.length_nil]; omega)
theorem each_loop (s : List UInt8) : ∀ (f : Nat) (rest : List UInt8) (fuel : Nat) (at' : Int) (out : List RC), rest.length < f → rest.length < fuel → out.length + rest.length < 100000 →
    ∃ a, loopC (fun (r : List UInt8 × Int × (List UInt8 × Int) × List (Int × Vector Int (32) × (Bool × List UInt8) × Vector Int (32) × Int) → Option (Int × Int × List (Int × Vector Int (32) × (Bool × List UInt8) × Vector Int (32) × Int))) y => p_batch_each.b1 (m + 1000) (fun y => p_batch_each.j0 (m + 1000) y.1 y.2) r y.1 y.2.1 y.2.2.1 y.2.2.2) fuel (s, at', (rest, (0 : Int)), out) = some (a, (getB f rest).2, out ++ (getB f rest).1) := by
  intro f
  induction f with
  | zero => intro rest fuel at' out h; omega
  | succ f ih =>
    intro rest fuel at' out h1 h2 h3
    obtain ⟨fuel, rfl⟩ : ∃ q, fuel = q + 1 := ⟨fuel - 1, by omega⟩
    rw [loopC_s]
    dsimp only
    have ih' := fun rest' at' out' => ih rest' fuel at' out'
    generalize loopC (fun (r : List UInt8 × Int × (List UInt8 × Int) × List (Int × Vector Int (32) × (Bool × List UInt8) × Vector Int (32) × Int) → Option (Int × Int × List (Int × Vector Int (32) × (Bool × List UInt8) × Vector Int (32) × Int))) (y : List UInt8 × Int × (List UInt8 × Int) × List (Int × Vector Int (32) × (Bool × List UInt8) × Vector Int (32) × Int)) => p_batch_each.b1 (m + 1000) (fun y => p_batch_each.j0 (m + 1000) y.1 y.2) r y.1 y.2.1 y.2.2.1 y.2.2.2) fuel = rec at ih' ⊢
    unfold p_batch_each.b1 p_wide_Cut_Rest p_wide_Cut_Text p_wide_Cut_Err
    rw [Option.bind_some]
    dsimp only
    by_cases h0 : rest = []
    · subst h0
      exact ⟨at', by rw [getB_nil]; show p_batch_each.j0 (m + 1000) at' out = _; unfold p_batch_each.j0; simp⟩
    rw [beq_nilF h0, Bool.not_false, cond_true]
    by_cases h4 : rest.length < 4
    · have e : p_wide_Cut_Num (m + 1000) (4 : Int) (rest, 0) = _ := num_bad (n := 4) h4 (by omega)
      refine ⟨at', ?_⟩
      rw [e, getB_s4 h0 h4, Option.bind_some, take_err]
      simp
    have e : p_wide_Cut_Num (m + 1000) (4 : Int) (rest, 0) = _ := num_ok (n := 4) (by omega) (by omega) (by omega)
    have hv := v4 rest (by omega)
    have hld : (rest.drop 4).length = rest.length - 4 := List.length_drop
    rw [e, Option.bind_some]
    dsimp only
    rw [wrap_i64 (by omega)]
    by_cases h5 : valB (rest.take 4) > rest.length - 4
    · refine ⟨at', ?_⟩
      rw [take_bad (by omega), getB_s5 h0 h4 h5]
      simp
    have hb0 : ((0 : Int) != 0) = false := rfl
    rw [take_ok (by omega)]
    simp only [Option.bind_some, hb0, cond_false]
    rw [recGet_eq, Option.bind_some, ibn]
    by_cases h6 : (getR ((rest.drop 4).take (valB (rest.take 4)))).2 = 0
    · rw [decide_eq_true h6, Bool.not_true, cond_false, getB_ok h0 h4 h5 h6]
      generalize getR ((rest.drop 4).take (valB (rest.take 4))) = y at h6 ⊢
      have hp : p_batch_Get_c1 (y.1.1, y.1.2.1, (y.1.2.2.1.1, y.1.2.2.1.2), y.1.2.2.2.1, y.1.2.2.2.2) out = some (true, out ++ [y.1]) := push_eq y.1 out (by omega)
      have hdd : (rest.drop 4).drop (valB (rest.take 4)) = rest.drop (4 + valB (rest.take 4)) := by rw [List.drop_drop]
      rw [hp, Option.bind_some, hdd]
      have hl2 : (rest.drop (4 + valB (rest.take 4))).length = rest.length - (4 + valB (rest.take 4)) := List.length_drop
      obtain ⟨a, ha⟩ := ih' (rest.drop (4 + valB (rest.take 4))) (IntKind.wrap IntKind.i64 ((s.length : Int) - ((rest.drop (4 + valB (rest.take 4))).length : Int))) (out ++ [y.1]) (by omega) (by omega) (by simp only [List.length_append, List.length_cons, List.length_nil]; omega)
      refine ⟨a, ?_⟩
      show rec _ = _
      rw [ha, List.append_assoc]
      rfl
    · refine ⟨at', ?_⟩
      rw [decide_eq_false h6, Bool.not_false, cond_true, getB_bad h0 h4 h5 h6]
      simp
theorem batchGet_eq {s : List UInt8} (hs : s.length < 60000) : p_batch_Get (m + s.length + 1000) s = some (if (getB (s.length + 1) s).2 = 0 then (0, (getB (s.length + 1) s).1) else ((getB (s.length + 1) s).2, [])) := by
  unfold p_batch_Get p_batch_each p_wide_On joinC
  obtain ⟨a, ha⟩ := each_loop (m := m + s.length) s (s.length + 1) s (m + s.length + 1000) 0 [] (by omega) (by omega) (by simp; omega)
  rw [decide_eq_false (show ¬ (s.length : Int) > 4194304 by omega), cond_false, Option.bind_some]
  dsimp only
  rw [ha, Option.bind_some, List.nil_append, ibn]
  by_cases h : (getB (s.length + 1) s).2 = 0
  · rw [decide_eq_true h, if_pos h]; rfl
  · rw [decide_eq_false h, if_neg h]; rfl

/-- the document's -/
theorem sub_mid {α : Type} (l : List α) (a n : Nat) : sub_ l (a : Int) ((a + n : Nat) : Int) = (l.drop a).take n := by
  unfold sub_
  rw [Int.toNat_natCast, Int.toNat_natCast, List.drop_take]
  congr 1
  omega
theorem r25_loop (s : List UInt8) (hs : s.length < 60000) : ∀ (f : Nat) (a : Nat) (fuel : Nat) (out : List RC), s.length - a < f → s.length - a < fuel → a ≤ s.length → out.length + (s.length - a) < 100000 →
    ∃ a', loopC (fun (r : List UInt8 × Int × List (Int × Vector Int (32) × (Bool × List UInt8) × Vector Int (32) × Int) → Option (Int × Int × List (Int × Vector Int (32) × (Bool × List UInt8) × Vector Int (32) × Int))) y => p_dormouseref25_Get.b1 (m + 1000) (fun y => p_dormouseref25_Get.j0 (m + 1000) y.1 y.2) r y.1 y.2.1 y.2.2) fuel (s, (a : Int), out) = some (a', (getB f (s.drop a)).2, out ++ (getB f (s.drop a)).1) := by
  intro f
  induction f with
  | zero => intro a fuel out h; omega
  | succ f ih =>
    intro a fuel out h1 h2 ha h3
    obtain ⟨fuel, rfl⟩ : ∃ q, fuel = q + 1 := ⟨fuel - 1, by omega⟩
    rw [loopC_s]
    dsimp only
    have ih' := fun a' out' => ih a' fuel out'
    generalize loopC (fun (r : List UInt8 × Int × List (Int × Vector Int (32) × (Bool × List UInt8) × Vector Int (32) × Int) → Option (Int × Int × List (Int × Vector Int (32) × (Bool × List UInt8) × Vector Int (32) × Int))) (y : List UInt8 × Int × List (Int × Vector Int (32) × (Bool × List UInt8) × Vector Int (32) × Int)) => p_dormouseref25_Get.b1 (m + 1000) (fun y => p_dormouseref25_Get.j0 (m + 1000) y.1 y.2) r y.1 y.2.1 y.2.2) fuel = rec at ih' ⊢
    unfold p_dormouseref25_Get.b1 p_dormouseref25_Get.j0
    dsimp only
    have hld : (s.drop a).length = s.length - a := List.length_drop
    by_cases h0 : a = s.length
    · have e0 : s.drop a = [] := List.drop_of_length_le (by omega)
      refine ⟨(a : Int), ?_⟩
      rw [decide_eq_false (by omega), cond_false, e0, getB_nil]; simp
    have hne : s.drop a ≠ [] := fun q => by rw [q] at hld; simp at hld; omega
    have hw1 : IntKind.wrap .i64 ((s.length : Int) - (a : Int)) = ((s.length - a : Nat) : Int) := by rw [wrap_i64 (by omega)]; omega
    have hw2 : IntKind.wrap .i64 ((a : Int) + 4) = ((a + 4 : Nat) : Int) := by rw [wrap_i64 (by omega)]; omega
    rw [decide_eq_true (show (a : Int) < (s.length : Int) by omega), cond_true, hw1, hw2]
    by_cases h4 : (s.drop a).length < 4
    · refine ⟨(a : Int), ?_⟩
      rw [decide_eq_true (show ((s.length - a : Nat) : Int) < 4 by omega), cond_true, getB_s4 hne h4]; simp
    have hv := v4 (s.drop a) (by omega)
    have hw3 : IntKind.wrap .u64 (IntKind.wrap .i64 (((s.length - a : Nat) : Int) - 4)) = ((s.length - a - 4 : Nat) : Int) := by
      rw [wrap_i64 (by omega), wrap_u64]; omega
    rw [decide_eq_false (show ¬ ((s.length - a : Nat) : Int) < 4 by omega), cond_false, need_yesF ⟨by omega, by omega, by omega⟩, sub_mid, rVal_eq (by rw [List.length_take]; omega), Option.bind_some, hw3]
    by_cases h5 : valB ((s.drop a).take 4) > (s.drop a).length - 4
    · refine ⟨(a : Int), ?_⟩
      rw [decide_eq_true (show ((valB ((s.drop a).take 4) : Nat) : Int) > ((s.length - a - 4 : Nat) : Int) by omega), cond_true, getB_s5 hne h4 h5]; simp
    have hw4 : IntKind.wrap .i64 ((valB ((s.drop a).take 4) : Nat) : Int) = ((valB ((s.drop a).take 4) : Nat) : Int) := wrap_i64 (by omega)
    have hw5 : IntKind.wrap .i64 (((a + 4 : Nat) : Int) + ((valB ((s.drop a).take 4) : Nat) : Int)) = ((a + 4 + valB ((s.drop a).take 4) : Nat) : Int) := by rw [wrap_i64 (by omega)]; omega
    rw [decide_eq_false (show ¬ ((valB ((s.drop a).take 4) : Nat) : Int) > ((s.length - a - 4 : Nat) : Int) by omega), cond_false, hw4, hw5, need_yesF ⟨by omega, by omega, by omega⟩, sub_mid, refGetR_eq, Option.bind_some, ibn]
    have hd4 : s.drop (a + 4) = (s.drop a).drop 4 := by rw [List.drop_drop]
    rw [hd4]
    by_cases h6 : (getR (((s.drop a).drop 4).take (valB ((s.drop a).take 4)))).2 = 0
    · rw [decide_eq_true h6, Bool.not_true, cond_false, getB_ok hne h4 h5 h6]
      generalize getR (((s.drop a).drop 4).take (valB ((s.drop a).take 4))) = y at h6 ⊢
      have hdd : (s.drop a).drop (4 + valB ((s.drop a).take 4)) = s.drop (a + 4 + valB ((s.drop a).take 4)) := by rw [List.drop_drop, Nat.add_assoc]
      obtain ⟨a2, ha2⟩ := ih' (a + 4 + valB ((s.drop a).take 4)) (out ++ [y.1]) (by omega) (by omega) (by omega) (by simp only [List.length_append, List.length_cons, List.length_nil]; omega)
      refine ⟨a2, ?_⟩
      rw [need_yesF (by simp only [List.length_cons, List.length_nil]; omega), hdd]
      show rec _ = _
      rw [ha2, List.append_assoc]
      rfl
    · refine ⟨(a : Int), ?_⟩
      rw [decide_eq_false h6, Bool.not_false, cond_true, getB_bad hne h4 h5 h6]
      simp
theorem refBatch_eq {s : List UInt8} (hs : s.length < 60000) : ∃ a, p_dormouseref25_Get (m + s.length + 1000) s = some (a, (getB (s.length + 1) s).2, (getB (s.length + 1) s).1) := by
  unfold p_dormouseref25_Get joinC
  obtain ⟨a, ha⟩ := r25_loop (m := m + s.length) s hs (s.length + 1) 0 (m + s.length + 1000) [] (by omega) (by omega) (by omega) (by simp; omega)
  rw [List.drop_zero, List.nil_append] at ha
  exact ⟨a, ha⟩

/-! ### the text of records -/
theorem joinP_len : ∀ l : List RC, (∀ r ∈ l, r.2.2.1.2.length ≤ 300) → (joinB (l.map putR)).length ≤ l.length * 338
  | [], _ => by simp [joinB]
  | r :: l, h => by
    have ih := joinP_len l fun x hx => h x (List.mem_cons_of_mem _ hx)
    have h1 := putR_len r
    have h2 := h r List.mem_cons_self
    have e : joinB ((r :: l).map putR) = lenB (putR r) ++ joinB (l.map putR) := by simp [joinB]
    rw [e, List.length_append, lenB_len, List.length_cons, Nat.add_mul]
    omega
theorem batchPut_eq {l : List RC} (hl : l.length < 900) (hm : ∀ r ∈ l, mayR r = true) (hv : ∀ r ∈ l, r.2.2.1.2.length ≤ 300) : p_batch_Put (m + 1000) l = some (joinB (l.map putR), 0) := by
  unfold p_batch_Put joinC
  refine loop_count (body := fun (r : List (Int × Vector Int (32) × (Bool × List UInt8) × Vector Int (32) × Int) × Int × Int × List (List UInt8) → Option (List UInt8 × Int)) y => p_batch_Put.b1 (m + 1000) (p_batch_Put.j0 (m + 1000)) r y.1 y.2.1 y.2.2.1 y.2.2.2) l.length (m + 1000) (fun i => (l, (l.length : Int), (i : Int), (l.take i).map putR)) (by omega) (fun i hi rec => ?_) (fun rec => ?_)
  · dsimp only
    unfold p_batch_Put.b1
    rw [decide_eq_true (by omega), cond_true, need_yesF ⟨by omega, by omega⟩, at_getF hi, wrap_inc (by omega), List.take_succ_eq_append_getElem hi, List.map_append]
    have hmr := hm _ (List.getElem_mem hi)
    generalize l[i] = r at hmr ⊢
    have hp : p_record_Put (m + 1000) (r.1, r.2.1, (r.2.2.1.1, r.2.2.1.2), r.2.2.2.1, r.2.2.2.2) = _ := recPut_eq r
    rw [hp, hmr, if_pos rfl, Option.bind_some]
    dsimp only
    have hb0 : ((0 : Int) != 0) = false := rfl
    rw [hb0, cond_false, need_yesF (by rw [List.length_map, List.length_take]; simp only [List.length_cons, List.length_nil]; omega)]
    rfl
  · dsimp only
    unfold p_batch_Put.b1 p_batch_Put.j0
    have hjl := joinP_len l hv
    have hx : ∀ x ∈ l.map putR, x.length ≤ 100000 := fun x hx => by
      obtain ⟨r, hr, rfl⟩ := List.mem_map.1 hx
      have := putR_len r
      have := hv r hr
      omega
    rw [decide_eq_false (by omega), cond_false, List.take_length, Texts_eq (by omega) (by rw [List.length_map]; omega) (by rw [List.length_map]; omega) hx, Option.bind_some, decide_eq_false (by omega), cond_false]
theorem refPut25_eq {l : List RC} (hl : l.length < 900) (hm : ∀ r ∈ l, mayR r = true) (hv : ∀ r ∈ l, r.2.2.1.2.length ≤ 300) : p_dormouseref25_Put (m + 1000) l = some (joinB (l.map putR)) := by
  unfold p_dormouseref25_Put joinC
  refine loop_count (body := fun (r : List (Int × Vector Int (32) × (Bool × List UInt8) × Vector Int (32) × Int) × List UInt8 × Int → Option (List UInt8)) y => p_dormouseref25_Put.b1 (m + 1000) (p_dormouseref25_Put.j0 (m + 1000)) r y.1 y.2.1 y.2.2) l.length (m + 1000) (fun i => (l, joinB ((l.take i).map putR), (i : Int))) (by omega) (fun i hi rec => ?_) (fun rec => ?_)
  · dsimp only
    unfold p_dormouseref25_Put.b1
    have hjl := joinP_len (l.take i) fun r hr => hv r (List.mem_of_mem_take hr)
    rw [List.length_take, Nat.min_eq_left (by omega)] at hjl
    rw [decide_eq_true (by omega), cond_true, need_yesF ⟨by omega, by omega⟩, at_getF hi, wrap_inc (by omega), List.take_succ_eq_append_getElem hi, List.map_append]
    have hmr := hm _ (List.getElem_mem hi)
    have hvr := hv _ (List.getElem_mem hi)
    generalize l[i] = r at hmr hvr ⊢
    have hpl := putR_len r
    have hp : p_dormouseref24_Put (m + 1000) (r.1, r.2.1, (r.2.2.1.1, r.2.2.1.2), r.2.2.2.1, r.2.2.2.2) = _ := refPutR_eq (r := r) hmr
    have e : joinB ((l.take i).map putR ++ [r].map putR) = joinB ((l.take i).map putR) ++ lenB (putR r) := by simp [joinB]
    rw [hp, Option.bind_some, refText_eq (by omega) (by omega), Option.bind_some, need_yesF (by rw [lenB_len]; omega), e]
  · dsimp only
    unfold p_dormouseref25_Put.b1 p_dormouseref25_Put.j0
    rw [decide_eq_false (by omega), cond_false, List.take_length]

/-! ### rows of records held against each other -/
theorem rec_test (x y : RC) : (x.1 == y.1 && (decide (x.2.1 = y.2.1) && (x.2.2.1.1 == y.2.2.1.1 && (x.2.2.1.2 == y.2.2.1.2 && Bool.true) && (decide (x.2.2.2.1 = y.2.2.2.1) && (x.2.2.2.2 == y.2.2.2.2 && Bool.true))))) = decide (x = y) := by
  obtain ⟨a, b, ⟨c, d⟩, e, f⟩ := x
  obtain ⟨a', b', ⟨c', d'⟩, e', f'⟩ := y
  rw [Bool.eq_iff_iff]
  simp
theorem same24_self {a : List RC} (h : a.length < 900) : p_dormouseref24_Same (m + 1000) a a = some true := by
  unfold p_dormouseref24_Same joinC
  have e : ((a.length : Int) != (a.length : Int)) = false := by simp
  rw [e, cond_false]
  refine loop_count (body := fun (r : List (Int × Vector Int (32) × (Bool × List UInt8) × Vector Int (32) × Int) × List (Int × Vector Int (32) × (Bool × List UInt8) × Vector Int (32) × Int) × Int → Option Bool) y => p_dormouseref24_Same.b1 (m + 1000) (fun (y : Unit) => p_dormouseref24_Same.j0 (m + 1000)) r y.1 y.2.1 y.2.2) a.length (m + 1000) (fun i => (a, a, (i : Int))) (by omega) (fun i hi rec => ?_) (fun rec => ?_)
  · dsimp only
    unfold p_dormouseref24_Same.b1
    rw [decide_eq_true (by omega), cond_true, need_yesF ⟨by omega, by omega⟩, need_yesF ⟨by omega, by omega⟩, at_getF hi, rec_test, decide_eq_true rfl, wrap_inc (by omega)]; rfl
  · dsimp only
    unfold p_dormouseref24_Same.b1
    rw [decide_eq_false (by omega), cond_false]; rfl
end Go.Dor.Fd
end

section
/- PAIRS THAT ARE NOT IN ANOTHER ROW; WHICH CHANGES MAKE ONE STORE OF ANOTHER ONE; IMAGES: behind the walk. -/
set_option linter.unusedVariables false
set_option linter.unusedSimpArgs false
namespace Go.Dor.Fd
open Go.Proofs Go.Dor
variable {m : Nat}

def kpA (c : List P) (x : P) : Bool := !decide (x ∈ c)
theorem index_eq {c : List P} (hc : c.length < 900) (x : P) : ∃ a : Int, p_slices_Index_api_Pair_api_Pair (m + 1000) c x = some a ∧ (decide (a ≥ 0) = decide (x ∈ c)) := by
  unfold p_slices_Index_api_Pair_api_Pair joinC
  have H : ∀ n fuel i : Nat, c.length - i = n → n < fuel → i ≤ c.length → ∃ a : Int, loopC (fun (r : List (Vector Int (32) × List UInt8) × Int × Int × Vector Int (32) × List UInt8 → Option Int) y => p_slices_Index_api_Pair_api_Pair.b1 (m + 1000) (fun (y : Unit) => p_slices_Index_api_Pair_api_Pair.j0 (m + 1000)) r y.1 y.2.1 y.2.2.1 y.2.2.2) fuel (c, (c.length : Int), (i : Int), x.1, x.2) = some a ∧ (decide (a ≥ 0) = decide (x ∈ c.drop i)) := by
    intro n
    induction n with
    | zero =>
      intro fuel i h1 h2 h3
      obtain ⟨fuel, rfl⟩ : ∃ f, fuel = f + 1 := ⟨fuel - 1, by omega⟩
      have e : i = c.length := by omega
      subst e
      refine ⟨-1, ?_, by rw [List.drop_length]; simp⟩
      rw [loopC_s]
      dsimp only
      unfold p_slices_Index_api_Pair_api_Pair.b1 p_slices_Index_api_Pair_api_Pair.j0
      rw [decide_eq_false (Int.lt_irrefl _), cond_false]
    | succ n ih =>
      intro fuel i h1 h2 h3
      obtain ⟨fuel, rfl⟩ : ∃ f, fuel = f + 1 := ⟨fuel - 1, by omega⟩
      have hi : i < c.length := by omega
      obtain ⟨a, ha, hb⟩ := ih fuel (i + 1) (by omega) (by omega) (by omega)
      rw [loopC_s]
      dsimp only
      generalize loopC (fun (r : List (Vector Int (32) × List UInt8) × Int × Int × Vector Int (32) × List UInt8 → Option Int) (y : List (Vector Int (32) × List UInt8) × Int × Int × Vector Int (32) × List UInt8) => p_slices_Index_api_Pair_api_Pair.b1 (m + 1000) (fun (y : Unit) => p_slices_Index_api_Pair_api_Pair.j0 (m + 1000)) r y.1 y.2.1 y.2.2.1 y.2.2.2) fuel = rec at ha ⊢
      unfold p_slices_Index_api_Pair_api_Pair.b1
      have ht : (decide (x.1 = c[i].1) && (x.2 == c[i].2 && Bool.true)) = decide (x = c[i]) := pair_test x c[i]
      rw [decide_eq_true (show (i : Int) < (c.length : Int) by omega), cond_true, need_yesF ⟨by omega, by omega⟩, at_getF hi, List.drop_eq_getElem_cons hi, wrap_inc (by omega)]
      dsimp only
      rw [ht]
      by_cases h : x = c[i]
      · refine ⟨(i : Int), by rw [decide_eq_true h]; rfl, ?_⟩
        rw [decide_eq_true (by omega), decide_eq_true (by rw [h]; exact List.mem_cons_self)]
      · refine ⟨a, by rw [decide_eq_false h]; exact ha, ?_⟩
        rw [hb]
        by_cases h2 : x ∈ c.drop (i + 1)
        · rw [decide_eq_true h2, decide_eq_true (List.mem_cons_of_mem _ h2)]
        · rw [decide_eq_false h2, decide_eq_false fun q => (List.mem_cons.1 q).elim h h2]
  obtain ⟨a, ha, hb⟩ := H c.length (m + 1000) 0 (by omega) (by omega) (by omega)
  exact ⟨a, ha, by rw [hb, List.drop_zero]⟩
theorem pred_eq {e : Int} {f : List Ky} {p c : List P} (hc : c.length < 900) (x : P) : p_image_Delta_c1 (m + 1000) x (e, f, p, c) = some (!kpA c x) := by
  unfold p_image_Delta_c1 p_slices_Contains_api_Pair_api_Pair
  obtain ⟨a, ha, hb⟩ := index_eq (m := m) hc x
  have ha : p_slices_Index_api_Pair_api_Pair (m + 1000) c (x.1, x.2) = some a := ha
  dsimp only
  rw [ha]
  simp only [Option.bind_some]
  unfold kpA
  rw [hb, Bool.not_not]
/-- the first that is struck -/
theorem index_loop {e : Int} {f : List Ky} {p c : List P} (hc : c.length < 900) {x : List P} (hb : x.length < 900) : ∀ (n fuel j : Nat), x.length - j = n → n < fuel → j ≤ x.length → (∀ y ∈ x.take j, kpA c y = true) →
    ((loopC (fun (r : List (Vector Int (32) × List UInt8) × Int × Int × Int × List (Vector Int (32)) × List (Vector Int (32) × List UInt8) × List (Vector Int (32) × List UInt8) → Option Int) y => p_slices_IndexFunc_api_Pair_api_Pair.b1 (m + 1000) (p_slices_IndexFunc_api_Pair_api_Pair.j0 (m + 1000)) r y.1 y.2.1 y.2.2.1 y.2.2.2) fuel (x, (x.length : Int), (j : Int), e, f, p, c) = some (-1) ∧ ∀ y ∈ x, kpA c y = true) ∨
     ∃ i : Nat, loopC (fun (r : List (Vector Int (32) × List UInt8) × Int × Int × Int × List (Vector Int (32)) × List (Vector Int (32) × List UInt8) × List (Vector Int (32) × List UInt8) → Option Int) y => p_slices_IndexFunc_api_Pair_api_Pair.b1 (m + 1000) (p_slices_IndexFunc_api_Pair_api_Pair.j0 (m + 1000)) r y.1 y.2.1 y.2.2.1 y.2.2.2) fuel (x, (x.length : Int), (j : Int), e, f, p, c) = some (i : Int) ∧ ∃ h : i < x.length, kpA c x[i] = false ∧ ∀ y ∈ x.take i, kpA c y = true) := by
  intro n
  induction n with
  | zero =>
    intro fuel j h1 h2 h3 h4
    obtain ⟨fuel, rfl⟩ : ∃ f, fuel = f + 1 := ⟨fuel - 1, by omega⟩
    have ej : j = x.length := by omega
    subst ej
    left
    refine ⟨?_, by rw [List.take_length] at h4; exact h4⟩
    rw [loopC_s]
    dsimp only
    unfold p_slices_IndexFunc_api_Pair_api_Pair.b1 p_slices_IndexFunc_api_Pair_api_Pair.j0
    rw [decide_eq_false (Int.lt_irrefl _), cond_false]
  | succ n ih =>
    intro fuel j h1 h2 h3 h4
    obtain ⟨fuel, rfl⟩ : ∃ f, fuel = f + 1 := ⟨fuel - 1, by omega⟩
    have hj : j < x.length := by omega
    have ih' := ih fuel (j + 1) (by omega) (by omega) (by omega)
    rw [loopC_s]
    dsimp only
    generalize loopC (fun (r : List (Vector Int (32) × List UInt8) × Int × Int × Int × List (Vector Int (32)) × List (Vector Int (32) × List UInt8) × List (Vector Int (32) × List UInt8) → Option Int) (y : List (Vector Int (32) × List UInt8) × Int × Int × Int × List (Vector Int (32)) × List (Vector Int (32) × List UInt8) × List (Vector Int (32) × List UInt8)) => p_slices_IndexFunc_api_Pair_api_Pair.b1 (m + 1000) (p_slices_IndexFunc_api_Pair_api_Pair.j0 (m + 1000)) r y.1 y.2.1 y.2.2.1 y.2.2.2) fuel = rec at ih' ⊢
    unfold p_slices_IndexFunc_api_Pair_api_Pair.b1
    have ew : IntKind.wrap .i64 ((j : Int) + 1) = ((j + 1 : Nat) : Int) := wrap_inc (by omega)
    rw [decide_eq_true (by omega), cond_true, need_yesF ⟨by omega, by omega⟩, at_getF hj, (show p_image_Delta_c1 (m + 1000) (x[j].1, x[j].2) (e, f, p, c) = _ from pred_eq hc x[j]), Option.bind_some, ew]
    cases hf : kpA c x[j]
    · right
      exact ⟨j, rfl, hj, hf, h4⟩
    · simp only [Bool.not_true, cond_false]
      refine ih' ?_
      rw [List.take_succ_eq_append_getElem hj]
      intro y hy
      rcases List.mem_append.1 hy with h | h
      · exact h4 y h
      · rw [List.mem_singleton.1 h]; exact hf
theorem delete_loop {e : Int} {f : List Ky} {p c : List P} (hc : c.length < 900) {x : List P} (hb : x.length < 900) : ∀ (n fuel j i : Nat) (s : List P), x.length - j = n → n < fuel → j ≤ x.length → s.length = x.length → s.take i = (x.take j).filter (kpA c) → i = ((x.take j).filter (kpA c)).length → i ≤ j → s.drop j = x.drop j →
    loopC (fun (r : Int × Int × List (Vector Int (32) × List UInt8) × Int × List (Vector Int (32)) × List (Vector Int (32) × List UInt8) × List (Vector Int (32) × List UInt8) → Option (List (Vector Int (32) × List UInt8))) y => p_slices_DeleteFunc_api_Pair_api_Pair.b1 (m + 1000) (fun (y : Int × List (Vector Int (32) × List UInt8) × Int × List (Vector Int (32)) × List (Vector Int (32) × List UInt8) × List (Vector Int (32) × List UInt8)) => p_slices_DeleteFunc_api_Pair_api_Pair.j0 (m + 1000) y.1 y.2.1 y.2.2) r y.1 y.2.1 y.2.2.1 y.2.2.2) fuel ((i : Int), (j : Int), s, e, f, p, c) = some (x.filter (kpA c)) := by
  intro n
  induction n with
  | zero =>
    intro fuel j i s h1 h2 h3 h4 h5 h6 h7 h8
    obtain ⟨fuel, rfl⟩ : ∃ f, fuel = f + 1 := ⟨fuel - 1, by omega⟩
    have ej : j = x.length := by omega
    subst ej
    rw [List.take_length] at h5 h6
    rw [loopC_s]
    dsimp only
    unfold p_slices_DeleteFunc_api_Pair_api_Pair.b1 p_slices_DeleteFunc_api_Pair_api_Pair.j0
    have hl : (List.take i s ++ List.replicate (s.length - i) (dflt (T.pair (T.arr (32) (T.int IntKind.u8)) T.str))).length = s.length := by rw [List.length_append, List.length_take, List.length_replicate]; omega
    rw [decide_eq_false (by omega), cond_false]
    dsimp only
    rw [Int.toNat_natCast, need_yesF ⟨by omega, by omega⟩, need_yesF ⟨by omega, by omega, by rw [hl]; omega⟩]
    have hl2 : (s.take i).length = i := by rw [List.length_take]; omega
    rw [List.take_append_of_le_length (by omega), List.take_of_length_le (by omega), h5]
  | succ n ih =>
    intro fuel j i s h1 h2 h3 h4 h5 h6 h7 h8
    obtain ⟨fuel, rfl⟩ : ∃ f, fuel = f + 1 := ⟨fuel - 1, by omega⟩
    have hj : j < x.length := by omega
    have hjs : j < s.length := by omega
    have hsj : s[j] = x[j] := by
      have a1 := List.drop_eq_getElem_cons hjs
      have a2 := List.drop_eq_getElem_cons hj
      rw [h8, a2] at a1
      exact (List.cons.inj a1).1.symm
    have h8' : s.drop (j + 1) = x.drop (j + 1) := by
      have a1 := List.drop_eq_getElem_cons hjs
      have a2 := List.drop_eq_getElem_cons hj
      rw [h8, a2] at a1
      exact (List.cons.inj a1).2.symm
    have ih0 := ih fuel (j + 1) i s (by omega) (by omega) (by omega) h4
    have ih1 := ih fuel (j + 1) (i + 1) (s.set i x[j]) (by omega) (by omega) (by omega) (by rw [List.length_set]; exact h4)
    rw [loopC_s]
    dsimp only
    generalize loopC (fun (r : Int × Int × List (Vector Int (32) × List UInt8) × Int × List (Vector Int (32)) × List (Vector Int (32) × List UInt8) × List (Vector Int (32) × List UInt8) → Option (List (Vector Int (32) × List UInt8))) (y : Int × Int × List (Vector Int (32) × List UInt8) × Int × List (Vector Int (32)) × List (Vector Int (32) × List UInt8) × List (Vector Int (32) × List UInt8)) => p_slices_DeleteFunc_api_Pair_api_Pair.b1 (m + 1000) (fun (y : Int × List (Vector Int (32) × List UInt8) × Int × List (Vector Int (32)) × List (Vector Int (32) × List UInt8) × List (Vector Int (32) × List UInt8)) => p_slices_DeleteFunc_api_Pair_api_Pair.j0 (m + 1000) y.1 y.2.1 y.2.2) r y.1 y.2.1 y.2.2.1 y.2.2.2) fuel = rec at ih0 ih1 ⊢
    unfold p_slices_DeleteFunc_api_Pair_api_Pair.b1 joinC
    dsimp only
    have ew : IntKind.wrap .i64 ((j : Int) + 1) = ((j + 1 : Nat) : Int) := wrap_inc (by omega)
    have ew2 : IntKind.wrap .i64 ((i : Int) + 1) = ((i + 1 : Nat) : Int) := by rw [wrap_i64 (by omega)]; omega
    rw [decide_eq_true (by omega), cond_true, need_yesF ⟨by omega, by omega⟩, at_getF hjs, hsj, (show p_image_Delta_c1 (m + 1000) (x[j].1, x[j].2) (e, f, p, c) = _ from pred_eq hc x[j]), Option.bind_some]
    have hfil : (x.take (j + 1)).filter (kpA c) = (x.take j).filter (kpA c) ++ (if kpA c x[j] then [x[j]] else []) := by
      rw [List.take_succ_eq_append_getElem hj, List.filter_append]
      congr 1
      cases h : kpA c x[j] <;> simp [h]
    unfold p_slices_DeleteFunc_api_Pair_api_Pair.j2
    cases hf : kpA c x[j]
    · rw [hf] at hfil
      simp only [Bool.false_eq_true, if_false, List.append_nil] at hfil
      simp only [Bool.not_false, Bool.not_true, cond_false]
      rw [ew]
      exact ih0 (by rw [hfil]; exact h5) (by rw [hfil]; exact h6) (by omega) h8'
    · rw [hf] at hfil
      simp only [if_true] at hfil
      simp only [Bool.not_true, Bool.not_false, cond_true]
      rw [need_yesF ⟨by omega, by omega⟩, ew, ew2]
      show rec (((i + 1 : Nat) : Int), ((j + 1 : Nat) : Int), s.set (i : Int).toNat x[j], e, f, p, c) = _
      rw [Int.toNat_natCast]
      refine ih1 ?_ (by rw [hfil, List.length_append, ← h6]; rfl) (by omega) ?_
      · rw [hfil, ← h5]
        rw [List.take_succ_eq_append_getElem (by rw [List.length_set]; omega)]
        rw [List.take_set_of_le (Nat.le_refl i), List.getElem_set_self]
      · rw [List.drop_set_of_lt (by omega)]
        exact h8'
theorem delete_eq {e : Int} {f : List Ky} {p c : List P} (hc : c.length < 900) {x : List P} (hb : x.length < 900) : p_slices_DeleteFunc_api_Pair_api_Pair (m + 1000) x (e, f, p, c) = some (x.filter (kpA c)) := by
  unfold p_slices_DeleteFunc_api_Pair_api_Pair p_slices_IndexFunc_api_Pair_api_Pair joinC
  dsimp only
  rcases index_loop (m := m) (e := e) (f := f) (p := p) hc hb x.length (m + 1000) 0 (by omega) (by omega) (by omega) (by simp) with ⟨h1, h2⟩ | ⟨i, h1, h2, h3, h4⟩
  · have h1' := h1
    rw [show ((0 : Nat) : Int) = 0 from rfl] at h1'
    rw [h1', Option.bind_some]
    have e : x.filter (kpA c) = x := List.filter_eq_self.2 h2
    rw [e]
    rfl
  · have h1' := h1
    rw [show ((0 : Nat) : Int) = 0 from rfl] at h1'
    rw [h1', Option.bind_some]
    have e : (((i : Nat) : Int) == -1) = false := beq_eq_false_iff_ne.2 (by omega)
    rw [e, cond_false, wrap_inc (by omega)]
    have hfi : (x.take (i + 1)).filter (kpA c) = x.take i := by
      rw [List.take_succ_eq_append_getElem h2, List.filter_append, List.filter_eq_self.2 h4]
      simp [h3]
    refine delete_loop (m := m) hc hb (x.length - (i + 1)) (m + 1000) (i + 1) i x rfl (by omega) (by omega) rfl hfi.symm ?_ (by omega) rfl
    rw [hfi, List.length_take]; omega
end Go.Dor.Fd
end

section
/- IMAGES, behind the walk: what they are, their texts, and what is read of these; ImageOf and ImageReads. -/
set_option linter.unusedVariables false
set_option linter.unusedSimpArgs false
namespace Go.Dor.Fd
open Go.Proofs Go.Dor
variable {m : Nat}

def prevR (x : P) : RC := (2, x.1, (getE x.2).1, zK, 0)
def setR (x : P) : RC := (1, x.1, (getE x.2).1, zK, 0)
def froR (s : Ky) : RC := (4, zK, (false, []), s, 0)
def epR (e : Int) : RC := (5, zK, (false, []), zK, e)
def imgM (p : PL) : List RC := [epR p.1] ++ p.2.1.map froR ++ p.2.2.1.map prevR ++ p.2.2.2.map setR

theorem eachP_eq {l : List P} (hl : l.length < 900) : p_image_each (m + 1000) l = some (l.map prevR) := by
  unfold p_image_each joinC
  refine loop_count (body := fun (r : List (Vector Int (32) × List UInt8) × Int × Int × List (Int × Vector Int (32) × (Bool × List UInt8) × Vector Int (32) × Int) → Option (List (Int × Vector Int (32) × (Bool × List UInt8) × Vector Int (32) × Int))) y => p_image_each.b1 (m + 1000) (p_image_each.j0 (m + 1000)) r y.1 y.2.1 y.2.2.1 y.2.2.2) l.length (m + 1000) (fun i => (l, (l.length : Int), (i : Int), (l.take i).map prevR)) (by omega) (fun i hi rec => ?_) (fun rec => ?_)
  · dsimp only
    unfold p_image_each.b1 p_record_Prev
    rw [decide_eq_true (by omega), cond_true, need_yesF ⟨by omega, by omega⟩, at_getF hi, get_eq, Option.bind_some, Option.bind_some, need_yesF (by rw [List.length_map, List.length_take]; simp only [List.length_cons, List.length_nil]; omega), wrap_inc (by omega), List.take_succ_eq_append_getElem hi, List.map_append]
    rfl
  · dsimp only
    unfold p_image_each.b1 p_image_each.j0
    rw [decide_eq_false (by omega), cond_false, List.take_length]
theorem eachS_eq {l : List P} (hl : l.length < 900) : p_image_each_v1 (m + 1000) l = some (l.map setR) := by
  unfold p_image_each_v1 joinC
  refine loop_count (body := fun (r : List (Vector Int (32) × List UInt8) × Int × Int × List (Int × Vector Int (32) × (Bool × List UInt8) × Vector Int (32) × Int) → Option (List (Int × Vector Int (32) × (Bool × List UInt8) × Vector Int (32) × Int))) y => p_image_each_v1.b1 (m + 1000) (p_image_each_v1.j0 (m + 1000)) r y.1 y.2.1 y.2.2.1 y.2.2.2) l.length (m + 1000) (fun i => (l, (l.length : Int), (i : Int), (l.take i).map setR)) (by omega) (fun i hi rec => ?_) (fun rec => ?_)
  · dsimp only
    unfold p_image_each_v1.b1 p_record_Set
    rw [decide_eq_true (by omega), cond_true, need_yesF ⟨by omega, by omega⟩, at_getF hi, get_eq, Option.bind_some, Option.bind_some, need_yesF (by rw [List.length_map, List.length_take]; simp only [List.length_cons, List.length_nil]; omega), wrap_inc (by omega), List.take_succ_eq_append_getElem hi, List.map_append]
    rfl
  · dsimp only
    unfold p_image_each_v1.b1 p_image_each_v1.j0
    rw [decide_eq_false (by omega), cond_false, List.take_length]
theorem imgOf_eq {e : Int} {f : List Ky} {p c : List P} (hf : f.length < 200) (hp : p.length < 200) (hc : c.length < 200) : p_image_Of (m + 1000) (e, f, p, c) = some (if mayP (e, f, p, c) = true then (0, imgM (e, f, p, c)) else (2, [])) := by
  unfold p_image_Of joinC p_record_Epoch
  dsimp only
  rw [check_eqP (by omega) (by omega), Option.bind_some]
  cases hm : mayP (e, f, p, c)
  · rfl
  rw [if_pos rfl, if_pos rfl]
  have hb0 : ((0 : Int) != 0) = false := rfl
  rw [hb0, cond_false, Option.bind_some]
  refine loop_count (body := fun (r : List (Vector Int (32)) × Int × Int × (Int × List (Vector Int (32)) × List (Vector Int (32) × List UInt8) × List (Vector Int (32) × List UInt8)) × List (Int × Vector Int (32) × (Bool × List UInt8) × Vector Int (32) × Int) → Option (Int × List (Int × Vector Int (32) × (Bool × List UInt8) × Vector Int (32) × Int))) y => p_image_Of.b1 (m + 1000) (fun y => p_image_Of.j0 (m + 1000) y.1 y.2) r y.1 y.2.1 y.2.2.1 y.2.2.2.1 y.2.2.2.2) f.length (m + 1000) (fun i => (f, (f.length : Int), (i : Int), (e, f, p, c), [epR e] ++ (f.take i).map froR)) (by omega) (fun i hi rec => ?_) (fun rec => ?_)
  · dsimp only
    unfold p_image_Of.b1 p_record_Frozen
    dsimp only
    rw [decide_eq_true (by omega), cond_true, need_yesF ⟨by omega, by omega⟩, at_getF hi, Option.bind_some, need_yesF (by rw [List.length_append, List.length_map, List.length_take]; simp only [List.length_cons, List.length_nil]; omega), wrap_inc (by omega), List.take_succ_eq_append_getElem hi, List.map_append, List.append_assoc]
    rfl
  · dsimp only
    unfold p_image_Of.b1 p_image_Of.j0
    dsimp only
    rw [decide_eq_false (by omega), cond_false, List.take_length, eachP_eq (by omega), Option.bind_some, eachS_eq (by omega), need_yesF (by simp only [List.length_append, List.length_map, List.length_cons, List.length_nil]; omega), Option.bind_some, need_yesF (by simp only [List.length_append, List.length_map, List.length_cons, List.length_nil]; omega)]
    rfl
theorem refOf_eq {e : Int} {f : List Ky} {p c : List P} (hf : f.length < 200) (hp : p.length < 200) (hc : c.length < 200) : p_dormouseref27_Of (m + 1000) (e, f, p, c) = some (imgM (e, f, p, c)) := by
  unfold p_dormouseref27_Of joinC
  dsimp only
  have L3 := loop_count (body := fun (r : Int × (Int × List (Vector Int (32)) × List (Vector Int (32) × List UInt8) × List (Vector Int (32) × List UInt8)) × List (Int × Vector Int (32) × (Bool × List UInt8) × Vector Int (32) × Int) → Option (List (Int × Vector Int (32) × (Bool × List UInt8) × Vector Int (32) × Int))) y => p_dormouseref27_Of.b3 (m + 1000) (p_dormouseref27_Of.j2 (m + 1000)) r y.1 y.2.1 y.2.2) (res := some (imgM (e, f, p, c))) c.length (m + 1000) (fun i => ((i : Int), (e, f, p, c), [epR e] ++ f.map froR ++ p.map prevR ++ (c.take i).map setR)) (by omega) (fun i hi rec => by
    dsimp only
    unfold p_dormouseref27_Of.b3
    dsimp only
    rw [decide_eq_true (by omega), cond_true, need_yesF ⟨by omega, by omega⟩, at_getF hi, refGet_eq, Option.bind_some, need_yesF ⟨by omega, by omega⟩, need_yesF (by simp only [List.length_append, List.length_map, List.length_take, List.length_cons, List.length_nil]; omega), wrap_inc (by omega), List.take_succ_eq_append_getElem hi, List.map_append, ← List.append_assoc]
    rfl) (fun rec => by
    dsimp only
    unfold p_dormouseref27_Of.b3 p_dormouseref27_Of.j2
    dsimp only
    rw [decide_eq_false (by omega), cond_false, List.take_length]
    rfl)
  have L4 := loop_count (body := fun (r : Int × (Int × List (Vector Int (32)) × List (Vector Int (32) × List UInt8) × List (Vector Int (32) × List UInt8)) × List (Int × Vector Int (32) × (Bool × List UInt8) × Vector Int (32) × Int) → Option (List (Int × Vector Int (32) × (Bool × List UInt8) × Vector Int (32) × Int))) y => p_dormouseref27_Of.b4 (m + 1000) (fun y => p_dormouseref27_Of.j1 (m + 1000) y.1 y.2) r y.1 y.2.1 y.2.2) (res := some (imgM (e, f, p, c))) p.length (m + 1000) (fun i => ((i : Int), (e, f, p, c), [epR e] ++ f.map froR ++ (p.take i).map prevR)) (by omega) (fun i hi rec => by
    dsimp only
    unfold p_dormouseref27_Of.b4
    dsimp only
    rw [decide_eq_true (by omega), cond_true, need_yesF ⟨by omega, by omega⟩, at_getF hi, refGet_eq, Option.bind_some, need_yesF ⟨by omega, by omega⟩, need_yesF (by simp only [List.length_append, List.length_map, List.length_take, List.length_cons, List.length_nil]; omega), wrap_inc (by omega), List.take_succ_eq_append_getElem hi, List.map_append, ← List.append_assoc]
    rfl) (fun rec => by
    dsimp only
    unfold p_dormouseref27_Of.b4 p_dormouseref27_Of.j1 joinC
    dsimp only
    rw [decide_eq_false (by omega), cond_false, List.take_length]
    have h := L3
    rw [List.take_zero, List.map_nil, List.append_nil] at h
    exact h)
  have L5 := loop_count (body := fun (r : Int × (Int × List (Vector Int (32)) × List (Vector Int (32) × List UInt8) × List (Vector Int (32) × List UInt8)) × List (Int × Vector Int (32) × (Bool × List UInt8) × Vector Int (32) × Int) → Option (List (Int × Vector Int (32) × (Bool × List UInt8) × Vector Int (32) × Int))) y => p_dormouseref27_Of.b5 (m + 1000) (fun y => p_dormouseref27_Of.j0 (m + 1000) y.1 y.2) r y.1 y.2.1 y.2.2) (res := some (imgM (e, f, p, c))) f.length (m + 1000) (fun i => ((i : Int), (e, f, p, c), [epR e] ++ (f.take i).map froR)) (by omega) (fun i hi rec => by
    dsimp only
    unfold p_dormouseref27_Of.b5
    dsimp only
    rw [decide_eq_true (by omega), cond_true, need_yesF ⟨by omega, by omega⟩, at_getF hi, need_yesF (by simp only [List.length_append, List.length_map, List.length_take, List.length_cons, List.length_nil]; omega), wrap_inc (by omega), List.take_succ_eq_append_getElem hi, List.map_append, ← List.append_assoc]
    rfl) (fun rec => by
    dsimp only
    unfold p_dormouseref27_Of.b5 p_dormouseref27_Of.j0 joinC
    dsimp only
    rw [decide_eq_false (by omega), cond_false, List.take_length]
    have h := L4
    rw [List.take_zero, List.map_nil, List.append_nil] at h
    exact h)
  rw [List.take_zero, List.map_nil, List.append_nil] at L5
  exact L5

/-! ### what an image holds -/
theorem getE_len (v : List UInt8) : (getE v).1.2.length ≤ v.length := by
  cases v with
  | nil => simp [getE]
  | cons b t =>
    unfold getE
    dsimp only
    split
    · split
      · simp
      · simp
    · split <;> simp
structure Few (p : PL) : Prop where
  fl : p.2.1.length ≤ 60
  pl : p.2.2.1.length ≤ 40
  cl : p.2.2.2.length ≤ 40
  vl : ∀ x ∈ p.2.2.1 ++ p.2.2.2, x.2.length ≤ 300
structure Byts (p : PL) : Prop where
  fb : ∀ s ∈ p.2.1, Byt s.toList
  pb : ∀ x ∈ p.2.2.1, Byt x.1.toList
  cb : ∀ x ∈ p.2.2.2, Byt x.1.toList
theorem img_len {p : PL} (h : Few p) : (imgM p).length ≤ 141 := by
  have := h.fl
  have := h.pl
  have := h.cl
  simp only [imgM, List.length_append, List.length_map, List.length_cons, List.length_nil]
  omega
theorem img_mem {p : PL} {r : RC} (h : r ∈ imgM p) : r = epR p.1 ∨ (∃ s ∈ p.2.1, r = froR s) ∨ (∃ x ∈ p.2.2.1, r = prevR x) ∨ ∃ x ∈ p.2.2.2, r = setR x := by
  unfold imgM at h
  simp only [List.mem_append, List.mem_singleton, List.mem_map] at h
  rcases h with ((h | ⟨s, hs, rfl⟩) | ⟨x, hx, rfl⟩) | ⟨x, hx, rfl⟩
  · exact .inl h
  · exact .inr (.inl ⟨s, hs, rfl⟩)
  · exact .inr (.inr (.inl ⟨x, hx, rfl⟩))
  · exact .inr (.inr (.inr ⟨x, hx, rfl⟩))
theorem risB_mem {l : List P} (h : risB l = true) {x : P} (hx : x ∈ l) : (getE x.2).2 = 0 := by
  obtain ⟨i, hi, rfl⟩ := List.getElem_of_mem hx
  exact risB_get h hi
theorem may_prev {x : P} (h : (getE x.2).2 = 0) : mayR (prevR x) = true := by
  unfold mayR prevR
  rw [if_pos (.inr rfl)]
  exact decide_eq_true ⟨rfl, rfl, (getE_inv h).2⟩
theorem may_set {x : P} (h : (getE x.2).2 = 0) : mayR (setR x) = true := by
  unfold mayR setR
  rw [if_pos (.inl rfl)]
  exact decide_eq_true ⟨rfl, rfl, (getE_inv h).2⟩
theorem img_may {p : PL} (hm : mayP p = true) : ∀ r ∈ imgM p, mayR r = true := by
  intro r hr
  obtain ⟨h1, h2⟩ := mayP_ris hm
  rcases img_mem hr with rfl | ⟨s, hs, rfl⟩ | ⟨x, hx, rfl⟩ | ⟨x, hx, rfl⟩
  · unfold mayP at hm
    have := of_decide_eq_true (Bool.and_eq_true_iff.1 hm).1
    unfold mayR epR
    rw [if_neg (show ¬ ((5 : Int) = 1 ∨ (5 : Int) = 2) by decide), if_neg (show ¬ ((5 : Int) = 3 ∨ (5 : Int) = 4) by decide), if_pos rfl]
    exact decide_eq_true ⟨rfl, rfl, rfl, this.1, this.2⟩
  · unfold mayR froR
    rw [if_neg (show ¬ ((4 : Int) = 1 ∨ (4 : Int) = 2) by decide), if_pos (.inr rfl)]
    exact decide_eq_true ⟨rfl, rfl, rfl⟩
  · exact may_prev (risB_mem h1 hx)
  · exact may_set (risB_mem h2 hx)
theorem img_val {p : PL} (hf : Few p) : ∀ r ∈ imgM p, r.2.2.1.2.length ≤ 300 := by
  intro r hr
  rcases img_mem hr with rfl | ⟨s, hs, rfl⟩ | ⟨x, hx, rfl⟩ | ⟨x, hx, rfl⟩
  · simp [epR]
  · simp [froR]
  · exact Nat.le_trans (getE_len x.2) (hf.vl x (List.mem_append_left _ hx))
  · exact Nat.le_trans (getE_len x.2) (hf.vl x (List.mem_append_right _ hx))
theorem zK_byt : Byt zK.toList := by
  intro n hn
  have hz : zK.toList = List.replicate 32 (0 : Int) := rfl
  rw [hz] at hn
  have : n = 0 := List.eq_of_mem_replicate hn
  omega
theorem img_byt {p : PL} (hb : Byts p) : ∀ r ∈ imgM p, Byt r.2.1.toList ∧ Byt r.2.2.2.1.toList := by
  intro r hr
  rcases img_mem hr with rfl | ⟨s, hs, rfl⟩ | ⟨x, hx, rfl⟩ | ⟨x, hx, rfl⟩
  · exact ⟨zK_byt, zK_byt⟩
  · exact ⟨zK_byt, hb.fb s hs⟩
  · exact ⟨hb.pb x hx, zK_byt⟩
  · exact ⟨hb.cb x hx, zK_byt⟩

/-! ### what an image comes to -/
theorem allM_step {p : PL} {r : RC} {l : List RC} (hm : mayR r = true) (hz : (oneM p r).2 = 0) : allM p (r :: l) = allM (oneM p r).1 l := by
  conv => lhs; unfold allM
  rw [if_pos hm, if_pos hz]
theorem all_fro (rest : List RC) : ∀ (fs : List Ky) (e : Int) (f : List Ky) (p c : List P), allM (e, f, p, c) (fs.map froR ++ rest) = allM (e, f ++ fs, p, c) rest
  | [], e, f, p, c => by simp
  | s :: fs, e, f, p, c => by
    have hm : mayR (froR s) = true := by
      unfold mayR froR
      rw [if_neg (show ¬ ((4 : Int) = 1 ∨ (4 : Int) = 2) by decide), if_pos (.inr rfl)]
      exact decide_eq_true ⟨rfl, rfl, rfl⟩
    have ho : oneM (e, f, p, c) (froR s) = ((e, f ++ [s], p, c), 0) := rfl
    rw [List.map_cons, List.cons_append, allM_step hm (by rw [ho]), ho, all_fro rest fs, List.append_assoc]; rfl
theorem all_prev (rest : List RC) : ∀ (xs : List P) (e : Int) (f : List Ky) (p c : List P), Ris (p ++ xs) → (∀ x ∈ xs, (getE x.2).2 = 0) → allM (e, f, p, c) (xs.map prevR ++ rest) = allM (e, f, p ++ xs, c) rest
  | [], e, f, p, c, _, _ => by simp
  | x :: xs, e, f, p, c, hr, hg => by
    have hx := hg x List.mem_cons_self
    have hp := List.pairwise_append.1 hr
    have ho : oneM (e, f, p, c) (prevR x) = ((e, f, putP p (x.1, enc (getE x.2).1), c), 0) := rfl
    have he : (x.1, enc (getE x.2).1) = x := by rw [(getE_inv hx).1]
    have hl : putP p x = p ++ [x] := putP_last fun y hy => hp.2.2 y hy x List.mem_cons_self
    rw [he, hl] at ho
    rw [List.map_cons, List.cons_append, allM_step (may_prev hx) (by rw [ho]), ho, all_prev rest xs e f (p ++ [x]) c (by rw [List.append_assoc]; exact hr) (fun y hy => hg y (List.mem_cons_of_mem _ hy)), List.append_assoc]; rfl
theorem all_set (rest : List RC) : ∀ (xs : List P) (e : Int) (f : List Ky) (p c : List P), Ris (c ++ xs) → (∀ x ∈ xs, (getE x.2).2 = 0) → allM (e, f, p, c) (xs.map setR ++ rest) = allM (e, f, p, c ++ xs) rest
  | [], e, f, p, c, _, _ => by simp
  | x :: xs, e, f, p, c, hr, hg => by
    have hx := hg x List.mem_cons_self
    have hp := List.pairwise_append.1 hr
    have ho : oneM (e, f, p, c) (setR x) = ((e, f, p, putP c (x.1, enc (getE x.2).1)), 0) := rfl
    have he : (x.1, enc (getE x.2).1) = x := by rw [(getE_inv hx).1]
    have hl : putP c x = c ++ [x] := putP_last fun y hy => hp.2.2 y hy x List.mem_cons_self
    rw [he, hl] at ho
    rw [List.map_cons, List.cons_append, allM_step (may_set hx) (by rw [ho]), ho, all_set rest xs e f p (c ++ [x]) (by rw [List.append_assoc]; exact hr) (fun y hy => hg y (List.mem_cons_of_mem _ hy)), List.append_assoc]; rfl
theorem all_img {p : PL} (hm : mayP p = true) : allM noP (imgM p) = (p, 0) := by
  obtain ⟨e, f, pp, c⟩ := p
  obtain ⟨h1, h2⟩ := mayP_ris hm
  have he : mayR (epR e) = true := img_may hm _ (by simp [imgM])
  have ho : oneM noP (epR e) = ((e, [], [], []), 0) := rfl
  have hi : imgM (e, f, pp, c) = epR e :: (f.map froR ++ (pp.map prevR ++ (c.map setR ++ []))) := by simp [imgM]
  rw [hi, allM_step he (by rw [ho]), ho, all_fro, List.nil_append, all_prev _ pp e f [] [] (by rw [List.nil_append]; exact risB_ris h1) (fun x hx => risB_mem h1 hx), List.nil_append, all_set _ c e f pp [] (by rw [List.nil_append]; exact risB_ris h2) (fun x hx => risB_mem h2 hx), List.nil_append]
  unfold allM
  rw [if_pos hm]

/-! ### read -/
def readM (s : List UInt8) : PL × Int := if (getB (s.length + 1) s).2 = 0 then allM noP (getB (s.length + 1) s).1 else (noP, (getB (s.length + 1) s).2)
theorem read_eq {s : List UInt8} (hs : s.length < 60000) (hl : (getB (s.length + 1) s).1.length < 900) : p_image_Read (m + s.length + 1000) s = some (told (readM s)) := by
  unfold p_image_Read readM
  rw [batchGet_eq hs, Option.bind_some]
  by_cases h : (getB (s.length + 1) s).2 = 0
  · rw [if_pos h, if_pos h]
    have hb0 : ((0 : Int) != 0) = false := rfl
    have ha : p_fold_All (m + s.length + 1000) ((0 : Int), [], [], []) (getB (s.length + 1) s).1 = _ := all_eq (m := m + s.length) (p := noP) (noInv (by omega)) (by omega)
    dsimp only
    rw [hb0, cond_false, ha]; rfl
  · rw [if_neg h, if_neg h, ibn]
    dsimp only
    rw [decide_eq_false h]; rfl
theorem joined_len {p : PL} (hf : Few p) : (joinB ((imgM p).map putR)).length < 60000 := by
  have h1 := joinP_len (imgM p) (img_val hf)
  have h2 := img_len hf
  have h3 : (imgM p).length * 338 ≤ 141 * 338 := Nat.mul_le_mul_right _ h2
  omega
theorem joined_ge : ∀ l : List RC, l.length ≤ (joinB (l.map putR)).length
  | [] => by simp
  | r :: l => by
    have ih := joined_ge l
    have e : joinB ((r :: l).map putR) = lenB (putR r) ++ joinB (l.map putR) := by simp [joinB]
    rw [e, List.length_append, lenB_len, List.length_cons]
    omega
theorem getB_img {p : PL} (hf : Few p) (hb : Byts p) (hm : mayP p = true) : getB ((joinB ((imgM p).map putR)).length + 1) (joinB ((imgM p).map putR)) = (imgM p, 0) := by
  refine getB_join (imgM p) _ (Nat.lt_succ_of_le (joined_ge _)) fun r hr => ⟨img_may hm r hr, (img_byt hb r hr).1, (img_byt hb r hr).2, ?_⟩
  have h1 := putR_len r
  have h2 := img_val hf r hr
  omega
theorem read_img {p : PL} (hf : Few p) (hb : Byts p) (hm : mayP p = true) : p_image_Read 61000 (joinB ((imgM p).map putR)) = some (told (p, 0)) := by
  have hl := joined_len hf
  have hg := getB_img hf hb hm
  have h := read_eq (m := 60000 - (joinB ((imgM p).map putR)).length) hl (by rw [hg]; have := img_len hf; dsimp only; omega)
  have e : 60000 - (joinB ((imgM p).map putR)).length + (joinB ((imgM p).map putR)).length + 1000 = 61000 := by omega
  rw [e] at h
  rw [h]
  unfold readM
  rw [hg, if_pos rfl, all_img hm]
theorem text_img {e : Int} {f : List Ky} {p c : List P} (hf : Few (e, f, p, c)) : p_image_Text (m + 1000) (e, f, p, c) = some (if mayP (e, f, p, c) = true then (joinB ((imgM (e, f, p, c)).map putR), 0) else ([], 2)) := by
  have h1 := hf.fl
  have h2 := hf.pl
  have h3 := hf.cl
  dsimp only at h1 h2 h3
  unfold p_image_Text
  dsimp only
  rw [imgOf_eq (by omega) (by omega) (by omega), Option.bind_some]
  cases hm : mayP (e, f, p, c)
  · rfl
  · rw [if_pos rfl, if_pos rfl]
    have hb0 : ((0 : Int) != 0) = false := rfl
    have := img_len hf
    dsimp only
    rw [hb0, cond_false, batchPut_eq (by omega) (img_may hm) (img_val hf)]; rfl

/-! ### which changes make one of another one -/
def deltaM (a b : PL) : Bool × List RC :=
  if plEq a (b.1, b.2.1, b.2.2.1, a.2.2.2) = true ∧ mayP a = true ∧ mayP b = true then
    (if (allM a ((b.2.2.2.filter (kpA a.2.2.2)).map setR)).2 = 0 ∧ plEq (allM a ((b.2.2.2.filter (kpA a.2.2.2)).map setR)).1 b = true then (true, (b.2.2.2.filter (kpA a.2.2.2)).map setR) else (false, []))
  else (false, [])
theorem allM_inv : ∀ (l : List RC) (p : PL), Inv l.length p → Inv 0 (allM p l).1 := fun l => by
  induction l with
  | nil =>
    intro p h
    unfold allM
    split
    · exact h
    · exact noInv (by omega)
  | cons r l ih =>
    intro p h
    unfold allM
    split
    · split
      · exact ih _ (h.one r)
      · exact noInv (by omega)
    · exact noInv (by omega)
theorem delta_eq {a b : PL} (ha : Few a) (hb : Few b) : p_image_Delta (m + 1000) a b = some (deltaM a b) := by
  obtain ⟨e, f, p, c⟩ := a
  obtain ⟨e', f', p', c'⟩ := b
  have a1 := ha.fl
  have a2 := ha.pl
  have a3 := ha.cl
  have b1 := hb.fl
  have b2 := hb.pl
  have b3 := hb.cl
  dsimp only at a1 a2 a3 b1 b2 b3
  unfold p_image_Delta p_image_Delta.j0 p_image_Delta.j1 joinC
  dsimp only
  rw [foldSame_eq (by omega) (by omega) (by omega), check_eqP (by omega) (by omega), check_eqP (by omega) (by omega)]
  simp only [Option.bind_some]
  have hN : ¬ (plEq (e, f, p, c) (e', f', p', c) = true ∧ mayP (e, f, p, c) = true ∧ mayP (e', f', p', c') = true) → deltaM (e, f, p, c) (e', f', p', c') = (false, []) := fun q => by
    unfold deltaM
    exact if_neg q
  cases h1 : plEq (e, f, p, c) (e', f', p', c)
  · rw [hN (by rw [h1]; simp)]; rfl
  cases h2 : mayP (e, f, p, c)
  · rw [hN (by rw [h2]; simp)]; rfl
  cases h3 : mayP (e', f', p', c')
  · rw [hN (by rw [h3]; simp)]; rfl
  have hR : deltaM (e, f, p, c) (e', f', p', c') = (if (allM (e, f, p, c) ((c'.filter (kpA c)).map setR)).2 = 0 ∧ plEq (allM (e, f, p, c) ((c'.filter (kpA c)).map setR)).1 (e', f', p', c') = true then (true, (c'.filter (kpA c)).map setR) else (false, [])) := by
    unfold deltaM
    exact if_pos ⟨h1, h2, h3⟩
  have hb0 : ((0 : Int) != 0) = false := rfl
  rw [hR]
  simp only [if_true, hb0, Bool.not_true, cond_false]
  rw [cloneP_eq (by omega), Option.bind_some, delete_eq (by omega) (by omega), Option.bind_some]
  have hfl : (c'.filter (kpA c)).length ≤ c'.length := List.length_filter_le _ _
  generalize c'.filter (kpA c) = fr at hfl ⊢
  rw [eachS_eq (by omega), Option.bind_some]
  obtain ⟨r1, r2⟩ := mayP_ris h2
  have hI : Inv (fr.map setR).length (e, f, p, c) := by
    rw [List.length_map]
    exact ⟨by dsimp only; omega, by dsimp only; omega, by dsimp only; omega, risB_ris r1, risB_ris r2⟩
  have hall : p_fold_All (m + 1000) (e, f, p, c) (fr.map setR) = some (told (allM (e, f, p, c) (fr.map setR))) := all_eq hI (by rw [List.length_map]; omega)
  have hJ := allM_inv _ _ hI
  rw [hall, Option.bind_some]
  generalize allM (e, f, p, c) (fr.map setR) = y at hJ ⊢
  have hs : p_fold_Same (m + 1000) (y.1.1, y.1.2.1, y.1.2.2.1, y.1.2.2.2) (e', f', p', c') = some (plEq y.1 (e', f', p', c')) := foldSame_eq hJ.fl hJ.pl hJ.cl
  unfold told
  dsimp only
  rw [hs]
  by_cases hy : y.2 = 0
  · have e1 : (y.2 != 0) = false := by rw [hy]; rfl
    rw [e1]
    by_cases h5 : plEq y.1 (e', f', p', c') = true
    · rw [if_pos ⟨hy, h5⟩, h5]; rfl
    · have h6 : plEq y.1 (e', f', p', c') = false := by simpa using h5
      rw [if_neg (fun q => h5 q.2), h6]; rfl
  · have e1 : (y.2 != 0) = true := bne_iff_ne.2 hy
    rw [if_neg (fun q => hy q.1), e1]; rfl

/-! ### what comes at any rate -/
def k7 : Ky := bparts (32 : Nat) (dflt (T.int IntKind.u8)) [((0 : Nat), (7 : Int))]
def pA : PL := (2, [k7], [], [(zK, [1, 118])])
def pB : PL := (2, [k7], [], [])
theorem pA_may : mayP pA = true := by kernel_rfl
theorem pA_few : Few pA := ⟨by simp [pA], by simp [pA], by simp [pA], by simp [pA]⟩
theorem pB_few : Few pB := ⟨by simp [pB], by simp [pB], by simp [pB], by simp [pB]⟩
theorem k7_byt : Byt k7.toList := by
  have h : (k7.toList.all fun n => decide (0 ≤ n ∧ n < 256)) = true := by kernel_rfl
  intro n hn
  exact of_decide_eq_true (List.all_eq_true.1 h n hn)
theorem pA_byt : Byts pA := ⟨fun s hs => by rw [List.mem_singleton.1 hs]; exact k7_byt, fun x hx => by simp [pA] at hx, fun x hx => by rw [List.mem_singleton.1 hx]; exact zK_byt⟩
theorem awake_delta : deltaM pB pA = (true, [setR (zK, [1, 118])]) := by kernel_rfl
theorem awake27 : p_dormouselaw27_awake 61000 = some true := by
  have h1 : p_image_Of 61000 (2, [k7], [], [(zK, [1, 118])]) = some (0, imgM pA) := (imgOf_eq (m := 60000) (by simp) (by simp) (by simp)).trans (by rw [show mayP ((2 : Int), [k7], [], [(zK, [1, 118])]) = true from pA_may, if_pos rfl]; rfl)
  have h2 : p_image_Text 61000 (2, [k7], [], [(zK, [1, 118])]) = some (joinB ((imgM pA).map putR), 0) := (text_img (m := 60000) pA_few).trans (by rw [show mayP ((2 : Int), [k7], [], [(zK, [1, 118])]) = true from pA_may, if_pos rfl]; rfl)
  have h3 := read_img pA_few pA_byt pA_may
  have h4 : p_image_Delta 61000 (2, [k7], [], []) (2, [k7], [], [(zK, [1, 118])]) = some (true, [setR (zK, [1, 118])]) := (delta_eq (m := 60000) pB_few pA_few).trans (by rw [awake_delta])
  have h5 : p_fold_Same 61000 (2, [k7], [], [(zK, [1, 118])]) (2, [k7], [], [(zK, [1, 118])]) = some true := (foldSame_eq (m := 60000) (by simp) (by simp) (by simp)).trans (by rw [plEq_self])
  have hk : (bparts (32 : Nat) (dflt (T.int IntKind.u8)) [((0 : Nat), (7 : Int))] : Vector Int 32) = k7 := rfl
  have hk2 : (bparts (32 : Nat) (dflt (T.int IntKind.u8)) [((0 : Nat), (7 : Int))] : Vector (den (T.int IntKind.u8)) 32) = k7 := rfl
  have hlen : (((imgM pA).length : Nat) : Int) = 3 := rfl
  unfold p_dormouselaw27_awake p_dormouselaw27_awake.j0 joinC
  simp only [hz2, hz4, hk, hk2]
  rw [h1, Option.bind_some, h2, Option.bind_some]
  dsimp only
  rw [h3, Option.bind_some, h4, Option.bind_some]
  unfold told pA
  dsimp only
  rw [h5]
  rfl

/-! ### the laws -/
theorem same_selfF {p : PL} (h : Inv 0 p) : p_dormouseref26_Same 61000 (p.1, p.2.1, p.2.2.1, p.2.2.2) (p.1, p.2.1, p.2.2.1, p.2.2.2) = some true := same_self (m := 60000) (p := p) h.fl h.pl h.cl
theorem law_ImageReads (s : List UInt8) : p_dormouselaw27_ImageReads 61000 s = some true := by
  unfold p_dormouselaw27_ImageReads p_dormouselaw27_ImageReads.j0 p_dormouselaw27_ImageReads.j1 joinC
  rw [awake27]
  simp only [Option.bind_some, cond_true]
  by_cases h : s.length > 1500
  · rw [decide_eq_true (by omega), cond_true]
  · rw [decide_eq_false (by omega), cond_false]
    have hl := getB_len (s.length + 1) s (by omega)
    have hr := read_eq (m := 60000 - s.length) (s := s) (by omega) (by omega)
    obtain ⟨a, hg⟩ := refBatch_eq (m := 60000 - s.length) (s := s) (by omega)
    have e : 60000 - s.length + s.length + 1000 = 61000 := by omega
    rw [e] at hr hg
    rw [hr, hg]
    simp only [Option.bind_some, ibn]
    unfold readM
    have hno : p_dormouseref26_Same 61000 ((0 : Int), [], [], []) ((0 : Int), [], [], []) = some true := same_selfF (p := noP) (noInv (by omega))
    by_cases hz : (getB (s.length + 1) s).2 = 0
    · have hI : Inv (getB (s.length + 1) s).1.length noP := noInv (by omega)
      have ha : p_dormouseref26_All 61000 ((0 : Int), [], [], []) (getB (s.length + 1) s).1 = some (allM noP (getB (s.length + 1) s).1) := refAll_eq (m := 60000) hI (by omega)
      have hJ := allM_inv _ _ hI
      rw [decide_eq_true hz, if_pos hz, ha]
      simp only [Bool.not_true, cond_false, Option.bind_some]
      generalize allM noP (getB (s.length + 1) s).1 = y at hJ ⊢
      unfold told
      simp only [beq_self_eq_true, cond_true]
      rw [same_selfF hJ]; rfl
    · rw [decide_eq_false hz, if_neg hz]
      unfold told noP
      simp only [Bool.not_false, cond_true, beq_self_eq_true]
      rw [hno]; rfl
theorem law_ImageOf (p : PL) (hbt : Byts p) : p_dormouselaw27_ImageOf 61000 p = some true := by
  obtain ⟨e, f, pp, c⟩ := p
  obtain ⟨b, hl, hb⟩ := light_eq (m := 60000) (e := e) (f := f) (p := pp) (c := c)
  have hl : p_dormouselaw26_Light 61000 (e, f, pp, c) = some b := hl
  unfold p_dormouselaw27_ImageOf p_dormouselaw27_ImageOf.j0 p_dormouselaw27_ImageOf.j1 joinC
  dsimp only
  rw [awake27, hl]
  simp only [Option.bind_some, cond_true]
  cases b
  · rfl
  obtain ⟨b1, b2, b3, b4⟩ := hb rfl
  have hf : Few (e, f, pp, c) := ⟨b1, b2, b3, b4⟩
  have h1 : p_image_Of 61000 (e, f, pp, c) = _ := imgOf_eq (m := 60000) (by omega) (by omega) (by omega)
  have h2 : p_image_Text 61000 (e, f, pp, c) = _ := text_img (m := 60000) hf
  have h3 : p_dormouseref26_May 61000 (e, f, pp, c) = _ := may_eqP (m := 60000) (by omega) (by omega)
  have h4 : p_dormouseref27_Of 61000 (e, f, pp, c) = _ := refOf_eq (m := 60000) (by omega) (by omega) (by omega)
  rw [h1, h2, h3, h4]
  simp only [Option.bind_some, Bool.not_true, cond_false]
  cases hm : mayP (e, f, pp, c)
  · rfl
  · simp only [if_true, Bool.not_true, cond_false]
    have h5 := read_img hf hbt hm
    have hil := img_len hf
    have h6 : p_dormouseref24_Same 61000 (imgM (e, f, pp, c)) (imgM (e, f, pp, c)) = some true := same24_self (m := 60000) (by omega)
    have h7 : p_dormouseref25_Put 61000 (imgM (e, f, pp, c)) = _ := refPut25_eq (m := 60000) (by omega) (img_may hm) (img_val hf)
    have h8 : p_dormouseref26_Same 61000 (e, f, pp, c) (e, f, pp, c) = some true := same_self (m := 60000) (p := (e, f, pp, c)) (by dsimp only; omega) (by dsimp only; omega) (by dsimp only; omega)
    rw [h5, h6, h7]
    unfold told
    simp only [Option.bind_some, cond_true, beq_self_eq_true]
    rw [h8]; rfl
end Go.Dor.Fd
end

section
/- AN ARGUMENT OF A LAW, as data of its type: numbers fit, the value reads as the data. -/
namespace Go.Dor
section
variable {H : Type} {enc' : TypeId × Value → H} {P : Program} {w : World}

def vOf : (c : T) → den c → V
  | .int k, n => .one (.i k n)
  | .bool, x => .one (.b x)
  | .str, l => .one (.s l)
  | .flt k, n => .one (.f k n)
  | .fx k, n => .one (.fx k n)
  | .sl e, xs => .one (.ro e xs)
  | .unit, x => .ag (enc .unit x)
  | .pair a b, x => .ag (enc (.pair a b) x)
  | .arr n e, x => .ag (enc (.arr n e) x)

def aggT : T → Bool
  | .unit | .pair .. | .arr .. => true
  | _ => false

theorem okWide_agg {t : TypeId} {r : Reach} {base : Nat} {v : Value} (hv : Value.okWide P w r base t v) (hg : (∃ fs, P.underlying t = some (.struct fs)) ∨ ∃ m e, P.underlying t = some (.array m e)) : ∃ cs, v = .agg cs := by
  rcases hg with ⟨fs, hg⟩ | ⟨m, e, hg⟩ <;>
  · simp only [Value.okWide, hg] at hv
    obtain ⟨cs, h1, _⟩ := hv
    exact ⟨cs, h1⟩

theorem one_cells {v : Value} (h : ∀ cs, v ≠ .agg cs) : v.cells.toList = [v] := by
  cases v <;> first | rfl | exact absurd rfl (h _)

theorem arg_rv {t : TypeId} {v : Value} {d : DataW H} {p : List MemPlace} {c : T} (hag : (match P.underlying t with | some (.struct _) | some (.array _ _) => true | _ => false) = aggT c)
    (h : DataW.Trod enc' P w 0 (fun _ => true) true t v d p) (hc : codeT P depth t = some c) (ht : tiled P depth t = true) {r : Reach} {base : Nat} (hv : Value.okWide P w r base t v) : ∃ a : den c, Rv (m0 w) (vOf c a) v ∧ okD c a := by
  obtain ⟨a, ha, hk⟩ := arg_ok h hc ht
  refine ⟨a, ?_, hk⟩
  cases hx : aggT c with
  | true =>
    rw [hx] at hag
    have hcs : ∃ cs, v = .agg cs := by
      split at hag
      · rename_i fs hu; exact okWide_agg hv (.inl ⟨_, hu⟩)
      · rename_i m e hu; exact okWide_agg hv (.inr ⟨_, _, hu⟩)
      · cases hag
    obtain ⟨cs, hcs⟩ := hcs
    cases c <;> first | exact rv_ag hcs ha | cases hx
  | false =>
    rw [hx] at hag
    have hne : ∀ cs, v ≠ .agg cs := by
      rintro cs rfl
      split at hag
      · cases hag
      · cases hag
      · rename_i h1 h2
        unfold Value.okWide at hv
        split at hv
        · rename_i hu; exact h1 _ hu
        · rename_i hu; exact h2 _ _ hu
        · unfold Cell.okWide at hv
          cases hu : P.underlying t with
          | none => rw [hu] at hv; simp [Cell.ok, hu] at hv
          | some u => cases u <;> simp_all [Cell.ok]
    rw [one_cells hne] at ha
    cases c <;> first | exact ha | cases hx
end
end Go.Dor
end

section
/- ImageReads AT EVERY INPUT: true; each argument reads behind the call as it read before. No condition but the row's own. -/
namespace Go.Proofs.Ytpbcchljlhkonaa
open Go.ChangeShapes Go.WideShapes Go.ChangeAt Go.RowKit

theorem imageReads_ownNone : ownKnob Try.prog.godebug = none := by kernel_rfl
theorem imageReads_laidOk : laidOutB Try.prog = true := by kernel_rfl
set_option maxRecDepth 100000 in
theorem imageReads_lifted (os : Os) (started : os.Started) (H : Type) (enc : TypeId × Value → H) :
    ReturnsInHanded {} Try.checked os 7 .any (Rows.imageReadsSpec.pre6 enc Try.prog Try.f7 Rows.imageReadsRow.domain false) (Rows.imageReadsSpec.post enc Try.prog Try.f7 false true false false) := by
  refine returnsInHanded_of_change_sized (C := Try.checked) imageReads_ownNone started (by kernel_rfl) Try.func7
    (ChangeSpec.witness6 (enc := enc) (C := Try.checked) false ⟨#[], #[.string ⟨#[]⟩], []⟩ 8 (by kernel_rfl) (by kernel_rfl) (by kernel_rfl) (by kernel_rfl)) ?_
  intro W base args ds gs before hval0 hW _ _ _
  have hval : ∀ (j : Nat) t v, Try.f7.params[j]? = some t → args[j]? = some v → Value.okWide Try.prog W .any base t v := hval0
  have hW' := hW
  obtain ⟨p, q, hA0, hV, rfl, _, _⟩ := hW
  have hA : DataW.TrodAll enc Try.prog W 0 (fun _ => true) true Try.f7.params.toList args.toList ds p := hA0
  have hA2 := hA
  rw [Try.params7] at hA hval
  obtain ⟨rfl, rfl⟩ := trodVars_none hV
  simp only [List.append_nil] at hW'
  have hlt : ∀ x ∈ p, x.block < W.heap.size := fun x hx => by simpa using hW'.lt x hx
  obtain ⟨v0, d0, rfl, rfl, h0⟩ := trodAll_one hA
  obtain ⟨a0, r0, k0⟩ := Dor.arg_rv (c := .str) (by kernel_rfl) h0 (by kernel_rfl) (by kernel_rfl) (hval 0 _ v0 rfl rfl)
  have hk := Dor.Fd.law_ImageReads a0
  refine (Dor.law_calls (Dor.s_dormouselaw27_ImageReads 61000) (vals := [v0]) (x := a0) (w := W) ⟨r0, trivial⟩ hk).mono fun e W' ⟨he, hnx⟩ => ⟨_, he, ?_⟩
  refine ⟨_, _, _, [] ++ [], p, [], hW', trodAll_mk1 (shut_bool (by kernel_rfl) true), ?_, rfl, hnx.frame _, fun h => by cases h⟩
  exact Dor.trodAll_stays imageReads_laidOk hnx (by decide +kernel) hA2 hlt

theorem imageReads_holds : Rows.ImageReadsSaid :=
  OpenClaim.holds_of_wide 7 Try.f7 rfl rfl rfl rfl rfl rfl rfl ⟨rfl, rfl, rfl, rfl, rfl⟩ rfl rfl rfl rfl rfl (by kernel_rfl) Try.func7 (by kernel_rfl)
    (of_decide_eq_true (by kernel_rfl)) (by unfold Func.isWrapper; first | (rw [if_pos (by decide +kernel)]; kernel_rfl) | (rw [if_neg (by decide +kernel)]; exact ⟨rfl, rfl⟩))
    (fun os started H enc _ => imageReads_lifted os started H enc)

end Go.Proofs.Ytpbcchljlhkonaa
end
