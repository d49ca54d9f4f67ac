/- PART 6 OF WHAT THE ROW STANDS ON: the texts Dc Dd De Df Zl Dg, one behind the other. -/
import Derived.Test.YtpbcchljlhkonaaX85
import Derived.Test.YtpbcchljlhkonaaX84
import Derived.ProofKit
import Derived.OpenShut
import Derived.KernelRfl
section
/- KEYS HELD AGAINST EACH OTHER, ROWS HELD AGAINST EACH OTHER, ROWS SORTED BY PUTTING IN: the document's answers, behind the walk. -/
set_option linter.unusedVariables false
set_option linter.unusedSimpArgs false
namespace Go.Dor.Fd
open Go.Proofs Go.Dor
variable {m : Nat}

theorem less_eq (a b : Ky) : p_dormouseref10_Less (m + 1000) a b = some (klt a b) := by
  unfold p_dormouseref10_Less joinC
  have ha : a.toList.length = 32 := by simp
  have hb : b.toList.length = 32 := by simp
  have H : ∀ n fuel i : Nat, 32 - i = n → n < fuel → i ≤ 32 → loopC (fun (r : Int × Vector Int (32) × Vector Int (32) → Option Bool) y => p_dormouseref10_Less.b1 (m + 1000) (fun (y : Unit) => p_dormouseref10_Less.j0 (m + 1000)) r y.1 y.2.1 y.2.2) fuel ((i : Int), a, b) = some (lexB (a.toList.drop i) (b.toList.drop i)) := by
    intro n
    induction n with
    | zero =>
      intro fuel i h1 h2 h3
      obtain ⟨fuel, rfl⟩ : ∃ f, fuel = f + 1 := ⟨fuel - 1, by omega⟩
      have e : i = 32 := by omega
      subst e
      rw [loopC_s, List.drop_of_length_le (by omega), List.drop_of_length_le (by omega)]
      rfl
    | succ n ih =>
      intro fuel i h1 h2 h3
      obtain ⟨fuel, rfl⟩ : ∃ f, fuel = f + 1 := ⟨fuel - 1, by omega⟩
      have ih' := ih fuel (i + 1) (by omega) (by omega) (by omega)
      rw [loopC_s]
      dsimp only
      generalize loopC (fun (r : Int × Vector Int (32) × Vector Int (32) → Option Bool) (y : Int × Vector Int (32) × Vector Int (32)) => p_dormouseref10_Less.b1 (m + 1000) (fun (y : Unit) => p_dormouseref10_Less.j0 (m + 1000)) r y.1 y.2.1 y.2.2) fuel = rec at ih' ⊢
      unfold p_dormouseref10_Less.b1
      rw [decide_eq_true (show (i : Int) < 32 by omega), cond_true, need_yesF ⟨by omega, by omega⟩, need_yesF ⟨by omega, by omega⟩, need_yesF ⟨by omega, by omega⟩, need_yesF ⟨by omega, by omega⟩, at_getF (by omega), at_getF (by omega), wrap_inc (by omega), ih', List.drop_eq_getElem_cons (by omega : i < a.toList.length), List.drop_eq_getElem_cons (by omega : i < b.toList.length)]
      show _ = some (decide (_ < _) || (decide (_ = _) && lexB _ _))
      by_cases h : a.toList[i] = b.toList[i]
      · have : (a.toList[i] != b.toList[i]) = false := by rw [h]; exact bne_self_eq_false _
        rw [this, cond_false, h]; simp
      · have : (a.toList[i] != b.toList[i]) = true := bne_iff_ne.2 h
        rw [this, cond_true, decide_eq_false h]; simp
  exact H 32 (m + 1000) 0 rfl (by omega) (by omega)

/-! ### rows held against each other -/
theorem same_fin {α : Type} [DecidableEq α] {a b : List α} {x : Option Bool} (hl : a.length = b.length)
    (h : (x = some true ∧ ∀ i, i < a.length → decide (a[i]? = b[i]?) = true) ∨ (x = some false ∧ ∃ i, i < a.length ∧ decide (a[i]? = b[i]?) = false)) : x = some (decide (a = b)) := by
  rcases h with ⟨h, h2⟩ | ⟨h, i, h3, h4⟩
  · have : a = b := by
      apply List.ext_getElem?
      intro i
      by_cases hi : i < a.length
      · simpa using h2 i hi
      · rw [List.getElem?_eq_none (by omega), List.getElem?_eq_none (by omega)]
    rw [h, decide_eq_true this]
  · have : ¬ a = b := fun q => by
      have := of_decide_eq_false h4
      exact this (by rw [q])
    rw [h, decide_eq_false this]
theorem pair_test (x y : P) : (decide (x.1 = y.1) && (x.2 == y.2 && Bool.true)) = decide (x = y) := by
  obtain ⟨a, b⟩ := x
  obtain ⟨c, d⟩ := y
  rw [Bool.eq_iff_iff]
  simp
theorem refSame_eq {a b : List P} (h : a.length < 900) : p_dormouseref10_Same (m + 1000) a b = some (decide (a = b)) := by
  unfold p_dormouseref10_Same joinC
  by_cases hl : a.length = b.length
  · have e : ((a.length : Int) != (b.length : Int)) = false := by simp [hl]
    rw [e, cond_false]
    refine same_fin hl (loop_all (body := fun (r : List (Vector Int (32) × List UInt8) × List (Vector Int (32) × List UInt8) × Int → Option Bool) y => p_dormouseref10_Same.b1 (m + 1000) (fun (y : Unit) => p_dormouseref10_Same.j0 (m + 1000)) r y.1 y.2.1 y.2.2) a.length (m + 1000) (fun i => (a, b, (i : Int))) (by omega) (fun i hi rec => ?_) (fun rec => ?_))
    · dsimp only
      unfold p_dormouseref10_Same.b1
      rw [decide_eq_true (by omega), cond_true, need_yesF ⟨by omega, by omega⟩, need_yesF ⟨by omega, by omega⟩, at_getF hi, at_getF (by omega), pair_test, wrap_inc (by omega), List.getElem?_eq_getElem hi, List.getElem?_eq_getElem (by omega)]
      by_cases q : a[i] = b[i]'(by omega)
      · rw [decide_eq_true q]; simp [q]
      · rw [decide_eq_false q]; simp [q]
    · dsimp only
      unfold p_dormouseref10_Same.b1
      rw [decide_eq_false (by omega), cond_false]; rfl
  · have e : ((a.length : Int) != (b.length : Int)) = true := by simp; omega
    have : ¬ a = b := fun q => hl (by rw [q])
    rw [e, cond_true, decide_eq_false this]
theorem eqP_eq {a b : List P} (h : a.length < 900) : p_slices_Equal_api_Pair_api_Pair (m + 1000) a b = some (decide (a = b)) := by
  unfold p_slices_Equal_api_Pair_api_Pair joinC
  by_cases hl : a.length = b.length
  · have e : ((a.length : Int) != (b.length : Int)) = false := by simp [hl]
    rw [e, cond_false]
    refine same_fin hl (loop_all (body := fun (r : List (Vector Int (32) × List UInt8) × List (Vector Int (32) × List UInt8) × Int × Int → Option Bool) y => p_slices_Equal_api_Pair_api_Pair.b1 (m + 1000) (fun (y : Unit) => p_slices_Equal_api_Pair_api_Pair.j0 (m + 1000)) r y.1 y.2.1 y.2.2.1 y.2.2.2) a.length (m + 1000) (fun i => (a, b, (a.length : Int), (i : Int))) (by omega) (fun i hi rec => ?_) (fun rec => ?_))
    · dsimp only
      unfold p_slices_Equal_api_Pair_api_Pair.b1
      rw [decide_eq_true (by omega), cond_true, need_yesF ⟨by omega, by omega⟩, need_yesF ⟨by omega, by omega⟩, at_getF hi, at_getF (by omega), pair_test, wrap_inc (by omega), List.getElem?_eq_getElem hi, List.getElem?_eq_getElem (by omega)]
      by_cases q : a[i] = b[i]'(by omega)
      · rw [decide_eq_true q]; simp [q]
      · rw [decide_eq_false q]; simp [q]
    · dsimp only
      unfold p_slices_Equal_api_Pair_api_Pair.b1
      rw [decide_eq_false (by omega), cond_false]; rfl
  · have e : ((a.length : Int) != (b.length : Int)) = true := by simp; omega
    have : ¬ a = b := fun q => hl (by rw [q])
    rw [e, cond_true, decide_eq_false this]
theorem eqS_eq {a b : List Ky} (h : a.length < 900) : p_slices_Equal_api_Sum_api_Sum (m + 1000) a b = some (decide (a = b)) := by
  unfold p_slices_Equal_api_Sum_api_Sum joinC
  by_cases hl : a.length = b.length
  · have e : ((a.length : Int) != (b.length : Int)) = false := by simp [hl]
    rw [e, cond_false]
    refine same_fin hl (loop_all (body := fun (r : List (Vector Int (32)) × List (Vector Int (32)) × Int × Int → Option Bool) y => p_slices_Equal_api_Sum_api_Sum.b1 (m + 1000) (fun (y : Unit) => p_slices_Equal_api_Sum_api_Sum.j0 (m + 1000)) r y.1 y.2.1 y.2.2.1 y.2.2.2) a.length (m + 1000) (fun i => (a, b, (a.length : Int), (i : Int))) (by omega) (fun i hi rec => ?_) (fun rec => ?_))
    · dsimp only
      unfold p_slices_Equal_api_Sum_api_Sum.b1
      rw [decide_eq_true (by omega), cond_true, need_yesF ⟨by omega, by omega⟩, need_yesF ⟨by omega, by omega⟩, at_getF hi, at_getF (by omega), wrap_inc (by omega), List.getElem?_eq_getElem hi, List.getElem?_eq_getElem (by omega)]
      by_cases q : a[i] = b[i]'(by omega)
      · rw [decide_eq_true q]; simp [q]
      · rw [decide_eq_false q]; simp [q]
    · dsimp only
      unfold p_slices_Equal_api_Sum_api_Sum.b1
      rw [decide_eq_false (by omega), cond_false]; rfl
  · have e : ((a.length : Int) != (b.length : Int)) = true := by simp; omega
    have : ¬ a = b := fun q => hl (by rw [q])
    rw [e, cond_true, decide_eq_false this]

/-! ### sorted by putting in -/
theorem sort_in {l s : List P} {i : Nat} (hi : i < l.length) (hs : s.length < 990) (j : List P × List P × Int × Int → Option (List P)) :
    loopC (fun (r : List (Vector Int (32) × List UInt8) × List (Vector Int (32) × List UInt8) × Int × Int → Option (List (Vector Int (32) × List UInt8))) y => p_dormouseref10_Sort.b6 (m + 1000) j r y.1 y.2.1 y.2.2.1 y.2.2.2) (m + 1000) (l, s, (i : Int), (0 : Int)) = j (l, s, (i : Int), (cnt s l[i].1 : Int)) := by
  have hc := cnt_le s l[i].1
  refine loop_count (body := fun (r : List (Vector Int (32) × List UInt8) × List (Vector Int (32) × List UInt8) × Int × Int → Option (List (Vector Int (32) × List UInt8))) y => p_dormouseref10_Sort.b6 (m + 1000) j r y.1 y.2.1 y.2.2.1 y.2.2.2) (cnt s l[i].1) (m + 1000) (fun k => (l, s, (i : Int), (k : Int))) (by omega) (fun k hk rec => ?_) (fun rec => ?_)
  · dsimp only
    unfold p_dormouseref10_Sort.b6 p_dormouseref10_Sort.j7 joinC
    dsimp only
    rw [decide_eq_true (show (k : Int) < (s.length : Int) by omega), cond_true, need_yesF ⟨by omega, by omega⟩, need_yesF ⟨by omega, by omega⟩, at_getF (show k < s.length by omega), at_getF hi, less_eq, Option.bind_some, cnt_lt hk (by omega), cond_true, wrap_inc (by omega)]
  · dsimp only
    unfold p_dormouseref10_Sort.b6 p_dormouseref10_Sort.j7 joinC
    dsimp only
    by_cases h : cnt s l[i].1 < s.length
    · rw [decide_eq_true (show (cnt s l[i].1 : Int) < (s.length : Int) by omega), cond_true, need_yesF ⟨by omega, by omega⟩, need_yesF ⟨by omega, by omega⟩, at_getF h, at_getF hi, less_eq, Option.bind_some, cnt_at h, cond_false]
    · rw [decide_eq_false (show ¬ (cnt s l[i].1 : Int) < (s.length : Int) by omega), cond_false, cond_false]
theorem sub_dropF {α : Type} (l : List α) {n : Nat} : sub_ l (n : Int) (l.length : Int) = l.drop n := by simp [sub_]
theorem sub_takeF {α : Type} (l : List α) (n : Nat) : sub_ l (0 : Int) (n : Int) = l.take n := by simp [sub_]
theorem sort_eq {l : List P} (hl : l.length < 990) : p_dormouseref10_Sort (m + 1000) l = some (sortP l) := by
  unfold p_dormouseref10_Sort joinC
  refine loop_count (body := fun (r : List (Vector Int (32) × List UInt8) × List (Vector Int (32) × List UInt8) × Int → Option (List (Vector Int (32) × List UInt8))) y => p_dormouseref10_Sort.b1 (m + 1000) (p_dormouseref10_Sort.j0 (m + 1000)) r y.1 y.2.1 y.2.2) l.length (m + 1000) (fun i => (l, sortP (l.take i), (i : Int))) (by omega) (fun i hi rec => ?_) (fun rec => ?_)
  · dsimp only
    unfold p_dormouseref10_Sort.b1 joinC
    have hs : (sortP (l.take i)).length ≤ i := Nat.le_trans (sortP_len _) (by rw [List.length_take]; omega)
    rw [decide_eq_true (by omega), cond_true, List.take_succ_eq_append_getElem hi, sortP_snoc, putP_eq]
    generalize sortP (l.take i) = s at hs ⊢
    refine (sort_in hi (by omega) _).trans ?_
    have hc := cnt_le s l[i].1
    dsimp only
    unfold p_dormouseref10_Sort.j3 p_dormouseref10_Sort.j5 p_dormouseref10_Sort.j4 p_dormouseref10_Sort.j2 joinC
    dsimp only
    have hlen : ∀ n, n ≤ s.length → (List.length ([] ++ s.take (cnt s l[i].1)) + List.length [(l[i].1, l[i].2)]) ≤ 1000 := fun n hn => by simp only [List.nil_append, List.length_take, List.length_cons, List.length_nil]; omega
    rw [need_yesF ⟨by omega, by omega, by omega⟩, sub_takeF, need_yesF (by rw [List.length_take]; omega), need_yesF ⟨by omega, by omega⟩, at_getF hi, need_yesF (by have := hlen 0 (by omega); omega)]
    by_cases h : cnt s l[i].1 < s.length
    · rw [decide_eq_true (show (cnt s l[i].1 : Int) < (s.length : Int) by omega), cond_true, need_yesF ⟨by omega, by omega⟩, need_yesF ⟨by omega, by omega⟩, at_getF h]
      have hh : has s l[i].1 = decide (s[cnt s l[i].1].1 = l[i].1) := by
        unfold has
        rw [List.getElem?_eq_getElem h]; simp
      rw [hh]
      by_cases q : s[cnt s l[i].1].1 = l[i].1
      · rw [decide_eq_true q, cond_true, if_pos rfl, wrap_inc (show cnt s l[i].1 < 1000000 by omega), need_yesF ⟨by omega, by omega, by omega⟩, sub_dropF, need_yesF (by rw [List.length_drop]; simp only [List.nil_append, List.length_append, List.length_take, List.length_cons, List.length_nil]; omega), wrap_inc (by omega)]
        simp
      · rw [decide_eq_false q, cond_false, if_neg (by simp), need_yesF ⟨by omega, by omega, by omega⟩, sub_dropF, need_yesF (by rw [List.length_drop]; simp only [List.nil_append, List.length_append, List.length_take, List.length_cons, List.length_nil]; omega), wrap_inc (by omega)]
        simp
    · have hh : has s l[i].1 = false := by
        unfold has
        rw [List.getElem?_eq_none (by omega)]; simp
      rw [decide_eq_false (show ¬ (cnt s l[i].1 : Int) < (s.length : Int) by omega), cond_false, hh, if_neg (by simp), cond_false, need_yesF ⟨by omega, by omega, by omega⟩, sub_dropF, need_yesF (by rw [List.length_drop]; simp only [List.nil_append, List.length_append, List.length_take, List.length_cons, List.length_nil]; omega), wrap_inc (by omega)]
      simp
  · dsimp only
    unfold p_dormouseref10_Sort.b1
    rw [decide_eq_false (by omega), cond_false, List.take_length]; rfl

end Go.Dor.Fd
end

section
/- ENTRIES READ, RECORDS THAT MAY BE, PAIRS THAT RISE, STORES THAT MAY BE, WHAT A KEY HAS: behind the walk. -/
set_option linter.unusedVariables false
set_option linter.unusedSimpArgs false
namespace Go.Dor.Fd
open Go.Proofs Go.Dor
variable {m : Nat}

abbrev PL := Int × List Ky × List P × List P
abbrev RC := Int × Ky × En × Ky × Int
def zK : Ky := Vector.replicate 32 0
theorem hz1 : (bparts (32 : Nat) (dflt (T.int IntKind.u8)) [] : Vector Int 32) = zK := rfl
theorem hz2 : (Vector.replicate (32 : Nat) (dflt (T.int IntKind.u8)) : Vector Int 32) = zK := rfl
theorem hz3 : (bparts (32 : Nat) (dflt (T.int IntKind.u8)) [] : Vector (den (T.int IntKind.u8)) 32) = zK := rfl
theorem hz4 : (Vector.replicate (32 : Nat) (dflt (T.int IntKind.u8)) : Vector (den (T.int IntKind.u8)) 32) = zK := rfl

/-! ### entries read -/
def getE : List UInt8 → En × Int
  | [] => ((false, []), 5)
  | b :: v => if b = 1 then (if v.length > 65536 then ((false, []), 6) else ((false, v), 0)) else if b = 0 ∧ v = [] then ((true, []), 0) else ((false, []), 6)
theorem cut_eq (b : UInt8) (v : List UInt8) : p_strings_CutPrefix (b :: v) [1] = some (if b = 1 then (v, true) else (b :: v, false)) := by
  unfold p_strings_CutPrefix p_stringslite_CutPrefix p_stringslite_HasPrefix p_stringslite_HasPrefix.j0 joinC
  dsimp only
  have e1 : decide (((b :: v).length : Int) ≥ (([1] : List UInt8).length : Int)) = true := decide_eq_true (by simp; omega)
  have e2 : sub_ (b :: v) (0 : Int) ((([1] : List UInt8).length : Nat) : Int) = [b] := by simp [sub_]
  rw [e1, cond_true, need_yesF ⟨by omega, by simp, by simp; omega⟩, e2, Option.bind_some]
  by_cases h : b = 1
  · subst h
    rw [if_pos rfl]
    have e3 : (!([1] : List UInt8) == [1]) = false := by decide
    rw [e3, cond_false, need_yesF ⟨by simp, by simp; omega, by omega⟩, Option.bind_some]
    simp [sub_]
  · rw [if_neg h]
    have e3 : (!([b] : List UInt8) == [1]) = true := by simp [h]
    rw [e3, cond_true]; rfl
theorem get_eq (s : List UInt8) : p_entry_Get s = some (getE s) := by
  unfold p_entry_Get p_entry_Get.j0 p_entry_Get.j1 joinC
  cases s with
  | nil => rfl
  | cons b v =>
    have e0 : ((b :: v : List UInt8) == []) = false := rfl
    rw [e0, cond_false, cut_eq, Option.bind_some]
    unfold getE
    by_cases h : b = 1
    · subst h
      simp only [if_true, cond_true, Bool.not_true]
      rw [put_eq, Option.bind_some]
      unfold putE chk enc
      dsimp only
      by_cases hl : v.length > 65536
      · simp [hl]
      · simp [hl]
    · simp only [if_neg h, cond_false, Bool.not_false]
      rw [put_eq, Option.bind_some]
      unfold putE chk enc
      by_cases h2 : b = 0 ∧ v = []
      · obtain ⟨rfl, rfl⟩ := h2
        simp
      · have : ¬ ([0] : List UInt8) = b :: v := fun q => h2 ⟨(List.cons.inj q).1.symm, (List.cons.inj q).2.symm⟩
        rw [if_neg h2]
        have e : (!([0] : List UInt8) == b :: v) = true := by
          rw [Bool.not_eq_true', Bool.eq_false_iff]
          intro q
          exact this (eq_of_beq q)
        show (bif !([0] : List UInt8) == b :: v then _ else _) = _
        rw [e]; rfl
theorem refGet_eq (s : List UInt8) : p_dormouseref17_Get s = some (getE s) := by
  unfold p_dormouseref17_Get p_dormouseref17_Get.j0 joinC
  cases s with
  | nil => rfl
  | cons b v =>
    dsimp only
    have e0 : ((b :: v : List UInt8) == []) = false := rfl
    rw [e0, cond_false]
    unfold getE
    dsimp only
    by_cases h2 : b = 0 ∧ v = []
    · obtain ⟨rfl, rfl⟩ := h2
      rfl
    · have e1 : ((b :: v : List UInt8) == [(0 : UInt8)]) = false := by
        rw [Bool.eq_false_iff]
        intro q
        have := eq_of_beq q
        exact h2 ⟨(List.cons.inj this).1, (List.cons.inj this).2⟩
      rw [e1, cond_false, need_yesF ⟨by omega, by simp⟩]
      have e2 : bat (b :: v) (0 : Int) = (b.toNat : Int) := rfl
      rw [e2]
      by_cases h : b = 1
      · subst h
        have e3 : (((1 : UInt8).toNat : Int) != 1) = false := by decide
        rw [e3, cond_false, if_pos rfl]
        by_cases hl : v.length > 65536
        · rw [decide_eq_true (by simp only [List.length_cons]; omega), cond_true, if_pos hl]
        · rw [decide_eq_false (by simp only [List.length_cons]; omega), cond_false, if_neg hl, need_yesF ⟨by omega, by simp only [List.length_cons]; omega, by omega⟩]
          simp [sub_]
      · have e3 : ((b.toNat : Int) != 1) = true := by
          rw [bne_iff_ne]
          intro q
          exact h (UInt8.toNat_inj.1 (show b.toNat = 1 by omega))
        rw [e3, cond_true, cond_true, if_neg h, if_neg h2]

/-! ### records -/
theorem ib (a b : Int) : (a == b) = decide (a = b) := rfl
theorem ibn (a b : Int) : (a != b) = !decide (a = b) := rfl
def mayR (r : RC) : Bool :=
  if r.1 = 1 ∨ r.1 = 2 then decide (r.2.2.2.1 = zK ∧ r.2.2.2.2 = 0 ∧ chk r.2.2.1 = 0)
  else if r.1 = 3 ∨ r.1 = 4 then decide (r.2.1 = zK ∧ r.2.2.1 = (false, []) ∧ r.2.2.2.2 = 0)
  else if r.1 = 5 then decide (r.2.1 = zK ∧ r.2.2.1 = (false, []) ∧ r.2.2.2.1 = zK ∧ 0 ≤ r.2.2.2.2 ∧ r.2.2.2.2 ≤ 1048576)
  else false
theorem recCheck_eq (r : RC) : p_record_Check r = some (if mayR r = true then 0 else 2) := by
  obtain ⟨kd, key, ⟨d, v⟩, sm, n⟩ := r
  unfold p_record_Check p_record_Check.j0 p_record_Check.j2 p_record_Check.j1 joinC p_record_Set p_record_Prev p_record_Roll p_record_Frozen p_record_Epoch mayR
  dsimp only
  simp only [ib, ibn, hz1, hz2, hz3, hz4, check_eq, Option.bind_some]
  by_cases h1 : kd = 1
  · subst h1
    by_cases c : chk (d, v) = 0
    · by_cases a : sm = zK <;> by_cases b : n = 0 <;> simp [a, b, c]
    · simp [c]
  by_cases h2 : kd = 2
  · subst h2
    by_cases c : chk (d, v) = 0
    · by_cases a : sm = zK <;> by_cases b : n = 0 <;> simp [a, b, c]
    · simp [c]
  by_cases h3 : kd = 3
  · subst h3
    by_cases a : key = zK <;> by_cases b : n = 0 <;> cases d <;> cases v <;> simp [a, b]
  by_cases h4 : kd = 4
  · subst h4
    by_cases a : key = zK <;> by_cases b : n = 0 <;> cases d <;> cases v <;> simp [a, b]
  by_cases h5 : kd = 5
  · subst h5
    by_cases a : key = zK <;> by_cases b : sm = zK <;> by_cases c : 0 ≤ n <;> by_cases e : n ≤ 1048576 <;> cases d <;> cases v <;> simp [a, b, c, e]
  · simp [h1, h2, h3, h4, h5]
theorem recMay_eq (r : RC) : p_dormouseref24_May r = some (mayR r) := by
  obtain ⟨kd, key, ⟨d, v⟩, sm, n⟩ := r
  unfold p_dormouseref24_May p_dormouseref24_May.j0 p_dormouseref24_May.j1 p_dormouseref24_May.j2 p_dormouseref24_May.j3 joinC mayR
  dsimp only
  simp only [ib, ibn, hz1, hz2, hz3, hz4, refCheck_eq, Option.bind_some]
  by_cases h1 : kd = 1
  · subst h1
    by_cases c : chk (d, v) = 0 <;> by_cases a : sm = zK <;> by_cases b : n = 0 <;> simp [a, b, c]
  by_cases h2 : kd = 2
  · subst h2
    by_cases c : chk (d, v) = 0 <;> by_cases a : sm = zK <;> by_cases b : n = 0 <;> simp [a, b, c]
  by_cases h3 : kd = 3
  · subst h3
    by_cases a : key = zK <;> by_cases b : n = 0 <;> cases d <;> cases v <;> simp [a, b]
  by_cases h4 : kd = 4
  · subst h4
    by_cases a : key = zK <;> by_cases b : n = 0 <;> cases d <;> cases v <;> simp [a, b]
  by_cases h5 : kd = 5
  · subst h5
    by_cases a : key = zK <;> by_cases b : sm = zK <;> by_cases c : 0 ≤ n <;> by_cases e : n ≤ 1048576 <;> cases d <;> cases v <;> simp [a, b, c, e]
  · by_cases a : key = zK <;> by_cases b : sm = zK <;> by_cases c : n = 0 <;> cases d <;> cases v <;> simp [h1, h2, h3, h4, h5, a, b, c]
end Go.Dor.Fd
end

section
/- PAIRS THAT RISE, STORES THAT MAY BE, STORES HELD AGAINST EACH OTHER, WHAT A KEY HAS: behind the walk. -/
set_option linter.unusedVariables false
set_option linter.unusedSimpArgs false
namespace Go.Dor.Fd
open Go.Proofs Go.Dor
variable {m : Nat}

/-! ### pairs that rise -/
def pR (l : List P) (i : Nat) : Bool :=
  match l[i]? with
  | some x => decide ((getE x.2).2 = 0) && (decide (i = 0) || match l[i - 1]? with | some y => klt y.1 x.1 | none => false)
  | none => false
def risB (l : List P) : Bool := decide (∀ i, i < l.length → pR l i = true)
theorem ris_fin {n : Nat} {p : Nat → Bool} {x : Option Bool} (h : (x = some true ∧ ∀ i, i < n → p i = true) ∨ (x = some false ∧ ∃ i, i < n ∧ p i = false)) : x = some (decide (∀ i, i < n → p i = true)) := by
  rcases h with ⟨h, h2⟩ | ⟨h, i, h3, h4⟩
  · rw [h, decide_eq_true h2]
  · rw [h, decide_eq_false fun q => by rw [q i h3] at h4; cases h4]
theorem pR_zero {l : List P} (h : 0 < l.length) : pR l 0 = decide ((getE l[0].2).2 = 0) := by
  unfold pR
  rw [List.getElem?_eq_getElem h]; simp
theorem pR_pos {l : List P} {i : Nat} (h : i < l.length) (h0 : 0 < i) : pR l i = (decide ((getE l[i].2).2 = 0) && klt (l[i - 1]'(by omega)).1 l[i].1) := by
  unfold pR
  rw [List.getElem?_eq_getElem h, List.getElem?_eq_getElem (by omega), decide_eq_false (show ¬ i = 0 by omega)]; simp
theorem kcmp_ge (a b : Ky) : decide (kcmp a b ≥ 0) = !klt a b := by
  rw [← kcmp_lt]
  by_cases h : kcmp a b < 0
  · rw [decide_eq_true h, decide_eq_false (by omega)]; rfl
  · rw [decide_eq_false h, decide_eq_true (by omega)]; rfl
theorem rises_eq {l : List P} (hl : l.length < 900) : p_fold_rises (m + 1000) l = some (risB l) := by
  unfold p_fold_rises joinC risB
  refine ris_fin (loop_all (body := fun (r : List (Vector Int (32) × List UInt8) × List (Vector Int (32) × List UInt8) × Int × Int → Option Bool) y => p_fold_rises.b1 (m + 1000) (fun (y : Unit) => p_fold_rises.j0 (m + 1000)) r y.1 y.2.1 y.2.2.1 y.2.2.2) l.length (m + 1000) (fun i => (l, l, (l.length : Int), (i : Int))) (by omega) (fun i hi rec => ?_) (fun rec => ?_))
  · dsimp only
    unfold p_fold_rises.b1 p_fold_rises.j2 joinC
    dsimp only
    rw [decide_eq_true (by omega), cond_true, need_yesF ⟨by omega, by omega⟩, at_getF hi, get_eq, Option.bind_some, ibn, wrap_inc (by omega)]
    by_cases h0 : i = 0
    · subst h0
      rw [pR_zero hi, decide_eq_false (show ¬ (((0 : Nat) : Int) > 0) by omega)]
      by_cases hg : (getE l[0].2).2 = 0
      · rw [decide_eq_true hg]; rfl
      · rw [decide_eq_false hg]; rfl
    · rw [pR_pos hi (by omega), decide_eq_true (show (i : Int) > 0 by omega), wrap_dec (by omega) (by omega)]
      by_cases hg : (getE l[i].2).2 = 0
      · rw [decide_eq_true hg]
        simp only [Bool.not_true, cond_false, cond_true, Bool.true_and]
        rw [need_yesF ⟨by omega, by omega⟩, at_getF (by omega), compareK, Option.bind_some, kcmp_ge]
        cases klt (l[i - 1]'(by omega)).1 l[i].1 <;> rfl
      · rw [decide_eq_false hg]; rfl
  · dsimp only
    unfold p_fold_rises.b1
    rw [decide_eq_false (by omega), cond_false]; rfl
theorem refRises_eq {l : List P} (hl : l.length < 900) : p_dormouseref26_Rises (m + 1000) l = some (risB l) := by
  unfold p_dormouseref26_Rises joinC risB
  refine ris_fin (loop_all (body := fun (r : List (Vector Int (32) × List UInt8) × Int → Option Bool) y => p_dormouseref26_Rises.b1 (m + 1000) (fun (y : Unit) => p_dormouseref26_Rises.j0 (m + 1000)) r y.1 y.2) l.length (m + 1000) (fun i => (l, (i : Int))) (by omega) (fun i hi rec => ?_) (fun rec => ?_))
  · dsimp only
    unfold p_dormouseref26_Rises.b1 p_dormouseref26_Rises.j2 joinC
    dsimp only
    rw [decide_eq_true (by omega), cond_true, need_yesF ⟨by omega, by omega⟩, at_getF hi, refGet_eq, Option.bind_some, ibn, wrap_inc (by omega)]
    by_cases h0 : i = 0
    · subst h0
      rw [pR_zero hi, decide_eq_false (show ¬ (((0 : Nat) : Int) > 0) by omega)]
      by_cases hg : (getE l[0].2).2 = 0
      · rw [decide_eq_true hg]; rfl
      · rw [decide_eq_false hg]; rfl
    · rw [pR_pos hi (by omega), decide_eq_true (show (i : Int) > 0 by omega), wrap_dec (by omega) (by omega)]
      by_cases hg : (getE l[i].2).2 = 0
      · rw [decide_eq_true hg]
        simp only [Bool.not_true, cond_false, cond_true, Bool.true_and]
        rw [need_yesF ⟨by omega, by omega⟩, need_yesF ⟨by omega, by omega⟩, at_getF (by omega), less_eq, Option.bind_some]
        cases klt (l[i - 1]'(by omega)).1 l[i].1 <;> rfl
      · rw [decide_eq_false hg]; rfl
  · dsimp only
    unfold p_dormouseref26_Rises.b1
    rw [decide_eq_false (by omega), cond_false]; rfl
theorem risB_get {l : List P} (h : risB l = true) {i : Nat} (hi : i < l.length) : (getE l[i].2).2 = 0 := by
  have := of_decide_eq_true h i hi
  by_cases h0 : i = 0
  · subst h0
    rw [pR_zero hi] at this
    exact of_decide_eq_true this
  · rw [pR_pos hi (by omega), Bool.and_eq_true] at this
    exact of_decide_eq_true this.1
theorem risB_ris {l : List P} (h : risB l = true) : Ris l := by
  have H := of_decide_eq_true h
  have H2 : ∀ d i, (hj : i + d + 1 < l.length) → klt (l[i]'(by omega)).1 l[i + d + 1].1 = true := by
    intro d
    induction d with
    | zero =>
      intro i hj
      have := H (i + 1) (by omega)
      rw [pR_pos (by omega) (by omega), Bool.and_eq_true] at this
      exact this.2
    | succ d ih =>
      intro i hj
      have h1 := ih i (by omega)
      have h2 := H (i + d + 2) (by omega)
      rw [pR_pos (by omega) (by omega), Bool.and_eq_true] at h2
      exact klt_trans h1 h2.2
  refine List.pairwise_iff_getElem.2 fun i j hi hj hij => ?_
  obtain ⟨d, rfl⟩ : ∃ d, j = i + d + 1 := ⟨j - i - 1, by omega⟩
  exact H2 d i hj
theorem risB_of {l : List P} (h : Ris l) (hg : ∀ x ∈ l, (getE x.2).2 = 0) : risB l = true := by
  refine decide_eq_true fun i hi => ?_
  by_cases h0 : i = 0
  · subst h0
    rw [pR_zero hi]
    exact decide_eq_true (hg _ (List.getElem_mem _))
  · rw [pR_pos hi (by omega), decide_eq_true (hg _ (List.getElem_mem _)), List.pairwise_iff_getElem.1 h (i - 1) i (by omega) hi (by omega)]; rfl

/-! ### stores that may be -/
def mayP (p : PL) : Bool := decide (0 ≤ p.1 ∧ p.1 ≤ 1048576) && (risB p.2.2.1 && (risB p.2.2.2 && decide (if p.1 = 0 then p.2.1 = [] ∧ p.2.2.1 = [] else (p.2.1.length : Int) = p.1 - 1)))
theorem mayP_ris {p : PL} (h : mayP p = true) : risB p.2.2.1 = true ∧ risB p.2.2.2 = true := by
  unfold mayP at h
  simp only [Bool.and_eq_true] at h
  exact ⟨h.2.1, h.2.2.1⟩
theorem wrap_less {e : Int} (h : 0 ≤ e ∧ e ≤ 1048576) : IntKind.wrap IntKind.i64 (e - 1) = e - 1 := wrap_i64 (by omega)
theorem len_nil {α : Type} (l : List α) : decide ((l.length : Int) = 0) = decide (l = []) := by cases l <;> simp <;> omega
theorem check_eqP {e : Int} {f : List Ky} {p c : List P} (hp : p.length < 900) (hc : c.length < 900) : p_fold_Check (m + 1000) (e, f, p, c) = some (if mayP (e, f, p, c) = true then 0 else 2) := by
  unfold p_fold_Check p_fold_Check.j0 p_fold_Check.j1 joinC mayP
  dsimp only
  by_cases h1 : 0 ≤ e
  · rw [decide_eq_true (show e ≥ 0 from h1), cond_true]
    by_cases h2 : e ≤ 1048576
    · rw [decide_eq_true h2, cond_true, wrap_less ⟨h1, h2⟩, rises_eq hp, rises_eq hc, decide_eq_true (show 0 ≤ e ∧ e ≤ 1048576 from ⟨h1, h2⟩), ib, ib]
      simp only [Option.bind_some]
      by_cases h0 : e = 0
      · subst h0
        have e1 : (Max.max ((0 : Int) - 1) 0) = 0 := rfl
        have e2 : decide ((p.length : Int) > 0) = !decide (p = []) := by cases p <;> simp <;> omega
        rw [e1, len_nil, e2]
        cases risB p <;> cases risB c <;> by_cases a : f = [] <;> by_cases b : p = [] <;> simp [a, b]
      · have e1 : (Max.max (e - 1) 0) = e - 1 := by omega
        rw [e1, decide_eq_false h0]
        cases risB p <;> cases risB c <;> by_cases a : (f.length : Int) = e - 1 <;> simp [a, h0]
    · rw [decide_eq_false h2, cond_false, decide_eq_false (show ¬ (0 ≤ e ∧ e ≤ 1048576) from fun q => h2 q.2)]; rfl
  · rw [decide_eq_false (show ¬ e ≥ 0 from h1), cond_false, decide_eq_false (show ¬ (0 ≤ e ∧ e ≤ 1048576) from fun q => h1 q.1)]; rfl
theorem may_eqP {e : Int} {f : List Ky} {p c : List P} (hp : p.length < 900) (hc : c.length < 900) : p_dormouseref26_May (m + 1000) (e, f, p, c) = some (mayP (e, f, p, c)) := by
  unfold p_dormouseref26_May p_dormouseref26_May.j0 p_dormouseref26_May.j1 joinC mayP
  dsimp only
  by_cases h1 : 0 ≤ e
  · rw [decide_eq_false (show ¬ e < 0 by omega), cond_false]
    by_cases h2 : e ≤ 1048576
    · rw [decide_eq_false (show ¬ e > 1048576 by omega), cond_false, refRises_eq hp, refRises_eq hc, decide_eq_true (show 0 ≤ e ∧ e ≤ 1048576 from ⟨h1, h2⟩), wrap_less ⟨h1, h2⟩, ib, ib, ib, ib, len_nil, len_nil]
      simp only [Option.bind_some]
      by_cases h0 : e = 0
      · subst h0
        cases risB p <;> cases risB c <;> by_cases a : f = [] <;> by_cases b : p = [] <;> simp [a, b]
      · rw [decide_eq_false h0]
        cases risB p <;> cases risB c <;> by_cases a : (f.length : Int) = e - 1 <;> simp [a, h0]
    · rw [decide_eq_true (show e > 1048576 by omega), cond_true, decide_eq_false (show ¬ (0 ≤ e ∧ e ≤ 1048576) from fun q => h2 q.2)]; rfl
  · rw [decide_eq_true (show e < 0 by omega), cond_true, decide_eq_false (show ¬ (0 ≤ e ∧ e ≤ 1048576) from fun q => h1 q.1)]; rfl

/-! ### held against each other -/
def plEq (a b : PL) : Bool := decide (a.1 = b.1) && (decide (a.2.1 = b.2.1) && (decide (a.2.2.1 = b.2.2.1) && decide (a.2.2.2 = b.2.2.2)))
theorem plEq_iff {a b : PL} : plEq a b = true ↔ a = b := by
  obtain ⟨a1, a2, a3, a4⟩ := a
  obtain ⟨b1, b2, b3, b4⟩ := b
  simp [plEq]
theorem plEq_self (a : PL) : plEq a a = true := plEq_iff.2 rfl
theorem foldSame_eq {e1 e2 : Int} {f1 f2 : List Ky} {p1 p2 c1 c2 : List P} (hf : f1.length < 900) (hp : p1.length < 900) (hc : c1.length < 900) : p_fold_Same (m + 1000) (e1, f1, p1, c1) (e2, f2, p2, c2) = some (plEq (e1, f1, p1, c1) (e2, f2, p2, c2)) := by
  unfold p_fold_Same p_fold_Same.j0 joinC
  dsimp only
  rw [eqS_eq hf, eqP_eq hp, eqP_eq hc, ib]
  by_cases a : e1 = e2 <;> by_cases b : f1 = f2 <;> by_cases c : p1 = p2 <;> by_cases d : c1 = c2 <;> simp [plEq, a, b, c, d]
theorem refSameP_eq {e1 e2 : Int} {f1 f2 : List Ky} {p1 p2 c1 c2 : List P} (hf : f1.length < 900) (hp : p1.length < 900) (hc : c1.length < 900) : p_dormouseref26_Same (m + 1000) (e1, f1, p1, c1) (e2, f2, p2, c2) = some (plEq (e1, f1, p1, c1) (e2, f2, p2, c2)) := by
  have HF : f1.length = f2.length → loopC (fun (r : Int × (Int × List (Vector Int (32)) × List (Vector Int (32) × List UInt8) × List (Vector Int (32) × List UInt8)) × Int × List (Vector Int (32)) × List (Vector Int (32) × List UInt8) × List (Vector Int (32) × List UInt8) → Option Bool) y => p_dormouseref26_Same.b2 (m + 1000) (fun (y : Unit) => p_dormouseref26_Same.j1 (m + 1000)) r y.1 y.2.1 y.2.2) (m + 1000) ((0 : Int), (e1, f1, p1, c1), e2, f2, p2, c2) = some (decide (f1 = f2)) := fun hl => by
    refine same_fin hl (loop_all (body := fun (r : Int × (Int × List (Vector Int (32)) × List (Vector Int (32) × List UInt8) × List (Vector Int (32) × List UInt8)) × Int × List (Vector Int (32)) × List (Vector Int (32) × List UInt8) × List (Vector Int (32) × List UInt8) → Option Bool) y => p_dormouseref26_Same.b2 (m + 1000) (fun (y : Unit) => p_dormouseref26_Same.j1 (m + 1000)) r y.1 y.2.1 y.2.2) f1.length (m + 1000) (fun i => ((i : Int), (e1, f1, p1, c1), e2, f2, p2, c2)) (by omega) (fun i hi rec => ?_) (fun rec => ?_))
    · dsimp only
      unfold p_dormouseref26_Same.b2
      dsimp only
      rw [decide_eq_true (by omega), cond_true, need_yesF ⟨by omega, by omega⟩, need_yesF ⟨by omega, by omega⟩, at_getF hi, at_getF (by omega), wrap_inc (by omega), List.getElem?_eq_getElem hi, List.getElem?_eq_getElem (by omega)]
      by_cases q : f1[i] = f2[i]'(by omega)
      · rw [decide_eq_true q]; simp [q]
      · rw [decide_eq_false q]; simp [q]
    · dsimp only
      unfold p_dormouseref26_Same.b2
      dsimp only
      rw [decide_eq_false (by omega), cond_false]; rfl
  unfold p_dormouseref26_Same p_dormouseref26_Same.j0 joinC
  dsimp only
  rw [refSame_eq hp, refSame_eq hc, ibn, ibn]
  simp only [Option.bind_some]
  by_cases a : e1 = e2
  · rw [decide_eq_true a]
    by_cases b : f1.length = f2.length
    · rw [decide_eq_true (show (f1.length : Int) = (f2.length : Int) by omega)]
      simp only [Bool.not_true, cond_false, HF b]
      by_cases c : p1 = p2 <;> by_cases d : c1 = c2 <;> by_cases e : f1 = f2 <;> simp [plEq, a, c, d, e]
    · have : ¬ f1 = f2 := fun q => b (by rw [q])
      rw [decide_eq_false (show ¬ (f1.length : Int) = (f2.length : Int) by omega)]
      simp [plEq, this]
  · rw [decide_eq_false a]
    simp [plEq, a]

theorem findP_cons (x : P) (l : List P) (k : Ky) : findP (x :: l) k = if x.1 = k then some x.2 else findP l k := by
  unfold findP
  by_cases h : x.1 = k
  · rw [List.find?_cons_of_pos (by simp [h]), if_pos h]; rfl
  · rw [List.find?_cons_of_neg (by simp [h]), if_neg h]
theorem find8_eq {l : List P} (hl : l.length < 900) (k : Ky) : p_dormouseref08_Find (m + 1000) l k = some (match findP l k with | some v => (v, true) | none => ([], false)) := by
  unfold p_dormouseref08_Find joinC
  have H : ∀ n fuel i : Nat, l.length - i = n → n < fuel → i ≤ l.length → loopC (fun (r : List (Vector Int (32) × List UInt8) × Int × Vector Int (32) → Option (List UInt8 × Bool)) y => p_dormouseref08_Find.b1 (m + 1000) (fun (y : Unit) => p_dormouseref08_Find.j0 (m + 1000)) r y.1 y.2.1 y.2.2) fuel (l, (i : Int), k) = some (match findP (l.drop i) k with | some v => (v, true) | none => ([], false)) := by
    intro n
    induction n with
    | zero =>
      intro fuel i h1 h2 h3
      obtain ⟨fuel, rfl⟩ : ∃ f, fuel = f + 1 := ⟨fuel - 1, by omega⟩
      have e : i = l.length := by omega
      subst e
      rw [loopC_s]
      dsimp only
      unfold p_dormouseref08_Find.b1 p_dormouseref08_Find.j0
      rw [decide_eq_false (Int.lt_irrefl _), cond_false, List.drop_length]; rfl
    | succ n ih =>
      intro fuel i h1 h2 h3
      obtain ⟨fuel, rfl⟩ : ∃ f, fuel = f + 1 := ⟨fuel - 1, by omega⟩
      have hi : i < l.length := by omega
      have ih' := ih fuel (i + 1) (by omega) (by omega) (by omega)
      rw [loopC_s]
      dsimp only
      generalize loopC (fun (r : List (Vector Int (32) × List UInt8) × Int × Vector Int (32) → Option (List UInt8 × Bool)) (y : List (Vector Int (32) × List UInt8) × Int × Vector Int (32)) => p_dormouseref08_Find.b1 (m + 1000) (fun (y : Unit) => p_dormouseref08_Find.j0 (m + 1000)) r y.1 y.2.1 y.2.2) fuel = rec at ih' ⊢
      unfold p_dormouseref08_Find.b1
      rw [decide_eq_true (show (i : Int) < (l.length : Int) by omega), cond_true, need_yesF ⟨by omega, by omega⟩, need_yesF ⟨by omega, by omega⟩, at_getF hi, wrap_inc (by omega), ih', List.drop_eq_getElem_cons hi, findP_cons]
      by_cases h : l[i].1 = k
      · rw [decide_eq_true h, cond_true, if_pos h]
      · rw [decide_eq_false h, cond_false, if_neg h]
  exact H l.length (m + 1000) 0 (by omega) (by omega) (by omega)
end Go.Dor.Fd
end

section
/- A CHANGE, CHANGES ONE BEHIND THE OTHER: behind the walk. -/
set_option linter.unusedVariables false
set_option linter.unusedSimpArgs false
namespace Go.Dor.Fd
open Go.Proofs Go.Dor
variable {m : Nat}

def noP : PL := (0, [], [], [])
def oneM (p : PL) (r : RC) : PL × Int :=
  if r.1 = 1 then ((p.1, p.2.1, p.2.2.1, putP p.2.2.2 (r.2.1, enc r.2.2.1)), 0)
  else if r.1 = 2 then ((p.1, p.2.1, putP p.2.2.1 (r.2.1, enc r.2.2.1), p.2.2.2), 0)
  else if r.1 = 3 then (if p.1 ≥ 1048576 then (noP, 18) else ((IntKind.wrap .i64 (p.1 + 1), (if p.1 > 0 then p.2.1 ++ [r.2.2.2.1] else p.2.1), p.2.2.2, []), 0))
  else if r.1 = 4 then ((p.1, p.2.1 ++ [r.2.2.2.1], p.2.2.1, p.2.2.2), 0)
  else if r.1 = 5 then ((r.2.2.2.2, p.2.1, p.2.2.1, p.2.2.2), 0)
  else (p, 0)
def allM : PL → List RC → PL × Int
  | p, [] => if mayP p = true then (p, 0) else (noP, 2)
  | p, r :: l => if mayR r = true then (if (oneM p r).2 = 0 then allM (oneM p r).1 l else (noP, (oneM p r).2)) else (noP, 2)
/-- as the store's calls tell it -/
def told (x : PL × Int) : Int × PL := (x.1.1, x.2, x.1.2.1, x.1.2.2.1, x.1.2.2.2)
structure Inv (n : Nat) (p : PL) : Prop where
  fl : p.2.1.length + n < 900
  pl : p.2.2.1.length + n < 900
  cl : p.2.2.2.length + n < 900
  rp : Ris p.2.2.1
  rc : Ris p.2.2.2
theorem Inv.one {n : Nat} {p : PL} (h : Inv (n + 1) p) (r : RC) : Inv n (oneM p r).1 := by
  obtain ⟨h1, h2, h3, h4, h5⟩ := h
  have l1 := putP_len p.2.2.2 (r.2.1, enc r.2.2.1)
  have l2 := putP_len p.2.2.1 (r.2.1, enc r.2.2.1)
  unfold oneM
  split
  · exact ⟨by dsimp only; omega, by dsimp only; omega, by dsimp only; omega, h4, putP_ris h5⟩
  split
  · exact ⟨by dsimp only; omega, by dsimp only; omega, by dsimp only; omega, putP_ris h4, h5⟩
  split
  · split
    · exact ⟨by simp [noP]; omega, by simp [noP]; omega, by simp [noP]; omega, List.Pairwise.nil, List.Pairwise.nil⟩
    · refine ⟨?_, by dsimp only; omega, by simp; omega, h5, List.Pairwise.nil⟩
      dsimp only
      split
      · rw [List.length_append]; simp only [List.length_cons, List.length_nil]; omega
      · omega
  split
  · exact ⟨by dsimp only; rw [List.length_append]; simp only [List.length_cons, List.length_nil]; omega, by dsimp only; omega, by dsimp only; omega, h4, h5⟩
  split
  · exact ⟨by dsimp only; omega, by dsimp only; omega, by dsimp only; omega, h4, h5⟩
  · exact ⟨by dsimp only; omega, by dsimp only; omega, by dsimp only; omega, h4, h5⟩
theorem mayR_len {r : RC} (h : mayR r = true) : r.2.2.1.2.length ≤ 65536 := by
  unfold mayR at h
  split at h
  · exact (chk_zero (of_decide_eq_true h).2.2).1
  split at h
  · rw [(of_decide_eq_true h).2.1]; simp
  split at h
  · rw [(of_decide_eq_true h).2.1]; simp
  · cases h
theorem mayR_put {r : RC} (h : mayR r = true) (hk : r.1 = 1 ∨ r.1 = 2) : (putE r.2.2.1).1 = enc r.2.2.1 := by
  unfold mayR at h
  rw [if_pos hk] at h
  unfold putE
  rw [if_pos (of_decide_eq_true h).2.2]
theorem mayR_kind {r : RC} (h : mayR r = true) : r.1 = 1 ∨ r.1 = 2 ∨ r.1 = 3 ∨ r.1 = 4 ∨ r.1 = 5 := by
  unfold mayR at h
  split at h
  · rename_i h; omega
  split at h
  · rename_i h; omega
  split at h
  · rename_i h; omega
  · cases h

/-! ### a change -/
theorem own_eq {e : Int} {f : List Ky} {p c : List P} (hf : f.length < 900) (hp : p.length < 900) (hc : c.length < 900) : p_fold_own (e, f, p, c) = some (e, f, p, c) := by
  unfold p_fold_own
  dsimp only
  rw [cloneS_eq (by omega), Option.bind_some, cloneP_eq (by omega), Option.bind_some, cloneP_eq (by omega)]; rfl
theorem one_eq {e : Int} {f : List Ky} {p c : List P} {n : Nat} (H : Inv n (e, f, p, c)) (r : RC) : p_fold_One (m + 1000) (e, f, p, c) r = some (told (if mayR r = true then oneM (e, f, p, c) r else (noP, 2))) := by
  have hf := H.fl
  have hp := H.pl
  have hc := H.cl
  dsimp only at hf hp hc
  have hrc : p_record_Check (r.1, r.2.1, (r.2.2.1.1, r.2.2.1.2), r.2.2.2.1, r.2.2.2.2) = some (if mayR r = true then 0 else 2) := recCheck_eq r
  unfold p_fold_One joinC
  dsimp only
  rw [hrc, Option.bind_some, own_eq (by omega) (by omega) (by omega)]
  cases hm : mayR r
  · rfl
  · rw [if_pos rfl, if_pos rfl]
    have hbn : ((0 : Int) != 0) = false := rfl
    rw [hbn, cond_false, Option.bind_some]
    have hk := mayR_kind hm
    unfold p_fold_One.j0 p_fold_One.j1 p_fold_One_c1 oneM told
    dsimp only
    simp only [ib]
    rcases hk with h | h | h | h | h
    · have hw : p_fold_With (m + 1000) c r.2.1 (r.2.2.1.1, r.2.2.1.2) = some (putP c (r.2.1, enc r.2.2.1)) := by
        have := with_eq (m := m) (l := c) H.rc (by omega) r.2.1 r.2.2.1
        rw [mayR_put hm (.inl h)] at this
        exact this
      simp only [h]
      rw [hw]; rfl
    · have hw : p_fold_With (m + 1000) p r.2.1 (r.2.2.1.1, r.2.2.1.2) = some (putP p (r.2.1, enc r.2.2.1)) := by
        have := with_eq (m := m) (l := p) H.rp (by omega) r.2.1 r.2.2.1
        rw [mayR_put hm (.inr h)] at this
        exact this
      simp only [h]
      rw [hw]; rfl
    · simp only [h]
      by_cases h1 : e ≥ 1048576
      · simp [h1, noP]
      · by_cases h2 : e > 0
        · rw [need_yesF (by simp only [List.length_cons, List.length_nil]; omega)]
          simp [h1, h2]
        · simp [h1, h2]
    · simp only [h]
      rw [need_yesF (by simp only [List.length_cons, List.length_nil]; omega)]
      rfl
    · simp only [h]; rfl
theorem refOne_eq {e : Int} {f : List Ky} {p c : List P} {n : Nat} (H : Inv n (e, f, p, c)) {r : RC} (hm : mayR r = true) : p_dormouseref26_One (m + 1000) (e, f, p, c) r = some (oneM (e, f, p, c) r) := by
  have hf := H.fl
  have hp := H.pl
  have hc := H.cl
  have rp := H.rp
  have rc := H.rc
  dsimp only at hf hp hc rp rc
  have hput : p_dormouseref17_Put (r.2.2.1.1, r.2.2.1.2) = some (enc r.2.2.1) := refPut_eq (mayR_len hm)
  have s1 : ∀ x : P, p_dormouseref10_Sort (m + 1000) ([] ++ c ++ [x]) = some (putP c x) := fun x => by
    rw [sort_eq (by simp only [List.nil_append, List.length_append, List.length_cons, List.length_nil]; omega), List.nil_append, sortP_snoc, sortP_id rc]
  have s2 : ∀ x : P, p_dormouseref10_Sort (m + 1000) ([] ++ p ++ [x]) = some (putP p x) := fun x => by
    rw [sort_eq (by simp only [List.nil_append, List.length_append, List.length_cons, List.length_nil]; omega), List.nil_append, sortP_snoc, sortP_id rp]
  have n1 : ∀ {α : Type} (l : List P) (x : P) (o : Option α), l.length < 900 → need ((0 + List.length l) * 48 ≤ 140737488355328) (need ((List.length ([] ++ l) + List.length [x]) * 48 ≤ 140737488355328) o) = o := fun l x o hl => by
    rw [need_yesF (by omega), need_yesF (by simp only [List.nil_append, List.length_cons, List.length_nil]; omega)]
  unfold p_dormouseref26_One joinC
  dsimp only
  rw [hput, Option.bind_some]
  simp only [bothC_same]
  rw [need_yesF (by omega), need_yesF (by simp only [List.nil_append, List.length_cons, List.length_nil]; omega)]
  unfold p_dormouseref26_One.j0 p_dormouseref26_One.j1 p_dormouseref26_One.j2 p_dormouseref26_One.j3 p_dormouseref26_One.j4 joinC oneM
  dsimp only
  simp only [bothC_same, ib]
  have hk := mayR_kind hm
  rcases hk with h | h | h | h | h
  · simp only [h]
    rw [n1 c _ _ (by omega), s1]; rfl
  · simp only [h]
    rw [n1 p _ _ (by omega), s2]; rfl
  · simp only [h]
    by_cases h1 : e ≥ 1048576
    · simp [h1, noP]
    · by_cases h2 : e > 0
      · simp [h1, h2]
      · simp [h1, h2]
  · simp only [h]; rfl
  · simp only [h]; rfl

/-! ### changes one behind the other -/
theorem all_eq {p : PL} {l : List RC} (H : Inv l.length p) (hl : l.length < 900) : p_fold_All (m + 1000) p l = some (told (allM p l)) := by
  unfold p_fold_All joinC
  have HH : ∀ n fuel i (p : PL), l.length - i = n → n < fuel → i ≤ l.length → Inv n p → loopC (fun (r : List (Int × Vector Int (32) × (Bool × List UInt8) × Vector Int (32) × Int) × Int × Int × (Int × List (Vector Int (32)) × List (Vector Int (32) × List UInt8) × List (Vector Int (32) × List UInt8)) × Int × List (Vector Int (32)) × List (Vector Int (32) × List UInt8) × List (Vector Int (32) × List UInt8) → Option (Int × Int × List (Vector Int (32)) × List (Vector Int (32) × List UInt8) × List (Vector Int (32) × List UInt8))) y => p_fold_All.b1 (m + 1000) (fun y => p_fold_All.j0 (m + 1000) y.1 y.2.1 y.2.2.1 y.2.2.2.1 y.2.2.2.2) r y.1 y.2.1 y.2.2.1 y.2.2.2.1 y.2.2.2.2.1 y.2.2.2.2.2.1 y.2.2.2.2.2.2.1 y.2.2.2.2.2.2.2) fuel (l, (l.length : Int), (i : Int), p, (0 : Int), [], [], []) = some (told (allM p (l.drop i))) := by
    intro n
    induction n with
    | zero =>
      intro fuel i p h1 h2 h3 hI
      obtain ⟨fuel, rfl⟩ : ∃ f, fuel = f + 1 := ⟨fuel - 1, by omega⟩
      have e : i = l.length := by omega
      subst e
      obtain ⟨e, f, pp, c⟩ := p
      have hf := hI.fl
      have hp := hI.pl
      have hc := hI.cl
      dsimp only at hf hp hc
      rw [loopC_s]
      dsimp only
      unfold p_fold_All.b1 p_fold_All.j0
      dsimp only
      rw [decide_eq_false (Int.lt_irrefl _), cond_false, check_eqP (by omega) (by omega), Option.bind_some, own_eq (by omega) (by omega) (by omega), List.drop_length]
      unfold allM
      cases hm : mayP (e, f, pp, c) <;> rfl
    | succ n ih =>
      intro fuel i p h1 h2 h3 hI
      obtain ⟨fuel, rfl⟩ : ∃ f, fuel = f + 1 := ⟨fuel - 1, by omega⟩
      have hi : i < l.length := by omega
      have ih' := fun q => ih fuel (i + 1) q (by omega) (by omega) (by omega)
      rw [loopC_s]
      dsimp only
      generalize loopC (fun (r : List (Int × Vector Int (32) × (Bool × List UInt8) × Vector Int (32) × Int) × Int × Int × (Int × List (Vector Int (32)) × List (Vector Int (32) × List UInt8) × List (Vector Int (32) × List UInt8)) × Int × List (Vector Int (32)) × List (Vector Int (32) × List UInt8) × List (Vector Int (32) × List UInt8) → Option (Int × Int × List (Vector Int (32)) × List (Vector Int (32) × List UInt8) × List (Vector Int (32) × List UInt8))) (y : List (Int × Vector Int (32) × (Bool × List UInt8) × Vector Int (32) × Int) × Int × Int × (Int × List (Vector Int (32)) × List (Vector Int (32) × List UInt8) × List (Vector Int (32) × List UInt8)) × Int × List (Vector Int (32)) × List (Vector Int (32) × List UInt8) × List (Vector Int (32) × List UInt8)) => p_fold_All.b1 (m + 1000) (fun y => p_fold_All.j0 (m + 1000) y.1 y.2.1 y.2.2.1 y.2.2.2.1 y.2.2.2.2) r y.1 y.2.1 y.2.2.1 y.2.2.2.1 y.2.2.2.2.1 y.2.2.2.2.2.1 y.2.2.2.2.2.2.1 y.2.2.2.2.2.2.2) fuel = rec at ih' ⊢
      obtain ⟨e, f, pp, c⟩ := p
      have hinv := hI.one l[i]
      unfold p_fold_All.b1
      dsimp only
      rw [decide_eq_true (show (i : Int) < (l.length : Int) by omega), cond_true, need_yesF ⟨by omega, by omega⟩, at_getF hi, wrap_inc (by omega), List.drop_eq_getElem_cons hi]
      generalize l[i] = r at hinv ⊢
      have ho : p_fold_One (m + 1000) (e, f, pp, c) (r.1, r.2.1, (r.2.2.1.1, r.2.2.1.2), r.2.2.2.1, r.2.2.2.2) = _ := one_eq hI r
      rw [ho, Option.bind_some]
      unfold allM
      cases hm : mayR r
      · rfl
      · rw [if_pos rfl, if_pos rfl, ibn]
        unfold told
        dsimp only
        by_cases hz : (oneM (e, f, pp, c) r).2 = 0
        · rw [if_pos hz, decide_eq_true hz]
          exact ih' _ hinv
        · rw [if_neg hz, decide_eq_false hz]
          rfl
  have := HH l.length (m + 1000) 0 p (by omega) (by omega) (by omega) H
  rw [List.drop_zero] at this
  exact this
end Go.Dor.Fd
end

section
/- WHAT A CALLER HANDS IN, AS DATA; a law of data, called. Plain lemmas over any program. -/
namespace Go.Dor
open Go.RowKit (Below)

def chainF (P : Program) : Nat → List Field → Option Nat
  | o, [] => some o
  | o, f :: l => bif Nat.beq f.offset o then chainF P (o + P.cellsOf f.type) l else none
/-- types of data whose parts lie one behind the other -/
def tiled (P : Program) : Nat → TypeId → Bool
  | 0, _ => false
  | n + 1, t =>
    match P.underlying t with
    | some (.int _) | some .bool | some .string | some (.float _) => true
    | some (.array m e) => Nat.beq (P.cellsOf t) (m * P.cellsOf e) && tiled P n e
    | some (.slice e) => Nat.blt 0 (P.cellsOf e) && tiled P n e
    | some (.struct fs) => (match chainF P 0 fs.toList with | some s => Nat.beq s (P.cellsOf t) | none => false) && fs.toList.all (fun f => tiled P n f.type)
    | _ => false

theorem pieces {α : Type} {Q : α → List Value → Prop} (k : Nat) : ∀ (m : Nat) (cs : List Value), cs.length = m * k → (∀ i, i < m → ∃ d, Q d ((cs.drop (i * k)).take k)) → ∃ (l : List α) (ys : List (List Value)), l.length = m ∧ cs = ys.flatten ∧ Al2 Q l ys
  | 0, cs, hl, _ => ⟨[], [], rfl, by simpa using hl, trivial⟩
  | m + 1, cs, hl, h => by
    obtain ⟨d, hd⟩ := h 0 (by omega)
    have hl' : (cs.drop k).length = m * k := by rw [List.length_drop, hl, Nat.add_mul]; omega
    obtain ⟨l, ys, h1, h2, h3⟩ := pieces k m (cs.drop k) hl' fun i hi => by
      obtain ⟨d, hd⟩ := h (i + 1) (by omega)
      refine ⟨d, ?_⟩
      rw [List.drop_drop]
      have : k + i * k = (i + 1) * k := by rw [Nat.add_mul]; omega
      rw [this]; exact hd
    refine ⟨d :: l, cs.take k :: ys, by simp [h1], ?_, ?_, h3⟩
    · rw [List.flatten_cons, ← h2, List.take_append_drop]
    · simpa using hd

/-- data that a program can hold: each number fits its kind -/
def okD : (t : T) → den t → Prop
  | .int k, n => (Lit.int k n).wf = true
  | .pair a b, x => okD a x.1 ∧ okD b x.2
  | .arr _ e, x => ∀ y ∈ x.toList, okD e y
  | .sl e, x => x.length ≤ 9223372036854775807 ∧ ∀ y ∈ x, okD e y
  | .str, _ => True
  | .bool, _ => True
  | .flt k, n => (Lit.float k n).wf = true
  | .fx _, _ => True
  | .unit, _ => True
theorem al2_split {α β : Type} {Q : α → β → Prop} {R : α → Prop} : ∀ {l : List α} {m : List β}, Al2 (fun a b => Q a b ∧ R a) l m → Al2 Q l m ∧ ∀ a ∈ l, R a
  | [], [], _ => ⟨trivial, by simp⟩
  | a :: l, b :: m, h => by
    obtain ⟨h1, h2⟩ := al2_split (l := l) (m := m) h.2
    exact ⟨⟨h.1.1, h1⟩, fun x hx => (List.mem_cons.1 hx).elim (fun e => e ▸ h.1.2) (h2 x)⟩

theorem list_of {α : Type} {Q : Nat → α → Prop} : ∀ (n : Nat), (∀ i, i < n → ∃ p, Q i p) → ∃ l : List α, l.length = n ∧ ∀ i p, l[i]? = some p → Q i p
  | 0, _ => ⟨[], rfl, by simp⟩
  | n + 1, h => by
    obtain ⟨l, h1, h2⟩ := list_of n fun i hi => h i (by omega)
    obtain ⟨p, hp⟩ := h n (by omega)
    refine ⟨l ++ [p], by simp [h1], fun i q hq => ?_⟩
    by_cases hlt : i < n
    · rw [List.getElem?_append_left (by omega)] at hq; exact h2 i q hq
    · have hi : i < (l ++ [p]).length := (List.getElem?_eq_some_iff.1 hq).1
      have : i = n := by simp [h1] at hi; omega
      subst this
      rw [List.getElem?_append_right (by omega), h1] at hq
      simp at hq; subst hq; exact hp

theorem al2_of {α β : Type} {Q : α → β → Prop} : ∀ (l : List (α × β)), (∀ (i : Nat) p, l[i]? = some p → Q p.1 p.2) → Al2 Q (l.map (·.1)) (l.map (·.2))
  | [], _ => trivial
  | p :: l, h => ⟨h 0 p rfl, al2_of l fun i q hq => h (i + 1) q hq⟩

section
variable {H : Type} {enc : TypeId × Value → H} {P : Program} {w : World} {spare : Nat → Bool} {held : Bool}

theorem fields_at {I : Nat → Prop} {cs : List Value} {n s : Nat} : ∀ (l : List Field) (o : Nat) (cl : List T), chainF P o l = some s → cs.length = s → (∀ c, codeT P n 0 = c → True) →
    l.foldr (fun f acc => match codeT P n f.type, acc with | some a, some l => some (a :: l) | _, _ => none) (some []) = some cl →
    (∀ f ∈ l, ∀ c, codeT P n f.type = some c → ∃ d : den c, At w I c d ((cs.drop f.offset).take (P.cellsOf f.type)) ∧ okD c d) → ∃ d : den (mkT cl), At w I (mkT cl) d (cs.drop o) ∧ okD (mkT cl) d
  | [], o, cl, hc, hl, _, hf, _ => by
    cases hf
    simp only [chainF, Option.some.injEq] at hc
    exact ⟨(), List.drop_eq_nil_of_le (by omega), trivial⟩
  | [f], o, cl, hc, hl, _, hf, h => by
    simp only [chainF, cond_eq_ite] at hc
    split at hc
    · rename_i ho
      have ho := Nat.eq_of_beq_eq_true ho
      simp only [Option.some.injEq] at hc
      simp only [List.foldr_cons, List.foldr_nil] at hf
      split at hf
      · rename_i a l' ha hl'
        cases hf; cases hl'
        obtain ⟨d, hd, hk⟩ := h f (by simp) a ha
        refine ⟨d, ?_, hk⟩
        rw [ho, List.take_of_length_le (by rw [List.length_drop]; omega)] at hd
        exact hd
      · cases hf
    · cases hc
  | f :: f2 :: l, o, cl, hc, hl, ht, hf, h => by
    rw [chainF, cond_eq_ite] at hc
    split at hc
    · rename_i ho
      have ho := Nat.eq_of_beq_eq_true ho
      rw [List.foldr_cons] at hf
      split at hf
      · rename_i a l' ha hl'
        cases hf
        obtain ⟨d, hd, hk⟩ := h f (by simp) a ha
        obtain ⟨d2, hd2, hk2⟩ := fields_at (f2 :: l) _ l' hc hl ht hl' fun g hg => h g (List.mem_cons_of_mem _ hg)
        have hne : ∃ b r, l' = b :: r := by
          rw [List.foldr_cons] at hl'
          split at hl'
          · cases hl'; exact ⟨_, _, rfl⟩
          · cases hl'
        obtain ⟨b, r, rfl⟩ := hne
        refine ⟨(d, d2), ⟨_, _, ?_, hd, hd2⟩, hk, hk2⟩
        rw [ho, ← List.drop_drop, List.take_append_drop]
      · cases hf
    · cases hc

theorem cell_heap {b o : Nat} {y : Value} (hc : w.cell? ⟨b, o, none⟩ = some y) : ∃ cur t fz, w.heap[b]? = some (.cells cur t fz) := by
  simp only [World.cell?] at hc
  split at hc
  · rename_i cur t fz hb
    exact ⟨_, _, _, hb⟩
  · cases hc

theorem mapM_get {α β : Type} {f : α → Option β} : ∀ {l0 : List α} {l : List β}, l0.mapM f = some l → l.length = l0.length ∧ ∀ (i : Nat) a, l0[i]? = some a → f a = l[i]?
  | [], l, h => by
    simp only [List.mapM_nil] at h
    cases h
    exact ⟨rfl, by simp⟩
  | a :: l0, l, h => by
    rw [List.mapM_cons] at h
    cases ha : f a with
    | none => rw [ha] at h; cases h
    | some b =>
      rw [ha] at h
      cases hl : l0.mapM f with
      | none => rw [hl] at h; cases h
      | some bs =>
        rw [hl] at h
        have h : some (b :: bs) = some l := h
        cases h
        obtain ⟨h1, h2⟩ := mapM_get hl
        refine ⟨by simp [h1], fun i x hx => ?_⟩
        cases i with
        | zero => simp at hx; subst hx; simpa using ha
        | succ i => simp at hx; simpa using h2 i x hx
theorem cells_get {base k : Nat} {a : Addr} {l : List Value} (h : w.cells? base a k = some l) : l.length = k ∧ ∀ i, i < k → w.cell? (a.add i) = l[i]? := by
  unfold World.cells? at h
  split at h
  · obtain ⟨h1, h2⟩ := mapM_get h
    exact ⟨by simpa using h1, fun i hi => h2 i i (by simp [hi])⟩
  · cases h

theorem trod_float {t : TypeId} {k : FloatKind} {fuel : Nat} {cs : List Value} {x : DataW H × List MemPlace} (ht : P.underlying t = some (.float k)) (h : DataW.trod enc P w 0 spare held fuel t cs = some x) : ∃ n, cs = [.float k n] ∧ (Lit.float k n).wf = true := by
  cases fuel with
  | zero => simp [DataW.trod] at h
  | succ n =>
    unfold DataW.trod at h
    rw [ht] at h
    split at h <;> simp_all
/-- what a caller hands in reads as data -/
theorem trod_at (hsp : ∀ b, spare b = true) : ∀ (n : Nat) (t : TypeId) (c : T) (fuel : Nat) (cs : List Value) (x : DataW H × List MemPlace), codeT P n t = some c → tiled P n t = true →
    DataW.trod enc P w 0 spare held fuel t cs = some x → ∃ d : den c, At w (fun b => b < w.heap.size) c d cs ∧ okD c d
  | 0, t, c, fuel, cs, x, hc, _, _ => by cases hc
  | n + 1, t, c, fuel, cs, x, hc, hd, h => by
    unfold codeT at hc
    unfold tiled at hd
    split at hc
    · rename_i k ht
      cases hc
      obtain ⟨y, rfl, _, hwf⟩ := DataW.trod_int ht h
      exact ⟨y, rfl, hwf⟩
    · rename_i ht
      cases hc
      obtain ⟨y, rfl, _⟩ := DataW.trod_bool ht h
      exact ⟨y, rfl, trivial⟩
    · rename_i ht
      cases hc
      obtain ⟨y, rfl, _⟩ := DataW.trod_string ht h
      exact ⟨y.data.toList, by simp [At, sv], trivial⟩
    · rename_i k ht
      cases hc
      obtain ⟨y, rfl, hwf⟩ := trod_float ht h
      exact ⟨y, rfl, hwf⟩
    · rename_i m e ht
      rw [ht] at hd
      simp only [Bool.and_eq_true] at hd
      obtain ⟨hd1, hd2⟩ := hd
      have hd1 := Nat.eq_of_beq_eq_true hd1
      split at hc
      · rename_i ce hce
        cases hc
        obtain ⟨xs, q, _, _, h1, h2, h3⟩ := DataW.trod_array ht h
        obtain ⟨l, ys, k1, k2, k3⟩ := pieces (Q := fun d y => At w (fun b => b < w.heap.size) ce d y ∧ okD ce d) (P.cellsOf e) m cs (by rw [h1, hd1]) fun i hi => by
          have := h3 i hi
          rw [List.getElem?_eq_getElem (by omega)] at this
          exact trod_at hsp n e ce _ _ _ hce hd2 this
        obtain ⟨k3, k4⟩ := al2_split k3
        refine ⟨⟨l.toArray, by simpa using k1⟩, ⟨ys, k2, ?_⟩, fun y hy => k4 y (by simpa using hy)⟩
        simpa using k3
      · cases hc
    · rename_i e ht
      rw [ht] at hd
      simp only [Bool.and_eq_true] at hd
      obtain ⟨hd1, hd2⟩ := hd
      have hd1 : 0 < P.cellsOf e := by simpa [Nat.blt_eq] using hd1
      split at hc
      · rename_i ce hce
        cases hc
        rcases DataW.trod_slice ht h with ⟨rfl, _⟩ | ⟨a, len, cap, elems, rest, q, _, rfl, _, _, hlc, hcm, hel, he, hrest, _⟩
        · exact ⟨[], ⟨_, rfl, [], ⟨by simp, .inl ⟨⟨none, rfl⟩, rfl⟩⟩, trivial, by simp [vfoot]⟩, Nat.zero_le _, fun y hy => by cases hy⟩
        · obtain ⟨hr1, hr2⟩ := hrest (hsp _)
          by_cases hcap : cap = 0
          · subst hcap
            have hl0 : len = 0 := by omega
            subst hl0
            exact ⟨[], ⟨_, rfl, [], ⟨by simp, .inl ⟨⟨_, rfl⟩, rfl⟩⟩, trivial, by simp [vfoot]⟩, Nat.zero_le _, fun y hy => by cases hy⟩
          · -- a cell is there
            have h0 : ∃ y, w.cell? (a.add 0) = some y := by
              have key : ∀ {o : Option (DataW H × List MemPlace)} {i : Nat}, i = 0 → (w.cells? 0 (a.add (i * P.cellsOf e)) (P.cellsOf e)).bind (DataW.trod enc P w 0 spare held q e) = o → o.isSome = true → ∃ y, w.cell? (a.add 0) = some y := by
                intro o i hi hb ho
                subst hi
                cases hcl : w.cells? 0 (a.add (0 * P.cellsOf e)) (P.cellsOf e) with
                | none => rw [hcl] at hb; subst hb; cases ho
                | some l =>
                  obtain ⟨k1, k2⟩ := cells_get hcl
                  have := k2 0 hd1
                  rw [List.getElem?_eq_getElem (by omega)] at this
                  exact ⟨l[0]'(by omega), by simpa [Addr.add] using this⟩
              by_cases hl0 : len = 0
              · exact key (i := len + 0) (by omega) (hr2 0 (by omega)) (by rw [List.getElem?_eq_getElem (by omega)]; rfl)
              · exact key (i := 0) rfl (he 0 (by omega)) (by rw [List.getElem?_eq_getElem (by omega)]; rfl)
            obtain ⟨y0, hy0⟩ := h0
            have hspot := World.cell?_spot hy0
            obtain ⟨b, off, spot⟩ := a
            have hspot : spot = none := by simpa [Addr.add] using hspot
            subst hspot
            have hadd : ∀ i, (⟨b, off, none⟩ : Addr).add i = ⟨b, off + i, none⟩ := fun i => by simp [Addr.add]
            have hadd2 : ∀ o i, (⟨b, o, none⟩ : Addr).add i = ⟨b, o + i, none⟩ := fun o i => by simp [Addr.add]
            rw [hadd] at hy0
            obtain ⟨cur, bt, fz, hb⟩ := cell_heap hy0
            obtain ⟨l, k1, k2⟩ := list_of (α := den ce × List Value) (Q := fun i p => (At w (fun b => b < w.heap.size) ce p.1 p.2 ∧ okD ce p.1) ∧ p.2.length = P.cellsOf e ∧ ∀ j, j < P.cellsOf e → cur[off + (i * P.cellsOf e + j)]? = p.2[j]?) len fun i hi => by
              have h1 := he i hi
              rw [List.getElem?_eq_getElem (by omega)] at h1
              cases hcl : w.cells? 0 ((⟨b, off, none⟩ : Addr).add (i * P.cellsOf e)) (P.cellsOf e) with
              | none => rw [hcl] at h1; cases h1
              | some cl =>
                rw [hcl] at h1
                obtain ⟨d, hdd⟩ := trod_at hsp n e ce _ _ _ hce hd2 h1
                obtain ⟨k1, k2⟩ := cells_get hcl
                refine ⟨(d, cl), hdd, k1, fun j hj => ?_⟩
                have := k2 j hj
                rw [← this, hadd2, hadd2, World.cell?, hb]
                simp [Nat.add_assoc]
            have hal := al2_of (Q := fun d y => At w (fun b => b < w.heap.size) ce d y ∧ okD ce d) l fun i p hp => (k2 i p hp).1
            obtain ⟨hal, hok⟩ := al2_split hal
            refine ⟨l.map (·.1), ⟨_, rfl, l.map (·.2), ⟨fun y hy => ?_, .inr ⟨b, off, cap, cur, bt, fz, by simp [k1], by simpa [k1] using hlc, hb, fun j y hj => ?_⟩⟩, hal, fun q hq => ?_⟩, by rw [List.length_map, k1]; unfold maxLen at hcm; omega, fun y hy => hok y hy⟩
            · obtain ⟨z, hz⟩ := List.getElem?_of_mem hy
              obtain ⟨d, _, hQ⟩ : ∃ d : den ce, True ∧ At w (fun b => b < w.heap.size) ce d y := by
                rw [List.getElem?_map] at hz
                cases hlz : l[z]? with
                | none => rw [hlz] at hz; cases hz
                | some p => rw [hlz] at hz; cases hz; exact ⟨p.1, trivial, (k2 z p hlz).1.1⟩
              exact At.len _ _ _ hQ
            · have hz : ∀ y ∈ l.map (·.2), y.length = P.cellsOf e := fun y hy => by
                obtain ⟨p, hp, rfl⟩ := List.mem_map.1 hy
                obtain ⟨z, hz⟩ := List.getElem?_of_mem hp
                exact (k2 z p hz).2.1
              have hjl := (List.getElem?_eq_some_iff.1 hj).1
              have hfl : (l.map (·.2)).flatten.length = l.length * P.cellsOf e := by
                have : ∀ (ys : List (List Value)), (∀ y ∈ ys, y.length = P.cellsOf e) → ys.flatten.length = ys.length * P.cellsOf e := by
                  intro ys
                  induction ys with
                  | nil => simp
                  | cons y ys ih =>
                    intro h
                    rw [List.flatten_cons, List.length_append, ih fun z hz => h z (List.mem_cons_of_mem _ hz), h y (by simp), List.length_cons, Nat.add_mul]; omega
                rw [this _ hz, List.length_map]
              have hdiv : j / P.cellsOf e < l.length := Nat.div_lt_of_lt_mul (by rw [Nat.mul_comm]; omega)
              have hmod : j % P.cellsOf e < P.cellsOf e := Nat.mod_lt _ hd1
              have hp : l[j / P.cellsOf e]? = some l[j / P.cellsOf e] := List.getElem?_eq_getElem hdiv
              obtain ⟨_, _, h5⟩ := k2 _ _ hp
              have h6 := flat_at hz (j := j / P.cellsOf e) (k := j % P.cellsOf e) (x := (l[j / P.cellsOf e]).2) (by rw [List.getElem?_map, hp]; rfl) hmod
              have hjj : j / P.cellsOf e * P.cellsOf e + j % P.cellsOf e = j := by rw [Nat.mul_comm]; exact Nat.div_add_mod _ _
              have h7 := h5 _ hmod
              rw [hjj] at h6 h7
              rw [h7, ← h6]; exact hj
            · simp only [vfoot, hcap, if_false, Option.some.injEq] at hq
              subst hq
              exact (Array.getElem?_eq_some_iff.1 hb).1
      · cases hc
    · rename_i fs ht
      rw [ht] at hd
      simp only [Bool.and_eq_true] at hd
      obtain ⟨hd1, hd2⟩ := hd
      split at hc
      · rename_i cl hcl
        cases hc
        split at hd1
        · rename_i s hs
          have hd1 := Nat.eq_of_beq_eq_true hd1
          obtain ⟨xs, q, _, _, h1, h2, h3⟩ := DataW.trod_struct ht h
          have := fields_at (w := w) (I := fun b => b < w.heap.size) (cs := cs) (n := n) fs.toList 0 cl hs (by rw [h1, hd1]) (fun _ _ => trivial) hcl fun f hf c hc => by
            obtain ⟨i, hi⟩ := List.getElem?_of_mem hf
            have hi' : fs[i]? = some f := by simpa using hi
            have h4 := h3 i f hi'
            have hlt : i < fs.size := (Array.getElem?_eq_some_iff.1 hi').1
            rw [List.getElem?_eq_getElem (by omega)] at h4
            exact trod_at hsp n f.type c _ _ _ hc (List.all_eq_true.1 hd2 f hf) h4
          simpa using this
        · cases hd1
      · cases hc
    · cases hc

end
end Go.Dor
namespace Go.Dor
open Go.RowKit (Below)
section
variable {H : Type} {enc : TypeId × Value → H} {P : Program} {w w' : World}

/-- all that stands at the beginning may be read -/
noncomputable def m0 (w : World) : Mem := memOf (lentOf [] fun _ => undef) (fun _ => True) w [] (fun _ => undef) w

theorem m0_imm {b : Nat} (h : b < w.heap.size) : (m0 w).I b := ⟨h, .inr (.inl trivial), fun id hid => by simp [lives, liveO] at hid⟩
theorem at_m0 {c : T} {d : den c} {cs : List Value} (h : At w (fun b => b < w.heap.size) c d cs) : At (m0 w).w (m0 w).I c d cs := At.mono (fun _ hb => ⟨m0_imm hb, rfl⟩) _ _ _ h

theorem arg_ok {t : TypeId} {v : Value} {d : DataW H} {p : List MemPlace} {c : T} (h : DataW.Trod enc P w 0 (fun _ => true) true t v d p) (hc : codeT P depth t = some c) (ht : tiled P depth t = true) : ∃ a : den c, At (m0 w).w (m0 w).I c a v.cells.toList ∧ okD c a := by
  obtain ⟨fuel, h⟩ := h
  obtain ⟨a, ha, hk⟩ := trod_at (fun _ => rfl) _ _ _ _ _ _ hc ht h
  exact ⟨a, at_m0 ha, hk⟩
theorem rv_ag {c : T} {a : den c} {v : Value} {cs : Array Value} (hv : v = .agg cs) (h : At (m0 w).w (m0 w).I c a v.cells.toList) : Rv (m0 w) (.ag (Dor.enc c a)) v := by
  obtain ⟨s, h1, h2⟩ := At.enc _ _ _ h
  refine ⟨s, ?_, h2⟩
  subst hv
  have h1 : cs.toList = s.flatten := h1
  simp [ag, cells, ← h1]

/-- a law of data, called -/
theorem law_calls {f : FuncId} {vd : List Vd} {q : HL (Ds.ts ⟨vd, []⟩) → Option (HL (Ds.ts ⟨[.one (.im .bool)], []⟩))} (hS : Entry.Sound P f ⟨⟨vd, []⟩, ⟨[.one (.im .bool)], []⟩, q⟩) {vals : List Value} {x : HL (Ds.ts ⟨vd, []⟩)}
    (hv : Al2 (Rv (m0 w)) (givenV ⟨vd, []⟩ id x).1 vals) (hq : q x = some true) : Calls P f vals.toArray w fun e w' => e = .returned (.bool true) ∧ Below w.heap.size w w' := by
  have hg : givenO ⟨vd, []⟩ id x = [] := rfl
  have hs : Start ⟨vd, []⟩ x (fun _ => True) w (fun _ => undef) vals := by
    refine ⟨?_, hv⟩
    refine ⟨rfl, rfl, .refl _, rfl, Nat.le_refl _, fun _ _ _ => rfl, fun b _ => ?_, fun id o hid => ?_, fun id hid => ?_, fun i j hi => ?_⟩
    · rintro ⟨i, hi, _⟩
      rw [hg] at hi
      simp [lives, liveO] at hi
    · rw [hg] at hid; simp at hid
    · rw [hg] at hid; simp [lives, liveO] at hid
    · rw [hg] at hi; simp [lives, liveO] at hi
  refine (hS.out x true hq (fun _ => True) w (fun _ => undef) vals hs).mono fun e w' ⟨vs, g', he, R', hv', _⟩ => ?_
  have hv' : Al2 (Rv (memOf (lentOf (givenO ⟨vd, []⟩ id x) fun _ => undef) (fun _ => True) w (givenO ⟨[.one (.im .bool)], []⟩ id true) g' w')) [.one (.b true)] vs := hv'
  obtain ⟨v, vs, rfl, h1, h2⟩ := hv'.cons_left
  have := h2.nil_left
  subst this
  have h1 := rv_bool h1
  subst h1
  refine ⟨he, R'.os, R'.tape, R'.output, R'.size, fun b hb => R'.old b hb ?_⟩
  rintro ⟨i, hi, _⟩
  have hg' : lives ([] : Hm) i := hi
  simp [lives, liveO] at hg'

theorem trodAll_stays (hl : laidOutB P = true) (hb : Below w.heap.size w w') : ∀ {ts : List TypeId} {vs : List Value} {ds : List (DataW H)} {ps : List MemPlace}, (∀ t ∈ ts, P.readableRec t = true ∧ t < P.types.size) →
    DataW.TrodAll enc P w 0 (fun _ => true) true ts vs ds ps → (∀ x ∈ ps, x.block < w.heap.size) → DataW.TrodAll enc P w' 0 (fun b => decide (b < w.heap.size)) true ts vs ds ps
  | [], [], [], _, _, h, _ => h
  | t :: ts, v :: vs, d :: ds, ps, hr, h, hlt => by
    obtain ⟨p, q, h1, h2, rfl⟩ := h
    exact ⟨p, q, Go.RowKit.Below.trod hl (hr t (by simp)).1 (hr t (by simp)).2 h1 hb (fun x hx => hlt x (List.mem_append_left _ hx)), trodAll_stays hl hb (fun u hu => hr u (List.mem_cons_of_mem _ hu)) h2 (fun x hx => hlt x (List.mem_append_right _ hx)), rfl⟩

end
end Go.Dor
end

section
/- FoldWith, FoldOne, FoldAll, BEHIND THEIR WALKS. -/
set_option linter.unusedVariables false
set_option linter.unusedSimpArgs false
namespace Go.Dor.Fd
open Go.Proofs Go.Dor
variable {m : Nat}

theorem noInv {n : Nat} (h : n < 900) : Inv n noP := ⟨by simp [noP]; omega, by simp [noP]; omega, by simp [noP]; omega, List.Pairwise.nil, List.Pairwise.nil⟩
theorem light_eq {e : Int} {f : List Ky} {p c : List P} : ∃ b, p_dormouselaw26_Light (m + 1000) (e, f, p, c) = some b ∧ (b = true → f.length ≤ 60 ∧ p.length ≤ 40 ∧ c.length ≤ 40 ∧ ∀ x ∈ p ++ c, x.2.length ≤ 300) := by
  unfold p_dormouselaw26_Light p_dormouselaw26_Light.j0 joinC
  dsimp only
  by_cases h1 : f.length ≤ 60
  · rw [decide_eq_false (show ¬ (f.length : Int) > 60 by omega), cond_false]
    by_cases h2 : p.length ≤ 40
    · rw [decide_eq_false (show ¬ (p.length : Int) > 40 by omega), cond_false]
      by_cases h3 : c.length ≤ 40
      · rw [decide_eq_false (show ¬ (c.length : Int) > 40 by omega), cond_false, need_yesF (by omega), need_yesF (by simp only [List.nil_append]; omega), List.nil_append]
        have hl : (p ++ c).length ≤ 80 := by rw [List.length_append]; omega
        generalize p ++ c = l at hl ⊢
        rcases loop_all (p := fun i => match l[i]? with | some x => decide (x.2.length ≤ 300) | none => false) (good := some true) (bad := some false) (body := fun (r : Int × List (Vector Int (32) × List UInt8) → Option Bool) y => p_dormouselaw26_Light.b2 (m + 1000) (fun (y : Unit) => p_dormouselaw26_Light.j1 (m + 1000)) r y.1 y.2) l.length (m + 1000) (fun i => ((i : Int), l)) (by omega) (fun i hi rec => by
            dsimp only
            unfold p_dormouselaw26_Light.b2
            rw [decide_eq_true (by omega), cond_true, need_yesF ⟨by omega, by omega⟩, at_getF hi, wrap_inc (by omega), List.getElem?_eq_getElem hi]
            dsimp only
            by_cases q : l[i].2.length ≤ 300
            · rw [decide_eq_false (show ¬ (l[i].2.length : Int) > 300 by omega)]; simp [q]
            · rw [decide_eq_true (show (l[i].2.length : Int) > 300 by omega)]; simp [q]) (fun rec => by
            dsimp only
            unfold p_dormouselaw26_Light.b2 p_dormouselaw26_Light.j1
            rw [decide_eq_false (by omega), cond_false]) with ⟨h, h4⟩ | ⟨h, _⟩
        · refine ⟨true, h, fun _ => ⟨h1, h2, h3, fun x hx => ?_⟩⟩
          obtain ⟨i, hi, rfl⟩ := List.getElem_of_mem hx
          have := h4 i hi
          rw [List.getElem?_eq_getElem hi] at this
          exact of_decide_eq_true this
        · exact ⟨false, h, fun q => by cases q⟩
      · rw [decide_eq_true (show (c.length : Int) > 40 by omega)]
        exact ⟨false, rfl, fun q => by cases q⟩
    · rw [decide_eq_true (show (p.length : Int) > 40 by omega)]
      exact ⟨false, rfl, fun q => by cases q⟩
  · rw [decide_eq_true (show (f.length : Int) > 60 by omega)]
    exact ⟨false, rfl, fun q => by cases q⟩
/-! ### the laws -/
theorem same_self {p : PL} (h1 : p.2.1.length < 900) (h2 : p.2.2.1.length < 900) (h3 : p.2.2.2.length < 900) : p_dormouseref26_Same (m + 1000) p p = some true := (refSameP_eq h1 h2 h3).trans (by rw [plEq_self])
end Go.Dor.Fd
end
