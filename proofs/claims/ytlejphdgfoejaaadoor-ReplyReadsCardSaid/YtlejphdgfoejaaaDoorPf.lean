/- THE LAW OF THE REPLIES OF A TEXT, plain. -/
import Derived.Test.YtlejphdgfoejaaaDoorPe
set_option linter.unusedVariables false
set_option linter.unusedSimpArgs false
namespace Go.Dor
open Go.Proofs

/-- what the law asks of the lines that are left -/
noncomputable def chkR (n e : Int) (l : List (Int × List UInt8)) : List (List UInt8) → Nat → Bool
  | [], k => e == 0 && (n == 0 && ((k : Nat) : Int) == (l.length : Int))
  | x :: M, k => if (parseR x).2 = 0 then (if e = 0 ∧ l[k]? ≠ some (parseR x).1 then false else chkR n e l M (k + 1)) else ((l.length : Int) == 0 && (n == ((k + 1 : Nat) : Int) && e == 6))
theorem rdL_pre : ∀ (M : List (List UInt8)) (i : Nat) (acc : List (Int × List UInt8)), (rdL M i acc).2.1 = 0 → ∃ r, (rdL M i acc).2.2 = acc ++ r
  | [], i, acc, _ => ⟨[], by simp [rdL]⟩
  | x :: M, i, acc, h => by
    unfold rdL at h ⊢
    by_cases h0 : (parseR x).2 = 0
    · rw [if_pos h0] at h ⊢
      obtain ⟨r, hr⟩ := rdL_pre M (i + 1) _ h
      exact ⟨(parseR x).1 :: r, by rw [hr]; simp⟩
    · rw [if_neg h0] at h; exact absurd h h0
theorem chkR_rd : ∀ (M : List (List UInt8)) (i : Nat) (acc : List (Int × List UInt8)), acc.length = i → chkR (rdL M i acc).1 (rdL M i acc).2.1 (rdL M i acc).2.2 M i = true
  | [], i, acc, h => by simp [rdL, chkR, h]
  | x :: M, i, acc, h => by
    unfold chkR
    by_cases h0 : (parseR x).2 = 0
    · have e1 : rdL (x :: M) i acc = rdL M (i + 1) (acc ++ [(parseR x).1]) := by rw [rdL, if_pos h0]
      have ih := chkR_rd M (i + 1) (acc ++ [(parseR x).1]) (by rw [List.length_append]; simp [h])
      have hp := rdL_pre M (i + 1) (acc ++ [(parseR x).1])
      rw [e1, if_pos h0]
      rw [if_neg ?_]
      · exact ih
      · intro ⟨q1, q2⟩
        obtain ⟨r, hr⟩ := hp q1
        apply q2
        rw [hr]
        simp [← h]
    · have e1 : rdL (x :: M) i acc = (((i + 1 : Nat) : Int), (parseR x).2, []) := by rw [rdL, if_neg h0]
      have h6 : (parseR x).2 = 6 := by
        rcases parse_good (line := x) with ⟨n, v, q, _⟩ | q
        · rw [q] at h0; exact absurd rfl h0
        · rw [q]
      rw [e1, if_neg h0, h6]
      simp

abbrev RS := List UInt8 × Int × Int × List UInt8 × Int × Int × List (Int × List UInt8)
noncomputable def rj0 (y : Int × Int × Int × List (Int × List UInt8)) : Option Bool := p_dormouselaw39_ReplyReads.j0 2000 y.1 y.2.1 y.2.2.1 y.2.2.2
theorem reads_j0 {n e : Int} {k : Nat} {l : List (Int × List UInt8)} : rj0 (n, e, (k : Int), l) = some (chkR n e l [] k) := by
  unfold rj0 p_dormouselaw39_ReplyReads.j0 joinC chkR
  dsimp only
  rw [awake39b, Option.bind_some, cond_true]
  unfold p_dormouselaw39_ReplyReads.j1
  cases h1 : (e == 0) <;> cases h2 : (n == 0) <;> rfl
noncomputable def rj3 (rec : RS → Option Bool) (y : RS) : Option Bool := p_dormouselaw39_ReplyReads.j3 2000 rec y.1 y.2.1 y.2.2.1 y.2.2.2.1 y.2.2.2.2.1 y.2.2.2.2.2.1 y.2.2.2.2.2.2
theorem reads_j3 {rec : RS → Option Bool} {t line : List UInt8} {n e k : Int} {i : Nat} {l : List (Int × List UInt8)} (hi : i < 1000) : rj3 rec (t, n, e, line, k, (i : Int), l) = rec (t, n, e, line, k, ((i + 1 : Nat) : Int), l) := by
  unfold rj3 p_dormouselaw39_ReplyReads.j3
  have e2 : IntKind.wrap .i64 ((i : Int) + 1) = ((i + 1 : Nat) : Int) := by rw [wrap_i64 (by omega)]; omega
  dsimp only
  rw [e2]
/-- a line read -/
theorem reads_j5 {rec : RS → Option Bool} {t line : List UInt8} {n e : Int} {k i : Nat} {l : List (Int × List UInt8)} {M : List (List UInt8)} (hl : line.length < 1000) (hk : k < 1000) (hi : i < 1000) (hll : l.length < 100000)
    (hr : rec (t, n, e, [], ((k + 1 : Nat) : Int), ((i + 1 : Nat) : Int), l) = some (chkR n e l M (k + 1))) :
    p_dormouselaw39_ReplyReads.j5 2000 rj0 (rj3 rec) t n e line (k : Int) (i : Int) false l = some (chkR n e l (line :: M) k) := by
  have ek : IntKind.wrap .i64 ((k : Int) + 1) = ((k + 1 : Nat) : Int) := by rw [wrap_i64 (by omega)]; omega
  unfold p_dormouselaw39_ReplyReads.j5 joinC chkR
  dsimp only
  rw [cond_false, parse_eq (by omega) (by omega) (by omega), Option.bind_some, awake39b, ek]
  generalize parseR line = q at *
  obtain ⟨⟨q1, q2⟩, q3⟩ := q
  dsimp only
  by_cases h : q3 = 0
  · have h2 : (q3 != 0) = false := by simp [h]
    have h7 : ∀ b : Bool, p_dormouselaw39_ReplyReads.j7 2000 (rj3 rec) t n e (k : Int) (i : Int) b l = if b then some false else some (chkR n e l M (k + 1)) := by
      intro b
      unfold p_dormouselaw39_ReplyReads.j7
      cases b with
      | true => rfl
      | false => rw [cond_false, ek, reads_j3 hi, hr]; rfl
    rw [h2, cond_false, if_pos h]
    by_cases he : e = 0
    · have h3 : (e == 0) = true := by simp [he]
      rw [h3, cond_true]
      by_cases hkl : k < l.length
      · have h4 : decide ((k : Int) ≥ (l.length : Int)) = false := by simp; omega
        have e1 : at_ (dflt (T.pair (T.int IntKind.i64) T.str)) l (k : Int) = l[k] := by
          unfold at_
          rw [Int.toNat_natCast, List.getD_eq_getElem?_getD, List.getElem?_eq_getElem hkl]; rfl
        have e3 : l[k]? = some l[k] := List.getElem?_eq_getElem hkl
        rw [h4, cond_false, need_yes (by omega), e1, h7, e3]
        by_cases hq : l[k] = (q1, q2)
        · rw [hq]; simp
        · have : ¬ (l[k].1 = q1 ∧ l[k].2 = q2) := fun hh => hq (Prod.ext hh.1 hh.2)
          have e5 : (!(l[k].1 == q1 && (l[k].2 == q2 && true))) = true := by
            rw [Bool.not_eq_true', Bool.and_eq_false_iff]
            by_cases h1 : l[k].1 = q1
            · right; simp; exact fun h2 => this ⟨h1, h2⟩
            · left; simpa using h1
          rw [e5, if_pos rfl, if_pos ⟨he, by simpa using hq⟩]
      · have h4 : decide ((k : Int) ≥ (l.length : Int)) = true := by simp; omega
        rw [h4, cond_true, h7, if_pos rfl, if_pos ⟨he, by rw [List.getElem?_eq_none (by omega)]; simp⟩]
    · have h3 : (e == 0) = false := by simp [he]
      have hne : ¬ (e = 0 ∧ l[k]? ≠ some (q1, q2)) := fun q => he q.1
      rw [h3, cond_false, h7, if_neg hne]
      rfl
  · have h2 : (q3 != 0) = true := by simp [h]
    unfold p_dormouselaw39_ReplyReads.j6
    rw [h2, cond_true, if_neg h, Option.bind_some, cond_true]
    cases h3 : ((l.length : Int) == 0) <;> cases h4 : (n == ((k + 1 : Nat) : Int)) <;> rfl
theorem bat_get {t : List UInt8} {i : Nat} (hi : i < t.length) : bat t (i : Int) = (t[i].toNat : Int) := by
  unfold bat
  rw [Int.toNat_natCast, List.getD_eq_getElem?_getD, List.getElem?_eq_getElem hi]; rfl
theorem sub_get {t : List UInt8} {i : Nat} (hi : i < t.length) : sub_ t (i : Int) ((i + 1 : Nat) : Int) = [t[i]] := by
  unfold sub_
  rw [Int.toNat_natCast, Int.toNat_natCast, List.take_succ_eq_append_getElem hi, List.drop_append_of_le_length (by rw [List.length_take]; omega), List.drop_of_length_le (by rw [List.length_take]; omega)]
  rfl
noncomputable def rbody (r : RS → Option Bool) (y : RS) : Option Bool := p_dormouselaw39_ReplyReads.b2 2000 rj0 r y.1 y.2.1 y.2.2.1 y.2.2.2.1 y.2.2.2.2.1 y.2.2.2.2.2.1 y.2.2.2.2.2.2
theorem reads_end {t : List UInt8} {n e : Int} {l : List (Int × List UInt8)} {k i fuel : Nat} (hi : t.length < i) : loopC rbody (fuel + 1) (t, n, e, [], (k : Int), (i : Int), l) = some (chkR n e l [] k) := by
  unfold loopC rbody
  dsimp only
  unfold p_dormouselaw39_ReplyReads.b2
  have h1 : decide ((i : Int) ≤ (t.length : Int)) = false := by simp; omega
  rw [h1, cond_false]
  exact reads_j0
theorem reads_loop {t : List UInt8} {n e : Int} {l : List (Int × List UInt8)} (ht : t.length < 900) (hll : l.length < 100000) : ∀ (m i : Nat) (line : List UInt8) (kk fuel : Nat), i + m = t.length → m + 1 < fuel → (10 : UInt8) ∉ line → line.length ≤ i → kk ≤ i →
    loopC rbody fuel (t, n, e, line, (kk : Int), (i : Int), l) = some (chkR n e l (lns (line ++ t.drop i)) kk)
  | 0, i, line, kk, fuel + 2, hi, _, hn, hl, hk => by
    have hle : decide ((i : Int) ≤ (t.length : Int)) = true := by simp; omega
    have hlt : decide ((i : Int) < (t.length : Int)) = false := by simp; omega
    have hei : ((i : Int) == (t.length : Int)) = true := by simp; omega
    have hend := reads_end (t := t) (n := n) (e := e) (l := l) (k := kk + 1) (i := i + 1) (fuel := fuel) (by omega)
    rw [List.drop_of_length_le (by omega), List.append_nil]
    unfold loopC
    generalize loopC rbody (fuel + 1) = rec at *
    unfold rbody
    dsimp only
    unfold p_dormouselaw39_ReplyReads.b2 joinC
    rw [hle, cond_true, hlt]
    dsimp only
    rw [cond_false]
    unfold p_dormouselaw39_ReplyReads.j4 joinC
    dsimp only
    rw [cond_false, hei, cond_true]
    by_cases h0 : line = []
    · subst h0
      rw [lns_nil]
      unfold p_dormouselaw39_ReplyReads.j5
      exact reads_j0
    · have e1 : (line == []) = false := by simpa using h0
      rw [e1, lns_one hn h0]
      exact reads_j5 (by omega) (by omega) (by omega) hll hend
  | m + 1, i, line, kk, fuel + 2, hi, hf, hn, hl, hk => by
    have hit : i < t.length := by omega
    have hle : decide ((i : Int) ≤ (t.length : Int)) = true := by simp; omega
    have hlt : decide ((i : Int) < (t.length : Int)) = true := by simp; omega
    have hei : ((i : Int) == (t.length : Int)) = false := by simp; omega
    have e2 : IntKind.wrap .i64 ((i : Int) + 1) = ((i + 1 : Nat) : Int) := by rw [wrap_i64 (by omega)]; omega
    have hd : t.drop i = t[i] :: t.drop (i + 1) := List.drop_eq_getElem_cons hit
    have ih1 := reads_loop (n := n) (e := e) ht hll m (i + 1) [] (kk + 1) (fuel + 1) (by omega) (by omega) (by simp) (by simp) (by omega)
    have ih2 := fun (c : UInt8) (h : (10 : UInt8) ∉ line ++ [c]) => reads_loop (n := n) (e := e) ht hll m (i + 1) (line ++ [c]) kk (fuel + 1) (by omega) (by omega) h (by rw [List.length_append]; simp; omega) (by omega)
    rw [hd]
    rw [List.nil_append] at ih1
    simp only [List.append_assoc] at ih2
    unfold loopC
    generalize loopC rbody (fuel + 1) = rec at *
    unfold rbody
    dsimp only
    unfold p_dormouselaw39_ReplyReads.b2 joinC
    rw [hle, cond_true, hlt]
    dsimp only
    rw [cond_true, need_yes (by omega), bat_get hit]
    unfold p_dormouselaw39_ReplyReads.j4 joinC
    dsimp only
    have hg := sub_get hit
    generalize t[i] = c at *
    by_cases hc : c = 10
    · subst hc
      have e1 : (((10 : UInt8).toNat : Int) != 10) = false := rfl
      rw [e1, cond_false, hei, cond_false, lns_cons hn]
      exact reads_j5 (by omega) (by omega) (by omega) hll ih1
    · have e1 : ((c.toNat : Int) != 10) = true := by
        simp only [bne_iff_ne, ne_eq]
        intro h
        apply hc
        apply UInt8.toNat_inj.1
        show c.toNat = 10
        omega
      have hnn : (10 : UInt8) ∉ line ++ [c] := by
        rw [List.mem_append, not_or]; exact ⟨hn, by simpa using fun h => hc h.symm⟩
      rw [e1, cond_true, e2, hg, need_yes (by omega), need_yes (by simp; omega)]
      exact (reads_j3 (by omega)).trans (ih2 c hnn)
theorem rdL_len : ∀ (M : List (List UInt8)) (i : Nat) (acc : List (Int × List UInt8)), (rdL M i acc).2.2.length ≤ acc.length + M.length
  | [], i, acc => by simp [rdL]
  | x :: M, i, acc => by
    unfold rdL
    split
    · have := rdL_len M (i + 1) (acc ++ [(parseR x).1])
      rw [List.length_append] at this; simp at this ⊢; omega
    · simp
theorem law_ReplyReads (t : List UInt8) : p_dormouselaw39_ReplyReads 2000 t = some true := by
  unfold p_dormouselaw39_ReplyReads joinC
  by_cases h1 : ((t.length : Nat) : Int) > 500
  · rw [decide_eq_true h1, cond_true, awake39b]; rfl
  · have hl := rdL_len (lns t) 0 []
    have hm := lns_len t
    rw [decide_eq_false h1, cond_false, Read_eq (by omega), Option.bind_some]
    have hc := chkR_rd (lns t) 0 [] rfl
    generalize rdL (lns t) 0 [] = q at *
    obtain ⟨n, e, l⟩ := q
    dsimp only at hc hl ⊢
    have L := reads_loop (t := t) (n := n) (e := e) (l := l) (by omega) (by simp at hl; omega) t.length 0 [] 0 2000 (by omega) (by omega) (by simp) (by simp) (by omega)
    rw [List.drop_zero, List.nil_append, hc] at L
    exact L
end Go.Dor
