/- THE ROW, AND WHAT IT STANDS ON: the texts Pf Sd Se Sf Zm R9, one behind the other. -/
import Derived.Test.YtlejphdgfoejaaaDoorX95
import Derived.WideShapes
import Derived.Test.YtlejphdgfoejaaaDoorRows
import Derived.ProofKit
import Derived.SizedLaws
import Derived.ChangeSame
import Derived.ChangeVars
import Derived.JoinedOf
import Derived.LaidLaws
import Derived.LaidHandle
import Derived.Lib.LaidIn
import Derived.Handed
import Derived.Test.YtlejphdgfoejaaaDoorTie
import Derived.Test.YtlejphdgfoejaaaDoorCards
import Derived.SevenTiedAt
section
/- THE LAW OF THE REPLIES OF A TEXT, plain. -/
set_option linter.unusedVariables false
set_option linter.unusedSimpArgs false
namespace Go.Dor
open Go.Proofs

/-- what the law asks of the lines that are left -/
noncomputable def chkR (n e : Int) (l : List (Int × List UInt8)) : List (List UInt8) → Nat → Bool
  | [], k => e == 0 && (n == 0 && ((k : Nat) : Int) == (l.length : Int))
  | x :: M, k => if (parseR x).2 = 0 then (if e = 0 ∧ l[k]? ≠ some (parseR x).1 then false else chkR n e l M (k + 1)) else ((l.length : Int) == 0 && (n == ((k + 1 : Nat) : Int) && e == 6))
theorem rdL_pre : ∀ (M : List (List UInt8)) (i : Nat) (acc : List (Int × List UInt8)), (rdL M i acc).2.1 = 0 → ∃ r, (rdL M i acc).2.2 = acc ++ r
  | [], i, acc, _ => ⟨[], by simp [rdL]⟩
  | x :: M, i, acc, h => by
    unfold rdL at h ⊢
    by_cases h0 : (parseR x).2 = 0
    · rw [if_pos h0] at h ⊢
      obtain ⟨r, hr⟩ := rdL_pre M (i + 1) _ h
      exact ⟨(parseR x).1 :: r, by rw [hr]; simp⟩
    · rw [if_neg h0] at h; exact absurd h h0
theorem chkR_rd : ∀ (M : List (List UInt8)) (i : Nat) (acc : List (Int × List UInt8)), acc.length = i → chkR (rdL M i acc).1 (rdL M i acc).2.1 (rdL M i acc).2.2 M i = true
  | [], i, acc, h => by simp [rdL, chkR, h]
  | x :: M, i, acc, h => by
    unfold chkR
    by_cases h0 : (parseR x).2 = 0
    · have e1 : rdL (x :: M) i acc = rdL M (i + 1) (acc ++ [(parseR x).1]) := by rw [rdL, if_pos h0]
      have ih := chkR_rd M (i + 1) (acc ++ [(parseR x).1]) (by rw [List.length_append]; simp [h])
      have hp := rdL_pre M (i + 1) (acc ++ [(parseR x).1])
      rw [e1, if_pos h0]
      rw [if_neg ?_]
      · exact ih
      · intro ⟨q1, q2⟩
        obtain ⟨r, hr⟩ := hp q1
        apply q2
        rw [hr]
        simp [← h]
    · have e1 : rdL (x :: M) i acc = (((i + 1 : Nat) : Int), (parseR x).2, []) := by rw [rdL, if_neg h0]
      have h6 : (parseR x).2 = 6 := by
        rcases parse_good (line := x) with ⟨n, v, q, _⟩ | q
        · rw [q] at h0; exact absurd rfl h0
        · rw [q]
      rw [e1, if_neg h0, h6]
      simp

abbrev RS := List UInt8 × Int × Int × List UInt8 × Int × Int × List (Int × List UInt8)
noncomputable def rj0 (y : Int × Int × Int × List (Int × List UInt8)) : Option Bool := p_dormouselaw39_ReplyReads.j0 2000 y.1 y.2.1 y.2.2.1 y.2.2.2
theorem reads_j0 {n e : Int} {k : Nat} {l : List (Int × List UInt8)} : rj0 (n, e, (k : Int), l) = some (chkR n e l [] k) := by
  unfold rj0 p_dormouselaw39_ReplyReads.j0 joinC chkR
  dsimp only
  rw [awake39b, Option.bind_some, cond_true]
  unfold p_dormouselaw39_ReplyReads.j1
  cases h1 : (e == 0) <;> cases h2 : (n == 0) <;> rfl
noncomputable def rj3 (rec : RS → Option Bool) (y : RS) : Option Bool := p_dormouselaw39_ReplyReads.j3 2000 rec y.1 y.2.1 y.2.2.1 y.2.2.2.1 y.2.2.2.2.1 y.2.2.2.2.2.1 y.2.2.2.2.2.2
theorem reads_j3 {rec : RS → Option Bool} {t line : List UInt8} {n e k : Int} {i : Nat} {l : List (Int × List UInt8)} (hi : i < 1000) : rj3 rec (t, n, e, line, k, (i : Int), l) = rec (t, n, e, line, k, ((i + 1 : Nat) : Int), l) := by
  unfold rj3 p_dormouselaw39_ReplyReads.j3
  have e2 : IntKind.wrap .i64 ((i : Int) + 1) = ((i + 1 : Nat) : Int) := by rw [wrap_i64 (by omega)]; omega
  dsimp only
  rw [e2]
/-- a line read -/
theorem reads_j5 {rec : RS → Option Bool} {t line : List UInt8} {n e : Int} {k i : Nat} {l : List (Int × List UInt8)} {M : List (List UInt8)} (hl : line.length < 1000) (hk : k < 1000) (hi : i < 1000) (hll : l.length < 100000)
    (hr : rec (t, n, e, [], ((k + 1 : Nat) : Int), ((i + 1 : Nat) : Int), l) = some (chkR n e l M (k + 1))) :
    p_dormouselaw39_ReplyReads.j5 2000 rj0 (rj3 rec) t n e line (k : Int) (i : Int) false l = some (chkR n e l (line :: M) k) := by
  have ek : IntKind.wrap .i64 ((k : Int) + 1) = ((k + 1 : Nat) : Int) := by rw [wrap_i64 (by omega)]; omega
  unfold p_dormouselaw39_ReplyReads.j5 joinC chkR
  dsimp only
  rw [cond_false, parse_eq (by omega) (by omega) (by omega), Option.bind_some, awake39b, ek]
  generalize parseR line = q at *
  obtain ⟨⟨q1, q2⟩, q3⟩ := q
  dsimp only
  by_cases h : q3 = 0
  · have h2 : (q3 != 0) = false := by simp [h]
    have h7 : ∀ b : Bool, p_dormouselaw39_ReplyReads.j7 2000 (rj3 rec) t n e (k : Int) (i : Int) b l = if b then some false else some (chkR n e l M (k + 1)) := by
      intro b
      unfold p_dormouselaw39_ReplyReads.j7
      cases b with
      | true => rfl
      | false => rw [cond_false, ek, reads_j3 hi, hr]; rfl
    rw [h2, cond_false, if_pos h]
    by_cases he : e = 0
    · have h3 : (e == 0) = true := by simp [he]
      rw [h3, cond_true]
      by_cases hkl : k < l.length
      · have h4 : decide ((k : Int) ≥ (l.length : Int)) = false := by simp; omega
        have e1 : at_ (dflt (T.pair (T.int IntKind.i64) T.str)) l (k : Int) = l[k] := by
          unfold at_
          rw [Int.toNat_natCast, List.getD_eq_getElem?_getD, List.getElem?_eq_getElem hkl]; rfl
        have e3 : l[k]? = some l[k] := List.getElem?_eq_getElem hkl
        rw [h4, cond_false, need_yes (by omega), e1, h7, e3]
        by_cases hq : l[k] = (q1, q2)
        · rw [hq]; simp
        · have : ¬ (l[k].1 = q1 ∧ l[k].2 = q2) := fun hh => hq (Prod.ext hh.1 hh.2)
          have e5 : (!(l[k].1 == q1 && (l[k].2 == q2 && true))) = true := by
            rw [Bool.not_eq_true', Bool.and_eq_false_iff]
            by_cases h1 : l[k].1 = q1
            · right; simp; exact fun h2 => this ⟨h1, h2⟩
            · left; simpa using h1
          rw [e5, if_pos rfl, if_pos ⟨he, by simpa using hq⟩]
      · have h4 : decide ((k : Int) ≥ (l.length : Int)) = true := by simp; omega
        rw [h4, cond_true, h7, if_pos rfl, if_pos ⟨he, by rw [List.getElem?_eq_none (by omega)]; simp⟩]
    · have h3 : (e == 0) = false := by simp [he]
      have hne : ¬ (e = 0 ∧ l[k]? ≠ some (q1, q2)) := fun q => he q.1
      rw [h3, cond_false, h7, if_neg hne]
      rfl
  · have h2 : (q3 != 0) = true := by simp [h]
    unfold p_dormouselaw39_ReplyReads.j6
    rw [h2, cond_true, if_neg h, Option.bind_some, cond_true]
    cases h3 : ((l.length : Int) == 0) <;> cases h4 : (n == ((k + 1 : Nat) : Int)) <;> rfl
theorem bat_get {t : List UInt8} {i : Nat} (hi : i < t.length) : bat t (i : Int) = (t[i].toNat : Int) := by
  unfold bat
  rw [Int.toNat_natCast, List.getD_eq_getElem?_getD, List.getElem?_eq_getElem hi]; rfl
theorem sub_get {t : List UInt8} {i : Nat} (hi : i < t.length) : sub_ t (i : Int) ((i + 1 : Nat) : Int) = [t[i]] := by
  unfold sub_
  rw [Int.toNat_natCast, Int.toNat_natCast, List.take_succ_eq_append_getElem hi, List.drop_append_of_le_length (by rw [List.length_take]; omega), List.drop_of_length_le (by rw [List.length_take]; omega)]
  rfl
noncomputable def rbody (r : RS → Option Bool) (y : RS) : Option Bool := p_dormouselaw39_ReplyReads.b2 2000 rj0 r y.1 y.2.1 y.2.2.1 y.2.2.2.1 y.2.2.2.2.1 y.2.2.2.2.2.1 y.2.2.2.2.2.2
theorem reads_end {t : List UInt8} {n e : Int} {l : List (Int × List UInt8)} {k i fuel : Nat} (hi : t.length < i) : loopC rbody (fuel + 1) (t, n, e, [], (k : Int), (i : Int), l) = some (chkR n e l [] k) := by
  unfold loopC rbody
  dsimp only
  unfold p_dormouselaw39_ReplyReads.b2
  have h1 : decide ((i : Int) ≤ (t.length : Int)) = false := by simp; omega
  rw [h1, cond_false]
  exact reads_j0
theorem reads_loop {t : List UInt8} {n e : Int} {l : List (Int × List UInt8)} (ht : t.length < 900) (hll : l.length < 100000) : ∀ (m i : Nat) (line : List UInt8) (kk fuel : Nat), i + m = t.length → m + 1 < fuel → (10 : UInt8) ∉ line → line.length ≤ i → kk ≤ i →
    loopC rbody fuel (t, n, e, line, (kk : Int), (i : Int), l) = some (chkR n e l (lns (line ++ t.drop i)) kk)
  | 0, i, line, kk, fuel + 2, hi, _, hn, hl, hk => by
    have hle : decide ((i : Int) ≤ (t.length : Int)) = true := by simp; omega
    have hlt : decide ((i : Int) < (t.length : Int)) = false := by simp; omega
    have hei : ((i : Int) == (t.length : Int)) = true := by simp; omega
    have hend := reads_end (t := t) (n := n) (e := e) (l := l) (k := kk + 1) (i := i + 1) (fuel := fuel) (by omega)
    rw [List.drop_of_length_le (by omega), List.append_nil]
    unfold loopC
    generalize loopC rbody (fuel + 1) = rec at *
    unfold rbody
    dsimp only
    unfold p_dormouselaw39_ReplyReads.b2 joinC
    rw [hle, cond_true, hlt]
    dsimp only
    rw [cond_false]
    unfold p_dormouselaw39_ReplyReads.j4 joinC
    dsimp only
    rw [cond_false, hei, cond_true]
    by_cases h0 : line = []
    · subst h0
      rw [lns_nil]
      unfold p_dormouselaw39_ReplyReads.j5
      exact reads_j0
    · have e1 : (line == []) = false := by simpa using h0
      rw [e1, lns_one hn h0]
      exact reads_j5 (by omega) (by omega) (by omega) hll hend
  | m + 1, i, line, kk, fuel + 2, hi, hf, hn, hl, hk => by
    have hit : i < t.length := by omega
    have hle : decide ((i : Int) ≤ (t.length : Int)) = true := by simp; omega
    have hlt : decide ((i : Int) < (t.length : Int)) = true := by simp; omega
    have hei : ((i : Int) == (t.length : Int)) = false := by simp; omega
    have e2 : IntKind.wrap .i64 ((i : Int) + 1) = ((i + 1 : Nat) : Int) := by rw [wrap_i64 (by omega)]; omega
    have hd : t.drop i = t[i] :: t.drop (i + 1) := List.drop_eq_getElem_cons hit
    have ih1 := reads_loop (n := n) (e := e) ht hll m (i + 1) [] (kk + 1) (fuel + 1) (by omega) (by omega) (by simp) (by simp) (by omega)
    have ih2 := fun (c : UInt8) (h : (10 : UInt8) ∉ line ++ [c]) => reads_loop (n := n) (e := e) ht hll m (i + 1) (line ++ [c]) kk (fuel + 1) (by omega) (by omega) h (by rw [List.length_append]; simp; omega) (by omega)
    rw [hd]
    rw [List.nil_append] at ih1
    simp only [List.append_assoc] at ih2
    unfold loopC
    generalize loopC rbody (fuel + 1) = rec at *
    unfold rbody
    dsimp only
    unfold p_dormouselaw39_ReplyReads.b2 joinC
    rw [hle, cond_true, hlt]
    dsimp only
    rw [cond_true, need_yes (by omega), bat_get hit]
    unfold p_dormouselaw39_ReplyReads.j4 joinC
    dsimp only
    have hg := sub_get hit
    generalize t[i] = c at *
    by_cases hc : c = 10
    · subst hc
      have e1 : (((10 : UInt8).toNat : Int) != 10) = false := rfl
      rw [e1, cond_false, hei, cond_false, lns_cons hn]
      exact reads_j5 (by omega) (by omega) (by omega) hll ih1
    · have e1 : ((c.toNat : Int) != 10) = true := by
        simp only [bne_iff_ne, ne_eq]
        intro h
        apply hc
        apply UInt8.toNat_inj.1
        show c.toNat = 10
        omega
      have hnn : (10 : UInt8) ∉ line ++ [c] := by
        rw [List.mem_append, not_or]; exact ⟨hn, by simpa using fun h => hc h.symm⟩
      rw [e1, cond_true, e2, hg, need_yes (by omega), need_yes (by simp; omega)]
      exact (reads_j3 (by omega)).trans (ih2 c hnn)
theorem rdL_len : ∀ (M : List (List UInt8)) (i : Nat) (acc : List (Int × List UInt8)), (rdL M i acc).2.2.length ≤ acc.length + M.length
  | [], i, acc => by simp [rdL]
  | x :: M, i, acc => by
    unfold rdL
    split
    · have := rdL_len M (i + 1) (acc ++ [(parseR x).1])
      rw [List.length_append] at this; simp at this ⊢; omega
    · simp
theorem law_ReplyReads (t : List UInt8) : p_dormouselaw39_ReplyReads 2000 t = some true := by
  unfold p_dormouselaw39_ReplyReads joinC
  by_cases h1 : ((t.length : Nat) : Int) > 500
  · rw [decide_eq_true h1, cond_true, awake39b]; rfl
  · have hl := rdL_len (lns t) 0 []
    have hm := lns_len t
    rw [decide_eq_false h1, cond_false, Read_eq (by omega), Option.bind_some]
    have hc := chkR_rd (lns t) 0 [] rfl
    generalize rdL (lns t) 0 [] = q at *
    obtain ⟨n, e, l⟩ := q
    dsimp only at hc hl ⊢
    have L := reads_loop (t := t) (n := n) (e := e) (l := l) (by omega) (by simp at hl; omega) t.length 0 [] 0 2000 (by omega) (by omega) (by simp) (by simp) (by omega)
    rw [List.drop_zero, List.nil_append, hc] at L
    exact L
end Go.Dor
end

section
/- STEPS OF A TEXT READ, and the document's lines, plain. -/
set_option linter.unusedVariables false
set_option linter.unusedSimpArgs false
namespace Go.Dor.Ky.Kg
open Go.Proofs

theorem at_getI {α : Type} {d : α} {l : List α} {i : Nat} (h : i < l.length) : at_ d l (i : Int) = l[i] := by
  unfold at_
  rw [Int.toNat_natCast, List.getD_eq_getElem?_getD, List.getElem?_eq_getElem h]; rfl
/-! ### steps of lines -/
noncomputable def allC : List (List UInt8) → Nat → List Ky.St → Int × Int × List Ky.St
  | [], _, acc => (0, 0, acc)
  | w :: ls, i, acc => if w = [] then allC ls (i + 1) acc else if (parseC w).2 = 0 then allC ls (i + 1) (acc ++ [(parseC w).1]) else (((i + 1 : Nat) : Int), (parseC w).2, [])
set_option maxRecDepth 100000 in
theorem tb45 : Go.TypeInfo.bytes (Go.Tables.types (Go.Program.toTables Go.Proofs.Tryd.prog))[(45 : Nat)] = 56 := by kernel_rfl
abbrev AS := Int × Int × List Ky.St × List (List UInt8)
noncomputable def ab (k : Nat) (r : AS → Option (Int × Int × List Ky.St)) (y : AS) : Option (Int × Int × List Ky.St) := p_cmd_All.b1 k (p_cmd_All.j0 k) r y.1 y.2.1 y.2.2.1 y.2.2.2
theorem all_loop {k : Nat} {ls : List (List UInt8)} (hk : 64 < k) (hn : ls.length < 1000000) (hl : ∀ w ∈ ls, w.length + 1 < k ∧ w.length < 100000) : ∀ (m i fuel : Nat) (acc : List Ky.St), i + m = ls.length → m < fuel → acc.length ≤ i →
    loopC (ab k) fuel ((ls.length : Int), (i : Int), acc, ls) = some (allC (ls.drop i) i acc)
  | 0, i, fuel + 1, acc, hi, _, ha => by
    unfold loopC ab
    dsimp only
    unfold p_cmd_All.b1 p_cmd_All.j0
    rw [decide_eq_false (by omega), cond_false, List.drop_of_length_le (by omega)]
    rfl
  | m + 1, i, fuel + 1, acc, hi, hf, ha => by
    have hx : i < ls.length := by omega
    have e2 : IntKind.wrap .i64 ((i : Int) + 1) = ((i + 1 : Nat) : Int) := by rw [wrap_i64 (by omega)]; omega
    have ih := fun a h => all_loop hk hn hl m (i + 1) fuel a (by omega) (by omega) h
    obtain ⟨h1, h2⟩ := hl _ (List.getElem_mem hx)
    rw [List.drop_eq_getElem_cons hx]
    unfold loopC ab
    dsimp only
    unfold ab at ih
    generalize loopC (fun (r : AS → Option (Int × Int × List Ky.St)) y => p_cmd_All.b1 k (p_cmd_All.j0 k) r y.1 y.2.1 y.2.2.1 y.2.2.2) fuel = rec at *
    unfold p_cmd_All.b1 joinC p_cmd_All.j2
    dsimp only
    rw [decide_eq_true (by omega), cond_true, need_yes (by omega), at_getI hx, e2, allC]
    by_cases e : ls[i] = []
    · have e' : (ls[i] == []) = true := by simpa using e
      rw [if_pos e, e', cond_true, ih _ (by omega)]
    · have e' : (ls[i] == []) = false := by simpa using e
      rw [if_neg e, e', cond_false, Parse_eq hk h1 h2, Option.bind_some]
      by_cases e0 : (parseC ls[i]).2 = 0
      · have e3 : ((parseC ls[i]).2 != 0) = false := by simp [e0]
        rw [if_pos e0, e3, cond_false, tb45, need_yes (by simp only [List.length_cons, List.length_nil]; omega), ih _ (by rw [List.length_append]; simp only [List.length_cons, List.length_nil]; omega)]
      · have e3 : ((parseC ls[i]).2 != 0) = true := by simpa using e0
        rw [if_neg e0, e3, cond_true]
theorem All_eq {k : Nat} {s : List UInt8} (hk : 64 < k) (hs : s.length + 2 < k) (hs2 : s.length < 999999) (hl : ∀ w ∈ spl 10 s, w.length < 100000) : p_cmd_All k s = some (allC (spl 10 s) 0 []) := by
  have hle := spl_le (c := 10) s
  unfold p_cmd_All joinC
  dsimp only
  rw [Split_eq (by omega) (by omega), Option.bind_some]
  exact all_loop hk (by omega) (fun w hw => ⟨by have := spl_mem_len s w hw; omega, hl w hw⟩) (spl 10 s).length 0 k [] (by omega) (by omega) (by simp)
/-! ### the document's lines -/
def filC : List (List UInt8) → Nat → List (List UInt8 × Nat)
  | [], _ => []
  | w :: ls, i => if w = [] then filC ls (i + 1) else (w, i + 1) :: filC ls (i + 1)
noncomputable def allF : List (List UInt8 × Nat) → List Ky.St → Int × Int × List Ky.St
  | [], acc => (0, 0, acc)
  | x :: ls, acc => if (parseC x.1).2 = 0 then allF ls (acc ++ [(parseC x.1).1]) else ((x.2 : Int), (parseC x.1).2, [])
theorem allC_fil : ∀ (ls : List (List UInt8)) (i : Nat) (acc : List Ky.St), allC ls i acc = allF (filC ls i) acc
  | [], _, _ => rfl
  | w :: ls, i, acc => by
    rw [allC, filC]
    by_cases e : w = []
    · rw [if_pos e, if_pos e, allC_fil ls]
    · rw [if_neg e, if_neg e, allF]
      dsimp only
      rw [allC_fil ls]
theorem allF_pre : ∀ (fl : List (List UInt8 × Nat)) (acc : List Ky.St), (allF fl acc).2.1 = 0 → ∃ r, (allF fl acc).2.2 = acc ++ r
  | [], acc, _ => ⟨[], by simp [allF]⟩
  | x :: fl, acc, h => by
    rw [allF] at h ⊢
    by_cases e : (parseC x.1).2 = 0
    · rw [if_pos e] at h ⊢
      obtain ⟨r, hr⟩ := allF_pre fl _ h
      exact ⟨(parseC x.1).1 :: r, by rw [hr]; simp⟩
    · rw [if_neg e] at h; exact absurd h e
abbrev LS8 := List UInt8 × List UInt8 × Int × Int × List (List UInt8) × List Int
noncomputable def lb (k : Nat) (r : LS8 → Option (List (List UInt8) × List Int)) (y : LS8) : Option (List (List UInt8) × List Int) := p_dormouseref38_Lines.b1 k (fun y => p_dormouseref38_Lines.j0 k y.1 y.2) r y.1 y.2.1 y.2.2.1 y.2.2.2.1 y.2.2.2.2.1 y.2.2.2.2.2
set_option maxRecDepth 100000 in
theorem tb3 : Go.TypeInfo.bytes (Go.Tables.types (Go.Program.toTables Go.Proofs.Tryd.prog))[(3 : Nat)] = 8 := by kernel_rfl
theorem lines_end {k fuel : Nat} {t line : List UInt8} {n : Int} {i : Nat} {w : List (List UInt8)} {a : List Int} (hi : t.length < i) : loopC (lb k) (fuel + 1) (t, line, n, (i : Int), w, a) = some (w, a) := by
  unfold loopC lb
  dsimp only
  unfold p_dormouseref38_Lines.b1
  rw [decide_eq_false (by omega), cond_false]
  rfl
noncomputable def lj (rec : LS8 → Option (List (List UInt8) × List Int)) (k : Nat) (y : LS8) : Option (List (List UInt8) × List Int) := p_dormouseref38_Lines.j2 k rec y.1 y.2.1 y.2.2.1 y.2.2.2.1 y.2.2.2.2.1 y.2.2.2.2.2
theorem lines_j2 {k : Nat} {rec : LS8 → Option (List (List UInt8) × List Int)} {t line : List UInt8} {n : Int} {i : Nat} {w : List (List UInt8)} {a : List Int} (hi : i < 1000000) :
    lj rec k (t, line, n, (i : Int), w, a) = rec (t, line, n, ((i + 1 : Nat) : Int), w, a) := by
  have e2 : IntKind.wrap .i64 ((i : Int) + 1) = ((i + 1 : Nat) : Int) := by rw [wrap_i64 (by omega)]; omega
  unfold lj p_dormouseref38_Lines.j2
  dsimp only
  rw [e2]
/-- behind a line -/
theorem lines_j3 {k : Nat} {rec : LS8 → Option (List (List UInt8) × List Int)} {t line : List UInt8} {n i : Nat} {w : List (List UInt8)} {a : List Int} (hi : i < 1000000) (hn : n < 1000000) (hw : w.length < 1000000) (ha : a.length < 1000000) :
    p_dormouseref38_Lines.j3 k (lj rec k) t line ((n + 1 : Nat) : Int) (i : Int) false w a =
      rec (t, [], ((n + 1 + 1 : Nat) : Int), ((i + 1 : Nat) : Int), if line = [] then w else w ++ [line], if line = [] then a else a ++ [((n + 1 : Nat) : Int)]) := by
  have e3 : IntKind.wrap .i64 (((n + 1 : Nat) : Int) + 1) = ((n + 1 + 1 : Nat) : Int) := by rw [wrap_i64 (by omega)]; omega
  unfold p_dormouseref38_Lines.j3 joinC p_dormouseref38_Lines.j4
  dsimp only
  rw [cond_false, e3]
  by_cases e : line = []
  · have e' : (!line == []) = false := by simpa using e
    rw [e', cond_false, if_pos e, if_pos e, lines_j2 hi]
  · have e' : (!line == []) = true := by simpa using e
    rw [e', cond_true, if_neg e, if_neg e, tbD9, tb3, need_yes (by simp only [List.length_cons, List.length_nil]; omega), need_yes (by simp only [List.length_cons, List.length_nil]; omega), lines_j2 hi]
theorem lines_loop {k : Nat} {t : List UInt8} (ht : t.length < 100000) : ∀ (m i n fuel : Nat) (line : List UInt8) (w : List (List UInt8)) (a : List Int), i + m = t.length → m + 1 < fuel → line.length ≤ i → w.length ≤ i → a.length ≤ i → n ≤ i → (10 : UInt8) ∉ line →
    loopC (lb k) fuel (t, line, ((n + 1 : Nat) : Int), (i : Int), w, a) = some (w ++ (filC (spl 10 (line ++ t.drop i)) n).map (·.1), a ++ (filC (spl 10 (line ++ t.drop i)) n).map fun x => (x.2 : Int))
  | 0, i, n, fuel + 1 + 1, line, w, a, hi, _, hl, hw, ha, hn, hc => by
    have he := fun (line : List UInt8) (n : Int) (w : List (List UInt8)) (a : List Int) => lines_end (k := k) (fuel := fuel) (t := t) (line := line) (n := n) (i := i + 1) (w := w) (a := a) (by omega)
    rw [List.drop_of_length_le (by omega), List.append_nil, spl_not hc]
    rw [loopC_succ]
    generalize loopC (lb k) (fuel + 1) = rec at *
    unfold lb
    dsimp only
    unfold p_dormouseref38_Lines.b1 joinC
    dsimp only
    rw [decide_eq_true (by omega), cond_true, decide_eq_false (by omega), cond_false]
    refine (lines_j3 (by omega) (by omega) (by omega) (by omega)).trans ?_
    rw [he]
    unfold filC filC
    by_cases e : line = []
    · rw [if_pos e, if_pos e, if_pos e]; simp
    · rw [if_neg e, if_neg e, if_neg e]; simp
  | m + 1, i, n, fuel + 1, line, w, a, hi, hf, hl, hw, ha, hn, hc => by
    have hx : i < t.length := by omega
    have e2 : IntKind.wrap .i64 ((i : Int) + 1) = ((i + 1 : Nat) : Int) := by rw [wrap_i64 (by omega)]; omega
    have ih := fun n line w a h1 h2 h3 h4 h5 => lines_loop (k := k) ht m (i + 1) n fuel line w a (by omega) (by omega) h1 h2 h3 h4 h5
    rw [loopC_succ, List.drop_eq_getElem_cons hx]
    generalize loopC (lb k) fuel = rec at *
    unfold lb
    dsimp only
    unfold p_dormouseref38_Lines.b1 joinC
    dsimp only
    rw [decide_eq_true (by omega), cond_true, decide_eq_true (by omega), cond_true, need_yes (by omega), bat_get hx]
    by_cases e : t[i] = 10
    · have e' : ((t[i].toNat : Int) != 10) = false := by rw [e]; rfl
      rw [e']
      refine (lines_j3 (by omega) (by omega) (by omega) (by omega)).trans ?_
      rw [e, spl_app hc, filC]
      by_cases e0 : line = []
      · rw [if_pos e0, if_pos e0, if_pos e0, ih (n + 1) [] w a (by simp) (by omega) (by omega) (by omega) (by simp)]
        simp
      · rw [if_neg e0, if_neg e0, if_neg e0, ih (n + 1) [] _ _ (by simp) (by rw [List.length_append]; simp only [List.length_cons, List.length_nil]; omega) (by rw [List.length_append]; simp only [List.length_cons, List.length_nil]; omega) (by omega) (by simp)]
        simp
    · have hne : t[i].toNat ≠ 10 := fun h => e (UInt8.toNat_inj.1 h)
      have e' : ((t[i].toNat : Int) != 10) = true := by simp only [bne_iff_ne, ne_eq]; omega
      rw [e']
      unfold p_dormouseref38_Lines.j3
      rw [cond_true, e2, sub_get hx, need_yes (by omega), need_yes (by simp only [List.length_cons, List.length_nil]; omega)]
      refine (lines_j2 (by omega)).trans ?_
      rw [ih n (line ++ [t[i]]) w a (by rw [List.length_append]; simp only [List.length_cons, List.length_nil]; omega) (by omega) (by omega) (by omega) (by
        intro h
        rcases List.mem_append.1 h with h | h
        · exact hc h
        · exact e (List.mem_singleton.1 h).symm)]
      rw [List.append_assoc]
      rfl
theorem Lines_eq {k : Nat} {t : List UInt8} (hk : t.length + 1 < k) (ht : t.length < 100000) : p_dormouseref38_Lines k t = some ((filC (spl 10 t) 0).map (·.1), (filC (spl 10 t) 0).map fun x => (x.2 : Int)) := by
  unfold p_dormouseref38_Lines joinC
  have := lines_loop (k := k) ht t.length 0 0 k [] [] [] (by omega) (by omega) (by simp) (by simp) (by simp) (by omega) (by simp)
  rw [List.drop_zero, List.nil_append, List.nil_append, List.nil_append] at this
  exact this
end Go.Dor.Ky.Kg
end

section
/- STEPS OF A TEXT HELD AGAINST ITS LINES; steps printed: plain. -/
set_option linter.unusedVariables false
set_option linter.unusedSimpArgs false
namespace Go.Dor.Ky.Kg
open Go.Proofs

abbrev RdS := Int × Int × Int × List Ky.St × List (List UInt8) × List Int
noncomputable def rj (k : Nat) (y : Int × Int × List Ky.St × List (List UInt8)) : Option Bool := p_dormouselaw38_read.j0 k y.1 y.2.1 y.2.2.1 y.2.2.2
noncomputable def rb (k : Nat) (r : RdS → Option Bool) (y : RdS) : Option Bool := p_dormouselaw38_read.b2 k (rj k) r y.1 y.2.1 y.2.2.1 y.2.2.2.1 y.2.2.2.2.1 y.2.2.2.2.2
theorem st_eq (a b : Ky.St) : (a.1 == b.1 && (decide (a.2.1 = b.2.1) && (a.2.2 == b.2.2 && true))) = decide (a = b) := by
  obtain ⟨a1, a2, a3⟩ := a
  obtain ⟨b1, b2, b3⟩ := b
  rw [Bool.eq_iff_iff]
  simp
theorem read_loop {k : Nat} {fl : List (List UInt8 × Nat)} {n e : Int} {l : List Ky.St} (hk : 64 < k) (hfl : fl.length < 1000000) (hl : ∀ x ∈ fl, x.1.length + 1 < k ∧ x.1.length < 100000) :
    ∀ (m i fuel : Nat) (pre : List Ky.St), i + m = fl.length → m < fuel → pre.length = i → allF (fl.drop i) pre = (n, e, l) →
    loopC (rb k) fuel (n, e, (i : Int), l, fl.map (·.1), fl.map fun x => (x.2 : Int)) = some true
  | 0, i, fuel + 1, pre, hi, _, hp, ha => by
    rw [List.drop_of_length_le (by omega), allF] at ha
    cases ha
    unfold loopC rb
    dsimp only
    unfold p_dormouselaw38_read.b2
    rw [decide_eq_false (by rw [List.length_map]; omega), cond_false]
    unfold rj p_dormouselaw38_read.j0 joinC p_dormouselaw38_read.j1
    have e0 : ((0 : Int) == 0) = true := rfl
    dsimp only
    rw [e0, cond_true, cond_true, List.length_map, hp]
    have : i = fl.length := by omega
    rw [this]
    simp
  | m + 1, i, fuel + 1, pre, hi, hf, hp, ha => by
    have hx : i < fl.length := by omega
    have e2 : IntKind.wrap .i64 ((i : Int) + 1) = ((i + 1 : Nat) : Int) := by rw [wrap_i64 (by omega)]; omega
    obtain ⟨h1, h2⟩ := hl _ (List.getElem_mem hx)
    have ih := fun p h3 h4 => read_loop (n := n) (e := e) (l := l) hk hfl hl m (i + 1) fuel p (by omega) (by omega) h3 h4
    rw [List.drop_eq_getElem_cons hx, allF] at ha
    rw [loopC_succ]
    generalize loopC (rb k) fuel = rec at *
    have hw : at_ (dflt T.str) (fl.map (·.1)) (i : Int) = fl[i].1 := by rw [at_getI (by rw [List.length_map]; omega)]; simp
    have ht : at_ (dflt (T.int IntKind.i64)) (fl.map fun x => (x.2 : Int)) (i : Int) = (fl[i].2 : Int) := by rw [at_getI (by rw [List.length_map]; omega)]; simp
    unfold rb
    dsimp only
    unfold p_dormouselaw38_read.b2 joinC p_dormouselaw38_read.j4 p_dormouselaw38_read.j3
    dsimp only
    rw [decide_eq_true (by rw [List.length_map]; omega), cond_true, need_yes (by rw [List.length_map]; omega), hw, Parse_eq hk h1 h2, Option.bind_some, ht, e2]
    by_cases e0 : (parseC fl[i].1).2 = 0
    · have e3 : ((parseC fl[i].1).2 != 0) = false := by simp [e0]
      rw [if_pos e0] at ha
      have ih := ih _ (by rw [List.length_append, hp]; rfl) ha
      rw [e3, cond_false]
      by_cases he : e = 0
      · have he' : (e == 0) = true := by simp [he]
        obtain ⟨r, hr⟩ := allF_pre (fl.drop (i + 1)) (pre ++ [(parseC fl[i].1).1]) (by rw [ha]; exact he)
        rw [ha] at hr
        have hr : l = pre ++ [(parseC fl[i].1).1] ++ r := hr
        have hil : i < l.length := by rw [hr, List.length_append, List.length_append, hp]; simp only [List.length_cons, List.length_nil]; omega
        have hli : l[i] = (parseC fl[i].1).1 := by
          simp only [hr]
          rw [List.getElem_append_left (by rw [List.length_append, hp]; simp only [List.length_cons, List.length_nil]; omega), List.getElem_append_right (by omega)]
          simp [hp]
        rw [he', cond_true, decide_eq_false (by omega), cond_false, need_yes (by omega), at_getI hil, hli, st_eq, decide_eq_true rfl, Bool.not_true, cond_false, ih]
      · have he' : (e == 0) = false := by simpa using he
        rw [he', cond_false, cond_false, ih]
    · have e3 : ((parseC fl[i].1).2 != 0) = true := by simpa using e0
      rw [if_neg e0] at ha
      cases ha
      rw [e3, cond_true, need_yes (by rw [List.length_map]; omega)]
      simp
theorem fil_mem : ∀ (ls : List (List UInt8)) (i : Nat) (x : List UInt8 × Nat), x ∈ filC ls i → x.1 ∈ ls
  | [], _, x, h => by cases h
  | w :: ls, i, x, h => by
    rw [filC] at h
    split at h
    · exact List.mem_cons_of_mem _ (fil_mem ls _ x h)
    · rcases List.mem_cons.1 h with rfl | h
      · simp
      · exact List.mem_cons_of_mem _ (fil_mem ls _ x h)
theorem fil_len : ∀ (ls : List (List UInt8)) (i : Nat), (filC ls i).length ≤ ls.length
  | [], _ => by simp [filC]
  | w :: ls, i => by
    have := fil_len ls (i + 1)
    rw [filC]
    split <;> simp only [List.length_cons] <;> omega
theorem read_eq {k : Nat} {t : List UInt8} (hk : 1000 < k) (ht : t.length ≤ 600) : p_dormouselaw38_read k t = some true := by
  have hm : ∀ w ∈ spl 10 t, w.length ≤ t.length := fun w hw => spl_mem_len t w hw
  have hsl := spl_le (c := 10) t
  have hfl := fil_len (spl 10 t) 0
  unfold p_dormouselaw38_read joinC
  rw [All_eq (by omega) (by omega) (by omega) (fun w hw => by have := hm w hw; omega), Option.bind_some, Lines_eq (by omega) (by omega), Option.bind_some, allC_fil]
  have := read_loop (k := k) (fl := filC (spl 10 t) 0) (n := (allF (filC (spl 10 t) 0) []).1) (e := (allF (filC (spl 10 t) 0) []).2.1) (l := (allF (filC (spl 10 t) 0) []).2.2) (by omega) (by omega)
    (fun x hx => by have := hm _ (fil_mem _ _ x hx); omega) (filC (spl 10 t) 0).length 0 k [] (by omega) (by omega) rfl rfl
  exact this
/-! ### steps printed -/
def natsV (v : Vector Int 32) : List Nat := v.toList.map Int.toNat
theorem natsV_vecN {d : List Nat} (hd : okL 32 d) : natsV (vecN 32 d) = d := by
  unfold natsV
  rw [toList_vecN hd.1]
  unfold casts
  rw [List.map_map]
  exact (List.map_congr_left (fun a _ => Int.toNat_natCast a)).trans (List.map_id d)
def okS (s : Ky.St) : Prop := okL 32 (natsV s.2.1) ∧ s.2.1 = vecN 32 (natsV s.2.1)
def lineS (s : Ky.St) : List UInt8 := lineC s.1 (natsV s.2.1) s.2.2
theorem okS_of {s : Ky.St} (h : okD (.pair (.int .i64) (.pair (.arr 32 (.int .u8)) .str)) s) : okS s := by
  obtain ⟨e, v, t⟩ := s
  obtain ⟨d, rfl, h1, h2⟩ := vec_nats v h.2.1
  have hd : okL 32 d := ⟨h1, h2⟩
  exact ⟨by rw [natsV_vecN hd]; exact hd, by rw [natsV_vecN hd]⟩
theorem TextS_eq {k : Nat} {s : Ky.St} (hk : 32 < k) (hs : okS s) (ht : s.2.2.length < k) : p_cmd_Text k (s.1, s.2.1, s.2.2) = some (if mayC s then (lineS s, 0) else ([], 2)) := by
  obtain ⟨e, v, t⟩ := s
  obtain ⟨hd, hv⟩ := hs
  unfold lineS
  dsimp only at hd hv ht ⊢
  rw [hv]
  have := Text_eq (k := k) (e := e) (d := natsV v) (t := t) hk hd (fun _ => ht)
  rw [natsV_vecN hd]
  exact this
theorem LineS_eq {k : Nat} {s : Ky.St} (hk : 32 < k) (hs : okS s) (ht : s.2.2.length < k) (ht2 : s.2.2.length < 100000) (hm : mayC s = true) : p_dormouseref38_Line k (s.1, s.2.1, s.2.2) = some (lineS s) := by
  obtain ⟨e, v, t⟩ := s
  obtain ⟨hd, hv⟩ := hs
  simp only [mayC, decide_eq_true_eq] at hm
  unfold lineS
  dsimp only at hd hv ht hm ⊢
  rw [hv]
  have := Line_eq (k := k) (e := e) (d := natsV v) (t := t) hk hd ht ht2 ⟨hm.1, hm.2.1⟩
  rw [natsV_vecN hd]
  exact this
theorem parseS_line {s : Ky.St} (hs : okS s) (hm : mayC s = true) : parseC (lineS s) = (s, 0) := by
  obtain ⟨e, v, t⟩ := s
  obtain ⟨hd, hv⟩ := hs
  unfold lineS
  dsimp only at hd hv ⊢
  have hm2 : mayC (e, vecN 32 (natsV v), t) = true := by rw [← hv]; exact hm
  rw [parse_line hd hm2, ← hv]
theorem lineS_len {s : Ky.St} (hs : okS s) : (lineS s).length ≤ 77 + 2 * s.2.2.length := lineC_len hs.1
/-- the lines of steps -/
def printL : List Ky.St → List UInt8 → List UInt8 × Int
  | [], acc => (acc, 0)
  | s :: l, acc => if mayC s = true then printL l (acc ++ (lineS s ++ [10])) else ([], 2)
def linesP (l : List Ky.St) : List UInt8 := (l.map fun s => lineS s ++ [10]).flatten
theorem WriteS {s : List UInt8} {xs : List Int} (h : xs.length + s.length ≤ 140737488355328) : p__strings_Builder_WriteString s xs = some ((s.length : Int), xs ++ numsOf s) := by
  unfold p__strings_Builder_WriteString p_Builder_copyCheck
  rw [Option.bind_some, tbD5, need_yes (by rw [numsOf_len]; omega)]
noncomputable def pb (k : Nat) (r : List Ky.St × Int × Int × List Int → Option (List UInt8 × Int)) (y : List Ky.St × Int × Int × List Int) : Option (List UInt8 × Int) := p_cmd_Print.b1 k (p_cmd_Print.j0 k) r y.1 y.2.1 y.2.2.1 y.2.2.2
theorem print_loop {k : Nat} {l : List Ky.St} (hk : 4000 < k) (hn : l.length ≤ 30) (hs : ∀ s ∈ l, okS s ∧ s.2.2.length ≤ 3000) : ∀ (m i fuel : Nat) (acc : List UInt8), i + m = l.length → m < fuel → acc.length ≤ 7000 * i →
    loopC (pb k) fuel (l, (l.length : Int), (i : Int), numsOf acc) = some (printL (l.drop i) acc)
  | 0, i, fuel + 1, acc, hi, _, ha => by
    rw [loopC_succ]
    unfold pb
    dsimp only
    unfold p_cmd_Print.b1 p_cmd_Print.j0 p_Builder_String
    rw [decide_eq_false (by omega), cond_false, List.drop_of_length_le (by omega), Option.bind_some, bytesOf_numsOf]
    rfl
  | m + 1, i, fuel + 1, acc, hi, hf, ha => by
    have hx : i < l.length := by omega
    obtain ⟨h1, h2⟩ := hs _ (List.getElem_mem hx)
    have e2 : IntKind.wrap .i64 ((i : Int) + 1) = ((i + 1 : Nat) : Int) := by rw [wrap_i64 (by omega)]; omega
    have ih := fun a h => print_loop hk hn hs m (i + 1) fuel a (by omega) (by omega) h
    have hll := lineS_len h1
    rw [loopC_succ, List.drop_eq_getElem_cons hx, printL]
    generalize loopC (pb k) fuel = rec at *
    unfold pb
    dsimp only
    unfold p_cmd_Print.b1
    rw [decide_eq_true (by omega), cond_true, need_yes (by omega), at_getI hx, TextS_eq (by omega) h1 (by omega), Option.bind_some, e2]
    by_cases e : mayC l[i] = true
    · have e0 : ((0 : Int) != 0) = false := rfl
      simp only [e, if_true]
      rw [e0, cond_false, WriteS (by rw [numsOf_len]; omega), Option.bind_some]
      dsimp only
      rw [WriteS (by rw [List.length_append, numsOf_len, numsOf_len]; simp only [List.length_cons, List.length_nil]; omega), Option.bind_some]
      dsimp only
      rw [← numsOf_app, ← numsOf_app, List.append_assoc, ih _ (by rw [List.length_append, List.length_append]; simp only [List.length_cons, List.length_nil]; omega)]
    · have e0 : ((2 : Int) != 0) = true := rfl
      have e' : mayC l[i] = false := by simpa using e
      simp only [e', Bool.false_eq_true, if_false]
      rw [e0, cond_true]
theorem Print_eq {k : Nat} {l : List Ky.St} (hk : 4000 < k) (hn : l.length ≤ 30) (hs : ∀ s ∈ l, okS s ∧ s.2.2.length ≤ 3000) : p_cmd_Print k l = some (printL l []) := by
  unfold p_cmd_Print joinC
  have := print_loop hk hn hs l.length 0 k [] (by omega) (by omega) (by simp)
  exact this
theorem printL_all : ∀ (l : List Ky.St) (acc : List UInt8), (∀ s ∈ l, mayC s = true) → printL l acc = (acc ++ linesP l, 0)
  | [], acc, _ => by simp [printL, linesP]
  | s :: l, acc, h => by
    rw [printL, if_pos (h s (by simp)), printL_all l _ (fun q hq => h q (by simp [hq]))]
    unfold linesP
    rw [List.map_cons, List.flatten_cons, List.append_assoc]
theorem printL_not : ∀ (l : List Ky.St) (acc : List UInt8), (∃ s ∈ l, mayC s = false) → printL l acc = ([], 2)
  | [], acc, ⟨s, h, _⟩ => by cases h
  | s :: l, acc, ⟨q, hq, hm⟩ => by
    rw [printL]
    by_cases h : mayC s = true
    · rw [if_pos h]
      rcases List.mem_cons.1 hq with rfl | hq
      · rw [h] at hm; cases hm
      · exact printL_not l _ ⟨q, hq, hm⟩
    · rw [if_neg h]
end Go.Dor.Ky.Kg
end

section
/- THE LAW OF STEPS PRINTED AND READ, plain. -/
set_option linter.unusedVariables false
set_option linter.unusedSimpArgs false
namespace Go.Dor.Ky.Kg
open Go.Proofs

set_option maxRecDepth 100000 in
theorem awakeK (n : Nat) : p_dormouselaw38_awake (n + 400000) = some true := by kernel_rfl
theorem wordZ_10 (e : Int) : (10 : UInt8) ∉ wordZ e := by
  unfold wordZ
  split
  · exact (word_at (by omega)).2.2.2.1
  · simp
theorem dig_10 {n : Nat} (h : n < 16) : dig n ≠ 10 := by
  have : (List.range 16).all (fun n => decide (dig n ≠ 10)) = true := by decide
  have := List.all_eq_true.1 this n (by simpa using h)
  simpa using this
theorem hexL_10 {d : List Nat} (hd : ∀ x ∈ d, x < 256) : (10 : UInt8) ∉ hexL d := by
  unfold hexL
  intro h
  rw [List.mem_flatMap] at h
  obtain ⟨c, hc, h⟩ := h
  have := hd c hc
  rcases List.mem_cons.1 h with h | h
  · exact dig_10 (n := c / 16) (by omega) h.symm
  · rcases List.mem_cons.1 h with h | h
    · exact dig_10 (n := c % 16) (by omega) h.symm
    · cases h
theorem decN_10 : ∀ (n : Nat), (10 : UInt8) ∉ decN n := by
  intro n
  induction n using Nat.strongRecOn with
  | ind n ih =>
    by_cases h : n < 10
    · rw [decN_lo h]
      intro hh
      exact dig_10 (n := n) (by omega) (List.mem_singleton.1 hh).symm
    · rw [decN_hi h]
      intro hh
      rcases List.mem_append.1 hh with hh | hh
      · exact ih (n / 10) (by omega) hh
      · exact dig_10 (n := n % 10) (by omega) (List.mem_singleton.1 hh).symm
theorem txt_10 {d : List Nat} (hd : okL 32 d) : (10 : UInt8) ∉ txt d := by
  unfold txt
  split
  · intro h
    rcases List.mem_append.1 h with h | h
    · rcases List.mem_append.1 h with h | h
      · exact decN_10 _ h
      · simp at h
    · exact decN_10 _ h
  · exact hexL_10 hd.2
theorem hexS_10 (t : List UInt8) : (10 : UInt8) ∉ hexS t := by
  unfold hexS
  split
  · simp
  · exact hexL_10 (natsOf_lt t)
theorem lineS_10 {s : Ky.St} (hs : okS s) : (10 : UInt8) ∉ lineS s := by
  unfold lineS lineC
  intro h
  rcases List.mem_append.1 h with h | h
  · exact wordZ_10 _ h
  · rcases List.mem_append.1 h with h | h
    · split at h
      · cases h
      · rcases List.mem_cons.1 h with h | h
        · cases h
        · exact txt_10 hs.1 h
    · split at h
      · cases h
      · rcases List.mem_cons.1 h with h | h
        · cases h
        · exact hexS_10 _ h
theorem lineS_ne {s : Ky.St} (hm : mayC s = true) : lineS s ≠ [] := by
  simp only [mayC, decide_eq_true_eq] at hm
  unfold lineS lineC
  intro h
  exact wordZ_ne ⟨hm.1, hm.2.1⟩ (List.append_eq_nil_iff.1 h).1
/-- printed steps, read again -/
theorem all_print : ∀ (l : List Ky.St) (i : Nat) (acc : List Ky.St), (∀ s ∈ l, okS s ∧ mayC s = true) → allC (spl 10 (linesP l)) i acc = (0, 0, acc ++ l)
  | [], i, acc, _ => by
    have : spl 10 (linesP []) = [[]] := rfl
    rw [this, allC, if_pos rfl, allC, List.append_nil]
  | s :: l, i, acc, h => by
    obtain ⟨h1, h2⟩ := h s (by simp)
    have e : linesP (s :: l) = lineS s ++ 10 :: linesP l := by unfold linesP; simp
    have hp := parseS_line h1 h2
    rw [e, spl_app (lineS_10 h1), allC, if_neg (lineS_ne h2), hp, if_pos rfl, all_print l (i + 1) _ (fun q hq => h q (by simp [hq]))]
    simp
theorem linesP_len : ∀ (l : List Ky.St), (∀ s ∈ l, okS s ∧ s.2.2.length ≤ 3000) → (linesP l).length ≤ 7000 * l.length
  | [], _ => by simp [linesP]
  | s :: l, h => by
    have ih := linesP_len l (fun q hq => h q (by simp [hq]))
    obtain ⟨h1, h2⟩ := h s (by simp)
    have := lineS_len h1
    have e : linesP (s :: l) = lineS s ++ 10 :: linesP l := by unfold linesP; simp
    rw [e, List.length_append, List.length_cons, List.length_cons]
    omega
theorem linesP_mem : ∀ (l : List Ky.St), (∀ s ∈ l, okS s ∧ s.2.2.length ≤ 3000) → ∀ w ∈ spl 10 (linesP l), w.length < 100000
  | [], _, w, hw => by
    have : spl 10 (linesP []) = [[]] := rfl
    rw [this] at hw
    simp at hw; subst hw; simp
  | s :: l, h, w, hw => by
    obtain ⟨h1, h2⟩ := h s (by simp)
    have := lineS_len h1
    have e : linesP (s :: l) = lineS s ++ 10 :: linesP l := by unfold linesP; simp
    rw [e, spl_app (lineS_10 h1)] at hw
    rcases List.mem_cons.1 hw with rfl | hw
    · omega
    · exact linesP_mem l (fun q hq => h q (by simp [hq])) w hw
/-! ### light -/
noncomputable def gb (k : Nat) (r : List Ky.St × Int → Option Bool) (y : List Ky.St × Int) : Option Bool := p_dormouselaw37_Light.b1 k (p_dormouselaw37_Light.j0 k) r y.1 y.2
def lightL (l : List Ky.St) : Bool := l.all fun s => decide (s.2.2.length ≤ 3000)
theorem light_loop {k : Nat} {l : List Ky.St} (hn : l.length ≤ 9223372036854775807) : ∀ (m i fuel : Nat), i + m = l.length → m < fuel →
    loopC (gb k) fuel (l, (i : Int)) = some (lightL (l.drop i) && decide (l.length ≤ 30))
  | 0, i, fuel + 1, hi, _ => by
    rw [loopC_succ]
    unfold gb
    dsimp only
    unfold p_dormouselaw37_Light.b1 p_dormouselaw37_Light.j0
    rw [decide_eq_false (by omega), cond_false, List.drop_of_length_le (by omega)]
    unfold lightL
    rw [List.all_nil, Bool.true_and]
    congr 1
    rw [decide_eq_decide]
    omega
  | m + 1, i, fuel + 1, hi, hf => by
    have hx : i < l.length := by omega
    have e2 : IntKind.wrap .i64 ((i : Int) + 1) = ((i + 1 : Nat) : Int) := by rw [wrap_i64 (by omega)]; omega
    have ih := light_loop (k := k) hn m (i + 1) fuel (by omega) (by omega)
    rw [loopC_succ, List.drop_eq_getElem_cons hx]
    generalize loopC (gb k) fuel = rec at *
    unfold gb
    dsimp only
    unfold p_dormouselaw37_Light.b1
    rw [decide_eq_true (by omega), cond_true, need_yes (by omega), at_getI hx, e2]
    unfold lightL at ih ⊢
    rw [List.all_cons]
    by_cases h : l[i].2.2.length ≤ 3000
    · rw [decide_eq_false (by omega), cond_false, ih, decide_eq_true h, Bool.true_and]
    · rw [decide_eq_true (by omega), cond_true, decide_eq_false h, Bool.false_and, Bool.false_and]
theorem Light_eq {k : Nat} {l : List Ky.St} (hk : l.length < k) (hn : l.length ≤ 9223372036854775807) : p_dormouselaw37_Light k l = some (lightL l && decide (l.length ≤ 30)) := by
  unfold p_dormouselaw37_Light joinC
  exact light_loop hn l.length 0 k (by omega) hk
/-! ### the law -/
noncomputable def cj4 (k : Nat) (t : List UInt8) : Option Bool := p_dormouselaw38_CmdAll.j4 k t
theorem all_j4 {k : Nat} {t : List UInt8} (hk : 1000 < k) (haw : p_dormouselaw38_awake k = some true) (ht : t.length ≤ 600) : p_dormouselaw38_CmdAll.j4 k t = some true := by
  unfold p_dormouselaw38_CmdAll.j4 joinC
  dsimp only
  rw [haw, Option.bind_some, cond_true, read_eq hk ht]
  rfl
abbrev C6 := List Ky.St × List UInt8 × Bool × Int × List Ky.St
noncomputable def cb6 (k : Nat) (r : C6 → Option Bool) (y : C6) : Option Bool := p_dormouselaw38_CmdAll.b6 k (p_dormouselaw38_CmdAll.j4 k) r y.1 y.2.1 y.2.2.1 y.2.2.2.1 y.2.2.2.2
theorem all_bad {k fuel : Nat} {l : List Ky.St} {t : List UInt8} {i : Int} {m : List Ky.St} : loopC (cb6 k) (fuel + 1) (l, t, true, i, m) = p_dormouselaw38_CmdAll.j4 k t := by
  rw [loopC_succ]
  unfold cb6
  dsimp only
  unfold p_dormouselaw38_CmdAll.b6 joinC p_dormouselaw38_CmdAll.j7
  dsimp only
  rw [Bool.not_true, cond_false]
  cases decide (i < (m.length : Int)) <;> rfl
theorem all_good {k : Nat} {l : List Ky.St} {t : List UInt8} (hn : l.length < 1000000) : ∀ (m i fuel : Nat), i + m = l.length → m < fuel → loopC (cb6 k) fuel (l, t, false, (i : Int), l) = p_dormouselaw38_CmdAll.j4 k t
  | 0, i, fuel + 1, hi, _ => by
    rw [loopC_succ]
    unfold cb6
    dsimp only
    unfold p_dormouselaw38_CmdAll.b6 joinC p_dormouselaw38_CmdAll.j7
    dsimp only
    rw [decide_eq_false (by omega), cond_false, cond_false]
  | m + 1, i, fuel + 1, hi, hf => by
    have hx : i < l.length := by omega
    have e2 : IntKind.wrap .i64 ((i : Int) + 1) = ((i + 1 : Nat) : Int) := by rw [wrap_i64 (by omega)]; omega
    have ih := all_good (k := k) (t := t) hn m (i + 1) fuel (by omega) (by omega)
    rw [loopC_succ]
    generalize loopC (cb6 k) fuel = rec at *
    unfold cb6
    dsimp only
    unfold p_dormouselaw38_CmdAll.b6 joinC p_dormouselaw38_CmdAll.j7
    dsimp only
    rw [decide_eq_true (by omega), cond_true, Bool.not_false, cond_true, need_yes (by omega), need_yes (by omega), at_getI hx, st_eq, decide_eq_true rfl, Bool.not_true, cond_false, e2, ih]
theorem all_j1 {k : Nat} {l : List Ky.St} {t want : List UInt8} {bad : Bool} (hk : 400000 ≤ k) (haw : p_dormouselaw38_awake k = some true) (ht : t.length ≤ 600) (hn : l.length ≤ 30) (hs : ∀ s ∈ l, okS s ∧ s.2.2.length ≤ 3000)
    (hb : bad = true → ∃ s ∈ l, mayC s = false) (hg : bad = false → (∀ s ∈ l, mayC s = true) ∧ want = linesP l) : p_dormouselaw38_CmdAll.j1 k l t want bad = some true := by
  have h4 := all_j4 (t := t) (by omega) haw ht
  have hlen := linesP_len l hs
  unfold p_dormouselaw38_CmdAll.j1 joinC
  rw [Print_eq (by omega) hn hs, Option.bind_some]
  cases bad with
  | true =>
    have e1 : (!(true == ((2 : Int) == 2))) = false := rfl
    have hall : p_cmd_All k [] = some (0, 0, []) := by
      rw [All_eq (by omega) (by simp; omega) (by simp) (fun w hw => by simp [spl] at hw; subst hw; simp)]
      rfl
    rw [printL_not l [] (hb rfl)]
    dsimp only
    rw [e1, cond_false, Bool.not_true, cond_false]
    unfold p_dormouselaw38_CmdAll.j2 joinC
    rw [cond_false, hall, Option.bind_some]
    dsimp only
    rw [Bool.not_true, cond_false]
    unfold p_dormouselaw38_CmdAll.j3 joinC
    rw [cond_false]
    have := all_bad (k := k) (fuel := k - 1) (l := l) (t := t) (i := 0) (m := [])
    rw [show k - 1 + 1 = k by omega] at this
    exact this.trans h4
  | false =>
    obtain ⟨h1, rfl⟩ := hg rfl
    have e1 : (!(false == ((0 : Int) == 2))) = false := rfl
    have e0 : ((0 : Int) != 0) = false := rfl
    have e5 : ∀ x : List UInt8, (!(x == x)) = false := by intro x; simp
    have e6 : (((l.length : Nat) : Int) != ((l.length : Nat) : Int)) = false := by simp
    have hall : p_cmd_All k (linesP l) = some (0, 0, l) := by
      rw [All_eq (by omega) (by omega) (by omega) (linesP_mem l hs), all_print l 0 [] (fun s hs' => ⟨(hs s hs').1, h1 s hs'⟩)]
      rfl
    rw [printL_all l [] h1, List.nil_append]
    dsimp only
    rw [e1, cond_false, Bool.not_false, cond_true, e0, cond_false, e5]
    unfold p_dormouselaw38_CmdAll.j2 joinC
    rw [cond_false, hall, Option.bind_some]
    dsimp only
    rw [Bool.not_false, cond_true, e0, cond_false, cond_false, e6]
    unfold p_dormouselaw38_CmdAll.j3 joinC
    rw [cond_false]
    have := all_good (k := k) (l := l) (t := t) (by omega) l.length 0 k (by omega) (by omega)
    exact this.trans h4
theorem linesP_snoc {a : List Ky.St} {s : Ky.St} : linesP (a ++ [s]) = linesP a ++ (lineS s ++ [10]) := by
  unfold linesP
  rw [List.map_append, List.flatten_append]
  simp
abbrev C8 := List Ky.St × List UInt8 × List UInt8 × Bool × Int
noncomputable def cj1 (k : Nat) (y : List Ky.St × List UInt8 × List UInt8 × Bool) : Option Bool := p_dormouselaw38_CmdAll.j1 k y.1 y.2.1 y.2.2.1 y.2.2.2
noncomputable def cb8 (k : Nat) (r : C8 → Option Bool) (y : C8) : Option Bool := p_dormouselaw38_CmdAll.b8 k (cj1 k) r y.1 y.2.1 y.2.2.1 y.2.2.2.1 y.2.2.2.2
theorem all_b8 {k : Nat} {rec : C8 → Option Bool} {l : List Ky.St} {t want : List UInt8} {bad : Bool} {i : Nat} (hk : 400000 ≤ k) (hn : l.length ≤ 30) (hi : i < l.length) (hs : okS l[i] ∧ l[i].2.2.length ≤ 3000) (hw : want.length ≤ 300000) :
    cb8 k rec (l, t, want, bad, (i : Int)) = rec (l, t, if (bad || !mayC l[i]) = true then want else want ++ (lineS l[i] ++ [10]), bad || !mayC l[i], ((i + 1 : Nat) : Int)) := by
  have e2 : IntKind.wrap .i64 ((i : Int) + 1) = ((i + 1 : Nat) : Int) := by rw [wrap_i64 (by omega)]; omega
  have hll := lineS_len hs.1
  have h10 : ∀ b : Bool, (b = false → mayC l[i] = true) → p_dormouselaw38_CmdAll.j10 k (fun y => p_dormouselaw38_CmdAll.j9 k rec y.1 y.2.1 y.2.2.1 y.2.2.2.1 y.2.2.2.2) l t want b (i : Int) = rec (l, t, if b = true then want else want ++ (lineS l[i] ++ [10]), b, ((i + 1 : Nat) : Int)) := by
    intro b hb
    unfold p_dormouselaw38_CmdAll.j10 p_dormouselaw38_CmdAll.j9
    cases b with
    | true =>
      dsimp only
      rw [Bool.not_true, cond_false, e2, if_pos rfl]
    | false =>
      dsimp only
      rw [Bool.not_false, cond_true, need_yes (by omega), at_getI hi, LineS_eq (by omega) hs.1 (by omega) (by omega) (hb rfl), Option.bind_some, need_yes (by omega), need_yes (by rw [List.length_append]; omega), e2, if_neg (by simp), List.append_assoc]
  unfold cb8
  dsimp only
  unfold p_dormouselaw38_CmdAll.b8 joinC
  dsimp only
  rw [decide_eq_true (by omega), cond_true]
  cases bad with
  | true =>
    rw [cond_true, Bool.true_or]
    exact h10 true (fun h => by cases h)
  | false =>
    rw [cond_false, need_yes (by omega), at_getI hi, May_eq, Option.bind_some, Bool.false_or]
    exact h10 (!mayC l[i]) (fun h => by simpa using h)
theorem all_loop8 {k : Nat} {l : List Ky.St} {t : List UInt8} (hk : 400000 ≤ k) (haw : p_dormouselaw38_awake k = some true) (ht : t.length ≤ 600) (hn : l.length ≤ 30) (hs : ∀ s ∈ l, okS s ∧ s.2.2.length ≤ 3000) :
    ∀ (q i fuel : Nat) (want : List UInt8) (bad : Bool), i + q = l.length → q < fuel →
    (bad = true → ∃ s ∈ l.take i, mayC s = false) → (bad = false → (∀ s ∈ l.take i, mayC s = true) ∧ want = linesP (l.take i)) → want.length ≤ 7000 * i →
    loopC (cb8 k) fuel (l, t, want, bad, (i : Int)) = some true
  | 0, i, fuel + 1, want, bad, hi, _, hb, hg, hw => by
    rw [loopC_succ]
    unfold cb8
    dsimp only
    unfold p_dormouselaw38_CmdAll.b8
    rw [decide_eq_false (by omega), cond_false]
    rw [List.take_of_length_le (by omega)] at hb hg
    exact all_j1 hk haw ht hn hs hb hg
  | q + 1, i, fuel + 1, want, bad, hi, hf, hb, hg, hw => by
    have hx : i < l.length := by omega
    have hsi := hs _ (List.getElem_mem hx)
    have hll := lineS_len hsi.1
    have ht' : l.take (i + 1) = l.take i ++ [l[i]] := by rw [List.take_succ_eq_append_getElem hx]
    rw [loopC_succ, all_b8 hk hn hx hsi (by omega)]
    refine all_loop8 hk haw ht hn hs q (i + 1) fuel _ _ (by omega) (by omega) ?_ ?_ ?_
    · rw [ht']
      intro h
      cases bad with
      | true =>
        obtain ⟨s, h1, h2⟩ := hb rfl
        exact ⟨s, List.mem_append_left _ h1, h2⟩
      | false => exact ⟨l[i], List.mem_append_right _ (List.mem_singleton.2 rfl), by simpa using h⟩
    · rw [ht']
      intro h
      cases bad with
      | true => simp at h
      | false =>
        obtain ⟨h1, h2⟩ := hg rfl
        have h3 : mayC l[i] = true := by simpa using h
        refine ⟨fun s hs' => ?_, ?_⟩
        · rcases List.mem_append.1 hs' with hs' | hs'
          · exact h1 s hs'
          · rw [List.mem_singleton.1 hs']; exact h3
        · rw [if_neg (by rw [h]; simp), h2, linesP_snoc]
    · split
      · omega
      · rw [List.length_append, List.length_append]
        simp only [List.length_cons, List.length_nil]
        omega
theorem law_CmdAll (l : List Ky.St) (t : List UInt8) (hl : okD (.sl (.pair (.int .i64) (.pair (.arr 32 (.int .u8)) .str))) l) : p_dormouselaw38_CmdAll (l.length + 400000) l t = some true := by
  have haw := awakeK l.length
  have hk : 400000 ≤ l.length + 400000 := by omega
  have hkl : l.length < l.length + 400000 := by omega
  generalize l.length + 400000 = k at *
  have hj : ∀ a y, p_dormouselaw38_CmdAll.j0 k a y true = some true := by
    intro a y
    unfold p_dormouselaw38_CmdAll.j0
    rw [cond_true, haw]; rfl
  unfold p_dormouselaw38_CmdAll joinC
  dsimp only
  rw [Light_eq hkl hl.1, Option.bind_some]
  cases hc : lightL l && decide (l.length ≤ 30) with
  | false => rw [Bool.not_false, cond_true]; exact hj _ _
  | true =>
    rw [Bool.and_eq_true, decide_eq_true_eq] at hc
    have hs : ∀ s ∈ l, okS s ∧ s.2.2.length ≤ 3000 := fun s hs => ⟨okS_of (hl.2 s hs), by simpa using List.all_eq_true.1 hc.1 s hs⟩
    rw [Bool.not_true, cond_false]
    by_cases h2 : ((t.length : Nat) : Int) > 600
    · rw [decide_eq_true h2]; exact hj _ _
    · rw [decide_eq_false h2]
      unfold p_dormouselaw38_CmdAll.j0 joinC
      rw [cond_false]
      have := all_loop8 hk haw (t := t) (by omega) hc.2 hs l.length 0 k [] false (by omega) (by omega) (by simp) (by simp [linesP]) (by simp)
      exact this
end Go.Dor.Ky.Kg
end

section
/- AN ARGUMENT OF A LAW, as data of its type: numbers fit, the value reads as the data. -/
namespace Go.Dor
section
variable {H : Type} {enc' : TypeId × Value → H} {P : Program} {w : World}

def vOf : (c : T) → den c → V
  | .int k, n => .one (.i k n)
  | .bool, x => .one (.b x)
  | .str, l => .one (.s l)
  | .flt k, n => .one (.f k n)
  | .sl e, xs => .one (.ro e xs)
  | .unit, x => .ag (enc .unit x)
  | .pair a b, x => .ag (enc (.pair a b) x)
  | .arr n e, x => .ag (enc (.arr n e) x)

def aggT : T → Bool
  | .unit | .pair .. | .arr .. => true
  | _ => false

theorem okWide_agg {t : TypeId} {r : Reach} {base : Nat} {v : Value} (hv : Value.okWide P w r base t v) (hg : (∃ fs, P.underlying t = some (.struct fs)) ∨ ∃ m e, P.underlying t = some (.array m e)) : ∃ cs, v = .agg cs := by
  rcases hg with ⟨fs, hg⟩ | ⟨m, e, hg⟩ <;>
  · simp only [Value.okWide, hg] at hv
    obtain ⟨cs, h1, _⟩ := hv
    exact ⟨cs, h1⟩

theorem one_cells {v : Value} (h : ∀ cs, v ≠ .agg cs) : v.cells.toList = [v] := by
  cases v <;> first | rfl | exact absurd rfl (h _)

theorem arg_rv {t : TypeId} {v : Value} {d : DataW H} {p : List MemPlace} {c : T} (hag : (match P.underlying t with | some (.struct _) | some (.array _ _) => true | _ => false) = aggT c)
    (h : DataW.Trod enc' P w 0 (fun _ => true) true t v d p) (hc : codeT P depth t = some c) (ht : tiled P depth t = true) {r : Reach} {base : Nat} (hv : Value.okWide P w r base t v) : ∃ a : den c, Rv (m0 w) (vOf c a) v ∧ okD c a := by
  obtain ⟨a, ha, hk⟩ := arg_ok h hc ht
  refine ⟨a, ?_, hk⟩
  cases hx : aggT c with
  | true =>
    rw [hx] at hag
    have hcs : ∃ cs, v = .agg cs := by
      split at hag
      · rename_i fs hu; exact okWide_agg hv (.inl ⟨_, hu⟩)
      · rename_i m e hu; exact okWide_agg hv (.inr ⟨_, _, hu⟩)
      · cases hag
    obtain ⟨cs, hcs⟩ := hcs
    cases c <;> first | exact rv_ag hcs ha | cases hx
  | false =>
    rw [hx] at hag
    have hne : ∀ cs, v ≠ .agg cs := by
      rintro cs rfl
      split at hag
      · cases hag
      · cases hag
      · rename_i h1 h2
        unfold Value.okWide at hv
        split at hv
        · rename_i hu; exact h1 _ hu
        · rename_i hu; exact h2 _ _ hu
        · unfold Cell.okWide at hv
          cases hu : P.underlying t with
          | none => rw [hu] at hv; simp [Cell.ok, hu] at hv
          | some u => cases u <;> simp_all [Cell.ok]
    rw [one_cells hne] at ha
    cases c <;> first | exact ha | cases hx
end
end Go.Dor
end

section
/- CmdAll AT EVERY INPUT: true; each argument reads behind the call as it read before. No condition but the row's own. -/
namespace Go.Proofs.YtlejphdgfoejaaaDoor
open Go.ChangeShapes Go.WideShapes Go.ChangeAt Go.RowKit

theorem cmdAll_ownNone : ownKnob Tryd.prog.godebug = none := by kernel_rfl
theorem cmdAll_laidOk : laidOutB Tryd.prog = true := by kernel_rfl
/-- A world that meets the condition: the listed variables' cells laid. -/
noncomputable def cmdAll_laidWorld (os : Os) : World :=
  let w0 := World.holding Tryd.prog os ⟨#[], #[], []⟩
  let put (h : Array Obj) (g : Nat) (cs : Array Value) : Array Obj := h.modify g fun
    | .cells _ t frozen => .cells cs t frozen
    | o => o
  let h1 := put w0.heap 1 (Go.Pinned.utf8FirstZ.map fun (z : Nat) => Value.int .u8 (z : Int)).toArray
  let h2 := put h1 2 (([128, 191, 160, 191, 128, 159, 144, 191, 128, 143, 0, 0, 0, 0, 0, 0, 0, 0, 0, 0, 0, 0, 0, 0, 0, 0, 0, 0, 0, 0, 0, 0] : List Int).map fun z => Value.int .u8 z).toArray
  { w0 with heap := h2 }
set_option maxRecDepth 100000 in
theorem cmdAll_laid_met (os : Os) (args : Array Value) : laidMet Tryd.prog Rows.cmdAllRow.laid ((cmdAll_laidWorld os).forCall (fun _ _ => 0) ⟨#[], args, []⟩).memory :=
  (LaidIn.of_run [1, 2] 8 (by kernel_rfl) (by kernel_rfl) (by kernel_rfl) (by kernel_rfl)).met
set_option maxRecDepth 100000 in
theorem cmdAll_laidWorld_met (os : Os) (args : Array Value) : laidMetH Tryd.prog Rows.cmdAllRow.laid ((cmdAll_laidWorld os).forCall (fun _ _ => 0) ⟨#[], args, []⟩).memory :=
  cmdAll_laid_met os args
set_option maxRecDepth 100000 in
theorem cmdAll_lifted (os : Os) (started : os.Started) (H : Type) (enc : TypeId × Value → H) :
    ReturnsInHanded {} Tryd.checked os 9 .any (fun w args => (Rows.cmdAllSpec.pre enc Tryd.prog Tryd.f9 [] false w args ∧ laidMetH Tryd.prog Rows.cmdAllRow.laid w) ∧ sizedMet enc Tryd.prog Tryd.f9 (OpenSpec.ofChange Rows.cmdAllSpec) false w args) (Rows.cmdAllSpec.post enc Tryd.prog Tryd.f9 false true false false) := by
  refine returnsInHanded_of_change_and (C := Tryd.checked) (X := fun w _ => laidMetH Tryd.prog Rows.cmdAllRow.laid w) (fun _ _ _ hh h => h.of_heap hh) cmdAll_ownNone started (by kernel_rfl) Tryd.func9
    (ChangeSpec.witness_at (enc := enc) (C := Tryd.checked) (os := os) (X := fun w _ => laidMetH Tryd.prog Rows.cmdAllRow.laid w) false (cmdAll_laidWorld os) #[.slice none 0 0, .string ⟨#[]⟩] 8 rfl (by kernel_rfl) (by kernel_rfl) (by kernel_rfl) (by kernel_rfl) (by kernel_rfl) (cmdAll_laidWorld_met os _)) ?_
  intro W base args ds gs before hval0 hW _ _ _ _
  have hval : ∀ (j : Nat) t v, Tryd.f9.params[j]? = some t → args[j]? = some v → Value.okWide Tryd.prog W .any base t v := hval0
  have hW' := hW
  obtain ⟨p, q, hA0, hV, rfl, _, _⟩ := hW
  have hA : DataW.TrodAll enc Tryd.prog W 0 (fun _ => true) true Tryd.f9.params.toList args.toList ds p := hA0
  have hA2 := hA
  rw [Tryd.params9] at hA hval
  obtain ⟨rfl, rfl⟩ := trodVars_none hV
  simp only [List.append_nil] at hW'
  have hlt : ∀ x ∈ p, x.block < W.heap.size := fun x hx => by simpa using hW'.lt x hx
  obtain ⟨v0, v1, d0, d1, p0, p1, rfl, rfl, rfl, h0, h1⟩ := trodAll_two hA
  obtain ⟨a0, r0, k0⟩ := Dor.arg_rv (c := .sl (.pair (.int .i64) (.pair (.arr 32 (.int .u8)) .str))) (by kernel_rfl) h0 (by kernel_rfl) (by kernel_rfl) (hval 0 _ v0 rfl rfl)
  obtain ⟨a1, r1, k1⟩ := Dor.arg_rv (c := .str) (by kernel_rfl) h1 (by kernel_rfl) (by kernel_rfl) (hval 1 _ v1 rfl rfl)
  have hk := Dor.Ky.Kg.law_CmdAll a0 a1 k0
  refine (Dor.law_calls (Dor.s_dormouselaw38_CmdAll (List.length a0 + 400000)) (vals := [v0, v1]) (x := (a0, a1)) (w := W) ⟨r0, r1, trivial⟩ hk).mono fun e W' ⟨he, hnx⟩ => ⟨_, he, ?_⟩
  refine ⟨_, _, _, [] ++ [], p0 ++ p1, [], hW', trodAll_mk1 (shut_bool (by kernel_rfl) true), ?_, rfl, hnx.frame _, fun h => by cases h⟩
  exact Dor.trodAll_stays cmdAll_laidOk hnx (by decide +kernel) hA2 hlt

theorem cmdAll_holds : Rows.CmdAllSaid :=
  OpenClaim.holds_of_wide 9 Tryd.f9 rfl rfl rfl rfl rfl rfl rfl ⟨rfl, rfl, rfl, rfl, rfl⟩ rfl rfl rfl rfl rfl (by kernel_rfl) Tryd.func9 (by kernel_rfl)
    (of_decide_eq_true (by kernel_rfl)) (by unfold Func.isWrapper; first | (rw [if_pos (by decide +kernel)]; kernel_rfl) | (rw [if_neg (by decide +kernel)]; exact ⟨rfl, rfl⟩))
    (fun os started H enc _ => cmdAll_lifted os started H enc)

theorem cmdAll_card : Rows.CmdAllCardSaid :=
  Claim7.holds_tied_plain_at .later [] [.data, .pinned] true (true, "a7d258ae0b702be9d261bb6c8bd45ae7ef8974bff8ff2809bc8c206916b8e966") false
    cmdAll_holds (fun _ h => by cases h) (by kernel_rfl) (fun _ h => by cases h) cmdAll_row_tie rfl ⟨rfl, rfl⟩ (by kernel_rfl) rfl
    (fun f fn hf hfn => by
      obtain rfl : f = 9 := Option.some.inj ((show Tryd.prog.funcNamed "dormouse/dormouselaw38.CmdAll" = some 9 by kernel_rfl).symm.trans hf) |>.symm
      obtain rfl : fn = Tryd.f9 := (Option.some.inj (Tryd.func9.symm.trans hfn)).symm
      exact ⟨by kernel_rfl, fun j t ht => by
        have h3 : (Tryd.f9.params.toList.all fun t => !Tryd.prog.wantsStandIn t) = true := by kernel_rfl
        have hm : t ∈ Tryd.f9.params.toList := by rw [Array.mem_toList_iff]; exact Array.mem_of_getElem? ht
        exact (show Tryd.prog.wantsStandIn t = false by simpa using List.all_eq_true.1 h3 t hm)⟩)
    (by kernel_rfl)

end Go.Proofs.YtlejphdgfoejaaaDoor
end
