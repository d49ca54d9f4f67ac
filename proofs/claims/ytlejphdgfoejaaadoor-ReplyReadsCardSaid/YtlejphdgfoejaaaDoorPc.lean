/- REPLIES PARSED, and the law of their texts, plain. -/
import Derived.Test.YtlejphdgfoejaaaDoorPb
set_option linter.unusedVariables false
set_option linter.unusedSimpArgs false
namespace Go.Dor
open Go.Proofs

/-- which number a text is of -/
def eR (a : List UInt8) : Nat → Int
  | 0 => -1
  | i + 1 => if decN i = a then (i : Int) else eR a i
theorem eR_le (a : List UInt8) : ∀ i : Nat, -1 ≤ eR a i ∧ eR a i < (i : Int) ∨ eR a i = -1
  | 0 => .inr rfl
  | i + 1 => by
    unfold eR
    split
    · exact .inl ⟨by omega, by omega⟩
    · rcases eR_le a i with h | h
      · exact .inl ⟨h.1, by omega⟩
      · exact .inr h
theorem decN_inj {a b : Nat} (ha : a < 1000) (hb : b < 1000) (h : decN a = decN b) : a = b := by
  rw [← numD_decN a (by omega), ← numD_decN b (by omega), h]
theorem eR_dec {n : Nat} (hn : n < 1000) : ∀ i, i < 1000 → n < i → eR (decN n) i = (n : Int)
  | i + 1, hi, h => by
    unfold eR
    by_cases e : i = n
    · subst e; rw [if_pos rfl]
    · rw [if_neg (fun q => e (decN_inj (by omega) hn q))]
      exact eR_dec hn i (by omega) (by omega)
noncomputable def cutR (s : List UInt8) : List UInt8 × List UInt8 :=
  open Classical in if h : (32 : UInt8) ∈ s then (Classical.choose (cut_at h), Classical.choose (Classical.choose_spec (cut_at h))) else (s, [])
theorem cut_oneC {c : UInt8} {a b d e : List UInt8} (h : a ++ c :: b = d ++ c :: e) (ha : c ∉ a) (hd : c ∉ d) : a = d ∧ b = e := by
  induction a generalizing d with
  | nil =>
    cases d with
    | nil => simp at h; exact ⟨rfl, h⟩
    | cons x d => simp at h; exact absurd h.1.symm (by simp at hd; exact fun e => hd.1 e.symm)
  | cons y a ih =>
    cases d with
    | nil => simp at h; exact absurd h.1 (by simp at ha; exact fun e => ha.1 e.symm)
    | cons x d =>
      simp at h ha hd
      obtain ⟨h1, h2⟩ := ih h.2 ha.2 hd.2
      exact ⟨by rw [h.1, h1], h2⟩
theorem cutR_app {a b : List UInt8} (h : (32 : UInt8) ∉ a) : cutR (a ++ 32 :: b) = (a, b) := by
  have hin : (32 : UInt8) ∈ a ++ 32 :: b := by simp
  unfold cutR
  rw [dif_pos hin]
  have hsp := Classical.choose_spec (Classical.choose_spec (cut_at hin))
  generalize Classical.choose (Classical.choose_spec (cut_at hin)) = b' at *
  generalize Classical.choose (cut_at hin) = a' at *
  obtain ⟨e1, e2⟩ := cut_oneC hsp.1 h hsp.2
  rw [e1, e2]
theorem cutR_not {a : List UInt8} (h : (32 : UInt8) ∉ a) : cutR a = (a, []) := by unfold cutR; rw [dif_neg h]
theorem cutR_eq {s : List UInt8} (hs : s.length < 100000) : ∃ q, p_strings_Cut s [(32 : UInt8)] = some ((cutR s).1, (cutR s).2, q) := by
  by_cases h : (32 : UInt8) ∈ s
  · obtain ⟨a, b, rfl, hn⟩ := cut_at h
    rw [cutR_app hn]
    have : (a ++ 32 :: b).length = a.length + b.length + 1 := by simp; omega
    exact ⟨true, CutA hn (by omega)⟩
  · rw [cutR_not h]; exact ⟨false, CutN h⟩
theorem cutR_len {s : List UInt8} : (cutR s).2.length ≤ s.length := by
  by_cases h : (32 : UInt8) ∈ s
  · obtain ⟨a, b, rfl, hn⟩ := cut_at h
    rw [cutR_app hn]; simp; omega
  · rw [cutR_not h]; simp
theorem bytR_len (s : List UInt8) : (bytR s).1.length ≤ s.length := by
  unfold bytR
  split
  · simp
  · split
    · simp
    · rw [byl_len, prs_len]; omega
def okR (line : List UInt8) (e : Int) (v : List UInt8) : Prop := may e v = true ∧ lineR e.toNat v = line
noncomputable def parseR (line : List UInt8) : (Int × List UInt8) × Int :=
  open Classical in if okR line (eR (cutR line).1 19) (bytR (cutR line).2).1 then ((eR (cutR line).1 19, (bytR (cutR line).2).1), 0) else ((0, []), 6)

theorem parse_j0 {k : Nat} {line b : List UInt8} {x : Int × List UInt8} {e : Int} {u : List UInt8} (hb : b.length < k) (hb2 : b.length < 100000) :
    p_reply_Parse.j0 k line b x (e, u) = some (open Classical in if okR line e (bytR b).1 then ((e, (bytR b).1), 0) else ((0, []), 6)) := by
  have hl := bytR_len b
  unfold p_reply_Parse.j0 joinC
  rw [Bytes_eq hb (by omega), Option.bind_some, Text_eq (by omega) (by omega), Option.bind_some]
  dsimp only
  unfold p_reply_Parse.j1
  generalize (bytR b).1 = v at *
  by_cases hm : may e v = true
  · have e0 : ((0 : Int) != 0) = false := rfl
    rw [if_pos hm]
    dsimp only
    rw [e0, cond_false]
    by_cases h : lineR e.toNat v = line
    · have e1 : (!lineR e.toNat v == line) = false := by simpa using h
      rw [e1, cond_false, if_pos ⟨hm, h⟩]
    · have e1 : (!lineR e.toNat v == line) = true := by simpa using h
      rw [e1, cond_true, if_neg (fun q => h q.2)]
  · have e0 : ((2 : Int) != 0) = true := rfl
    rw [if_neg hm]
    dsimp only
    rw [e0, cond_true, cond_true, if_neg (fun q => hm q.1)]
theorem parse_eq {k : Nat} {line : List UInt8} (hk : 20 < k) (hl : line.length < k) (hl2 : line.length < 100000) : p_reply_Parse k line = some (parseR line) := by
  obtain ⟨q, hq⟩ := cutR_eq hl2
  have hcl := cutR_len (s := line)
  unfold p_reply_Parse joinC
  rw [hq, Option.bind_some]
  dsimp only
  unfold parseR
  generalize (cutR line).1 = a at *
  generalize (cutR line).2 = b at *
  have L := loop_count (body := fun (r : List UInt8 × List UInt8 × List UInt8 × Int × (Int × List UInt8) × Int × List UInt8 → Option ((Int × List UInt8) × Int)) y => p_reply_Parse.b2 k (fun y => p_reply_Parse.j0 k y.1 y.2.1 y.2.2.1 y.2.2.2) r y.1 y.2.1 y.2.2.1 y.2.2.2.1 y.2.2.2.2.1 y.2.2.2.2.2)
    (res := some (open Classical in if okR line (eR a 19) (bytR b).1 then ((eR a 19, (bytR b).1), 0) else ((0, []), 6))) 19 k
    (fun i => (line, a, b, (i : Int), ((0 : Int), []), (eR a i, []))) (by omega) ?_ ?_
  · exact L
  · intro i hi rec
    unfold p_reply_Parse.b2 joinC
    have h1 : decide ((i : Int) ≤ 18) = true := by simpa using (by omega : (i : Int) ≤ 18)
    rw [h1, cond_true]
    dsimp only
    rw [number_eq hi, Option.bind_some]
    by_cases h : decN i = a
    · have e1 : (decN i == a) = true := by simpa using h
      rw [e1, cond_true]
      unfold p_reply_Parse.j3
      rw [wrap_i64 (by omega), eR, if_pos h]
      rfl
    · have e1 : (decN i == a) = false := by simpa using h
      rw [e1, cond_false]
      unfold p_reply_Parse.j3
      rw [wrap_i64 (by omega), eR, if_neg h]
      rfl
  · intro rec
    unfold p_reply_Parse.b2
    have h1 : decide (((19 : Nat) : Int) ≤ 18) = false := by decide
    rw [h1, cond_false]
    dsimp only
    exact parse_j0 (by omega) (by omega)

theorem dig_32 {n : Nat} (h : n < 16) : dig n ≠ 32 := by
  have : (List.range 16).all (fun n => decide (dig n ≠ 32)) = true := by decide
  have := List.all_eq_true.1 this n (by simpa using h)
  simpa using this
theorem decN_32 : ∀ (n : Nat), (32 : UInt8) ∉ decN n := by
  intro n
  induction n using Nat.strongRecOn with
  | _ n ih =>
    by_cases h : n < 10
    · rw [decN_lo h]; simpa using (dig_32 (n := n) (by omega)).symm
    · rw [decN_hi h, List.mem_append, not_or]
      exact ⟨ih _ (by omega), by simpa using (dig_32 (n := n % 10) (by omega)).symm⟩
theorem bytR_nil : bytR [] = ([], false) := by
  unfold bytR
  rw [if_neg (by simp), if_pos (.inl rfl)]
/-- a reply's line tells the reply -/
theorem parse_line {n : Nat} {v : List UInt8} (hm : may (n : Int) v = true) : parseR (lineR n v) = (((n : Int), v), 0) := by
  have hmm := hm
  simp only [may, decide_eq_true_eq] at hmm
  have hn : n < 19 := by omega
  have key : eR (cutR (lineR n v)).1 19 = (n : Int) ∧ (bytR (cutR (lineR n v)).2).1 = v := by
    unfold lineR
    by_cases h0 : v = []
    · subst h0
      rw [if_pos rfl, List.append_nil, cutR_not (decN_32 n)]
      dsimp only
      rw [eR_dec (by omega) 19 (by omega) hn, bytR_nil]
      exact ⟨rfl, rfl⟩
    · rw [if_neg h0, cutR_app (decN_32 n)]
      dsimp only
      rw [eR_dec (by omega) 19 (by omega) hn, bytR_hex h0]
      exact ⟨rfl, rfl⟩
  unfold parseR
  rw [key.1, key.2, if_pos ⟨hm, by rw [Int.toNat_natCast]⟩]
theorem parse_good {line : List UInt8} : (∃ (n : Nat) (v : List UInt8), parseR line = (((n : Int), v), 0) ∧ may (n : Int) v = true ∧ lineR n v = line ∧ n < 19 ∧ v.length ≤ line.length) ∨ parseR line = ((0, []), 6) := by
  unfold parseR
  by_cases h : okR line (eR (cutR line).1 19) (bytR (cutR line).2).1
  · have hb := bytR_len (cutR line).2
    have hc := cutR_len (s := line)
    rw [if_pos h]
    obtain ⟨h1, h2⟩ := h
    have hmm := h1
    simp only [may, decide_eq_true_eq] at hmm
    generalize eR (cutR line).1 19 = e at *
    obtain ⟨n, rfl⟩ : ∃ n : Nat, e = (n : Int) := ⟨e.toNat, by omega⟩
    rw [Int.toNat_natCast] at h2
    exact .inl ⟨n, _, rfl, h1, h2, by omega, by omega⟩
  · rw [if_neg h]; exact .inr rfl

set_option maxRecDepth 100000 in
theorem awake39b : p_dormouselaw39_awake 2000 = some true := by kernel_rfl
theorem texts_j2 {line : List UInt8} (hl : line.length ≤ 500) : p_dormouselaw39_ReplyTexts.j2 2000 line = some true := by
  unfold p_dormouselaw39_ReplyTexts.j2 joinC
  rw [parse_eq (by omega) (by omega) (by omega), Option.bind_some, awake39b]
  dsimp only
  rw [Option.bind_some, cond_true]
  rcases parse_good (line := line) with ⟨n, v, h, hm, hline, hn, hv⟩ | h
  · rw [h]
    dsimp only
    have e0 : ((0 : Int) == 0) = true := rfl
    have e1 : (line == line) = true := by simp
    rw [e0, cond_true, May_eq, hm, Option.bind_some, cond_true, Line_eq (by omega) (by omega) hn (by omega), Option.bind_some, hline, e1, cond_true]
    rfl
  · rw [h]
    dsimp only
    have e0 : ((6 : Int) == 0) = false := rfl
    have e1 : ((6 : Int) == 6) = true := rfl
    rw [e0, cond_false, e1, cond_true]
    rfl
theorem lineR_len {n : Nat} {v : List UInt8} (hn : n < 19) : (lineR n v).length ≤ 22 + 2 * v.length := by
  have := decN_len20 (n := n) (by omega)
  unfold lineR
  split
  · simp; omega
  · rw [List.length_append, List.length_cons, hexL_len, natsOf_len]; omega

theorem texts_j1 {a b : List UInt8} {m : Bool} {x : Int × List UInt8} (hl : a.length ≤ 500) (hm : m = true → may x.1 x.2 = true ∧ b = lineR x.1.toNat x.2 ∧ x.2.length ≤ 500) :
    p_dormouselaw39_ReplyTexts.j1 2000 a b m false x = some true := by
  unfold p_dormouselaw39_ReplyTexts.j1 joinC
  rw [cond_false]
  dsimp only
  cases m with
  | false => exact texts_j2 hl
  | true =>
    obtain ⟨h1, h2, h3⟩ := hm rfl
    have hmm := h1
    simp only [may, decide_eq_true_eq] at hmm
    obtain ⟨n, hn⟩ : ∃ n : Nat, x.1 = (n : Int) := ⟨x.1.toNat, by omega⟩
    obtain ⟨e, v⟩ := x
    simp only at hn h1 h2 h3 hmm
    subst hn
    rw [Int.toNat_natCast] at h2
    have hb := lineR_len (n := n) (v := v) (by omega)
    subst h2
    dsimp only
    rw [cond_true, parse_eq (by omega) (by omega) (by omega), Option.bind_some, parse_line h1]
    dsimp only
    have e1 : (((n : Int) == (n : Int)) && (v == v && true)) = true := by simp
    have e2 : ((0 : Int) != 0) = false := rfl
    rw [e1, e2]
    unfold p_dormouselaw39_ReplyTexts.j4
    exact texts_j2 hl
theorem texts_j0 {a : List UInt8} {x : Int × List UInt8} (hl : a.length ≤ 500) (hx : x.2.length ≤ 500) : p_dormouselaw39_ReplyTexts.j0 2000 a false x = some true := by
  unfold p_dormouselaw39_ReplyTexts.j0 joinC
  rw [cond_false]
  obtain ⟨e, v⟩ := x
  dsimp only at hx ⊢
  rw [Text_eq (by omega) (by omega), Option.bind_some, May_eq, Option.bind_some, Check_eq, Option.bind_some]
  by_cases hm : may e v = true
  · have hmm := hm
    simp only [may, decide_eq_true_eq] at hmm
    obtain ⟨n, rfl⟩ : ∃ n : Nat, e = (n : Int) := ⟨e.toNat, by omega⟩
    have e1 : (lineR n v == lineR n v) = true := by simp
    have e0 : ((0 : Int) == 0) = true := rfl
    have e2 : ((0 : Int) != 0) = false := rfl
    rw [hm, if_pos rfl, if_pos rfl, Int.toNat_natCast]
    dsimp only
    rw [Line_eq (by omega) (by omega) (by omega) (by omega), Option.bind_some, e0, e2, e1]
    have key : p_dormouselaw39_ReplyTexts.j1 2000 a (lineR n v) true false ((n : Int), v) = some true := texts_j1 hl (fun _ => ⟨hm, by dsimp only; rw [Int.toNat_natCast], hx⟩)
    exact key
  · have hf : may e v = false := by simpa using hm
    have key : p_dormouselaw39_ReplyTexts.j1 2000 a [] false false (e, v) = some true := texts_j1 hl (fun h => by cases h)
    have e1 : (!(([] : List UInt8) == [])) = false := by simp
    have e2 : ((2 : Int) != 2) = false := rfl
    have e3 : (!((2 : Int) == 0) == false) = false := rfl
    rw [hf]
    simp only [Bool.false_eq_true, if_false]
    rw [e3, e2, e1]
    exact key
theorem law_ReplyTexts (x : Int × List UInt8) (line : List UInt8) : p_dormouselaw39_ReplyTexts 2000 x line = some true := by
  unfold p_dormouselaw39_ReplyTexts joinC
  dsimp only
  have hj : ∀ a y, p_dormouselaw39_ReplyTexts.j0 2000 a true y = some true := by
    intro a y
    unfold p_dormouselaw39_ReplyTexts.j0
    rw [cond_true, awake39b]; rfl
  by_cases h1 : ((x.2.length : Nat) : Int) > 500
  · rw [decide_eq_true h1, cond_true]; exact hj _ _
  · rw [decide_eq_false h1, cond_false]
    by_cases h2 : ((line.length : Nat) : Int) > 500
    · rw [decide_eq_true h2]; exact hj _ _
    · rw [decide_eq_false h2]; exact texts_j0 (by omega) (show x.2.length ≤ 500 by omega)
end Go.Dor
