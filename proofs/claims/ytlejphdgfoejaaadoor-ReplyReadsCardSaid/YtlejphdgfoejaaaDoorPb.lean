/- REPLIES: their texts, on both sides. -/
import Derived.Test.YtlejphdgfoejaaaDoorPa
set_option linter.unusedVariables false
set_option linter.unusedSimpArgs false
namespace Go.Dor
open Go.Proofs

set_option maxRecDepth 100000 in
theorem tbD5 : Go.TypeInfo.bytes (Go.Tables.types (Go.Program.toTables Go.Proofs.Tryd.prog))[(5 : Nat)] = 1 := by kernel_rfl
set_option maxRecDepth 100000 in
theorem awake39 : p_dormouselaw39_awake 1000 = some true := by kernel_rfl

/-! ### cut at a byte -/
theorem IndexC {s : List UInt8} {c : UInt8} : p_stringslite_Index s [c] = some (Lib.indexByte s c) := by
  unfold p_stringslite_Index joinC
  have e0 : (([c].length : Int) == 0) = false := rfl
  dsimp only
  rw [e0, cond_false]
  unfold p_stringslite_Index.j0
  by_cases h : [c] = s
  · subst h
    have e1 : ([c] == [c]) = true := by simp
    rw [e1, cond_true]
    simp [Lib.indexByte]
  · have e1 : ([c] == s) = false := by simpa using h
    have e2 : (([c].length : Int) == 1) = true := rfl
    have e3 : bat [c] 0 = ((c.toNat : Nat) : Int) := rfl
    rw [e1, cond_false, e2, cond_true, need_yes (by simp), e3]
    unfold p_stringslite_IndexByte indexByteOf
    simp
theorem CutN {s : List UInt8} {c : UInt8} (h : c ∉ s) : p_strings_Cut s [c] = some (s, [], false) := by
  unfold p_strings_Cut p_stringslite_Cut
  rw [IndexC, index_not h]
  rfl
theorem CutA {a b : List UInt8} {c : UInt8} (h : c ∉ a) (hl : a.length + b.length < 1000000) : p_strings_Cut (a ++ c :: b) [c] = some (a, b, true) := by
  unfold p_strings_Cut p_stringslite_Cut
  have e1 : decide ((a.length : Int) ≥ 0) = true := by simp
  have e2 : IntKind.wrap .i64 ((a.length : Int) + ([c].length : Int)) = ((a.length + 1 : Nat) : Int) := by rw [wrap_i64 (by simp; omega)]; rfl
  have hlen : (a ++ c :: b).length = a.length + b.length + 1 := by simp; omega
  rw [IndexC, index_app h, Option.bind_some, e1, cond_true, e2, need_yes (by rw [hlen]; omega), need_yes (by rw [hlen]; omega), Option.bind_some]
  have s1 : sub_ (a ++ c :: b) 0 (a.length : Int) = a := by simp [sub_]
  have s2 : sub_ (a ++ c :: b) ((a.length + 1 : Nat) : Int) ((a ++ c :: b).length : Int) = b := by
    rw [sub_, Int.toNat_natCast, Int.toNat_natCast, List.take_length, show a.length + 1 = (a ++ [c]).length from by simp]
    rw [show a ++ c :: b = (a ++ [c]) ++ b from by simp, List.drop_left]
  rw [s1, s2]

/-! ### bytes as digits -/
def hexS (s : List UInt8) : List UInt8 := if s = [] then [45] else hexL (natsOf s)
theorem nats_take (s : List UInt8) (i : Nat) : natsOf (s.take i) = (natsOf s).take i := by simp [natsOf]
theorem cmdHex_eq {k : Nat} {s : List UInt8} (hk : s.length < k) (hs : s.length < 1000000) : p_cmd_Hex k s = some (hexS s) := by
  unfold p_cmd_Hex hexS
  by_cases h0 : s = []
  · subst h0; rfl
  have e0 : (s == []) = false := by simpa using h0
  rw [e0, cond_false, if_neg h0]
  have hnl := natsOf_len s
  have hnb := natsOf_lt s
  unfold joinC
  have L := loop_count (body := fun (r : List UInt8 × Int × Int × List Int → Option (List UInt8)) y => p_cmd_Hex.b1 k (p_cmd_Hex.j0 k) r y.1 y.2.1 y.2.2.1 y.2.2.2) (res := some (hexL (natsOf s))) s.length k
    (fun i => (s, (s.length : Int), (i : Int), numsOf (hexL ((natsOf s).take i)))) hk ?_ ?_
  · exact L
  · intro i hi rec
    dsimp only
    unfold p_cmd_Hex.b1
    have h1 : decide ((i : Int) < (s.length : Int)) = true := by simpa using hi
    have hid : i < (natsOf s).length := by omega
    have hlt := hnb (natsOf s)[i] (List.getElem_mem hid)
    have hb : bat s (i : Int) = (((natsOf s)[i] : Nat) : Int) := by simp [bat, natsOf, hi]
    have hlen : (hexL ((natsOf s).take i)).length = 2 * i := by rw [hexL_len, List.length_take]; omega
    have ht := hexL_take hid
    rw [h1, cond_true, need_yes (by omega), hb]
    generalize (natsOf s)[i] = c at *
    have e1 : ishr .u8 (c : Int) 4 = ((c / 16 : Nat) : Int) := by
      have := shr_nat (k := .u8) (a := c) (n := 4) (by show 4 ≤ 8; omega)
      simpa using this
    have e2 : iand .u8 (c : Int) 15 = ((c % 16 : Nat) : Int) := by
      have := and_nat (k := .u8) (a := c) (b := 15) rfl (by show c < 256; omega) (by show 15 < 256; omega)
      have h2 : c &&& 15 = c % 16 := Nat.and_two_pow_sub_one_eq_mod _ 4
      rw [h2] at this
      exact this
    rw [e1, e2, need_yes (by omega), need_yes (by omega), need_yes (by omega), ← DIG, dig_bat, dig_bat]
    first | rw [tbD5] | skip
    rw [need_yes (by rw [numsOf_len, hlen]; simp only [List.length_cons, List.length_nil]; omega), wrap_i64 (by omega), ht, numsOf_app]
    rfl
  · intro rec
    dsimp only
    unfold p_cmd_Hex.b1
    have h1 : decide ((s.length : Int) < (s.length : Int)) = false := by simp
    rw [h1, cond_false, List.take_of_length_le (by omega)]
    unfold p_cmd_Hex.j0
    rw [bytesOf_numsOf]

/-- a digit's number, nothing's is 0 -/
def hm (s : List UInt8) (i : Nat) : Nat := (max (hexv (byt s i)) 0).toNat
theorem hm_lt (s : List UInt8) (i : Nat) : hm s i < 16 := by
  unfold hm
  by_cases h : 0 ≤ hexv (byt s i)
  · have := (hexv_at (byt_lt s i) h).1; omega
  · omega
theorem IndexD {s : List UInt8} {i : Nat} : p_strings_IndexByte DIG (bat s (i : Int)) = some (hexv (byt s i)) := by
  unfold p_strings_IndexByte p_stringslite_IndexByte
  rw [bat_byt]
  rfl
/-- what pairs of digits come to -/
def prs (s : List UInt8) (n : Nat) : List Nat := (List.range n).map fun j => 16 * hm s (2 * j) + hm s (2 * j + 1)
theorem prs_len (s : List UInt8) (n : Nat) : (prs s n).length = n := by simp [prs]
theorem prs_succ (s : List UInt8) (n : Nat) : prs s (n + 1) = prs s n ++ [16 * hm s (2 * n) + hm s (2 * n + 1)] := by simp [prs, List.range_succ]
theorem prs_lt (s : List UInt8) (n : Nat) : ∀ x ∈ prs s n, x < 256 := by
  intro x hx
  simp only [prs, List.mem_map] at hx
  obtain ⟨j, _, rfl⟩ := hx
  have := hm_lt s (2 * j); have := hm_lt s (2 * j + 1); omega
def bytR (s : List UInt8) : List UInt8 × Bool :=
  if s = [45] then ([], true) else if prs s (s.length / 2) = [] ∨ hexS (byl (prs s (s.length / 2))) ≠ s then ([], false) else (byl (prs s (s.length / 2)), true)
theorem Bytes_eq {k : Nat} {s : List UInt8} (hk : s.length < k) (hs : s.length < 1000000) : p_cmd_Bytes k s = some (bytR s) := by
  unfold p_cmd_Bytes bytR
  by_cases h0 : s = [45]
  · subst h0; rfl
  have e0 : (s == [45]) = false := by simpa using h0
  rw [e0, cond_false, if_neg h0]
  unfold joinC
  have tail : p_cmd_Bytes.j0 k s (casts (prs s (s.length / 2))) = some (if prs s (s.length / 2) = [] ∨ hexS (byl (prs s (s.length / 2))) ≠ s then ([], false) else (byl (prs s (s.length / 2)), true)) := by
    have hpl := prs_len s (s.length / 2)
    generalize prs s (s.length / 2) = d at *
    unfold p_cmd_Bytes.j0 joinC
    dsimp only
    rw [casts_len]
    by_cases hd : d = []
    · subst hd
      rw [if_pos (.inl rfl)]; rfl
    · have e1 : ((d.length : Int) == 0) = false := by
        have : 0 < d.length := List.length_pos_iff.2 hd
        simp only [beq_eq_false_iff_ne, ne_eq]; omega
      rw [e1, cond_false, bytesOf_casts, cmdHex_eq (by rw [byl_len]; omega) (by rw [byl_len]; omega), Option.bind_some]
      unfold p_cmd_Bytes.j1
      rw [bytesOf_casts]
      by_cases hx : hexS (byl d) = s
      · have e2 : (!hexS (byl d) == s) = false := by simpa using hx
        rw [e2, cond_false, if_neg (by simp [hd, hx])]
      · have e2 : (!hexS (byl d) == s) = true := by simpa using hx
        rw [e2, cond_true, if_pos (.inr hx)]
  have L := loop_count (body := fun (r : List UInt8 × Int × List Int → Option (List UInt8 × Bool)) y => p_cmd_Bytes.b2 k (fun y => p_cmd_Bytes.j0 k y.1 y.2) r y.1 y.2.1 y.2.2) (res := some (if prs s (s.length / 2) = [] ∨ hexS (byl (prs s (s.length / 2))) ≠ s then ([], false) else (byl (prs s (s.length / 2)), true))) (s.length / 2) k
    (fun i => (s, ((2 * i : Nat) : Int), casts (prs s i))) (by omega) ?_ ?_
  · exact L
  · intro i hi rec
    dsimp only
    unfold p_cmd_Bytes.b2
    have ei : IntKind.wrap .i64 (((2 * i : Nat) : Int) + 1) = ((2 * i + 1 : Nat) : Int) := by rw [wrap_i64 (by omega)]; omega
    have ei2 : IntKind.wrap .i64 (((2 * i : Nat) : Int) + 2) = ((2 * (i + 1) : Nat) : Int) := by rw [wrap_i64 (by omega)]; omega
    have h1 : decide (((2 * i + 1 : Nat) : Int) < (s.length : Int)) = true := by simpa using (by omega : ((2 * i + 1 : Nat) : Int) < (s.length : Int))
    have ha := hm_lt s (2 * i)
    have hb := hm_lt s (2 * i + 1)
    have e4 : Max.max (hexv (byt s (2 * i))) 0 = ((hm s (2 * i) : Nat) : Int) := by unfold hm; omega
    have e5 : Max.max (hexv (byt s (2 * i + 1))) 0 = ((hm s (2 * i + 1) : Nat) : Int) := by unfold hm; omega
    have e6 : IntKind.wrap .u8 (IntKind.wrap .i64 (IntKind.wrap .i64 (16 * ((hm s (2 * i) : Nat) : Int)) + ((hm s (2 * i + 1) : Nat) : Int))) = ((16 * hm s (2 * i) + hm s (2 * i + 1) : Nat) : Int) := by
      rw [wrap_i64 (n := 16 * ((hm s (2 * i) : Nat) : Int)) (by omega), wrap_i64 (by omega), wrap_u8]; omega
    rw [ei, h1, cond_true, need_yes (by omega), ← DIG, IndexD, Option.bind_some, need_yes (by omega), IndexD, Option.bind_some, e4, e5, e6, tbD5, need_yes (by rw [casts_len, prs_len]; simp only [List.length_cons, List.length_nil]; omega), ei2, prs_succ]
    simp [casts]
  · intro rec
    dsimp only
    unfold p_cmd_Bytes.b2
    have ei : IntKind.wrap .i64 (((2 * (s.length / 2) : Nat) : Int) + 1) = ((2 * (s.length / 2) + 1 : Nat) : Int) := by rw [wrap_i64 (by omega)]; omega
    have h1 : decide (((2 * (s.length / 2) + 1 : Nat) : Int) < (s.length : Int)) = false := by simpa using (by omega : (s.length : Int) ≤ ((2 * (s.length / 2) + 1 : Nat) : Int))
    rw [ei, h1, cond_false]
    exact tail
theorem prs_hexL {d : List Nat} (hd : ∀ x ∈ d, x < 256) : prs (hexL d) d.length = d := by
  apply List.ext_getElem
  · simp [prs]
  · intro j h1 h2
    have hj : j < d.length := h2
    simp only [prs, List.getElem_map, List.getElem_range]
    have hb := hd d[j] (List.getElem_mem _)
    obtain ⟨a, b⟩ := byt_hexL (l := d) hj
    rw [hm, hm, a, b, hexv_back (by omega), hexv_back (by omega)]; omega
theorem bytR_hex {v : List UInt8} (hv : v ≠ []) : bytR (hexL (natsOf v)) = (v, true) := by
  have hl : (hexL (natsOf v)).length = 2 * v.length := by rw [hexL_len, natsOf_len]
  have h0 : 0 < v.length := List.length_pos_iff.2 hv
  have hp := prs_hexL (natsOf_lt v)
  rw [natsOf_len] at hp
  unfold bytR
  rw [if_neg (fun e => by rw [e] at hl; simp at hl; omega), hl, show 2 * v.length / 2 = v.length from by omega, hp, byl_natsOf]
  have hne : natsOf v ≠ [] := fun e => hv (by have := congrArg List.length e; rw [natsOf_len] at this; exact List.eq_nil_of_length_eq_zero this)
  rw [if_neg (by rw [hexS, if_neg hv]; simp [hne])]

/-! ### a reply's line -/
def may (e : Int) (v : List UInt8) : Bool := decide (0 ≤ e ∧ e ≤ 18 ∧ (e = 0 ∨ v = []))
def lineR (e : Nat) (v : List UInt8) : List UInt8 := decN e ++ (if v = [] then [] else 32 :: hexL (natsOf v))
theorem Check_eq (e : Int) (v : List UInt8) : p_reply_Check (e, v) = some (if may e v then 0 else 2) := by
  unfold p_reply_Check joinC
  dsimp only
  unfold p_reply_Check.j0
  by_cases h1 : e < 0
  · have hm : may e v = false := by simp only [may, decide_eq_false_iff_not]; omega
    have d1 : decide (e < 0) = true := by simpa using h1
    rw [hm, d1]; rfl
  have d1 : decide (e < 0) = false := by simpa using h1
  by_cases h2 : 18 < e
  · have hm : may e v = false := by simp only [may, decide_eq_false_iff_not]; omega
    have d2 : decide (e > 18) = true := by simpa using h2
    rw [hm, d1, d2]; rfl
  have d2 : decide (e > 18) = false := by simpa using (by omega : e ≤ 18)
  by_cases h3 : e = 0
  · have hm : may e v = true := by simp only [may, decide_eq_true_eq]; exact ⟨by omega, by omega, .inl h3⟩
    have d3 : (e != 0) = false := by simpa using h3
    rw [hm, d1, d2, d3]; rfl
  have d3 : (e != 0) = true := by simpa using h3
  by_cases h4 : v = []
  · have hm : may e v = true := by simp only [may, decide_eq_true_eq]; exact ⟨by omega, by omega, .inr h4⟩
    have d4 : (!v == []) = false := by simpa using h4
    rw [hm, d1, d2, d3, d4]; rfl
  · have hm : may e v = false := by simp only [may, decide_eq_false_iff_not]; rintro ⟨_, _, h | h⟩; exact h3 h; exact h4 h
    have d4 : (!v == []) = true := by simpa using h4
    rw [hm, d1, d2, d3, d4]; rfl
theorem May_eq (e : Int) (v : List UInt8) : p_dormouseref39_May (e, v) = some (may e v) := by
  unfold p_dormouseref39_May joinC
  dsimp only
  unfold p_dormouseref39_May.j0
  by_cases h1 : e < 0
  · have hm : may e v = false := by simp only [may, decide_eq_false_iff_not]; omega
    have d1 : decide (e ≥ 0) = false := by simpa using h1
    rw [hm, d1]; rfl
  have d1 : decide (e ≥ 0) = true := by simpa using h1
  by_cases h2 : 18 < e
  · have hm : may e v = false := by simp only [may, decide_eq_false_iff_not]; omega
    have d2 : decide (e ≤ 18) = false := by simpa using h2
    rw [hm, d1, d2]; rfl
  have d2 : decide (e ≤ 18) = true := by simpa using (by omega : e ≤ 18)
  by_cases h3 : e = 0
  · have hm : may e v = true := by simp only [may, decide_eq_true_eq]; exact ⟨by omega, by omega, .inl h3⟩
    have d3 : (e == 0) = true := by simpa using h3
    rw [hm, d1, d2, d3]; rfl
  have d3 : (e == 0) = false := by simpa using h3
  by_cases h4 : v = []
  · have hm : may e v = true := by simp only [may, decide_eq_true_eq]; exact ⟨by omega, by omega, .inr h4⟩
    have d4 : (v == []) = true := by simpa using h4
    rw [hm, d1, d2, d3, d4]; rfl
  · have hm : may e v = false := by simp only [may, decide_eq_false_iff_not]; rintro ⟨_, _, h | h⟩; exact h3 h; exact h4 h
    have d4 : (v == []) = false := by simpa using h4
    rw [hm, d1, d2, d3, d4]; rfl
theorem number_lo : (List.range 10).all (fun (n : Nat) => decide (p_reply_number (n : Int) = some [dig n])) = true := by decide +kernel
theorem number_hi : (List.range 19).all (fun (n : Nat) => decide (n < 10) || decide (p_reply_number (n : Int) = some [dig (n / 10), dig (n % 10)])) = true := by decide +kernel
theorem number_eq {n : Nat} (hn : n < 19) : p_reply_number (n : Int) = some (decN n) := by
  by_cases h : n < 10
  · have := List.all_eq_true.1 number_lo n (by simpa using h)
    rw [decN_lo h]; simpa using this
  · have := List.all_eq_true.1 number_hi n (by simpa using hn)
    rw [decN_hi h, decN_lo (by omega)]
    simpa [h] using this
theorem Text_eq {k : Nat} {e : Int} {v : List UInt8} (hk : v.length < k) (hv : v.length < 100000) : p_reply_Text k (e, v) = some (if may e v then (lineR e.toNat v, 0) else ([], 2)) := by
  unfold p_reply_Text joinC
  dsimp only
  rw [Check_eq, Option.bind_some]
  by_cases hm : may e v = true
  · have hmm := hm
    simp only [may, decide_eq_true_eq] at hmm
    obtain ⟨n, rfl⟩ : ∃ n : Nat, e = (n : Int) := ⟨e.toNat, by omega⟩
    have hn : n < 19 := by omega
    have hdl := decN_len20 (n := n) (by omega)
    have e1 : ((0 : Int) != 0) = false := rfl
    rw [if_pos hm, if_pos hm, e1, cond_false, number_eq hn, Option.bind_some]
    unfold lineR p_reply_Text.j0
    by_cases h0 : v = []
    · subst h0
      have e2 : (!([] : List UInt8) == []) = false := rfl
      rw [e2, cond_false, if_pos rfl, List.append_nil]; rfl
    · have e2 : (!v == []) = true := by simpa using h0
      have hl : (hexS v).length = 2 * v.length := by rw [hexS, if_neg h0, hexL_len, natsOf_len]
      rw [e2, cond_true, cmdHex_eq hk (by omega), Option.bind_some, need_yes (by omega), need_yes (by rw [List.length_append, hl]; simp only [List.length_cons, List.length_nil]; omega), if_neg h0, hexS, if_neg h0]
      rfl
  · have e1 : ((2 : Int) != 0) = true := rfl
    rw [if_neg hm, if_neg hm, e1, cond_true]
theorem Line_eq {k n : Nat} {v : List UInt8} (hk : 20 < k) (hkv : v.length < k) (hn : n < 19) (hv : v.length < 100000) : p_dormouseref39_Line k ((n : Int), v) = some (lineR n v) := by
  unfold p_dormouseref39_Line joinC
  dsimp only
  have e0 : IntKind.wrap .u64 (n : Int) = (n : Int) := by rw [wrap_u64]; omega
  have hdl := decN_len20 (n := n) (by omega)
  rw [e0, Digits20 hk (by omega), Option.bind_some]
  unfold lineR p_dormouseref39_Line.j0
  by_cases h0 : v = []
  · subst h0
    have e2 : (!([] : List UInt8) == []) = false := rfl
    rw [e2, cond_false, if_pos rfl, List.append_nil]
  · have e2 : (!v == []) = true := by simpa using h0
    have hx := refHex_eq (k := k) (d := natsOf v) (by rw [natsOf_len]; exact hkv) (by rw [natsOf_len]; omega) (natsOf_lt v)
    rw [byl_natsOf] at hx
    have hl : (hexL (natsOf v)).length = 2 * v.length := by rw [hexL_len, natsOf_len]
    rw [e2, cond_true, need_yes (by omega), hx, Option.bind_some, need_yes (by rw [List.length_append, hl]; simp only [List.length_cons, List.length_nil]; omega), if_neg h0]
    simp
end Go.Dor
