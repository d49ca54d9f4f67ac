/- THE LAWS OF KEYS, plain. -/
import Derived.Test.YtejhoahklkbgpaaNk
set_option linter.unusedVariables false
set_option linter.unusedSimpArgs false
namespace Go.Dor
open Go.Proofs

def okL (n : Nat) (d : List Nat) : Prop := d.length = n ∧ ∀ x ∈ d, x < 256
def ofN (a b : Nat) : List Nat := numL a 8 ++ List.replicate 16 0 ++ numL b 8
theorem ofN_len (a b : Nat) : (ofN a b).length = 32 := by simp [ofN, numL_len]
theorem ofN_ok (a b : Nat) : okL 32 (ofN a b) := by
  refine ⟨ofN_len a b, fun x hx => ?_⟩
  simp only [ofN, List.mem_append, List.mem_replicate] at hx
  rcases hx with (hx | hx) | hx
  · exact numL_lt _ _ x hx
  · omega
  · exact numL_lt _ _ x hx
theorem numsOf_numB (x n : Nat) : numsOf (numB x n) = casts (numL x n) := by rw [numB, numsOf_casts, natsOf_byl (numL_lt x n)]
theorem wideNum8 {k x : Nat} (hk : 8 < k) : p_wide_Num k (x : Int) 8 = some (numB x 8) := wideNum_eq (n := 8) hk (by omega)
theorem keyOf_eq {k a b : Nat} (hk : 8 < k) : p_key_Of k (a : Int) (b : Int) = some (vecN 32 (ofN a b)) := by
  have hz : dflt (T.int IntKind.u8) = (0 : Int) := rfl
  unfold p_key_Of
  rw [wideNum8 hk, Option.bind_some, need_yes (by rw [numsOf_len, numB_len]; decide), wideNum8 hk, Option.bind_some, need_yes (by rw [numsOf_len, numB_len]; decide), hz, numsOf_numB, numsOf_numB, repl_casts]
  have e1 := vcopy_vecN (n := 32) (lo := 0) (l := List.replicate 32 0) (xs := numL a 8) (by simp) (by rw [numL_len]; omega)
  have e2 := vcopy_vecN (n := 32) (lo := 24) (l := numL a 8 ++ List.replicate 24 0) (xs := numL b 8) (by simp [numL_len]) (by rw [numL_len]; omega)
  have q0 : ((0 : Nat) : Int) = 0 := rfl
  have q24 : ((24 : Nat) : Int) = 24 := rfl
  rw [q0] at e1
  rw [q24] at e2
  rw [e1]
  have f1 : (List.replicate 32 0).take 0 ++ numL a 8 ++ (List.replicate 32 0).drop (0 + (numL a 8).length) = numL a 8 ++ List.replicate 24 0 := by rw [numL_len]; simp
  rw [f1, e2]
  congr 2
theorem sub_casts (d : List Nat) (a b : Int) : sub_ (casts d) a b = casts (sub_ d a b) := by simp [sub_, casts]
theorem take_lt {d : List Nat} (hd : ∀ x ∈ d, x < 256) (i : Nat) : ∀ x ∈ d.take i, x < 256 := fun x h => hd x (List.mem_of_mem_take h)
theorem drop_lt {d : List Nat} (hd : ∀ x ∈ d, x < 256) (i : Nat) : ∀ x ∈ d.drop i, x < 256 := fun x h => hd x (List.mem_of_mem_drop h)
theorem split_c1 {k : Nat} {d : List Nat} {o : Nat} (hk : 8 < k) (hd : okL 32 d) (ho : o + 8 ≤ 32) : p_key_Split_c1 k (o : Int) (vecN 32 d) = some ((valL ((d.drop o).take 8) : Nat) : Int) := by
  unfold p_key_Split_c1
  have e : IntKind.wrap .i64 ((o : Int) + 8) = ((o + 8 : Nat) : Int) := by rw [wrap_i64 (by omega)]; omega
  have hs : sub_ d (o : Int) ((o + 8 : Nat) : Int) = (d.drop o).take 8 := by rw [sub_, Int.toNat_natCast, Int.toNat_natCast, List.take_drop, Nat.add_comm]
  rw [e, need_yes (by omega), toList_vecN hd.1, sub_casts, bytesOf_casts, hs, wideVal_eq hk (by rw [List.length_take, List.length_drop, hd.1]; omega) (take_lt (drop_lt hd.2 o) 8)]
  rfl
def va (d : List Nat) : Nat := valL (d.take 8)
def vb (d : List Nat) : Nat := valL (d.drop 24)
theorem va_lt {d : List Nat} (hd : okL 32 d) : va d < 18446744073709551616 := valL_lt (n := 8) (by rw [List.length_take]; omega) (take_lt hd.2 8)
theorem vb_lt {d : List Nat} (hd : okL 32 d) : vb d < 18446744073709551616 := valL_lt (n := 8) (by rw [List.length_drop, hd.1]; omega) (drop_lt hd.2 24)
theorem keySplit_eq {k : Nat} {d : List Nat} (hk : 8 < k) (hd : okL 32 d) : p_key_Split k (vecN 32 d) = some (if ofN (va d) (vb d) = d then (((va d : Nat) : Int), ((vb d : Nat) : Int), true) else (0, 0, false)) := by
  unfold p_key_Split
  have h0 := split_c1 (o := 0) hk hd (by omega)
  have h24 := split_c1 (o := 24) hk hd (by omega)
  have q0 : ((0 : Nat) : Int) = 0 := rfl
  have q24 : ((24 : Nat) : Int) = 24 := rfl
  rw [q0, List.drop_zero] at h0
  rw [q24, List.take_of_length_le (by rw [List.length_drop, hd.1]; omega)] at h24
  rw [h0, Option.bind_some, h24, Option.bind_some, keyOf_eq hk, Option.bind_some]
  by_cases h : ofN (va d) (vb d) = d
  · have e : (!decide (vecN 32 (ofN (valL (d.take 8)) (valL (d.drop 24))) = vecN 32 d)) = false := by
      have : ofN (valL (d.take 8)) (valL (d.drop 24)) = d := h
      rw [this]; simp
    rw [e, cond_false, if_pos h]; rfl
  · have e : (!decide (vecN 32 (ofN (valL (d.take 8)) (valL (d.drop 24))) = vecN 32 d)) = true := by
      have : ¬ vecN 32 (ofN (valL (d.take 8)) (valL (d.drop 24))) = vecN 32 d := fun q => h (vecN_inj (ofN_len _ _) hd.1 q)
      simp [this]
    rw [e, cond_true, if_neg h]
theorem va_ofN {a b : Nat} (ha : a < 18446744073709551616) : va (ofN a b) = a := by
  have : (ofN a b).take 8 = numL a 8 := by
    unfold ofN
    rw [List.append_assoc, List.take_append_of_le_length (by rw [numL_len]; omega), List.take_of_length_le (by rw [numL_len]; omega)]
  rw [va, this, valL_numL 8 a ha]
theorem vb_ofN {a b : Nat} (hb : b < 18446744073709551616) : vb (ofN a b) = b := by
  have : (ofN a b).drop 24 = numL b 8 := by
    unfold ofN
    have hl : (numL a 8 ++ List.replicate 16 0).length = 24 := by simp [numL_len]
    rw [← hl, List.drop_left]
  rw [vb, this, valL_numL 8 b hb]

/-- the text of a key -/
def txt (d : List Nat) : List UInt8 := if ofN (va d) (vb d) = d then decN (va d) ++ [46] ++ decN (vb d) else hexL d
theorem keyHex_eq {k : Nat} {d : List Nat} (hk : 32 < k) (hd : okL 32 d) :
    joinC (p_key_Text.j0 k) (fun (j128 : List Int → Option (List UInt8)) => loopC (fun (r : Vector Int 32 × Int × List Int → Option (List UInt8)) y => p_key_Text.b1 k j128 r y.1 y.2.1 y.2.2) k (vecN 32 d, (0 : Int), [])) = some (hexL d) :=
  sumHex_eq hk hd.1 hd.2
theorem keyText_eq {k : Nat} {d : List Nat} (hk : 32 < k) (hd : okL 32 d) : p_key_Text k (vecN 32 d) = some (txt d) := by
  unfold p_key_Text txt
  rw [keySplit_eq (by omega) hd, Option.bind_some]
  have ha := va_lt hd
  have hb := vb_lt hd
  by_cases h : ofN (va d) (vb d) = d
  · have la := decN_len20 ha
    have lb := decN_len20 hb
    rw [if_pos h, if_pos h]
    dsimp only
    rw [cond_true, decimal_eq (by omega) ha, Option.bind_some, need_yes (by omega), decimal_eq (by omega) hb, Option.bind_some, need_yes (by rw [List.length_append]; simp only [List.length_cons, List.length_nil]; omega)]
  · rw [if_neg h, if_neg h]
    dsimp only
    rw [cond_false]
    exact keyHex_eq hk hd

/-! ### the document's -/
theorem refBytes_eq {k : Nat} {d : List Nat} (hk : 32 < k) (hd : okL 32 d) : p_dormouseref16_Bytes k (vecN 32 d) = some (byl d) := by
  have hz : dflt (T.int IntKind.u8) = (0 : Int) := rfl
  unfold p_dormouseref16_Bytes joinC
  have L := loop_count (body := fun (r : List UInt8 × Int × Vector Int 32 → Option (List UInt8)) y => p_dormouseref16_Bytes.b1 k (p_dormouseref16_Bytes.j0 k) r y.1 y.2.1 y.2.2) (res := some (byl d)) 32 k
    (fun i => (byl (d.take i), (i : Int), vecN 32 d)) hk ?_ ?_
  · exact L
  · intro i hi rec
    dsimp only
    unfold p_dormouseref16_Bytes.b1
    have h1 : decide ((i : Int) < (32 : Int)) = true := by simpa using (by omega : (i : Int) < 32)
    have hid : i < d.length := by rw [hd.1]; exact hi
    have hg : d.getD i 0 = d[i] := by simp [hid]
    rw [h1, cond_true, need_yes (by omega), hz, at_vecN hi, hg, bytesOf_one, need_yes (by rw [byl_len, List.length_take]; simp only [List.length_cons, List.length_nil]; omega), wrap_i64 (by omega), List.take_succ_eq_append_getElem hid, byl_app]
    rfl
  · intro rec
    dsimp only
    unfold p_dormouseref16_Bytes.b1
    have h1 : decide (((32 : Nat) : Int) < (32 : Int)) = false := by decide
    rw [h1, cond_false, List.take_of_length_le (by rw [hd.1]; omega)]
    rfl
theorem refNum8 {k x : Nat} (hk : 8 < k) (hx : x < 18446744073709551616) : p_dormouseref01_Num k (x : Int) 8 = some (numB x 8) := refNum_eq (n := 8) hk (by omega) hx
theorem refOf16_eq {k a b : Nat} (hk : 8 < k) (ha : a < 18446744073709551616) (hb : b < 18446744073709551616) : p_dormouseref16_Of k (a : Int) (b : Int) = some (byl (ofN a b)) := by
  unfold p_dormouseref16_Of
  rw [refNum8 hk ha, Option.bind_some, need_yes (by rw [numB_len]; omega), refNum8 hk hb, Option.bind_some, need_yes (by rw [List.length_append, numB_len, numB_len]; simp only [List.length_cons, List.length_nil]; omega)]
  unfold ofN numB
  rw [byl_app, byl_app]
  rfl
theorem byl_sub (d : List Nat) (a b : Int) : sub_ (byl d) a b = byl (sub_ d a b) := by simp [sub_, byl]
theorem byl_inj {a b : List Nat} (ha : ∀ x ∈ a, x < 256) (hb : ∀ x ∈ b, x < 256) (h : byl a = byl b) : a = b := by
  rw [← natsOf_byl ha, ← natsOf_byl hb, h]
theorem refSplit_eq {k : Nat} {d : List Nat} (hk : 32 < k) (hd : okL 32 d) : p_dormouseref16_Split k (vecN 32 d) = some (if ofN (va d) (vb d) = d then (((va d : Nat) : Int), ((vb d : Nat) : Int), true) else (0, 0, false)) := by
  unfold p_dormouseref16_Split
  have hl : (byl d).length = 32 := by rw [byl_len, hd.1]
  have s0 : sub_ (byl d) 0 8 = byl (d.take 8) := by rw [byl_sub]; rfl
  have s24 : sub_ (byl d) 24 ((byl d).length : Int) = byl (d.drop 24) := by
    rw [byl_sub, hl]; unfold sub_
    rw [List.take_of_length_le (by rw [hd.1]; exact Nat.le_refl _)]; rfl
  rw [refBytes_eq hk hd, Option.bind_some, need_yes (by rw [hl]; omega), s0, refVal_eq (by omega) (by rw [List.length_take, hd.1]; rfl) (take_lt hd.2 8), Option.bind_some, need_yes (by rw [hl]; omega), s24,
    refVal_eq (by omega) (by rw [List.length_drop, hd.1]) (drop_lt hd.2 24), Option.bind_some]
  have ha := va_lt hd
  have hb := vb_lt hd
  have ho := refOf16_eq (k := k) (by omega) ha hb
  unfold va vb at ho
  rw [ho, Option.bind_some]
  by_cases h : ofN (va d) (vb d) = d
  · have e : (!byl (ofN (valL (d.take 8)) (valL (d.drop 24))) == byl d) = false := by
      have : ofN (valL (d.take 8)) (valL (d.drop 24)) = d := h
      rw [this]; simp
    rw [e, cond_false, if_pos h]; rfl
  · have e : (!byl (ofN (valL (d.take 8)) (valL (d.drop 24))) == byl d) = true := by
      have : ¬ byl (ofN (valL (d.take 8)) (valL (d.drop 24))) = byl d := fun q => h (byl_inj (ofN_ok _ _).2 hd.2 q)
      simpa using this
    rw [e, cond_true, if_neg h]
theorem refText16_eq {k : Nat} {d : List Nat} (hk : 32 < k) (hd : okL 32 d) : p_dormouseref16_Text k (vecN 32 d) = some (txt d) := by
  unfold p_dormouseref16_Text txt
  rw [refSplit_eq hk hd, Option.bind_some]
  have ha := va_lt hd
  have hb := vb_lt hd
  by_cases h : ofN (va d) (vb d) = d
  · have la := decN_len20 ha
    have lb := decN_len20 hb
    rw [if_pos h, if_pos h]
    dsimp only
    rw [cond_true, Digits20 (by omega) ha, Option.bind_some, need_yes (by omega), Digits20 (by omega) hb, Option.bind_some, need_yes (by rw [List.length_append]; simp only [List.length_cons, List.length_nil]; omega)]
  · rw [if_neg h, if_neg h]
    dsimp only
    rw [cond_false, refBytes_eq hk hd, Option.bind_some, refHex_eq (by rw [hd.1]; exact hk) (by rw [hd.1]; omega) hd.2, Option.bind_some]

/-! ### parsed -/
/-- a digit's number, nothing's is 0 -/
def hm (s : List UInt8) (i : Nat) : Nat := (max (hexv (byt s i)) 0).toNat
theorem hm_lt (s : List UInt8) (i : Nat) : hm s i < 16 := by
  unfold hm
  by_cases h : 0 ≤ hexv (byt s i)
  · have := (hexv_at (byt_lt s i) h).1; omega
  · omega
def pdN (s : List UInt8) (i : Nat) : List Nat := (List.range 32).map fun j => if 2 * j + 1 < i then 16 * hm s (2 * j) + hm s (2 * j + 1) else if 2 * j < i then hm s (2 * j) else 0
theorem pdN_len (s : List UInt8) (i : Nat) : (pdN s i).length = 32 := by simp [pdN]
theorem pdN_zero (s : List UInt8) : vecN 32 (pdN s 0) = vecN 32 [] := by
  apply Vector.ext
  intro j hj
  rw [vecN_get hj, vecN_get hj]
  simp [pdN, List.getD_eq_getElem?_getD, hj]
theorem pdN_at {s : List UInt8} {i : Nat} (hi : i < 64) : (pdN s i).getD (i / 2) 0 = if i % 2 = 0 then 0 else hm s (i - 1) := by
  have h2 : i / 2 < 32 := by omega
  simp only [pdN, List.getD_eq_getElem?_getD, List.getElem?_map, List.getElem?_range h2, Option.map_some, Option.getD_some]
  rcases Nat.mod_two_eq_zero_or_one i with h | h
  · rw [if_neg (by omega), if_neg (by omega), if_pos h]
  · rw [if_neg (by omega), if_pos (by omega), if_neg (by omega)]
    congr 1; omega
theorem pdN_succ {s : List UInt8} {i : Nat} (hi : i < 64) : (pdN s i).set (i / 2) (16 * (pdN s i).getD (i / 2) 0 + hm s i) = pdN s (i + 1) := by
  rw [pdN_at hi]
  apply List.ext_getElem
  · simp [pdN]
  · intro j h1 h2
    have hj : j < 32 := by simpa [pdN] using h2
    simp only [pdN, List.getElem_set, List.getElem_map, List.getElem_range]
    rcases Nat.mod_two_eq_zero_or_one i with h | h
    · rw [if_pos h]
      by_cases hij : i / 2 = j
      · rw [if_pos hij, if_neg (by omega), if_pos (by omega), Nat.mul_zero, Nat.zero_add]; congr 1; omega
      · rw [if_neg hij]
        by_cases h3 : 2 * j + 1 < i
        · rw [if_pos h3, if_pos (by omega)]
        · rw [if_neg h3, if_neg (by omega), if_neg (by omega), if_neg (by omega)]
    · rw [if_neg (show ¬ i % 2 = 0 by omega)]
      by_cases hij : i / 2 = j
      · rw [if_pos hij, if_pos (by omega)]
        have a1 : i - 1 = 2 * j := by omega
        have a2 : i = 2 * j + 1 := by omega
        rw [a1, a2]
      · rw [if_neg hij]
        by_cases h3 : 2 * j + 1 < i
        · rw [if_pos h3, if_pos (by omega)]
        · rw [if_neg h3, if_neg (by omega), if_neg (by omega), if_neg (by omega)]
theorem pdN_ok (s : List UInt8) (i : Nat) : okL 32 (pdN s i) := by
  refine ⟨pdN_len s i, fun x hx => ?_⟩
  simp only [pdN, List.mem_map, List.mem_range] at hx
  obtain ⟨j, hj, rfl⟩ := hx
  have a := hm_lt s (2 * j)
  have b := hm_lt s (2 * j + 1)
  split
  · omega
  · split <;> omega
theorem zero_ok : okL 32 (List.replicate 32 0) := ⟨by simp, fun x hx => by simp at hx; omega⟩

/-- the key that a text would be of -/
noncomputable def guess (s : List UInt8) : List Nat :=
  open Classical in
  if h : (46 : UInt8) ∈ s then ofN (numD (Classical.choose (cut_at h))) (numD (Classical.choose (Classical.choose_spec (cut_at h)))) else if s.length = 64 then pdN s 64 else List.replicate 32 0
theorem parse_j0 {k : Nat} {s : List UInt8} {d : List Nat} {v : Vector Int 32} (hk : 64 < k) (hd : okL 32 d) : p_key_Parse.j0 k s v (vecN 32 d) = some (if txt d = s then (vecN 32 d, 0) else (vecN 32 [], 6)) := by
  unfold p_key_Parse.j0
  rw [keyText_eq (by omega) hd, Option.bind_some]
  by_cases h : txt d = s
  · have e : (!txt d == s) = false := by simpa using h
    rw [e, cond_false, if_pos h]
  · have e : (!txt d == s) = true := by simpa using h
    rw [e, cond_true, if_neg h, ← repl_vecN]; rfl
theorem guess_ok (s : List UInt8) : okL 32 (guess s) := by
  unfold guess
  split
  · exact ofN_ok _ _
  · split
    · exact pdN_ok _ _
    · exact zero_ok
theorem parse_eq {k : Nat} {s : List UInt8} (hk : 300 < k) (hs : s.length ≤ 250) : p_key_Parse k s = some (if txt (guess s) = s then (vecN 32 (guess s), 0) else (vecN 32 [], 6)) := by
  unfold p_key_Parse joinC
  have hz : dflt (T.int IntKind.u8) = (0 : Int) := rfl
  dsimp only
  by_cases h : (46 : UInt8) ∈ s
  · have hg : guess s = ofN (numD (Classical.choose (cut_at h))) (numD (Classical.choose (Classical.choose_spec (cut_at h)))) := by unfold guess; rw [dif_pos h]
    have hsp := Classical.choose_spec (Classical.choose_spec (cut_at h))
    generalize Classical.choose (Classical.choose_spec (cut_at h)) = b at *
    generalize Classical.choose (cut_at h) = a at *
    obtain ⟨rfl, hna⟩ := hsp
    have hlen : (a ++ 46 :: b).length = a.length + b.length + 1 := by simp; omega
    rw [Cut_app hna (by omega), Option.bind_some]
    dsimp only
    rw [cond_true, number_eq (by omega) (by omega), Option.bind_some, number_eq (by omega) (by omega), Option.bind_some, keyOf_eq (by omega), Option.bind_some, hg]
    exact parse_j0 (by omega) (ofN_ok _ _)
  · rw [Cut_not h, Option.bind_some]
    dsimp only
    rw [cond_false]
    by_cases h64 : s.length = 64
    · have hg : guess s = pdN s 64 := by unfold guess; rw [dif_neg h, if_pos h64]
      have e1 : ((s.length : Int) == 64) = true := by rw [h64]; rfl
      rw [e1, cond_true, hg, hz, repl_vecN]
      have L := loop_count (body := fun (r : List UInt8 × Int × Int × Vector Int 32 × Vector Int 32 → Option (Vector Int 32 × Int)) y => p_key_Parse.b1 k (fun y => p_key_Parse.j0 k y.1 y.2.1 y.2.2) r y.1 y.2.1 y.2.2.1 y.2.2.2.1 y.2.2.2.2) (res := some (if txt (pdN s 64) = s then (vecN 32 (pdN s 64), 0) else (vecN 32 [], 6))) 64 k
        (fun i => (s, (s.length : Int), (i : Int), vecN 32 [], vecN 32 (pdN s i))) (by omega) ?_ ?_
      · rw [pdN_zero] at L
        exact L
      · intro i hi rec
        dsimp only
        unfold p_key_Parse.b1
        have h1 : decide ((i : Int) < (s.length : Int)) = true := by rw [h64]; simpa using (by omega : (i : Int) < 64)
        have e3 : IntKind.wrap .i64 (Int.tdiv (i : Int) 2) = ((i / 2 : Nat) : Int) := by rw [Int.tdiv_eq_ediv_of_nonneg (by omega), wrap_i64 (by omega)]; omega
        have hvl := hm_lt s i
        have hat := pdN_at (s := s) hi
        have hal : (pdN s i).getD (i / 2) 0 < 16 := by
          rw [hat]; split
          · omega
          · exact hm_lt _ _
        have e4 : Max.max (hexv (byt s i)) 0 = ((hm s i : Nat) : Int) := by unfold hm; omega
        have hsucc := pdN_succ (s := s) hi
        have hset := pdN_len s i
        rw [h1, cond_true, need_yes (by omega), ← DIG, index_eq, Option.bind_some, e3, need_yes (by omega), need_yes (by omega), hz, at_vecN (by omega), e4, nib_or hal hvl, vset_vecN2 (by omega), hsucc, wrap_i64 (by omega)]
        rfl
      · intro rec
        dsimp only
        unfold p_key_Parse.b1
        have h1 : decide (((64 : Nat) : Int) < (s.length : Int)) = false := by rw [h64]; decide
        rw [h1, cond_false]
        exact parse_j0 (by omega) (pdN_ok s 64)
    · have hg : guess s = List.replicate 32 0 := by unfold guess; rw [dif_neg h, if_neg h64]
      have e1 : ((s.length : Int) == 64) = false := by simp only [beq_eq_false_iff_ne, ne_eq]; omega
      rw [e1, cond_false, hg, hz, repl_casts]
      exact parse_j0 (by omega) zero_ok

/-- a key's text tells the key -/
theorem cut_one {a b c d : List UInt8} (h : a ++ 46 :: b = c ++ 46 :: d) (ha : (46 : UInt8) ∉ a) (hc : (46 : UInt8) ∉ c) : a = c ∧ b = d := by
  induction a generalizing c with
  | nil =>
    cases c with
    | nil => simp at h; exact ⟨rfl, h⟩
    | cons x c => simp at h; exact absurd h.1.symm (by simp at hc; exact fun e => hc.1 e.symm)
  | cons y a ih =>
    cases c with
    | nil => simp at h; exact absurd h.1 (by simp at ha; exact fun e => ha.1 e.symm)
    | cons x c =>
      simp at h ha hc
      obtain ⟨h1, h2⟩ := ih h.2 ha.2 hc.2
      exact ⟨by rw [h.1, h1], h2⟩
theorem hm_hexL {d : List Nat} (hd : okL 32 d) : pdN (hexL d) 64 = d := by
  apply List.ext_getElem
  · simp [pdN, hd.1]
  · intro j h1 h2
    have hj : j < 32 := by simpa [pdN] using h1
    simp only [pdN, List.getElem_map, List.getElem_range]
    have hb := hd.2 d[j] (List.getElem_mem _)
    obtain ⟨a, b⟩ := byt_hexL (l := d) (j := j) (by rw [hd.1]; exact hj)
    rw [if_pos (by omega), hm, hm, a, b, hexv_back (by omega), hexv_back (by omega)]; omega
theorem guess_txt {d : List Nat} (hd : okL 32 d) : guess (txt d) = d := by
  unfold txt
  by_cases h : ofN (va d) (vb d) = d
  · rw [if_pos h]
    have hin : (46 : UInt8) ∈ decN (va d) ++ [46] ++ decN (vb d) := by simp
    unfold guess
    rw [dif_pos hin]
    have hsp := Classical.choose_spec (Classical.choose_spec (cut_at hin))
    generalize Classical.choose (Classical.choose_spec (cut_at hin)) = b at *
    generalize Classical.choose (cut_at hin) = a at *
    obtain ⟨e, hna⟩ := hsp
    have e : decN (va d) ++ 46 :: decN (vb d) = a ++ 46 :: b := by rw [← e]; simp
    obtain ⟨rfl, rfl⟩ := cut_one e (decN_dot _) hna
    rw [numD_decN _ (va_lt hd), numD_decN _ (vb_lt hd), h]
  · rw [if_neg h]
    have hn := hexL_dot hd.2
    unfold guess
    rw [dif_neg hn, if_pos (by rw [hexL_len, hd.1]), hm_hexL hd]
theorem txt_len {d : List Nat} (hd : okL 32 d) : (txt d).length ≤ 64 := by
  unfold txt
  split
  · have := decN_len20 (va_lt hd)
    have := decN_len20 (vb_lt hd)
    simp only [List.length_append, List.length_cons, List.length_nil]; omega
  · rw [hexL_len, hd.1]; exact Nat.le_refl _

theorem nat_int {k : IntKind} (hk : k.min = 0) {n : Int} (h : okD (.int k) n) : ∃ m : Nat, n = (m : Int) ∧ (m : Int) ≤ k.max := by
  have h : (Lit.int k n).wf = true := h
  simp only [Lit.wf, Bool.and_eq_true, decide_eq_true_eq, hk] at h
  exact ⟨n.toNat, by omega, by omega⟩

theorem law_KeyTexts (x : Vector Int 32) (a s : Int) (hx : okD (.arr 32 (.int .u8)) x) (ha : okD (.int .u64) a) (hs : okD (.int .u64) s) : p_dormouselaw16_KeyTexts 1000 x a s = some true := by
  obtain ⟨d, rfl, hdl, hdx⟩ := vec_nats x hx
  have hd : okL 32 d := ⟨hdl, hdx⟩
  obtain ⟨a, rfl, ha'⟩ := nat_int rfl ha
  obtain ⟨s, rfl, hs'⟩ := nat_int rfl hs
  have hm : IntKind.max .u64 = 18446744073709551615 := rfl
  rw [hm] at ha' hs'
  have hg := guess_txt hd
  have hl := txt_len hd
  unfold p_dormouselaw16_KeyTexts joinC
  rw [keyText_eq (by omega) hd, Option.bind_some, parse_eq (by omega) (by omega), Option.bind_some, keySplit_eq (by omega) hd, Option.bind_some, refSplit_eq (by omega) hd, Option.bind_some, keyOf_eq (by omega), Option.bind_some, keySplit_eq (by omega) (ofN_ok a s), Option.bind_some, va_ofN (by omega), vb_ofN (by omega), if_pos rfl, hg, if_pos rfl]
  dsimp only
  rw [awake16, Option.bind_some, cond_true, Option.bind_some, refText16_eq (by omega) hd, Option.bind_some]
  generalize (if ofN (va d) (vb d) = d then (((va d : Nat) : Int), ((vb d : Nat) : Int), true) else (0, 0, false)) = q
  have e1 : (txt d == txt d) = true := by simp
  have e2 : decide (vecN 32 d = vecN 32 d) = true := by simp
  have e3 : ((0 : Int) == 0) = true := rfl
  have e4 : (q.1 == q.1) = true := by simp
  have e5 : (q.2.1 == q.2.1) = true := by simp
  have e6 : (q.2.2 == q.2.2) = true := by simp
  have e7 : (byl (ofN a s) == byl (ofN a s)) = true := by simp
  have e8 : ((a : Int) == (a : Int)) = true := by simp
  have e9 : ((s : Int) == (s : Int)) = true := by simp
  rw [e1, cond_true, e2, cond_true, e3, cond_true, e4, cond_true, e5, cond_true, e6, cond_true, refBytes_eq (by omega) (ofN_ok a s), Option.bind_some, refOf16_eq (by omega) (by omega) (by omega), Option.bind_some, e7, cond_true, e8, cond_true, e9, cond_true]
  rfl

theorem law_KeyParses (s : List UInt8) : p_dormouselaw16_KeyParses 1000 s = some true := by
  unfold p_dormouselaw16_KeyParses
  by_cases h1 : (s.length : Int) > 200
  · have e1 : decide ((s.length : Int) > 200) = true := by simpa using h1
    rw [e1, cond_true, awake16]; rfl
  · have e1 : decide ((s.length : Int) > 200) = false := by simpa using h1
    rw [e1, cond_false, parse_eq (by omega) (by omega), Option.bind_some]
    by_cases h : txt (guess s) = s
    · have e2 : ((0 : Int) != 0) = false := rfl
      rw [if_pos h]
      dsimp only
      unfold joinC
      rw [e2, cond_false, awake16]
      dsimp only
      rw [Option.bind_some, cond_true, refText16_eq (by omega) (guess_ok s), Option.bind_some, h]
      unfold p_dormouselaw16_KeyParses.j1
      simp
    · have e2 : ((6 : Int) != 0) = true := rfl
      have e3 : ((6 : Int) == 6) = true := rfl
      have hb0 : bparts 32 (dflt (T.int IntKind.u8)) [] = vecN 32 [] := by rw [← repl_vecN]; rfl
      have e4 : decide (vecN 32 [] = vecN 32 []) = true := by simp
      rw [if_neg h]
      dsimp only
      unfold joinC
      rw [e2, cond_true, awake16]
      dsimp only
      rw [Option.bind_some, cond_true, hb0, e4, cond_true, e3]
      rfl
end Go.Dor
