/- THE LAW OF SUMS READ, plain. -/
import Derived.Test.YtejhoahklkbgpaaNi
import Derived.Test.YtejhoahklkbgpaaWb
import Derived.Test.YtejhoahklkbgpaaZl
set_option linter.unusedVariables false
set_option linter.unusedSimpArgs false
namespace Go.Dor
open Go.Proofs

def DIG : List UInt8 := [(48 : UInt8), (49 : UInt8), (50 : UInt8), (51 : UInt8), (52 : UInt8), (53 : UInt8), (54 : UInt8), (55 : UInt8), (56 : UInt8), (57 : UInt8), (97 : UInt8), (98 : UInt8), (99 : UInt8), (100 : UInt8), (101 : UInt8), (102 : UInt8)]
def dig (n : Nat) : UInt8 := DIG.getD n 0
/-- a digit's number, or less than nothing -/
def hexv (c : Nat) : Int := indexByteOf DIG (c : Int)
def hexck (n : Nat) : Bool := decide (hexv n < 0) || (decide (0 ≤ hexv n) && decide (hexv n < 16) && (dig (hexv n).toNat == UInt8.ofNat n))
theorem hexck_all : (List.range 256).all hexck = true := by decide +kernel
theorem hexv_dig : (List.range 16).all (fun n => decide (hexv (dig n).toNat = (n : Int))) = true := by decide +kernel
theorem hexv_back {n : Nat} (hn : n < 16) : hexv (dig n).toNat = (n : Int) := by
  have := List.all_eq_true.1 hexv_dig n (by simpa using hn)
  simpa using this
theorem hexv_at {n : Nat} (hn : n < 256) (h : 0 ≤ hexv n) : hexv n < 16 ∧ dig (hexv n).toNat = UInt8.ofNat n := by
  have := List.all_eq_true.1 hexck_all n (by simpa using hn)
  simp only [hexck, Bool.or_eq_true, Bool.and_eq_true, decide_eq_true_eq, beq_iff_eq] at this
  rcases this with h1 | ⟨⟨_, h2⟩, h3⟩
  · omega
  · exact ⟨h2, h3⟩

def hexL (l : List Nat) : List UInt8 := l.flatMap fun c => [dig (c / 16), dig (c % 16)]
theorem hexL_len (l : List Nat) : (hexL l).length = 2 * l.length := by
  induction l with
  | nil => rfl
  | cons a l ih => simp only [hexL, List.flatMap_cons, List.length_append, List.length_cons, List.length_nil] at *; omega
theorem hexL_take {l : List Nat} {i : Nat} (hi : i < l.length) : hexL (l.take (i + 1)) = hexL (l.take i) ++ [dig (l[i] / 16), dig (l[i] % 16)] := by
  unfold hexL; rw [List.take_succ_eq_append_getElem hi, List.flatMap_append]; simp
theorem hexL_get {l : List Nat} : ∀ {i : Nat} (hi : i < l.length), (hexL l).getD (2 * i) 0 = dig (l[i] / 16) ∧ (hexL l).getD (2 * i + 1) 0 = dig (l[i] % 16) := by
  induction l with
  | nil => intro i hi; simp at hi
  | cons a l ih =>
    intro i hi
    cases i with
    | zero => exact ⟨rfl, rfl⟩
    | succ i => exact ih (i := i) (by simpa using hi)

theorem dig_bat {n : Nat} : bat DIG (n : Int) = ((dig n).toNat : Int) := by simp [bat, dig]
theorem bytes_two (a b : Nat) : bytesOf [(a : Int), (b : Int)] = [UInt8.ofNat a, UInt8.ofNat b] := rfl

theorem sumHex_eq {k : Nat} {d : List Nat} (hk : 32 < k) (hl : d.length = 32) (hd : ∀ x ∈ d, x < 256) : p_sum_Hex k (vecN 32 d) = some (hexL d) := by
  have hz : dflt (T.int IntKind.u8) = (0 : Int) := rfl
  unfold p_sum_Hex joinC
  have L := loop_count (body := fun (r : Vector Int (32) × Int × List Int → Option (List UInt8)) y => p_sum_Hex.b1 k (p_sum_Hex.j0 k) r y.1 y.2.1 y.2.2) (res := some (hexL d)) 32 k
    (fun i => (vecN 32 d, (i : Int), numsOf (hexL (d.take i)))) hk ?_ ?_
  · exact L
  · intro i hi rec
    dsimp only
    unfold p_sum_Hex.b1
    have h1 : decide ((i : Int) < (32 : Int)) = true := by simpa using (by omega : (i : Int) < 32)
    have hid : i < d.length := by omega
    have hg : d.getD i 0 = d[i] := by simp [hid]
    have hlt := hd d[i] (List.getElem_mem hid)
    have hlen : (hexL (d.take i)).length = 2 * i := by rw [hexL_len, List.length_take]; omega
    have ht := hexL_take hid
    rw [h1, cond_true, need_yes (by omega), hz, at_vecN hi, hg]
    generalize d[i] = c at *
    have e1 : ishr .u8 (c : Int) 4 = ((c / 16 : Nat) : Int) := by
      have := shr_nat (k := .u8) (a := c) (n := 4) (by show 4 ≤ 8; omega)
      simpa using this
    have e2 : iand .u8 (c : Int) 15 = ((c % 16 : Nat) : Int) := by
      have := and_nat (k := .u8) (a := c) (b := 15) rfl (by show c < 256; omega) (by show 15 < 256; omega)
      have h2 : c &&& 15 = c % 16 := Nat.and_two_pow_sub_one_eq_mod _ 4
      rw [h2] at this
      exact this
    rw [e1, e2, need_yes (by omega), need_yes (by omega), ← DIG, dig_bat, dig_bat, tb5, need_yes (by rw [numsOf_len, hlen]; simp only [List.length_cons, List.length_nil]; omega), wrap_i64 (by omega), ht, numsOf_app]
    rfl
  · intro rec
    dsimp only
    unfold p_sum_Hex.b1
    have h1 : decide (((32 : Nat) : Int) < (32 : Int)) = false := by decide
    rw [h1, cond_false, List.take_of_length_le (by omega)]
    unfold p_sum_Hex.j0
    rw [bytesOf_numsOf]

theorem byl_getD {d : List Nat} {i : Nat} (hi : i < d.length) (hd : ∀ x ∈ d, x < 256) : bat (byl d) (i : Int) = ((d[i] : Nat) : Int) := by
  have := hd d[i] (List.getElem_mem hi)
  simp [bat, byl, hi]; omega
theorem sub_one {n : Nat} (hn : n < 16) : sub_ DIG (n : Int) ((n + 1 : Nat) : Int) = [dig n] := by
  unfold sub_ dig
  rw [Int.toNat_natCast, Int.toNat_natCast]
  have : (List.range 16).all (fun n => decide ((DIG.take (n + 1)).drop n = [DIG.getD n 0])) = true := by decide
  have := List.all_eq_true.1 this n (by simpa using hn)
  simpa using this
theorem refHex_eq {k : Nat} {d : List Nat} (hk : d.length < k) (hl : d.length < 1000000) (hd : ∀ x ∈ d, x < 256) : p_dormouseref03_Hex k (byl d) = some (hexL d) := by
  unfold p_dormouseref03_Hex joinC
  rw [← DIG]
  have L := loop_count (body := fun (r : List UInt8 × List UInt8 × List UInt8 × Int → Option (List UInt8)) y => p_dormouseref03_Hex.b1 k (p_dormouseref03_Hex.j0 k) r y.1 y.2.1 y.2.2.1 y.2.2.2) (res := some (hexL d)) d.length k
    (fun i => (byl d, DIG, hexL (d.take i), (i : Int))) hk ?_ ?_
  · exact L
  · intro i hi rec
    dsimp only
    unfold p_dormouseref03_Hex.b1
    have h1 : decide ((i : Int) < ((byl d).length : Int)) = true := by rw [byl_len]; simpa using hi
    have hlt := hd d[i] (List.getElem_mem hi)
    have hlen : (hexL (d.take i)).length = 2 * i := by rw [hexL_len, List.length_take]; omega
    have ht := hexL_take hi
    have hdl : DIG.length = 16 := rfl
    rw [h1, cond_true, need_yes (by rw [byl_len]; omega), byl_getD hi hd]
    generalize d[i] = c at *
    have e0 : IntKind.wrap .i64 (c : Int) = (c : Int) := wrap_i64 (by omega)
    have e1 : IntKind.wrap .i64 (Int.tdiv (c : Int) 16) = ((c / 16 : Nat) : Int) := by rw [Int.tdiv_eq_ediv_of_nonneg (by omega), wrap_i64 (by omega)]; omega
    have e2 : Int.tmod (c : Int) 16 = ((c % 16 : Nat) : Int) := by rw [Int.tmod_eq_emod_of_nonneg (by omega)]; omega
    have e3 : IntKind.wrap .i64 (((c / 16 : Nat) : Int) + 1) = ((c / 16 + 1 : Nat) : Int) := by rw [wrap_i64 (by omega)]; omega
    have e4 : IntKind.wrap .i64 (((c % 16 : Nat) : Int) + 1) = ((c % 16 + 1 : Nat) : Int) := by rw [wrap_i64 (by omega)]; omega
    have s1 := sub_one (n := c / 16) (by omega)
    have s2 := sub_one (n := c % 16) (by omega)
    rw [e0, e1, e2, e3, e4, s1, s2, need_yes (by rw [hdl]; omega), need_yes (by rw [hlen]; simp only [List.length_cons, List.length_nil]; omega), need_yes (by rw [hdl]; omega), need_yes (by rw [List.length_append, hlen]; simp only [List.length_cons, List.length_nil]; omega), wrap_i64 (by omega), ht]
    rw [List.append_assoc]
    rfl
  · intro rec
    dsimp only
    unfold p_dormouseref03_Hex.b1
    have h1 : decide ((d.length : Int) < ((byl d).length : Int)) = false := by rw [byl_len]; simp
    rw [h1, cond_false, List.take_length]
    rfl

/-! ### reading digits -/
def hv (s : List UInt8) (i : Nat) : Nat := (hexv (byt s i)).toNat
/-- the bytes that are read behind i digits -/
def rdN (s : List UInt8) (i : Nat) : List Nat := (List.range 32).map fun j => if 2 * j + 1 < i then 16 * hv s (2 * j) + hv s (2 * j + 1) else if 2 * j < i then hv s (2 * j) else 0
theorem rdN_len (s : List UInt8) (i : Nat) : (rdN s i).length = 32 := by simp [rdN]
theorem rdN_zero (s : List UInt8) : vecN 32 (rdN s 0) = vecN 32 [] := by
  apply Vector.toArray_inj.1
  apply Array.toList_inj.1
  apply List.ext_getElem
  · simp [vecN]
  · intro j h1 h2
    simp only [vecN, rdN, Vector.toList_ofFn, List.getElem_ofFn, List.getD_eq_getElem?_getD, List.getElem?_map, Nat.not_lt_zero, if_false]
    cases (List.range 32)[j]? <;> rfl
def rdOk (s : List UInt8) (i : Nat) : Prop := ∀ j, j < i → 0 ≤ hexv (byt s j)
theorem hv_lt {s : List UInt8} {i : Nat} (h : 0 ≤ hexv (byt s i)) : hv s i < 16 := by
  have := (hexv_at (byt_lt s i) h).1
  unfold hv; omega
theorem rdN_at {s : List UInt8} {i : Nat} (hi : i < 64) (ho : rdOk s i) : (rdN s i).getD (i / 2) 0 = if i % 2 = 0 then 0 else hv s (i - 1) := by
  have h2 : i / 2 < 32 := by omega
  simp only [rdN, List.getD_eq_getElem?_getD, List.getElem?_map, List.getElem?_range h2, Option.map_some, Option.getD_some]
  rcases Nat.mod_two_eq_zero_or_one i with h | h
  · rw [if_neg (by omega), if_neg (by omega), if_pos h]
  · rw [if_neg (by omega), if_pos (by omega), if_neg (by omega)]
    congr 1; omega
theorem rdN_succ {s : List UInt8} {i : Nat} (hi : i < 64) (ho : rdOk s (i + 1)) : (rdN s i).set (i / 2) (16 * (rdN s i).getD (i / 2) 0 + hv s i) = rdN s (i + 1) := by
  rw [rdN_at hi fun j hj => ho j (by omega)]
  apply List.ext_getElem
  · simp [rdN]
  · intro j h1 h2
    have hj : j < 32 := by simpa [rdN] using h2
    simp only [rdN, List.getElem_set, List.getElem_map, List.getElem_range]
    rcases Nat.mod_two_eq_zero_or_one i with h | h
    · rw [if_pos h]
      by_cases hij : i / 2 = j
      · rw [if_pos hij, if_neg (by omega), if_pos (by omega), Nat.mul_zero, Nat.zero_add]; congr 1; omega
      · rw [if_neg hij]
        by_cases h3 : 2 * j + 1 < i
        · rw [if_pos h3, if_pos (by omega)]
        · rw [if_neg h3, if_neg (by omega), if_neg (by omega), if_neg (by omega)]
    · rw [if_neg (show ¬ i % 2 = 0 by omega)]
      by_cases hij : i / 2 = j
      · rw [if_pos hij, if_pos (by omega)]
        have a1 : i - 1 = 2 * j := by omega
        have a2 : i = 2 * j + 1 := by omega
        rw [a1, a2]
      · rw [if_neg hij]
        by_cases h3 : 2 * j + 1 < i
        · rw [if_pos h3, if_pos (by omega)]
        · rw [if_neg h3, if_neg (by omega), if_neg (by omega), if_neg (by omega)]

theorem nib_or {a b : Nat} (ha : a < 16) (hb : b < 16) : ior .u8 (ishl .u8 (a : Int) 4) (IntKind.wrap .u8 (b : Int)) = ((16 * a + b : Nat) : Int) := by
  have h1 := shl_nat (k := .u8) (a := a) (n := 4) rfl (by show 4 ≤ 8; omega)
  simp only [Int.cast_ofNat_Int] at h1
  have e8 : 2 ^ IntKind.bits .u8 = 256 := rfl
  have p4 : (2 : Nat) ^ 4 = 16 := rfl
  rw [e8, p4, Nat.mod_eq_of_lt (by omega)] at h1
  rw [h1, low8', Nat.mod_eq_of_lt (by omega), or_nat (k := .u8) rfl (by rw [e8]; omega) (by rw [e8]; omega), or_lit (c := a) 4 rfl (by omega) (by omega)]
  congr 1; omega

theorem read_short {k : Nat} {s : List UInt8} (h : s.length ≠ 64) : p_sum_Read k s = some (vecN 32 [], 6) := by
  unfold p_sum_Read
  have e : ((s.length : Int) != 64) = true := by simp only [bne_iff_ne, ne_eq]; omega
  rw [e, cond_true, ← repl_vecN]
  rfl

noncomputable def readR (s : List UInt8) : Vector Int 32 × Int := open Classical in if rdOk s 64 then (vecN 32 (rdN s 64), 0) else (vecN 32 [], 6)
theorem index_eq {s : List UInt8} {i : Nat} : p_strings_IndexByte DIG (bat s (i : Int)) = some (hexv (byt s i)) := by
  unfold p_strings_IndexByte p_stringslite_IndexByte
  rw [bat_byt]
  rfl
theorem read_full {k : Nat} {s : List UInt8} (hk : 64 < k) (h : s.length = 64) : p_sum_Read k s = some (readR s) := by
  unfold p_sum_Read
  have e : ((s.length : Int) != 64) = false := by rw [h]; rfl
  have hz : dflt (T.int IntKind.u8) = (0 : Int) := rfl
  rw [e, cond_false, hz, repl_vecN]
  unfold joinC
  refine loop_inv (fun y => ∃ i : Nat, i ≤ 64 ∧ y = (s, (s.length : Int), (i : Int), vecN 32 [], vecN 32 (rdN s i)) ∧ rdOk s i) (fun y => 64 - y.2.2.1.toNat) (fun r => r = some (readR s)) ?_ k _ ⟨0, by omega, by rw [rdN_zero]; rfl, fun j hj => by omega⟩ ?_
  · rintro y ⟨i, hi, rfl, ho⟩ rec hrec
    dsimp only
    unfold p_sum_Read.b1
    by_cases hi2 : i < 64
    · have h1 : decide ((i : Int) < (s.length : Int)) = true := by rw [h]; simpa using (by omega : (i : Int) < 64)
      rw [h1, cond_true, need_yes (by omega), ← DIG, index_eq, Option.bind_some]
      by_cases hv0 : hexv (byt s i) < 0
      · have e2 : decide (hexv (byt s i) < 0) = true := by simpa using hv0
        rw [e2, cond_true]
        have hno : ¬ rdOk s 64 := fun hh => by have := hh i hi2; omega
        unfold readR
        rw [if_neg hno, ← repl_vecN]
        rfl
      · have e2 : decide (hexv (byt s i) < 0) = false := by simpa using hv0
        have ho' : rdOk s (i + 1) := fun j hj => by
          by_cases hji : j = i
          · subst hji; omega
          · exact ho j (by omega)
        have hvl := hv_lt (s := s) (i := i) (by omega)
        have e3 : IntKind.wrap .i64 (Int.tdiv (i : Int) 2) = ((i / 2 : Nat) : Int) := by rw [Int.tdiv_eq_ediv_of_nonneg (by omega), wrap_i64 (by omega)]; omega
        have hat := rdN_at hi2 ho
        have hal : (rdN s i).getD (i / 2) 0 < 16 := by
          rw [hat]; split
          · omega
          · exact hv_lt (ho _ (by omega))
        have e4 : hexv (byt s i) = ((hv s i : Nat) : Int) := by unfold hv; omega
        have hsucc := rdN_succ hi2 ho'
        have hset := rdN_len s i
        rw [e2, cond_false, e3, need_yes (by omega), need_yes (by omega), hz, at_vecN (by omega), e4, nib_or hal hvl, vset_vecN2 (by omega), hsucc, wrap_i64 (by omega)]
        refine hrec _ ⟨i + 1, hi2, rfl, ho'⟩ ?_
        show 64 - ((i : Int) + 1).toNat < 64 - (i : Int).toNat
        omega
    · have hi3 : i = 64 := by omega
      subst hi3
      have h1 : decide (((64 : Nat) : Int) < (s.length : Int)) = false := by rw [h]; decide
      rw [h1, cond_false]
      unfold readR
      rw [if_pos ho]
      rfl
  · show 64 - (0 : Int).toNat < k
    omega

/-- what is read has its digits -/
theorem two_by_two {s : List UInt8} : ∀ (n : Nat), s.length = 2 * n → ((List.range n).flatMap fun j => [s.getD (2 * j) 0, s.getD (2 * j + 1) 0]) = s := by
  intro n
  induction n generalizing s with
  | zero => intro h; simp at h; simp [h]
  | succ n ih =>
    intro h
    match s, h with
    | a :: b :: s, h =>
      have := ih (s := s) (by simp at h; omega)
      rw [List.range_succ_eq_map, List.flatMap_cons, List.flatMap_map]
      have e : (fun j => [(a :: b :: s).getD (2 * Nat.succ j) 0, (a :: b :: s).getD (2 * Nat.succ j + 1) 0]) = fun j => [s.getD (2 * j) 0, s.getD (2 * j + 1) 0] := by
        funext j
        rw [show 2 * j.succ = 2 * j + 2 from rfl]
        rfl
      exact congrArg (fun z => [a, b] ++ z) ((congrArg (fun f => List.flatMap f (List.range n)) e).trans this)
theorem hv_dig {s : List UInt8} {i : Nat} (h : 0 ≤ hexv (byt s i)) : dig (hv s i) = s.getD i 0 := by
  have := (hexv_at (byt_lt s i) h).2
  unfold hv
  rw [this]; simp [byt]
theorem read_hex {s : List UInt8} (h : s.length = 64) (ho : rdOk s 64) : hexL (rdN s 64) = s := by
  have e := two_by_two (s := s) 32 (by omega)
  refine Eq.trans ?_ e
  unfold hexL rdN
  rw [List.flatMap_map]
  simp only [List.flatMap]
  congr 1
  apply List.map_congr_left
  intro j hj
  have hj : j < 32 := by simpa using hj
  have a := hv_lt (ho (2 * j) (by omega))
  have b := hv_lt (ho (2 * j + 1) (by omega))
  rw [if_pos (by omega), show (16 * hv s (2 * j) + hv s (2 * j + 1)) / 16 = hv s (2 * j) from by omega, show (16 * hv s (2 * j) + hv s (2 * j + 1)) % 16 = hv s (2 * j + 1) from by omega, hv_dig (ho _ (by omega)), hv_dig (ho _ (by omega))]
theorem rdN_lt {s : List UInt8} (ho : rdOk s 64) : ∀ x ∈ rdN s 64, x < 256 := by
  intro x hx
  simp only [rdN, List.mem_map, List.mem_range] at hx
  obtain ⟨j, hj, rfl⟩ := hx
  have a := hv_lt (ho (2 * j) (by omega))
  have b := hv_lt (ho (2 * j + 1) (by omega))
  rw [if_pos (by omega)]; omega
theorem byt_hexL {l : List Nat} {j : Nat} (hj : j < l.length) : byt (hexL l) (2 * j) = (dig (l[j] / 16)).toNat ∧ byt (hexL l) (2 * j + 1) = (dig (l[j] % 16)).toNat := by
  obtain ⟨a, b⟩ := hexL_get hj
  exact ⟨by rw [byt, a], by rw [byt, b]⟩
/-- digits read back -/
theorem hex_read {d : List Nat} (hl : d.length = 32) (hd : ∀ x ∈ d, x < 256) : readR (hexL d) = (vecN 32 d, 0) := by
  have key : ∀ j (hj : j < 32), hexv (byt (hexL d) (2 * j)) = ((d[j] / 16 : Nat) : Int) ∧ hexv (byt (hexL d) (2 * j + 1)) = ((d[j] % 16 : Nat) : Int) := fun j hj => by
    obtain ⟨a, b⟩ := byt_hexL (l := d) (j := j) (by omega)
    have := hd d[j] (List.getElem_mem _)
    exact ⟨by rw [a, hexv_back (by omega)], by rw [b, hexv_back (by omega)]⟩
  have ho : rdOk (hexL d) 64 := fun j hj => by
    rcases Nat.mod_two_eq_zero_or_one j with h | h
    · have := (key (j / 2) (by omega)).1
      rw [show 2 * (j / 2) = j from by omega] at this
      omega
    · have := (key (j / 2) (by omega)).2
      rw [show 2 * (j / 2) + 1 = j from by omega] at this
      omega
  unfold readR
  rw [if_pos ho]
  have e : rdN (hexL d) 64 = d := by
    apply List.ext_getElem
    · simp [rdN, hl]
    · intro j h1 h2
      have hj : j < 32 := by omega
      simp only [rdN, List.getElem_map, List.getElem_range]
      obtain ⟨a, b⟩ := key j hj
      rw [if_pos (by omega), hv, hv, a, b, Int.toNat_natCast, Int.toNat_natCast]; omega
  rw [e]

/-! ### bytes taken -/
theorem sumFrom_less {s : List UInt8} (h : s.length < 32) : p_sum_From s = some (vecN 32 [], 5) := by
  unfold p_sum_From
  have e : decide ((s.length : Int) < 32) = true := by simpa using (by omega : (s.length : Int) < 32)
  rw [e, cond_true, ← repl_vecN]; rfl
theorem sumFrom_more {s : List UInt8} (h : 32 < s.length) : p_sum_From s = some (vecN 32 [], 6) := by
  unfold p_sum_From
  have e : decide ((s.length : Int) < 32) = false := by simpa using (by omega : 32 ≤ (s.length : Int))
  have e2 : decide ((s.length : Int) > 32) = true := by simpa using (by omega : 32 < (s.length : Int))
  rw [e, cond_false, e2, cond_true, ← repl_vecN]; rfl
def natsOf (s : List UInt8) : List Nat := s.map UInt8.toNat
theorem vecN_get {n : Nat} {l : List Nat} {i : Nat} (hi : i < n) : (vecN n l)[i] = ((l.getD i 0 : Nat) : Int) := by simp [vecN]
theorem vecOf_eq {n : Nat} {l : List Nat} : vecOf n (0 : Int) (casts l) = vecN n l := by
  apply Vector.ext
  intro i hi
  rw [vecN_get hi]
  have h := at_casts (i := i) (l := l)
  simp only [at_, Int.toNat_natCast] at h
  simp only [List.getD_eq_getElem?_getD] at h
  simp [vecOf, h]
theorem numsOf_casts (s : List UInt8) : numsOf s = casts (natsOf s) := by simp [numsOf, casts, natsOf]
theorem byl_natsOf (s : List UInt8) : byl (natsOf s) = s := by simp [byl, natsOf, Function.comp_def]
theorem natsOf_byl {d : List Nat} (hd : ∀ x ∈ d, x < 256) : natsOf (byl d) = d := by
  unfold natsOf byl
  rw [List.map_map]
  conv => rhs; rw [← List.map_id d]
  apply List.map_congr_left
  intro x hx
  have := hd x hx
  simp; omega
theorem natsOf_lt (s : List UInt8) : ∀ x ∈ natsOf s, x < 256 := by
  intro x hx
  simp only [natsOf, List.mem_map] at hx
  obtain ⟨c, _, rfl⟩ := hx
  exact UInt8.toNat_lt _
theorem natsOf_len (s : List UInt8) : (natsOf s).length = s.length := by simp [natsOf]
theorem sumFrom_eq {s : List UInt8} (h : s.length = 32) : p_sum_From s = some (vecN 32 (natsOf s), 0) := by
  unfold p_sum_From
  have e : decide ((s.length : Int) < 32) = false := by rw [h]; rfl
  have e2 : decide ((s.length : Int) > 32) = false := by rw [h]; rfl
  have hz : dflt (T.int IntKind.u8) = (0 : Int) := rfl
  rw [e, cond_false, e2, cond_false, need_yes (by omega), need_yes (by rw [numsOf_len]; omega), hz, numsOf_casts, vecOf_eq]

/-- a sum that a caller hands in -/
theorem vec_nats {n : Nat} (x : Vector Int n) (h : okD (.arr n (.int .u8)) x) : ∃ d : List Nat, x = vecN n d ∧ d.length = n ∧ ∀ y ∈ d, y < 256 := by
  have h : ∀ y ∈ x.toList, (Lit.int .u8 y).wf = true := h
  have hr : ∀ y ∈ x.toList, 0 ≤ y ∧ y < 256 := fun y hy => by
    have := h y hy
    simp only [Lit.wf, Bool.and_eq_true, decide_eq_true_eq] at this
    have a : IntKind.min .u8 = 0 := rfl
    have b : IntKind.max .u8 = 255 := rfl
    omega
  refine ⟨x.toList.map Int.toNat, ?_, by simp, fun y hy => ?_⟩
  · apply Vector.ext
    intro i hi
    rw [vecN_get hi]
    have hm : x[i] ∈ x.toList := by simp
    have := hr _ hm
    have e : (x.toList.map Int.toNat).getD i 0 = x[i].toNat := by simp [hi]
    rw [e]; omega
  · obtain ⟨z, hz, rfl⟩ := List.mem_map.1 hy
    have := hr z hz
    omega

theorem reads_tail {s : List UInt8} : ∃ t, p_sum_From s = some t ∧ p_dormouselaw03_SumReads.j1 1000 s t.2 false t.1 = some true := by
  have haw := awake03
  have hb0 : bparts 32 (dflt (T.int IntKind.u8)) [] = vecN 32 [] := by rw [← repl_vecN]; rfl
  have hd : ∀ v : Vector Int 32, decide (v = v) = true := fun v => by simp
  have h5 : ((5 : Int) == 5) = true := rfl
  have h6 : ((6 : Int) == 6) = true := rfl
  have h0 : ((0 : Int) == 0) = true := rfl
  rcases Nat.lt_trichotomy s.length 32 with h | h | h
  · refine ⟨_, sumFrom_less h, ?_⟩
    have e : decide ((s.length : Int) < 32) = true := by simpa using (by omega : (s.length : Int) < 32)
    unfold p_dormouselaw03_SumReads.j1 joinC
    dsimp only
    rw [cond_false, haw, hb0, e, cond_true, Option.bind_some, cond_true, hd, cond_true, h5]
    rfl
  · refine ⟨_, sumFrom_eq h, ?_⟩
    have e : decide ((s.length : Int) < 32) = false := by simpa using (by omega : 32 ≤ (s.length : Int))
    have e2 : decide ((s.length : Int) > 32) = false := by simpa using (by omega : (s.length : Int) ≤ 32)
    have hs : (s == s) = true := by simp
    unfold p_dormouselaw03_SumReads.j1 joinC
    dsimp only
    rw [cond_false, haw, hb0, e, cond_false, e2, cond_false, Option.bind_some, cond_true, sumText_eq (by rw [natsOf_len, h]), byl_natsOf, Option.bind_some, hs, cond_true, h0]
    rfl
  · refine ⟨_, sumFrom_more h, ?_⟩
    have e : decide ((s.length : Int) < 32) = false := by simpa using (by omega : 32 ≤ (s.length : Int))
    have e2 : decide ((s.length : Int) > 32) = true := by simpa using (by omega : 32 < (s.length : Int))
    unfold p_dormouselaw03_SumReads.j1 joinC
    dsimp only
    rw [cond_false, haw, hb0, e, cond_false, e2, cond_true, Option.bind_some, cond_true, hd, cond_true, h6]
    rfl
theorem reads_read {s : List UInt8} : p_sum_Read 1000 s = some (vecN 32 [], 6) ∨ (p_sum_Read 1000 s = some (vecN 32 (rdN s 64), 0) ∧ rdOk s 64 ∧ s.length = 64) := by
  by_cases h : s.length = 64
  · rw [read_full (by omega) h]
    unfold readR
    by_cases ho : rdOk s 64
    · rw [if_pos ho]; exact .inr ⟨rfl, ho, h⟩
    · rw [if_neg ho]; exact .inl rfl
  · exact .inl (read_short h)
theorem reads_j0 {s : List UInt8} : p_dormouselaw03_SumReads.j0 1000 s false = some true := by
  obtain ⟨t, ht, tl⟩ := reads_tail (s := s)
  have hb0 : bparts 32 (dflt (T.int IntKind.u8)) [] = vecN 32 [] := by rw [← repl_vecN]; rfl
  have hd : ∀ v : Vector Int 32, (!decide (v = v)) = false := fun v => by simp
  unfold p_dormouselaw03_SumReads.j0 joinC
  rw [cond_false]
  rcases reads_read (s := s) with hr | ⟨hr, ho, h64⟩
  · rw [hr, Option.bind_some, ht, Option.bind_some, hb0]
    have a1 : ((6 : Int) == 0) = false := rfl
    have a2 : ((6 : Int) != 0) = true := rfl
    have a3 : ((6 : Int) != 6) = false := rfl
    dsimp only
    rw [a1, cond_false, a2, cond_true, a3, cond_false, hd]
    exact tl
  · rw [hr, Option.bind_some, ht, Option.bind_some]
    have a1 : ((0 : Int) == 0) = true := rfl
    dsimp only
    rw [a1, cond_true, sumHex_eq (by omega) (rdN_len s 64) (rdN_lt ho), Option.bind_some, read_hex h64 ho]
    have a2 : (!s == s) = false := by simp
    have a3 : ((0 : Int) != 0) = false := rfl
    rw [a2, cond_false, a3, cond_false]
    exact tl

theorem law_SumReads (x y : Vector Int 32) (s : List UInt8) (hx : okD (.arr 32 (.int .u8)) x) (hy : okD (.arr 32 (.int .u8)) y) : p_dormouselaw03_SumReads 1000 x y s = some true := by
  obtain ⟨d, rfl, hdl, hd⟩ := vec_nats x hx
  obtain ⟨d2, rfl, hdl2, hd2⟩ := vec_nats y hy
  have haw := awake03
  unfold p_dormouselaw03_SumReads
  by_cases h1 : (s.length : Int) > 200
  · have e1 : decide ((s.length : Int) > 200) = true := by simpa using h1
    rw [e1, cond_true, haw]; rfl
  · have e1 : decide ((s.length : Int) > 200) = false := by simpa using h1
    have hxl := hexL_len d
    rw [e1, cond_false, sumHex_eq (by omega) hdl hd, Option.bind_some, sumText_eq hdl, Option.bind_some, read_full (by omega) (by omega), Option.bind_some, sumFrom_eq (by rw [byl_len, hdl]), Option.bind_some, natsOf_byl hd, hex_read hdl hd]
    unfold joinC
    dsimp only
    rw [refHex_eq (by omega) (by omega) hd, Option.bind_some]
    unfold p_sum_Less
    have q1 : (!hexL d == hexL d) = false := by simp
    have q2 : (!decide (vecN 32 d = vecN 32 d)) = false := by simp
    have q3 : ((0 : Int) != 0) = false := rfl
    rw [q1, cond_false, q2, cond_false, q3, cond_false, cond_false, sumText_eq hdl, Option.bind_some, sumText_eq hdl2, Option.bind_some, Option.bind_some, Option.bind_some]
    have q4 : (!Go.Op.bytesLess (byl d) (byl d2) == Go.Op.bytesLess (byl d) (byl d2)) = false := by simp
    rw [q4]
    exact reads_j0
end Go.Dor
