/- KEYS: numbers, their digits, and a key's parts, on both sides. -/
import Derived.Test.YtejhoahklkbgpaaNj
import Derived.Test.YtejhoahklkbgpaaWc
set_option linter.unusedVariables false
set_option linter.unusedSimpArgs false
namespace Go.Dor
open Go.Proofs

set_option maxRecDepth 100000 in
theorem awake16 : p_dormouselaw16_awake 1000 = some true := by kernel_rfl

theorem toList_vecN {n : Nat} {l : List Nat} (h : l.length = n) : (vecN n l).toList = casts l := by
  apply List.ext_getElem
  · simp [vecN, casts, h]
  · intro i h1 h2
    have hi : i < l.length := by simpa [casts] using h2
    simp [vecN, casts, hi]
theorem vecN_inj {n : Nat} {a b : List Nat} (ha : a.length = n) (hb : b.length = n) (h : vecN n a = vecN n b) : a = b := by
  have h1 : casts a = casts b := by rw [← toList_vecN ha, ← toList_vecN hb, h]
  have h2 := congrArg (List.map Int.toNat) h1
  simpa [casts, Function.comp_def] using h2
theorem vcopy_vecN {n lo : Nat} {l xs : List Nat} (hl : l.length = n) (hx : lo + xs.length ≤ n) : vcopy (vecN n l) (lo : Int) (casts xs) = vecN n (l.take lo ++ xs ++ l.drop (lo + xs.length)) := by
  have hc : (casts xs).length = xs.length := casts_len xs
  unfold vcopy
  rw [dif_pos (by rw [hc]; simpa using hx)]
  apply Vector.toArray_inj.1
  apply Array.toList_inj.1
  have e := toList_vecN (n := n) (l := l.take lo ++ xs ++ l.drop (lo + xs.length)) (by simp; omega)
  show (vecN n l).toList.take (lo : Int).toNat ++ casts xs ++ (vecN n l).toList.drop ((lo : Int).toNat + (casts xs).length) = (vecN n (l.take lo ++ xs ++ l.drop (lo + xs.length))).toList
  rw [e, toList_vecN hl, hc, Int.toNat_natCast]
  simp [casts]
theorem repl_casts {n : Nat} : Vector.replicate n (0 : Int) = vecN n (List.replicate n 0) := by
  rw [repl_vecN]
  apply Vector.ext
  intro i hi
  rw [vecN_get hi, vecN_get hi]; simp [List.getD_eq_getElem?_getD, hi]

/-! ### values of bytes -/
def valL : List Nat → Nat
  | [] => 0
  | c :: l => c + 256 * valL l
theorem valL_lt : ∀ {l : List Nat} {n : Nat}, l.length ≤ n → (∀ x ∈ l, x < 256) → valL l < 256 ^ n
  | [], n, _, _ => by simpa [valL] using Nat.pow_pos (by omega)
  | c :: l, n + 1, h, hx => by
    have h1 := valL_lt (l := l) (n := n) (by simpa using h) fun x q => hx x (List.mem_cons_of_mem _ q)
    have h2 := hx c List.mem_cons_self
    simp only [valL, Nat.pow_succ]; omega
  | c :: l, 0, h, _ => by simp at h
theorem numL_cons (x n : Nat) : numL x (n + 1) = (x % 256) :: numL (x / 256) n := by
  simp only [numL, List.range_succ_eq_map, List.map_cons, List.map_map, Nat.pow_zero, Nat.div_one]
  congr 1
  apply List.map_congr_left
  intro i _
  simp only [Function.comp]
  rw [Nat.pow_succ, Nat.mul_comm, Nat.div_div_eq_div_mul]
theorem valL_numL : ∀ (n x : Nat), x < 256 ^ n → valL (numL x n) = x
  | 0, x, h => by simp at h; simp [numL, valL, h]
  | n + 1, x, h => by
    rw [numL_cons, valL, valL_numL n (x / 256) (by rw [Nat.pow_succ] at h; omega)]; omega
theorem numL_valL : ∀ (l : List Nat), (∀ x ∈ l, x < 256) → numL (valL l) l.length = l
  | [], _ => rfl
  | c :: l, h => by
    have h2 := h c List.mem_cons_self
    have ih := numL_valL l fun x q => h x (List.mem_cons_of_mem _ q)
    rw [List.length_cons, numL_cons, valL]
    have e1 : (c + 256 * valL l) % 256 = c := by omega
    have e2 : (c + 256 * valL l) / 256 = valL l := by omega
    rw [e1, e2, ih]
theorem valL_drop (l : List Nat) {i : Nat} (hi : i < l.length) : valL (l.drop i) = l[i] + 256 * valL (l.drop (i + 1)) := by
  rw [List.drop_eq_getElem_cons hi, valL]

theorem or_u64 {a b c : Nat} (ha : a < 18446744073709551616) (hb : b < 18446744073709551616) (h : a ||| b = c) : ior .u64 (a : Int) (b : Int) = (c : Int) := by
  rw [or_nat (k := .u64) rfl ha hb, h]

theorem pow8 : 256 ^ 8 = 18446744073709551616 := rfl
theorem pow7 : 256 ^ 7 = 72057594037927936 := rfl
theorem wideVal_eq {k : Nat} {d : List Nat} (hk : 8 < k) (hl : d.length = 8) (hd : ∀ x ∈ d, x < 256) : p_wide_Val k (byl d) = some ((valL d : Nat) : Int) := by
  unfold p_wide_Val joinC
  have e0 : IntKind.wrap .i64 (Min.min ((byl d).length : Int) 8 - 1) = 7 := by rw [byl_len, hl]; rfl
  rw [e0]
  have L := loop_count (body := fun (r : List UInt8 × Int × Int → Option Int) y => p_wide_Val.b1 k (p_wide_Val.j0 k) r y.1 y.2.1 y.2.2) (res := some ((valL d : Nat) : Int)) 8 k
    (fun j => (byl d, ((valL (d.drop (8 - j)) : Nat) : Int), 7 - (j : Int))) (by omega) ?_ ?_
  · rw [List.drop_of_length_le (by omega)] at L
    exact L
  · intro j hj rec
    dsimp only
    unfold p_wide_Val.b1
    have h1 : decide (7 - (j : Int) ≥ 0) = true := by simp; omega
    have e7 : (7 - (j : Int)) = ((7 - j : Nat) : Int) := by omega
    have hlt : 7 - j < d.length := by omega
    have hb := hd d[7 - j] (List.getElem_mem hlt)
    have hv := valL_lt (l := d.drop (8 - j)) (n := 7) (by rw [List.length_drop]; omega) fun x q => hd x (List.mem_of_mem_drop q)
    have hdr := valL_drop d hlt
    rw [pow7] at hv
    rw [show 7 - j + 1 = 8 - j from by omega] at hdr
    rw [h1, cond_true, e7, need_yes (by rw [byl_len]; omega), byl_getD hlt hd]
    generalize d[7 - j] = c at *
    have hvd : valL (d.drop (8 - (j + 1))) = c + 256 * valL (d.drop (8 - j)) := by rw [show 8 - (j + 1) = 7 - j from by omega]; exact hdr
    generalize valL (d.drop (8 - j)) = v at *
    have s8 := shl_nat (k := .u64) (a := v) (n := 8) rfl (by show 8 ≤ 64; omega)
    simp only [Int.cast_ofNat_Int] at s8
    have p8 : (2 : Nat) ^ 8 = 256 := rfl
    have p64 : (2 : Nat) ^ IntKind.bits .u64 = 18446744073709551616 := rfl
    rw [p8, p64, Nat.mod_eq_of_lt (by omega)] at s8
    have e1 : IntKind.wrap .u64 (c : Int) = (c : Int) := by rw [wrap_u64]; omega
    have e2 : IntKind.wrap .i64 (((7 - j : Nat) : Int) - 1) = 7 - ((j + 1 : Nat) : Int) := by rw [wrap_i64 (by omega)]; omega
    rw [s8, e1, or_u64 (c := v * 256 + c) (by omega) (by omega) (or_lit (c := v) 8 rfl (by omega) (by omega)), e2, hvd]
    rw [show v * 256 + c = c + 256 * v from by omega]
  · intro rec
    dsimp only
    unfold p_wide_Val.b1
    have h1 : decide (7 - ((8 : Nat) : Int) ≥ 0) = false := by decide
    rw [h1, cond_false]
    rfl

theorem valL_take_succ : ∀ (l : List Nat) {i : Nat} (hi : i < l.length), valL (l.take (i + 1)) = valL (l.take i) + 256 ^ i * l[i]
  | c :: l, 0, _ => by simp [valL]
  | c :: l, i + 1, hi => by
    have ih := valL_take_succ l (i := i) (by simpa using hi)
    simp only [List.take_succ_cons, valL, List.getElem_cons_succ]
    rw [ih, Nat.pow_succ, Nat.mul_add, Nat.add_assoc]
    congr 2
    rw [← Nat.mul_assoc, Nat.mul_comm 256]

theorem refVal_eq {k : Nat} {d : List Nat} (hk : 8 < k) (hl : d.length = 8) (hd : ∀ x ∈ d, x < 256) : p_dormouseref01_Val k (byl d) = some ((valL d : Nat) : Int) := by
  unfold p_dormouseref01_Val joinC
  have L := loop_count (body := fun (r : List UInt8 × Int × Int × Int → Option Int) y => p_dormouseref01_Val.b1 k (p_dormouseref01_Val.j0 k) r y.1 y.2.1 y.2.2.1 y.2.2.2) (res := some ((valL d : Nat) : Int)) 8 k
    (fun j => (byl d, ((valL (d.take j) : Nat) : Int), ((256 ^ j % 18446744073709551616 : Nat) : Int), (j : Int))) (by omega) ?_ ?_
  · exact L
  · intro j hj rec
    dsimp only
    unfold p_dormouseref01_Val.b1 joinC
    have h1 : decide ((j : Int) < ((byl d).length : Int)) = true := by rw [byl_len, hl]; simpa using (by omega : (j : Int) < 8)
    have h2 : decide ((j : Int) < (8 : Int)) = true := by simpa using (by omega : (j : Int) < 8)
    dsimp only
    rw [h1, cond_true, h2]
    unfold p_dormouseref01_Val.j2
    have hlt : j < d.length := by omega
    have hb := hd d[j] (List.getElem_mem hlt)
    have hs := valL_take_succ d hlt
    have hv := valL_lt (l := d.take (j + 1)) (n := 8) (by rw [List.length_take]; omega) fun x q => hd x (List.mem_of_mem_take q)
    rw [pow8] at hv
    have hp : 256 ^ j ≤ 256 ^ 7 := Nat.pow_le_pow_right (by omega) (by omega)
    rw [pow7] at hp
    rw [cond_true, need_yes (by rw [byl_len]; omega), byl_getD hlt hd]
    generalize d[j] = c at *
    rw [Nat.mod_eq_of_lt (by omega), hs]
    rw [hs] at hv
    have hpn : 256 ^ (j + 1) = 256 ^ j * 256 := Nat.pow_succ ..
    rw [hpn]
    generalize 256 ^ j = P at *
    generalize valL (d.take j) = v at *
    have hm : P * c ≤ P * 255 := Nat.mul_le_mul_left _ (by omega)
    have e1 : IntKind.wrap .u64 (c : Int) = (c : Int) := by rw [wrap_u64]; omega
    have e2 : IntKind.wrap .u64 ((P : Int) * (c : Int)) = ((P * c : Nat) : Int) := by rw [← Int.natCast_mul, wrap_u64]; omega
    have e3 : IntKind.wrap .u64 ((v : Int) + ((P * c : Nat) : Int)) = ((v + P * c : Nat) : Int) := by rw [wrap_u64]; omega
    have e4 : IntKind.wrap .u64 ((P : Int) * 256) = ((P * 256 % 18446744073709551616 : Nat) : Int) := by rw [wrap_u64]; omega
    rw [e1, e2, e3, e4, wrap_i64 (by omega)]
    rfl
  · intro rec
    dsimp only
    unfold p_dormouseref01_Val.b1 joinC
    have h1 : decide (((8 : Nat) : Int) < ((byl d).length : Int)) = false := by rw [byl_len, hl]; decide
    dsimp only
    rw [h1, cond_false]
    unfold p_dormouseref01_Val.j2
    rw [cond_false, List.take_of_length_le (by omega)]
    rfl

/-! ### decimal digits -/
def decN : Nat → List UInt8
  | n => if h : n < 10 then [dig n] else decN (n / 10) ++ [dig (n % 10)]
termination_by n => n
decreasing_by omega
theorem decN_lo {n : Nat} (h : n < 10) : decN n = [dig n] := by rw [decN, dif_pos h]
theorem decN_hi {n : Nat} (h : ¬ n < 10) : decN n = decN (n / 10) ++ [dig (n % 10)] := by rw [decN, dif_neg h]
theorem decN_len : ∀ (j n : Nat), n < 10 ^ j → (decN n).length ≤ j + 1
  | 0, n, h => by simp at h; rw [decN_lo (by omega)]; simp
  | j + 1, n, h => by
    by_cases h1 : n < 10
    · rw [decN_lo h1]; simp
    · have := decN_len j (n / 10) (by rw [Nat.pow_succ] at h; omega)
      rw [decN_hi h1, List.length_append]; simp; omega

theorem sub_one64 {n : Nat} (hn : n < 16) : sub_ DIG (n : Int) (IntKind.wrap .u64 ((n : Int) + 1)) = [dig n] := by
  have e : IntKind.wrap .u64 ((n : Int) + 1) = ((n + 1 : Nat) : Int) := by rw [wrap_u64]; omega
  rw [e]; exact sub_one hn
theorem loopC_succ {α β : Type} (body : (α → Option β) → α → Option β) (k : Nat) (x : α) : loopC body (k + 1) x = body (loopC body k) x := rfl
theorem decimal_go {k' : Nat} : ∀ (j k n : Nat) (s : List UInt8), n < 10 ^ j → n < 18446744073709551616 → j < k → s.length + j < 1000000 →
    loopC (fun (r : Int × List UInt8 → Option (List UInt8)) y => p_key_decimal.b1 k' (fun y => p_key_decimal.j0 k' y.1 y.2) r y.1 y.2) k ((n : Int), s) = some (decN n ++ s)
  | j, 0, n, s, h, _, hk, hs => by omega
  | j, k + 1, n, s, h, hn, hk, hs => by
    have ih := fun (j n : Nat) (s : List UInt8) (h : n < 10 ^ j) (hn : n < 18446744073709551616) (hk : j < k) (hs : s.length + j < 1000000) => decimal_go (k' := k') j k n s h hn hk hs
    rw [loopC_succ]
    generalize loopC (fun (r : Int × List UInt8 → Option (List UInt8)) y => p_key_decimal.b1 k' (fun y => p_key_decimal.j0 k' y.1 y.2) r y.1 y.2) k = R at ih ⊢
    dsimp only
    unfold p_key_decimal.b1
    have ew : ∀ m : Nat, m < 16 → IntKind.wrap .u64 ((m : Int) + 1) = ((m + 1 : Nat) : Int) := fun m hm => by rw [wrap_u64]; omega
    by_cases h1 : n < 10
    · have e1 : decide ((n : Int) > 9) = false := by simpa using (by omega : (n : Int) ≤ 9)
      rw [e1, cond_false]
      dsimp only
      unfold p_key_decimal.j0
      rw [← DIG, sub_one64 (by omega), ew n (by omega), need_yes (by omega), need_yes (by simp only [List.length_cons, List.length_nil]; omega), decN_lo h1]
    · have e1 : decide ((n : Int) > 9) = true := by simpa using (by omega : (n : Int) > 9)
      have em : Int.tmod (n : Int) 10 = ((n % 10 : Nat) : Int) := by rw [Int.tmod_eq_emod_of_nonneg (by omega)]; omega
      have ed : IntKind.wrap .u64 (Int.tdiv (n : Int) 10) = ((n / 10 : Nat) : Int) := by rw [Int.tdiv_eq_ediv_of_nonneg (by omega), wrap_u64]; omega
      rw [e1, cond_true, ← DIG, em, ed, sub_one64 (by omega), ew (n % 10) (by omega), need_yes (by omega), need_yes (by simp only [List.length_cons, List.length_nil]; omega)]
      cases j with
      | zero => simp at h; omega
      | succ j =>
        rw [ih j (n / 10) _ (by rw [Nat.pow_succ] at h; omega) (by omega) (by omega) (by simp only [List.length_append, List.length_cons, List.length_nil]; omega), decN_hi h1]
        simp
theorem decimal_eq {k n : Nat} (hk : 20 < k) (hn : n < 18446744073709551616) : p_key_decimal k (n : Int) = some (decN n) := by
  unfold p_key_decimal joinC
  have := decimal_go (k' := k) 20 k n [] (by have : (10 : Nat) ^ 20 = 100000000000000000000 := rfl
                                             omega) hn hk (by simp)
  rw [List.append_nil] at this
  exact this

def DIG10 : List UInt8 := [(48 : UInt8), (49 : UInt8), (50 : UInt8), (51 : UInt8), (52 : UInt8), (53 : UInt8), (54 : UInt8), (55 : UInt8), (56 : UInt8), (57 : UInt8)]
theorem sub_one10 {n : Nat} (hn : n < 10) : sub_ DIG10 (n : Int) (IntKind.wrap .u64 ((n : Int) + 1)) = [dig n] := by
  have e : IntKind.wrap .u64 ((n : Int) + 1) = ((n + 1 : Nat) : Int) := by rw [wrap_u64]; omega
  rw [e]
  unfold sub_ dig
  rw [Int.toNat_natCast, Int.toNat_natCast]
  have : (List.range 10).all (fun n => decide ((DIG10.take (n + 1)).drop n = [DIG.getD n 0])) = true := by decide
  have := List.all_eq_true.1 this n (by simpa using hn)
  simpa using this
theorem Digits_succ (k : Nat) (x : Int) : p_dormouseref16_Digits (k + 1) x = p_dormouseref16_Digits.r (p_dormouseref16_Digits k) k x := rfl
theorem Digits_eq : ∀ (j k n : Nat), n < 10 ^ (j + 1) → n < 18446744073709551616 → j < k → j < 1000 → p_dormouseref16_Digits k (n : Int) = some (decN n)
  | j, 0, n, h, _, hk, _ => by omega
  | j, k + 1, n, h, hn, hk, hj => by
    rw [Digits_succ]
    unfold p_dormouseref16_Digits.r
    have ew : ∀ m : Nat, m < 16 → IntKind.wrap .u64 ((m : Int) + 1) = ((m + 1 : Nat) : Int) := fun m hm => by rw [wrap_u64]; omega
    by_cases h1 : n < 10
    · have e1 : decide ((n : Int) < 10) = true := by simpa using (by omega : (n : Int) < 10)
      rw [e1, cond_true, ← DIG10, sub_one10 h1, ew n (by omega), need_yes (by omega), decN_lo h1]
    · have e1 : decide ((n : Int) < 10) = false := by simpa using (by omega : 10 ≤ (n : Int))
      have em : Int.tmod (n : Int) 10 = ((n % 10 : Nat) : Int) := by rw [Int.tmod_eq_emod_of_nonneg (by omega)]; omega
      have ed : IntKind.wrap .u64 (Int.tdiv (n : Int) 10) = ((n / 10 : Nat) : Int) := by rw [Int.tdiv_eq_ediv_of_nonneg (by omega), wrap_u64]; omega
      cases j with
      | zero => simp at h; omega
      | succ j =>
        have hl := decN_len (j + 1) (n / 10) (by rw [Nat.pow_succ] at h; omega)
        rw [e1, cond_false, em, ed, Digits_eq j k (n / 10) (by rw [Nat.pow_succ] at h; omega) (by omega) (by omega) (by omega), Option.bind_some,
          Digits_eq j k (n % 10) (by rw [Nat.pow_succ]; have := Nat.pow_pos (n := j) (show 0 < 10 by omega); omega) (by omega) (by omega) (by omega), Option.bind_some, decN_lo (show n % 10 < 10 by omega),
          need_yes (by simp only [List.length_cons, List.length_nil]; omega), decN_hi h1]
theorem Digits20 {k n : Nat} (hk : 20 < k) (hn : n < 18446744073709551616) : p_dormouseref16_Digits k (n : Int) = some (decN n) :=
  Digits_eq 19 k n (by have : (10 : Nat) ^ (19 + 1) = 100000000000000000000 := rfl
                       omega) hn (by omega) (by omega)
theorem decN_len20 {n : Nat} (hn : n < 18446744073709551616) : (decN n).length ≤ 21 :=
  decN_len 20 n (by have : (10 : Nat) ^ 20 = 100000000000000000000 := rfl
                    omega)

/-! ### reading a number -/
def numD (s : List UInt8) : Nat := s.foldl (fun n c => (10 * n % 18446744073709551616 + (c.toNat + 256 - 48) % 256 % 10) % 18446744073709551616) 0
theorem foldl_take {α β : Type} (f : β → α → β) (b : β) (l : List α) {i : Nat} (hi : i < l.length) : (l.take (i + 1)).foldl f b = f ((l.take i).foldl f b) l[i] := by
  rw [List.take_succ_eq_append_getElem hi, List.foldl_append]; rfl
theorem numD_lt (s : List UInt8) : numD s < 18446744073709551616 := by
  unfold numD
  rcases List.eq_nil_or_concat s with rfl | ⟨l, c, rfl⟩
  · decide
  · rw [List.concat_eq_append, List.foldl_append]; exact Nat.mod_lt _ (by omega)
theorem number_eq {k : Nat} {s : List UInt8} (hk : s.length < k) (hs : s.length < 1000000) : p_key_number k s = some ((numD s : Nat) : Int) := by
  unfold p_key_number joinC
  have L := loop_count (body := fun (r : List UInt8 × Int × Int × Int → Option Int) y => p_key_number.b1 k (p_key_number.j0 k) r y.1 y.2.1 y.2.2.1 y.2.2.2) (res := some ((numD s : Nat) : Int)) s.length k
    (fun i => (s, ((numD (s.take i) : Nat) : Int), (s.length : Int), (i : Int))) hk ?_ ?_
  · exact L
  · intro i hi rec
    dsimp only
    unfold p_key_number.b1
    have h1 : decide ((i : Int) < (s.length : Int)) = true := by simpa using hi
    have hb : bat s (i : Int) = ((s[i].toNat : Nat) : Int) := by simp [bat, hi]
    have hc := UInt8.toNat_lt s[i]
    have hf : numD (s.take (i + 1)) = (10 * numD (s.take i) % 18446744073709551616 + (s[i].toNat + 256 - 48) % 256 % 10) % 18446744073709551616 := foldl_take _ _ _ hi
    rw [h1, cond_true, need_yes (by omega), hb, wrap_i64 (by omega), hf]
    generalize s[i].toNat = c at *
    generalize numD (s.take i) = n at *
    have e1 : IntKind.wrap .u64 (IntKind.wrap .u8 ((c : Int) - 48)) = (((c + 256 - 48) % 256 : Nat) : Int) := by simp only [wrap_u64, wrap_u8]; omega
    have e2 : IntKind.wrap .u64 (10 * (n : Int)) = ((10 * n % 18446744073709551616 : Nat) : Int) := by rw [wrap_u64]; omega
    rw [e1, e2, Int.tmod_eq_emod_of_nonneg (by omega)]
    have e3 : IntKind.wrap .u64 (((10 * n % 18446744073709551616 : Nat) : Int) + (((c + 256 - 48) % 256 : Nat) : Int) % 10) = (((10 * n % 18446744073709551616 + (c + 256 - 48) % 256 % 10) % 18446744073709551616 : Nat) : Int) := by rw [wrap_u64]; omega
    rw [e3]
    rfl
  · intro rec
    dsimp only
    unfold p_key_number.b1
    have h1 : decide ((s.length : Int) < (s.length : Int)) = false := by simp
    rw [h1, cond_false, List.take_length]
    rfl
theorem dig_num {n : Nat} (h : n < 10) : ((dig n).toNat + 256 - 48) % 256 % 10 = n := by
  have : (List.range 10).all (fun n => decide (((dig n).toNat + 256 - 48) % 256 % 10 = n)) = true := by decide
  have := List.all_eq_true.1 this n (by simpa using h)
  simpa using this
theorem numD_decN : ∀ (n : Nat), n < 18446744073709551616 → numD (decN n) = n := by
  intro n
  induction n using Nat.strongRecOn with
  | _ n ih =>
    intro hn
    by_cases h : n < 10
    · rw [decN_lo h, numD, List.foldl_cons, List.foldl_nil, dig_num h]; omega
    · have e := ih (n / 10) (by omega) (by omega)
      rw [decN_hi h, numD, List.foldl_append, List.foldl_cons, List.foldl_nil, dig_num (by omega)]
      unfold numD at e
      rw [e]; omega
theorem dig_dot {n : Nat} (h : n < 16) : dig n ≠ 46 := by
  have : (List.range 16).all (fun n => decide (dig n ≠ 46)) = true := by decide
  have := List.all_eq_true.1 this n (by simpa using h)
  simpa using this
theorem decN_dot : ∀ (n : Nat), (46 : UInt8) ∉ decN n := by
  intro n
  induction n using Nat.strongRecOn with
  | _ n ih =>
    by_cases h : n < 10
    · rw [decN_lo h]; simpa using (dig_dot (n := n) (by omega)).symm
    · rw [decN_hi h, List.mem_append, not_or]
      exact ⟨ih _ (by omega), by simpa using (dig_dot (n := n % 10) (by omega)).symm⟩
theorem hexL_dot {d : List Nat} (hd : ∀ x ∈ d, x < 256) : (46 : UInt8) ∉ hexL d := by
  unfold hexL
  intro h
  obtain ⟨c, hc, h⟩ := List.mem_flatMap.1 h
  have := hd c hc
  simp only [List.mem_cons, List.not_mem_nil, or_false] at h
  rcases h with h | h
  · exact dig_dot (n := c / 16) (by omega) h.symm
  · exact dig_dot (n := c % 16) (by omega) h.symm

/-! ### cut at the first dot -/
theorem index_not {l : List UInt8} {c : UInt8} (h : c ∉ l) : Lib.indexByte l c = -1 := by
  induction l with
  | nil => rfl
  | cons b l ih =>
    simp only [List.mem_cons, not_or] at h
    have hb : (b == c) = false := by simpa using fun e => h.1 e.symm
    simp [Lib.indexByte, hb, ih h.2]
theorem index_app {l m : List UInt8} {c : UInt8} (h : c ∉ l) : Lib.indexByte (l ++ c :: m) c = (l.length : Int) := by
  induction l with
  | nil => simp [Lib.indexByte]
  | cons b l ih =>
    simp only [List.mem_cons, not_or] at h
    have hb : (b == c) = false := by simpa using fun e => h.1 e.symm
    have := ih h.2
    simp only [List.cons_append, Lib.indexByte, hb, this, List.length_cons]
    have hne : ((l.length : Int) == -1) = false := by simp only [beq_eq_false_iff_ne, ne_eq]; omega
    simp [hne]
theorem cut_at {l : List UInt8} {c : UInt8} (h : c ∈ l) : ∃ a b, l = a ++ c :: b ∧ c ∉ a := by
  induction l with
  | nil => cases h
  | cons x l ih =>
    by_cases e : x = c
    · subst e; exact ⟨[], l, rfl, by simp⟩
    · obtain ⟨a, b, rfl, hb⟩ := ih (by simpa [Ne.symm e] using h)
      exact ⟨x :: a, b, rfl, by simpa [Ne.symm e] using hb⟩
theorem Index_eq {s : List UInt8} : p_stringslite_Index s [(46 : UInt8)] = some (Lib.indexByte s 46) := by
  unfold p_stringslite_Index joinC
  have e0 : (([(46 : UInt8)].length : Int) == 0) = false := rfl
  dsimp only
  rw [e0, cond_false]
  unfold p_stringslite_Index.j0
  by_cases h : [(46 : UInt8)] = s
  · subst h
    rfl
  · have e1 : ([(46 : UInt8)] == s) = false := by simpa using h
    have e2 : (([(46 : UInt8)].length : Int) == 1) = true := rfl
    rw [e1, cond_false, e2, cond_true, need_yes (by simp)]
    rfl
theorem Cut_not {s : List UInt8} (h : (46 : UInt8) ∉ s) : p_strings_Cut s [(46 : UInt8)] = some (s, [], false) := by
  unfold p_strings_Cut p_stringslite_Cut
  rw [Index_eq, index_not h]
  rfl
theorem Cut_app {a b : List UInt8} (h : (46 : UInt8) ∉ a) (hl : a.length + b.length < 1000000) : p_strings_Cut (a ++ 46 :: b) [(46 : UInt8)] = some (a, b, true) := by
  unfold p_strings_Cut p_stringslite_Cut
  have e1 : decide ((a.length : Int) ≥ 0) = true := by simp
  have e2 : IntKind.wrap .i64 ((a.length : Int) + ([(46 : UInt8)].length : Int)) = ((a.length + 1 : Nat) : Int) := by rw [wrap_i64 (by simp; omega)]; rfl
  have hlen : (a ++ 46 :: b).length = a.length + b.length + 1 := by simp; omega
  rw [Index_eq, index_app h, Option.bind_some, e1, cond_true, e2, need_yes (by rw [hlen]; omega), need_yes (by rw [hlen]; omega), Option.bind_some]
  have s1 : sub_ (a ++ 46 :: b) 0 (a.length : Int) = a := by simp [sub_]
  have s2 : sub_ (a ++ 46 :: b) ((a.length + 1 : Nat) : Int) ((a ++ 46 :: b).length : Int) = b := by
    rw [sub_, Int.toNat_natCast, Int.toNat_natCast, List.take_length, show a.length + 1 = (a ++ [46]).length from by simp]
    rw [show a ++ 46 :: b = (a ++ [46]) ++ b from by simp, List.drop_left]
  rw [s1, s2]
end Go.Dor
