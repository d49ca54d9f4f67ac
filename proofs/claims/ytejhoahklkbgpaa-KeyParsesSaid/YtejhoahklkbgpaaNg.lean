/- NUMBERS AS BYTES, and a text filled up to whole blocks, on both sides. -/
import Derived.Test.YtejhoahklkbgpaaNf
namespace Go.Dor
open Go.Proofs

def numL (x n : Nat) : List Nat := (List.range n).map fun i => x / 256 ^ i % 256
def byl (l : List Nat) : List UInt8 := l.map UInt8.ofNat
def numB (x n : Nat) : List UInt8 := byl (numL x n)
theorem numL_len (x n : Nat) : (numL x n).length = n := by simp [numL]
theorem byl_len (l : List Nat) : (byl l).length = l.length := by simp [byl]
theorem numB_len (x n : Nat) : (numB x n).length = n := by rw [numB, byl_len, numL_len]
theorem numL_succ (x n : Nat) : numL x (n + 1) = numL x n ++ [x / 256 ^ n % 256] := by simp [numL, List.range_succ]
theorem numL_lt (x n : Nat) : ∀ y ∈ numL x n, y < 256 := by
  intro y hy
  simp only [numL, List.mem_map] at hy
  obtain ⟨i, _, rfl⟩ := hy
  exact Nat.mod_lt _ (by omega)
theorem bytesOf_casts (l : List Nat) : bytesOf (casts l) = byl l := by simp [bytesOf, casts, byl]
theorem bytesOf_one (n : Nat) : bytesOf [(n : Int)] = [UInt8.ofNat n] := rfl
theorem sub_vecN {n m : Nat} {l : List Nat} (hm : l.length = m) (hn : m ≤ n) : sub_ (vecN n l).toList 0 (m : Int) = casts l := by
  unfold sub_
  apply List.ext_getElem
  · simp [vecN, casts]; omega
  · intro i h1 h2
    have hi : i < l.length := by simpa [casts] using h2
    simp [vecN, casts, hi]
theorem div_pow_succ (x i : Nat) : x / 256 ^ (i + 1) = x / 256 ^ i / 256 := by rw [Nat.pow_succ, Nat.div_div_eq_div_mul]
theorem numsOf_app (a b : List UInt8) : numsOf (a ++ b) = numsOf a ++ numsOf b := by simp [numsOf]
theorem numsOf_len (a : List UInt8) : (numsOf a).length = a.length := by simp [numsOf]
theorem bytesOf_numsOf (a : List UInt8) : bytesOf (numsOf a) = a := by simp [bytesOf, numsOf, Function.comp_def]

theorem low8 (y : Nat) : IntKind.wrap .u8 (Int.tmod (y : Int) 256) = ((y % 256 : Nat) : Int) := by rw [Int.tmod_eq_emod_of_nonneg (by omega), wrap_u8]; omega
theorem low8' (y : Nat) : IntKind.wrap .u8 (y : Int) = ((y % 256 : Nat) : Int) := by rw [wrap_u8]; omega
theorem div8 {y : Nat} (hy : y < 18446744073709551616) : IntKind.wrap .u64 (Int.tdiv (y : Int) 256) = ((y / 256 : Nat) : Int) := by rw [Int.tdiv_eq_ediv_of_nonneg (by omega), wrap_u64]; omega

theorem wideNum_eq {k x n : Nat} (hk : 8 < k) (hn : n ≤ 8) : p_wide_Num k (x : Int) (n : Int) = some (numB x n) := by
  have hm : Min.min (Max.max (n : Int) 0) 8 = (n : Int) := by omega
  have hd : dflt (T.int IntKind.u8) = (0 : Int) := rfl
  unfold p_wide_Num joinC
  rw [hm, hd, repl_vecN]
  have L := loop_count (body := fun (r : Int × Int × Int × Int × Vector Int (8) → Option (List UInt8)) y => p_wide_Num.b1 k (fun y => p_wide_Num.j0 k y.1 y.2) r y.1 y.2.1 y.2.2.1 y.2.2.2.1 y.2.2.2.2) (res := some (numB x n)) n k
    (fun i => (((x / 256 ^ i : Nat) : Int), (n : Int), (n : Int), (i : Int), vecN 8 (numL x i))) (by omega) ?_ ?_
  · simp only [Nat.pow_zero, Nat.div_one] at L
    exact L
  · intro i hi rec
    dsimp only
    unfold p_wide_Num.b1
    have h1 : decide ((i : Int) < (n : Int)) = true := by simpa using hi
    have hs := shr_nat (k := .u64) (a := x / 256 ^ i) (n := 8) (by show 8 ≤ 64; omega)
    have e8 : IntKind.wrap .u8 ((x / 256 ^ i : Nat) : Int) = ((x / 256 ^ i % 256 : Nat) : Int) := low8' _
    simp only [Int.cast_ofNat_Int] at hs
    rw [h1, cond_true, need_yes (by omega), hs, wrap_i64 (by omega), e8, vset_vecN (numL_len x i), ← numL_succ, div_pow_succ]
    rfl
  · intro rec
    dsimp only
    unfold p_wide_Num.b1
    have h1 : decide ((n : Int) < (n : Int)) = false := by simp
    rw [h1, cond_false]
    dsimp only
    unfold p_wide_Num.j0
    rw [need_yes (by omega), sub_vecN (numL_len x n) hn, bytesOf_casts]
    rfl

theorem refNum_eq {k x n : Nat} (hk : n < k) (hn : n < 1000000) (hx : x < 18446744073709551616) : p_dormouseref01_Num k (x : Int) (n : Int) = some (numB x n) := by
  unfold p_dormouseref01_Num joinC
  have L := loop_count (body := fun (r : Int × Int × List UInt8 × Int → Option (List UInt8)) y => p_dormouseref01_Num.b1 k (p_dormouseref01_Num.j0 k) r y.1 y.2.1 y.2.2.1 y.2.2.2) (res := some (numB x n)) n k
    (fun i => (((x / 256 ^ i : Nat) : Int), (n : Int), numB x i, (i : Int))) hk ?_ ?_
  · simp only [Nat.pow_zero, Nat.div_one] at L
    exact L
  · intro i hi rec
    dsimp only
    unfold p_dormouseref01_Num.b1
    have h1 : decide ((i : Int) < (n : Int)) = true := by simpa using hi
    have hle : x / 256 ^ i ≤ x := Nat.div_le_self _ _
    have e8 : IntKind.wrap .u8 (Int.tmod ((x / 256 ^ i : Nat) : Int) 256) = ((x / 256 ^ i % 256 : Nat) : Int) := low8 _
    have e9 : IntKind.wrap .u64 (Int.tdiv ((x / 256 ^ i : Nat) : Int) 256) = ((x / 256 ^ (i + 1) : Nat) : Int) := by rw [div_pow_succ]; exact div8 (Nat.lt_of_le_of_lt hle hx)
    rw [h1, cond_true, e8, e9, bytesOf_one, need_yes (by rw [numB_len]; simp only [List.length_cons, List.length_nil]; omega), wrap_i64 (by omega)]
    have e : numB x i ++ [UInt8.ofNat (x / 256 ^ i % 256)] = numB x (i + 1) := by rw [numB, numB, numL_succ]; simp [byl]
    rw [e]
    rfl
  · intro rec
    dsimp only
    unfold p_dormouseref01_Num.b1
    have h1 : decide ((n : Int) < (n : Int)) = false := by simp
    rw [h1, cond_false]
    rfl

/-- a text with its length ahead -/
def lenB (s : List UInt8) : List UInt8 := numB s.length 4 ++ s
theorem lenB_len (s : List UInt8) : (lenB s).length = 4 + s.length := by simp [lenB, numB_len]
theorem refText_eq {k : Nat} {s : List UInt8} (hk : 8 < k) (hs : s.length < 1000000000) : p_dormouseref01_Text k s = some (lenB s) := by
  unfold p_dormouseref01_Text
  have e : IntKind.wrap .u64 (s.length : Int) = (s.length : Int) := by rw [wrap_u64]; omega
  have h := refNum_eq (k := k) (x := s.length) (n := 4) (by omega) (by omega) (by omega)
  simp only [Int.cast_ofNat_Int] at h
  rw [e, h, Option.bind_some, need_yes (by rw [numB_len]; omega)]
  rfl

/-! ### filled -/
def zerosN (n : Nat) : Nat := (119 - n % 64) % 64
def fillN (s : List UInt8) : List UInt8 := s ++ 128 :: List.replicate (zerosN s.length) 0 ++ (numB (8 * s.length) 8).reverse
theorem fillN_len (s : List UInt8) : (fillN s).length = s.length + 9 + zerosN s.length := by simp [fillN, numB_len]; omega
theorem fillN_mod (s : List UInt8) : (fillN s).length % 64 = 0 := by rw [fillN_len, zerosN]; omega

theorem fill_test {n i : Nat} (hi : i < zerosN n) : ((Int.tmod ((n + 1 + i : Nat) : Int) 64) != (56 : Int)) = true := by
  have hz : zerosN n = (119 - n % 64) % 64 := rfl
  rw [Int.tmod_eq_emod_of_nonneg (by omega)]
  simp only [bne_iff_ne, ne_eq]
  omega
theorem fill_stop (n : Nat) : ((Int.tmod ((n + 1 + zerosN n : Nat) : Int) 64) != (56 : Int)) = false := by
  have hz : zerosN n = (119 - n % 64) % 64 := rfl
  rw [Int.tmod_eq_emod_of_nonneg (by omega)]
  simp only [bne_eq_false_iff_eq]
  omega
theorem zerosN_lt (n : Nat) : zerosN n < 64 := Nat.mod_lt _ (by omega)

theorem take_rev_succ {α : Type} {l : List α} {n j : Nat} (hl : l.length = n) (hj : j < n) (h : n - 1 - j < l.length) : l.reverse.take j ++ [l[n - 1 - j]] = l.reverse.take (j + 1) := by
  rw [List.take_succ_eq_append_getElem (by simpa [hl] using hj)]
  congr 2
  rw [List.getElem_reverse]
  subst hl; rfl

theorem filled_eq {k : Nat} {s : List UInt8} (hk : 64 < k) (hs : s.length < 1000000000) : p_sum_filled k s = some (fillN s) := by
  have hz := zerosN_lt s.length
  unfold p_sum_filled joinC
  rw [tb5, need_yes (by omega), need_yes (by rw [numsOf_len]; omega)]
  have L := loop_count (body := fun (r : List UInt8 × List Int → Option (List UInt8)) y => p_sum_filled.b3 k (fun y => p_sum_filled.j0 k y.1 y.2) r y.1 y.2) (res := some (fillN s)) (zerosN s.length) k
    (fun i => (s, numsOf s ++ 128 :: List.replicate i 0)) (by omega) ?_ ?_
  · exact L
  · intro i hi rec
    dsimp only
    unfold p_sum_filled.b3
    have hl : (numsOf s ++ (128 : Int) :: List.replicate i 0).length = s.length + 1 + i := by simp [numsOf_len]; omega
    rw [hl, fill_test hi, cond_true, tb5, need_yes (by omega)]
    have e : (numsOf s ++ (128 : Int) :: List.replicate i 0) ++ [0] = numsOf s ++ (128 : Int) :: List.replicate (i + 1) 0 := by
      rw [List.replicate_succ']; simp
    rw [e]
  · intro rec
    dsimp only
    unfold p_sum_filled.b3
    have hl : (numsOf s ++ (128 : Int) :: List.replicate (zerosN s.length) 0).length = s.length + 1 + zerosN s.length := by simp [numsOf_len]; omega
    rw [hl, fill_stop, cond_false]
    dsimp only
    unfold p_sum_filled.j0
    have e : IntKind.wrap .u64 (IntKind.wrap .u64 (s.length : Int) * 8) = ((8 * s.length : Nat) : Int) := by simp only [wrap_u64]; omega
    have h := wideNum_eq (k := k) (x := 8 * s.length) (n := 8) (by omega) (by omega)
    simp only [Int.cast_ofNat_Int] at h
    rw [e, h, Option.bind_some]
    have hf : fillN s = bytesOf (numsOf s ++ (128 : Int) :: List.replicate (zerosN s.length) 0) ++ (numB (8 * s.length) 8).reverse := by
      rw [fillN]
      congr 1
      rw [show bytesOf (numsOf s ++ (128 : Int) :: List.replicate (zerosN s.length) 0) = bytesOf (numsOf s) ++ bytesOf ((128 : Int) :: List.replicate (zerosN s.length) 0) from by simp [bytesOf], bytesOf_numsOf]
      congr 1
      simp [bytesOf]
    rw [hf]
    have hl8 := numB_len (8 * s.length) 8
    generalize numB (8 * s.length) 8 = nb at *
    generalize hB : numsOf s ++ (128 : Int) :: List.replicate (zerosN s.length) 0 = B at *
    unfold joinC
    have L := loop_count (body := fun (r : List UInt8 × Int × List Int → Option (List UInt8)) y => p_sum_filled.b2 k (p_sum_filled.j1 k) r y.1 y.2.1 y.2.2) (res := some (bytesOf B ++ nb.reverse)) 8 k
      (fun j => (nb, 7 - (j : Int), B ++ numsOf (nb.reverse.take j))) (by omega) ?_ ?_
    · simp only [List.take_zero] at L
      rw [show numsOf [] = [] from rfl, List.append_nil] at L
      exact L
    · intro j hj rec
      dsimp only
      unfold p_sum_filled.b2
      have h1 : decide ((7 - (j : Int)) ≥ 0) = true := by simp; omega
      have e7 : (7 - (j : Int)) = ((7 - j : Nat) : Int) := by omega
      rw [h1, cond_true, need_yes (by omega), tb5, need_yes (by rw [List.length_append, numsOf_len, List.length_take]; simp only [List.length_cons, List.length_nil]; omega), wrap_i64 (by omega)]
      have hlt : 7 - j < nb.length := by omega
      have eb : bat nb (7 - (j : Int)) = ((nb[7 - j]).toNat : Int) := by rw [e7]; simp [bat, hlt]
      have ea : (B ++ numsOf (nb.reverse.take j)) ++ [bat nb (7 - (j : Int))] = B ++ numsOf (nb.reverse.take (j + 1)) := by
        rw [eb, List.append_assoc, ← take_rev_succ (n := 8) hl8 hj (by omega), numsOf_app]; rfl
      have ei : 7 - (j : Int) - 1 = 7 - ((j + 1 : Nat) : Int) := by omega
      rw [ea, ei]
    · intro rec
      dsimp only
      unfold p_sum_filled.b2
      have h1 : decide ((7 - ((8 : Nat) : Int)) ≥ 0) = false := by decide
      rw [h1, cond_false]
      unfold p_sum_filled.j1
      rw [List.take_of_length_le (by rw [List.length_reverse]; omega)]
      congr 1
      rw [show bytesOf (B ++ numsOf nb.reverse) = bytesOf B ++ bytesOf (numsOf nb.reverse) from by simp [bytesOf], bytesOf_numsOf]

theorem Fill_eq {k : Nat} {s : List UInt8} (hk : 64 < k) (hs : s.length < 1000000000) : p_dormouseref03_Fill k s = some (fillN s) := by
  have hz := zerosN_lt s.length
  unfold p_dormouseref03_Fill joinC
  rw [need_yes (by omega)]
  have L := loop_count (body := fun (r : List UInt8 × List UInt8 → Option (List UInt8)) y => p_dormouseref03_Fill.b3 k (fun y => p_dormouseref03_Fill.j0 k y.1 y.2) r y.1 y.2) (res := some (fillN s)) (zerosN s.length) k
    (fun i => (s, s ++ 128 :: List.replicate i 0)) (by omega) ?_ ?_
  · exact L
  · intro i hi rec
    dsimp only
    unfold p_dormouseref03_Fill.b3
    have hl : (s ++ (128 : UInt8) :: List.replicate i 0).length = s.length + 1 + i := by simp; omega
    rw [hl, fill_test hi, cond_true, need_yes (by omega)]
    have e : (s ++ (128 : UInt8) :: List.replicate i 0) ++ [0] = s ++ (128 : UInt8) :: List.replicate (i + 1) 0 := by
      rw [List.replicate_succ']; simp
    rw [e]
  · intro rec
    dsimp only
    unfold p_dormouseref03_Fill.b3
    have hl : (s ++ (128 : UInt8) :: List.replicate (zerosN s.length) 0).length = s.length + 1 + zerosN s.length := by simp; omega
    rw [hl, fill_stop, cond_false]
    dsimp only
    unfold p_dormouseref03_Fill.j0 joinC
    have e : IntKind.wrap .u64 (IntKind.wrap .i64 (8 * (s.length : Int))) = ((8 * s.length : Nat) : Int) := by rw [wrap_i64 (by omega), wrap_u64]; omega
    rw [e]
    have hf : fillN s = (s ++ 128 :: List.replicate (zerosN s.length) 0) ++ (numB (8 * s.length) 8).reverse := rfl
    rw [hf]
    generalize s ++ (128 : UInt8) :: List.replicate (zerosN s.length) 0 = B at *
    have hx : 8 * s.length < 18446744073709551616 := by omega
    generalize 8 * s.length = x at *
    have L := loop_count (body := fun (r : List UInt8 × Int × List UInt8 × Int → Option (List UInt8)) y => p_dormouseref03_Fill.b2 k (fun y => p_dormouseref03_Fill.j1 k y.1 y.2) r y.1 y.2.1 y.2.2.1 y.2.2.2) (res := some (B ++ (numB x 8).reverse)) 8 k
      (fun j => (B, ((x / 256 ^ j : Nat) : Int), (numB x j).reverse, (j : Int))) (by omega) ?_ ?_
    · simp only [Nat.pow_zero, Nat.div_one] at L
      exact L
    · intro j hj rec
      dsimp only
      unfold p_dormouseref03_Fill.b2
      have h1 : decide ((j : Int) < (8 : Int)) = true := by simpa using (by omega : (j : Int) < 8)
      have hle : x / 256 ^ j ≤ x := Nat.div_le_self _ _
      have e8 : IntKind.wrap .u8 (Int.tmod ((x / 256 ^ j : Nat) : Int) 256) = ((x / 256 ^ j % 256 : Nat) : Int) := low8 _
      have e9 : IntKind.wrap .u64 (Int.tdiv ((x / 256 ^ j : Nat) : Int) 256) = ((x / 256 ^ (j + 1) : Nat) : Int) := by rw [div_pow_succ]; exact div8 (Nat.lt_of_le_of_lt hle hx)
      rw [h1, cond_true, e8, e9, bytesOf_one, need_yes (by rw [List.length_reverse, numB_len]; simp only [List.length_cons, List.length_nil]; omega), wrap_i64 (by omega)]
      have ee : [UInt8.ofNat (x / 256 ^ j % 256)] ++ (numB x j).reverse = (numB x (j + 1)).reverse := by rw [numB, numB, numL_succ]; simp [byl]
      rw [ee]
      rfl
    · intro rec
      dsimp only
      unfold p_dormouseref03_Fill.b2
      have h1 : decide (((8 : Nat) : Int) < (8 : Int)) = false := by decide
      rw [h1, cond_false]
      dsimp only
      unfold p_dormouseref03_Fill.j1
      rw [need_yes]
      have hBl : B.length < 2000000000 := by
        have : s.length + 1 + zerosN s.length < 2000000000 := by omega
        exact hl ▸ this
      rw [List.length_reverse, numB_len]
      omega
end Go.Dor
