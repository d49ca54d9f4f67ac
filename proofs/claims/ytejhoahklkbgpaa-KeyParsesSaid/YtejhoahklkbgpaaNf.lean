/- A BLOCK, on both sides. -/
import Derived.Test.YtejhoahklkbgpaaNe
namespace Go.Dor
open Go.Proofs

theorem rounds_eq : p_sum_rounds = some (vecN 64 KL) := by kernel_rfl

/-- the state behind i rounds -/
def vs (w : List Nat) (h : List Nat) : Nat → List Nat
  | 0 => h
  | i + 1 => rnd (vs w h i) (KL.getD i 0) (w.getD i 0)
def W32 (l : List Nat) : Prop := ∀ x ∈ l, x < 4294967296
theorem W32.get {l : List Nat} (h : W32 l) (j : Nat) : l.getD j 0 < 4294967296 := getD_lt (by omega) h j
theorem rnd_w32 {l : List Nat} (h : W32 l) (k w : Nat) : W32 (rnd l k w) := by
  intro x hx
  simp only [rnd, List.mem_cons, List.not_mem_nil, or_false] at hx
  rcases hx with rfl | rfl | rfl | rfl | rfl | rfl | rfl | rfl
  · exact Nat.mod_lt _ (by omega)
  · exact h.get 0
  · exact h.get 1
  · exact h.get 2
  · exact Nat.mod_lt _ (by omega)
  · exact h.get 4
  · exact h.get 5
  · exact h.get 6
theorem vs_w32 {w h : List Nat} (hh : W32 h) : ∀ i, W32 (vs w h i)
  | 0 => hh
  | i + 1 => rnd_w32 (vs_w32 hh i) _ _
theorem vs_len {w h : List Nat} (hh : h.length = 8) : ∀ i, (vs w h i).length = 8
  | 0 => hh
  | _ + 1 => rfl
def blkW (h w : List Nat) : List Nat := (List.range 8).map fun j => (h.getD j 0 + (vs w h 64).getD j 0) % 4294967296
def blk (h : List Nat) (s : List UInt8) : List Nat := blkW h (wds s 64)
theorem blkW_len {h w : List Nat} : (blkW h w).length = 8 := by simp [blkW]
theorem blk_len {h : List Nat} {s : List UInt8} : (blk h s).length = 8 := blkW_len
theorem blk_w32 {h : List Nat} {s : List UInt8} : W32 (blk h s) := by
  intro x hx
  simp only [blk, blkW, List.mem_map] at hx
  obtain ⟨j, _, rfl⟩ := hx
  exact Nat.mod_lt _ (by omega)

/-- the sum's last loop: the first i numbers are done -/
def mid (h v : List Nat) (i : Nat) : List Nat := (List.range 8).map fun j => if j < i then (h.getD j 0 + v.getD j 0) % 4294967296 else h.getD j 0
theorem mid_get {h v : List Nat} {i : Nat} (hi : i < 8) : (mid h v i).getD i 0 = h.getD i 0 := by
  simp [mid, List.getD_eq_getElem?_getD, hi]
theorem vset_vecN2 {n i : Nat} {l : List Nat} {v : Nat} (hl : i < l.length) : vset (vecN n l) (i : Int) (v : Int) = vecN n (l.set i v) := by
  apply Vector.toArray_inj.1
  apply Array.toList_inj.1
  show (vecN n l).toList.set (i : Int).toNat (v : Int) = (vecN n (l.set i v)).toList
  apply List.ext_getElem
  · simp [vecN]
  · intro j h1 h2
    simp only [vecN, Vector.toList_ofFn, Int.toNat_natCast, List.getElem_set, List.getElem_ofFn]
    simp only [List.getD_eq_getElem?_getD]
    split
    · rename_i h; subst h; simp [hl]
    · rename_i h; simp [h]
theorem mid_succ {h v : List Nat} {i : Nat} : (mid h v i).set i ((h.getD i 0 + v.getD i 0) % 4294967296) = mid h v (i + 1) := by
  apply List.ext_getElem
  · simp [mid]
  · intro j h1 h2
    simp only [mid, List.getElem_set, List.getElem_map, List.getElem_range]
    split
    · rename_i h; subst h; simp
    · rename_i h
      by_cases hj : j < i
      · rw [if_pos hj, if_pos (by omega)]
      · rw [if_neg hj, if_neg (by omega)]
theorem mid_zero {h v : List Nat} : vecN 8 (mid h v 0) = vecN 8 h := by
  apply Vector.toArray_inj.1
  apply Array.toList_inj.1
  apply List.ext_getElem
  · simp [vecN]
  · intro j h1 h2
    simp [vecN, mid, List.getD_eq_getElem?_getD]
theorem mid_last {h : List Nat} {s : List UInt8} : mid h (vs (wds s 64) h 64) 8 = blk h s := by
  unfold mid blk blkW
  apply List.map_congr_left
  intro j hj
  rw [if_pos (by simpa using hj)]

theorem step_eq {k : Nat} {h : List Nat} {s : List UInt8} (hk : 64 < k) (hs : s.length = 64) (hh : W32 h) : p_sum_step k (vecN 8 h) s = some (vecN 8 (blk h s)) := by
  unfold p_sum_step
  rw [words_eq hk hs, Option.bind_some, rounds_eq, Option.bind_some]
  unfold joinC
  have L := loop_count (body := fun (r : Int × Vector Int (8) × Vector Int (8) × Vector Int (64) × Vector Int (64) × Vector Int (8) → Option (Vector Int (8))) y => p_sum_step.b3 k (fun y => p_sum_step.j0 k y.1 y.2.1 y.2.2) r y.1 y.2.1 y.2.2.1 y.2.2.2.1 y.2.2.2.2.1 y.2.2.2.2.2) (res := some (vecN 8 (blk h s))) 64 k
    (fun i => ((i : Int), vecN 8 h, Vector.replicate 8 (dflt (T.int IntKind.u32)), vecN 64 (wds s 64), vecN 64 KL, vecN 8 (vs (wds s 64) h i))) (by omega) ?_ ?_
  · exact L
  · intro i hi rec
    exact step_round hi (vs_w32 hh i).get
  · intro rec
    have h1 : decide (((64 : Nat) : Int) < (64 : Int)) = false := by decide
    show p_sum_step.b3 k _ rec ((64 : Nat) : Int) _ _ _ _ _ = _
    unfold p_sum_step.b3
    rw [h1, cond_false]
    show p_sum_step.j0 k (vecN 8 h) _ (vecN 8 (vs (wds s 64) h 64)) = _
    unfold p_sum_step.j0 joinC
    have L := loop_count (body := fun (r : Int × Vector Int (8) × Vector Int (8) × Vector Int (8) → Option (Vector Int (8))) y => p_sum_step.b2 k (fun y => p_sum_step.j1 k y.1 y.2) r y.1 y.2.1 y.2.2.1 y.2.2.2) (res := some (vecN 8 (blk h s))) 8 k
      (fun i => ((i : Int), vecN 8 (mid h (vs (wds s 64) h 64) i), Vector.replicate 8 (dflt (T.int IntKind.u32)), vecN 8 (vs (wds s 64) h 64))) (by omega) ?_ ?_
    · rw [mid_zero] at L
      exact L
    · intro i hi rec
      have h1 : decide ((i : Int) < (8 : Int)) = true := by simpa using (by omega : (i : Int) < 8)
      show p_sum_step.b2 k _ rec (i : Int) (vecN 8 (mid h (vs (wds s 64) h 64) i)) _ (vecN 8 (vs (wds s 64) h 64)) = _
      unfold p_sum_step.b2
      rw [h1, cond_true, need_yes (by omega), need_yes (by omega), need_yes (by omega), at_vecN hi, at_vecN hi, mid_get hi, wrap_i64 (by omega)]
      have e : IntKind.wrap .u32 (((h.getD i 0 : Nat) : Int) + (((vs (wds s 64) h 64).getD i 0 : Nat) : Int)) = (((h.getD i 0 + (vs (wds s 64) h 64).getD i 0) % 4294967296 : Nat) : Int) := by rw [wrap_u32]; omega
      rw [e, vset_vecN2 (by simpa [mid] using hi), mid_succ]
      rfl
    · intro rec
      have h1 : decide (((8 : Nat) : Int) < (8 : Int)) = false := by decide
      show p_sum_step.b2 k _ rec ((8 : Nat) : Int) (vecN 8 (mid h (vs (wds s 64) h 64) 8)) _ (vecN 8 (vs (wds s 64) h 64)) = _
      unfold p_sum_step.b2
      rw [h1, cond_false, mid_last]
      rfl

/-! the document's -/
def part (s : List UInt8) (i : Nat) : Nat → Nat
  | 0 => 0
  | j + 1 => 256 * part s i j + byt s (4 * i + j)
theorem part_lt (s : List UInt8) (i : Nat) : ∀ j, part s i j < 256 ^ j
  | 0 => by simp [part]
  | j + 1 => by
    have := part_lt s i j
    have := byt_lt s (4 * i + j)
    simp only [part, Nat.pow_succ]; omega
theorem part_four (s : List UInt8) (i : Nat) : part s i 4 = bword s i := by simp only [part, bword, Nat.add_zero]; omega

theorem blockw_lo {k : Nat} {J1 : List Int × List Int → Option (List Int)} {rec : List Int × List UInt8 × Int × List Int → Option (List Int)} {x : List Int} {s : List UInt8} {i : Nat} (hk : 64 < k) (hs : s.length = 64) (hi : i < 16) :
    p_dormouseref03_Block.b5 k J1 rec x s (i : Int) (casts (wds s i)) = rec (x, s, ((i + 1 : Nat) : Int), casts (wds s (i + 1))) := by
  unfold p_dormouseref03_Block.b5
  have h1 : decide ((i : Int) < (64 : Int)) = true := by simpa using (by omega : (i : Int) < 64)
  have h2 : decide ((i : Int) < (16 : Int)) = true := by simpa using (by omega : (i : Int) < 16)
  unfold joinC
  rw [h1, cond_true]
  simp only [h2, cond_true]
  have hw : IntKind.wrap .i64 (4 * (i : Int)) = ((4 * i : Nat) : Int) := by rw [wrap_i64 (by omega)]; omega
  have hw4 : IntKind.wrap .i64 (((4 * i : Nat) : Int) + 4) = ((4 * i + 4 : Nat) : Int) := by rw [wrap_i64 (by omega)]; omega
  rw [hw]
  have L := loop_count (body := fun (r : List Int × List UInt8 × Int × Int × Int × List Int → Option (List Int)) y => p_dormouseref03_Block.b9 k (fun y => p_dormouseref03_Block.j8 k (fun y => p_dormouseref03_Block.j6 k rec y.1 y.2.1 y.2.2.1 y.2.2.2) y.1 y.2.1 y.2.2.1 y.2.2.2.1 y.2.2.2.2) r y.1 y.2.1 y.2.2.1 y.2.2.2.1 y.2.2.2.2.1 y.2.2.2.2.2) (res := rec (x, s, ((i + 1 : Nat) : Int), casts (wds s (i + 1)))) 4 k
    (fun j => (x, s, (i : Int), ((part s i j : Nat) : Int), ((4 * i + j : Nat) : Int), casts (wds s i))) (by omega) ?_ ?_
  · exact L
  · intro j hj rec
    show p_dormouseref03_Block.b9 k _ rec x s (i : Int) ((part s i j : Nat) : Int) ((4 * i + j : Nat) : Int) (casts (wds s i)) = _
    unfold p_dormouseref03_Block.b9
    rw [hw, hw4]
    have h3 : decide (((4 * i + j : Nat) : Int) < ((4 * i + 4 : Nat) : Int)) = true := by simpa using (by omega : ((4 * i + j : Nat) : Int) < ((4 * i + 4 : Nat) : Int))
    have hp : part s i j < 16777216 := Nat.lt_of_lt_of_le (part_lt s i j) (Nat.pow_le_pow_right (n := 256) (by omega) (show j ≤ 3 by omega))
    have hb := byt_lt s (4 * i + j)
    have e : IntKind.wrap .u64 (IntKind.wrap .u64 (256 * ((part s i j : Nat) : Int)) + IntKind.wrap .u64 ((byt s (4 * i + j) : Nat) : Int)) = ((part s i (j + 1) : Nat) : Int) := by simp only [wrap_u64, part]; omega
    have e2 : IntKind.wrap .i64 (((4 * i + j : Nat) : Int) + 1) = ((4 * i + (j + 1) : Nat) : Int) := by rw [wrap_i64 (by omega)]; omega
    rw [h3, cond_true, need_yes (by omega), bat_byt, e, e2]
  · intro rec
    show p_dormouseref03_Block.b9 k _ rec x s (i : Int) ((part s i 4 : Nat) : Int) ((4 * i + 4 : Nat) : Int) (casts (wds s i)) = _
    unfold p_dormouseref03_Block.b9
    rw [hw, hw4]
    have h3 : decide (((4 * i + 4 : Nat) : Int) < ((4 * i + 4 : Nat) : Int)) = false := by simp
    rw [h3, cond_false, part_four]
    show p_dormouseref03_Block.j8 k _ x s (i : Int) ((bword s i : Nat) : Int) (casts (wds s i)) = _
    unfold p_dormouseref03_Block.j8
    rw [tb37, need_yes (by rw [casts_len, wds_len]; simp only [List.length_cons, List.length_nil]; omega), casts_app, ← wds_succ_lo hi]
    show p_dormouseref03_Block.j6 k _ x s (i : Int) (casts (wds s (i + 1))) = _
    unfold p_dormouseref03_Block.j6
    rw [wrap_i64 (by omega)]
    rfl

theorem xor_u64B {a b c : Nat} (ha : a < 4294967296) (hb : b < 4294967296) (hc : c < 4294967296) : ixor .u64 (ixor .u64 (a : Int) (b : Int)) (c : Int) = ((a ^^^ b ^^^ c : Nat) : Int) := xor3_u64 ha hb hc

theorem blockw_hi {k : Nat} {J1 : List Int × List Int → Option (List Int)} {rec : List Int × List UInt8 × Int × List Int → Option (List Int)} {x : List Int} {s : List UInt8} {i : Nat} (hk : 64 < k) (hi : 16 ≤ i) (hi2 : i < 64) :
    p_dormouseref03_Block.b5 k J1 rec x s (i : Int) (casts (wds s i)) = rec (x, s, ((i + 1 : Nat) : Int), casts (wds s (i + 1))) := by
  unfold p_dormouseref03_Block.b5
  have h1 : decide ((i : Int) < (64 : Int)) = true := by simpa using (by omega : (i : Int) < 64)
  have h2 : decide ((i : Int) < (16 : Int)) = false := by simpa using (by omega : 16 ≤ (i : Int))
  unfold joinC
  rw [h1, cond_true]
  simp only [h2, cond_false]
  unfold p_dormouseref03_Block.j7
  have x16 : IntKind.wrap .i64 ((i : Int) - 16) = ((i - 16 : Nat) : Int) := by rw [wrap_i64 (by omega)]; omega
  have x15 : IntKind.wrap .i64 ((i : Int) - 15) = ((i - 15 : Nat) : Int) := by rw [wrap_i64 (by omega)]; omega
  have x7 : IntKind.wrap .i64 ((i : Int) - 7) = ((i - 7 : Nat) : Int) := by rw [wrap_i64 (by omega)]; omega
  have x2 : IntKind.wrap .i64 ((i : Int) - 2) = ((i - 2 : Nat) : Int) := by rw [wrap_i64 (by omega)]; omega
  have hd : dflt (T.int IntKind.u64) = (0 : Int) := rfl
  have ba := wds_getD_lt s i (i - 15)
  have bb := wds_getD_lt s i (i - 2)
  have bc := wds_getD_lt s i (i - 16)
  have bd := wds_getD_lt s i (i - 7)
  have t1 := turn_eq (k := k) (n := 7) (x := (wds s i).getD (i - 15) 0) (by omega) (by omega) ba
  have t2 := turn_eq (k := k) (n := 18) (x := (wds s i).getD (i - 15) 0) (by omega) (by omega) ba
  have t3 := shift_eq (k := k) (n := 3) (x := (wds s i).getD (i - 15) 0) (by omega) (by omega) ba
  have t4 := turn_eq (k := k) (n := 17) (x := (wds s i).getD (i - 2) 0) (by omega) (by omega) bb
  have t5 := turn_eq (k := k) (n := 19) (x := (wds s i).getD (i - 2) 0) (by omega) (by omega) bb
  have t6 := shift_eq (k := k) (n := 10) (x := (wds s i).getD (i - 2) 0) (by omega) (by omega) bb
  simp only [Int.cast_ofNat_Int] at t1 t2 t3 t4 t5 t6
  have m1 := mixB_lt (x := (wds s i).getD (i - 15) 0) (a := 7) (b := 18) (c := 3) (by omega) (by omega) ba
  have m2 := mixB_lt (x := (wds s i).getD (i - 2) 0) (a := 17) (b := 19) (c := 10) (by omega) (by omega) bb
  have q1 := xor3_u64 (rot_lt (n := 7) (by omega) ba) (rot_lt (n := 18) (by omega) ba) (Nat.lt_of_le_of_lt (Nat.div_le_self _ (2 ^ 3)) ba)
  have q2 := xor3_u64 (rot_lt (n := 17) (by omega) bb) (rot_lt (n := 19) (by omega) bb) (Nat.lt_of_le_of_lt (Nat.div_le_self _ (2 ^ 10)) bb)
  have hl : ∀ n : Nat, n < i → ((0 : Int) ≤ (n : Int) ∧ (n : Int) < ((casts (wds s i)).length : Int)) := fun n hn => by rw [casts_len, wds_len]; omega
  simp only [hd, x16, x15, x7, x2, at_casts, t1, t2, t3, t4, t5, t6, Option.bind_some, q1, q2]
  rw [need_yes (hl _ (by omega)), need_yes (hl _ (by omega)), need_yes (hl _ (by omega)), need_yes (hl _ (by omega))]
  have e : IntKind.wrap .u64 (IntKind.wrap .u64 (IntKind.wrap .u64 ((((wds s i).getD (i - 16) 0 : Nat) : Int) + ((mixB ((wds s i).getD (i - 15) 0) 7 18 3 : Nat) : Int)) + (((wds s i).getD (i - 7) 0 : Nat) : Int)) + ((mixB ((wds s i).getD (i - 2) 0) 17 19 10 : Nat) : Int)) =
      (((wds s i).getD (i - 16) 0 + mixB ((wds s i).getD (i - 15) 0) 7 18 3 + (wds s i).getD (i - 7) 0 + mixB ((wds s i).getD (i - 2) 0) 17 19 10 : Nat) : Int) := by simp only [wrap_u64]; omega
  unfold mixB at e
  rw [e, low_eq, Option.bind_some, tb37, need_yes (by rw [casts_len, wds_len]; simp only [List.length_cons, List.length_nil]; omega), casts_app]
  unfold p_dormouseref03_Block.j6
  rw [wrap_i64 (by omega), wds_succ_hi hi]
  rfl

theorem block_tail {k : Nat} {h w : List Nat} (hk : 64 < k) (h8 : h.length = 8) (hh : W32 h) : p_dormouseref03_Block.j1 k (casts h) (casts (vs w h 64)) = some (casts (blkW h w)) := by
  have hv8 : (vs w h 64).length = 8 := vs_len h8 64
  have hvl : W32 (vs w h 64) := vs_w32 hh 64
  have hb : blkW h w = (List.range 8).map fun j => (h.getD j 0 + (vs w h 64).getD j 0) % 4294967296 := rfl
  generalize blkW h w = z at *
  generalize vs w h 64 = v at *
  have hz8 : z.length = 8 := by rw [hb]; simp
  unfold p_dormouseref03_Block.j1 joinC
  have L := loop_count (body := fun (r : List Int × Int × List Int × List Int → Option (List Int)) y => p_dormouseref03_Block.b3 k (p_dormouseref03_Block.j2 k) r y.1 y.2.1 y.2.2.1 y.2.2.2) (res := some (casts z)) 8 k
    (fun i => (casts h, (i : Int), casts v, casts (z.take i))) (by omega) ?_ ?_
  · exact L
  · intro i hi rec
    have h1 : decide ((i : Int) < (8 : Int)) = true := by simpa using (by omega : (i : Int) < 8)
    have hd : dflt (T.int IntKind.u64) = (0 : Int) := rfl
    dsimp only
    unfold p_dormouseref03_Block.b3
    have ba := hh.get i
    have bb := hvl.get i
    rw [h1, cond_true, need_yes (by rw [casts_len, h8]; omega), need_yes (by rw [casts_len, hv8]; omega), hd, at_casts, at_casts, sum2 ba bb, low_eq, Option.bind_some, tb37, need_yes (by rw [casts_len, List.length_take, hz8]; simp only [List.length_cons, List.length_nil]; omega), casts_app, wrap_i64 (by omega)]
    have e : z.take i ++ [(h.getD i 0 + v.getD i 0) % 4294967296] = z.take (i + 1) := by
      have hlt : i < z.length := by rw [hz8]; exact hi
      rw [List.take_succ_eq_append_getElem hlt]
      congr 2
      simp [hb]
    rw [e]
    rfl
  · intro rec
    have h1 : decide (((8 : Nat) : Int) < (8 : Int)) = false := by decide
    dsimp only
    unfold p_dormouseref03_Block.b3
    rw [h1, cond_false, List.take_of_length_le (by rw [hz8]; omega)]
    rfl

theorem block_rounds {k : Nat} {h w : List Nat} (hk : 64 < k) (hw : w.length = 64) (hwl : ∀ j, w.getD j 0 < 4294967296) (h8 : h.length = 8) (hh : W32 h) : p_dormouseref03_Block.j0 k (casts h) (casts w) = some (casts (blkW h w)) := by
  have ht := block_tail (w := w) hk h8 hh
  generalize blkW h w = z at *
  unfold p_dormouseref03_Block.j0 joinC
  rw [tb37, need_yes (by rw [casts_len, h8]; omega), List.nil_append, b4F_eq]
  have hK : ∀ i : Nat, i < 64 → p_dormouseref03_K (i : Int) = some ((KL.getD i 0 : Nat) : Int) := fun i hi => K_eq hi
  generalize p_dormouseref03_K = F at *
  have L := loop_count (body := fun (r : List Int × Int × List Int × List Int → Option (List Int)) y => b4F F k (fun y => p_dormouseref03_Block.j1 k y.1 y.2) r y.1 y.2.1 y.2.2.1 y.2.2.2) (res := some (casts z)) 64 k
    (fun i => (casts h, (i : Int), casts w, casts (vs w h i))) (by omega) ?_ ?_
  · exact L
  · intro i hi rec
    exact block_roundF (F := F) (kk := KL.getD i 0) (k := k) (rec := rec) (i := i) (x := casts h) (wl := w) (l := vs w h i) (hK i hi) (KL_lt i) (by omega) hi hw hwl (vs_len h8 i) (vs_w32 hh i).get
  · intro rec
    have h1 : decide (((64 : Nat) : Int) < (64 : Int)) = false := by decide
    dsimp only
    generalize vs w h 64 = v at *
    unfold b4F
    rw [h1, cond_false]
    exact ht

theorem block_eq {k : Nat} {h : List Nat} {s : List UInt8} (hk : 64 < k) (hs : s.length = 64) (h8 : h.length = 8) (hh : W32 h) : p_dormouseref03_Block k (casts h) s = some (casts (blk h s)) := by
  have ht := block_rounds (w := wds s 64) hk (wds_len s 64) (wds_getD_lt s 64) h8 hh
  rw [← blk] at ht
  generalize blk h s = z at *
  unfold p_dormouseref03_Block joinC
  have L := loop_count (body := fun (r : List Int × List UInt8 × Int × List Int → Option (List Int)) y => p_dormouseref03_Block.b5 k (fun y => p_dormouseref03_Block.j0 k y.1 y.2) r y.1 y.2.1 y.2.2.1 y.2.2.2) (res := some (casts z)) 64 k
    (fun i => (casts h, s, (i : Int), casts (wds s i))) (by omega) ?_ ?_
  · exact L
  · intro i hi rec
    by_cases h16 : i < 16
    · exact blockw_lo hk hs h16
    · exact blockw_hi hk (by omega) hi
  · intro rec
    dsimp only
    generalize wds s 64 = w at *
    unfold p_dormouseref03_Block.b5
    have h1 : decide (((64 : Nat) : Int) < (64 : Int)) = false := by decide
    rw [h1, cond_false]
    exact ht
end Go.Dor
