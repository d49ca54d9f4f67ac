/- THE WORDS of a block, on both sides. -/
import Derived.Test.YtejhoahklkbgpaaNd
import Derived.KernelRfl
namespace Go.Dor
open Go.Proofs

set_option maxRecDepth 100000 in
theorem tb5 : Go.TypeInfo.bytes (Go.Tables.types (Go.Program.toTables Go.Proofs.Try.prog))[(5 : Nat)] = 1 := by kernel_rfl
set_option maxRecDepth 100000 in
theorem tb37 : Go.TypeInfo.bytes (Go.Tables.types (Go.Program.toTables Go.Proofs.Try.prog))[(37 : Nat)] = 8 := by kernel_rfl
theorem need_yes {α : Type} {c : Prop} [Decidable c] {x : Option α} (h : c) : need c x = x := if_pos h

/-- a byte of a text -/
def byt (s : List UInt8) (j : Nat) : Nat := (s.getD j 0).toNat
theorem byt_lt (s : List UInt8) (j : Nat) : byt s j < 256 := UInt8.toNat_lt _
theorem bat_byt {s : List UInt8} {j : Nat} : bat s (j : Int) = (byt s j : Int) := by simp [bat, byt]
/-- word i of a block -/
def bword (s : List UInt8) (i : Nat) : Nat := 16777216 * byt s (4 * i) + 65536 * byt s (4 * i + 1) + 256 * byt s (4 * i + 2) + byt s (4 * i + 3)
theorem bword_sum (s : List UInt8) (i : Nat) : (byt s (4 * i) * 65536 + byt s (4 * i + 1) * 256 + byt s (4 * i + 2)) * 256 + byt s (4 * i + 3) = bword s i := by unfold bword; omega
theorem bword_lt (s : List UInt8) (i : Nat) : bword s i < 4294967296 := by
  unfold bword
  have := byt_lt s (4 * i); have := byt_lt s (4 * i + 1); have := byt_lt s (4 * i + 2); have := byt_lt s (4 * i + 3)
  omega
/-- a word made of those ahead -/
def xword (l : List Nat) (i : Nat) : Nat := (l.getD (i - 16) 0 + mixB (l.getD (i - 15) 0) 7 18 3 + l.getD (i - 7) 0 + mixB (l.getD (i - 2) 0) 17 19 10) % 4294967296
def wds (s : List UInt8) : Nat → List Nat
  | 0 => []
  | i + 1 => wds s i ++ [if i < 16 then bword s i else xword (wds s i) i]
theorem wds_len (s : List UInt8) : ∀ i, (wds s i).length = i
  | 0 => rfl
  | i + 1 => by simp [wds, wds_len s i]
theorem getD_lt {l : List Nat} {B : Nat} (hB : 0 < B) (h : ∀ x ∈ l, x < B) (j : Nat) : l.getD j 0 < B := by
  rw [List.getD_eq_getElem?_getD]
  cases e : l[j]? with
  | none => exact hB
  | some y => exact h y (List.mem_of_getElem? e)
theorem wds_lt (s : List UInt8) : ∀ i, ∀ x ∈ wds s i, x < 4294967296
  | 0 => by simp [wds]
  | i + 1 => by
    intro x hx
    simp only [wds, List.mem_append, List.mem_singleton] at hx
    rcases hx with hx | rfl
    · exact wds_lt s i x hx
    · split
      · exact bword_lt s i
      · exact Nat.mod_lt _ (by omega)
theorem wds_getD_lt (s : List UInt8) (i j : Nat) : (wds s i).getD j 0 < 4294967296 := getD_lt (by omega) (wds_lt s i) j

theorem vset_vecN {n i : Nat} {l : List Nat} {v : Nat} (hl : l.length = i) : vset (vecN n l) (i : Int) (v : Int) = vecN n (l ++ [v]) := by
  apply Vector.toArray_inj.1
  apply Array.toList_inj.1
  show (vecN n l).toList.set (i : Int).toNat (v : Int) = (vecN n (l ++ [v])).toList
  apply List.ext_getElem
  · simp [vecN]
  · intro j h1 h2
    simp only [vecN, Vector.toList_ofFn, Int.toNat_natCast, List.getElem_set, List.getElem_ofFn]
    simp only [List.getD_eq_getElem?_getD]
    split
    · rename_i h; subst h; simp [← hl]
    · rename_i h
      by_cases hj : j < l.length
      · simp [hj, List.getElem?_append_left hj]
      · have h3 : l.length + 1 ≤ j := by omega
        rw [List.getElem?_eq_none (by omega), List.getElem?_eq_none (by simp; omega)]
theorem casts_app {l : List Nat} {v : Nat} : casts l ++ [(v : Int)] = casts (l ++ [v]) := by simp [casts]
theorem repl_vecN (n : Nat) : Vector.replicate n (0 : Int) = vecN n [] := by
  apply Vector.toArray_inj.1
  apply Array.toList_inj.1
  apply List.ext_getElem <;> simp [vecN]

theorem or_lit {a b c p : Nat} (n : Nat) (hp : 2 ^ n = p) (h : a = c * p) (hb : b < p) : a ||| b = a + b := by
  subst hp; subst h; exact or_add hb
theorem or_u32 {a b c : Nat} (ha : a < 4294967296) (hb : b < 4294967296) (h : a ||| b = c) : ior .u32 (a : Int) (b : Int) = (c : Int) := by
  rw [or_nat (k := .u32) rfl ha hb, h]
theorem word_sum {s : List UInt8} {i : Nat} (l0 : byt s (4 * i) < 256) (l1 : byt s (4 * i + 1) < 256) (l2 : byt s (4 * i + 2) < 256) (l3 : byt s (4 * i + 3) < 256) :
    some (ior .u32 (ior .u32 (ior .u32 ((byt s (4 * i) * 16777216 % 4294967296 : Nat) : Int) ((byt s (4 * i + 1) * 65536 % 4294967296 : Nat) : Int)) ((byt s (4 * i + 2) * 256 % 4294967296 : Nat) : Int)) ((byt s (4 * i + 3) : Nat) : Int)) = some ((bword s i : Nat) : Int) := by
  unfold bword
  generalize byt s (4 * i) = a at *
  generalize byt s (4 * i + 1) = b at *
  generalize byt s (4 * i + 2) = c at *
  generalize byt s (4 * i + 3) = d at *
  rw [Nat.mod_eq_of_lt (by omega), Nat.mod_eq_of_lt (by omega), Nat.mod_eq_of_lt (by omega)]
  rw [or_u32 (c := a * 16777216 + b * 65536) (by omega) (by omega) (or_lit (c := a) 24 rfl rfl (by omega))]
  rw [or_u32 (c := a * 16777216 + b * 65536 + c * 256) (by omega) (by omega) (or_lit (c := a * 256 + b) 16 rfl (by omega) (by omega))]
  rw [or_u32 (c := a * 16777216 + b * 65536 + c * 256 + d) (by omega) (by omega) (or_lit (c := a * 65536 + b * 256 + c) 8 rfl (by omega) (by omega))]
  congr 2; omega
theorem word_eq {s : List UInt8} {i : Nat} (h : 4 * i + 4 ≤ s.length) : p_sum_word (s.drop (4 * i)) = some ((bword s i : Nat) : Int) := by
  have b : ∀ j : Nat, bat (s.drop (4 * i)) (j : Int) = (byt s (4 * i + j) : Int) := fun j => by
    simp only [bat, byt, Int.toNat_natCast, List.getD_eq_getElem?_getD, List.getElem?_drop]
  have b0 := b 0; have b1 := b 1; have b2 := b 2; have b3 := b 3
  simp only [Int.cast_ofNat_Int] at b0 b1 b2 b3
  have hlen : ((s.drop (4 * i)).length : Int) = (s.length : Int) - 4 * i := by rw [List.length_drop]; omega
  have l0 := byt_lt s (4 * i); have l1 := byt_lt s (4 * i + 1); have l2 := byt_lt s (4 * i + 2); have l3 := byt_lt s (4 * i + 3)
  unfold p_sum_word
  rw [need_yes (by rw [hlen]; omega), need_yes (by rw [hlen]; omega), need_yes (by rw [hlen]; omega), need_yes (by rw [hlen]; omega)]
  have w : ∀ x : Nat, x < 256 → IntKind.wrap .u32 (x : Int) = (x : Int) := fun x hx => by rw [wrap_u32]; omega
  simp only [Nat.add_zero] at b0
  rw [b0, b1, b2, b3, w _ l0, w _ l1, w _ l2, w _ l3]
  have s24 := shl_nat (k := .u32) (a := byt s (4 * i)) (n := 24) rfl (by show 24 ≤ 32; omega)
  have s16 := shl_nat (k := .u32) (a := byt s (4 * i + 1)) (n := 16) rfl (by show 16 ≤ 32; omega)
  have s8 := shl_nat (k := .u32) (a := byt s (4 * i + 2)) (n := 8) rfl (by show 8 ≤ 32; omega)
  simp only [Int.cast_ofNat_Int] at s24 s16 s8
  have e32 : 2 ^ IntKind.bits .u32 = 4294967296 := rfl
  have p24 : (2 : Nat) ^ 24 = 16777216 := rfl
  have p16 : (2 : Nat) ^ 16 = 65536 := rfl
  have p8 : (2 : Nat) ^ 8 = 256 := rfl
  rw [e32, p24] at s24
  rw [e32, p16] at s16
  rw [e32, p8] at s8
  rw [s24, s16, s8]
  exact word_sum l0 l1 l2 l3

theorem wds_succ_lo {s : List UInt8} {i : Nat} (h : i < 16) : wds s (i + 1) = wds s i ++ [bword s i] := by simp [wds, h]
theorem wds_succ_hi {s : List UInt8} {i : Nat} (h : 16 ≤ i) : wds s (i + 1) = wds s i ++ [xword (wds s i) i] := by simp [wds]; omega

theorem words_eq {k : Nat} {s : List UInt8} (hk : 64 < k) (hs : s.length = 64) : p_sum_words k s = some (vecN 64 (wds s 64)) := by
  have hz : dflt (T.int IntKind.u32) = (0 : Int) := rfl
  unfold p_sum_words
  rw [hz, repl_vecN]
  unfold joinC
  have h := loop_count (body := fun (r : List UInt8 × Int × Vector Int (64) × Vector Int (64) → Option (Vector Int (64))) y => p_sum_words.b3 k (fun y => p_sum_words.j0 k y.1 y.2) r y.1 y.2.1 y.2.2.1 y.2.2.2) (res := some (vecN 64 (wds s 64))) 16 k (fun i => (s, (i : Int), vecN 64 [], vecN 64 (wds s i))) (by omega) ?_ ?_
  · exact h
  · intro i hi rec
    have h1 : decide ((i : Int) < (16 : Int)) = true := by simpa using (by omega : (i : Int) < 16)
    have hw : IntKind.wrap .i64 (4 * (i : Int)) = ((4 * i : Nat) : Int) := by rw [wrap_i64 (by omega)]; omega
    have hsub : sub_ s ((4 * i : Nat) : Int) (s.length : Int) = s.drop (4 * i) := by rw [sub_, Int.toNat_natCast, Int.toNat_natCast, List.take_length]
    show p_sum_words.b3 k _ rec s (i : Int) (vecN 64 []) (vecN 64 (wds s i)) = _
    unfold p_sum_words.b3
    rw [h1, cond_true, hw, need_yes (by rw [hs]; omega), hsub, word_eq (by omega), Option.bind_some, need_yes (by omega), wrap_i64 (by omega), vset_vecN (wds_len s i), wds_succ_lo hi]
    rfl
  · intro rec
    show p_sum_words.b3 k _ rec s ((16 : Nat) : Int) (vecN 64 []) (vecN 64 (wds s 16)) = _
    unfold p_sum_words.b3
    have h1 : decide (((16 : Nat) : Int) < (16 : Int)) = false := by decide
    rw [h1, cond_false]
    show p_sum_words.j0 k (vecN 64 []) (vecN 64 (wds s 16)) = _
    unfold p_sum_words.j0 joinC
    have h := loop_count (body := fun (r : Int × Vector Int (64) × Vector Int (64) → Option (Vector Int (64))) y => p_sum_words.b2 k (fun y => p_sum_words.j1 k y.1 y.2) r y.1 y.2.1 y.2.2) (res := some (vecN 64 (wds s 64))) 48 k (fun i => (((16 + i : Nat) : Int), vecN 64 [], vecN 64 (wds s (16 + i)))) (by omega) ?_ ?_
    · exact h
    · intro i hi rec
      have h1 : decide (((16 + i : Nat) : Int) < (64 : Int)) = true := by simpa using (by omega : ((16 + i : Nat) : Int) < 64)
      show p_sum_words.b2 k _ rec ((16 + i : Nat) : Int) (vecN 64 []) (vecN 64 (wds s (16 + i))) = _
      have x16 : IntKind.wrap .i64 (((16 + i : Nat) : Int) - 16) = ((16 + i - 16 : Nat) : Int) := by rw [wrap_i64 (by omega)]; omega
      have x15 : IntKind.wrap .i64 (((16 + i : Nat) : Int) - 15) = ((16 + i - 15 : Nat) : Int) := by rw [wrap_i64 (by omega)]; omega
      have x7 : IntKind.wrap .i64 (((16 + i : Nat) : Int) - 7) = ((16 + i - 7 : Nat) : Int) := by rw [wrap_i64 (by omega)]; omega
      have x2 : IntKind.wrap .i64 (((16 + i : Nat) : Int) - 2) = ((16 + i - 2 : Nat) : Int) := by rw [wrap_i64 (by omega)]; omega
      have x1 : IntKind.wrap .i64 (((16 + i : Nat) : Int) + 1) = ((16 + i + 1 : Nat) : Int) := by rw [wrap_i64 (by omega)]; omega
      have m1 := mix_true (x := (wds s (16 + i)).getD (16 + i - 15) 0) (a := 7) (b := 18) (c := 3) (by omega) (by omega) (by omega) (wds_getD_lt _ _ _)
      have m2 := mix_true (x := (wds s (16 + i)).getD (16 + i - 2) 0) (a := 17) (b := 19) (c := 10) (by omega) (by omega) (by omega) (wds_getD_lt _ _ _)
      simp only [Int.cast_ofNat_Int] at m1 m2
      unfold p_sum_words.b2
      rw [h1, cond_true, x16, x15, x7, x2, x1, need_yes (by omega), need_yes (by omega), at_vecN (by omega), m1, Option.bind_some, need_yes (by omega), need_yes (by omega), at_vecN (by omega), m2, Option.bind_some, need_yes (by omega), at_vecN (by omega), at_vecN (by omega)]
      have e : IntKind.wrap .u32 (IntKind.wrap .u32 (IntKind.wrap .u32 ((((wds s (16 + i)).getD (16 + i - 16) 0 : Nat) : Int) + ((mixB ((wds s (16 + i)).getD (16 + i - 15) 0) 7 18 3 : Nat) : Int)) + (((wds s (16 + i)).getD (16 + i - 7) 0 : Nat) : Int)) + ((mixB ((wds s (16 + i)).getD (16 + i - 2) 0) 17 19 10 : Nat) : Int)) = ((xword (wds s (16 + i)) (16 + i) : Nat) : Int) := by
        unfold xword
        simp only [wrap_u32]; omega
      rw [e, vset_vecN (wds_len s (16 + i)), ← wds_succ_hi (by omega)]
      rfl
    · intro rec
      show p_sum_words.b2 k _ rec ((64 : Nat) : Int) (vecN 64 []) (vecN 64 (wds s 64)) = _
      unfold p_sum_words.b2
      have h1 : decide (((64 : Nat) : Int) < (64 : Int)) = false := by decide
      rw [h1, cond_false]
      rfl
end Go.Dor
