/- THE DOCUMENT's ROUND. -/
import Derived.Test.YtejhoahklkbgpaaNc
namespace Go.Dor
open Go.Proofs

def KL : List Nat := [1116352408, 1899447441, 3049323471, 3921009573, 961987163, 1508970993, 2453635748, 2870763221, 3624381080, 310598401, 607225278, 1426881987, 1925078388, 2162078206, 2614888103, 3248222580, 3835390401, 4022224774, 264347078, 604807628, 770255983, 1249150122, 1555081692, 1996064986, 2554220882, 2821834349, 2952996808, 3210313671, 3336571891, 3584528711, 113926993, 338241895, 666307205, 773529912, 1294757372, 1396182291, 1695183700, 1986661051, 2177026350, 2456956037, 2730485921, 2820302411, 3259730800, 3345764771, 3516065817, 3600352804, 4094571909, 275423344, 430227734, 506948616, 659060556, 883997877, 958139571, 1322822218, 1537002063, 1747873779, 1955562222, 2024104815, 2227730452, 2361852424, 2428436474, 2756734187, 3204031479, 3329325298]
def casts (l : List Nat) : List Int := l.map fun (n : Nat) => (n : Int)
theorem at_casts {i : Nat} {l : List Nat} : at_ 0 (casts l) (i : Int) = ((l.getD i 0 : Nat) : Int) := by
  unfold at_ casts
  rw [Int.toNat_natCast, List.getD_eq_getElem?_getD, List.getD_eq_getElem?_getD, List.getElem?_map]
  cases l[i]? <;> rfl
theorem casts_len (l : List Nat) : (casts l).length = l.length := by simp [casts]
theorem K_eq {i : Nat} (hi : i < 64) : p_dormouseref03_K (i : Int) = some ((KL.getD i 0 : Nat) : Int) := by
  unfold p_dormouseref03_K
  have hc : (0 : Int) ≤ (i : Int) ∧ (i : Int) < 64 := by omega
  have h := at_casts (i := i) (l := KL)
  rw [← h, need, if_pos hc]
  rfl

theorem KL_lt (i : Nat) : KL.getD i 0 < 4294967296 := by
  have h : KL.all (fun x => Nat.blt x 4294967296) = true := by decide +kernel
  rw [List.getD_eq_getElem?_getD]
  cases e : KL[i]? with
  | none => exact (by decide : 0 < 4294967296)
  | some y => have := List.all_eq_true.1 h y (List.mem_of_getElem? e); simpa [Nat.blt_eq] using this

section
variable {a b c : Nat}
theorem or_lt (ha : a < 4294967296) (hb : b < 4294967296) : a ||| b < 4294967296 := Nat.or_lt_two_pow (n := 32) ha hb
theorem choose_u64 (ha : a < 4294967296) (hb : b < 4294967296) (hc : c < 4294967296) : ior .u64 (iand .u64 (a : Int) (b : Int)) (iand .u64 (IntKind.wrap .u64 (4294967295 - (a : Int))) (c : Int)) = (((a &&& b) ||| ((4294967295 - a) &&& c) : Nat) : Int) := by
  have h1 : IntKind.wrap .u64 (4294967295 - (a : Int)) = ((4294967295 - a : Nat) : Int) := by rw [wrap_u64]; omega
  have h64 : 2 ^ IntKind.bits .u64 = 18446744073709551616 := rfl
  have hx := and_lt (b := b) ha
  have hy := and_lt (a := 4294967295 - a) (b := c) (by omega)
  rw [h1, and_nat (k := .u64) rfl (by omega) (by omega), and_nat (k := .u64) rfl (by omega) (by omega), or_nat (k := .u64) rfl (by omega) (by omega)]
theorem most_u64 (ha : a < 4294967296) (hb : b < 4294967296) (hc : c < 4294967296) : ior .u64 (ior .u64 (iand .u64 (a : Int) (b : Int)) (iand .u64 (a : Int) (c : Int))) (iand .u64 (b : Int) (c : Int)) = (((a &&& b) ||| (a &&& c) ||| (b &&& c) : Nat) : Int) := by
  have h64 : 2 ^ IntKind.bits .u64 = 18446744073709551616 := rfl
  have hx := and_lt (b := b) ha
  have hy := and_lt (b := c) ha
  have hz := and_lt (b := c) hb
  have hxy := or_lt hx hy
  rw [and_nat (k := .u64) rfl (by omega) (by omega), and_nat (k := .u64) rfl (by omega) (by omega), and_nat (k := .u64) rfl (by omega) (by omega), or_nat (k := .u64) rfl (by omega) (by omega), or_nat (k := .u64) rfl (by omega) (by omega)]
theorem xor3_u64 (ha : a < 4294967296) (hb : b < 4294967296) (hc : c < 4294967296) : ixor .u64 (ixor .u64 (a : Int) (b : Int)) (c : Int) = ((a ^^^ b ^^^ c : Nat) : Int) := by
  have h64 : 2 ^ IntKind.bits .u64 = 18446744073709551616 := rfl
  have hx := xor_lt ha hb
  rw [xor_nat (k := .u64) rfl (by omega) (by omega), xor_nat (k := .u64) rfl (by omega) (by omega)]
end

theorem sum2 {a b : Nat} (ha : a < 4294967296) (hb : b < 4294967296) : IntKind.wrap .u64 ((a : Int) + (b : Int)) = ((a + b : Nat) : Int) := by rw [wrap_u64]; omega
theorem sum5 {a b c d e : Nat} (ha : a < 4294967296) (hb : b < 4294967296) (hc : c < 4294967296) (hd : d < 4294967296) (he : e < 4294967296) :
    IntKind.wrap .u64 (IntKind.wrap .u64 (IntKind.wrap .u64 (IntKind.wrap .u64 ((a : Int) + (b : Int)) + (c : Int)) + (d : Int)) + (e : Int)) = ((a + b + c + d + e : Nat) : Int) := by simp only [wrap_u64]; omega

noncomputable def b4F (F : Int → Option Int) (k : Nat) (j1011 : List Int × List Int → Option (List Int)) (rec994 : List Int × Int × List Int × List Int → Option (List Int)) (x962 : List Int) (x963 : Int) (x964 : List Int) (x965 : List Int) : Option (List Int) :=
  bif (decide (x963 < (64 : Int))) then need ((0 : Int) ≤ (4 : Int) ∧ (4 : Int) < (↑(List.length x965) : Int)) (need ((0 : Int) ≤ (0 : Int) ∧ (0 : Int) < (↑(List.length x965) : Int)) (need ((0 : Int) ≤ (5 : Int) ∧ (5 : Int) < (↑(List.length x965) : Int)) (need ((0 : Int) ≤ (6 : Int) ∧ (6 : Int) < (↑(List.length x965) : Int)) (need ((0 : Int) ≤ (1 : Int) ∧ (1 : Int) < (↑(List.length x965) : Int)) (need ((0 : Int) ≤ (2 : Int) ∧ (2 : Int) < (↑(List.length x965) : Int)) (need ((0 : Int) ≤ (1 : Int) ∧ (1 : Int) < (↑(List.length x965) : Int)) (need ((0 : Int) ≤ (2 : Int) ∧ (2 : Int) < (↑(List.length x965) : Int)) (need ((0 : Int) ≤ (7 : Int) ∧ (7 : Int) < (↑(List.length x965) : Int)) (Option.bind (p_dormouseref03_turn k (at_ (dflt (T.int IntKind.u64)) x965 (4 : Int)) (6 : Int)) fun t975 => Option.bind (p_dormouseref03_turn k (at_ (dflt (T.int IntKind.u64)) x965 (4 : Int)) (11 : Int)) fun t976 => Option.bind (p_dormouseref03_turn k (at_ (dflt (T.int IntKind.u64)) x965 (4 : Int)) (25 : Int)) fun t977 => Option.bind (F x963) fun t978 => need ((0 : Int) ≤ x963 ∧ x963 < (↑(List.length x964) : Int)) (Option.bind (p_dormouseref03_low (IntKind.wrap IntKind.u64 (IntKind.wrap IntKind.u64 (IntKind.wrap IntKind.u64 (IntKind.wrap IntKind.u64 (at_ (dflt (T.int IntKind.u64)) x965 (7 : Int) + ixor IntKind.u64 (ixor IntKind.u64 t975 t976) t977) + ior IntKind.u64 (iand IntKind.u64 (at_ (dflt (T.int IntKind.u64)) x965 (4 : Int)) (at_ (dflt (T.int IntKind.u64)) x965 (5 : Int))) (iand IntKind.u64 (IntKind.wrap IntKind.u64 ((4294967295 : Int) - at_ (dflt (T.int IntKind.u64)) x965 (4 : Int))) (at_ (dflt (T.int IntKind.u64)) x965 (6 : Int)))) + t978) + at_ (dflt (T.int IntKind.u64)) x964 x963))) fun t980 => Option.bind (p_dormouseref03_turn k (at_ (dflt (T.int IntKind.u64)) x965 (0 : Int)) (2 : Int)) fun t981 => Option.bind (p_dormouseref03_turn k (at_ (dflt (T.int IntKind.u64)) x965 (0 : Int)) (13 : Int)) fun t982 => Option.bind (p_dormouseref03_turn k (at_ (dflt (T.int IntKind.u64)) x965 (0 : Int)) (22 : Int)) fun t983 => Option.bind (p_dormouseref03_low (IntKind.wrap IntKind.u64 (ixor IntKind.u64 (ixor IntKind.u64 t981 t982) t983 + ior IntKind.u64 (ior IntKind.u64 (iand IntKind.u64 (at_ (dflt (T.int IntKind.u64)) x965 (0 : Int)) (at_ (dflt (T.int IntKind.u64)) x965 (1 : Int))) (iand IntKind.u64 (at_ (dflt (T.int IntKind.u64)) x965 (0 : Int)) (at_ (dflt (T.int IntKind.u64)) x965 (2 : Int)))) (iand IntKind.u64 (at_ (dflt (T.int IntKind.u64)) x965 (1 : Int)) (at_ (dflt (T.int IntKind.u64)) x965 (2 : Int)))))) fun t984 => Option.bind (p_dormouseref03_low (IntKind.wrap IntKind.u64 (t980 + t984))) fun t985 => need ((0 : Int) ≤ (0 : Int) ∧ (0 : Int) < (↑(List.length x965) : Int)) (need ((0 : Int) ≤ (1 : Int) ∧ (1 : Int) < (↑(List.length x965) : Int)) (need ((0 : Int) ≤ (2 : Int) ∧ (2 : Int) < (↑(List.length x965) : Int)) (need ((0 : Int) ≤ (3 : Int) ∧ (3 : Int) < (↑(List.length x965) : Int)) (Option.bind (p_dormouseref03_low (IntKind.wrap IntKind.u64 (at_ (dflt (T.int IntKind.u64)) x965 (3 : Int) + t980))) fun t990 => need ((0 : Int) ≤ (4 : Int) ∧ (4 : Int) < (↑(List.length x965) : Int)) (need ((0 : Int) ≤ (5 : Int) ∧ (5 : Int) < (↑(List.length x965) : Int)) (need ((0 : Int) ≤ (6 : Int) ∧ (6 : Int) < (↑(List.length x965) : Int)) (rec994 (x962, IntKind.wrap IntKind.i64 (x963 + (1 : Int)), x964, [t985, at_ (dflt (T.int IntKind.u64)) x965 (0 : Int), at_ (dflt (T.int IntKind.u64)) x965 (1 : Int), at_ (dflt (T.int IntKind.u64)) x965 (2 : Int), t990, at_ (dflt (T.int IntKind.u64)) x965 (4 : Int), at_ (dflt (T.int IntKind.u64)) x965 (5 : Int), at_ (dflt (T.int IntKind.u64)) x965 (6 : Int)])))))))))))))))))) else j1011 (x962, x965)
theorem b4F_eq : p_dormouseref03_Block.b4 = b4F p_dormouseref03_K := rfl

theorem block_roundF {F : Int → Option Int} {kk : Nat} {k : Nat} {J : List Int × List Int → Option (List Int)} {rec : List Int × Int × List Int × List Int → Option (List Int)} {i : Nat} {x : List Int} {wl l : List Nat}
    (hKe : F (i : Int) = some (kk : Int)) (hKi : kk < 4294967296) (hk : 32 < k) (hi : i < 64) (hw : wl.length = 64) (hwl : ∀ j, wl.getD j 0 < 4294967296) (h8 : l.length = 8) (hl : ∀ j, l.getD j 0 < 4294967296) :
    b4F F k J rec x (i : Int) (casts wl) (casts l) = rec (x, ((i + 1 : Nat) : Int), casts wl, casts (rnd l (kk) (wl.getD i 0))) := by
  have h1 : decide ((i : Int) < 64) = true := by simpa using (by omega : (i : Int) < 64)
  have g0 := at_casts (i := 0) (l := l)
  have g1 := at_casts (i := 1) (l := l)
  have g2 := at_casts (i := 2) (l := l)
  have g3 := at_casts (i := 3) (l := l)
  have g4 := at_casts (i := 4) (l := l)
  have g5 := at_casts (i := 5) (l := l)
  have g6 := at_casts (i := 6) (l := l)
  have g7 := at_casts (i := 7) (l := l)
  have gw := at_casts (i := i) (l := wl)
  have t1 := turn_eq (k := k) (n := 6) (x := l.getD 4 0) (by omega) (by omega) (hl 4)
  have t2 := turn_eq (k := k) (n := 11) (x := l.getD 4 0) (by omega) (by omega) (hl 4)
  have t3 := turn_eq (k := k) (n := 25) (x := l.getD 4 0) (by omega) (by omega) (hl 4)
  have t4 := turn_eq (k := k) (n := 2) (x := l.getD 0 0) (by omega) (by omega) (hl 0)
  have t5 := turn_eq (k := k) (n := 13) (x := l.getD 0 0) (by omega) (by omega) (hl 0)
  have t6 := turn_eq (k := k) (n := 22) (x := l.getD 0 0) (by omega) (by omega) (hl 0)
  simp only [Int.cast_ofNat_Int] at g0 g1 g2 g3 g4 g5 g6 g7 t1 t2 t3 t4 t5 t6
  have hc8 : ∀ n : Nat, n < 8 → ((0 : Int) ≤ (n : Int) ∧ (n : Int) < ((casts l).length : Int)) := fun n hn => by rw [casts_len, h8]; omega
  have c0 := hc8 0 (by omega)
  have c1 := hc8 1 (by omega)
  have c2 := hc8 2 (by omega)
  have c3 := hc8 3 (by omega)
  have c4 := hc8 4 (by omega)
  have c5 := hc8 5 (by omega)
  have c6 := hc8 6 (by omega)
  have c7 := hc8 7 (by omega)
  have cw : (0 : Int) ≤ (i : Int) ∧ (i : Int) < ((casts wl).length : Int) := by rw [casts_len, hw]; omega
  simp only [Int.cast_ofNat_Int] at c0 c1 c2 c3 c4 c5 c6 c7
  have xe := xor3_u64 (rot_lt (n := 6) (by omega) (hl 4)) (rot_lt (n := 11) (by omega) (hl 4)) (rot_lt (n := 25) (by omega) (hl 4))
  have xa := xor3_u64 (rot_lt (n := 2) (by omega) (hl 0)) (rot_lt (n := 13) (by omega) (hl 0)) (rot_lt (n := 22) (by omega) (hl 0))
  have hch := choose_u64 (hl 4) (hl 5) (hl 6)
  have hmo := most_u64 (hl 0) (hl 1) (hl 2)
  have bm := mixA_lt (x := l.getD 4 0) (a := 6) (b := 11) (c := 25) (by omega) (by omega) (by omega) (hl 4)
  have bn := mixA_lt (x := l.getD 0 0) (a := 2) (b := 13) (c := 22) (by omega) (by omega) (by omega) (hl 0)
  have bch := or_lt (and_lt (b := l.getD 5 0) (hl 4)) (and_lt (a := 4294967295 - l.getD 4 0) (b := l.getD 6 0) (by omega))
  have bmo := or_lt (or_lt (and_lt (b := l.getD 1 0) (hl 0)) (and_lt (b := l.getD 2 0) (hl 0))) (and_lt (b := l.getD 2 0) (hl 1))
  have b7 := hl 7
  have b3 := hl 3
  have bw := hwl i
  unfold b4F
  simp only [dflt]
  simp only [h1, cond_true, g0, g1, g2, g3, g4, g5, g6, g7, gw, t1, t2, t3, t4, t5, t6, Option.bind_some, need, c0, c1, c2, c3, c4, c5, c6, c7, cw, and_self, if_true, xe, xa, hch, hmo]
  rw [hKe, Option.bind_some, wrap_i64 (by omega)]
  have e1 : IntKind.wrap .u64 (IntKind.wrap .u64 (IntKind.wrap .u64 (IntKind.wrap .u64 (((l.getD 7 0 : Nat) : Int) + ((rot 6 (l.getD 4 0) ^^^ rot 11 (l.getD 4 0) ^^^ rot 25 (l.getD 4 0) : Nat) : Int)) + ((l.getD 4 0 &&& l.getD 5 0 ||| (4294967295 - l.getD 4 0) &&& l.getD 6 0 : Nat) : Int)) + ((kk : Nat) : Int)) + ((wl.getD i 0 : Nat) : Int)) =
      ((l.getD 7 0 + mixA (l.getD 4 0) 6 11 25 + ((l.getD 4 0 &&& l.getD 5 0) ||| ((4294967295 - l.getD 4 0) &&& l.getD 6 0)) + kk + wl.getD i 0 : Nat) : Int) := by
    exact sum5 b7 bm bch hKi bw
  have e2 : IntKind.wrap .u64 (((rot 2 (l.getD 0 0) ^^^ rot 13 (l.getD 0 0) ^^^ rot 22 (l.getD 0 0) : Nat) : Int) + ((l.getD 0 0 &&& l.getD 1 0 ||| l.getD 0 0 &&& l.getD 2 0 ||| l.getD 1 0 &&& l.getD 2 0 : Nat) : Int)) =
      ((mixA (l.getD 0 0) 2 13 22 + ((l.getD 0 0 &&& l.getD 1 0) ||| (l.getD 0 0 &&& l.getD 2 0) ||| (l.getD 1 0 &&& l.getD 2 0)) : Nat) : Int) := by
    exact sum2 bn bmo
  have hx : rx l (kk) (wl.getD i 0) < 4294967296 := Nat.mod_lt _ (by omega)
  have hy : ry l < 4294967296 := Nat.mod_lt _ (by omega)
  have e3 : IntKind.wrap .u64 (((rx l (kk) (wl.getD i 0) : Nat) : Int) + ((ry l : Nat) : Int)) = ((rx l (kk) (wl.getD i 0) + ry l : Nat) : Int) := sum2 hx hy
  have e4 : IntKind.wrap .u64 (((l.getD 3 0 : Nat) : Int) + ((rx l (kk) (wl.getD i 0) : Nat) : Int)) = ((l.getD 3 0 + rx l (kk) (wl.getD i 0) : Nat) : Int) := sum2 b3 hx
  have q1 := low_eq (l.getD 7 0 + mixA (l.getD 4 0) 6 11 25 + ((l.getD 4 0 &&& l.getD 5 0) ||| ((4294967295 - l.getD 4 0) &&& l.getD 6 0)) + kk + wl.getD i 0)
  have q2 := low_eq (mixA (l.getD 0 0) 2 13 22 + ((l.getD 0 0 &&& l.getD 1 0) ||| (l.getD 0 0 &&& l.getD 2 0) ||| (l.getD 1 0 &&& l.getD 2 0)))
  have q3 := low_eq (rx l kk (wl.getD i 0) + ry l)
  have q4 := low_eq (l.getD 3 0 + rx l kk (wl.getD i 0))
  have r1 : (l.getD 7 0 + mixA (l.getD 4 0) 6 11 25 + ((l.getD 4 0 &&& l.getD 5 0) ||| ((4294967295 - l.getD 4 0) &&& l.getD 6 0)) + kk + wl.getD i 0) % 4294967296 = rx l kk (wl.getD i 0) := by rw [rx]
  have r2 : (mixA (l.getD 0 0) 2 13 22 + ((l.getD 0 0 &&& l.getD 1 0) ||| (l.getD 0 0 &&& l.getD 2 0) ||| (l.getD 1 0 &&& l.getD 2 0))) % 4294967296 = ry l := by rw [ry]
  rw [r1] at q1
  rw [r2] at q2
  have ei : ((i + 1 : Nat) : Int) = (i : Int) + 1 := by omega
  simp only [e1, q1, e2, q2, Option.bind_some, e3, q3, e4, q4, ei, rnd, casts, List.map_cons, List.map_nil]

end Go.Dor
