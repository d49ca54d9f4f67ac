/- BYTES, DIGITS, NUMBERS: plain lemmas, and the document's digits. -/
import Derived.Test.YtlejphdgfoejaaaDoorNa
import Derived.Test.YtlejphdgfoejaaaDoorW
import Derived.KernelRfl
set_option linter.unusedVariables false
set_option linter.unusedSimpArgs false
namespace Go.Dor
open Go.Proofs

def casts (l : List Nat) : List Int := l.map fun (n : Nat) => (n : Int)
theorem at_casts {i : Nat} {l : List Nat} : at_ 0 (casts l) (i : Int) = ((l.getD i 0 : Nat) : Int) := by
  unfold at_ casts
  rw [Int.toNat_natCast, List.getD_eq_getElem?_getD, List.getD_eq_getElem?_getD, List.getElem?_map]
  cases l[i]? <;> rfl
theorem casts_len (l : List Nat) : (casts l).length = l.length := by simp [casts]
theorem need_yes {α : Type} {c : Prop} [Decidable c] {x : Option α} (h : c) : need c x = x := if_pos h
def byt (s : List UInt8) (j : Nat) : Nat := (s.getD j 0).toNat
theorem byt_lt (s : List UInt8) (j : Nat) : byt s j < 256 := UInt8.toNat_lt _
theorem bat_byt {s : List UInt8} {j : Nat} : bat s (j : Int) = (byt s j : Int) := by simp [bat, byt]
theorem getD_lt {l : List Nat} {B : Nat} (hB : 0 < B) (h : ∀ x ∈ l, x < B) (j : Nat) : l.getD j 0 < B := by
  rw [List.getD_eq_getElem?_getD]
  cases e : l[j]? with
  | none => exact hB
  | some y => exact h y (List.mem_of_getElem? e)
theorem or_lit {a b c p : Nat} (n : Nat) (hp : 2 ^ n = p) (h : a = c * p) (hb : b < p) : a ||| b = a + b := by
  subst hp; subst h; exact or_add hb
def byl (l : List Nat) : List UInt8 := l.map UInt8.ofNat
theorem byl_len (l : List Nat) : (byl l).length = l.length := by simp [byl]
theorem bytesOf_casts (l : List Nat) : bytesOf (casts l) = byl l := by simp [bytesOf, casts, byl]
theorem bytesOf_one (n : Nat) : bytesOf [(n : Int)] = [UInt8.ofNat n] := rfl
theorem numsOf_app (a b : List UInt8) : numsOf (a ++ b) = numsOf a ++ numsOf b := by simp [numsOf]
theorem numsOf_len (a : List UInt8) : (numsOf a).length = a.length := by simp [numsOf]
theorem bytesOf_numsOf (a : List UInt8) : bytesOf (numsOf a) = a := by simp [bytesOf, numsOf, Function.comp_def]
theorem low8 (y : Nat) : IntKind.wrap .u8 (Int.tmod (y : Int) 256) = ((y % 256 : Nat) : Int) := by rw [Int.tmod_eq_emod_of_nonneg (by omega), wrap_u8]; omega
theorem low8' (y : Nat) : IntKind.wrap .u8 (y : Int) = ((y % 256 : Nat) : Int) := by rw [wrap_u8]; omega
theorem byl_app (a b : List Nat) : byl (a ++ b) = byl a ++ byl b := by simp [byl]
theorem loop_inv {α β : Type} {body : (α → Option β) → α → Option β} (P : α → Prop) (m : α → Nat) (Q : Option β → Prop)
    (step : ∀ s, P s → ∀ rec, (∀ s', P s' → m s' < m s → Q (rec s')) → Q (body rec s)) : ∀ k s, P s → m s < k → Q (loopC body k s)
  | k + 1, s, hp, hk => by
    show Q (body (loopC body k) s)
    exact step s hp _ fun s' hp' hm => loop_inv P m Q step k s' hp' (by omega)
def DIG : List UInt8 := [(48 : UInt8), (49 : UInt8), (50 : UInt8), (51 : UInt8), (52 : UInt8), (53 : UInt8), (54 : UInt8), (55 : UInt8), (56 : UInt8), (57 : UInt8), (97 : UInt8), (98 : UInt8), (99 : UInt8), (100 : UInt8), (101 : UInt8), (102 : UInt8)]
def dig (n : Nat) : UInt8 := DIG.getD n 0
def hexv (c : Nat) : Int := indexByteOf DIG (c : Int)
def hexck (n : Nat) : Bool := decide (hexv n < 0) || (decide (0 ≤ hexv n) && decide (hexv n < 16) && (dig (hexv n).toNat == UInt8.ofNat n))
theorem hexck_all : (List.range 256).all hexck = true := by decide +kernel
theorem hexv_dig : (List.range 16).all (fun n => decide (hexv (dig n).toNat = (n : Int))) = true := by decide +kernel
theorem hexv_back {n : Nat} (hn : n < 16) : hexv (dig n).toNat = (n : Int) := by
  have := List.all_eq_true.1 hexv_dig n (by simpa using hn)
  simpa using this
theorem hexv_at {n : Nat} (hn : n < 256) (h : 0 ≤ hexv n) : hexv n < 16 ∧ dig (hexv n).toNat = UInt8.ofNat n := by
  have := List.all_eq_true.1 hexck_all n (by simpa using hn)
  simp only [hexck, Bool.or_eq_true, Bool.and_eq_true, decide_eq_true_eq, beq_iff_eq] at this
  rcases this with h1 | ⟨⟨_, h2⟩, h3⟩
  · omega
  · exact ⟨h2, h3⟩
def hexL (l : List Nat) : List UInt8 := l.flatMap fun c => [dig (c / 16), dig (c % 16)]
theorem hexL_len (l : List Nat) : (hexL l).length = 2 * l.length := by
  induction l with
  | nil => rfl
  | cons a l ih => simp only [hexL, List.flatMap_cons, List.length_append, List.length_cons, List.length_nil] at *; omega
theorem hexL_take {l : List Nat} {i : Nat} (hi : i < l.length) : hexL (l.take (i + 1)) = hexL (l.take i) ++ [dig (l[i] / 16), dig (l[i] % 16)] := by
  unfold hexL; rw [List.take_succ_eq_append_getElem hi, List.flatMap_append]; simp
theorem hexL_get {l : List Nat} : ∀ {i : Nat} (hi : i < l.length), (hexL l).getD (2 * i) 0 = dig (l[i] / 16) ∧ (hexL l).getD (2 * i + 1) 0 = dig (l[i] % 16) := by
  induction l with
  | nil => intro i hi; simp at hi
  | cons a l ih =>
    intro i hi
    cases i with
    | zero => exact ⟨rfl, rfl⟩
    | succ i => exact ih (i := i) (by simpa using hi)
theorem dig_bat {n : Nat} : bat DIG (n : Int) = ((dig n).toNat : Int) := by simp [bat, dig]
theorem bytes_two (a b : Nat) : bytesOf [(a : Int), (b : Int)] = [UInt8.ofNat a, UInt8.ofNat b] := rfl
theorem byl_getD {d : List Nat} {i : Nat} (hi : i < d.length) (hd : ∀ x ∈ d, x < 256) : bat (byl d) (i : Int) = ((d[i] : Nat) : Int) := by
  have := hd d[i] (List.getElem_mem hi)
  simp [bat, byl, hi]; omega
theorem sub_one {n : Nat} (hn : n < 16) : sub_ DIG (n : Int) ((n + 1 : Nat) : Int) = [dig n] := by
  unfold sub_ dig
  rw [Int.toNat_natCast, Int.toNat_natCast]
  have : (List.range 16).all (fun n => decide ((DIG.take (n + 1)).drop n = [DIG.getD n 0])) = true := by decide
  have := List.all_eq_true.1 this n (by simpa using hn)
  simpa using this
theorem refHex_eq {k : Nat} {d : List Nat} (hk : d.length < k) (hl : d.length < 1000000) (hd : ∀ x ∈ d, x < 256) : p_dormouseref03_Hex k (byl d) = some (hexL d) := by
  unfold p_dormouseref03_Hex joinC
  rw [← DIG]
  have L := loop_count (body := fun (r : List UInt8 × List UInt8 × List UInt8 × Int → Option (List UInt8)) y => p_dormouseref03_Hex.b1 k (p_dormouseref03_Hex.j0 k) r y.1 y.2.1 y.2.2.1 y.2.2.2) (res := some (hexL d)) d.length k
    (fun i => (byl d, DIG, hexL (d.take i), (i : Int))) hk ?_ ?_
  · exact L
  · intro i hi rec
    dsimp only
    unfold p_dormouseref03_Hex.b1
    have h1 : decide ((i : Int) < ((byl d).length : Int)) = true := by rw [byl_len]; simpa using hi
    have hlt := hd d[i] (List.getElem_mem hi)
    have hlen : (hexL (d.take i)).length = 2 * i := by rw [hexL_len, List.length_take]; omega
    have ht := hexL_take hi
    have hdl : DIG.length = 16 := rfl
    rw [h1, cond_true, need_yes (by rw [byl_len]; omega), byl_getD hi hd]
    generalize d[i] = c at *
    have e0 : IntKind.wrap .i64 (c : Int) = (c : Int) := wrap_i64 (by omega)
    have e1 : IntKind.wrap .i64 (Int.tdiv (c : Int) 16) = ((c / 16 : Nat) : Int) := by rw [Int.tdiv_eq_ediv_of_nonneg (by omega), wrap_i64 (by omega)]; omega
    have e2 : Int.tmod (c : Int) 16 = ((c % 16 : Nat) : Int) := by rw [Int.tmod_eq_emod_of_nonneg (by omega)]; omega
    have e3 : IntKind.wrap .i64 (((c / 16 : Nat) : Int) + 1) = ((c / 16 + 1 : Nat) : Int) := by rw [wrap_i64 (by omega)]; omega
    have e4 : IntKind.wrap .i64 (((c % 16 : Nat) : Int) + 1) = ((c % 16 + 1 : Nat) : Int) := by rw [wrap_i64 (by omega)]; omega
    have s1 := sub_one (n := c / 16) (by omega)
    have s2 := sub_one (n := c % 16) (by omega)
    rw [e0, e1, e2, e3, e4, s1, s2, need_yes (by rw [hdl]; omega), need_yes (by rw [hlen]; simp only [List.length_cons, List.length_nil]; omega), need_yes (by rw [hdl]; omega), need_yes (by rw [List.length_append, hlen]; simp only [List.length_cons, List.length_nil]; omega), wrap_i64 (by omega), ht]
    rw [List.append_assoc]
    rfl
  · intro rec
    dsimp only
    unfold p_dormouseref03_Hex.b1
    have h1 : decide ((d.length : Int) < ((byl d).length : Int)) = false := by rw [byl_len]; simp
    rw [h1, cond_false, List.take_length]
    rfl
def hv (s : List UInt8) (i : Nat) : Nat := (hexv (byt s i)).toNat
theorem two_by_two {s : List UInt8} : ∀ (n : Nat), s.length = 2 * n → ((List.range n).flatMap fun j => [s.getD (2 * j) 0, s.getD (2 * j + 1) 0]) = s := by
  intro n
  induction n generalizing s with
  | zero => intro h; simp at h; simp [h]
  | succ n ih =>
    intro h
    match s, h with
    | a :: b :: s, h =>
      have := ih (s := s) (by simp at h; omega)
      rw [List.range_succ_eq_map, List.flatMap_cons, List.flatMap_map]
      have e : (fun j => [(a :: b :: s).getD (2 * Nat.succ j) 0, (a :: b :: s).getD (2 * Nat.succ j + 1) 0]) = fun j => [s.getD (2 * j) 0, s.getD (2 * j + 1) 0] := by
        funext j
        rw [show 2 * j.succ = 2 * j + 2 from rfl]
        rfl
      exact congrArg (fun z => [a, b] ++ z) ((congrArg (fun f => List.flatMap f (List.range n)) e).trans this)
theorem hv_dig {s : List UInt8} {i : Nat} (h : 0 ≤ hexv (byt s i)) : dig (hv s i) = s.getD i 0 := by
  have := (hexv_at (byt_lt s i) h).2
  unfold hv
  rw [this]; simp [byt]
theorem byt_hexL {l : List Nat} {j : Nat} (hj : j < l.length) : byt (hexL l) (2 * j) = (dig (l[j] / 16)).toNat ∧ byt (hexL l) (2 * j + 1) = (dig (l[j] % 16)).toNat := by
  obtain ⟨a, b⟩ := hexL_get hj
  exact ⟨by rw [byt, a], by rw [byt, b]⟩
def natsOf (s : List UInt8) : List Nat := s.map UInt8.toNat
theorem numsOf_casts (s : List UInt8) : numsOf s = casts (natsOf s) := by simp [numsOf, casts, natsOf]
theorem byl_natsOf (s : List UInt8) : byl (natsOf s) = s := by simp [byl, natsOf, Function.comp_def]
theorem natsOf_byl {d : List Nat} (hd : ∀ x ∈ d, x < 256) : natsOf (byl d) = d := by
  unfold natsOf byl
  rw [List.map_map]
  conv => rhs; rw [← List.map_id d]
  apply List.map_congr_left
  intro x hx
  have := hd x hx
  simp; omega
theorem natsOf_lt (s : List UInt8) : ∀ x ∈ natsOf s, x < 256 := by
  intro x hx
  simp only [natsOf, List.mem_map] at hx
  obtain ⟨c, _, rfl⟩ := hx
  exact UInt8.toNat_lt _
theorem natsOf_len (s : List UInt8) : (natsOf s).length = s.length := by simp [natsOf]
def decN : Nat → List UInt8
  | n => if h : n < 10 then [dig n] else decN (n / 10) ++ [dig (n % 10)]
termination_by n => n
decreasing_by omega
theorem decN_lo {n : Nat} (h : n < 10) : decN n = [dig n] := by rw [decN, dif_pos h]
theorem decN_hi {n : Nat} (h : ¬ n < 10) : decN n = decN (n / 10) ++ [dig (n % 10)] := by rw [decN, dif_neg h]
theorem decN_len : ∀ (j n : Nat), n < 10 ^ j → (decN n).length ≤ j + 1
  | 0, n, h => by simp at h; rw [decN_lo (by omega)]; simp
  | j + 1, n, h => by
    by_cases h1 : n < 10
    · rw [decN_lo h1]; simp
    · have := decN_len j (n / 10) (by rw [Nat.pow_succ] at h; omega)
      rw [decN_hi h1, List.length_append]; simp; omega
theorem loopC_succ {α β : Type} (body : (α → Option β) → α → Option β) (k : Nat) (x : α) : loopC body (k + 1) x = body (loopC body k) x := rfl
def DIG10 : List UInt8 := [(48 : UInt8), (49 : UInt8), (50 : UInt8), (51 : UInt8), (52 : UInt8), (53 : UInt8), (54 : UInt8), (55 : UInt8), (56 : UInt8), (57 : UInt8)]
theorem sub_one10 {n : Nat} (hn : n < 10) : sub_ DIG10 (n : Int) (IntKind.wrap .u64 ((n : Int) + 1)) = [dig n] := by
  have e : IntKind.wrap .u64 ((n : Int) + 1) = ((n + 1 : Nat) : Int) := by rw [wrap_u64]; omega
  rw [e]
  unfold sub_ dig
  rw [Int.toNat_natCast, Int.toNat_natCast]
  have : (List.range 10).all (fun n => decide ((DIG10.take (n + 1)).drop n = [DIG.getD n 0])) = true := by decide
  have := List.all_eq_true.1 this n (by simpa using hn)
  simpa using this
theorem Digits_succ (k : Nat) (x : Int) : p_dormouseref16_Digits (k + 1) x = p_dormouseref16_Digits.r (p_dormouseref16_Digits k) k x := rfl
theorem Digits_eq : ∀ (j k n : Nat), n < 10 ^ (j + 1) → n < 18446744073709551616 → j < k → j < 1000 → p_dormouseref16_Digits k (n : Int) = some (decN n)
  | j, 0, n, h, _, hk, _ => by omega
  | j, k + 1, n, h, hn, hk, hj => by
    rw [Digits_succ]
    unfold p_dormouseref16_Digits.r
    have ew : ∀ m : Nat, m < 16 → IntKind.wrap .u64 ((m : Int) + 1) = ((m + 1 : Nat) : Int) := fun m hm => by rw [wrap_u64]; omega
    by_cases h1 : n < 10
    · have e1 : decide ((n : Int) < 10) = true := by simpa using (by omega : (n : Int) < 10)
      rw [e1, cond_true, ← DIG10, sub_one10 h1, ew n (by omega), need_yes (by omega), decN_lo h1]
    · have e1 : decide ((n : Int) < 10) = false := by simpa using (by omega : 10 ≤ (n : Int))
      have em : Int.tmod (n : Int) 10 = ((n % 10 : Nat) : Int) := by rw [Int.tmod_eq_emod_of_nonneg (by omega)]; omega
      have ed : IntKind.wrap .u64 (Int.tdiv (n : Int) 10) = ((n / 10 : Nat) : Int) := by rw [Int.tdiv_eq_ediv_of_nonneg (by omega), wrap_u64]; omega
      cases j with
      | zero => simp at h; omega
      | succ j =>
        have hl := decN_len (j + 1) (n / 10) (by rw [Nat.pow_succ] at h; omega)
        rw [e1, cond_false, em, ed, Digits_eq j k (n / 10) (by rw [Nat.pow_succ] at h; omega) (by omega) (by omega) (by omega), Option.bind_some,
          Digits_eq j k (n % 10) (by rw [Nat.pow_succ]; have := Nat.pow_pos (n := j) (show 0 < 10 by omega); omega) (by omega) (by omega) (by omega), Option.bind_some, decN_lo (show n % 10 < 10 by omega),
          need_yes (by simp only [List.length_cons, List.length_nil]; omega), decN_hi h1]
theorem Digits20 {k n : Nat} (hk : 20 < k) (hn : n < 18446744073709551616) : p_dormouseref16_Digits k (n : Int) = some (decN n) :=
  Digits_eq 19 k n (by have : (10 : Nat) ^ (19 + 1) = 100000000000000000000 := rfl
                       omega) hn (by omega) (by omega)
theorem decN_len20 {n : Nat} (hn : n < 18446744073709551616) : (decN n).length ≤ 21 :=
  decN_len 20 n (by have : (10 : Nat) ^ 20 = 100000000000000000000 := rfl
                    omega)
def numD (s : List UInt8) : Nat := s.foldl (fun n c => (10 * n % 18446744073709551616 + (c.toNat + 256 - 48) % 256 % 10) % 18446744073709551616) 0
theorem foldl_take {α β : Type} (f : β → α → β) (b : β) (l : List α) {i : Nat} (hi : i < l.length) : (l.take (i + 1)).foldl f b = f ((l.take i).foldl f b) l[i] := by
  rw [List.take_succ_eq_append_getElem hi, List.foldl_append]; rfl
theorem numD_lt (s : List UInt8) : numD s < 18446744073709551616 := by
  unfold numD
  rcases List.eq_nil_or_concat s with rfl | ⟨l, c, rfl⟩
  · decide
  · rw [List.concat_eq_append, List.foldl_append]; exact Nat.mod_lt _ (by omega)
theorem dig_num {n : Nat} (h : n < 10) : ((dig n).toNat + 256 - 48) % 256 % 10 = n := by
  have : (List.range 10).all (fun n => decide (((dig n).toNat + 256 - 48) % 256 % 10 = n)) = true := by decide
  have := List.all_eq_true.1 this n (by simpa using h)
  simpa using this
theorem numD_decN : ∀ (n : Nat), n < 18446744073709551616 → numD (decN n) = n := by
  intro n
  induction n using Nat.strongRecOn with
  | _ n ih =>
    intro hn
    by_cases h : n < 10
    · rw [decN_lo h, numD, List.foldl_cons, List.foldl_nil, dig_num h]; omega
    · have e := ih (n / 10) (by omega) (by omega)
      rw [decN_hi h, numD, List.foldl_append, List.foldl_cons, List.foldl_nil, dig_num (by omega)]
      unfold numD at e
      rw [e]; omega
theorem index_not {l : List UInt8} {c : UInt8} (h : c ∉ l) : Lib.indexByte l c = -1 := by
  induction l with
  | nil => rfl
  | cons b l ih =>
    simp only [List.mem_cons, not_or] at h
    have hb : (b == c) = false := by simpa using fun e => h.1 e.symm
    simp [Lib.indexByte, hb, ih h.2]
theorem index_app {l m : List UInt8} {c : UInt8} (h : c ∉ l) : Lib.indexByte (l ++ c :: m) c = (l.length : Int) := by
  induction l with
  | nil => simp [Lib.indexByte]
  | cons b l ih =>
    simp only [List.mem_cons, not_or] at h
    have hb : (b == c) = false := by simpa using fun e => h.1 e.symm
    have := ih h.2
    simp only [List.cons_append, Lib.indexByte, hb, this, List.length_cons]
    have hne : ((l.length : Int) == -1) = false := by simp only [beq_eq_false_iff_ne, ne_eq]; omega
    simp [hne]
theorem cut_at {l : List UInt8} {c : UInt8} (h : c ∈ l) : ∃ a b, l = a ++ c :: b ∧ c ∉ a := by
  induction l with
  | nil => cases h
  | cons x l ih =>
    by_cases e : x = c
    · subst e; exact ⟨[], l, rfl, by simp⟩
    · obtain ⟨a, b, rfl, hb⟩ := ih (by simpa [Ne.symm e] using h)
      exact ⟨x :: a, b, rfl, by simpa [Ne.symm e] using hb⟩
end Go.Dor
