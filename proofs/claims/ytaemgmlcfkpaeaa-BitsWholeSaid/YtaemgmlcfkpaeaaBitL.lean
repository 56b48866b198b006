/-
  PLAIN LAWS of chapter 2: words of 64 bits as numbers; no program in sight.
-/
import Derived.Test.YtaemgmlcfkpaeaaBase
import Derived.Lib.BitFns
namespace Go.Proofs.Ytaemgmlcfkpaeaa

theorem land_split (z m M : Nat) (hm : m < 256) : z &&& (m + 256 * M) = ((z % 256) &&& m) + 256 * ((z / 256) &&& M) := by
  have e1 : (z &&& (m + 256 * M)) % 256 = (z % 256) &&& m := by
    rw [show (256 : Nat) = 2 ^ 8 from rfl, Nat.and_mod_two_pow]
    congr 1
    omega
  have e2 : (z &&& (m + 256 * M)) / 256 = (z / 256) &&& M := by
    rw [show (256 : Nat) = 2 ^ 8 from rfl, Nat.and_div_two_pow]
    congr 1
    omega
  have := Nat.mod_add_div (z &&& (m + 256 * M)) 256
  omega

/-- A byte, j times. -/
def rep (m : Nat) : Nat → Nat
  | 0 => 0
  | j + 1 => m + 256 * rep m j
def g1 (b : Nat) : Nat := ((b / 2) &&& 85) + (b &&& 85)
def g2 (b : Nat) : Nat := ((b / 4) &&& 51) + (b &&& 51)
def g3 (b : Nat) : Nat := (b / 16 + b) % 16
def G1 (j x : Nat) : Nat := ((x / 2) &&& rep 85 j) + (x &&& rep 85 j)
def G2 (j x : Nat) : Nat := ((x / 4) &&& rep 51 j) + (x &&& rep 51 j)
def G3 (j x : Nat) : Nat := (x / 16 + x) &&& rep 15 j
theorem g1_bit : ∀ b : Fin 256, ∀ c : Fin 2, ((b.val / 2 + 128 * c.val) &&& 85) = ((b.val / 2) &&& 85) := by decide +kernel
theorem g2_bit : ∀ b : Fin 256, ∀ c : Fin 4, ((b.val / 4 + 64 * c.val) &&& 51) = ((b.val / 4) &&& 51) := by decide +kernel
theorem g1_lt : ∀ b : Fin 256, g1 b.val < 256 := by decide +kernel
theorem g2_lt : ∀ b : Fin 256, g2 (g1 b.val) < 256 ∧ g2 (g1 b.val) / 16 ≤ 4 ∧ g2 (g1 b.val) % 16 ≤ 4 := by decide +kernel
theorem g3_pop : ∀ b : Fin 256, g3 (g2 (g1 b.val)) = Lib.popAux 8 b.val ∧ Lib.popAux 8 b.val ≤ 8 := by decide +kernel

theorem G1_succ (j x : Nat) : G1 (j + 1) x = g1 (x % 256) + 256 * G1 j (x / 256) := by
  unfold G1 g1
  rw [rep, land_split _ _ _ (by omega), land_split _ _ _ (by omega)]
  have h := g1_bit ⟨x % 256, by omega⟩ ⟨x / 256 % 2, by omega⟩
  simp only at h
  rw [show x / 2 % 256 = x % 256 / 2 + 128 * (x / 256 % 2) by omega, h, show x / 2 / 256 = x / 256 / 2 by omega]
  omega
theorem G2_succ (j x : Nat) : G2 (j + 1) x = g2 (x % 256) + 256 * G2 j (x / 256) := by
  unfold G2 g2
  rw [rep, land_split _ _ _ (by omega), land_split _ _ _ (by omega)]
  have h := g2_bit ⟨x % 256, by omega⟩ ⟨x / 256 % 4, by omega⟩
  simp only at h
  rw [show x / 4 % 256 = x % 256 / 4 + 64 * (x / 256 % 4) by omega, h, show x / 4 / 256 = x / 256 / 4 by omega]
  omega
theorem G12_succ (j x : Nat) : G2 (j + 1) (G1 (j + 1) x) = g2 (g1 (x % 256)) + 256 * G2 j (G1 j (x / 256)) := by
  have h := g1_lt ⟨x % 256, by omega⟩
  simp only at h
  rw [G2_succ, G1_succ, show (g1 (x % 256) + 256 * G1 j (x / 256)) % 256 = g1 (x % 256) by omega, show (g1 (x % 256) + 256 * G1 j (x / 256)) / 256 = G1 j (x / 256) by omega]
theorem G12_low (j x : Nat) : G2 j (G1 j x) % 16 ≤ 4 := by
  cases j with
  | zero => simp [G2, rep]
  | succ j =>
    obtain ⟨h1, h2, h3⟩ := g2_lt ⟨x % 256, by omega⟩
    simp only at h1 h2 h3
    rw [G12_succ]; omega
theorem G3_succ (j b y : Nat) (hb : b < 256) (h1 : b / 16 ≤ 4) (h2 : b % 16 ≤ 4) (h3 : y % 16 ≤ 4) : G3 (j + 1) (b + 256 * y) = g3 b + 256 * G3 j y := by
  unfold G3 g3
  rw [rep, land_split _ _ _ (by omega)]
  have e1 : ((b + 256 * y) / 16 + (b + 256 * y)) / 256 = y / 16 + y := by omega
  have e2 : ((b + 256 * y) / 16 + (b + 256 * y)) % 256 &&& 15 = (b / 16 + b) % 16 := by
    rw [show (15 : Nat) = 2 ^ 4 - 1 from rfl, Nat.and_two_pow_sub_one_eq_mod]
    omega
  rw [e1, e2]
theorem swar_succ (j x : Nat) : G3 (j + 1) (G2 (j + 1) (G1 (j + 1) x)) = Lib.popAux 8 (x % 256) + 256 * G3 j (G2 j (G1 j (x / 256))) := by
  obtain ⟨h1, h2, h3⟩ := g2_lt ⟨x % 256, by omega⟩
  obtain ⟨h4, _⟩ := g3_pop ⟨x % 256, by omega⟩
  simp only at h1 h2 h3 h4
  rw [G12_succ, G3_succ _ _ _ h1 h2 h3 (G12_low _ _), h4]
theorem pop_mod : ∀ (a x : Nat), Lib.popAux a (x % 2 ^ a) = Lib.popAux a x
  | 0, x => rfl
  | a + 1, x => by
    have e1 : x % 2 ^ (a + 1) % 2 = x % 2 := by rw [Nat.pow_succ, Nat.mul_comm, Nat.mod_mul_right_mod]
    have e2 : x % 2 ^ (a + 1) / 2 = x / 2 % 2 ^ a := by rw [Nat.pow_succ, Nat.mul_comm, Nat.mod_mul_right_div_self]
    rw [Lib.popAux, Lib.popAux, e1, e2, pop_mod a]
theorem pop_add : ∀ (a b x : Nat), Lib.popAux (a + b) x = Lib.popAux a x + Lib.popAux b (x / 2 ^ a)
  | 0, b, x => by simp [Lib.popAux]
  | a + 1, b, x => by
    have e : x / 2 / 2 ^ a = x / 2 ^ (a + 1) := by rw [Nat.div_div_eq_div_mul, Nat.pow_succ, Nat.mul_comm]
    rw [show a + 1 + b = (a + b) + 1 by omega, Lib.popAux, Lib.popAux, pop_add a b, e]
    omega
theorem pop8 (b x : Nat) : Lib.popAux (8 + b) x = Lib.popAux 8 (x % 256) + Lib.popAux b (x / 256) := by
  rw [pop_add, ← pop_mod 8 x]
theorem pop8_le (x : Nat) : Lib.popAux 8 (x % 256) ≤ 8 := (g3_pop ⟨x % 256, by omega⟩).2
theorem div_low (a b c : Nat) (h : a < c) : (a + c * b) / c = b := by
  rw [Nat.add_mul_div_left _ _ (by omega), Nat.div_eq_of_lt h, Nat.zero_add]
theorem mod_low (a b c : Nat) (h : a < c) : (a + c * b) % c = a := by
  rw [Nat.add_mul_mod_self_left, Nat.mod_eq_of_lt h]
theorem end1 (t0 t1 t2 t3 t4 t5 t6 t7 : Nat) : (t0 + 256 * (t1 + 256 * (t2 + 256 * (t3 + 256 * (t4 + 256 * (t5 + 256 * (t6 + 256 * t7))))))) + (t1 + 256 * (t2 + 256 * (t3 + 256 * (t4 + 256 * (t5 + 256 * (t6 + 256 * t7)))))) =
    (t0 + t1 + 256 * (t1 + t2)) + 65536 * ((t2 + t3) + 256 * ((t3 + t4) + 256 * ((t4 + t5) + 256 * ((t5 + t6) + 256 * ((t6 + t7) + 256 * t7))))) := by omega
theorem end2 (t0 t1 t2 t3 t4 t5 t6 t7 : Nat) : ((t0 + t1 + 256 * (t1 + t2)) + 65536 * ((t2 + t3) + 256 * ((t3 + t4) + 256 * ((t4 + t5) + 256 * ((t5 + t6) + 256 * ((t6 + t7) + 256 * t7)))))) + ((t2 + t3) + 256 * ((t3 + t4) + 256 * ((t4 + t5) + 256 * ((t5 + t6) + 256 * ((t6 + t7) + 256 * t7))))) =
    ((t0 + t1 + t2 + t3) + 256 * ((t1 + t2 + t3 + t4) + 256 * ((t2 + t3 + t4 + t5) + 256 * (t3 + t4 + t5 + t6)))) + 4294967296 * ((t4 + t5 + t6 + t7) + 256 * ((t5 + t6 + t7) + 256 * ((t6 + t7) + 256 * t7))) := by omega
theorem end3 (t0 t1 t2 t3 t4 t5 t6 t7 : Nat) : (((t0 + t1 + t2 + t3) + 256 * ((t1 + t2 + t3 + t4) + 256 * ((t2 + t3 + t4 + t5) + 256 * (t3 + t4 + t5 + t6)))) + 4294967296 * ((t4 + t5 + t6 + t7) + 256 * ((t5 + t6 + t7) + 256 * ((t6 + t7) + 256 * t7)))) + ((t4 + t5 + t6 + t7) + 256 * ((t5 + t6 + t7) + 256 * ((t6 + t7) + 256 * t7))) =
    (t0 + (t1 + (t2 + (t3 + (t4 + (t5 + (t6 + t7))))))) + 128 * (2 * ((t1 + t2 + t3 + t4 + t5 + t6 + t7) + 256 * ((t2 + t3 + t4 + t5 + t6 + t7) + 256 * (t3 + t4 + t5 + t6 + t7))) + 33554432 * ((t4 + t5 + t6 + t7) + 256 * ((t5 + t6 + t7) + 256 * ((t6 + t7) + 256 * t7)))) := by omega

theorem low2 (t0 t1 t2 : Nat) (h0 : t0 ≤ 8) (h1 : t1 ≤ 8) (h2 : t2 ≤ 8) : t0 + t1 + 256 * (t1 + t2) < 65536 := by omega
theorem low4 (t0 t1 t2 t3 t4 t5 t6 : Nat) (h0 : t0 ≤ 8) (h1 : t1 ≤ 8) (h2 : t2 ≤ 8) (h3 : t3 ≤ 8) (h4 : t4 ≤ 8) (h5 : t5 ≤ 8) (h6 : t6 ≤ 8) :
    (t0 + t1 + t2 + t3) + 256 * ((t1 + t2 + t3 + t4) + 256 * ((t2 + t3 + t4 + t5) + 256 * (t3 + t4 + t5 + t6))) < 4294967296 := by
  have a : t0 + t1 + t2 + t3 ≤ 32 := by omega
  have b : t1 + t2 + t3 + t4 ≤ 32 := by omega
  have c : t2 + t3 + t4 + t5 ≤ 32 := by omega
  have d : t3 + t4 + t5 + t6 ≤ 32 := by omega
  generalize t0 + t1 + t2 + t3 = A at *
  generalize t1 + t2 + t3 + t4 = B at *
  generalize t2 + t3 + t4 + t5 = C at *
  generalize t3 + t4 + t5 + t6 = D at *
  clear h0 h1 h2 h3 h4 h5 h6
  omega
theorem low8 (t0 t1 t2 t3 t4 t5 t6 t7 : Nat) (h0 : t0 ≤ 8) (h1 : t1 ≤ 8) (h2 : t2 ≤ 8) (h3 : t3 ≤ 8) (h4 : t4 ≤ 8) (h5 : t5 ≤ 8) (h6 : t6 ≤ 8) (h7 : t7 ≤ 8) : t0 + (t1 + (t2 + (t3 + (t4 + (t5 + (t6 + t7)))))) < 128 := by omega
/-- The last three steps. -/
theorem swar_end (t0 t1 t2 t3 t4 t5 t6 t7 y y1 y2 y3 : Nat) (h0 : t0 ≤ 8) (h1 : t1 ≤ 8) (h2 : t2 ≤ 8) (h3 : t3 ≤ 8) (h4 : t4 ≤ 8) (h5 : t5 ≤ 8) (h6 : t6 ≤ 8) (h7 : t7 ≤ 8)
    (hy : y = t0 + 256 * (t1 + 256 * (t2 + 256 * (t3 + 256 * (t4 + 256 * (t5 + 256 * (t6 + 256 * t7)))))))
    (hy1 : y1 = y + y / 256) (hy2 : y2 = y1 + y1 / 65536) (hy3 : y3 = y2 + y2 / 4294967296) :
    y3 % 128 = t0 + (t1 + (t2 + (t3 + (t4 + (t5 + (t6 + t7)))))) := by
  have l0 : t0 < 256 := Nat.lt_of_le_of_lt h0 (by decide)
  rw [hy, div_low _ _ _ l0, end1] at hy1
  rw [hy1, div_low _ _ _ (low2 _ _ _ h0 h1 h2), end2] at hy2
  rw [hy2, div_low _ _ _ (low4 _ _ _ _ _ _ _ h0 h1 h2 h3 h4 h5 h6), end3] at hy3
  rw [hy3, mod_low _ _ _ (low8 _ _ _ _ _ _ _ _ h0 h1 h2 h3 h4 h5 h6 h7)]
/-- OnesCount64's steps. -/
theorem swar (x : Nat) (y y1 y2 y3 : Nat) (hy : y = G3 8 (G2 8 (G1 8 x))) (hy1 : y1 = y + y / 256) (hy2 : y2 = y1 + y1 / 65536) (hy3 : y3 = y2 + y2 / 4294967296) :
    y3 % 128 = Lib.popAux 64 x := by
  have e : Lib.popAux 64 x = Lib.popAux 8 (x % 256) + (Lib.popAux 8 (x / 256 % 256) + (Lib.popAux 8 (x / 256 / 256 % 256) + (Lib.popAux 8 (x / 256 / 256 / 256 % 256) + (Lib.popAux 8 (x / 256 / 256 / 256 / 256 % 256) +
      (Lib.popAux 8 (x / 256 / 256 / 256 / 256 / 256 % 256) + (Lib.popAux 8 (x / 256 / 256 / 256 / 256 / 256 / 256 % 256) + Lib.popAux 8 (x / 256 / 256 / 256 / 256 / 256 / 256 / 256 % 256))))))) := by
    rw [show (64 : Nat) = 8 + (8 + (8 + (8 + (8 + (8 + (8 + (8 + 0))))))) from rfl]
    rw [pop8 _ x, pop8 _ (x / 256), pop8 _ (x / 256 / 256), pop8 _ (x / 256 / 256 / 256), pop8 _ (x / 256 / 256 / 256 / 256), pop8 _ (x / 256 / 256 / 256 / 256 / 256), pop8 _ (x / 256 / 256 / 256 / 256 / 256 / 256), pop8 _ (x / 256 / 256 / 256 / 256 / 256 / 256 / 256)]
    rfl
  rw [e]
  refine swar_end _ _ _ _ _ _ _ _ y y1 y2 y3 (pop8_le _) (pop8_le _) (pop8_le _) (pop8_le _) (pop8_le _) (pop8_le _) (pop8_le _) (pop8_le _) ?_ hy1 hy2 hy3
  rw [hy, swar_succ, swar_succ, swar_succ, swar_succ, swar_succ, swar_succ, swar_succ, swar_succ, show ∀ z, G3 0 z = 0 from fun z => by simp [G3, rep], Nat.mul_zero, Nat.add_zero]

/-- The numbers below k of a word, falling. -/
def bdown (m : Nat) : Nat → List Int
  | 0 => []
  | k + 1 => if m.testBit k = true then (k : Int) :: bdown m k else bdown m k
theorem bdown_pop : ∀ (k m : Nat), (bdown m k).length = Lib.popAux k m
  | 0, m => rfl
  | k + 1, m => by
    rw [pop_add k 1 m, bdown]
    have h : Lib.popAux 1 (m / 2 ^ k) = if m.testBit k = true then 1 else 0 := by
      simp only [Lib.popAux, Nat.testBit_eq_decide_div_mod_eq, decide_eq_true_eq]
      split <;> omega
    rw [h, ← bdown_pop k m]
    split <;> simp
theorem bdown_same {m n : Nat} : ∀ (k : Nat), (∀ j, j < k → m.testBit j = n.testBit j) → bdown m k = bdown n k
  | 0, _ => rfl
  | k + 1, h => by rw [bdown, bdown, h k (by omega), bdown_same k fun j hj => h j (by omega)]
theorem bdown_skip {m t : Nat} : ∀ (k : Nat), t ≤ k → (∀ j, t ≤ j → j < k → m.testBit j = false) → bdown m k = bdown m t
  | 0, h, _ => by rw [show t = 0 by omega]
  | k + 1, h, hf => by
    by_cases ht : t = k + 1
    · rw [ht]
    · rw [bdown, hf k (by omega) (by omega), bdown_skip k (by omega) fun j h1 h2 => hf j h1 (by omega)]
      simp

theorem word_ext {a b : Nat} (ha : a < 18446744073709551616) (hb : b < 18446744073709551616) (h : ∀ j, j < 64 → a.testBit j = b.testBit j) : a = b := by
  refine Nat.eq_of_testBit_eq fun j => ?_
  rcases Nat.lt_or_ge j 64 with hj | hj
  · exact h j hj
  · have p : 2 ^ 64 ≤ 2 ^ j := Nat.pow_le_pow_right (show 0 < 2 by decide) hj
    rw [Nat.testBit_lt_two_pow (Nat.lt_of_lt_of_le ha p), Nat.testBit_lt_two_pow (Nat.lt_of_lt_of_le hb p)]

def bset (m : Nat) (i : Nat) : Nat := m ||| 2 ^ i
def bclr (m : Nat) (i : Nat) : Nat := (BitVec.ofNat 64 m &&& ~~~BitVec.ofNat 64 (2 ^ i)).toNat
theorem bset_lt {m i : Nat} (hm : m < 18446744073709551616) (hi : i < 64) : bset m i < 18446744073709551616 :=
  Nat.or_lt_two_pow (n := 64) hm (Nat.pow_lt_pow_right (by omega) hi)
theorem bclr_lt {m i : Nat} : bclr m i < 18446744073709551616 := (BitVec.ofNat 64 m &&& ~~~BitVec.ofNat 64 (2 ^ i)).isLt
theorem bset_bit {m i j : Nat} : (bset m i).testBit j = (m.testBit j || decide (i = j)) := by
  rw [bset, Nat.testBit_or, Nat.testBit_two_pow]
theorem bclr_bit {m i j : Nat} (hj : j < 64) : (bclr m i).testBit j = (m.testBit j && !decide (i = j)) := by
  have e : (bclr m i).testBit j = (BitVec.ofNat 64 m &&& ~~~BitVec.ofNat 64 (2 ^ i)).getLsbD j := rfl
  rw [e, BitVec.getLsbD_and, BitVec.getLsbD_not, BitVec.getLsbD_ofNat, BitVec.getLsbD_ofNat, Nat.testBit_two_pow]
  simp [hj]

/-- A list of truths as a word, the first one the lowest. -/
def wordOf : List Bool → Nat
  | [] => 0
  | b :: l => 2 * wordOf l + (if b = true then 1 else 0)
theorem wordOf_lt : ∀ (l : List Bool), wordOf l < 2 ^ l.length
  | [] => by simp [wordOf]
  | b :: l => by
    have := wordOf_lt l
    rw [wordOf, List.length_cons, Nat.pow_succ]
    split <;> omega
theorem wordOf_bit : ∀ (l : List Bool) (j : Nat), (wordOf l).testBit j = l.getD j false
  | [], j => by simp [wordOf]
  | b :: l, 0 => by
    rw [wordOf, Nat.testBit_zero]
    cases b <;> simp <;> omega
  | b :: l, j + 1 => by
    rw [wordOf, Nat.testBit_succ, show (2 * wordOf l + if b = true then 1 else 0) / 2 = wordOf l by split <;> omega, wordOf_bit l j]
    simp
def brow (m : Nat) : List Bool := (List.range 64).map fun j => m.testBit j
theorem brow_len (m : Nat) : (brow m).length = 64 := by simp [brow]
theorem brow_at (m j : Nat) (hj : j < 64) : (brow m)[j]? = some (m.testBit j) := by simp [brow, hj]
theorem put_true (m i : Nat) (hm : m < 18446744073709551616) (hi : i < 64) : wordOf ((brow m).set i true) = bset m i := by
  refine word_ext (by have := wordOf_lt ((brow m).set i true); rw [List.length_set, brow_len] at this; exact this) (bset_lt hm hi) fun j hj => ?_
  rw [wordOf_bit, bset_bit, List.getD_eq_getElem?_getD, List.getElem?_set, brow_len, brow_at m j hj]
  by_cases h : i = j
  · simp [h, hj]
  · simp [h]
theorem put_false (m i : Nat) : wordOf ((brow m).set i false) = bclr m i := by
  refine word_ext (by have := wordOf_lt ((brow m).set i false); rw [List.length_set, brow_len] at this; exact this) bclr_lt fun j hj => ?_
  rw [wordOf_bit, bclr_bit hj, List.getD_eq_getElem?_getD, List.getElem?_set, brow_len, brow_at m j hj]
  by_cases h : i = j
  · simp [h, hj]
  · simp [h]

/-- The greatest number of a word, plus 1. -/
theorem bitLen_top : ∀ (m : Nat), m < 2 ^ 64 → m ≠ 0 → 1 ≤ Lib.bitLen m ∧ 2 ^ (Lib.bitLen m - 1) ≤ m ∧ m < 2 ^ Lib.bitLen m := by
  intro m
  induction m using Nat.strongRecOn with
  | _ m ih =>
    intro hm h0
    rw [Lib.bitLen_half m h0 hm]
    by_cases h1 : m / 2 = 0
    · have : m = 1 := by omega
      subst this
      decide
    · obtain ⟨k1, k2, k3⟩ := ih (m / 2) (by omega) (by omega) h1
      have e : 2 ^ (1 + Lib.bitLen (m / 2) - 1) = 2 * 2 ^ (Lib.bitLen (m / 2) - 1) := by
        rw [← Nat.pow_succ']; congr 1; omega
      have e2 : 2 ^ (1 + Lib.bitLen (m / 2)) = 2 * 2 ^ Lib.bitLen (m / 2) := by rw [Nat.add_comm, Nat.pow_succ']
      rw [e, e2]
      omega
theorem top_bit {m : Nat} (hm : m < 2 ^ 64) (h0 : m ≠ 0) : Lib.bitLen m - 1 < 64 ∧ m.testBit (Lib.bitLen m - 1) = true ∧ ∀ j, Lib.bitLen m - 1 < j → m.testBit j = false := by
  obtain ⟨h1, h2, h3⟩ := bitLen_top m hm h0
  refine ⟨?_, ?_, fun j hj => ?_⟩
  · have := Lib.bitLen_le m 64 (by omega) hm
    omega
  · rw [Nat.testBit_eq_decide_div_mod_eq]
    have : m / 2 ^ (Lib.bitLen m - 1) = 1 := by
      refine Nat.div_eq_of_lt_le (by omega) ?_
      have e : 2 ^ Lib.bitLen m = 2 * 2 ^ (Lib.bitLen m - 1) := by rw [← Nat.pow_succ']; congr 1; omega
      omega
    rw [this]; rfl
  · refine Nat.testBit_lt_two_pow (Nat.lt_of_lt_of_le h3 (Nat.pow_le_pow_right (by omega) (by omega)))
theorem bitLen_zero : Lib.bitLen 0 = 0 := by decide
theorem bdown_zero : ∀ k, bdown 0 k = []
  | 0 => rfl
  | k + 1 => by rw [bdown, bdown_zero k]; simp
theorem bdown_top {m : Nat} (hm : m < 2 ^ 64) (h0 : m ≠ 0) : bdown m 64 = ((Lib.bitLen m - 1 : Nat) : Int) :: bdown (bclr m (Lib.bitLen m - 1)) 64 := by
  obtain ⟨h1, h2, h3⟩ := top_bit hm h0
  generalize Lib.bitLen m - 1 = t at *
  rw [bdown_skip (t := t + 1) 64 (by omega) fun j h4 h5 => h3 j (by omega), bdown, if_pos h2, bdown_skip (m := bclr m t) (t := t) 64 (by omega) fun j h4 h5 => by
    rw [bclr_bit h5]
    by_cases hj : t = j
    · simp [hj]
    · rw [h3 j (by omega)]; simp]
  congr 1
  exact bdown_same _ fun j hj => by
    have : t ≠ j := by omega
    rw [bclr_bit (by omega)]; simp [this]

end Go.Proofs.Ytaemgmlcfkpaeaa
