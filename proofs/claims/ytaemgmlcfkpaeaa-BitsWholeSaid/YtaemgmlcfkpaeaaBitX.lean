/-
  WALKS of package bits: Set, Clear, Has, Count.
-/
import Derived.Test.YtaemgmlcfkpaeaaBitW
namespace Go.Proofs.Ytaemgmlcfkpaeaa
open Go.RowKit

theorem pow_cast (k : Nat) (h : k < 64) : IntKind.u64.wrap ((2 : Int) ^ k) = ((2 ^ k : Nat) : Int) := by
  rw [show ((2 : Int) ^ k) = ((2 ^ k : Nat) : Int) by simp]
  exact u64_wrap _ (Nat.pow_lt_pow_right (by omega) h)
theorem or_pow (m k : Nat) (hm : m < W64) (h : k < 64) : bits .or .u64 (m : Int) (IntKind.u64.wrap ((2 : Int) ^ k)) = ((bset m k : Nat) : Int) := by
  rw [pow_cast k h]
  exact bits_or m (2 ^ k) hm (Nat.pow_lt_pow_right (by omega) h)
theorem clr_pow (m k : Nat) (h : k < 64) : bits .andNot .u64 (m : Int) (IntKind.u64.wrap ((2 : Int) ^ k)) = ((bclr m k : Nat) : Int) := by
  rw [pow_cast k h]
  exact bits_clr m k

theorem has_law (m k : Nat) (h : m < W64) : (bits .and .u64 ((m : Int) / (2 : Int) ^ k) 1 == 1) = m.testBit k := by
  have e : ((m : Int) / (2 : Int) ^ k) = ((m / 2 ^ k : Nat) : Int) := by simp
  have e1 := mask_and (m / 2 ^ k) 1 (by decide) (Nat.lt_of_le_of_lt (Nat.div_le_self _ _) h)
  rw [Nat.and_one_is_mod] at e1
  rw [e, show (1 : Int) = ((1 : Nat) : Int) from rfl, e1, Nat.testBit_eq_decide_div_mod_eq]
  by_cases hb : m / 2 ^ k % 2 = 1
  · simp [hb]
  · have : m / 2 ^ k % 2 = 0 := by omega
    simp [this]

def setI (m : Nat) (i : Int) : Nat := if 0 ≤ i ∧ i ≤ 63 then bset m i.toNat else m
def clrI (m : Nat) (i : Int) : Nat := if 0 ≤ i ∧ i ≤ 63 then bclr m i.toNat else m
def hasI (m : Nat) (i : Int) : Bool := decide (0 ≤ i ∧ i ≤ 63) && m.testBit i.toNat
theorem setI_lt {m : Nat} {i : Int} (h : m < W64) : setI m i < W64 := by
  unfold setI
  split
  · exact bset_lt h (by omega)
  · exact h
theorem clrI_lt {m : Nat} {i : Int} (h : m < W64) : clrI m i < W64 := by
  unfold clrI
  split
  · exact bclr_lt
  · exact h

set_option maxRecDepth 100000 in
set_option maxHeartbeats 1000000 in
theorem bits_set (m : Nat) (i : Int) (w : World) (h : m < W64) :
    Calls Try.prog 9 #[.int .u64 m, .int .i64 i] w fun e w' => e = .returned (.int .u64 (setI m i : Nat)) ∧ w = w' := by
  by_cases hi : 0 ≤ i ∧ i ≤ 63
  · have e := or_pow m i.toNat h (by omega)
    have HS : Hid (setI m i = bset m i.toNat) := if_pos hi
    obtain ⟨h0, h1⟩ := hi
    go_enter Try.func9, Try.ntmps9
    go_wp2
    go_ret
    exact ⟨by rw [HS.out]; rfl, rfl⟩
  · have HS : Hid (setI m i = m) := if_neg hi
    by_cases h0 : i < 0
    · clear hi
      go_enter Try.func9, Try.ntmps9
      go_wp2
      go_ret
      exact ⟨by rw [HS.out]; rfl, rfl⟩
    · have h1 : 63 < i := by omega
      clear hi
      go_enter Try.func9, Try.ntmps9
      go_wp2
      go_ret
      exact ⟨by rw [HS.out]; rfl, rfl⟩

set_option maxRecDepth 100000 in
set_option maxHeartbeats 1000000 in
theorem bits_clear (m : Nat) (i : Int) (w : World) :
    Calls Try.prog 11 #[.int .u64 m, .int .i64 i] w fun e w' => e = .returned (.int .u64 (clrI m i : Nat)) ∧ w = w' := by
  by_cases hi : 0 ≤ i ∧ i ≤ 63
  · have e := clr_pow m i.toNat (by omega)
    have HS : Hid (clrI m i = bclr m i.toNat) := if_pos hi
    obtain ⟨h0, h1⟩ := hi
    go_enter Try.func11, Try.ntmps11
    go_wp2
    go_ret
    exact ⟨by rw [HS.out]; rfl, rfl⟩
  · have HS : Hid (clrI m i = m) := if_neg hi
    by_cases h0 : i < 0
    · clear hi
      go_enter Try.func11, Try.ntmps11
      go_wp2
      go_ret
      exact ⟨by rw [HS.out]; rfl, rfl⟩
    · have h1 : 63 < i := by omega
      clear hi
      go_enter Try.func11, Try.ntmps11
      go_wp2
      go_ret
      exact ⟨by rw [HS.out]; rfl, rfl⟩

set_option maxRecDepth 100000 in
set_option maxHeartbeats 1000000 in
theorem bits_count (m : Nat) (w : World) (h : m < W64) :
    Calls Try.prog 13 #[.int .u64 m] w fun e w' => e = .returned (.int .i64 (bdown m 64).length) ∧ w = w' := by
  go_enter Try.func13, Try.ntmps13
  go_wp2_with (go_at_call 24; refine (ones64 m _ h).mono ?_; rintro e w' ⟨rfl, rfl⟩)
  go_ret
  exact ⟨rfl, rfl⟩

set_option maxRecDepth 100000 in
set_option maxHeartbeats 1000000 in
theorem bits_has (m : Nat) (i : Int) (w : World) (h : m < W64) :
    Calls Try.prog 12 #[.int .u64 m, .int .i64 i] w fun e w' => e = .returned (.bool (hasI m i)) ∧ w = w' := by
  by_cases h0 : 0 ≤ i
  · by_cases h1 : i ≤ 63
    · have e := has_law m i.toNat h
      have HS : Hid (hasI m i = m.testBit i.toNat) := by show hasI m i = m.testBit i.toNat; simp [hasI, h0, h1]
      go_enter Try.func12, Try.ntmps12
      go_wp2
      go_ret
      exact ⟨by rw [HS.out, ← e]; rfl, rfl⟩
    · have HS : Hid (hasI m i = false) := by show hasI m i = false; simp [hasI]; omega
      go_enter Try.func12, Try.ntmps12
      go_wp2
      go_ret
      exact ⟨by rw [HS.out]; rfl, rfl⟩
  · have HS : Hid (hasI m i = false) := by show hasI m i = false; simp [hasI]; omega
    go_enter Try.func12, Try.ntmps12
    go_wp2
    go_ret
    exact ⟨by rw [HS.out]; rfl, rfl⟩

end Go.Proofs.Ytaemgmlcfkpaeaa
