/-
  WALKS of math/bits (Len64, LeadingZeros64, OnesCount64) and of package bits, chapter 2.
-/
import Derived.Test.YtaemgmlcfkpaeaaBitL
import Derived.Test.YtaemgmlcfkpaeaaAppB
import Derived.Lib.Strings
import Derived.Lib.Slices
import Derived.Lib.Small
import Derived.Lib.Walk
namespace Go.Proofs.Ytaemgmlcfkpaeaa
open Go.RowKit

abbrev W64 : Nat := 18446744073709551616

theorem ofInt_nat (a : Nat) : BitVec.ofInt 64 (a : Int) = BitVec.ofNat 64 a := by simp
theorem u64_wrap (a : Nat) (h : a < W64) : IntKind.u64.wrap (a : Int) = a := by
  show ((a : Int) % _) = a
  exact Int.emod_eq_of_lt (by omega) (by show (a : Int) < 18446744073709551616; unfold W64 at h; omega)
theorem bits_and (a b : Nat) (ha : a < W64) (hb : b < W64) : bits .and .u64 a b = ((a &&& b : Nat) : Int) := by
  show IntKind.u64.wrap (((BitVec.ofInt 64 (a : Int) &&& BitVec.ofInt 64 (b : Int)).toNat : Nat) : Int) = _
  rw [ofInt_nat, ofInt_nat, BitVec.toNat_and, BitVec.toNat_ofNat, BitVec.toNat_ofNat, Nat.mod_eq_of_lt ha, Nat.mod_eq_of_lt hb, u64_wrap _ (Nat.lt_of_le_of_lt Nat.and_le_left ha)]
theorem bits_or (a b : Nat) (ha : a < W64) (hb : b < W64) : bits .or .u64 a b = ((a ||| b : Nat) : Int) := by
  show IntKind.u64.wrap (((BitVec.ofInt 64 (a : Int) ||| BitVec.ofInt 64 (b : Int)).toNat : Nat) : Int) = _
  rw [ofInt_nat, ofInt_nat, BitVec.toNat_or, BitVec.toNat_ofNat, BitVec.toNat_ofNat, Nat.mod_eq_of_lt ha, Nat.mod_eq_of_lt hb, u64_wrap _ (Nat.or_lt_two_pow (n := 64) ha hb)]
theorem bits_clr (a i : Nat) : bits .andNot .u64 a ((2 ^ i : Nat) : Int) = ((bclr a i : Nat) : Int) := by
  show IntKind.u64.wrap (((BitVec.ofInt 64 (a : Int) &&& ~~~BitVec.ofInt 64 ((2 ^ i : Nat) : Int)).toNat : Nat) : Int) = _
  rw [ofInt_nat, ofInt_nat]
  exact u64_wrap _ bclr_lt

theorem tab_size : (Lib.len8tab.size : Int) = 256 := by
  have := Lib.len8tab_size
  omega
theorem way_k (k a b : Nat) (hk : k ≤ 56) (ha : a ≤ 8) (hb : b = k + a) : wrap64 ((k : Int) + wrap64 (a : Int)) = (b : Int) := by
  unfold wrap64
  omega
theorem way_2 (a : Nat) (ha : a ≤ 8) : wrap64 (wrap64 (a : Int)) = (a : Int) := by
  unfold wrap64
  omega
theorem tab_get (y : Int) (h : y.toNat < Lib.len8tab.size) : ((Lib.len8tab[y.toNat]'h).toNat : Int) = Lib.len8 y := by
  unfold Lib.len8
  rw [getElem?_pos Lib.len8tab y.toNat h]
  rfl

set_option maxRecDepth 100000 in
set_option maxHeartbeats 4000000 in
theorem len64 (x : Int) (w : World) (h0 : 0 ≤ x) (h1 : x ≤ 18446744073709551615) :
    Calls Try.prog 26 #[.int .u64 x] w fun e w' => e = .returned (.int .i64 (Lib.bitLen x.toNat)) ∧ w = w' := by
  go_enter Try.func26, Try.ntmps26
  go_wp2
  all_goals first
    | (go_ret; refine ⟨congrArg Ending.returned (congrArg (Value.int IntKind.i64) ?_), rfl⟩)
    | (exfalso; have hs := tab_size; omega)
  all_goals first
    | (rw [tab_get (x / 4294967296 / 65536 / 256) _, Lib.len8_of (x / 4294967296 / 65536 / 256) (by omega) (by omega)]
       have e : (x / 4294967296 / 65536 / 256).toNat = x.toNat / 72057594037927936 := by omega
       have l := Lib.bitLen_le8' (x / 4294967296 / 65536 / 256) (by omega) (by omega)
       have s := Lib.bitLen_shift56 x.toNat (by omega) (by omega)
       rw [e] at l ⊢
       exact way_k 56 _ _ (by decide) l s)
    | (rw [tab_get (x / 4294967296 / 65536) _, Lib.len8_of (x / 4294967296 / 65536) (by omega) (by omega)]
       have e : (x / 4294967296 / 65536).toNat = x.toNat / 281474976710656 := by omega
       have l := Lib.bitLen_le8' (x / 4294967296 / 65536) (by omega) (by omega)
       have s := Lib.bitLen_shift48 x.toNat (by omega) (by omega)
       rw [e] at l ⊢
       exact way_k 48 _ _ (by decide) l s)
    | (rw [tab_get (x / 4294967296 / 256) _, Lib.len8_of (x / 4294967296 / 256) (by omega) (by omega)]
       have e : (x / 4294967296 / 256).toNat = x.toNat / 1099511627776 := by omega
       have l := Lib.bitLen_le8' (x / 4294967296 / 256) (by omega) (by omega)
       have s := Lib.bitLen_shift40 x.toNat (by omega) (by omega)
       rw [e] at l ⊢
       exact way_k 40 _ _ (by decide) l s)
    | (rw [tab_get (x / 4294967296) _, Lib.len8_of (x / 4294967296) (by omega) (by omega)]
       have e : (x / 4294967296).toNat = x.toNat / 4294967296 := by omega
       have l := Lib.bitLen_le8' (x / 4294967296) (by omega) (by omega)
       have s := Lib.bitLen_shift32 x.toNat (by omega) (by omega)
       rw [e] at l ⊢
       exact way_k 32 _ _ (by decide) l s)
    | (rw [tab_get (x / 65536 / 256) _, Lib.len8_of (x / 65536 / 256) (by omega) (by omega)]
       have e : (x / 65536 / 256).toNat = x.toNat / 16777216 := by omega
       have l := Lib.bitLen_le8' (x / 65536 / 256) (by omega) (by omega)
       have s := Lib.bitLen_shift24 x.toNat (by omega) (by omega)
       rw [e] at l ⊢
       exact way_k 24 _ _ (by decide) l s)
    | (rw [tab_get (x / 65536) _, Lib.len8_of (x / 65536) (by omega) (by omega)]
       have e : (x / 65536).toNat = x.toNat / 65536 := by omega
       have l := Lib.bitLen_le8' (x / 65536) (by omega) (by omega)
       have s := Lib.bitLen_shift16 x.toNat (by omega) (by omega)
       rw [e] at l ⊢
       exact way_k 16 _ _ (by decide) l s)
    | (rw [tab_get (x / 256) _, Lib.len8_of (x / 256) (by omega) (by omega)]
       have e : (x / 256).toNat = x.toNat / 256 := by omega
       have l := Lib.bitLen_le8' (x / 256) (by omega) (by omega)
       have s := Lib.bitLen_shift8 x.toNat (by omega) (by omega)
       rw [e] at l ⊢
       exact way_k 8 _ _ (by decide) l s)
    | (rw [tab_get x _, Lib.len8_of x (by omega) (by omega)]
       have l := Lib.bitLen_le8' x (by omega) (by omega)
       exact way_2 _ l)

/-- bits.Top: the greatest number, or -1. -/
def btop (m : Nat) : Int := (Lib.bitLen m : Int) - 1

set_option maxRecDepth 100000 in
set_option maxHeartbeats 400000 in
theorem leading64 (m : Nat) (w : World) (h : m < W64) :
    Calls Try.prog 25 #[.int .u64 m] w fun e w' => e = .returned (.int .i64 (64 - Lib.bitLen m)) ∧ w = w' := by
  have l := Lib.bitLen_le m 64 (by omega) h
  go_enter Try.func25, Try.ntmps25
  go_wp2_with (go_at_call 26; refine (len64 m _ (by omega) (by unfold W64 at h; omega)).mono ?_; rintro e w' ⟨rfl, rfl⟩)
  go_ret
  exact ⟨rfl, rfl⟩

set_option maxRecDepth 100000 in
set_option maxHeartbeats 400000 in
theorem bits_top (m : Nat) (w : World) (h : m < W64) :
    Calls Try.prog 14 #[.int .u64 m] w fun e w' => e = .returned (.int .i64 (btop m)) ∧ w = w' := by
  have l := Lib.bitLen_le m 64 (by omega) h
  go_enter Try.func14, Try.ntmps14
  go_wp2_with (go_at_call 25; refine (leading64 m _ h).mono ?_; rintro e w' ⟨rfl, rfl⟩)
  go_ret
  refine ⟨congrArg Ending.returned (congrArg (Value.int IntKind.i64) ?_), rfl⟩
  unfold btop
  omega

theorem mask_and (x M : Nat) (hM : M < W64) (hx : x < W64) : bits .and .u64 (x : Int) (M : Int) = ((x &&& M : Nat) : Int) := bits_and x M hx hM
theorem and7 (x : Nat) (hx : x < 9223372036854775808) : bits .and .i64 (x : Int) 127 = ((x % 128 : Nat) : Int) := by
  show IntKind.i64.wrap (((BitVec.ofInt 64 (x : Int) &&& BitVec.ofInt 64 ((127 : Nat) : Int)).toNat : Nat) : Int) = _
  rw [ofInt_nat, ofInt_nat, BitVec.toNat_and, BitVec.toNat_ofNat, BitVec.toNat_ofNat, Nat.mod_eq_of_lt (by omega), Nat.mod_eq_of_lt (by omega), show (127 : Nat) = 2 ^ 7 - 1 from rfl, Nat.and_two_pow_sub_one_eq_mod]
  exact IntWalk.i64_in _ ⟨by omega, by omega⟩

set_option maxRecDepth 100000 in
set_option maxHeartbeats 4000000 in
theorem ones64 (m : Nat) (w : World) (h : m < W64) :
    Calls Try.prog 24 #[.int .u64 m] w fun e w' => e = .returned (.int .i64 (bdown m 64).length) ∧ w = w' := by
  have r85 : rep 85 8 = 6148914691236517205 := by decide
  have r51 : rep 51 8 = 3689348814741910323 := by decide
  have r15 : rep 15 8 = 1085102592571150095 := by decide
  have b1 : G1 8 m ≤ 12297829382473034410 := by
    have h1 : (m / 2) &&& rep 85 8 ≤ rep 85 8 := Nat.and_le_right
    have h2 : m &&& rep 85 8 ≤ rep 85 8 := Nat.and_le_right
    rw [r85] at h1 h2
    unfold G1; rw [r85]; omega
  have b2 : ∀ x, G2 8 x ≤ 7378697629483820646 := by
    intro x
    have h1 : (x / 4) &&& rep 51 8 ≤ rep 51 8 := Nat.and_le_right
    have h2 : x &&& rep 51 8 ≤ rep 51 8 := Nat.and_le_right
    rw [r51] at h1 h2
    unfold G2; rw [r51]; omega
  have b3 : ∀ x, G3 8 x ≤ 1085102592571150095 := by
    intro x
    have h1 : (x / 16 + x) &&& rep 15 8 ≤ rep 15 8 := Nat.and_le_right
    rw [r15] at h1
    unfold G3; rw [r15]; omega
  have f1 : IntKind.u64.wrap (bits .and .u64 ((m : Int) / 2) 6148914691236517205 + bits .and .u64 (m : Int) 6148914691236517205) = ((G1 8 m : Nat) : Int) := by
    have e1 := mask_and (m / 2) 6148914691236517205 (by decide) (by omega)
    have e2 := mask_and m 6148914691236517205 (by decide) h
    have e3 : G1 8 m = ((m / 2) &&& 6148914691236517205) + (m &&& 6148914691236517205) := by unfold G1; rw [r85]
    rw [show ((m : Int) / 2) = ((m / 2 : Nat) : Int) by omega, show (6148914691236517205 : Int) = ((6148914691236517205 : Nat) : Int) from rfl, e1, e2, ← Int.natCast_add, ← e3]
    exact u64_wrap _ (by unfold W64; omega)
  have hsw := swar m _ _ _ _ rfl rfl rfl rfl
  generalize G1 8 m = s1 at *
  have f2 : IntKind.u64.wrap (bits .and .u64 ((s1 : Int) / 4) 3689348814741910323 + bits .and .u64 (s1 : Int) 3689348814741910323) = ((G2 8 s1 : Nat) : Int) := by
    have hs : s1 < W64 := by unfold W64; omega
    have e1 := mask_and (s1 / 4) 3689348814741910323 (by decide) (by omega)
    have e2 := mask_and s1 3689348814741910323 (by decide) hs
    have e3 : G2 8 s1 = ((s1 / 4) &&& 3689348814741910323) + (s1 &&& 3689348814741910323) := by unfold G2; rw [r51]
    have b := b2 s1
    rw [show ((s1 : Int) / 4) = ((s1 / 4 : Nat) : Int) by omega, show (3689348814741910323 : Int) = ((3689348814741910323 : Nat) : Int) from rfl, e1, e2, ← Int.natCast_add, ← e3]
    exact u64_wrap _ (by unfold W64; omega)
  have c2 := b2 s1
  generalize G2 8 s1 = s2 at *
  have f3 : bits .and .u64 (IntKind.u64.wrap ((s2 : Int) / 16 + (s2 : Int))) 1085102592571150095 = ((G3 8 s2 : Nat) : Int) := by
    have e3 : G3 8 s2 = (s2 / 16 + s2) &&& 1085102592571150095 := by unfold G3; rw [r15]
    rw [show ((s2 : Int) / 16 + (s2 : Int)) = ((s2 / 16 + s2 : Nat) : Int) by omega, u64_wrap _ (by unfold W64; omega), show (1085102592571150095 : Int) = ((1085102592571150095 : Nat) : Int) from rfl, mask_and _ _ (by decide) (by unfold W64; omega), e3]
  have c3 := b3 s2
  generalize G3 8 s2 = y at *
  have f4 : IntKind.u64.wrap ((y : Int) + (y : Int) / 256) = ((y + y / 256 : Nat) : Int) := by
    rw [show ((y : Int) + (y : Int) / 256) = ((y + y / 256 : Nat) : Int) by omega]; exact u64_wrap _ (by unfold W64; omega)
  have c4 : y + y / 256 ≤ 2305843009213693952 := by omega
  generalize y + y / 256 = y1 at *
  have f5 : IntKind.u64.wrap ((y1 : Int) + (y1 : Int) / 65536) = ((y1 + y1 / 65536 : Nat) : Int) := by
    rw [show ((y1 : Int) + (y1 : Int) / 65536) = ((y1 + y1 / 65536 : Nat) : Int) by omega]; exact u64_wrap _ (by unfold W64; omega)
  have c5 : y1 + y1 / 65536 ≤ 4611686018427387904 := by omega
  generalize y1 + y1 / 65536 = y2 at *
  have f6 : IntKind.u64.wrap ((y2 : Int) + (y2 : Int) / 4294967296) = ((y2 + y2 / 4294967296 : Nat) : Int) := by
    rw [show ((y2 : Int) + (y2 : Int) / 4294967296) = ((y2 + y2 / 4294967296 : Nat) : Int) by omega]; exact u64_wrap _ (by unfold W64; omega)
  have c6 : y2 + y2 / 4294967296 < 9223372036854775808 := by omega
  generalize y2 + y2 / 4294967296 = y3 at *
  have f7 := and7 y3 c6
  have f8 : IntKind.i64.wrap (y3 : Int) = y3 := IntWalk.i64_in _ ⟨by omega, by omega⟩
  rw [hsw, ← bdown_pop] at f7
  clear b1 b2 b3 c2 c3 c4 c5 hsw r85 r51 r15 h
  go_enter Try.func24, Try.ntmps24
  go_wp2
  go_ret
  exact ⟨rfl, rfl⟩

end Go.Proofs.Ytaemgmlcfkpaeaa
