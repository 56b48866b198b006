/-
  WALKS of package wheel: digit, place; the plain words.
-/
import Derived.Test.YtjipkgnkabocjaaOver
import Derived.Test.YtjipkgnkabocjaaOpn
import Derived.Test.YtjipkgnkabocjaaAppG
import Derived.BigQuiet
import Derived.Deep.CutRange
import Derived.Deep.CutBlock
namespace Go.Proofs.Ytjipkgnkabocjaa
open Go.RowKit
attribute [local go_sem] depUpon Sp.ok

/-- A moment's digit. -/
def dg (at_ : Int) : Nat → Int
  | 0 => at_ % 64
  | 1 => at_ / 64 % 64
  | 2 => at_ / 4096 % 64
  | _ => at_ / 262144 % 64
/-- The ring at which a moment stands. -/
def rg (now at_ : Int) : Nat := if dg at_ 3 ≠ dg now 3 then 3 else if dg at_ 2 ≠ dg now 2 then 2 else if dg at_ 1 ≠ dg now 1 then 1 else 0
theorem dg_lo (a : Int) (r : Nat) : 0 ≤ dg a r := by
  unfold dg
  split <;> omega
theorem dg_hi (a : Int) (r : Nat) : dg a r < 64 := by
  unfold dg
  split <;> omega
theorem rg_hi (now a : Int) : rg now a ≤ 3 := by
  unfold rg
  split
  · omega
  · split
    · omega
    · split <;> omega
/-- The number of the slot. -/
def ix (now at_ : Int) : Nat := rg now at_ * 64 + (dg at_ (rg now at_)).toNat
theorem ix_hi (now a : Int) : ix now a < 256 := by
  unfold ix
  have := rg_hi now a
  have := dg_hi a (rg now a)
  have := dg_lo a (rg now a)
  omega
theorem and63 (x : Int) (h0 : 0 ≤ x) (h1 : x ≤ 9223372036854775807) : bits .and .i64 x 63 = x % 64 := by
  obtain ⟨n, rfl⟩ : ∃ n : Nat, x = (n : Int) := ⟨x.toNat, by omega⟩
  show IntKind.i64.wrap (((BitVec.ofInt 64 (n : Int) &&& BitVec.ofInt 64 ((63 : Nat) : Int)).toNat : Nat) : Int) = _
  rw [BitVec.ofInt_natCast, BitVec.ofInt_natCast, BitVec.toNat_and, BitVec.toNat_ofNat, BitVec.toNat_ofNat, Nat.mod_eq_of_lt (by omega), Nat.mod_eq_of_lt (by omega)]
  rw [show (63 : Nat) = 2 ^ 6 - 1 from rfl, Nat.and_two_pow_sub_one_eq_mod]
  have h2 : n % 2 ^ 6 < 64 := Nat.mod_lt _ (by omega)
  rw [IntWalk.i64_in _ ⟨by omega, by omega⟩]
  omega

theorem w_digit (a : Int) (r : Nat) (w : World) (h0 : 0 ≤ a) (h1 : a ≤ 9223372036854775807) (hr : r ≤ 3) :
    Calls Try.prog 30 #[.int .i64 a, .int .i64 (r : Int)] w fun e w' => e = .returned (.int .i64 (dg a r)) ∧ w = w' := by
  have HM := Lib.hid (fun x h0 h1 => and63 x h0 h1)
  have hcase : r = 0 ∨ r = 1 ∨ r = 2 ∨ r = 3 := by omega
  rcases hcase with rfl | rfl | rfl | rfl
  · have e := HM.out a (by omega) (by omega)
    have E := Lib.hid (show dg a 0 = a % 64 from rfl)
    clear h0 h1
    go_enter Try.func30, Try.ntmps30
    go_wp2
    go_ret
    exact ⟨by rw [E.out]; rfl, rfl⟩
  · have e := HM.out (a / 64) (by omega) (by omega)
    have E := Lib.hid (show dg a 1 = a / 64 % 64 from rfl)
    clear h0 h1
    go_enter Try.func30, Try.ntmps30
    go_wp2
    go_ret
    exact ⟨by rw [E.out]; rfl, rfl⟩
  · have e := HM.out (a / 4096) (by omega) (by omega)
    have E := Lib.hid (show dg a 2 = a / 4096 % 64 from rfl)
    clear h0 h1
    go_enter Try.func30, Try.ntmps30
    go_wp2
    go_ret
    exact ⟨by rw [E.out]; rfl, rfl⟩
  · have e := HM.out (a / 262144) (by omega) (by omega)
    have E := Lib.hid (show dg a 3 = a / 262144 % 64 from rfl)
    clear h0 h1
    go_enter Try.func30, Try.ntmps30
    go_wp2
    go_ret
    exact ⟨by rw [E.out]; rfl, rfl⟩

set_option maxRecDepth 100000 in
set_option maxHeartbeats 1000000 in
theorem w_place (g : Nat) (now a : Int) (w : World) (hc : w.cell? ⟨g, 0, none⟩ = some (.int .i64 now)) (n0 : 0 ≤ now) (n1 : now ≤ 9223372036854775807) (h0 : 0 ≤ a) (h1 : a ≤ 9223372036854775807) :
    Calls Try.prog 31 #[.pointer (some ⟨g, 0, none⟩), .int .i64 a] w fun e w' => e = .returned (.tuple #[.int .i64 (rg now a : Int), .int .i64 (dg a (rg now a))]) ∧ Below w.heap.size w w' := by
  have HA := Lib.hid (fun r w (hr : r ≤ 3) => w_digit a r w h0 h1 hr)
  have HN := Lib.hid (fun r w (hr : r ≤ 3) => w_digit now r w n0 n1 hr)
  have HC := Lib.hid hc
  have HR := Lib.hid (show rg now a = if dg a 3 ≠ dg now 3 then 3 else if dg a 2 ≠ dg now 2 then 2 else if dg a 1 ≠ dg now 1 then 1 else 0 from rfl)
  clear h0 h1 n0 n1 hc
  go_enter Try.func31, Try.ntmps31
  go_wp2
  go_loopw [6] (fun q wr => ∃ r : Nat, q = .int .i64 (r : Int) ∧ r ≤ 3 ∧ (∀ j, r < j → j ≤ 3 → dg a j = dg now j) ∧ Ext w wr) (fun q _ => (intOf q).toNat)
  case atStart => exact ⟨3, rfl, by omega, fun j h1 h2 => by omega, Ext.refl _⟩
  case round =>
    obtain ⟨r, rfl, hr, hj, q2⟩ := hrel
    have v0 := cell_keep q2 HC.out
    by_cases h0 : 0 < r
    · have h0' : (0 : Int) < (r : Int) := by omega
      have hA := HA.out r
      have hN := HN.out r
      have HJ := Lib.hid hj
      by_cases hd : dg a r = dg now r
      · have hn : ∀ j, r - 1 < j → j ≤ 3 → dg a j = dg now j := fun j h1 h2 => by
          by_cases e : j = r
          · rw [e]; exact hd
          · exact hj j (by omega) h2
        rw [hd] at hA
        have HA' := Lib.hid hA
        have HN' := Lib.hid hN
        have HNN := Lib.hid hn
        clear hA hN hj hd hn h0
        generalize dg now r = x at *
        go_upto_region 4 with fail
        refine wp_region_dep (S := Ext) (C := Ext (wr)) (by kernel_rfl) (by kernel_rfl) rfl Ext.refl (Ext.drew _) ?_
        repeat (refine dep_det (by rfl) (fun K hK => ?_); go_simp; first
          | ((with_reducible refine hK _ ?_); clear hK K)
          | (rw [if_neg (by decide)]; (with_reducible refine hK _ ?_); clear hK K)
          | (refine ⟨_, fun w1 hw1 => ⟨Ext.refl w1, hw1, rfl⟩, hK _ ?_⟩; clear hK K)
          | (apply Exists.intro; refine ⟨fun w1 hw1 => ?_, hK _ ?_⟩
             first
               | (have c_v0 := cell_keep hw1 v0; go_simp; first | exact ⟨Ext.refl _, hw1, rfl⟩ | exact ⟨Ext.refl _, rfl⟩)
               | (go_at_call 30; ((with_reducible refine (HA'.out _ hr).mono ?_); rintro e w' ⟨rfl, rfl⟩; exact ⟨_, rfl, Ext.refl _, hw1, rfl⟩))
               | (go_at_call 30; ((with_reducible refine (HN'.out _ hr).mono ?_); rintro e w' ⟨rfl, rfl⟩; exact ⟨_, rfl, Ext.refl _, hw1, rfl⟩))
             clear hK K))
        refine dep_nil ?_
        intro a' w' hC hE
        obtain rfl := atEnd_nil hE
        clear hE
        go_wp2
        go_roundw
        case rel => exact ⟨r - 1, by go_num, by omega, HNN.out, Ext.trans q2 hC⟩
        case measure => simp [intOf]; omega
      · have HE := Lib.hid (show rg now a = r by
          have h1 : r = 1 ∨ r = 2 ∨ r = 3 := by omega
          unfold rg
          rcases h1 with rfl | rfl | rfl
          · rw [if_neg (by rw [hj 3 (by omega) (by omega)]; simp), if_neg (by rw [hj 2 (by omega) (by omega)]; simp), if_pos hd]
          · rw [if_neg (by rw [hj 3 (by omega) (by omega)]; simp), if_pos hd]
          · rw [if_pos hd])
        have HA' := Lib.hid hA
        have HN' := Lib.hid hN
        have td : (dg a r != dg now r) = true := by simp [hd]
        clear hA hN hj hd h0 HR
        generalize hx : dg a r = x at *
        have HX := Lib.hid hx
        generalize dg now r = y at *
        clear hx
        go_upto_region 4 with fail
        refine wp_region_dep (S := Ext) (C := Ext (wr)) (by kernel_rfl) (by kernel_rfl) rfl Ext.refl (Ext.drew _) ?_
        repeat (refine dep_det (by rfl) (fun K hK => ?_); go_simp; first
          | ((with_reducible refine hK _ ?_); clear hK K)
          | (rw [if_neg (by decide)]; (with_reducible refine hK _ ?_); clear hK K)
          | (refine ⟨_, fun w1 hw1 => ⟨Ext.refl w1, hw1, rfl⟩, hK _ ?_⟩; clear hK K)
          | (apply Exists.intro; refine ⟨fun w1 hw1 => ?_, hK _ ?_⟩
             first
               | (have c_v0 := cell_keep hw1 v0; go_simp; first | exact ⟨Ext.refl _, hw1, rfl⟩ | exact ⟨Ext.refl _, rfl⟩)
               | (go_at_call 30; ((with_reducible refine (HA'.out _ hr).mono ?_); rintro e w' ⟨rfl, rfl⟩; exact ⟨_, rfl, Ext.refl _, hw1, rfl⟩))
               | (go_at_call 30; ((with_reducible refine (HN'.out _ hr).mono ?_); rintro e w' ⟨rfl, rfl⟩; exact ⟨_, rfl, Ext.refl _, hw1, rfl⟩))
             clear hK K))
        refine dep_nil ?_
        intro a' w' hC hE
        obtain rfl := atEnd_nil hE
        clear hE
        go_wp2_with ((with_reducible go_at_call 30); (with_reducible refine (HA'.out _ hr).mono ?_); rintro e w' ⟨rfl, rfl⟩)
        go_ret2
        exact ⟨by rw [HE.out, HX.out]; rfl, Ext.trans q2 hC⟩
    · obtain rfl : r = 0 := by omega
      have HE := Lib.hid (show rg now a = 0 by
        unfold rg
        rw [if_neg (by rw [hj 3 (by omega) (by omega)]; simp), if_neg (by rw [hj 2 (by omega) (by omega)]; simp), if_neg (by rw [hj 1 (by omega) (by omega)]; simp)])
      have HA' := Lib.hid (HA.out 0)
      clear hj HR h0
      rw [show ((0 : Nat) : Int) = 0 from rfl] at HA' ⊢
      go_wp2_with ((with_reducible go_at_call 30); (with_reducible refine (HA'.out _ (by omega)).mono ?_); rintro e w' ⟨rfl, rfl⟩)
      go_ret2
      exact ⟨by rw [HE.out]; rfl, q2⟩

end Go.Proofs.Ytjipkgnkabocjaa
