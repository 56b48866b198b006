/-
  WALKS of the statements on rta, chapter 16: RtaLeast, RtaRises.
-/
import Derived.Test.YthocbnaphiikeaaRtaC
namespace Go.Proofs.Ythocbnaphiikeaa
open Go.RowKit
attribute [local go_sem] depUpon Sp.ok

theorem least_need (own block x : Int) (ps : List (Int × Int)) (h0 : 0 ≤ own) (h1 : own < 200) (h2 : 0 ≤ block) (h3 : block < 100) : nadd (own + block) (rwork x ps) = rneed own block ps x := by
  simp [rneed, nsum, nadd]; unfold clip; omega

set_option maxRecDepth 100000 in
set_option maxHeartbeats 1000000 in
theorem law_rtaleast (own block : Int) (A : Option Addr) (n c : Nat) (ps : List (Int × Int)) (most : Int) (w : World) (_ : I64 own) (_ : I64 block) (ga : PairsArg w A n ps) (_ : I64 most) :
    Calls Try.prog 4 #[.int .i64 own, .int .i64 block, .slice A n c, .int .i64 most] w fun e w' => e = .returned (.bool true) ∧ Below w.heap.size w w' := by
  obtain ⟨hl, hn, hr, _⟩ := ga
  by_cases h12 : 12 < n
  · go_enter Try.func4, Try.ntmps4
    go_wp2_with (go_at_call 8; refine (rta_awake _).mono ?_; rintro e w1 ⟨rfl, b1⟩)
    go_ret
    exact ⟨rfl, b1⟩
  · have HL := Lib.hid hl
    clear hl
    have l1 := low_lo own 200 (by omega)
    have l2 := low_hi own 200 (by omega)
    have l3 := low_lo block 100 (by omega)
    have l4 := low_hi block 100 (by omega)
    have l5 := low_lo most 600 (by omega)
    have l6 := low_hi most 600 (by omega)
    go_enter Try.func4, Try.ntmps4
    go_wp2_with (go_at_call 14; refine (low_any _ _ _ (by omega) (by omega)).mono ?_; rintro e w' ⟨rfl, rfl⟩)
    generalize low own 200 = o at *
    generalize low block 100 = b at *
    generalize low most 600 = m at *
    refine (rta_response o b A n c ps m _ (by omega) hr HL.out).mono ?_
    rintro e w1 ⟨rfl, b1⟩
    have hm : rmost m = m := by unfold rmost clip; omega
    have HM := Lib.hid hm
    clear hm
    generalize hres : rresp o b ps m = res
    have HR := Lib.hid hres
    clear hres
    have hr1 := hr.keep b1
    go_wp2
    go_loopw [11] (fun s wr => ∃ x : Int, 1 ≤ x ∧ x ≤ 5000 ∧ s = .int .i64 x ∧ Hid (Short (rneed o b ps) x) ∧ Below w1.heap.size w1 wr) (fun s _ => (m + 1 - intOf s).toNat)
    case atStart => exact ⟨1, by omega, by omega, rfl, fun t h1 h2 => by omega, Below.refl _ _⟩
    case round =>
      obtain ⟨x, x0, x1, rfl, hs, hb⟩ := hrel
      by_cases hle : x ≤ m
      · have hn' := least_need o b x ps l1 l2 l3 l4
        have HN := Lib.hid hn'
        clear hn'
        have w0 := rwork_lo x ps
        by_cases hlt : rneed o b ps x ≤ x
        · have hy : res = some (x - 1).toNat := by rw [← HR.out]; exact rresp_yes x0 (by rw [HM.out]; exact hle) hlt hs.out
          obtain ⟨k, rfl⟩ : ∃ k : Nat, x = (k : Int) + 1 := ⟨(x - 1).toNat, by omega⟩
          obtain rfl : res = some k := by rw [hy]; simp
          clear hy
          have hx : respOf (some k) = (k : Int) + 1 := rfl
          go_wp2_with (first | (go_at_call 12; refine (rta_work _ _ _ _ ps _ (by omega) (hr1.keep hb) HL.out).mono ?_; rintro e w2 ⟨rfl, b2⟩) | (go_at_call 15; refine (ref_add _ _ _).mono ?_; rw [HN.out]; rintro e w' ⟨rfl, rfl⟩) | (go_at_call 8; refine (rta_awake _).mono ?_; rintro e w3 ⟨rfl, b3⟩))
          go_ret
          exact ⟨rfl, Ext.trans b1 (hb.trans ((Ext.trans b2 b3).mono hb.size))⟩
        · have HS : Hid (Short (rneed o b ps) (x + 1)) := fun t h1 h2 => by
            rcases Int.lt_or_le t x with h3 | h3
            · exact hs.out t h1 h3
            · obtain rfl : t = x := by omega
              omega
          go_wp2_with (first | (go_at_call 12; refine (rta_work _ _ _ _ ps _ (by omega) (hr1.keep hb) HL.out).mono ?_; rintro e w2 ⟨rfl, b2⟩) | (go_at_call 15; refine (ref_add _ _ _).mono ?_; rw [HN.out]; rintro e w' ⟨rfl, rfl⟩))
          go_roundw
          case rel => exact ⟨_, by omega, by omega, rfl, HS.out, hb.trans (b2.mono hb.size)⟩
          case measure => simp [intOf]; omega
      · have HY : Hid (res = none) := by rw [← HR.out]; exact rresp_no (by rw [HM.out]; omega) hs.out
        obtain rfl := HY.out
        clear HY
        have hx : respOf none = 0 := rfl
        go_wp2_with (go_at_call 8; refine (rta_awake _).mono ?_; rintro e w3 ⟨rfl, b3⟩)
        go_ret
        exact ⟨rfl, Ext.trans b1 (hb.trans (b3.mono hb.size))⟩

end Go.Proofs.Ythocbnaphiikeaa
