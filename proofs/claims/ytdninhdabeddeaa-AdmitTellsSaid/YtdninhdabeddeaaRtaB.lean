/-
  WALKS of chapter 16's reference, and of the statements' own helpers.
-/
import Derived.Test.YtdninhdabeddeaaRtaA
import Derived.Test.YtdninhdabeddeaaRefA
import Derived.Test.YtdninhdabeddeaaApp
namespace Go.Proofs.Ytdninhdabeddeaa
open Go.RowKit
attribute [local go_sem] depUpon Sp.ok


set_option maxRecDepth 100000 in
set_option maxHeartbeats 1000000 in
theorem ref_work (span : Int) (A : Option Addr) (n c : Nat) (ps : List (Int × Int)) (w : World) (hn : n ≤ 4611686018427387904) (hr : Rd w A (pairs ps)) (hl : ps.length = n) :
    Calls Try.prog 67 #[.int .i64 span, .slice A n c] w fun e w' => e = .returned (.int .i64 (rwork span ps)) ∧ Below w.heap.size w w' := by
  subst hl
  go_enter Try.func67, Try.ntmps67
  go_wp2
  go_loopw [5, 6] (fun s i wr => ∃ k : Nat, k ≤ ps.length ∧ i = .int .i64 k ∧ s = .int .i64 (rwork span (ps.take k)) ∧ Below w.heap.size w wr) (fun _ i _ => ps.length - (intOf i).toNat)
  case atStart => exact ⟨0, Nat.zero_le _, rfl, rfl, Below.refl _ _⟩
  case round =>
    obtain ⟨k, hk, rfl, rfl, hb⟩ := hrel
    by_cases hlt : k < ps.length
    · obtain ⟨b, off, rfl, h1, h2⟩ := (hr.keep hb).pair hlt
      have HT := Lib.hid (take_succ' ps k hlt)
      have HN := Lib.hid (nadd_nsum (rwork span (ps.take k)) (nmul (nup span ps[k].1) ps[k].2))
      have i0 : (0 : Int) ≤ (k : Int) := by omega
      have i1 : (k : Int) < (ps.length : Int) := by omega
      go_wp2
      refine wp_region_dep (S := Ext) (C := Ext (wr)) (by kernel_rfl) (by kernel_rfl) rfl Ext.refl (Ext.drew _) ?_
      repeat (refine dep_det (by rfl) (fun K hK => ?_); go_simp; first
        | ((with_reducible refine hK _ ?_); clear hK K)
        | (rw [if_neg (by decide)]; (with_reducible refine hK _ ?_); clear hK K)
        | (refine ⟨_, fun w1 hw1 => ⟨Ext.refl w1, hw1, rfl⟩, hK _ ?_⟩; clear hK K)
        | (apply Exists.intro; refine ⟨fun w1 hw1 => ?_, hK _ ?_⟩
           first
             | (go_at_call 80; refine (ref_up _ _ _).mono ?_; rintro e w' ⟨rfl, rfl⟩; exact ⟨_, rfl, Ext.refl _, hw1, rfl⟩)
             | (go_at_call 79; refine (ref_mul _ _ _).mono ?_; rintro e w' ⟨rfl, rfl⟩; exact ⟨_, rfl, Ext.refl _, hw1, rfl⟩)
             | (go_at_call 61; refine (ref_add _ _ _).mono ?_; rintro e w' ⟨rfl, rfl⟩; exact ⟨_, rfl, Ext.refl _, hw1, rfl⟩)
             | (have c_h1 := cell_keep hw1 h1; have c_h2 := cell_keep hw1 h2; go_simp; first | exact ⟨Ext.refl _, hw1, rfl⟩ | exact ⟨Ext.refl _, rfl⟩)
           clear hK K))
      refine dep_nil ?_
      intro a' w' hC hE
      obtain rfl := atEnd_nil hE
      clear hE
      go_wp2
      go_roundw
      case rel => exact ⟨k + 1, by omega, by go_num, by rw [HT.out, rwork_snoc, HN.out], hb.trans (hC.mono hb.size)⟩
      case measure => simp [intOf]; omega
    · go_wp2
      go_ret
      exact ⟨ret_int (by rw [List.take_of_length_le (by omega)]), hb⟩

set_option maxRecDepth 100000 in
set_option maxHeartbeats 1000000 in
theorem ref_response (own block : Int) (A : Option Addr) (n c : Nat) (ps : List (Int × Int)) (most : Int) (w : World) (hn : n ≤ 4611686018427387904) (hr : Rd w A (pairs ps)) (hl : ps.length = n) :
    Calls Try.prog 46 #[.int .i64 own, .int .i64 block, .slice A n c, .int .i64 most] w fun e w' =>
      e = .returned (.tuple #[.int .i64 (respOf (rresp own block ps most)), .bool (rresp own block ps most).isSome]) ∧ Below w.heap.size w w' := by
  have m0 := clip_lo most
  have m1 := clip_hi most
  have hm : rmost most = min (clip most) 4096 := rfl
  have q1 : rmost most ≤ clip most := by omega
  have q2 : rmost most ≤ 4096 := by omega
  have r0 : 0 ≤ rmost most := by omega
  have HM := Lib.hid hm
  clear hm
  go_enter Try.func46, Try.ntmps46
  go_wp2
  go_loopw [10] (fun s wr => ∃ x : Int, 1 ≤ x ∧ x ≤ 5000 ∧ s = .int .i64 x ∧ Hid (Short (rneed own block ps) x) ∧ Below w.heap.size w wr) (fun s _ => (rmost most + 1 - intOf s).toNat)
  case atStart => exact ⟨1, by omega, by omega, rfl, fun t h1 h2 => by omega, Below.refl _ _⟩
  case round =>
    obtain ⟨x, x0, x1, rfl, hs, hb⟩ := hrel
    by_cases hle : x ≤ rmost most
    · have n0 := rneed_lo own block ps x
      have n1 := rneed_hi own block ps x
      have g1 : x ≤ clip most := by omega
      have g2 : x ≤ 4096 := by omega
      have hn' : nadd (nadd own block) (rwork x ps) = rneed own block ps x := nadd_nsum3 _ _ _
      have HN := Lib.hid hn'
      clear hn'
      by_cases hlt : rneed own block ps x ≤ x
      · have HY := Lib.hid (rresp_yes x0 hle hlt hs.out)
        go_wp2_with (first | (go_at_call 66; refine (ref_clip _ _).mono ?_; rintro e w' ⟨rfl, rfl⟩) | (go_at_call 67; refine (ref_work _ _ _ _ ps _ hn (hr.keep hb) hl).mono ?_; rintro e w1 ⟨rfl, b1⟩) | ((with_reducible go_at_call 61); refine (ref_add _ _ _).mono ?_; (try rw [HN.out]); rintro e w' ⟨rfl, rfl⟩))
        go_ret2
        refine ⟨?_, hb.trans (b1.mono hb.size)⟩
        rw [HY.out]
        exact ret_resp (by simp [respOf]; omega) rfl
      · have HS : Hid (Short (rneed own block ps) (x + 1)) := fun t h1 h2 => by
          rcases Int.lt_or_le t x with h3 | h3
          · exact hs.out t h1 h3
          · obtain rfl : t = x := by omega
            omega
        go_wp2_with (first | (go_at_call 66; refine (ref_clip _ _).mono ?_; rintro e w' ⟨rfl, rfl⟩) | (go_at_call 67; refine (ref_work _ _ _ _ ps _ hn (hr.keep hb) hl).mono ?_; rintro e w1 ⟨rfl, b1⟩) | ((with_reducible go_at_call 61); refine (ref_add _ _ _).mono ?_; (try rw [HN.out]); rintro e w' ⟨rfl, rfl⟩))
        go_roundw
        case rel => exact ⟨_, by omega, by omega, rfl, HS.out, hb.trans (b1.mono hb.size)⟩
        case measure => simp [intOf]; omega
    · have HY := Lib.hid (rresp_no (Int.not_le.1 hle) hs.out)
      have g3 : clip most < x ∨ 4096 < x := by have := HM.out; omega
      by_cases g1 : x ≤ clip most
      · have g2 : ¬ x ≤ 4096 := by omega
        go_wp2_with (go_at_call 66; refine (ref_clip _ _).mono ?_; rintro e w' ⟨rfl, rfl⟩)
        go_ret2
        refine ⟨?_, hb⟩
        rw [HY.out]
        exact ret_resp rfl rfl
      · go_wp2_with (go_at_call 66; refine (ref_clip _ _).mono ?_; rintro e w' ⟨rfl, rfl⟩)
        go_ret2
        refine ⟨?_, hb⟩
        rw [HY.out]
        exact ret_resp rfl rfl

theorem rd_pairs2 (w : World) (a b c d : Int) : Rd (w.alloc (.cells #[.int .i64 a, .int .i64 b, .int .i64 c, .int .i64 d] 36)) (some ⟨w.heap.size, 0, none⟩) (pairs [(a, b), (c, d)]) := (Own.new w 36 (pairs [(a, b), (c, d)])).rd0
theorem rd_pairs1 (w : World) (a b : Int) : Rd (w.alloc (.cells #[.int .i64 a, .int .i64 b] 36)) (some ⟨w.heap.size, 0, none⟩) (pairs [(a, b)]) := (Own.new w 36 (pairs [(a, b)])).rd0

end Go.Proofs.Ytdninhdabeddeaa
