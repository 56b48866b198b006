/-
  WALKS of package admit: what its closures ask, and slices.ContainsFunc with them.
-/
import Derived.Test.YtdninhdabeddeaaAdmC
import Derived.Test.YtdninhdabeddeaaRnkB
namespace Go.Proofs.Ytdninhdabeddeaa
open Go.RowKit
attribute [local go_sem] depUpon Sp.ok

def inB (x lo hi : Int) : Bool := decide (lo ≤ x ∧ x ≤ hi)
def gapB (gs : List Int) : Bool := gs.any fun g => !inB g 1 1000
def useB (nm : Nat) (us : List Int) : Bool := us.any fun m => !inB m 0 ((nm : Int) - 1)

set_option maxRecDepth 100000 in
set_option maxHeartbeats 400000 in
theorem gap_fn (z : Int) (w : World) : Calls Try.prog 29 #[.int .i64 z] w fun e w' => e = .returned (.bool (!inB z 1 1000)) ∧ w = w' := by
  have C := Lib.hid (fun w => a_within z 1 1000 w)
  rw [show decide (1 ≤ z ∧ z ≤ 1000) = inB z 1 1000 from rfl] at C
  generalize inB z 1 1000 = q at *
  go_enter Try.func29, Try.ntmps29
  go_wp2_with ((with_reducible go_at_call 25); (with_reducible refine (C.out _).mono ?_); rintro e w' ⟨rfl, rfl⟩)
  go_ret
  exact ⟨rfl, rfl⟩

set_option maxRecDepth 100000 in
set_option maxHeartbeats 400000 in
theorem use_fn (g : Nat) (M : Option Addr) (nm cm : Nat) (z : Int) (w : World) (hc : w.cell? ⟨g, 2, none⟩ = some (.slice M nm cm)) (hn : nm ≤ 65536) : Calls Try.prog 52 #[.int .i64 z, .pointer (some ⟨g, 0, none⟩)] w fun e w' => e = .returned (.bool (!inB z 0 ((nm : Int) - 1))) ∧ w = w' := by
  have hk : IntKind.i64.wrap ((nm : Int) - 1) = (nm : Int) - 1 := IntWalk.i64_in _ ⟨by omega, by omega⟩
  have C := Lib.hid (fun w => a_within z 0 ((nm : Int) - 1) w)
  rw [show decide (0 ≤ z ∧ z ≤ (nm : Int) - 1) = inB z 0 ((nm : Int) - 1) from rfl] at C
  generalize inB z 0 ((nm : Int) - 1) = q at *
  go_enter Try.func52, Try.ntmps52
  go_wp2_with ((with_reducible go_at_call 25); (with_reducible refine (C.out _).mono ?_); rintro e w' ⟨rfl, rfl⟩)
  go_ret
  exact ⟨rfl, rfl⟩

set_option maxRecDepth 100000 in
set_option maxHeartbeats 1000000 in
theorem gap_index (A : Option Addr) (n c : Nat) (hs : List Int) (w : World) (hn : n ≤ 65536) (hr : Rd w A (ints hs)) (hl : hs.length = n) :
    Calls Try.prog 53 #[.slice A n c, .func (.func 29) #[] #[]] w (IdxPost (gapB hs) w) := by
  subst hl
  go_enter Try.func53, Try.ntmps53
  go_wp2
  go_loopw [8] (fun i wr => ∃ k : Nat, k ≤ hs.length ∧ i = .int .i64 k ∧ Hid (gapB (hs.take k) = false) ∧ Below w.heap.size w wr) (fun i _ => hs.length - (intOf i).toNat)
  case atStart => exact ⟨0, Nat.zero_le _, rfl, Lib.hid rfl, Below.refl _ _⟩
  case round =>
    obtain ⟨k, hk, rfl, HA, hb⟩ := hrel
    by_cases hlt : k < hs.length
    · obtain ⟨b, off, rfl, h1⟩ := (hr.keep hb).int hlt
      have HTk := Lib.hid (show hs.take (k + 1) = hs.take k ++ [hs[k]] by rw [List.take_add_one, List.getElem?_eq_getElem hlt]; rfl)
      have HM := Lib.hid (List.getElem_mem hlt : hs[k] ∈ hs)
      generalize hs[k] = x at *
      have c1 := gap_fn x wr
      cases hg : (!inB x 1 1000)
      · have HE : Hid (gapB (hs.take (k + 1)) = false) := Lib.hid (by
          have := HA.out
          unfold gapB at this ⊢
          rw [HTk.out, List.any_append, this]; simp only [List.any_cons, List.any_nil, hg]; rfl)
        rw [hg] at c1
        have C1 := Lib.hid c1
        clear c1 hg
        go_wp2_with ((with_reducible go_at_call 29); (with_reducible refine (C1.out).mono ?_); rintro e w' ⟨rfl, rfl⟩)
        go_roundw
        case rel => exact ⟨k + 1, by omega, by go_num, HE, hb⟩
        case measure => simp [intOf]; omega
      · have HE : Hid (true = gapB hs) := Lib.hid (by
          unfold gapB
          exact (List.any_eq_true.2 ⟨x, HM.out, hg⟩).symm)
        rw [hg] at c1
        have C1 := Lib.hid c1
        clear c1 hg
        go_wp2_with ((with_reducible go_at_call 29); (with_reducible refine (C1.out).mono ?_); rintro e w' ⟨rfl, rfl⟩)
        go_ret
        exact ⟨k, rfl, by omega, by omega, by rw [← HE.out]; simp, hb⟩
    · go_wp2
      go_ret
      exact ⟨-1, rfl, by omega, by omega, by have := HA.out; rw [List.take_of_length_le (by omega)] at this; rw [this]; rfl, hb⟩

set_option maxRecDepth 100000 in
set_option maxHeartbeats 1000000 in
theorem gap_contains (A : Option Addr) (n c : Nat) (hs : List Int) (w : World) (hn : n ≤ 65536) (hr : Rd w A (ints hs)) (hl : hs.length = n) :
    Calls Try.prog 28 #[.slice A n c, .func (.func 29) #[] #[]] w fun e w' => e = .returned (.bool (gapB hs)) ∧ Below w.heap.size w w' := by
  have C1 := Lib.hid (gap_index A n c hs w hn hr hl)
  generalize gapB hs = q at *
  clear hr hl
  go_enter Try.func28, Try.ntmps28
  go_wp2_with fail
  refine C1.out.mono ?_
  rintro e w1 ⟨i, rfl, i0, i1, hq, b1⟩
  have HQ := Lib.hid hq
  clear hq
  go_wp2
  go_ret
  exact ⟨by rw [← HQ.out]; rfl, b1⟩

set_option maxRecDepth 100000 in
set_option maxHeartbeats 1000000 in
theorem use_index (g : Nat) (M : Option Addr) (nm cm : Nat) (A : Option Addr) (n c : Nat) (hs : List Int) (w : World) (hc : w.cell? ⟨g, 2, none⟩ = some (.slice M nm cm)) (hnm : nm ≤ 65536) (hn : n ≤ 65536) (hr : Rd w A (ints hs)) (hl : hs.length = n) :
    Calls Try.prog 53 #[.slice A n c, .func (.func 52) #[] #[.pointer (some ⟨g, 0, none⟩)]] w (IdxPost (useB nm hs) w) := by
  subst hl
  have HC := Lib.hid hc
  clear hc
  go_enter Try.func53, Try.ntmps53
  go_wp2
  go_loopw [8] (fun i wr => ∃ k : Nat, k ≤ hs.length ∧ i = .int .i64 k ∧ Hid (useB nm (hs.take k) = false) ∧ Below w.heap.size w wr) (fun i _ => hs.length - (intOf i).toNat)
  case atStart => exact ⟨0, Nat.zero_le _, rfl, Lib.hid rfl, Below.refl _ _⟩
  case round =>
    obtain ⟨k, hk, rfl, HA, hb⟩ := hrel
    by_cases hlt : k < hs.length
    · obtain ⟨b, off, rfl, h1⟩ := (hr.keep hb).int hlt
      have HTk := Lib.hid (show hs.take (k + 1) = hs.take k ++ [hs[k]] by rw [List.take_add_one, List.getElem?_eq_getElem hlt]; rfl)
      have HM := Lib.hid (List.getElem_mem hlt : hs[k] ∈ hs)
      generalize hs[k] = x at *
      have c1 := use_fn g M nm cm x wr (cell_keep hb HC.out) hnm
      cases hg : (!inB x 0 ((nm : Int) - 1))
      · have HE : Hid (useB nm (hs.take (k + 1)) = false) := Lib.hid (by
          have := HA.out
          unfold useB at this ⊢
          rw [HTk.out, List.any_append, this]; simp only [List.any_cons, List.any_nil, hg]; rfl)
        rw [hg] at c1
        have C1 := Lib.hid c1
        clear c1 hg
        go_wp2_with ((with_reducible go_at_call 52); (with_reducible refine (C1.out).mono ?_); rintro e w' ⟨rfl, rfl⟩)
        go_roundw
        case rel => exact ⟨k + 1, by omega, by go_num, HE, hb⟩
        case measure => simp [intOf]; omega
      · have HE : Hid (true = useB nm hs) := Lib.hid (by
          unfold useB
          exact (List.any_eq_true.2 ⟨x, HM.out, hg⟩).symm)
        rw [hg] at c1
        have C1 := Lib.hid c1
        clear c1 hg
        go_wp2_with ((with_reducible go_at_call 52); (with_reducible refine (C1.out).mono ?_); rintro e w' ⟨rfl, rfl⟩)
        go_ret
        exact ⟨k, rfl, by omega, by omega, by rw [← HE.out]; simp, hb⟩
    · go_wp2
      go_ret
      exact ⟨-1, rfl, by omega, by omega, by have := HA.out; rw [List.take_of_length_le (by omega)] at this; rw [this]; rfl, hb⟩

set_option maxRecDepth 100000 in
set_option maxHeartbeats 1000000 in
theorem use_contains (g : Nat) (M : Option Addr) (nm cm : Nat) (A : Option Addr) (n c : Nat) (hs : List Int) (w : World) (hc : w.cell? ⟨g, 2, none⟩ = some (.slice M nm cm)) (hnm : nm ≤ 65536) (hn : n ≤ 65536) (hr : Rd w A (ints hs)) (hl : hs.length = n) :
    Calls Try.prog 28 #[.slice A n c, .func (.func 52) #[] #[.pointer (some ⟨g, 0, none⟩)]] w fun e w' => e = .returned (.bool (useB nm hs)) ∧ Below w.heap.size w w' := by
  have C1 := Lib.hid (use_index g M nm cm A n c hs w hc hnm hn hr hl)
  generalize useB nm hs = q at *
  clear hr hl
  go_enter Try.func28, Try.ntmps28
  go_wp2_with fail
  refine C1.out.mono ?_
  rintro e w1 ⟨i, rfl, i0, i1, hq, b1⟩
  have HQ := Lib.hid hq
  clear hq
  go_wp2
  go_ret
  exact ⟨by rw [← HQ.out]; rfl, b1⟩

end Go.Proofs.Ytdninhdabeddeaa
