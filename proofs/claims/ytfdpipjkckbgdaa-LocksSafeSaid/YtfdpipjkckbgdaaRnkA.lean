/-
  WALKS of package rank: Len, get, Rank, Limit, Sum, Least.
-/
import Derived.Test.YtfdpipjkckbgdaaRefA
import Derived.Test.YtfdpipjkckbgdaaDep
import Derived.Test.YtfdpipjkckbgdaaApp
import Derived.Test.YtfdpipjkckbgdaaArr
import Derived.Test.YtfdpipjkckbgdaaLend
namespace Go.Proofs.Ytfdpipjkckbgdaa
open Go.RowKit
attribute [local go_sem] depUpon Sp.ok

/-- A table of mutexes behind a pointer, or none. -/
def Tab (w : World) (p : Value) (ms : List (Int × Int)) : Prop :=
  (p = .pointer none ∧ ms = []) ∨ ∃ g A n c, p = .pointer (some ⟨g, 0, none⟩) ∧ w.cell? ⟨g, 0, none⟩ = some (.slice A n c) ∧ Rd w A (pairs ms) ∧ ms.length = n ∧ n ≤ 6
theorem Tab.keep {w w' : World} {p : Value} {ms : List (Int × Int)} (h : Tab w p ms) (hb : Ext w w') : Tab w' p ms := by
  rcases h with h | ⟨g, A, n, c, h1, h2, h3, h4⟩
  · exact .inl h
  · exact .inr ⟨g, A, n, c, h1, cell_keep hb h2, h3.keep hb, h4⟩
theorem Tab.le {w : World} {p : Value} {ms : List (Int × Int)} (h : Tab w p ms) : ms.length ≤ 6 := by
  rcases h with ⟨_, rfl⟩ | ⟨g, A, n, c, h1, h2, h3, h4, h5⟩
  · simp
  · omega

/-- A mutex of a list; nothing is set, if there is none. -/
def mget (ms : List (Int × Int)) (m : Int) : Int × Int := if 0 ≤ m then ms.getD m.toNat (0, 0) else (0, 0)
theorem mget_in {ms : List (Int × Int)} {k : Nat} (h : k < ms.length) : mget ms (k : Int) = ms[k] := by
  unfold mget; rw [if_pos (by omega)]; simp [h]
theorem mget_out {ms : List (Int × Int)} {m : Int} (h : m < 0 ∨ (ms.length : Int) ≤ m) : mget ms m = (0, 0) := by
  unfold mget
  by_cases h0 : 0 ≤ m
  · rw [if_pos h0, List.getD_eq_getElem?_getD, List.getElem?_eq_none (by omega)]; rfl
  · rw [if_neg h0]
theorem mget_ways (ms : List (Int × Int)) (m : Int) : (mget ms m = (0, 0) ∧ (m < 0 ∨ (ms.length : Int) ≤ m)) ∨ ∃ k : Nat, m = (k : Int) ∧ ∃ h : k < ms.length, mget ms m = ms[k] := by
  by_cases h : m < 0 ∨ (ms.length : Int) ≤ m
  · exact .inl ⟨mget_out h, h⟩
  · obtain ⟨k, rfl⟩ : ∃ k : Nat, m = (k : Int) := ⟨m.toNat, by omega⟩
    exact .inr ⟨k, rfl, by omega, mget_in (by omega)⟩

set_option maxRecDepth 100000 in
set_option maxHeartbeats 1000000 in
theorem t_len (p : Value) (ms : List (Int × Int)) (w : World) (h : Tab w p ms) :
    Calls Try.prog 38 #[p] w fun e w' => e = .returned (.int .i64 (ms.length : Nat)) ∧ w = w' := by
  rcases h with ⟨rfl, rfl⟩ | ⟨g, A, n, c, rfl, h1, h2, rfl, h4⟩
  · go_enter Try.func38, Try.ntmps38
    go_wp2
    go_ret
    exact ⟨rfl, rfl⟩
  · go_enter Try.func38, Try.ntmps38
    go_wp2
    go_ret
    exact ⟨rfl, rfl⟩

set_option maxRecDepth 100000 in
set_option maxHeartbeats 1000000 in
theorem t_get (p : Value) (ms : List (Int × Int)) (m : Int) (w : World) (h : Tab w p ms) :
    Calls Try.prog 39 #[p, .int .i64 m] w fun e w' => e = .returned (.agg #[.int .i64 (mget ms m).1, .int .i64 (mget ms m).2]) ∧ Below w.heap.size w w' := by
  have cL := fun w' (hb : Ext w w') => t_len p ms w' (h.keep hb)
  rcases mget_ways ms m with ⟨hg, hm⟩ | ⟨k, rfl, hk, hg⟩
  · rw [hg]
    have CL := Lib.hid cL
    clear cL hg
    rcases hm with hm | hm
    · go_enter Try.func39, Try.ntmps39
      go_wp2
      exact bodyPost_ret (v := .agg #[.int .i64 0, .int .i64 0]) (by simp [results, Try.results39, go_sem]) rfl ⟨rfl, Ext.alloc _ _⟩
    · have h0 : 0 ≤ m := by omega
      go_enter Try.func39, Try.ntmps39
      go_wp2_with ((with_reducible go_at_call 38); refine (CL.out _ (Ext.alloc _ _)).mono ?_; rintro e w' ⟨rfl, rfl⟩)
      exact bodyPost_ret (v := .agg #[.int .i64 0, .int .i64 0]) (by simp [results, Try.results39, go_sem]) rfl ⟨rfl, Ext.alloc _ _⟩
  · rw [hg]
    clear hg
    have CL := Lib.hid cL
    clear cL
    rcases h with ⟨_, rfl⟩ | ⟨g, A, n, c, rfl, h1, h2, rfl, h4⟩
    · simp at hk
    · obtain ⟨b, off, rfl, h3, h5⟩ := h2.pair hk
      have a1 := cell_keep (Ext.alloc w (.cells #[.int .i64 0, .int .i64 0] 29)) h1
      have a3 := cell_keep (Ext.alloc w (.cells #[.int .i64 0, .int .i64 0] 29)) h3
      have a5 := cell_keep (Ext.alloc w (.cells #[.int .i64 0, .int .i64 0] 29)) h5
      have hk' : (k : Int) < (ms.length : Int) := by omega
      go_enter Try.func39, Try.ntmps39
      go_wp2_with ((with_reducible go_at_call 38); refine (CL.out _ (Ext.alloc _ _)).mono ?_; rintro e w' ⟨rfl, rfl⟩)
      exact bodyPost_ret (v := .agg #[.int .i64 ms[k].1, .int .i64 ms[k].2]) (by simp [results, Try.results39, go_sem]) rfl ⟨rfl, Ext.alloc _ _⟩

theorem field_m0 (a b : Value) (w : World) : (Instr.field 29 (.agg #[a, b]) 0).run Try.prog w = .ok a w := by kernel_rfl
theorem field_m1 (a b : Value) (w : World) : (Instr.field 29 (.agg #[a, b]) 1).run Try.prog w = .ok b w := by kernel_rfl

set_option maxRecDepth 100000 in
set_option maxHeartbeats 1000000 in
theorem t_rank (p : Value) (ms : List (Int × Int)) (m : Int) (w : World) (h : Tab w p ms) :
    Calls Try.prog 22 #[p, .int .i64 m] w fun e w' => e = .returned (.int .i64 (mget ms m).1) ∧ Below w.heap.size w w' := by
  have CL := Lib.hid (t_get p ms m w h)
  have hf0 := field_m0
  have hf1 := field_m1
  clear h
  go_enter Try.func22, Try.ntmps22
  go_wp2_with ((with_reducible go_at_call 39); (with_reducible refine (CL.out).mono ?_); rintro e w1 ⟨rfl, b1⟩)
  go_ret
  exact ⟨rfl, b1⟩

set_option maxRecDepth 100000 in
set_option maxHeartbeats 1000000 in
theorem t_limit (p : Value) (ms : List (Int × Int)) (m : Int) (w : World) (h : Tab w p ms) :
    Calls Try.prog 36 #[p, .int .i64 m] w fun e w' => e = .returned (.int .i64 (mget ms m).2) ∧ Below w.heap.size w w' := by
  have CL := Lib.hid (t_get p ms m w h)
  have hf0 := field_m0
  have hf1 := field_m1
  clear h
  go_enter Try.func36, Try.ntmps36
  go_wp2_with ((with_reducible go_at_call 39); (with_reducible refine (CL.out).mono ?_); rintro e w1 ⟨rfl, b1⟩)
  go_ret
  exact ⟨rfl, b1⟩

end Go.Proofs.Ytfdpipjkckbgdaa
