/-
  WALKS of chapter 11: Acyclic of both; great; what every program answers that is one.
-/
import Derived.Test.YtpaoolcnoflhiaaGphF
import Derived.Test.YtpaoolcnoflhiaaAppB
namespace Go.Proofs.Ytpaoolcnoflhiaa
open Go.RowKit
attribute [local go_sem] depUpon Sp.ok

/-- Does none of the first k wait for itself? -/
def gacy (ws os : List Int) (n : Int) (k : Nat) : Bool := (List.range k).all fun i => !memB (i : Int) (gchain ws os n (i : Int))
def gacyclic (ws os : List Int) (n : Int) : Bool := gacy ws os n (min n (ws.length : Int)).toNat
theorem gacy_succ (ws os : List Int) (n : Int) (k : Nat) : gacy ws os n (k + 1) = (gacy ws os n k && !memB (k : Int) (gchain ws os n (k : Int))) := by
  unfold gacy; rw [List.range_succ, List.all_append]; simp
theorem gacy_false {ws os : List Int} {n : Int} {k m : Nat} (hk : k < m) (h : memB (k : Int) (gchain ws os n (k : Int)) = true) : gacy ws os n m = false := by
  unfold gacy
  rw [List.all_eq_false]
  exact ⟨k, List.mem_range.2 hk, by simp [h]⟩

set_option maxRecDepth 100000 in
set_option maxHeartbeats 2000000 in
theorem g_acyclic (A : Option Addr) (na ca : Nat) (ws : List Int) (B : Option Addr) (nb cb : Nat) (os : List Int) (n : Int) (w : World) (h : WO w A na ws B nb os) (hn : n ≤ 60000) :
    Calls Try.prog 19 #[.slice A na ca, .slice B nb cb, .int .i64 n] w fun e w' => e = .returned (.bool (gacyclic ws os n)) ∧ Below w.heap.size w w' := by
  have HW := Lib.hid h
  have HLA := Lib.hid h.la
  have HC := Lib.hid (fun (k : Nat) w' (hb : Ext w w') => g_chain A na ca ws B nb cb os n (k : Int) w' (HW.out.keep hb) hn)
  have HCL := Lib.hid (fun (k : Nat) => gchain_len ws os n (k : Int))
  have hval : gacyclic ws os n = gacy ws os n (min n (na : Int)).toNat := by rw [← HLA.out]; rfl
  have hb : ((min n (na : Int)).toNat : Int) = max (min n (na : Int)) 0 := by omega
  generalize hN : (min n (na : Int)).toNat = N at *
  have HV := Lib.hid hval
  have h1 : (N : Int) ≤ 60000 := by omega
  clear h hval hN
  go_enter Try.func19, Try.ntmps19
  go_wp2
  all_goals
    have hq : ∀ k : Nat, (k : Int) < (N : Int) ↔ (k : Int) < min n (na : Int) := fun k => by omega
    have HQ := Lib.hid hq
    clear hq hb
    go_loopw [12] (fun i wr => ∃ k : Nat, k ≤ N ∧ i = .int .i64 k ∧ Hid (gacy ws os n k = true) ∧ Ext w wr) (fun i _ => N - (intOf i).toNat)
    case atStart => exact ⟨0, Nat.zero_le _, rfl, Lib.hid rfl, Ext.refl _⟩
    case round =>
      obtain ⟨k, hk, rfl, HA, hb⟩ := hrel
      by_cases hlt : k < N
      · have hlt2 := (HQ.out k).1 (by omega)
        first
          | (have hlt3 : (k : Int) < n := by omega)
          | skip
        have hlt4 : (k : Int) < (na : Int) := by omega
        have hlen := HCL.out k
        have hI := fun A' (c' : Nat) w' (hr : Rd w' A' (ints (gchain ws os n (k : Int)))) => s_contains (k : Int) A' (gchain ws os n (k : Int)).length c' (gchain ws os n (k : Int)) w' (by omega) hr rfl
        have HS := Lib.hid (gacy_succ ws os n k)
        cases hm : memB (k : Int) (gchain ws os n (k : Int))
        · rw [hm] at hI
          have HI := Lib.hid hI
          have HA2 : Hid (gacy ws os n (k + 1) = true) := Lib.hid (by rw [HS.out, HA.out, hm]; rfl)
          clear hI hm hlt2
          go_wp2_with (first
            | ((with_reducible go_at_call 26); refine (HC.out k _ hb).mono ?_; rintro e w1 ⟨A', c', rfl, r1, b1⟩)
            | ((with_reducible go_at_call 25); (with_reducible refine (HI.out _ _ _ r1.rd).mono ?_); rintro e w' ⟨rfl, rfl⟩))
          go_roundw
          case rel => exact ⟨k + 1, by omega, by go_num, HA2, Ext.trans hb b1⟩
          case measure => simp [intOf]; omega
        · have HF := Lib.hid (gacy_false hlt hm)
          rw [hm] at hI
          have HI := Lib.hid hI
          clear hI hm hlt2
          go_wp2_with (first
            | ((with_reducible go_at_call 26); refine (HC.out k _ hb).mono ?_; rintro e w1 ⟨A', c', rfl, r1, b1⟩)
            | ((with_reducible go_at_call 25); (with_reducible refine (HI.out _ _ _ r1.rd).mono ?_); rintro e w' ⟨rfl, rfl⟩))
          go_ret
          exact ⟨by rw [HV.out, HF.out]; rfl, Ext.trans hb b1⟩
      · have hge : ¬ (k : Int) < min n (na : Int) := fun h => hlt (by have := (HQ.out k).2 h; omega)
        have hkN : k = N := by omega
        have HF : Hid (gacyclic ws os n = true) := Lib.hid (by rw [HV.out, ← hkN, HA.out])
        clear hkN
        first
          | (have hge2 : ¬ (k : Int) < n := by omega)
          | (have hge2 : ¬ (k : Int) < (na : Int) := by omega)
        clear hge
        go_wp2
        go_ret
        exact ⟨by rw [HF.out]; rfl, hb⟩

theorem rd_prio3 (w : World) (a b c d e f g h i : Int) : Rd (w.alloc (.cells #[.int .i64 a, .int .i64 b, .int .i64 c, .int .i64 d, .int .i64 e, .int .i64 f, .int .i64 g, .int .i64 h, .int .i64 i] 38)) (some ⟨w.heap.size, 0, none⟩) (trips [(a, b, c), (d, e, f), (g, h, i)]) := (Own.new w 38 (trips [(a, b, c), (d, e, f), (g, h, i)])).rd0

end Go.Proofs.Ytpaoolcnoflhiaa
