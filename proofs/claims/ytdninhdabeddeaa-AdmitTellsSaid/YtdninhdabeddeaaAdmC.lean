/-
  WALKS of package admit: GreatConfig.
-/
import Derived.Test.YtdninhdabeddeaaAdmB
namespace Go.Proofs.Ytdninhdabeddeaa
open Go.RowKit
attribute [local go_sem] depUpon Sp.ok

/-- A bool came back; 'false' says that the configuration is small. -/
def GC (nt nb nm ng : Nat) (e : Ending) : Prop := ∃ b : Bool, e = .returned (.bool b) ∧ (b = false → nt ≤ 12 ∧ nb ≤ 12 ∧ nm ≤ 12 ∧ ng ≤ 12)
theorem GC.yes (nt nb nm ng : Nat) : GC nt nb nm ng (.returned (.bool true)) := ⟨true, rfl, fun h => by cases h⟩

set_option maxRecDepth 100000 in
set_option maxHeartbeats 2000000 in
theorem l_conf (A : Option Addr) (nt ct : Nat) (ts : List TK) (B : Option Addr) (nb cb : Nat) (bs : List EF) (M : Option Addr) (nm cm : Nat) (ms : List (Int × Int)) (G : Option Addr) (ng cg : Nat) (gs : List Int) (fr dog : Int) (w : World) (h : ConfArg w A nt ts B nb bs M nm ms G ng gs fr dog) :
    Calls Try.prog 8 #[.agg #[.slice A nt ct, .slice B nb cb, .slice M nm cm, .slice G ng cg, .int .i64 fr, .int .i64 dog]] w fun e w' => GC nt nb nm ng e ∧ Below w.heap.size w w' := by
  have hb0 : Ext w (w.alloc (.cells #[.slice A nt ct, .slice B nb cb, .slice M nm cm, .slice G ng cg, .int .i64 fr, .int .i64 dog] 27)) := Ext.alloc _ _
  have HT := Lib.hid (h.tasks.keep hb0)
  have HB := Lib.hid (h.best.keep hb0)
  have HTL := Lib.hid h.tasks.len
  have HBL := Lib.hid h.best.len
  clear h
  by_cases b_nt : (12 : Int) < (nt : Int)
  · go_enter Try.func8, Try.ntmps8
    go_wp2
    go_ret
    exact ⟨GC.yes _ _ _ _, hb0⟩
  by_cases b_nb : (12 : Int) < (nb : Int)
  · go_enter Try.func8, Try.ntmps8
    go_wp2
    go_ret
    exact ⟨GC.yes _ _ _ _, hb0⟩
  by_cases b_nm : (12 : Int) < (nm : Int)
  · go_enter Try.func8, Try.ntmps8
    go_wp2
    go_ret
    exact ⟨GC.yes _ _ _ _, hb0⟩
  by_cases b_ng : (12 : Int) < (ng : Int)
  · go_enter Try.func8, Try.ntmps8
    go_wp2
    go_ret
    exact ⟨GC.yes _ _ _ _, hb0⟩
  have small : nt ≤ 12 ∧ nb ≤ 12 ∧ nm ≤ 12 ∧ ng ≤ 12 := by omega
  have HG := Lib.hid (⟨_, rfl, fun _ => small⟩ : GC nt nb nm ng (.returned (.bool false)))
  have l1 : nt ≤ 12 := small.1
  have l2 : nb ≤ 12 := small.2.1
  clear small
  go_enter Try.func8, Try.ntmps8
  go_wp2
  go_loop [3] (fun i => ∃ k : Nat, k ≤ nt ∧ i = .int .i64 k) (fun i => nt - (intOf i).toNat)
  case atStart => exact ⟨0, by omega, rfl⟩
  case round =>
    obtain ⟨k, hk, rfl⟩ := hrel
    by_cases hlt : k < nt
    · have hkl : k < ts.length := by rw [HTL.out]; exact hlt
      obtain ⟨b, off, rfl, he⟩ := flat_at (k := 8) HT.out.rd (fun _ _ => rfl) (by omega) hkl
      have hx := HT.out.ok _ (List.getElem_mem hkl)
      have c6 := he 6 _ rfl
      have c7 := he 7 _ rfl
      have HO := Lib.hid (l_ops ts[k].O ts[k].on ts[k].oc ts[k].os _ hx.os)
      have i0' : (0 : Int) ≤ (k : Int) := by omega
      have i1' : (k : Int) < (nt : Int) := by omega
      clear he hx
      generalize ts[k].U = U at *
      generalize ts[k].un = un at *
      generalize ts[k].uc = uc at *
      generalize ts[k].O = O at *
      generalize ts[k].on = on at *
      generalize ts[k].oc = oc at *
      generalize gops ts[k].os = q at *
      clear hkl
      by_cases hu : (12 : Int) < (un : Int)
      · go_wp2
        go_ret
        exact ⟨GC.yes _ _ _ _, hb0⟩
      · cases q
        · go_wp2_with ((with_reducible go_at_call 24); (with_reducible refine (HO.out).mono ?_); rintro e w' ⟨rfl, rfl⟩)
          go_round
          case rel => exact ⟨k + 1, by omega, by go_num⟩
          case measure => simp [intOf]; omega
        · go_wp2_with ((with_reducible go_at_call 24); (with_reducible refine (HO.out).mono ?_); rintro e w' ⟨rfl, rfl⟩)
          go_ret
          exact ⟨GC.yes _ _ _ _, hb0⟩
    · obtain rfl : k = nt := by omega
      go_wp2
      go_loop [4] (fun i => ∃ j : Nat, j ≤ nb ∧ i = .int .i64 j) (fun i => nb - (intOf i).toNat)
      case atStart => exact ⟨0, by omega, rfl⟩
      case round =>
        obtain ⟨j, hj, rfl⟩ := hrel
        by_cases hlt2 : j < nb
        · have hjl : j < bs.length := by rw [HBL.out]; exact hlt2
          obtain ⟨b, off, rfl, he⟩ := flat_at (k := 2) HB.out.rd (fun _ _ => rfl) (by omega) hjl
          have hx := HB.out.ok _ (List.getElem_mem hjl)
          have c1 := he 1 _ rfl
          have HO := Lib.hid (l_ops bs[j].O bs[j].on bs[j].oc bs[j].os _ hx.os)
          have i0' : (0 : Int) ≤ (j : Int) := by omega
          have i1' : (j : Int) < (nb : Int) := by omega
          clear he hx
          generalize bs[j].O = O at *
          generalize bs[j].on = on at *
          generalize bs[j].oc = oc at *
          generalize gops bs[j].os = q at *
          clear hjl
          cases q
          · go_wp2_with ((with_reducible go_at_call 24); (with_reducible refine (HO.out).mono ?_); rintro e w' ⟨rfl, rfl⟩)
            go_round
            case rel => exact ⟨j + 1, by omega, by go_num⟩
            case measure => simp [intOf]; omega
          · go_wp2_with ((with_reducible go_at_call 24); (with_reducible refine (HO.out).mono ?_); rintro e w' ⟨rfl, rfl⟩)
            go_ret
            exact ⟨GC.yes _ _ _ _, hb0⟩
        · obtain rfl : j = nb := by omega
          go_wp2
          go_ret
          exact ⟨HG.out, hb0⟩

end Go.Proofs.Ytdninhdabeddeaa
