/-
  WALKS of package admit: mayTask.
-/
import Derived.Test.YtdninhdabeddeaaAdmD
import Derived.Deep.Cut
namespace Go.Proofs.Ytdninhdabeddeaa
open Go.RowKit
attribute [local go_sem] depUpon Sp.ok

def clsB (t : TK) : Bool := if t.cls = 2 then inB t.lvl 0 63 else (decide (t.cls = 1) && decide (t.lvl = 0))
def spanB (t : TK) : Bool := inB t.per 1 1000000 && inB t.ddl 1 t.per && inB t.bud 1 t.ddl
def usesB (nm : Nat) (t : TK) : Bool := decide (t.un ≤ 6) && !useB nm t.us
/-- May a task be? -/
def mayT (nm ng : Nat) (t : TK) : Bool := clsB t && spanB t && usesB nm t && inB t.line (-1) ((ng : Int) - 1) && decide (t.on ≤ 40)

set_option maxRecDepth 100000 in
set_option maxHeartbeats 2000000 in
theorem a_mayTask (A : Option Addr) (nt ct : Nat) (B : Option Addr) (nb cb : Nat) (M : Option Addr) (nm cm : Nat) (G : Option Addr) (ng cg : Nat) (fr dog : Int) (x : TK) (w : World) (hx : x.Ok w) (hm : nm ≤ 65536) (hg : ng ≤ 65536) :
    Calls Try.prog 27 #[.agg #[.slice A nt ct, .slice B nb cb, .slice M nm cm, .slice G ng cg, .int .i64 fr, .int .i64 dog], .agg #[.int .i64 x.cls, .int .i64 x.lvl, .int .i64 x.per, .int .i64 x.ddl, .int .i64 x.bud, .int .i64 x.line, .slice x.U x.un x.uc, .slice x.O x.on x.oc]] w fun e w' => e = .returned (.bool (mayT nm ng x)) ∧ Below w.heap.size w w' := by
  have HWI := Lib.hid (fun a b c w => a_within a b c w)
  have hb0 : Ext w ((w.alloc (.cells #[.slice A nt ct, .slice B nb cb, .slice M nm cm, .slice G ng cg, .int .i64 fr, .int .i64 dog] 27)).alloc (.cells #[.int .i64 x.cls, .int .i64 x.lvl, .int .i64 x.per, .int .i64 x.ddl, .int .i64 x.bud, .int .i64 x.line, .slice x.U x.un x.uc, .slice x.O x.on x.oc] 47)) := Ext.trans (Ext.alloc _ _) (Ext.alloc _ _)
  go_enter Try.func27, Try.ntmps27
  go_upto_region 1 with fail
  go_cut [5] from 8 (fun s5 wx => s5 = .bool (clsB x) ∧ wx = ((w.alloc (.cells #[.slice A nt ct, .slice B nb cb, .slice M nm cm, .slice G ng cg, .int .i64 fr, .int .i64 dog] 27)).alloc (.cells #[.int .i64 x.cls, .int .i64 x.lvl, .int .i64 x.per, .int .i64 x.ddl, .int .i64 x.bud, .int .i64 x.line, .slice x.U x.un x.uc, .slice x.O x.on x.oc] 47)))
  case first =>
    by_cases h2 : x.cls = 2
    · have hv : clsB x = inB x.lvl 0 63 := by unfold clsB; rw [if_pos h2]
      have hc := fun w => a_within x.lvl 0 63 w
      rw [show decide (0 ≤ x.lvl ∧ x.lvl ≤ 63) = inB x.lvl 0 63 from rfl, ← hv] at hc
      have t2 : (x.cls == 2) = true := by simp [h2]
      have t1 : (x.cls == 1) = false := by simp [h2]
      clear hv h2
      cases hq : clsB x
      all_goals
        rw [hq] at hc
        have HC := Lib.hid hc
        have HQ := Lib.hid hq
        clear hc hq
        go_wp2_with ((with_reducible go_at_call 25); (with_reducible refine (HC.out _).mono ?_); rintro e w' ⟨rfl, rfl⟩)
        go_meet
        exact ⟨by rw [HQ.out], rfl⟩
    · have t2 : (x.cls == 2) = false := by simp [h2]
      by_cases h1 : x.cls = 1
      · have t1 : (x.cls == 1) = true := by simp [h1]
        by_cases h0 : x.lvl = 0
        · have t0 : (x.lvl == 0) = true := by simp [h0]
          have HQ := Lib.hid (show clsB x = true by unfold clsB; rw [if_neg h2]; simp [h1, h0])
          clear h0 h1 h2
          go_wp2
          go_meet
          exact ⟨by rw [HQ.out], rfl⟩
        · have t0 : (x.lvl == 0) = false := by simp [h0]
          have HQ := Lib.hid (show clsB x = false by unfold clsB; rw [if_neg h2]; simp [h0])
          clear h0 h1 h2
          go_wp2
          go_meet
          exact ⟨by rw [HQ.out], rfl⟩
      · have t1 : (x.cls == 1) = false := by simp [h1]
        have HQ := Lib.hid (show clsB x = false by unfold clsB; rw [if_neg h2]; simp [h1])
        clear h1 h2
        go_wp2
        go_meet
        exact ⟨by rw [HQ.out], rfl⟩
  case rest =>
    obtain ⟨rfl, rfl⟩ := hcut
    go_upto_region 2 with fail
    go_cut [6] from 8 (fun s6 wx => s6 = .bool (spanB x) ∧ wx = ((w.alloc (.cells #[.slice A nt ct, .slice B nb cb, .slice M nm cm, .slice G ng cg, .int .i64 fr, .int .i64 dog] 27)).alloc (.cells #[.int .i64 x.cls, .int .i64 x.lvl, .int .i64 x.per, .int .i64 x.ddl, .int .i64 x.bud, .int .i64 x.line, .slice x.U x.un x.uc, .slice x.O x.on x.oc] 47)))
    case first =>
      have hs : spanB x = (inB x.per 1 1000000 && inB x.ddl 1 x.per && inB x.bud 1 x.ddl) := rfl
      have c1 := fun w => a_within x.per 1 1000000 w
      have c2 := fun w => a_within x.ddl 1 x.per w
      have c3 := fun w => a_within x.bud 1 x.ddl w
      rw [show decide (1 ≤ x.per ∧ x.per ≤ 1000000) = inB x.per 1 1000000 from rfl] at c1
      rw [show decide (1 ≤ x.ddl ∧ x.ddl ≤ x.per) = inB x.ddl 1 x.per from rfl] at c2
      rw [show decide (1 ≤ x.bud ∧ x.bud ≤ x.ddl) = inB x.bud 1 x.ddl from rfl] at c3
      generalize inB x.per 1 1000000 = q1 at *
      generalize inB x.ddl 1 x.per = q2 at *
      generalize inB x.bud 1 x.ddl = q3 at *
      have C1 := Lib.hid c1
      have C2 := Lib.hid c2
      have C3 := Lib.hid c3
      have HQ := Lib.hid hs
      clear c1 c2 c3 hs
      cases q1 <;> cases q2 <;> cases q3
      all_goals
        go_wp2_with (first | ((with_reducible go_at_call 25); (with_reducible refine (C1.out _).mono ?_); rintro e w' ⟨rfl, rfl⟩) | ((with_reducible go_at_call 25); (with_reducible refine (C2.out _).mono ?_); rintro e w' ⟨rfl, rfl⟩) | ((with_reducible go_at_call 25); (with_reducible refine (C3.out _).mono ?_); rintro e w' ⟨rfl, rfl⟩))
        go_meet
        exact ⟨by rw [HQ.out]; rfl, rfl⟩
    case rest =>
      obtain ⟨rfl, rfl⟩ := hcut
      go_upto_region 3 with fail
      go_cut [7] from 8 (fun s7 wx => s7 = .bool (usesB nm x) ∧ Ext ((w.alloc (.cells #[.slice A nt ct, .slice B nb cb, .slice M nm cm, .slice G ng cg, .int .i64 fr, .int .i64 dog] 27)).alloc (.cells #[.int .i64 x.cls, .int .i64 x.lvl, .int .i64 x.per, .int .i64 x.ddl, .int .i64 x.bud, .int .i64 x.line, .slice x.U x.un x.uc, .slice x.O x.on x.oc] 47)) wx)
      case first =>
        by_cases h6 : (x.un : Int) ≤ 6
        · have hv : usesB nm x = !useB nm x.us := by unfold usesB; rw [show decide (x.un ≤ 6) = true by simp; omega]; rfl
          have hc := fun w1 h1 h2 => use_contains w.heap.size M nm cm x.U x.un x.uc x.us w1 h1 hm (by omega) h2 hx.us.len
          have HR := Lib.hid (hx.us.rd.keep hb0)
          have HC := Lib.hid hc
          have HQ := Lib.hid hv
          have hmf : ∀ (fn : Fn) (first cap : Array Value) (w : World), (Instr.makeFunc fn first cap).run Try.prog w = .ok (.func fn first cap) w := fun _ _ _ _ => rfl
          have oV := (Own.new w 27 [.slice A nt ct, .slice B nb cb, .slice M nm cm, .slice G ng cg, .int .i64 fr, .int .i64 dog]).alloc (.cells #[.int .i64 x.cls, .int .i64 x.lvl, .int .i64 x.per, .int .i64 x.ddl, .int .i64 x.bud, .int .i64 x.line, .slice x.U x.un x.uc, .slice x.O x.on x.oc] 47)
          have hk := oV.cell 2
          simp only [List.getElem?_cons_zero, List.getElem?_cons_succ] at hk
          have HK := Lib.hid hk
          clear hc hv oV hk
          go_wp2_with ((with_reducible go_at_call 28); (with_reducible refine (HC.out _ HK.out HR.out).mono ?_); rintro e w1 ⟨rfl, b1⟩)
          go_meet
          exact ⟨by rw [HQ.out], b1⟩
        · have HQ := Lib.hid (show usesB nm x = false by unfold usesB; rw [show decide (x.un ≤ 6) = false by simp; omega]; rfl)
          go_wp2
          go_meet
          exact ⟨by rw [HQ.out], Ext.refl _⟩
      case rest =>
        obtain ⟨rfl, bW⟩ := hcut
        have hk : IntKind.i64.wrap ((ng : Int) - 1) = (ng : Int) - 1 := IntWalk.i64_in _ ⟨by omega, by omega⟩
        have hs : mayT nm ng x = (clsB x && spanB x && usesB nm x && inB x.line (-1) ((ng : Int) - 1) && decide (x.on ≤ 40)) := rfl
        have c1 := fun w => a_within x.line (-1) ((ng : Int) - 1) w
        rw [show decide (-1 ≤ x.line ∧ x.line ≤ (ng : Int) - 1) = inB x.line (-1) ((ng : Int) - 1) from rfl] at c1
        have hd : decide ((x.on : Int) ≤ 40) = decide (x.on ≤ 40) := by simp only [decide_eq_decide]; omega
        have oV := ((Own.new w 27 [.slice A nt ct, .slice B nb cb, .slice M nm cm, .slice G ng cg, .int .i64 fr, .int .i64 dog]).alloc (.cells #[.int .i64 x.cls, .int .i64 x.lvl, .int .i64 x.per, .int .i64 x.ddl, .int .i64 x.bud, .int .i64 x.line, .slice x.U x.un x.uc, .slice x.O x.on x.oc] 47)).keep bW
        have oT := (Own.new (w.alloc (.cells #[.slice A nt ct, .slice B nb cb, .slice M nm cm, .slice G ng cg, .int .i64 fr, .int .i64 dog] 27)) 47 [.int .i64 x.cls, .int .i64 x.lvl, .int .i64 x.per, .int .i64 x.ddl, .int .i64 x.bud, .int .i64 x.line, .slice x.U x.un x.uc, .slice x.O x.on x.oc]).keep bW
        rw [World.size_alloc] at oT
        have v3 := oV.cell 3
        have t5 := oT.cell 5
        have t7 := oT.cell 7
        simp only [List.getElem?_cons_zero, List.getElem?_cons_succ] at v3 t5 t7
        replace bW := Ext.trans hb0 bW
        generalize clsB x = p1 at *
        generalize spanB x = p2 at *
        generalize usesB nm x = p3 at *
        generalize inB x.line (-1) ((ng : Int) - 1) = p4 at *
        have C1 := Lib.hid c1
        clear oV oT c1 hb0
        by_cases h40 : (x.on : Int) ≤ 40
        · rw [show decide (x.on ≤ 40) = true by simp; omega] at hs
          have HQ := Lib.hid hs
          clear hs hd
          cases p1 <;> cases p2 <;> cases p3 <;> cases p4
          all_goals
            go_wp2_with ((with_reducible go_at_call 25); (with_reducible refine (C1.out _).mono ?_); rintro e w' ⟨rfl, rfl⟩)
            go_ret
            exact ⟨by rw [HQ.out]; rfl, bW⟩
        · rw [show decide (x.on ≤ 40) = false by simp; omega] at hs
          have HQ := Lib.hid hs
          clear hs hd
          cases p1 <;> cases p2 <;> cases p3 <;> cases p4
          all_goals
            go_wp2_with ((with_reducible go_at_call 25); (with_reducible refine (C1.out _).mono ?_); rintro e w' ⟨rfl, rfl⟩)
            go_ret
            first
              | exact ⟨by rw [HQ.out]; rfl, bW⟩
              | (refine ⟨ret_bool ?_, bW⟩; rw [HQ.out]; simp; omega)

end Go.Proofs.Ytdninhdabeddeaa
