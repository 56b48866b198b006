/-
  WALKS of the statements on rta, chapter 16: RtaTells, RtaExact, RtaLeast.
-/
import Derived.Test.YthocbnaphiikeaaRtaB
import Derived.Test.YthocbnaphiikeaaLend
namespace Go.Proofs.Ythocbnaphiikeaa
open Go.RowKit
attribute [local go_sem] depUpon Sp.ok

set_option maxRecDepth 100000 in
set_option maxHeartbeats 1000000 in
theorem law_rtatells (own block : Int) (A : Option Addr) (n c : Nat) (ps : List (Int × Int)) (most span : Int) (w : World) (_ : I64 own) (_ : I64 block) (ga : PairsArg w A n ps) (_ : I64 most) (_ : I64 span) :
    Calls Try.prog 3 #[.int .i64 own, .int .i64 block, .slice A n c, .int .i64 most, .int .i64 span] w fun e w' => e = .returned (.bool true) ∧ Below w.heap.size w w' := by
  obtain ⟨hl, hn, hr, _⟩ := ga
  by_cases h12 : 12 < n
  · go_enter Try.func3, Try.ntmps3
    go_wp2_with (go_at_call 8; refine (rta_awake _).mono ?_; rintro e w1 ⟨rfl, b1⟩)
    go_ret
    exact ⟨rfl, b1⟩
  · have HL := Lib.hid hl
    clear hl
    go_enter Try.func3, Try.ntmps3
    go_wp2_with fail
    refine (rta_response own block A n c ps most _ (by omega) hr HL.out).mono ?_
    rintro e w1 ⟨rfl, b1⟩
    go_wp2_with fail
    have r1 := hr.keep b1
    refine (turned_parts A n c ps _ (by omega) r1 HL.out).mono ?_
    rintro e w2 ⟨A2, c2, rfl, o2, b2⟩
    go_wp2_with fail
    refine (ref_response own block A2 n c2 ps most _ (by omega) o2.rd HL.out).mono ?_
    rintro e w3 ⟨rfl, b3⟩
    go_wp2_with fail
    have r3 := (r1.keep b2).keep b3
    refine (rta_work span A n c ps _ (by omega) r3 HL.out).mono ?_
    rintro e w4 ⟨rfl, b4⟩
    go_wp2_with fail
    refine (turned_parts A n c ps _ (by omega) (r3.keep b4) HL.out).mono ?_
    rintro e w5 ⟨A5, c5, rfl, o5, b5⟩
    go_wp2_with fail
    refine (ref_work span A5 n c5 ps _ (by omega) o5.rd HL.out).mono ?_
    rintro e w6 ⟨rfl, b6⟩
    go_wp2_with fail
    refine (rta_awake _).mono ?_
    rintro e w7 ⟨rfl, b7⟩
    go_wp2_with fail
    go_ret
    exact ⟨rfl, Ext.trans (Ext.trans (Ext.trans b1 b2) (Ext.trans b3 b4)) (Ext.trans (Ext.trans b5 b6) b7)⟩

theorem leastOf_spec {need : Int → Int} {m i : Nat} (h : leastOf need m = some i) : i < m ∧ need ((i : Int) + 1) ≤ (i : Int) + 1 ∧ ∀ j : Nat, j < i → (j : Int) + 1 < need ((j : Int) + 1) := by
  unfold leastOf at h
  rw [List.find?_range_eq_some] at h
  refine ⟨List.mem_range.1 h.2.1, by simpa using h.1, fun j hj => ?_⟩
  have := h.2.2 j hj
  simp at this; omega
theorem leastOf_nil {need : Int → Int} {m : Nat} (h : leastOf need m = none) : ∀ j : Nat, j < m → (j : Int) + 1 < need ((j : Int) + 1) := by
  unfold leastOf at h
  rw [List.find?_range_eq_none] at h
  intro j hj
  have := h j hj
  simp at this; omega

theorem exact_law (own block : Int) (ps : List (Int × Int)) (most : Int) (i : Nat) (h : rresp own block ps most = some i) :
    rneed own block ps ((i : Int) + 1) = (i : Int) + 1 ∨ (i = 0 ∧ rneed own block ps ((i : Int) + 1) = 0) := by
  obtain ⟨_, h1, h2⟩ := leastOf_spec h
  have h0 := rneed_lo own block ps ((i : Int) + 1)
  rcases i with _ | i
  · have : rneed own block ps (((0 : Nat) : Int) + 1) ≤ 1 := by simpa using h1
    omega
  · have h3 := h2 i (by omega)
    have h4 := rneed_mono own block ps (s := (i : Int) + 1) (t := ((i + 1 : Nat) : Int) + 1) (by omega)
    omega

set_option maxRecDepth 100000 in
set_option maxHeartbeats 1000000 in
theorem law_rtaexact (own block : Int) (A : Option Addr) (n c : Nat) (ps : List (Int × Int)) (most : Int) (w : World) (_ : I64 own) (_ : I64 block) (ga : PairsArg w A n ps) (_ : I64 most) :
    Calls Try.prog 7 #[.int .i64 own, .int .i64 block, .slice A n c, .int .i64 most] w fun e w' => e = .returned (.bool true) ∧ Below w.heap.size w w' := by
  obtain ⟨hl, hn, hr, _⟩ := ga
  by_cases h12 : 12 < n
  · go_enter Try.func7, Try.ntmps7
    go_wp2_with (go_at_call 8; refine (rta_awake _).mono ?_; rintro e w1 ⟨rfl, b1⟩)
    go_ret
    exact ⟨rfl, b1⟩
  · have HL := Lib.hid hl
    clear hl
    cases hres : rresp own block ps most with
    | none =>
      have c1 : ∀ W : World, (Rd W A (pairs ps)) → Calls Try.prog 9 #[.int .i64 own, .int .i64 block, .slice A n c, .int .i64 most] W fun e w' => e = .returned (.tuple #[.int .i64 0, .bool false]) ∧ Below W.heap.size W w' := fun W h => by
        have := rta_response own block A n c ps most W (by omega) h HL.out
        rw [hres] at this; exact this
      have C1 := Lib.hid c1
      clear c1 hres
      go_enter Try.func7, Try.ntmps7
      go_wp2_with fail
      refine (C1.out _ hr).mono ?_
      rintro e w1 ⟨rfl, b1⟩
      go_wp2_with (go_at_call 8; refine (rta_awake _).mono ?_; rintro e w2 ⟨rfl, b2⟩)
      go_ret
      exact ⟨rfl, Ext.trans b1 b2⟩
    | some i =>
      have c1 : ∀ W : World, (Rd W A (pairs ps)) → Calls Try.prog 9 #[.int .i64 own, .int .i64 block, .slice A n c, .int .i64 most] W fun e w' => e = .returned (.tuple #[.int .i64 ((i : Int) + 1), .bool true]) ∧ Below W.heap.size W w' := fun W h => by
        have := rta_response own block A n c ps most W (by omega) h HL.out
        rw [hres] at this; exact this
      have C1 := Lib.hid c1
      have hi : i < 4096 := by
        have := (leastOf_spec hres).1
        unfold rmost at this; omega
      have e1 := exact_law own block ps most i hres
      have hn' : nsum [own, block, rwork ((i : Int) + 1) ps] = rneed own block ps ((i : Int) + 1) := rfl
      have HN := Lib.hid hn'
      clear c1 hres hn'
      generalize hne : rneed own block ps ((i : Int) + 1) = need at *
      rcases e1 with rfl | ⟨rfl, rfl⟩
      · clear hne
        go_enter Try.func7, Try.ntmps7
        go_wp2_with fail
        refine (C1.out _ hr).mono ?_
        rintro e w1 ⟨rfl, b1⟩
        go_wp2_with fail
        refine (rta_work _ A n c ps _ (by omega) (hr.keep b1) HL.out).mono ?_
        rintro e w2 ⟨rfl, b2⟩
        go_wp2_with fail
        refine (num_add _ 3 _ [own, block, rwork ((i : Int) + 1) ps] _ (by omega) (rd3 w2 _ _ _) rfl).mono ?_
        rw [HN.out]
        rintro e w' ⟨rfl, rfl⟩
        go_wp2_with (go_at_call 8; refine (rta_awake _).mono ?_; rintro e w3 ⟨rfl, b3⟩)
        go_ret
        exact ⟨rfl, Ext.trans (Ext.trans b1 b2) (Ext.trans (Ext.alloc _ _) b3)⟩
      · clear hne
        simp only [Int.natCast_zero, Int.zero_add] at C1 HN
        go_enter Try.func7, Try.ntmps7
        go_wp2_with fail
        refine (C1.out _ hr).mono ?_
        rintro e w1 ⟨rfl, b1⟩
        go_wp2_with fail
        refine (rta_work _ A n c ps _ (by omega) (hr.keep b1) HL.out).mono ?_
        rintro e w2 ⟨rfl, b2⟩
        go_wp2_with fail
        refine (num_add _ 3 _ [own, block, rwork 1 ps] _ (by omega) (rd3 w2 _ _ _) rfl).mono ?_
        rw [HN.out]
        rintro e w' ⟨rfl, rfl⟩
        go_wp2_with (go_at_call 8; refine (rta_awake _).mono ?_; rintro e w3 ⟨rfl, b3⟩)
        go_ret
        exact ⟨rfl, Ext.trans (Ext.trans b1 b2) (Ext.trans (Ext.alloc _ _) b3)⟩

end Go.Proofs.Ythocbnaphiikeaa
