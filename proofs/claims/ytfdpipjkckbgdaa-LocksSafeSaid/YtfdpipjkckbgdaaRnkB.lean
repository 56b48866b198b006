/-
  WALKS of package rank: Sum, Least, New, May.
-/
import Derived.Test.YtfdpipjkckbgdaaRnkA
namespace Go.Proofs.Ytfdpipjkckbgdaa
open Go.RowKit
attribute [local go_sem] depUpon Sp.ok

def rsumStep (r : Int) (s : Int) (x : Int × Int) : Int := if r ≤ x.1 then nsum [s, x.2] else s
def rsum (r : Int) (ms : List (Int × Int)) : Int := ms.foldl (rsumStep r) 0
theorem rsum_snoc (r : Int) (ms : List (Int × Int)) (x : Int × Int) : rsum r (ms ++ [x]) = rsumStep r (rsum r ms) x := by simp [rsum]

def rleastStep (ms : List (Int × Int)) (b : Int × Bool) (u : Int) : Int × Bool := if 0 < (mget ms u).1 ∧ (b.2 = false ∨ (mget ms u).1 < b.1) then ((mget ms u).1, true) else b
def rleast (ms : List (Int × Int)) (us : List Int) : Int × Bool := us.foldl (rleastStep ms) (0, false)
theorem rleast_snoc (ms : List (Int × Int)) (us : List Int) (u : Int) : rleast ms (us ++ [u]) = rleastStep ms (rleast ms us) u := by simp [rleast]

/-- May a mutex be? -/
def goodM (m : Int × Int) : Bool := decide (1 ≤ m.1 ∧ m.1 ≤ 100 ∧ 1 ≤ m.2 ∧ m.2 ≤ 1000)
set_option maxRecDepth 100000 in
set_option maxHeartbeats 1000000 in
theorem m_may (a b : Int) (w : World) :
    Calls Try.prog 27 #[.agg #[.int .i64 a, .int .i64 b]] w fun e w' => e = .returned (.bool (goodM (a, b))) ∧ Below w.heap.size w w' := by
  have o1 := Own.new w 29 [.int .i64 a, .int .i64 b]
  have hc0 := o1.cell 0
  have hc1 := o1.cell 1
  simp only [List.getElem?_cons_zero, List.getElem?_cons_succ] at hc0 hc1
  clear o1
  have HE : Hid (goodM (a, b) = decide (1 ≤ a ∧ a ≤ 100 ∧ 1 ≤ b ∧ b ≤ 1000)) := rfl
  have hout : ∀ r : Bool, r = goodM (a, b) → Calls Try.prog 27 #[.agg #[.int .i64 a, .int .i64 b]] w (fun e w' => e = .returned (.bool r) ∧ Below w.heap.size w w') → Calls Try.prog 27 #[.agg #[.int .i64 a, .int .i64 b]] w fun e w' => e = .returned (.bool (goodM (a, b))) ∧ Below w.heap.size w w' := fun r hr h => by rw [← hr]; exact h
  by_cases h1 : 1 ≤ a
  · by_cases h2 : a ≤ 100
    · by_cases h3 : 1 ≤ b
      · by_cases h4 : b ≤ 1000
        · refine hout true (by rw [HE.out]; simp; omega) ?_
          clear hout
          go_enter Try.func27, Try.ntmps27
          go_wp2
          go_ret
          exact ⟨rfl, Ext.alloc _ _⟩
        · refine hout false (by rw [HE.out]; simp; omega) ?_
          clear hout
          go_enter Try.func27, Try.ntmps27
          go_wp2
          go_ret
          exact ⟨rfl, Ext.alloc _ _⟩
      · refine hout false (by rw [HE.out]; simp; omega) ?_
        clear hout
        go_enter Try.func27, Try.ntmps27
        go_wp2
        go_ret
        exact ⟨rfl, Ext.alloc _ _⟩
    · refine hout false (by rw [HE.out]; simp; omega) ?_
      clear hout
      go_enter Try.func27, Try.ntmps27
      go_wp2
      go_ret
      exact ⟨rfl, Ext.alloc _ _⟩
  · refine hout false (by rw [HE.out]; simp; omega) ?_
    clear hout
    go_enter Try.func27, Try.ntmps27
    go_wp2
    go_ret
    exact ⟨rfl, Ext.alloc _ _⟩

set_option maxRecDepth 100000 in
set_option maxHeartbeats 1000000 in
theorem m_not (a b : Int) (w : World) :
    Calls Try.prog 26 #[.agg #[.int .i64 a, .int .i64 b]] w fun e w' => e = .returned (.bool (!goodM (a, b))) ∧ Below w.heap.size w w' := by
  have o1 := Own.new w 29 [.int .i64 a, .int .i64 b]
  have hc0 := o1.cell 0
  have hc1 := o1.cell 1
  simp only [List.getElem?_cons_zero, List.getElem?_cons_succ] at hc0 hc1
  clear o1
  go_enter Try.func26, Try.ntmps26
  go_wp2_with ((with_reducible go_at_call 27); (with_reducible refine (m_may _ _ _).mono ?_); rintro e w1 ⟨rfl, b1⟩)
  go_ret
  exact ⟨rfl, Ext.trans (Ext.alloc _ _) b1⟩

/-- An index, or -1: is there one? -/
def IdxPost (b : Bool) (w : World) (e : Ending) (w' : World) : Prop := ∃ i : Int, e = .returned (.int .i64 i) ∧ -1 ≤ i ∧ i ≤ 65536 ∧ decide (0 ≤ i) = b ∧ Below w.heap.size w w'

set_option maxRecDepth 100000 in
set_option maxHeartbeats 1000000 in
theorem m_index (A : Option Addr) (n c : Nat) (ms : List (Int × Int)) (w : World) (hn : n ≤ 65536) (hr : Rd w A (pairs ms)) (hl : ms.length = n) :
    Calls Try.prog 42 #[.slice A n c, .func (.func 26) #[] #[]] w (IdxPost (!ms.all goodM) w) := by
  subst hl
  go_enter Try.func42, Try.ntmps42
  go_wp2
  go_loopw [8] (fun i wr => ∃ k : Nat, k ≤ ms.length ∧ i = .int .i64 k ∧ Hid ((ms.take k).all goodM = true) ∧ Below w.heap.size w wr) (fun i _ => ms.length - (intOf i).toNat)
  case atStart => exact ⟨0, Nat.zero_le _, rfl, Lib.hid rfl, Below.refl _ _⟩
  case round =>
    obtain ⟨k, hk, rfl, HA, hb⟩ := hrel
    by_cases hlt : k < ms.length
    · obtain ⟨b, off, rfl, h1, h2⟩ := (hr.keep hb).pair hlt
      have HT := Lib.hid (take_succ' ms k hlt)
      have HM := Lib.hid (List.getElem_mem hlt : ms[k] ∈ ms)
      generalize ms[k] = x at *
      obtain ⟨xa, xb⟩ := x
      simp only at h1 h2
      cases hg : goodM (xa, xb)
      · have HE : Hid (true = !ms.all goodM) := Lib.hid (by
          have : ms.all goodM = false := by rw [List.all_eq_false]; exact ⟨_, HM.out, by simp [hg]⟩
          rw [this]; rfl)
        have c1 := fun w => m_not xa xb w
        rw [hg] at c1
        have C1 := Lib.hid c1
        clear c1 hg
        go_wp2_with ((with_reducible go_at_call 26); (with_reducible refine (C1.out _).mono ?_); rintro e w1 ⟨rfl, b1⟩)
        go_ret
        exact ⟨k, rfl, by omega, by omega, by rw [← HE.out]; simp, Ext.trans hb b1⟩
      · have HE : Hid ((ms.take (k + 1)).all goodM = true) := Lib.hid (by rw [HT.out, List.all_append, HA.out]; simp [hg])
        have c1 := fun w => m_not xa xb w
        rw [hg] at c1
        have C1 := Lib.hid c1
        clear c1 hg
        go_wp2_with ((with_reducible go_at_call 26); (with_reducible refine (C1.out _).mono ?_); rintro e w1 ⟨rfl, b1⟩)
        go_roundw
        case rel => exact ⟨k + 1, by omega, by go_num, HE, Ext.trans hb b1⟩
        case measure => simp [intOf]; omega
    · go_wp2
      go_ret
      exact ⟨-1, rfl, by omega, by omega, by have := HA.out; rw [List.take_of_length_le (by omega)] at this; rw [this]; rfl, hb⟩

set_option maxRecDepth 100000 in
set_option maxHeartbeats 1000000 in
theorem m_contains (A : Option Addr) (n c : Nat) (ms : List (Int × Int)) (w : World) (hn : n ≤ 65536) (hr : Rd w A (pairs ms)) (hl : ms.length = n) :
    Calls Try.prog 25 #[.slice A n c, .func (.func 26) #[] #[]] w fun e w' => e = .returned (.bool (!ms.all goodM)) ∧ Below w.heap.size w w' := by
  have C1 := Lib.hid (m_index A n c ms w hn hr hl)
  generalize (!ms.all goodM) = q at *
  clear hr hl
  go_enter Try.func25, Try.ntmps25
  go_wp2_with fail
  refine C1.out.mono ?_
  rintro e w1 ⟨i, rfl, i0, i1, hq, b1⟩
  have HQ := Lib.hid hq
  clear hq
  go_wp2
  go_ret
  exact ⟨by rw [← HQ.out]; rfl, b1⟩

theorem info_mutex : (Try.prog.info? 29).map (fun i => (i.zero, i.size, i.bytes)) = some (some (.agg #[.int .i64 0, .int .i64 0]), 2, 16) := by kernel_rfl

set_option maxRecDepth 100000 in
set_option maxHeartbeats 1000000 in
theorem clone_mutexes (A : Option Addr) (n c : Nat) (ps : List (Int × Int)) (w : World) (hn : n ≤ 65536) (hr : Rd w A (pairs ps)) (hl : ps.length = n) :
    Calls Try.prog 28 #[.slice A n c] w fun e w' => ∃ A' c', e = .returned (.slice A' n c') ∧ Row w' w.heap.size 29 2 A' n c' (pairs ps) ∧ Below w.heap.size w w' := by
  subst hl
  obtain ⟨ip, hi, hz0, hz1, hz2⟩ := info_parts info_mutex
  cases A with
  | none =>
    have h0 : ps = [] := by
      cases ps with
      | nil => rfl
      | cons p ps => obtain ⟨b, off, h, _⟩ := hr.pair (k := 0) (by simp); cases h
    subst h0
    have hq : ∀ w, (binOp .eql 30 (.slice none 0 c) (.slice none 0 0)).run Try.prog w = .ok (.bool true) w := fun w => Lib.run_eql_slice_nil (P := Try.prog) w 30 29 none 0 c 0 0 Try.underlying30
    go_enter Try.func28, Try.ntmps28
    go_wp2
    go_ret
    exact ⟨none, 0, rfl, Row.nil _ _ _ _, Below.refl _ _⟩
  | some a =>
    have LP := Lib.hid (by rw [pairs_len]; omega : (pairs ps).length = ps.length * 2)
    have hrow : Row (w.alloc (.cells #[] 29)) w.heap.size 29 2 (some ⟨w.heap.size, 0, none⟩) 0 0 [] := Row.ofOwn (Own.new w 29 []) (Nat.le_refl _) rfl (by omega)
    have hrA : Rd (w.alloc (.cells #[] 29)) (some a) (pairs ps) := hr.keep (Ext.alloc _ _)
    have HI := Lib.hid hi
    clear hi
    have hq : ∀ w, (binOp .eql 30 (.slice (some a) ps.length c) (.slice none 0 0)).run Try.prog w = .ok (.bool false) w := fun w => Lib.run_eql_slice_nil (P := Try.prog) w 30 29 (some a) ps.length c 0 0 Try.underlying30
    go_enter Try.func28, Try.ntmps28
    go_wp2_with (at_builtin; refine wpl_append _ rfl (.tmp 5) (.tmp 6) 30 rfl 29 ip _ 2 16 Try.underlying30 HI.out hz0 hz1 hz2 rfl (by omega) w.heap.size _ 0 0 [] rfl hrow (some a) ps.length c (pairs ps) rfl LP.out hrA (pairs_one ps) ps.length (pairs ps) (by omega) rfl (by omega) (by omega) (by simp) ?_; intro A2 c2 w2 o2 g2 e2)
    have b2 := below_grown (Ext.alloc w (.cells #[] 29)) g2 (by simp) (by simp [blk])
    go_ret
    exact ⟨A2, c2, rfl, o2, b2⟩

def okM (ms : List (Int × Int)) : Bool := decide (ms.length ≤ 6) && ms.all goodM

set_option maxRecDepth 100000 in
set_option maxHeartbeats 1000000 in
theorem t_new_no (A : Option Addr) (n c : Nat) (ms : List (Int × Int)) (w : World) (hn : n ≤ 65536) (hr : Rd w A (pairs ms)) (hl : ms.length = n) (hok : okM ms = false) :
    Calls Try.prog 9 #[.slice A n c] w fun e w' => e = .returned (.tuple #[.pointer none, .int .i64 2]) ∧ Below w.heap.size w w' := by
  by_cases h6 : 6 < n
  · clear hr
    go_enter Try.func9, Try.ntmps9
    go_wp2
    go_ret2
    exact ⟨rfl, Below.refl _ _⟩
  · have C1 := Lib.hid (m_contains A n c ms w hn hr hl)
    have hb : (!ms.all goodM) = true := by
      unfold okM at hok
      rw [hl, show decide (n ≤ 6) = true by simp; omega] at hok
      simpa using hok
    rw [hb] at C1
    clear hb hok hr hl
    go_enter Try.func9, Try.ntmps9
    go_wp2_with fail
    refine C1.out.mono ?_
    rintro e w1 ⟨rfl, b1⟩
    go_wp2
    go_ret2
    exact ⟨rfl, b1⟩

set_option maxRecDepth 100000 in
set_option maxHeartbeats 1000000 in
theorem t_new (A : Option Addr) (n c : Nat) (ms : List (Int × Int)) (w : World) (hn : n ≤ 65536) (hr : Rd w A (pairs ms)) (hl : ms.length = n) (hok : okM ms = true) :
    Calls Try.prog 9 #[.slice A n c] w fun e w' => ∃ g, e = .returned (.tuple #[.pointer (some ⟨g, 0, none⟩), .int .i64 0]) ∧ Tab w' (.pointer (some ⟨g, 0, none⟩)) ms ∧ Below w.heap.size w w' := by
  unfold okM at hok
  rw [Bool.and_eq_true, decide_eq_true_eq, hl] at hok
  obtain ⟨h6, hall⟩ := hok
  have C1 := Lib.hid (m_contains A n c ms w hn hr hl)
  have hb : (!ms.all goodM) = false := by rw [hall]; rfl
  rw [hb] at C1
  have HL := Lib.hid hl
  clear hb hall hl
  go_enter Try.func9, Try.ntmps9
  go_wp2_with fail
  refine C1.out.mono ?_
  rintro e w1 ⟨rfl, b1⟩
  go_wp2_with fail
  refine (clone_mutexes A n c ms w1 hn (hr.keep b1) HL.out).mono ?_
  rintro e w2 ⟨A2, c2, rfl, r2, b2⟩
  have o3 := Own.new w2 61 [.slice A2 n c2]
  have hc := o3.cell 0
  simp only [List.getElem?_cons_zero] at hc
  have hT : Tab (w2.alloc (.cells #[.slice A2 n c2] 61)) (.pointer (some ⟨w2.heap.size, 0, none⟩)) ms := .inr ⟨_, A2, n, c2, rfl, hc, r2.rd.keep (Ext.alloc _ _), HL.out, h6⟩
  have bT := Ext.trans (Ext.trans b1 b2) (Ext.alloc w2 (.cells #[.slice A2 n c2] 61))
  clear o3 hc r2
  go_wp2
  go_ret2
  exact ⟨_, rfl, hT, bT⟩

end Go.Proofs.Ytfdpipjkckbgdaa
