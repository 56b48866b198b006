/-
  WALKS of package rank: May; the reference of chapter 10.
-/
import Derived.Test.YtfdpipjkckbgdaaRnkB
namespace Go.Proofs.Ytfdpipjkckbgdaa
open Go.RowKit
attribute [local go_sem] depUpon Sp.ok

set_option maxRecDepth 100000 in
set_option maxHeartbeats 1000000 in
theorem may_fn (p : Value) (ms : List (Int × Int)) (g3 g7 : Nat) (r h : Int) (w : World) (hT : Tab w p ms) (h3 : w.cell? ⟨g3, 0, none⟩ = some p) (h7 : w.cell? ⟨g7, 0, none⟩ = some (.int .i64 r)) :
    Calls Try.prog 44 #[.int .i64 h, .pointer (some ⟨g3, 0, none⟩), .pointer (some ⟨g7, 0, none⟩)] w fun e w' => e = .returned (.bool (decide (r ≤ (mget ms h).1))) ∧ Below w.heap.size w w' := by
  have HT := Lib.hid hT
  clear hT
  go_enter Try.func44, Try.ntmps44
  go_wp2
  refine wp_region_dep (S := Ext) (C := Ext (w)) (by kernel_rfl) (by kernel_rfl) rfl Ext.refl (Ext.drew _) ?_
  repeat (refine dep_det (by rfl) (fun K hK => ?_); go_simp; first
    | ((with_reducible refine hK _ ?_); clear hK K)
    | (rw [if_neg (by decide)]; (with_reducible refine hK _ ?_); clear hK K)
    | (refine ⟨_, fun w1 hw1 => ⟨Ext.refl w1, hw1, rfl⟩, hK _ ?_⟩; clear hK K)
    | (apply Exists.intro; refine ⟨fun w1 hw1 => ?_, hK _ ?_⟩
       first
         | (go_at_call 22; refine (t_rank p ms h _ (HT.out.keep hw1)).mono ?_; rintro e w' ⟨rfl, hb'⟩; exact ⟨_, rfl, hb', Ext.trans hw1 hb', rfl⟩)
         | (have c_h3 := cell_keep hw1 h3; have c_h7 := cell_keep hw1 h7; go_simp; first | exact ⟨Ext.refl _, hw1, rfl⟩ | exact ⟨Ext.refl _, rfl⟩)
       clear hK K))
  refine dep_nil ?_
  intro a' w' hC hE
  obtain rfl := atEnd_nil hE
  clear hE
  go_wp2
  go_ret
  exact ⟨rfl, hC⟩

def manyB (ms : List (Int × Int)) (r : Int) (hs : List Int) : Bool := hs.any fun h => decide (r ≤ (mget ms h).1)

set_option maxRecDepth 100000 in
set_option maxHeartbeats 1000000 in
theorem i_index (p : Value) (ms : List (Int × Int)) (g3 g7 : Nat) (r : Int) (A : Option Addr) (n c : Nat) (hs : List Int) (w : World) (hT : Tab w p ms) (h3 : w.cell? ⟨g3, 0, none⟩ = some p) (h7 : w.cell? ⟨g7, 0, none⟩ = some (.int .i64 r)) (hn : n ≤ 65536) (hr : Rd w A (ints hs)) (hl : hs.length = n) :
    Calls Try.prog 52 #[.slice A n c, .func (.func 44) #[] #[.pointer (some ⟨g3, 0, none⟩), .pointer (some ⟨g7, 0, none⟩)]] w (IdxPost (manyB ms r hs) w) := by
  subst hl
  have HT := Lib.hid hT
  have H3 := Lib.hid h3
  have H7 := Lib.hid h7
  clear hT h3 h7
  go_enter Try.func52, Try.ntmps52
  go_wp2
  go_loopw [8] (fun i wr => ∃ k : Nat, k ≤ hs.length ∧ i = .int .i64 k ∧ Hid (manyB ms r (hs.take k) = false) ∧ Below w.heap.size w wr) (fun i _ => hs.length - (intOf i).toNat)
  case atStart => exact ⟨0, Nat.zero_le _, rfl, Lib.hid rfl, Below.refl _ _⟩
  case round =>
    obtain ⟨k, hk, rfl, HA, hb⟩ := hrel
    by_cases hlt : k < hs.length
    · obtain ⟨b, off, rfl, h1⟩ := (hr.keep hb).int hlt
      have HTk := Lib.hid (take_succ' hs k hlt)
      have HM := Lib.hid (List.getElem_mem hlt : hs[k] ∈ hs)
      generalize hs[k] = x at *
      have c1 := may_fn p ms g3 g7 r x wr (HT.out.keep hb) (cell_keep hb H3.out) (cell_keep hb H7.out)
      cases hg : decide (r ≤ (mget ms x).1)
      · have HE : Hid (manyB ms r (hs.take (k + 1)) = false) := Lib.hid (by
          have := HA.out
          unfold manyB at this ⊢
          rw [HTk.out, List.any_append, this]; simp only [List.any_cons, List.any_nil, hg]; rfl)
        rw [hg] at c1
        have C1 := Lib.hid c1
        clear c1 hg
        go_wp2_with ((with_reducible go_at_call 44); (with_reducible refine (C1.out).mono ?_); rintro e w1 ⟨rfl, b1⟩)
        go_roundw
        case rel => exact ⟨k + 1, by omega, by go_num, HE, Ext.trans hb b1⟩
        case measure => simp [intOf]; omega
      · have HE : Hid (true = manyB ms r hs) := Lib.hid (by
          unfold manyB
          exact (List.any_eq_true.2 ⟨x, HM.out, hg⟩).symm)
        rw [hg] at c1
        have C1 := Lib.hid c1
        clear c1 hg
        go_wp2_with ((with_reducible go_at_call 44); (with_reducible refine (C1.out).mono ?_); rintro e w1 ⟨rfl, b1⟩)
        go_ret
        exact ⟨k, rfl, by omega, by omega, by rw [← HE.out]; simp, Ext.trans hb b1⟩
    · go_wp2
      go_ret
      exact ⟨-1, rfl, by omega, by omega, by have := HA.out; rw [List.take_of_length_le (by omega)] at this; rw [this]; rfl, hb⟩

set_option maxRecDepth 100000 in
set_option maxHeartbeats 1000000 in
theorem i_contains (p : Value) (ms : List (Int × Int)) (g3 g7 : Nat) (r : Int) (A : Option Addr) (n c : Nat) (hs : List Int) (w : World) (hT : Tab w p ms) (h3 : w.cell? ⟨g3, 0, none⟩ = some p) (h7 : w.cell? ⟨g7, 0, none⟩ = some (.int .i64 r)) (hn : n ≤ 65536) (hr : Rd w A (ints hs)) (hl : hs.length = n) :
    Calls Try.prog 43 #[.slice A n c, .func (.func 44) #[] #[.pointer (some ⟨g3, 0, none⟩), .pointer (some ⟨g7, 0, none⟩)]] w fun e w' => e = .returned (.bool (manyB ms r hs)) ∧ Below w.heap.size w w' := by
  have C1 := Lib.hid (i_index p ms g3 g7 r A n c hs w hT h3 h7 hn hr hl)
  generalize manyB ms r hs = q at *
  clear hr hl hT h3 h7
  go_enter Try.func43, Try.ntmps43
  go_wp2_with fail
  refine C1.out.mono ?_
  rintro e w1 ⟨i, rfl, i0, i1, hq, b1⟩
  have HQ := Lib.hid hq
  clear hq
  go_wp2
  go_ret
  exact ⟨by rw [← HQ.out]; rfl, b1⟩

def mmay (ms : List (Int × Int)) (hs : List Int) (m : Int) : Int := if (mget ms m).1 = 0 then 19 else if manyB ms (mget ms m).1 hs = true then 7 else 0

set_option maxRecDepth 100000 in
set_option maxHeartbeats 1000000 in
theorem t_may_nil (A : Option Addr) (n c : Nat) (m : Int) (w : World) :
    Calls Try.prog 29 #[.pointer none, .slice A n c, .int .i64 m] w fun e w' => e = .returned (.int .i64 1) ∧ Below w.heap.size w w' := by
  have o1 := Own.new w 24 [.pointer none]
  have hc0 := o1.cell 0
  simp only [List.getElem?_cons_zero] at hc0
  have C1 := Lib.hid (t_rank (.pointer none) [] m (w.alloc (.cells #[.pointer none] 24)) (.inl ⟨rfl, rfl⟩))
  have hmf : ∀ (fn : Fn) (first cap : Array Value) (w : World), (Instr.makeFunc fn first cap).run Try.prog w = .ok (.func fn first cap) w := fun _ _ _ _ => rfl
  go_enter Try.func29, Try.ntmps29
  go_wp2_with fail
  refine C1.out.mono ?_
  rintro e w1 ⟨rfl, b1⟩
  have hc1 := ((o1.keep b1).alloc (.cells #[.int .i64 (mget [] m).1] 3)).cell 0
  simp only [List.getElem?_cons_zero] at hc1
  clear o1 hc0
  go_wp2
  go_ret
  exact ⟨rfl, Ext.trans (Ext.alloc _ _) (Ext.trans b1 (Ext.alloc _ _))⟩

set_option maxRecDepth 100000 in
set_option maxHeartbeats 2000000 in
theorem t_may (g : Nat) (ms : List (Int × Int)) (A : Option Addr) (n c : Nat) (hs : List Int) (m : Int) (w : World) (hT : Tab w (.pointer (some ⟨g, 0, none⟩)) ms) (hn : n ≤ 65536) (hr : Rd w A (ints hs)) (hl : hs.length = n) :
    Calls Try.prog 29 #[.pointer (some ⟨g, 0, none⟩), .slice A n c, .int .i64 m] w fun e w' => e = .returned (.int .i64 (mmay ms hs m)) ∧ Below w.heap.size w w' := by
  have o1 := Own.new w 24 [.pointer (some ⟨g, 0, none⟩)]
  have hc0 := o1.cell 0
  simp only [List.getElem?_cons_zero] at hc0
  have bA := Ext.alloc w (.cells #[.pointer (some ⟨g, 0, none⟩)] 24)
  have C1 := Lib.hid (t_rank _ ms m (w.alloc (.cells #[.pointer (some ⟨g, 0, none⟩)] 24)) (hT.keep bA))
  have hmf : ∀ (fn : Fn) (first cap : Array Value) (w : World), (Instr.makeFunc fn first cap).run Try.prog w = .ok (.func fn first cap) w := fun _ _ _ _ => rfl
  have HT := Lib.hid hT
  have HR := Lib.hid hr
  have HL := Lib.hid hl
  have hval : mmay ms hs m = if (mget ms m).1 = 0 then 19 else if manyB ms (mget ms m).1 hs = true then 7 else 0 := rfl
  clear hT hr hl
  generalize (mget ms m).1 = r at *
  have HV := Lib.hid hval
  clear hval
  go_enter Try.func29, Try.ntmps29
  go_wp2_with fail
  refine C1.out.mono ?_
  rintro e w1 ⟨rfl, b1⟩
  have k1 := Ext.trans bA b1
  have o2 := (o1.keep b1).alloc (.cells #[.int .i64 r] 3)
  have o3 := Own.new w1 3 [.int .i64 r]
  have hc1 := o2.cell 0
  have hc2 := o3.cell 0
  simp only [List.getElem?_cons_zero] at hc1 hc2
  have k2 := Ext.trans k1 (Ext.alloc w1 (.cells #[.int .i64 r] 3))
  have CC := Lib.hid (i_contains _ ms w.heap.size w1.heap.size r A n c hs (w1.alloc (.cells #[.int .i64 r] 3)) (HT.out.keep k2) hc1 hc2 hn (HR.out.keep k2) HL.out)
  clear o1 o2 o3 hc0
  by_cases hr0 : r = 0
  · have HE : Hid (mmay ms hs m = 19) := Lib.hid (by rw [HV.out, if_pos hr0])
    subst hr0
    go_wp2
    go_ret
    exact ⟨by rw [HE.out]; rfl, k2⟩
  · have HV2 : Hid (mmay ms hs m = if manyB ms r hs = true then 7 else 0) := Lib.hid (by rw [HV.out, if_neg hr0])
    cases hq : manyB ms r hs
    · have HE : Hid (mmay ms hs m = 0) := Lib.hid (by rw [HV2.out, hq]; rfl)
      rw [hq] at CC
      clear hq
      go_wp2_with ((with_reducible go_at_call 43); (with_reducible refine (CC.out).mono ?_); rintro e w4 ⟨rfl, b4⟩)
      go_ret
      exact ⟨by rw [HE.out]; rfl, Ext.trans k2 b4⟩
    · have HE : Hid (mmay ms hs m = 7) := Lib.hid (by rw [HV2.out, hq]; rfl)
      rw [hq] at CC
      clear hq
      go_wp2_with ((with_reducible go_at_call 43); (with_reducible refine (CC.out).mono ?_); rintro e w4 ⟨rfl, b4⟩)
      go_ret
      exact ⟨by rw [HE.out]; rfl, Ext.trans k2 b4⟩

end Go.Proofs.Ytfdpipjkckbgdaa
