/-
  WALKS of package demand: what jobs, work, Need and Busy answer.
-/
import Derived.Test.YtdninhdabeddeaaRefA
import Derived.Test.YtdninhdabeddeaaRtaA
namespace Go.Proofs.Ytdninhdabeddeaa
open Go.RowKit
attribute [local go_sem] depUpon Sp.ok

/-- How many jobs of a task (period, deadline, cost) are released and due within a span; their work; that of several. -/
def ejobs (s : Int) (e : Int × Int × Int) : Int := if clip s < clip e.2.1 then 0 else nsum [ndown (clip s - clip e.2.1) e.1, 1]
def ework (s : Int) (e : Int × Int × Int) : Int := nmul e.2.2 (ejobs s e)
def eneed (s : Int) (es : List (Int × Int × Int)) : Int := es.foldl (fun n e => nsum [n, ework s e]) 0
theorem eneed_snoc (s : Int) (es : List (Int × Int × Int)) (e : Int × Int × Int) : eneed s (es ++ [e]) = nsum [eneed s es, ework s e] := by simp [eneed]
theorem eneed_lo (s : Int) (es : List (Int × Int × Int)) : 0 ≤ eneed s es := by
  rcases List.eq_nil_or_concat es with rfl | ⟨l', x, rfl⟩
  · simp [eneed]
  · rw [List.concat_eq_append, eneed_snoc]; exact nsum_lo _
theorem eneed_hi (s : Int) (es : List (Int × Int × Int)) : eneed s es ≤ 1099511627776 := by
  rcases List.eq_nil_or_concat es with rfl | ⟨l', x, rfl⟩
  · simp [eneed]
  · rw [List.concat_eq_append, eneed_snoc]; exact nsum_hi _


set_option maxRecDepth 100000 in
set_option maxHeartbeats 1000000 in
theorem e_jobs (p d c s : Int) (w : World) :
    Calls Try.prog 83 #[.agg #[.int .i64 p, .int .i64 d, .int .i64 c], .int .i64 s] w fun e w' => e = .returned (.int .i64 (ejobs s (p, d, c))) ∧ Below w.heap.size w w' := by
  have o1 := Own.new w 86 [.int .i64 p, .int .i64 d, .int .i64 c]
  have hc0 := o1.cell 0
  have hc1 := o1.cell 1
  simp only [List.getElem?_cons_zero, List.getElem?_cons_succ] at hc0 hc1
  have bA := Ext.alloc w (.cells #[.int .i64 p, .int .i64 d, .int .i64 c] 86)
  have a0 := clip_lo s
  have a1 := clip_hi s
  have d0 := clip_lo d
  have d1 := clip_hi d
  clear o1
  by_cases hlt : clip s < clip d
  · have HE : Hid (ejobs s (p, d, c) = 0) := if_pos hlt
    go_enter Try.func83, Try.ntmps83
    go_wp2
    refine wp_region_dep (S := Ext) (C := Ext (w.alloc (.cells #[.int .i64 p, .int .i64 d, .int .i64 c] 86))) (by kernel_rfl) (by kernel_rfl) rfl Ext.refl (Ext.drew _) ?_
    repeat (refine dep_det (by rfl) (fun K hK => ?_); go_simp; first
      | ((with_reducible refine hK _ ?_); clear hK K)
      | (rw [if_neg (by decide)]; (with_reducible refine hK _ ?_); clear hK K)
      | (refine ⟨_, fun w1 hw1 => ⟨Ext.refl w1, hw1, rfl⟩, hK _ ?_⟩; clear hK K)
      | (apply Exists.intro; refine ⟨fun w1 hw1 => ?_, hK _ ?_⟩
         first
           | (go_at_call 57; refine (num_clip _ _).mono ?_; rintro e w' ⟨rfl, rfl⟩; exact ⟨_, rfl, Ext.refl _, hw1, rfl⟩)
           | (have c_hc0 := cell_keep hw1 hc0; have c_hc1 := cell_keep hw1 hc1; go_simp; first | exact ⟨Ext.refl _, hw1, rfl⟩ | exact ⟨Ext.refl _, rfl⟩)
         clear hK K))
    refine dep_nil ?_
    intro a' w' hC hE
    obtain rfl := atEnd_nil hE
    clear hE
    go_wp2
    go_ret
    exact ⟨by rw [HE.out]; rfl, Ext.trans bA hC⟩
  · have HE : Hid (ejobs s (p, d, c) = nsum [ndown (clip s - clip d) p, 1]) := if_neg hlt
    go_enter Try.func83, Try.ntmps83
    go_wp2
    refine wp_region_dep (S := Ext) (C := Ext (w.alloc (.cells #[.int .i64 p, .int .i64 d, .int .i64 c] 86))) (by kernel_rfl) (by kernel_rfl) rfl Ext.refl (Ext.drew _) ?_
    repeat (refine dep_det (by rfl) (fun K hK => ?_); go_simp; first
      | ((with_reducible refine hK _ ?_); clear hK K)
      | (rw [if_neg (by decide)]; (with_reducible refine hK _ ?_); clear hK K)
      | (refine ⟨_, fun w1 hw1 => ⟨Ext.refl w1, hw1, rfl⟩, hK _ ?_⟩; clear hK K)
      | (apply Exists.intro; refine ⟨fun w1 hw1 => ?_, hK _ ?_⟩
         first
           | (go_at_call 57; refine (num_clip _ _).mono ?_; rintro e w' ⟨rfl, rfl⟩; exact ⟨_, rfl, Ext.refl _, hw1, rfl⟩)
           | (have c_hc0 := cell_keep hw1 hc0; have c_hc1 := cell_keep hw1 hc1; go_simp; first | exact ⟨Ext.refl _, hw1, rfl⟩ | exact ⟨Ext.refl _, rfl⟩)
         clear hK K))
    refine dep_nil ?_
    intro a' w' hC hE
    obtain rfl := atEnd_nil hE
    clear hE
    have hc0' := cell_keep hC hc0
    clear hc0 hc1
    go_wp2_with (first
      | (go_at_call 84; refine (num_down _ _ _).mono ?_; rintro e w' ⟨rfl, rfl⟩)
      | (go_at_call 37; refine (num_add _ 2 _ [ndown (clip s - clip d) p, 1] _ (by omega) (rd2i _ _ _) rfl).mono ?_; rintro e w' ⟨rfl, rfl⟩))
    go_ret
    exact ⟨by rw [HE.out]; rfl, Ext.trans bA (Ext.trans hC (Ext.alloc _ _))⟩

set_option maxRecDepth 100000 in
set_option maxHeartbeats 1000000 in
theorem e_work (p d c s : Int) (w : World) :
    Calls Try.prog 78 #[.agg #[.int .i64 p, .int .i64 d, .int .i64 c], .int .i64 s] w fun e w' => e = .returned (.int .i64 (ework s (p, d, c))) ∧ Below w.heap.size w w' := by
  have o1 := Own.new w 86 [.int .i64 p, .int .i64 d, .int .i64 c]
  have hc0 := o1.cell 0
  have hc1 := o1.cell 1
  have hc2 := o1.cell 2
  simp only [List.getElem?_cons_zero, List.getElem?_cons_succ] at hc0 hc1 hc2
  have bA := Ext.alloc w (.cells #[.int .i64 p, .int .i64 d, .int .i64 c] 86)
  clear o1
  go_enter Try.func78, Try.ntmps78
  go_wp2
  refine wp_region_dep (S := Ext) (C := Ext (w.alloc (.cells #[.int .i64 p, .int .i64 d, .int .i64 c] 86))) (by kernel_rfl) (by kernel_rfl) rfl Ext.refl (Ext.drew _) ?_
  repeat (refine dep_det (by rfl) (fun K hK => ?_); go_simp; first
    | ((with_reducible refine hK _ ?_); clear hK K)
    | (rw [if_neg (by decide)]; (with_reducible refine hK _ ?_); clear hK K)
    | (refine ⟨_, fun w1 hw1 => ⟨Ext.refl w1, hw1, rfl⟩, hK _ ?_⟩; clear hK K)
    | (apply Exists.intro; refine ⟨fun w1 hw1 => ?_, hK _ ?_⟩
       first
         | (go_at_call 83; refine (e_jobs p d c s _).mono ?_; rintro e w' ⟨rfl, hb'⟩; exact ⟨_, rfl, hb', Ext.trans hw1 hb', rfl⟩)
         | (go_at_call 76; refine (num_mul _ _ _).mono ?_; rintro e w' ⟨rfl, rfl⟩; exact ⟨_, rfl, Ext.refl _, hw1, rfl⟩)
         | (have c_hc0 := cell_keep hw1 hc0; have c_hc1 := cell_keep hw1 hc1; have c_hc2 := cell_keep hw1 hc2; go_simp; first | exact ⟨Ext.refl _, hw1, rfl⟩ | exact ⟨Ext.refl _, rfl⟩)
       clear hK K))
  refine dep_nil ?_
  intro a' w' hC hE
  obtain rfl := atEnd_nil hE
  clear hE
  go_wp2
  go_ret
  exact ⟨rfl, Ext.trans bA hC⟩

set_option maxRecDepth 100000 in
set_option maxHeartbeats 1000000 in
theorem d_need (span : Int) (A : Option Addr) (n c : Nat) (es : List (Int × Int × Int)) (w : World) (hn : n ≤ 4611686018427387904) (hr : Rd w A (trips es)) (hl : es.length = n) :
    Calls Try.prog 65 #[.int .i64 span, .slice A n c] w fun e w' => e = .returned (.int .i64 (eneed span es)) ∧ Below w.heap.size w w' := by
  subst hl
  have hmf : ∀ (fn : Fn) (first cap : Array Value) (w : World), (Instr.makeFunc fn first cap).run Try.prog w = .ok (.func fn first cap) w := fun _ _ _ _ => rfl
  go_enter Try.func65, Try.ntmps65
  go_wp2
  go_loopw [5, 11] (fun s i wr => ∃ k : Nat, k ≤ es.length ∧ i = .int .i64 k ∧ s = .int .i64 (eneed span (es.take k)) ∧ Below w.heap.size w wr) (fun _ i _ => es.length - (intOf i).toNat)
  case atStart => exact ⟨0, Nat.zero_le _, rfl, rfl, Below.refl _ _⟩
  case round =>
    obtain ⟨k, hk, rfl, rfl, hb⟩ := hrel
    by_cases hlt : k < es.length
    · obtain ⟨b, off, rfl, h1, h2, h3⟩ := (hr.keep hb).trip hlt
      have o1 := Own.new wr 86 [.int .i64 es[k].1, .int .i64 es[k].2.1, .int .i64 es[k].2.2]
      have hc0 := o1.cell 0
      have hc1 := o1.cell 1
      have hc2 := o1.cell 2
      simp only [List.getElem?_cons_zero, List.getElem?_cons_succ] at hc0 hc1 hc2
      have HT := Lib.hid (take_succ' es k hlt)
      clear o1
      go_wp2_with (first
        | (go_at_call 78; refine (e_work es[k].1 es[k].2.1 es[k].2.2 span _).mono ?_; rintro e w1 ⟨rfl, b1⟩)
        | (go_at_call 37; refine (num_add _ 2 _ [eneed span (es.take k), ework span es[k]] _ (by omega) (rd2i _ _ _) rfl).mono ?_; rintro e w' ⟨rfl, rfl⟩))
      go_roundw
      case rel => exact ⟨k + 1, by omega, by go_num, by rw [HT.out, eneed_snoc], hb.trans ((Ext.trans (Ext.alloc _ _) (Ext.trans b1 (Ext.alloc _ _))).mono hb.size)⟩
      case measure => simp [intOf]; omega
    · go_wp2
      go_ret
      exact ⟨ret_int (by rw [List.take_of_length_le (by omega)]), hb⟩

end Go.Proofs.Ytdninhdabeddeaa
