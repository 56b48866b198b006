/-
  WALKS of the statements on package admit: awake.
-/
import Derived.Test.YtdninhdabeddeaaAdmQ
import Derived.Test.YtdninhdabeddeaaLend
namespace Go.Proofs.Ytdninhdabeddeaa
open Go.RowKit
attribute [local go_sem] depUpon Sp.ok

/-- The tasks of 'awake'. -/
def awT (s : Nat) : List TK := [⟨2, 9, 100, 40, 5, -1, none, 0, 0, [], none, 0, 0, []⟩, ⟨1, 0, 200, 100, 10, -1, some ⟨s + 1, 0, none⟩, 1, 1, [0], none, 0, 0, []⟩]
def aw0 : TK := ⟨2, 9, 100, 40, 5, -1, none, 0, 0, [], none, 0, 0, []⟩
def aw1 (s : Nat) : TK := ⟨1, 0, 200, 100, 10, -1, some ⟨s + 1, 0, none⟩, 1, 1, [0], none, 0, 0, []⟩
theorem awT_may (s : Nat) : mayC 2 0 1 0 (awT s) [] [(1, 6)] [] 8 500 = true := by kernel_rfl
theorem aw_r0 (s : Nat) : respV (awT s) [(1, 6)] [] 0 aw0 = (16, true) := by kernel_rfl
theorem aw_fit : rresp 0 17 [(100, 5), (200, 10)] 4096 = some 31 := by
  have hall : ∀ n : Nat, n < 32 → 1 ≤ n → ((n : Nat) : Int) < rneed 0 17 [(100, 5), (200, 10)] (n : Int) := by decide +kernel
  refine rresp_yes (s := 32) (by omega) (by decide +kernel) (by decide +kernel) (fun t h1 h2 => ?_)
  obtain ⟨n, rfl⟩ : ∃ n : Nat, t = (n : Int) := ⟨t.toNat, by omega⟩
  exact hall n (by omega) (by omega)
theorem aw_bad : ((List.range 32).find? fun (j : Nat) => dbad 17 [(100, 5)] [(200, 100, 10)] ((j : Int) + 1)) = none := by kernel_rfl
theorem aw_dfits : (dfits 17 [(100, 5)] [(200, 100, 10)] 4096).2 = true := by
  have h : rresp 0 17 (dall [(100, 5)] [(200, 100, 10)]) 4096 = some 31 := aw_fit
  unfold dfits
  rw [h]
  show (match (List.range 32).find? fun (j : Nat) => dbad 17 [(100, 5)] [(200, 100, 10)] ((j : Int) + 1) with
    | some j => (((j : Nat) : Int) + 1, false)
    | none => (((31 : Nat) : Int) + 1, true)).2 = true
  rw [aw_bad]
theorem awT_blk (s : Nat) : blkV (awT s) [(1, 6)] (aw1 s) = 17 := by kernel_rfl
theorem aw_r1 (s : Nat) : respV (awT s) [(1, 6)] [] 1 (aw1 s) = (100, true) := by
  have h2 : partsV (awT s) [] ((1 : Nat) : Int) (aw1 s) = [(100, 5)] := by kernel_rfl
  have h3 : earlL (awT s) = [(200, 100, 10)] := by kernel_rfl
  have h4 : (aw1 s).cls ≠ 2 := by show (1 : Int) ≠ 2; decide
  unfold respV
  rw [awT_blk s, h2, h3, if_neg h4, if_pos aw_dfits]
  rfl
theorem awT_adm (s : Nat) : admB 2 0 1 0 (awT s) [] [(1, 6)] [] 8 500 = true := by
  unfold admB
  rw [awT_may]
  have e0 : okAt (awT s) [(1, 6)] [] 500 0 = okOf [] 500 aw0 (respV (awT s) [(1, 6)] [] 0 aw0).2 := rfl
  have e1 : okAt (awT s) [(1, 6)] [] 500 1 = okOf [] 500 (aw1 s) (respV (awT s) [(1, 6)] [] 1 (aw1 s)).2 := rfl
  rw [aw_r0] at e0
  rw [aw_r1] at e1
  have l : List.range 2 = [0, 1] := rfl
  unfold okTo
  rw [l]
  show (true && (okAt (awT s) [(1, 6)] [] 500 0 && (okAt (awT s) [(1, 6)] [] 500 1 && true))) = true
  rw [e0, e1]
  kernel_rfl
theorem awT_res (s : Nat) : admR 2 0 1 0 (awT s) [] [(1, 6)] [] 8 500 = [16, 100] := by
  unfold admR
  rw [if_pos (awT_adm s)]
  have e0 : respAt (awT s) [(1, 6)] [] 0 = respV (awT s) [(1, 6)] [] 0 aw0 := rfl
  have e1 : respAt (awT s) [(1, 6)] [] 1 = respV (awT s) [(1, 6)] [] 1 (aw1 s) := rfl
  rw [aw_r0] at e0
  rw [aw_r1] at e1
  have l : respTo (awT s) [(1, 6)] [] 2 = [(respAt (awT s) [(1, 6)] [] 0).1, (respAt (awT s) [(1, 6)] [] 1).1] := rfl
  rw [l, e0, e1]
theorem aw_conf (w : World) : ConfArg (((w.alloc (.cells #[.int .i64 1, .int .i64 6] 55)).alloc (.cells #[.int .i64 0] 3)).alloc (.cells #[.int .i64 2, .int .i64 9, .int .i64 100, .int .i64 40, .int .i64 5, .int .i64 (-1), .slice none 0 0, .slice none 0 0, .int .i64 1, .int .i64 0, .int .i64 200, .int .i64 100, .int .i64 10, .int .i64 (-1), .slice (some ⟨w.heap.size + 1, 0, none⟩) 1 1, .slice none 0 0] 47)) (some ⟨w.heap.size + 1 + 1, 0, none⟩) 2 (awT w.heap.size) none 0 [] (some ⟨w.heap.size, 0, none⟩) 1 [(1, 6)] none 0 [] 8 500 := by
  have e1 : (w.alloc (.cells #[.int .i64 1, .int .i64 6] 55)).heap.size = w.heap.size + 1 := by simp
  have e2 : ((w.alloc (.cells #[.int .i64 1, .int .i64 6] 55)).alloc (.cells #[.int .i64 0] 3)).heap.size = w.heap.size + 1 + 1 := by simp
  have r1 := (Own.new w 55 (pairs [(1, 6)])).rd0
  have r2 := (Own.new (w.alloc (.cells #[.int .i64 1, .int .i64 6] 55)) 3 (ints [0])).rd0
  have r3 := (Own.new ((w.alloc (.cells #[.int .i64 1, .int .i64 6] 55)).alloc (.cells #[.int .i64 0] 3)) 47 [.int .i64 2, .int .i64 9, .int .i64 100, .int .i64 40, .int .i64 5, .int .i64 (-1), .slice none 0 0, .slice none 0 0, .int .i64 1, .int .i64 0, .int .i64 200, .int .i64 100, .int .i64 10, .int .i64 (-1), .slice (some ⟨w.heap.size + 1, 0, none⟩) 1 1, .slice none 0 0]).rd0
  rw [e1] at r2
  rw [e2] at r3
  refine ⟨⟨rfl, by omega, ?_, r3⟩, ⟨rfl, by omega, by simp, Rd.nil _ _⟩, ⟨rfl, by omega, (r1.keep (Ext.alloc _ _)).keep (Ext.alloc _ _), by simp [I64]⟩, ⟨rfl, by omega, Rd.nil _ _, by simp⟩, by simp [I64], by simp [I64]⟩
  intro x hx
  simp only [awT, List.mem_cons, List.not_mem_nil, or_false] at hx
  rcases hx with rfl | rfl
  · exact ⟨by simp [I64], ⟨rfl, by decide, Rd.nil _ _, by simp⟩, by simp, ⟨rfl, by simp, by simp, Rd.nil _ _⟩⟩
  · exact ⟨by simp [I64], ⟨rfl, by simp, r2.keep (Ext.alloc _ _), by simp [I64]⟩, by simp, ⟨rfl, by simp, by simp, Rd.nil _ _⟩⟩

def zcf : Value := .agg #[.slice none 0 0, .slice none 0 0, .slice none 0 0, .slice none 0 0, .int .i64 0, .int .i64 0]
set_option maxRecDepth 100000 in
theorem zero_conf : (Try.prog.info? 27).map (·.zero) = some (some zcf) := by kernel_rfl

set_option maxRecDepth 100000 in
set_option maxHeartbeats 2000000 in
theorem adm_awake (w : World) :
    Calls Try.prog 9 #[] w fun e w' => e = .returned (.bool true) ∧ Below w.heap.size w w' := by
  have HV := Lib.hid (aw_conf w)
  have hb0 : Ext w (((w.alloc (.cells #[.int .i64 1, .int .i64 6] 55)).alloc (.cells #[.int .i64 0] 3)).alloc (.cells #[.int .i64 2, .int .i64 9, .int .i64 100, .int .i64 40, .int .i64 5, .int .i64 (-1), .slice none 0 0, .slice none 0 0, .int .i64 1, .int .i64 0, .int .i64 200, .int .i64 100, .int .i64 10, .int .i64 (-1), .slice (some ⟨w.heap.size + 1, 0, none⟩) 1 1, .slice none 0 0] 47)) := Ext.trans (Ext.trans (Ext.alloc _ _) (Ext.alloc _ _)) (Ext.alloc _ _)
  have c1 := fun w' h' => a_admit (some ⟨w.heap.size + 1 + 1, 0, none⟩) 2 2 (awT w.heap.size) none 0 0 [] (some ⟨w.heap.size, 0, none⟩) 1 1 [(1, 6)] none 0 0 [] 8 500 w' h' (by omega)
  rw [awT_adm, awT_res] at c1
  have c2 := fun w' h' => a_block_yes (some ⟨w.heap.size + 1 + 1, 0, none⟩) 2 2 (awT w.heap.size) none 0 0 [] (some ⟨w.heap.size, 0, none⟩) 1 1 [(1, 6)] none 0 0 [] 8 500 1 _ w' h' (by simp [awT]) rfl (awT_may _) (by omega)
  have c3 := fun w' h' => a_may (some ⟨w.heap.size + 1 + 1, 0, none⟩) 2 2 (awT w.heap.size) none 0 0 [] (some ⟨w.heap.size, 0, none⟩) 1 1 [(1, 6)] none 0 0 [] 8 500 w' h' (by omega)
  rw [awT_may] at c3
  have e2 : blkV (awT w.heap.size) [(1, 6)] ((awT w.heap.size)[1]'(by simp [awT])) = 17 := awT_blk w.heap.size
  rw [e2] at c2
  have C1 := Lib.hid c1
  have C2 := Lib.hid c2
  have C3 := Lib.hid c3
  clear c1 c2 c3 e2
  go_enter Try.func9, Try.ntmps9
  go_wp2_with (first
    | (refine wpl_alloc_own _ rfl 27 rfl zcf zero_conf ?_; intro w2 o2 b2 s2; clear s2; skip)
    | (refine wpl_store_own _ rfl 27 _ _ rfl 6 size_conf _ rfl [.slice (some ⟨w.heap.size + 1 + 1, 0, none⟩) 2 2, .slice none 0 0, .slice (some ⟨w.heap.size, 0, none⟩) 1 1, .slice none 0 0, .int .i64 8, .int .i64 500] rfl _ _ o2 rfl rfl (by simp [Value.oneCell']) ?_; intro w4 o4 g4 s4; clear s4; have e4 := below_of_grown b2 g4 (Nat.le_refl _) b2.size; have o5 := o4; simp only [World.size_alloc] at o5)
    | (refine wpl_load_own _ rfl 27 _ rfl (by kernel_rfl) 6 size_conf _ rfl _ _ o4 rfl ?_)
    | (refine wpl_load_own _ rfl 27 _ rfl (by kernel_rfl) 6 size_conf _ rfl _ _ o5 rfl ?_))
  have oC := Lib.hid o5
  have bC := Ext.trans hb0 e4
  refine (C1.out _ (HV.out.keep e4)).mono ?_
  rintro e w5 ⟨S, c', rfl, rS, b5⟩
  have oC5 := oC.out.keep b5
  have e5 := Ext.trans e4 b5
  have b6 := Ext.trans hb0 e5
  have hs := fun d w1 (h1 : Rd w1 (some ⟨w5.heap.size, 0, none⟩) (ints [16, 100])) (h2 : Rd w1 S (ints [16, 100])) => same_ints S (some ⟨w5.heap.size, 0, none⟩) 2 2 c' d [16, 100] [16, 100] w1 (by omega) (by omega) h2 h1 rfl rfl
  have HS := Lib.hid hs
  have HRS := Lib.hid rS
  clear hs rS b5 e4 g4 o4 o5 o2 b2 bC
  go_wp2_with fail
  have oC5 := Lib.hid oC5
  refine (HS.out 2 _ (rd_two _ 16 100) (HRS.out.keep (Ext.alloc _ _))).mono ?_
  rintro e w6 ⟨rfl, q, rfl⟩
  have bq : Ext w5 ((w5.alloc (.cells #[.int .i64 16, .int .i64 100] 3)).drewN q) := Ext.trans (Ext.alloc _ _) (Ext.drewN _ q)
  have oC6 := oC5.out.keep bq
  have e6 := Ext.trans e5 bq
  have ha : Hid (ConfArg ((w5.alloc (.cells #[.int .i64 16, .int .i64 100] 3)).drewN q) (some ⟨w.heap.size + 1 + 1, 0, none⟩) 2 (awT w.heap.size) none 0 [] (some ⟨w.heap.size, 0, none⟩) 1 [(1, 6)] none 0 [] 8 500) := Lib.hid (HV.out.keep e6)
  generalize ((w5.alloc (.cells #[.int .i64 16, .int .i64 100] 3)).drewN q) = w6 at *
  go_wp2_with (refine wpl_load_w _ ?_ 27 _ rfl (by kernel_rfl) 6 size_conf _ rfl _ _ oC6 rfl ?_; focus (go_simp; done))
  refine (C2.out _ ha.out).mono ?_
  rintro e w7 ⟨rfl, b7⟩
  have oC7 := oC6.keep b7
  go_wp2_with (refine wpl_load_w _ ?_ 27 _ rfl (by kernel_rfl) 6 size_conf _ rfl _ _ oC7 rfl ?_; focus (go_simp; done))
  refine (C3.out _ (ha.out.keep b7)).mono ?_
  rintro e w8 ⟨rfl, b8⟩
  go_wp2
  go_ret
  exact ⟨rfl, Ext.trans (Ext.trans (Ext.trans hb0 e6) b7) b8⟩

end Go.Proofs.Ytdninhdabeddeaa
