/-
  WALKS of chapter 18's reference: May.
-/
import Derived.Test.YtdninhdabeddeaaRefF
namespace Go.Proofs.Ytdninhdabeddeaa
open Go.RowKit
attribute [local go_sem] depUpon Sp.ok

theorem cntLine_pos {ts : List TK} {i : Nat} {l : Int} : 0 < cntLine (ts.take i) l ↔ ∃ (j : Nat) (hj : j < ts.length), j < i ∧ ts[j].line = l := by
  unfold cntLine
  constructor
  · intro h
    have h' : 0 < (ts.take i).countP fun x => decide (x.line = l) := by omega
    obtain ⟨x, hx, hp⟩ := List.countP_pos_iff.1 h'
    obtain ⟨j, hj, rfl⟩ := List.getElem_of_mem hx
    rw [List.length_take] at hj
    refine ⟨j, by omega, by omega, ?_⟩
    simpa using hp
  · rintro ⟨j, hj, hji, he⟩
    have h' : 0 < (ts.take i).countP fun x => decide (x.line = l) := by
      refine List.countP_pos_iff.2 ⟨ts[j], ?_, by simpa using he⟩
      rw [List.mem_take_iff_getElem]
      exact ⟨j, by omega, rfl⟩
    omega
theorem mayTs_yes {nm ng : Nat} {ts : List TK} {i : Nat} (hi : i < ts.length) (h : mayTs nm ng ts i = true) (hm : mayT nm ng ts[i] = true) (hn : ∀ j (hj : j < ts.length), j < i → ¬ (0 ≤ ts[i].line ∧ ts[j].line = ts[i].line)) : mayTs nm ng ts (i + 1) = true := by
  rw [mayTs_succ nm ng ts i hi, h, hm]
  have : (decide (0 ≤ ts[i].line) && decide (0 < cntLine (ts.take i) ts[i].line)) = false := by
    by_cases h0 : 0 ≤ ts[i].line
    · have h1 : ¬ 0 < cntLine (ts.take i) ts[i].line := fun h => by
        obtain ⟨j, hj, hji, he⟩ := cntLine_pos.1 h
        exact hn j hj hji ⟨h0, he⟩
      simp [h1]
    · simp [h0]
  rw [this]
  rfl
theorem mayTs_bad {nm ng : Nat} {ts : List TK} {i m : Nat} (hi : i < ts.length) (hm : i < m) (h : mayT nm ng ts[i] = false) : mayTs nm ng ts m = false := mayTs_false hi hm (by rw [h]; rfl)
theorem mayTs_twice {nm ng : Nat} {ts : List TK} {i j m : Nat} (hi : i < ts.length) (hj : j < ts.length) (hm : i < m) (hji : j < i) (h0 : 0 ≤ ts[i].line) (he : ts[j].line = ts[i].line) : mayTs nm ng ts m = false :=
  mayTs_false hi hm (by
    have h1 : 0 < cntLine (ts.take i) ts[i].line := cntLine_pos.2 ⟨j, hj, hji, he⟩
    simp [h0, h1])

set_option maxRecDepth 100000 in
set_option maxHeartbeats 8000000 in
theorem r_may (A : Option Addr) (nt ct : Nat) (ts : List TK) (B : Option Addr) (nb cb : Nat) (bs : List EF) (M : Option Addr) (nm cm : Nat) (ms : List (Int × Int)) (G : Option Addr) (ng cg : Nat) (gs : List Int) (fr dog : Int) (w : World) (h : ConfArg w A nt ts B nb bs M nm ms G ng gs fr dog) (h12 : nm ≤ 65536) :
    Calls Try.prog 11 #[.agg #[.slice A nt ct, .slice B nb cb, .slice M nm cm, .slice G ng cg, .int .i64 fr, .int .i64 dog]] w fun e w' => e = .returned (.bool (mayC nt nb nm ng ts bs ms gs fr dog)) ∧ Below w.heap.size w w' := by
  have hb0 : Ext w (w.alloc (.cells #[.slice A nt ct, .slice B nb cb, .slice M nm cm, .slice G ng cg, .int .i64 fr, .int .i64 dog] 27)) := Ext.alloc _ _
  have hq : mayC nt nb nm ng ts bs ms gs fr dog = (decide (nt ≤ 8) && decide (nb ≤ 6) && decide (ng ≤ 4) && inB fr 8 64 && inB dog 1 1099511627776 && okM ms && mayTs nm ng ts nt && bs.all effB && !gapB gs) := rfl
  have c1 := fun w => r_in fr 8 64 w
  have c2 := fun w => r_in dog 1 1099511627776 w
  have hgo := fun w' (h' : Ext w w') => r_good M nm cm ms w' h12 (h.mtx.rd.keep h') h.mtx.len
  have HC := Lib.hid h
  clear h
  generalize okM ms = qk at *
  generalize inB fr 8 64 = q1 at *
  generalize inB dog 1 1099511627776 = q2 at *
  have oV := Own.new w 27 [.slice A nt ct, .slice B nb cb, .slice M nm cm, .slice G ng cg, .int .i64 fr, .int .i64 dog]
  have HQ := Lib.hid hq
  have C1 := Lib.hid c1
  have C2 := Lib.hid c2
  have HGO := Lib.hid hgo
  clear hq c1 c2 hgo
  by_cases h8 : (8 : Int) < (nt : Int)
  · have HF := Lib.hid (show mayC nt nb nm ng ts bs ms gs fr dog = false by rw [HQ.out]; rw [show decide (nt ≤ 8) = false by simp; omega]; simp)
    clear HQ
    go_enter Try.func11, Try.ntmps11
    go_wp2_with (first | ((with_reducible go_at_call 31); (with_reducible refine (C1.out _).mono ?_); rintro e w' ⟨rfl, rfl⟩) | ((with_reducible go_at_call 31); (with_reducible refine (C2.out _).mono ?_); rintro e w' ⟨rfl, rfl⟩) | ((with_reducible go_at_call 30); (with_reducible refine (HGO.out _ (Ext.alloc _ _)).mono ?_); rintro e w1 ⟨rfl, b1⟩; have v3 : w1.cell? ⟨w.heap.size, 3, none⟩ = some (.slice G ng cg) := (oV.keep b1).cell 3; have v4 : w1.cell? ⟨w.heap.size, 4, none⟩ = some (.int .i64 fr) := (oV.keep b1).cell 4; have v5 : w1.cell? ⟨w.heap.size, 5, none⟩ = some (.int .i64 dog) := (oV.keep b1).cell 5))
    go_ret
    exact ⟨by rw [HF.out]; rfl, hb0⟩
  by_cases h6 : (6 : Int) < (nb : Int)
  · have HF := Lib.hid (show mayC nt nb nm ng ts bs ms gs fr dog = false by rw [HQ.out]; rw [show decide (nb ≤ 6) = false by simp; omega]; simp)
    clear HQ
    go_enter Try.func11, Try.ntmps11
    go_wp2_with (first | ((with_reducible go_at_call 31); (with_reducible refine (C1.out _).mono ?_); rintro e w' ⟨rfl, rfl⟩) | ((with_reducible go_at_call 31); (with_reducible refine (C2.out _).mono ?_); rintro e w' ⟨rfl, rfl⟩) | ((with_reducible go_at_call 30); (with_reducible refine (HGO.out _ (Ext.alloc _ _)).mono ?_); rintro e w1 ⟨rfl, b1⟩; have v3 : w1.cell? ⟨w.heap.size, 3, none⟩ = some (.slice G ng cg) := (oV.keep b1).cell 3; have v4 : w1.cell? ⟨w.heap.size, 4, none⟩ = some (.int .i64 fr) := (oV.keep b1).cell 4; have v5 : w1.cell? ⟨w.heap.size, 5, none⟩ = some (.int .i64 dog) := (oV.keep b1).cell 5))
    go_ret
    exact ⟨by rw [HF.out]; rfl, hb0⟩
  cases qk
  · have HF := Lib.hid (show mayC nt nb nm ng ts bs ms gs fr dog = false by rw [HQ.out]; simp)
    clear HQ
    go_enter Try.func11, Try.ntmps11
    go_wp2_with (first | ((with_reducible go_at_call 31); (with_reducible refine (C1.out _).mono ?_); rintro e w' ⟨rfl, rfl⟩) | ((with_reducible go_at_call 31); (with_reducible refine (C2.out _).mono ?_); rintro e w' ⟨rfl, rfl⟩) | ((with_reducible go_at_call 30); (with_reducible refine (HGO.out _ (Ext.alloc _ _)).mono ?_); rintro e w1 ⟨rfl, b1⟩; have v3 : w1.cell? ⟨w.heap.size, 3, none⟩ = some (.slice G ng cg) := (oV.keep b1).cell 3; have v4 : w1.cell? ⟨w.heap.size, 4, none⟩ = some (.int .i64 fr) := (oV.keep b1).cell 4; have v5 : w1.cell? ⟨w.heap.size, 5, none⟩ = some (.int .i64 dog) := (oV.keep b1).cell 5))
    go_ret
    exact ⟨by rw [HF.out]; rfl, Ext.trans hb0 b1⟩
  by_cases h4 : (4 : Int) < (ng : Int)
  · have HF := Lib.hid (show mayC nt nb nm ng ts bs ms gs fr dog = false by rw [HQ.out]; rw [show decide (ng ≤ 4) = false by simp; omega]; simp)
    clear HQ
    go_enter Try.func11, Try.ntmps11
    go_wp2_with (first | ((with_reducible go_at_call 31); (with_reducible refine (C1.out _).mono ?_); rintro e w' ⟨rfl, rfl⟩) | ((with_reducible go_at_call 31); (with_reducible refine (C2.out _).mono ?_); rintro e w' ⟨rfl, rfl⟩) | ((with_reducible go_at_call 30); (with_reducible refine (HGO.out _ (Ext.alloc _ _)).mono ?_); rintro e w1 ⟨rfl, b1⟩; have v3 : w1.cell? ⟨w.heap.size, 3, none⟩ = some (.slice G ng cg) := (oV.keep b1).cell 3; have v4 : w1.cell? ⟨w.heap.size, 4, none⟩ = some (.int .i64 fr) := (oV.keep b1).cell 4; have v5 : w1.cell? ⟨w.heap.size, 5, none⟩ = some (.int .i64 dog) := (oV.keep b1).cell 5))
    go_ret
    exact ⟨by rw [HF.out]; rfl, Ext.trans hb0 b1⟩
  cases q1
  · have HF := Lib.hid (show mayC nt nb nm ng ts bs ms gs fr dog = false by rw [HQ.out]; simp)
    clear HQ
    go_enter Try.func11, Try.ntmps11
    go_wp2_with (first | ((with_reducible go_at_call 31); (with_reducible refine (C1.out _).mono ?_); rintro e w' ⟨rfl, rfl⟩) | ((with_reducible go_at_call 31); (with_reducible refine (C2.out _).mono ?_); rintro e w' ⟨rfl, rfl⟩) | ((with_reducible go_at_call 30); (with_reducible refine (HGO.out _ (Ext.alloc _ _)).mono ?_); rintro e w1 ⟨rfl, b1⟩; have v3 : w1.cell? ⟨w.heap.size, 3, none⟩ = some (.slice G ng cg) := (oV.keep b1).cell 3; have v4 : w1.cell? ⟨w.heap.size, 4, none⟩ = some (.int .i64 fr) := (oV.keep b1).cell 4; have v5 : w1.cell? ⟨w.heap.size, 5, none⟩ = some (.int .i64 dog) := (oV.keep b1).cell 5))
    go_ret
    exact ⟨by rw [HF.out]; rfl, Ext.trans hb0 b1⟩
  cases q2
  · have HF := Lib.hid (show mayC nt nb nm ng ts bs ms gs fr dog = false by rw [HQ.out]; simp)
    clear HQ
    go_enter Try.func11, Try.ntmps11
    go_wp2_with (first | ((with_reducible go_at_call 31); (with_reducible refine (C1.out _).mono ?_); rintro e w' ⟨rfl, rfl⟩) | ((with_reducible go_at_call 31); (with_reducible refine (C2.out _).mono ?_); rintro e w' ⟨rfl, rfl⟩) | ((with_reducible go_at_call 30); (with_reducible refine (HGO.out _ (Ext.alloc _ _)).mono ?_); rintro e w1 ⟨rfl, b1⟩; have v3 : w1.cell? ⟨w.heap.size, 3, none⟩ = some (.slice G ng cg) := (oV.keep b1).cell 3; have v4 : w1.cell? ⟨w.heap.size, 4, none⟩ = some (.int .i64 fr) := (oV.keep b1).cell 4; have v5 : w1.cell? ⟨w.heap.size, 5, none⟩ = some (.int .i64 dog) := (oV.keep b1).cell 5))
    go_ret
    exact ⟨by rw [HF.out]; rfl, Ext.trans hb0 b1⟩
  have HQ2 := Lib.hid (show mayC nt nb nm ng ts bs ms gs fr dog = (mayTs nm ng ts nt && bs.all effB && !gapB gs) by
    rw [HQ.out, show decide (nt ≤ 8) = true by simp; omega, show decide (nb ≤ 6) = true by simp; omega, show decide (ng ≤ 4) = true by simp; omega]; simp)
  have HTL := Lib.hid HC.out.tasks.len
  have HBL := Lib.hid HC.out.best.len
  have HGL := Lib.hid HC.out.gaps.len
  have HMT := Lib.hid (fun (x : TK) w' (hx : x.Ok w') => r_mayTask x nm ng w' hx h12 (by omega))
  clear HQ
  go_enter Try.func11, Try.ntmps11
  go_wp2_with (first | ((with_reducible go_at_call 31); (with_reducible refine (C1.out _).mono ?_); rintro e w' ⟨rfl, rfl⟩) | ((with_reducible go_at_call 31); (with_reducible refine (C2.out _).mono ?_); rintro e w' ⟨rfl, rfl⟩) | ((with_reducible go_at_call 30); (with_reducible refine (HGO.out _ (Ext.alloc _ _)).mono ?_); rintro e w1 ⟨rfl, b1⟩; have v3 : w1.cell? ⟨w.heap.size, 3, none⟩ = some (.slice G ng cg) := (oV.keep b1).cell 3; have v4 : w1.cell? ⟨w.heap.size, 4, none⟩ = some (.int .i64 fr) := (oV.keep b1).cell 4; have v5 : w1.cell? ⟨w.heap.size, 5, none⟩ = some (.int .i64 dog) := (oV.keep b1).cell 5))
  have bV := Ext.trans hb0 b1
  replace oV := oV.keep b1
  clear C1 C2 HGO hb0 b1
  clear v4 v5
  go_loop [3] (fun i => ∃ k : Nat, k ≤ ng ∧ i = .int .i64 k ∧ Hid (gapB (gs.take k) = false)) (fun i => ng - (intOf i).toNat)
  case atStart => exact ⟨0, by omega, rfl, Lib.hid rfl⟩
  case round =>
    obtain ⟨k, hk, rfl, HN⟩ := hrel
    by_cases hlt : k < ng
    · have hkl : k < gs.length := by rw [HGL.out]; exact hlt
      obtain ⟨b, off, rfl, hc⟩ := (HC.out.gaps.rd.keep bV).int hkl
      have hst : gapB (gs.take (k + 1)) = !inB gs[k] 1 1000 := by
        have h0 := HN.out
        unfold gapB at h0 ⊢
        rw [take_succ' gs k hkl, List.any_append, h0]
        simp
      have hall : inB gs[k] 1 1000 = false → gapB gs = true := fun h => by
        unfold gapB
        rw [List.any_eq_true]
        exact ⟨gs[k], List.getElem_mem hkl, by rw [h]; rfl⟩
      have c5 := fun w => r_in gs[k] 1 1000 w
      generalize gs[k] = u at *
      generalize inB u 1 1000 = q at *
      have C5 := Lib.hid c5
      have HST := Lib.hid hst
      have HAL := Lib.hid hall
      have i0' : (0 : Int) ≤ (k : Int) := by omega
      have i1' : (k : Int) < (ng : Int) := by omega
      clear c5 hst hall hkl
      cases q
      · have HF := Lib.hid (show mayC nt nb nm ng ts bs ms gs fr dog = false by rw [HQ2.out, HAL.out rfl]; simp)
        go_wp2_with ((with_reducible go_at_call 31); (with_reducible refine (C5.out _).mono ?_); rintro e w' ⟨rfl, rfl⟩)
        go_ret
        exact ⟨by rw [HF.out]; rfl, bV⟩
      · go_wp2_with ((with_reducible go_at_call 31); (with_reducible refine (C5.out _).mono ?_); rintro e w' ⟨rfl, rfl⟩)
        go_round
        case rel => exact ⟨k + 1, by omega, by go_num, Lib.hid (by rw [HST.out]; rfl)⟩
        case measure => simp [intOf]; omega
    · obtain rfl : ng = k := by omega
      have HQ3 := Lib.hid (show mayC nt nb nm ng ts bs ms gs fr dog = (mayTs nm ng ts nt && bs.all effB) by
        have h0 := HN.out
        rw [List.take_of_length_le (by rw [HGL.out]; omega)] at h0
        rw [HQ2.out, h0]; simp)
      clear HQ2 HN
      obtain ⟨wo, rfl⟩ : ∃ wo : World, wo = w1 := ⟨_, rfl⟩
      have v0 : wo.cell? ⟨w.heap.size, 0, none⟩ = some (.slice A nt ct) := oV.cell 0
      go_wp2
      clear v3
      go_loopw [4] (fun i wr => ∃ k : Nat, k ≤ nt ∧ i = .int .i64 k ∧ Hid (mayTs nm ng ts k = true) ∧ Ext wo wr) (fun i _ => nt - (intOf i).toNat)
      case atStart => exact ⟨0, by omega, rfl, Lib.hid rfl, Ext.refl _⟩
      case round =>
        obtain ⟨i, hi, rfl, HM, q2⟩ := hrel
        clear v0
        have v0 : wr.cell? ⟨w.heap.size, 0, none⟩ = some (.slice A nt ct) := (oV.keep q2).cell 0
        have v2 : wr.cell? ⟨w.heap.size, 2, none⟩ = some (.slice M nm cm) := (oV.keep q2).cell 2
        have v3 : wr.cell? ⟨w.heap.size, 3, none⟩ = some (.slice G ng cg) := (oV.keep q2).cell 3
        by_cases hlt : i < nt
        · have hil : i < ts.length := by rw [HTL.out]; exact hlt
          have bR := Ext.trans bV q2
          obtain ⟨b0, off, rfl, he⟩ := flat_at (k := 8) (HC.out.tasks.keep bR).rd (fun _ _ => rfl) (by omega) hil
          have hok := HC.out.tasks.ok ts[i] (List.getElem_mem hil)
          have hmt := fun w' (hb : Ext wr w') => HMT.out ts[i] w' (hok.keep (Ext.trans bR hb))
          have hbad := fun h => mayTs_bad (nm := nm) (ng := ng) (m := nt) hil hlt h
          have hyes := fun h => mayTs_yes hil HM.out h
          have htw := fun j hj h1 h2 h3 => mayTs_twice (nm := nm) (ng := ng) (j := j) (m := nt) hil hj hlt h1 h2 h3
          have c5 := he 5 _ rfl
          have HXX := Lib.hid (fun (j : Nat) (hj : j < ts.length) => (flat_at (k := 8) (HC.out.tasks.keep bR).rd (fun _ _ => rfl) (by omega) hj))
          generalize ts[i] = x at *
          generalize mayT nm ng x = q at *
          have HMX := Lib.hid hmt
          have HBAD := Lib.hid hbad
          have HYES := Lib.hid hyes
          have HTW := Lib.hid htw
          have HE := Lib.hid he
          have i0' : (0 : Int) ≤ (i : Int) := by omega
          have i1' : (i : Int) < (nt : Int) := by omega
          clear hmt hbad hyes htw he hok hil
          obtain ⟨wp, rfl⟩ : ∃ wp : World, wp = wr := ⟨_, rfl⟩
          go_wp2
          refine wp_region_dep (S := Ext) (C := Ext (wp)) (by kernel_rfl) (by kernel_rfl) rfl Ext.refl (Ext.drew _) ?_
          repeat (refine dep_det (by rfl) (fun K hK => ?_); go_simp; first
            | ((with_reducible refine hK _ ?_); clear hK K)
            | (rw [if_neg (by decide)]; (with_reducible refine hK _ ?_); clear hK K)
            | (refine ⟨_, fun w1 hw1 => ⟨Ext.refl w1, hw1, rfl⟩, hK _ ?_⟩; clear hK K)
            | (apply Exists.intro; refine ⟨fun w1 hw1 => ?_, hK _ ?_⟩
               first
                 | (have c_v0 := cell_keep hw1 v0; go_simp; first | exact ⟨Ext.refl _, hw1, rfl⟩ | exact ⟨Ext.refl _, rfl⟩)
               clear hK K))
          refine dep_load_rd (by rfl) 47 _ rfl (by kernel_rfl) 8 size_task b0 (off + i * 8) (by rfl) [.int .i64 x.cls, .int .i64 x.lvl, .int .i64 x.per, .int .i64 x.ddl, .int .i64 x.bud, .int .i64 x.line, .slice x.U x.un x.uc, .slice x.O x.on x.oc] rfl (by go_simp) Ext.refl (fun w1 hw1 j v hv => cell_keep hw1 (HE.out j v hv)) ?_
          repeat (refine dep_det (by rfl) (fun K hK => ?_); go_simp; first
            | ((with_reducible refine hK _ ?_); clear hK K)
            | (rw [if_neg (by decide)]; (with_reducible refine hK _ ?_); clear hK K)
            | (refine ⟨_, fun w1 hw1 => ⟨Ext.refl w1, hw1, rfl⟩, hK _ ?_⟩; clear hK K)
            | (apply Exists.intro; refine ⟨fun w1 hw1 => ?_, hK _ ?_⟩
               first
                 | (go_at_call 32; ((with_reducible refine (HMX.out _ hw1).mono ?_); rintro e w' ⟨rfl, hb'⟩; exact ⟨_, rfl, hb', Ext.trans hw1 hb', rfl⟩))
                 | (have c_v2 := cell_keep hw1 v2; have c_v3 := cell_keep hw1 v3; go_simp; first | exact ⟨Ext.refl _, hw1, rfl⟩ | exact ⟨Ext.refl _, rfl⟩)
               clear hK K))
          refine dep_nil ?_
          intro a' w' hC hE
          obtain rfl := atEnd_nil hE
          clear hE
          cases q
          · have HF := Lib.hid (show mayC nt nb nm ng ts bs ms gs fr dog = false by rw [HQ3.out, HBAD.out rfl]; rfl)
            go_wp2
            go_ret
            exact ⟨by rw [HF.out]; rfl, Ext.trans bR hC⟩
          have v0' := cell_keep hC v0
          have c5' := cell_keep hC c5
          have bR2 := Ext.trans bR hC
          have q3 := Ext.trans q2 hC
          clear v0 v2 v3 c5
          obtain ⟨wz, rfl⟩ : ∃ wz : World, wz = w' := ⟨_, rfl⟩
          go_wp2
          go_loopw [5] (fun kk wr => ∃ k : Nat, k ≤ i ∧ kk = .int .i64 k ∧ Hid (∀ j (hj : j < ts.length), j < k → ¬ (0 ≤ x.line ∧ ts[j].line = x.line)) ∧ Ext wz wr) (fun kk _ => i - (intOf kk).toNat)
          case atStart => exact ⟨0, by omega, rfl, Lib.hid (fun j hj h => by omega), Ext.refl _⟩
          case round =>
            obtain ⟨k, hk, rfl, HNO, q4⟩ := hrel
            have v0 := cell_keep q4 v0'
            have c5 := cell_keep q4 c5'
            by_cases hlt2 : k < i
            · have hkl : k < ts.length := by rw [HTL.out]; omega
              obtain ⟨b0', off', eA, he'⟩ := HXX.out k hkl
              injection eA with eA
              injection eA with eA1 eA2
              subst eA1
              subst eA2
              have d5 := cell_keep (Ext.trans hC q4) (he' 5 _ rfl)
              have hno2 : ¬ (0 ≤ x.line ∧ ts[k].line = x.line) → ∀ j (hj : j < ts.length), j < k + 1 → ¬ (0 ≤ x.line ∧ ts[j].line = x.line) := fun h j hj hjk => by
                by_cases e : j = k
                · subst e; exact h
                · exact HNO.out j hj (by omega)
              have htw := HTW.out k hkl hlt2
              generalize ts[k] = y at *
              have HNO2 := Lib.hid hno2
              have HTK := Lib.hid htw
              have k0' : (0 : Int) ≤ (k : Int) := by omega
              have k1' : (k : Int) < (nt : Int) := by omega
              have k2' : (k : Int) < (i : Int) := by omega
              clear he' hno2 htw hkl v0' c5'
              by_cases h0 : 0 ≤ x.line
              · have e0 : decide (0 ≤ x.line) = true := by simpa using h0
                by_cases he : y.line = x.line
                · have e1 : (y.line == x.line) = true := by simpa using he
                  have HF := Lib.hid (show mayC nt nb nm ng ts bs ms gs fr dog = false by rw [HQ3.out, HTK.out h0 he]; rfl)
                  clear he
                  go_wp2
                  go_quiet (fail)
                  go_wp2
                  go_ret
                  exact ⟨by rw [HF.out]; rfl, Ext.trans bR2 (Ext.trans q4 (Ext.drewN _ _))⟩
                · have e1 : (y.line == x.line) = false := by simpa using he
                  have HN3 := Lib.hid (HNO2.out (fun h => he h.2))
                  clear he
                  go_wp2
                  go_quiet (fail)
                  go_wp2
                  go_roundw
                  case rel => exact ⟨k + 1, by omega, by go_num, HN3, Ext.trans q4 (Ext.drewN _ _)⟩
                  case measure => simp [intOf]; omega
              · have e0 : decide (0 ≤ x.line) = false := by simpa using h0
                have HN3 := Lib.hid (HNO2.out (fun h => h0 h.1))
                go_wp2
                go_quiet (fail)
                go_wp2
                go_roundw
                case rel => exact ⟨k + 1, by omega, by go_num, HN3, Ext.trans q4 (Ext.drewN _ _)⟩
                case measure => simp [intOf]; omega
            · obtain rfl : i = k := by omega
              have HM2 := Lib.hid (HYES.out (by trivial) HNO.out)
              go_wp2
              go_roundw
              case rel => exact ⟨i + 1, by omega, by go_num, HM2, Ext.trans q3 q4⟩
              case measure => simp [intOf]; omega
        · obtain rfl : nt = i := by omega
          have HQ4 := Lib.hid (show mayC nt nb nm ng ts bs ms gs fr dog = bs.all effB by rw [HQ3.out, HM.out]; rfl)
          have bR := Ext.trans bV q2
          have v1 : wr.cell? ⟨w.heap.size, 1, none⟩ = some (.slice B nb cb) := (oV.keep q2).cell 1
          clear HQ3 HM HMT v2 v3
          obtain ⟨wp, rfl⟩ : ∃ wp : World, wp = wr := ⟨_, rfl⟩
          go_wp2
          go_loop [6] (fun i => ∃ k : Nat, k ≤ nb ∧ i = .int .i64 k ∧ Hid ((bs.take k).all effB = true)) (fun i => nb - (intOf i).toNat)
          case atStart => exact ⟨0, by omega, rfl, Lib.hid rfl⟩
          case round =>
            obtain ⟨k, hk, rfl, HN⟩ := hrel
            by_cases hlt2 : k < nb
            · have hkl : k < bs.length := by rw [HBL.out]; exact hlt2
              obtain ⟨b1, off1, rfl, he⟩ := flat_at (k := 2) (HC.out.best.keep bR).rd (fun _ _ => rfl) (by omega) hkl
              have e0 := he 0 _ rfl
              rw [Nat.add_zero] at e0
              have e1 := he 1 _ rfl
              have hst : (bs.take (k + 1)).all effB = (inB bs[k].lvl 0 15 && decide (bs[k].on ≤ 40)) := by
                rw [take_succ' bs k hkl, List.all_append, HN.out]
                simp [effB]
              have hall : (inB bs[k].lvl 0 15 && decide (bs[k].on ≤ 40)) = false → bs.all effB = false := fun h => by
                rw [List.all_eq_false]
                exact ⟨bs[k], List.getElem_mem hkl, by unfold effB; rw [h]; simp⟩
              have c5 := fun w => r_in bs[k].lvl 0 15 w
              generalize bs[k] = u at *
              generalize inB u.lvl 0 15 = q at *
              have C5 := Lib.hid c5
              have HST := Lib.hid hst
              have HAL := Lib.hid hall
              have i0' : (0 : Int) ≤ (k : Int) := by omega
              have i1' : (k : Int) < (nb : Int) := by omega
              clear c5 hst hall hkl he
              cases q
              · have HF := Lib.hid (show mayC nt nb nm ng ts bs ms gs fr dog = false by rw [HQ4.out, HAL.out (by simp)])
                go_wp2_with ((with_reducible go_at_call 31); (with_reducible refine (C5.out _).mono ?_); rintro e w' ⟨rfl, rfl⟩)
                go_ret
                exact ⟨by rw [HF.out]; rfl, bR⟩
              · by_cases h40 : (40 : Int) < (u.on : Int)
                · have HF := Lib.hid (show mayC nt nb nm ng ts bs ms gs fr dog = false by rw [HQ4.out, HAL.out (by simp; omega)])
                  go_wp2_with ((with_reducible go_at_call 31); (with_reducible refine (C5.out _).mono ?_); rintro e w' ⟨rfl, rfl⟩)
                  go_ret
                  exact ⟨by rw [HF.out]; rfl, bR⟩
                · have HN3 := Lib.hid (show (bs.take (k + 1)).all effB = true by rw [HST.out]; simp; omega)
                  go_wp2_with ((with_reducible go_at_call 31); (with_reducible refine (C5.out _).mono ?_); rintro e w' ⟨rfl, rfl⟩)
                  go_round
                  case rel => exact ⟨k + 1, by omega, by go_num, HN3⟩
                  case measure => simp [intOf]; omega
            · obtain rfl : nb = k := by omega
              have HF := Lib.hid (show mayC nt nb nm ng ts bs ms gs fr dog = true by
                have h0 := HN.out
                rw [List.take_of_length_le (by rw [HBL.out]; omega)] at h0
                rw [HQ4.out, h0])
              go_wp2
              go_ret
              exact ⟨by rw [HF.out]; rfl, bR⟩

end Go.Proofs.Ytdninhdabeddeaa
