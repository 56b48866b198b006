/-
  WALKS of chapter 18's reference: is, counts, Blocking, Parts.
-/
import Derived.Test.YtdninhdabeddeaaRefG
namespace Go.Proofs.Ytdninhdabeddeaa
open Go.RowKit
attribute [local go_sem] depUpon Sp.ok readsTo

set_option maxRecDepth 100000 in
set_option maxHeartbeats 2000000 in
theorem r_is18 (A : Option Addr) (nt ct : Nat) (ts : List TK) (B : Option Addr) (nb cb : Nat) (bs : List EF) (M : Option Addr) (nm cm : Nat) (ms : List (Int × Int)) (G : Option Addr) (ng cg : Nat) (gs : List Int) (fr dog : Int) (i : Int) (w : World) (h : ConfArg w A nt ts B nb bs M nm ms G ng gs fr dog) (h12 : nm ≤ 65536) :
    Calls Try.prog 39 #[.agg #[.slice A nt ct, .slice B nb cb, .slice M nm cm, .slice G ng cg, .int .i64 fr, .int .i64 dog], .int .i64 i] w fun e w' => e = .returned (.bool (mayC nt nb nm ng ts bs ms gs fr dog && inB i 0 ((nt : Int) - 1))) ∧ Below w.heap.size w w' := by
  have HM := Lib.hid (fun w' (h' : Ext w w') => r_may A nt ct ts B nb cb bs M nm cm ms G ng cg gs fr dog w' (h.keep h') h12)
  have oV := Own.new w 27 [.slice A nt ct, .slice B nb cb, .slice M nm cm, .slice G ng cg, .int .i64 fr, .int .i64 dog]
  have bV : Ext w (w.alloc (.cells #[.slice A nt ct, .slice B nb cb, .slice M nm cm, .slice G ng cg, .int .i64 fr, .int .i64 dog] 27)) := Ext.alloc _ _
  clear h h12
  have hc := fun w => r_in i 0 ((nt : Int) - 1) w
  cases hm : mayC nt nb nm ng ts bs ms gs fr dog
  · rw [hm] at HM
    clear hm hc
    go_enter Try.func39, Try.ntmps39
    go_wp2_with (refine wpl_load_w _ ?_ 27 _ rfl (by kernel_rfl) 6 size_conf _ rfl _ _ oV rfl ?_; focus (go_simp; done))
    refine (HM.out _ bV).mono ?_
    rintro e w1 ⟨rfl, b1⟩
    go_wp2
    go_ret
    exact ⟨by rw [Bool.false_and]; rfl, Ext.trans bV b1⟩
  · obtain ⟨n8, _⟩ := may_conf hm
    have hk : IntKind.i64.wrap ((nt : Int) - 1) = (nt : Int) - 1 := IntWalk.i64_in _ ⟨by omega, by omega⟩
    rw [hm] at HM
    clear hm
    generalize inB i 0 ((nt : Int) - 1) = q at *
    have HC := Lib.hid hc
    clear hc
    go_enter Try.func39, Try.ntmps39
    go_wp2_with (refine wpl_load_w _ ?_ 27 _ rfl (by kernel_rfl) 6 size_conf _ rfl _ _ oV rfl ?_; focus (go_simp; done))
    refine (HM.out _ bV).mono ?_
    rintro e w1 ⟨rfl, b1⟩
    have v0 : w1.cell? ⟨w.heap.size, 0, none⟩ = some (.slice A nt ct) := (oV.keep b1).cell 0
    cases q
    all_goals
      go_wp2_with ((with_reducible go_at_call 31); (with_reducible refine (HC.out _).mono ?_); rintro e w' ⟨rfl, rfl⟩)
      go_ret
      exact ⟨rfl, Ext.trans bV b1⟩
theorem r_is_yes (A : Option Addr) (nt ct : Nat) (ts : List TK) (B : Option Addr) (nb cb : Nat) (bs : List EF) (M : Option Addr) (nm cm : Nat) (ms : List (Int × Int)) (G : Option Addr) (ng cg : Nat) (gs : List Int) (fr dog : Int) (k : Nat) (w : World) (h : ConfArg w A nt ts B nb bs M nm ms G ng gs fr dog) (hk : k < ts.length) (hm : mayC nt nb nm ng ts bs ms gs fr dog = true) (h12 : nm ≤ 65536) :
    Calls Try.prog 39 #[.agg #[.slice A nt ct, .slice B nb cb, .slice M nm cm, .slice G ng cg, .int .i64 fr, .int .i64 dog], .int .i64 (k : Int)] w fun e w' => e = .returned (.bool true) ∧ Below w.heap.size w w' := by
  have hr := r_is18 A nt ct ts B nb cb bs M nm cm ms G ng cg gs fr dog (k : Int) w h h12
  have hl := h.tasks.len
  rw [hm, show inB (k : Int) 0 ((nt : Int) - 1) = true by unfold inB; simp; omega] at hr
  exact hr
theorem r_is_no (A : Option Addr) (nt ct : Nat) (ts : List TK) (B : Option Addr) (nb cb : Nat) (bs : List EF) (M : Option Addr) (nm cm : Nat) (ms : List (Int × Int)) (G : Option Addr) (ng cg : Nat) (gs : List Int) (fr dog : Int) (i : Int) (w : World) (h : ConfArg w A nt ts B nb bs M nm ms G ng gs fr dog) (hno : ¬ (0 ≤ i ∧ i < (nt : Int) ∧ mayC nt nb nm ng ts bs ms gs fr dog = true)) (h12 : nm ≤ 65536) :
    Calls Try.prog 39 #[.agg #[.slice A nt ct, .slice B nb cb, .slice M nm cm, .slice G ng cg, .int .i64 fr, .int .i64 dog], .int .i64 i] w fun e w' => e = .returned (.bool false) ∧ Below w.heap.size w w' := by
  have hr := r_is18 A nt ct ts B nb cb bs M nm cm ms G ng cg gs fr dog i w h h12
  have e : (mayC nt nb nm ng ts bs ms gs fr dog && inB i 0 ((nt : Int) - 1)) = false := by
    cases hm : mayC nt nb nm ng ts bs ms gs fr dog
    · rfl
    · rw [Bool.true_and]
      unfold inB
      simp only [decide_eq_false_iff_not]
      exact fun ⟨a, b⟩ => hno ⟨a, by omega, hm⟩
  rw [e] at hr
  exact hr

set_option maxRecDepth 100000 in
set_option maxHeartbeats 2000000 in
theorem r_counts (A : Option Addr) (nt ct : Nat) (ts : List TK) (B : Option Addr) (nb cb : Nat) (bs : List EF) (M : Option Addr) (nm cm : Nat) (ms : List (Int × Int)) (G : Option Addr) (ng cg : Nat) (gs : List Int) (fr dog : Int) (i k : Nat) (x y : TK) (w : World) (h : ConfArg w A nt ts B nb bs M nm ms G ng gs fr dog) (hi : i < ts.length) (hk : k < ts.length) (hx : ts[i] = x) (hy : ts[k] = y) (hcl : x.cls = 1 ∨ x.cls = 2) (_ : nt ≤ 65536) :
    Calls Try.prog 40 #[.agg #[.slice A nt ct, .slice B nb cb, .slice M nm cm, .slice G ng cg, .int .i64 fr, .int .i64 dog], .int .i64 (i : Int), .int .i64 (k : Int)] w fun e w' => e = .returned (.bool (cntB x y)) ∧ Below w.heap.size w w' := by
  have oV := Own.new w 27 [.slice A nt ct, .slice B nb cb, .slice M nm cm, .slice G ng cg, .int .i64 fr, .int .i64 dog]
  have bV : Ext w (w.alloc (.cells #[.slice A nt ct, .slice B nb cb, .slice M nm cm, .slice G ng cg, .int .i64 fr, .int .i64 dog] 27)) := Ext.alloc _ _
  have hTL := h.tasks.len
  obtain ⟨b0, off, rfl, he⟩ := flat_at (k := 8) (h.tasks.keep bV).rd (fun _ _ => rfl) (by omega) hi
  obtain ⟨b0', off', eA, he'⟩ := flat_at (k := 8) (h.tasks.keep bV).rd (fun _ _ => rfl) (by omega) hk
  injection eA with eA
  injection eA with eA1 eA2
  subst eA1
  subst eA2
  rw [hx] at he
  rw [hy] at he'
  have HE := Lib.hid he
  have HE' := Lib.hid he'
  have i0' : (0 : Int) ≤ (i : Int) := by omega
  have i1' : (i : Int) < (nt : Int) := by omega
  have k0' : (0 : Int) ≤ (k : Int) := by omega
  have k1' : (k : Int) < (nt : Int) := by omega
  have v0 : (w.alloc (.cells #[.slice (some ⟨b0, off, none⟩) nt ct, .slice B nb cb, .slice M nm cm, .slice G ng cg, .int .i64 fr, .int .i64 dog] 27)).cell? ⟨w.heap.size, 0, none⟩ = some (.slice (some ⟨b0, off, none⟩) nt ct) := oV.cell 0
  clear h hx hy hi hk he he' hTL oV
  go_enter Try.func40, Try.ntmps40
  go_upto_region 1 with fail
  generalize w.alloc (.cells #[.slice (some ⟨b0, off, none⟩) nt ct, .slice B nb cb, .slice M nm cm, .slice G ng cg, .int .i64 fr, .int .i64 dog] 27) = wv at *
  refine wp_region_two 13 10 11 12 7 8 47 [.int .i64 0, .int .i64 0, .int .i64 0, .int .i64 0, .int .i64 0, .int .i64 0, .slice none 0 0, .slice none 0 0] [.int .i64 x.cls, .int .i64 x.lvl, .int .i64 x.per, .int .i64 x.ddl, .int .i64 x.bud, .int .i64 x.line, .slice x.U x.un x.uc, .slice x.O x.on x.oc] (by kernel_rfl) (by kernel_rfl) (by kernel_rfl) rfl ?_
  repeat (refine two_read (by rfl) (by decide) (fun K hK => ?_); go_simp; first
    | (refine ⟨_, fun w1 hw1 => ⟨rfl, rfl⟩, hK _ ?_⟩; clear hK K)
    | (apply Exists.intro
       refine ⟨fun w1 hw1 => ?_, hK _ ?_⟩
       · have c_1 := cell_keep hw1 v0
         go_simp
         first | done | exact ⟨rfl, rfl⟩ | rfl
       clear hK K))
  refine two_load_rd (by rfl) (by decide) 47 _ rfl b0 (off + i * 8) (by rfl) [.int .i64 x.cls, .int .i64 x.lvl, .int .i64 x.per, .int .i64 x.ddl, .int .i64 x.bud, .int .i64 x.line, .slice x.U x.un x.uc, .slice x.O x.on x.oc] (by go_simp) (fun w1 hw1 => run_load_rd w1 47 (by kernel_rfl) 8 size_task b0 (off + i * 8) _ rfl (fun j v hv => cell_keep hw1 (HE.out j v hv))) ?_
  repeat (refine two_read (by rfl) (by decide) (fun K hK => ?_); go_simp; first
    | (refine ⟨_, fun w1 hw1 => ⟨rfl, rfl⟩, hK _ ?_⟩; clear hK K)
    | (apply Exists.intro
       refine ⟨fun w1 hw1 => ?_, hK _ ?_⟩
       · have c_1 := cell_keep hw1 v0
         go_simp
         first | done | exact ⟨rfl, rfl⟩ | rfl
       clear hK K))
  refine two_load_rd (by rfl) (by decide) 47 _ rfl b0 (off + k * 8) (by rfl) [.int .i64 y.cls, .int .i64 y.lvl, .int .i64 y.per, .int .i64 y.ddl, .int .i64 y.bud, .int .i64 y.line, .slice y.U y.un y.uc, .slice y.O y.on y.oc] (by go_simp) (fun w1 hw1 => run_load_rd w1 47 (by kernel_rfl) 8 size_task b0 (off + k * 8) _ rfl (fun j v hv => cell_keep hw1 (HE'.out j v hv))) ?_
  refine two_alloc (by rfl) (by decide) rfl rfl ztk zero_task rfl rfl 7 rfl ?_
  refine two_alloc (by rfl) (by decide) rfl rfl ztk zero_task rfl rfl 8 rfl ?_
  refine two_store 13 (by rfl) (by decide) rfl rfl (by decide) (by intro V' h; simpa using h) (by simp) (by first | (simp; done) | simp [Act.put]) 8 size_task (by rfl) rfl rfl (TK.one x) rfl ?_
  intro a' w' g1 g2 hC e1 e2 hne hb1 hb2 o1 o2 hE
  obtain ⟨v, ⟨h2, rfl, _⟩, hE⟩ := atEnd_cons hE (by simp) (by first | (simp; done) | simp [Act.put])
  obtain ⟨v, ⟨h1, rfl, _⟩, hE⟩ := atEnd_cons hE (by simp) (by first | (simp; done) | simp [Act.put])
  obtain rfl := atEnd_nil hE
  obtain rfl : h1 = g1 := ptr_inj (by simpa [Act.put] using e1)
  obtain rfl : h2 = g2 := ptr_inj (by simpa [Act.put] using e2)
  clear hE e1 e2
  unfold ptr
  refine wpl_store_own _ rfl 47 _ _ rfl 8 size_task _ rfl [.int .i64 y.cls, .int .i64 y.lvl, .int .i64 y.per, .int .i64 y.ddl, .int .i64 y.bud, .int .i64 y.line, .slice y.U y.un y.uc, .slice y.O y.on y.oc] rfl _ _ o2 rfl rfl (TK.one y) ?_
  intro w5 o5 g5 s5
  have o1' := o1.grown g5 (by intro q; injection q with q; exact hne q)
  have e5 := below_grown hC g5 hC.size (fun j hj => by injection hj with hj; omega)
  have e6 := Ext.trans bV e5
  have dx0 : w5.cell? ⟨h1, 0, none⟩ = some (.int .i64 x.cls) := o1'.cell 0
  have dx1 : w5.cell? ⟨h1, 1, none⟩ = some (.int .i64 x.lvl) := o1'.cell 1
  have dy0 : w5.cell? ⟨h2, 0, none⟩ = some (.int .i64 y.cls) := o5.cell 0
  have dy1 : w5.cell? ⟨h2, 1, none⟩ = some (.int .i64 y.lvl) := o5.cell 1
  clear o1 o2 o1' o5 g5 s5 hb1 hb2 hne hC e5 v0 HE HE' bV
  rcases hcl with hx1 | hx2
  · have tx : (x.cls == 1) = true := by simp [hx1]
    have HQ := Lib.hid (cnt_early (y := y) hx1)
    clear hx1
    go_wp2
    go_ret
    exact ⟨by rw [HQ.out]; rfl, e6⟩
  · have tx : (x.cls == 1) = false := by simp [hx2]
    have hq := cnt_fixed (y := y) hx2
    clear hx2
    by_cases hy2 : y.cls = 2
    · have ty : (y.cls == 2) = true := by simp [hy2]
      rw [show decide (y.cls = 2) = true by simp [hy2], Bool.true_and] at hq
      have HQ := Lib.hid hq
      clear hy2 hq
      go_wp2
      go_ret
      exact ⟨by rw [HQ.out]; rfl, e6⟩
    · have ty : (y.cls == 2) = false := by simp [hy2]
      have HQ := Lib.hid (show cntB x y = false by rw [hq]; simp [hy2])
      clear hy2 hq
      go_wp2
      go_ret
      exact ⟨by rw [HQ.out]; rfl, e6⟩

set_option maxRecDepth 100000 in
set_option maxHeartbeats 1000000 in
theorem r_block_no (A : Option Addr) (nt ct : Nat) (ts : List TK) (B : Option Addr) (nb cb : Nat) (bs : List EF) (M : Option Addr) (nm cm : Nat) (ms : List (Int × Int)) (G : Option Addr) (ng cg : Nat) (gs : List Int) (fr dog : Int) (i : Int) (w : World) (h : ConfArg w A nt ts B nb bs M nm ms G ng gs fr dog) (hno : ¬ (0 ≤ i ∧ i < (nt : Int) ∧ mayC nt nb nm ng ts bs ms gs fr dog = true)) (h12 : nm ≤ 65536) :
    Calls Try.prog 13 #[.agg #[.slice A nt ct, .slice B nb cb, .slice M nm cm, .slice G ng cg, .int .i64 fr, .int .i64 dog], .int .i64 i] w fun e w' => e = .returned (.int .i64 0) ∧ Below w.heap.size w w' := by
  have HT := Lib.hid (fun w' (h' : Ext w w') => r_is_no A nt ct ts B nb cb bs M nm cm ms G ng cg gs fr dog i w' (h.keep h') hno h12)
  have oV := Own.new w 27 [.slice A nt ct, .slice B nb cb, .slice M nm cm, .slice G ng cg, .int .i64 fr, .int .i64 dog]
  have bV : Ext w (w.alloc (.cells #[.slice A nt ct, .slice B nb cb, .slice M nm cm, .slice G ng cg, .int .i64 fr, .int .i64 dog] 27)) := Ext.alloc _ _
  clear h hno h12
  go_enter Try.func13, Try.ntmps13
  go_wp2_with (refine wpl_load_w _ ?_ 27 _ rfl (by kernel_rfl) 6 size_conf _ rfl _ _ oV rfl ?_; focus (go_simp; done))
  refine (HT.out _ bV).mono ?_
  rintro e w3 ⟨rfl, b3⟩
  go_wp2
  go_ret
  exact ⟨rfl, Ext.trans bV b3⟩

set_option maxRecDepth 100000 in
set_option maxHeartbeats 1000000 in
theorem r_parts_no (A : Option Addr) (nt ct : Nat) (ts : List TK) (B : Option Addr) (nb cb : Nat) (bs : List EF) (M : Option Addr) (nm cm : Nat) (ms : List (Int × Int)) (G : Option Addr) (ng cg : Nat) (gs : List Int) (fr dog : Int) (i : Int) (w : World) (h : ConfArg w A nt ts B nb bs M nm ms G ng gs fr dog) (hno : ¬ (0 ≤ i ∧ i < (nt : Int) ∧ mayC nt nb nm ng ts bs ms gs fr dog = true)) (h12 : nm ≤ 65536) :
    Calls Try.prog 15 #[.agg #[.slice A nt ct, .slice B nb cb, .slice M nm cm, .slice G ng cg, .int .i64 fr, .int .i64 dog], .int .i64 i] w fun e w' => e = .returned (.slice none 0 0) ∧ Below w.heap.size w w' := by
  have HT := Lib.hid (fun w' (h' : Ext w w') => r_is_no A nt ct ts B nb cb bs M nm cm ms G ng cg gs fr dog i w' (h.keep h') hno h12)
  have oV := Own.new w 27 [.slice A nt ct, .slice B nb cb, .slice M nm cm, .slice G ng cg, .int .i64 fr, .int .i64 dog]
  have bV : Ext w (w.alloc (.cells #[.slice A nt ct, .slice B nb cb, .slice M nm cm, .slice G ng cg, .int .i64 fr, .int .i64 dog] 27)) := Ext.alloc _ _
  clear h hno h12
  go_enter Try.func15, Try.ntmps15
  go_wp2_with (refine wpl_load_w _ ?_ 27 _ rfl (by kernel_rfl) 6 size_conf _ rfl _ _ oV rfl ?_; focus (go_simp; done))
  refine (HT.out _ bV).mono ?_
  rintro e w3 ⟨rfl, b3⟩
  go_wp2
  go_ret
  exact ⟨rfl, Ext.trans bV b3⟩

set_option maxRecDepth 100000 in
set_option maxHeartbeats 4000000 in
theorem r_block_yes (A : Option Addr) (nt ct : Nat) (ts : List TK) (B : Option Addr) (nb cb : Nat) (bs : List EF) (M : Option Addr) (nm cm : Nat) (ms : List (Int × Int)) (G : Option Addr) (ng cg : Nat) (gs : List Int) (fr dog : Int) (k : Nat) (x : TK) (w : World) (h : ConfArg w A nt ts B nb bs M nm ms G ng gs fr dog) (hk : k < ts.length) (hx : ts[k] = x) (hm : mayC nt nb nm ng ts bs ms gs fr dog = true) (h12 : nm ≤ 65536) :
    Calls Try.prog 13 #[.agg #[.slice A nt ct, .slice B nb cb, .slice M nm cm, .slice G ng cg, .int .i64 fr, .int .i64 dog], .int .i64 (k : Int)] w fun e w' => e = .returned (.int .i64 (blkV ts ms x)) ∧ Below w.heap.size w w' := by
  obtain ⟨n8, _, _, hok, hmt, _, _⟩ := may_conf hm
  have hTL := h.tasks.len
  have hun : ∀ y ∈ ts, y.us.length ≤ 6 := fun y hy => by
    obtain ⟨j, hj, rfl⟩ := List.getElem_of_mem hy
    rw [(h.tasks.ok _ (List.getElem_mem hj)).us.len]
    exact mayT_un (may_task hmt hj (by omega))
  have hcl : x.cls = 1 ∨ x.cls = 2 := by rw [← hx]; exact mayT_cls (may_task hmt hk (by omega))
  have HT := Lib.hid (fun w' (h' : Ext w w') => r_is_yes A nt ct ts B nb cb bs M nm cm ms G ng cg gs fr dog k w' (h.keep h') hk hm h12)
  have HCN := Lib.hid (fun (j : Nat) (hj : j < ts.length) w' (h' : Ext w w') => r_counts A nt ct ts B nb cb bs M nm cm ms G ng cg gs fr dog k j x ts[j] w' (h.keep h') hk hj hx rfl hcl (by omega))
  have HC := Lib.hid h.tasks
  have HMX := Lib.hid h.mtx
  have HB := Lib.hid (show blkV ts ms x = if (rleast ms (usesOf ts (someL (cntB x) ts))).2 = true then nsum [11, rsum (rleast ms (usesOf ts (someL (cntB x) ts))).1 ms] else 11 from rfl)
  have HUL := Lib.hid (fun L => usesOf_len hun L)
  have HSA := Lib.hid (fun r => sum_all hok (r := r) (r' := r) (Int.le_refl _))
  have HLS := Lib.hid (fun R c1 U w' (h' : Ext w w') (hl : U.length ≤ 65536) (hr : Rd w' R (ints U)) => r_least M nm cm ms R U.length c1 U w' h12 (h.mtx.rd.keep h') h.mtx.len hl hr rfl hok)
  have HSM := Lib.hid (fun r w' (h' : Ext w w') => r_sum M nm cm ms r w' h12 (h.mtx.rd.keep h') h.mtx.len)
  have oV := Own.new w 27 [.slice A nt ct, .slice B nb cb, .slice M nm cm, .slice G ng cg, .int .i64 fr, .int .i64 dog]
  have bV : Ext w (w.alloc (.cells #[.slice A nt ct, .slice B nb cb, .slice M nm cm, .slice G ng cg, .int .i64 fr, .int .i64 dog] 27)) := Ext.alloc _ _
  obtain ⟨i0, hi, hz0, hz1, hz2⟩ := info_parts info_int
  have HI := Lib.hid hi
  clear h hm h12 hx hk hun hok hmt hi hcl
  go_enter Try.func13, Try.ntmps13
  go_wp2_with (refine wpl_load_w _ ?_ 27 _ rfl (by kernel_rfl) 6 size_conf _ rfl _ _ oV rfl ?_; focus (go_simp; done))
  refine (HT.out _ bV).mono ?_
  rintro e w3 ⟨rfl, b3⟩
  replace bV := Ext.trans bV b3
  replace oV := oV.keep b3
  have v0 : w3.cell? ⟨w.heap.size, 0, none⟩ = some (.slice A nt ct) := oV.cell 0
  go_wp2
  go_loopw [5, 6] (fun v q wr => ∃ (j : Nat) (R : Option Addr) (c1 : Nat), v = .slice R (usesOf ts (someT (cntB x) ts j)).length c1 ∧ q = .int .i64 j ∧ j ≤ nt ∧ Row wr w3.heap.size 3 1 R (usesOf ts (someT (cntB x) ts j)).length c1 (ints (usesOf ts (someT (cntB x) ts j))) ∧ Ext w3 wr) (fun _ q _ => nt - (intOf q).toNat)
  case atStart => exact ⟨0, none, 0, rfl, rfl, by omega, Row.nil _ _ _ _, Ext.refl _⟩
  case round =>
    obtain ⟨j, R, c1, rfl, rfl, hj, q1, q2⟩ := hrel
    clear v0
    have v0 : wr.cell? ⟨w.heap.size, 0, none⟩ = some (.slice A nt ct) := (oV.keep q2).cell 0
    have oW := oV.keep q2
    by_cases hlt : j < nt
    · have hjl : j < ts.length := by omega
      have hcn := HCN.out j hjl _ (Ext.trans bV q2)
      have hy := HC.out.ok _ (List.getElem_mem hjl)
      have hsy := someT_yes (f := cntB x) hjl
      have hsn := someT_no (f := cntB x) hjl
      have hus := usesOf_snoc (ts := ts) (someT (cntB x) ts j) hjl
      obtain ⟨b0, off, rfl, he⟩ := flat_at (k := 8) (HC.out.keep (Ext.trans bV q2)).rd (fun _ _ => rfl) (by omega) hjl
      have c6 := he 6 _ rfl
      have hyr := hy.us.rd.keep (Ext.trans bV q2)
      have hyl := hy.us.len
      have hl1 := HUL.out (someT (cntB x) ts (j + 1))
      have hl2 := someT_len (cntB x) ts (j + 1)
      generalize ts[j].us = us at *
      generalize ts[j].U = U at *
      generalize ts[j].un = un at *
      generalize ts[j].uc = uc at *
      generalize cntB x ts[j] = q at *
      generalize hU1 : someT (cntB x) ts (j + 1) = S1 at *
      generalize someT (cntB x) ts j = S0 at *
      have HCC := Lib.hid hcn
      have HU1 := Lib.hid hU1
      have j0' : (0 : Int) ≤ (j : Int) := by omega
      have j1' : (j : Int) < (nt : Int) := by omega
      clear he hy hcn hU1
      cases q
      · have hE : S1 = S0 := by first | exact hsn rfl | (simp at hsn; exact hsn)
        have HE := Lib.hid hE
        clear hsy hsn hus hE hl1 hl2
        go_wp2_with (refine wpl_load_w _ ?_ 27 _ rfl (by kernel_rfl) 6 size_conf _ rfl _ _ oW rfl ?_; focus (go_simp; done))
        refine HCC.out.mono ?_
        rintro e w5 ⟨rfl, b5⟩
        go_wp2
        go_roundw
        case rel => exact ⟨j + 1, R, c1, by rw [HU1.out, HE.out], by go_num, by omega, by rw [HU1.out, HE.out]; exact q1.keep b5, Ext.trans q2 b5⟩
        case measure => simp [intOf]; omega
      · have hE : S1 = S0 ++ [(j : Int)] := by first | exact hsy rfl | (simp at hsy; exact hsy)
        rw [← hE] at hus
        clear hsy hsn hE
        generalize hUU1 : usesOf ts S1 = U1 at *
        generalize usesOf ts S0 = U0 at *
        have HUU := Lib.hid hUU1
        have HLEN := Lib.hid (show U0.length + un = U1.length by rw [hus, List.length_append, hyl])
        have HUN := Lib.hid (show (ints us).length = un * 1 by simp [ints, hyl])
        have HAP := Lib.hid (show ints U0 ++ ints us = ints U1 by rw [hus]; exact ints_app' _ _)
        have hb48 : U1.length ≤ 65536 := by omega
        clear hUU1 hus hyl hl1 hl2
        go_wp2_with (refine wpl_load_w _ ?_ 27 _ rfl (by kernel_rfl) 6 size_conf _ rfl _ _ oW rfl ?_; focus (go_simp; done))
        refine HCC.out.mono ?_
        rintro e w5 ⟨rfl, b5⟩
        have v0' := cell_keep b5 v0
        have c6' := cell_keep b5 c6
        have q1' := q1.keep b5
        have q2' := Ext.trans q2 b5
        have hyr' := hyr.keep b5
        clear v0 c6 q1 q2 hyr oW b5
        go_wp2_with (at_builtin; refine wpl_append _ rfl (.tmp 25) (.tmp 31) 25 rfl 3 i0 _ 1 8 Try.underlying25 HI.out hz0 hz1 hz2 rfl (by omega) w3.heap.size R U0.length c1 _ rfl q1' U un uc (ints us) rfl HUN.out hyr' (ints_one _) U1.length _ HLEN.out HAP.out (by omega) (by omega) q2'.size ?_; intro A2 c2 w6 o6 g6 k6)
        have e6 := below_grown q2' g6 q2'.size (fun g' hg' => (q1'.at_ g' hg').1)
        go_roundw
        case rel => exact ⟨j + 1, A2, c2, by rw [HU1.out, HUU.out], by go_num, by omega, by rw [HU1.out, HUU.out]; exact o6, e6⟩
        case measure => simp [intOf]; omega
    · obtain rfl : nt = j := by omega
      have hSL : someT (cntB x) ts nt = someL (cntB x) ts := by unfold someL; rw [hTL]
      rw [hSL] at q1 ⊢
      have hl1 := HUL.out (someL (cntB x) ts)
      have hl2 := someT_len (cntB x) ts ts.length
      have hl3 : (someL (cntB x) ts).length ≤ 8 := by unfold someL; omega
      generalize usesOf ts (someL (cntB x) ts) = U at *
      have e7 := Ext.trans bV q2
      have v2 : wr.cell? ⟨w.heap.size, 2, none⟩ = some (.slice M nm cm) := oW.cell 2
      have hls := fun h => HLS.out R c1 U wr e7 h q1.rd
      have hsa := HSA.out (rleast ms U).1
      have hsm := fun w' h' => HSM.out (rleast ms U).1 w' h'
      generalize rleast ms U = rl at *
      obtain ⟨r, b⟩ := rl
      simp only at hsa hsm
      have HLE := Lib.hid (hls (by omega))
      have HSU := Lib.hid hsm
      obtain ⟨s1, s2, s3, s4, s5⟩ := hsa
      have HNS := Lib.hid (nsum2_small (a := 11) (b := rsum r ms) (by omega) (by omega) (by omega) (by omega))
      have hk1 : IntKind.i64.wrap (11 + rsum r ms) = 11 + rsum r ms := IntWalk.i64_in _ ⟨by omega, by omega⟩
      clear hls hsm hl1 hl2 hl3 hSL s2
      generalize rsum r ms = rs at *
      cases b
      · go_wp2_with fail
        refine HLE.out.mono ?_
        rintro e w8 ⟨rfl, b8⟩
        go_wp2
        go_ret
        exact ⟨by rw [HB.out]; rfl, Ext.trans e7 b8⟩
      · go_wp2_with fail
        refine HLE.out.mono ?_
        rintro e w8 ⟨rfl, b8⟩
        have v2' := cell_keep b8 v2
        have e8 := Ext.trans e7 b8
        clear v2 v0
        go_wp2_with ((with_reducible go_at_call 42); (with_reducible refine (HSU.out _ e8).mono ?_); rintro e w9 ⟨rfl, b9⟩)
        go_ret
        have hb : blkV ts ms x = 11 + rs := by rw [HB.out]; exact (if_pos trivial).trans HNS.out
        exact ⟨by rw [hb]; rfl, Ext.trans e8 b9⟩

set_option maxRecDepth 100000 in
set_option maxHeartbeats 4000000 in
theorem r_parts_yes (A : Option Addr) (nt ct : Nat) (ts : List TK) (B : Option Addr) (nb cb : Nat) (bs : List EF) (M : Option Addr) (nm cm : Nat) (ms : List (Int × Int)) (G : Option Addr) (ng cg : Nat) (gs : List Int) (fr dog : Int) (k : Nat) (x : TK) (w : World) (h : ConfArg w A nt ts B nb bs M nm ms G ng gs fr dog) (hk : k < ts.length) (hx : ts[k] = x) (hm : mayC nt nb nm ng ts bs ms gs fr dog = true) (h12 : nm ≤ 65536) :
    Calls Try.prog 15 #[.agg #[.slice A nt ct, .slice B nb cb, .slice M nm cm, .slice G ng cg, .int .i64 fr, .int .i64 dog], .int .i64 (k : Int)] w fun e w' => ∃ S c', e = .returned (.slice S (partsV ts gs (k : Int) x).length c') ∧ Rd w' S (pairs (partsV ts gs (k : Int) x)) ∧ Below w.heap.size w w' := by
  obtain ⟨n8, _, n4, _, hmt, _, _⟩ := may_conf hm
  have hTL := h.tasks.len
  have hGL := h.gaps.len
  have hcl : x.cls = 1 ∨ x.cls = 2 := by rw [← hx]; exact mayT_cls (may_task hmt hk (by omega))
  have HT := Lib.hid (fun w' (h' : Ext w w') => r_is_yes A nt ct ts B nb cb bs M nm cm ms G ng cg gs fr dog k w' (h.keep h') hk hm h12)
  have HCN := Lib.hid (fun (j : Nat) (hj : j < ts.length) w' (h' : Ext w w') => r_counts A nt ct ts B nb cb bs M nm cm ms G ng cg gs fr dog k j x ts[j] w' (h.keep h') hk hj hx rfl hcl (by omega))
  have HC := Lib.hid h.tasks
  have HG := Lib.hid h.gaps
  have HV := Lib.hid (show partsV ts gs (k : Int) x = gapP gs ++ partT ts (k : Int) (someL (ahdB x) ts) from rfl)
  have oV := Own.new w 27 [.slice A nt ct, .slice B nb cb, .slice M nm cm, .slice G ng cg, .int .i64 fr, .int .i64 dog]
  have bV : Ext w (w.alloc (.cells #[.slice A nt ct, .slice B nb cb, .slice M nm cm, .slice G ng cg, .int .i64 fr, .int .i64 dog] 27)) := Ext.alloc _ _
  obtain ⟨i0, hi, hz0, hz1, hz2⟩ := info_parts info_rpart'
  have HI := Lib.hid hi
  clear h hm h12 hx hk hmt hi hcl
  go_enter Try.func15, Try.ntmps15
  go_wp2_with (refine wpl_load_w _ ?_ 27 _ rfl (by kernel_rfl) 6 size_conf _ rfl _ _ oV rfl ?_; focus (go_simp; done))
  refine (HT.out _ bV).mono ?_
  rintro e w3 ⟨rfl, b3⟩
  replace bV := Ext.trans bV b3
  replace oV := oV.keep b3
  have v3 : w3.cell? ⟨w.heap.size, 3, none⟩ = some (.slice G ng cg) := oV.cell 3
  go_wp2
  go_loopw [5, 6] (fun v q wr => ∃ (j : Nat) (R : Option Addr) (c1 : Nat), v = .slice R j c1 ∧ q = .int .i64 j ∧ j ≤ ng ∧ Row wr w3.heap.size 37 2 R j c1 (pairs (gapP (gs.take j))) ∧ Ext w3 wr) (fun _ q _ => ng - (intOf q).toNat)
  case atStart => exact ⟨0, none, 0, rfl, rfl, by omega, Row.nil _ _ _ _, Ext.refl _⟩
  case round =>
    obtain ⟨j, R, c1, rfl, rfl, hj, q1, q2⟩ := hrel
    clear v3
    have v3 : wr.cell? ⟨w.heap.size, 3, none⟩ = some (.slice G ng cg) := (oV.keep q2).cell 3
    by_cases hlt : j < ng
    · have hjl : j < gs.length := by omega
      obtain ⟨bs', ofs, rfl, hcS⟩ := (HG.out.rd.keep (Ext.trans bV q2)).int hjl
      have hsn := gapP_snoc (gs.take j) gs[j]
      rw [← take_succ' gs j hjl] at hsn
      generalize gs[j] = g at *
      have HAP := Lib.hid (show pairs (gapP (gs.take j)) ++ pairs [(g, 2)] = pairs (gapP (gs.take (j + 1))) by rw [hsn]; exact pairs_app _ _)
      have j0' : (0 : Int) ≤ (j : Int) := by omega
      have j1' : (j : Int) < (ng : Int) := by omega
      clear hsn
      go_wp2_with (at_builtin; have r7 := (q1.alloc (.cells #[.int .i64 g, .int .i64 2] 37)); refine wpl_append _ rfl (.tmp 20) (.tmp 27) 33 rfl 37 i0 _ 2 16 Try.underlying33 HI.out hz0 hz1 hz2 rfl (by omega) w3.heap.size R j c1 _ rfl r7 _ 1 1 (pairs [(g, 2)]) rfl rfl (Own.new wr 37 (pairs [(g, 2)])).rd0 (pairs_one _) (j + 1) _ rfl HAP.out (by omega) (by omega) (by simp; have := q2.size; omega) ?_; intro A2 c2 w6 o6 g6 k6)
      have e6 := below_grown (Ext.trans q2 (Ext.alloc _ (.cells #[.int .i64 g, .int .i64 2] 37))) g6 (by simp; have := q2.size; omega) (fun g' hg' => (q1.at_ g' hg').1)
      go_roundw
      case rel => exact ⟨j + 1, A2, c2, rfl, by go_num, by omega, o6, e6⟩
      case measure => simp [intOf]; omega
    · obtain rfl : ng = j := by omega
      rw [List.take_of_length_le (by omega)] at q1
      have HAPN := Lib.hid (show gapP gs ++ partT ts (k : Int) (someT (ahdB x) ts 0) = gapP gs by simp [partT, someT])
      have hng : (gapP gs).length = ng := by rw [gapP_len]; omega
      obtain ⟨wo, rfl⟩ : ∃ wo : World, wo = wr := ⟨_, rfl⟩
      have v0 : wo.cell? ⟨w.heap.size, 0, none⟩ = some (.slice A nt ct) := (oV.keep q2).cell 0
      go_wp2
      go_loopw [5, 7] (fun v q wr => ∃ (j : Nat) (R : Option Addr) (c1 : Nat), v = .slice R (gapP gs ++ partT ts (k : Int) (someT (ahdB x) ts j)).length c1 ∧ q = .int .i64 j ∧ j ≤ nt ∧ Row wr w3.heap.size 37 2 R (gapP gs ++ partT ts (k : Int) (someT (ahdB x) ts j)).length c1 (pairs (gapP gs ++ partT ts (k : Int) (someT (ahdB x) ts j))) ∧ Ext w3 wr) (fun _ q _ => nt - (intOf q).toNat)
      case atStart => exact ⟨0, R, c1, by rw [HAPN.out, hng], rfl, by omega, by rw [HAPN.out, hng]; exact q1, q2⟩
      case round =>
        clear q1 q2
        obtain ⟨j, R, c1, rfl, rfl, hj, q1, q2⟩ := hrel
        clear v0 v3
        have v0 : wr.cell? ⟨w.heap.size, 0, none⟩ = some (.slice A nt ct) := (oV.keep q2).cell 0
        have oW := oV.keep q2
        by_cases hlt : j < nt
        · have hjl : j < ts.length := by omega
          have hcn := HCN.out j hjl _ (Ext.trans bV q2)
          have hsy := someT_yes (f := ahdB x) hjl
          have hsn := someT_no (f := ahdB x) hjl
          have hps := partT_same ts (k : Int) (someT (ahdB x) ts j)
          have hpn := partT_snoc ts (k : Int) (someT (ahdB x) ts j) hjl
          obtain ⟨b0, off, rfl, he⟩ := flat_at (k := 8) (HC.out.keep (Ext.trans bV q2)).rd (fun _ _ => rfl) (by omega) hjl
          have c0 := he 0 _ rfl
          have c2 := he 2 _ rfl
          have c4 := he 4 _ rfl
          rw [Nat.add_zero] at c0
          have had : ahdB x ts[j] = (decide (ts[j].cls = 2) && cntB x ts[j]) := rfl
          have hl0 := partT_len ts (k : Int) (someT (ahdB x) ts j)
          have hl2 := someT_len (ahdB x) ts j
          have hP0l : (gapP gs ++ partT ts (k : Int) (someT (ahdB x) ts j)).length ≤ 65536 := by rw [List.length_append]; omega
          generalize ts[j] = y at *
          generalize cntB x y = qc at *
          generalize ahdB x y = qa at *
          have HCC := Lib.hid hcn
          have j0' : (0 : Int) ≤ (j : Int) := by omega
          have j1' : (j : Int) < (nt : Int) := by omega
          have finish : Hid (partT ts (k : Int) (someT (ahdB x) ts (j + 1)) = if (j : Int) = (k : Int) then partT ts (k : Int) (someT (ahdB x) ts j) else if qa = true then partT ts (k : Int) (someT (ahdB x) ts j) ++ [(y.per, y.bud)] else partT ts (k : Int) (someT (ahdB x) ts j)) := by
            refine Lib.hid ?_
            by_cases e : (j : Int) = (k : Int)
            · rw [if_pos e]
              cases qa
              · rw [hsn rfl]
              · rw [hsy rfl, e]; exact hps
            · rw [if_neg e]
              cases qa
              · rw [hsn rfl]; rfl
              · rw [hsy rfl, hpn e]; rfl
          clear he hcn hsy hsn hps hpn hl0 hl2
          generalize hP1 : partT ts (k : Int) (someT (ahdB x) ts (j + 1)) = P1 at *
          have HP1 := Lib.hid hP1
          clear hP1
          generalize partT ts (k : Int) (someT (ahdB x) ts j) = P00 at *
          by_cases hjk : (j : Int) = (k : Int)
          · have tk : ((j : Int) != (k : Int)) = false := by simpa using hjk
            have HE := Lib.hid (show P1 = P00 by rw [finish.out, if_pos hjk])
            clear hjk finish had
            go_wp2
            go_roundw
            case rel => exact ⟨j + 1, R, c1, by rw [HP1.out, HE.out]; first | done | rw [List.length_append, hng], by go_num, by omega, by rw [HP1.out, HE.out]; exact q1, q2⟩
            case measure => simp [intOf]; omega
          have tk : ((j : Int) != (k : Int)) = true := by simpa using hjk
          have hF := finish.out
          rw [if_neg hjk] at hF
          clear hjk finish
          by_cases hyc : y.cls = 2
          · have ty : (y.cls == 2) = true := by simp [hyc]
            rw [show decide (y.cls = 2) = true by simp [hyc], Bool.true_and] at had
            subst had
            clear hyc
            cases qa
            · have HE := Lib.hid (show P1 = P00 by rw [hF]; rfl)
              clear hF
              go_wp2_with (refine wpl_load_w _ ?_ 27 _ rfl (by kernel_rfl) 6 size_conf _ rfl _ _ oW rfl ?_; focus (go_simp; done))
              refine HCC.out.mono ?_
              rintro e w5 ⟨rfl, b5⟩
              go_wp2
              go_roundw
              case rel => exact ⟨j + 1, R, c1, by rw [HP1.out, HE.out]; first | done | rw [List.length_append, hng], by go_num, by omega, by rw [HP1.out, HE.out]; exact q1.keep b5, Ext.trans q2 b5⟩
              case measure => simp [intOf]; omega
            · have HE := Lib.hid (show gapP gs ++ P1 = gapP gs ++ P00 ++ [(y.per, y.bud)] by rw [hF, if_pos rfl, List.append_assoc])
              clear hF
              generalize gapP gs ++ P00 = P0 at *
              have HAP := Lib.hid (show pairs P0 ++ pairs [(y.per, y.bud)] = pairs (P0 ++ [(y.per, y.bud)]) from pairs_app _ _)
              go_wp2_with (refine wpl_load_w _ ?_ 27 _ rfl (by kernel_rfl) 6 size_conf _ rfl _ _ oW rfl ?_; focus (go_simp; done))
              refine HCC.out.mono ?_
              rintro e w5 ⟨rfl, b5⟩
              have v0' := cell_keep b5 v0
              have c2' := cell_keep b5 c2
              have c4' := cell_keep b5 c4
              have q1' := q1.keep b5
              have q2' := Ext.trans q2 b5
              clear v0 c0 c2 c4 q1 q2 oW b5
              go_wp2
              refine wp_region_dep_tail 15 (S := Ext) (C := Ext (w5)) (by kernel_rfl) (by kernel_rfl) rfl Ext.refl (Ext.drew _) ?_
              simp only [List.take_succ_cons, List.take_zero]
              repeat (refine dep_det (by rfl) (fun K hK => ?_); go_simp; first
                | ((with_reducible refine hK _ ?_); clear hK K)
                | (rw [if_neg (by decide)]; (with_reducible refine hK _ ?_); clear hK K)
                | (refine ⟨_, fun w1 hw1 => ⟨Ext.refl w1, hw1, rfl⟩, hK _ ?_⟩; clear hK K)
                | (apply Exists.intro; refine ⟨fun w1 hw1 => ?_, hK _ ?_⟩
                   first
                     | (have c_v0' := cell_keep hw1 v0'; have c_c2' := cell_keep hw1 c2'; have c_c4' := cell_keep hw1 c4'; go_simp; first | exact ⟨Ext.refl _, hw1, rfl⟩ | exact ⟨Ext.refl _, rfl⟩)
                   clear hK K))
              refine dep_var (SlAt 37 ([.int .i64 y.per, .int .i64 y.bud]) 1 1) 68 rfl (by rfl) SlAt.keep (by go_simp) (fun w1 hw1 => ?_) ?_
              · go_simp
                exact ⟨Ext.alloc _ _, Ext.trans hw1 (Ext.alloc _ _), SlAt.new w1 37 ([.int .i64 y.per, .int .i64 y.bud]) 1 1⟩
              refine dep_nil ?_
              intro a' w' hC hE
              obtain ⟨v, ⟨g, rfl, ho⟩, hE⟩ := atEnd_cons hE (by simp) (by first | (simp; done) | simp [Act.put])
              obtain rfl := atEnd_nil hE
              clear hE
              simp only [List.drop_succ_cons, List.drop_zero]
              have row := q1'.keep hC
              have bC := Ext.trans q2' hC
              go_wp2_with (at_builtin; refine wpl_append _ rfl (.tmp 54) (.tmp 68) 33 rfl 37 i0 _ 2 16 Try.underlying33 HI.out hz0 hz1 hz2 rfl (by omega) w3.heap.size R P0.length c1 _ rfl row (some ⟨g, 0, none⟩) 1 1 (pairs [(y.per, y.bud)]) rfl rfl ho.rd0 (pairs_one _) (P0.length + 1) _ rfl HAP.out (by omega) (by omega) bC.size ?_; intro A2 c2 w6 o6 g6 k6)
              have e6 := below_grown bC g6 bC.size (fun g' hg' => (row.at_ g' hg').1)
              go_roundw
              case rel => exact ⟨j + 1, A2, c2, by rw [HP1.out, HE.out]; simp, by go_num, by omega, by rw [HP1.out, HE.out]; simpa using o6, e6⟩
              case measure => simp [intOf]; omega
          · have ty : (y.cls == 2) = false := by simp [hyc]
            rw [show decide (y.cls = 2) = false by simp [hyc], Bool.false_and] at had
            subst had
            have HE := Lib.hid (show P1 = P00 by rw [hF]; rfl)
            clear hF hyc
            go_wp2
            go_roundw
            case rel => exact ⟨j + 1, R, c1, by rw [HP1.out, HE.out]; first | done | rw [List.length_append, hng], by go_num, by omega, by rw [HP1.out, HE.out]; exact q1, q2⟩
            case measure => simp [intOf]; omega
        · obtain rfl : nt = j := by omega
          have hSL : someT (ahdB x) ts nt = someL (ahdB x) ts := by unfold someL; rw [hTL]
          rw [hSL, ← HV.out] at q1 ⊢
          have HR := Lib.hid q1.rd
          go_wp2
          go_ret
          exact ⟨R, c1, rfl, HR.out, Ext.trans bV q2⟩

end Go.Proofs.Ytdninhdabeddeaa
