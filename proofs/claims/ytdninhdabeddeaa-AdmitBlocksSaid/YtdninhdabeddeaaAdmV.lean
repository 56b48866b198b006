/-
  THE STATEMENT AdmitBlocks: the walk.
-/
import Derived.Test.YtdninhdabeddeaaAdmT
import Derived.Test.YtdninhdabeddeaaAdmU
namespace Go.Proofs.Ytdninhdabeddeaa
open Go.RowKit
attribute [local go_sem] depUpon Sp.ok readsTo

theorem cnt_more {x y t : TK} (hx : x.cls = 2) (hy : y.cls = 1 ∨ y.cls = 2) (h : y.cls = 1 ∨ y.lvl ≤ x.lvl) (hc : cntB x t = true) : cntB y t = true := by
  rcases hy with hy | hy
  · exact cnt_early hy
  · rw [cnt_fixed hx] at hc
    rw [cnt_fixed hy]
    simp only [Bool.and_eq_true, decide_eq_true_eq] at hc ⊢
    refine ⟨hc.1, ?_⟩
    rcases h with h | h
    · rw [h] at hy; omega
    · omega

set_option maxRecDepth 100000 in
set_option maxHeartbeats 8000000 in
theorem law_admitblocks (A : Option Addr) (nt ct : Nat) (ts : List TK) (B : Option Addr) (nb cb : Nat) (bs : List EF) (M : Option Addr) (nm cm : Nat) (ms : List (Int × Int)) (G : Option Addr) (ng cg : Nat) (gs : List Int) (fr dog : Int) (w : World) (h : ConfArg w A nt ts B nb bs M nm ms G ng gs fr dog) (_ : nt ≤ ct ∧ nb ≤ cb ∧ nm ≤ cm ∧ ng ≤ cg) :
    Calls Try.prog 6 #[.agg #[.slice A nt ct, .slice B nb cb, .slice M nm cm, .slice G ng cg, .int .i64 fr, .int .i64 dog]] w fun e w' => e = .returned (.bool true) ∧ Below w.heap.size w w' := by
  have HG := Lib.hid (fun w' (h' : Ext w w') => l_conf A nt ct ts B nb cb bs M nm cm ms G ng cg gs fr dog w' (h.keep h'))
  have HAW := Lib.hid (fun w => adm_awake w)
  have oV := Own.new w 27 [.slice A nt ct, .slice B nb cb, .slice M nm cm, .slice G ng cg, .int .i64 fr, .int .i64 dog]
  have bV : Ext w (w.alloc (.cells #[.slice A nt ct, .slice B nb cb, .slice M nm cm, .slice G ng cg, .int .i64 fr, .int .i64 dog] 27)) := Ext.alloc _ _
  have HH := Lib.hid h
  clear h
  go_enter Try.func6, Try.ntmps6
  go_wp2_with (refine wpl_load_w _ ?_ 27 _ rfl (by kernel_rfl) 6 size_conf _ rfl _ _ oV rfl ?_; focus (go_simp; done))
  refine (HG.out _ bV).mono ?_
  rintro e w1 ⟨⟨b, rfl, hs⟩, b1⟩
  replace oV := oV.keep b1
  replace bV := Ext.trans bV b1
  cases b
  case true =>
    clear hs oV
    go_wp2_with ((with_reducible go_at_call 9); (with_reducible refine (HAW.out _).mono ?_); rintro e w2 ⟨rfl, b2⟩)
    go_ret
    exact ⟨rfl, Ext.trans bV b2⟩
  obtain ⟨n12, nb12, nm12, ng12⟩ := hs rfl
  clear hs
  have HM := Lib.hid (fun w' (h' : Ext w w') => a_may A nt ct ts B nb cb bs M nm cm ms G ng cg gs fr dog w' (HH.out.keep h') (by omega))
  cases hm : mayC nt nb nm ng ts bs ms gs fr dog
  · rw [hm] at HM
    clear hm
    go_wp2_with (refine wpl_load_w _ ?_ 27 _ rfl (by kernel_rfl) 6 size_conf _ rfl _ _ oV rfl ?_; focus (go_simp; done))
    refine (HM.out _ bV).mono ?_
    rintro e w2 ⟨rfl, b2⟩
    go_wp2_with ((with_reducible go_at_call 9); (with_reducible refine (HAW.out _).mono ?_); rintro e w3 ⟨rfl, b3⟩)
    go_ret
    exact ⟨rfl, Ext.trans bV (Ext.trans b2 b3)⟩
  have HBK := Lib.hid (fun (k : Nat) (hk : k < ts.length) w' (h' : Ext w w') => a_block_yes A nt ct ts B nb cb bs M nm cm ms G ng cg gs fr dog k ts[k] w' (HH.out.keep h') hk rfl hm (by omega))
  obtain ⟨n8, _, n4, hok, hmt, _, _⟩ := may_conf hm
  have HCL := Lib.hid (fun (k : Nat) (hk : k < ts.length) (hn : k < nt) => mayT_cls (may_task hmt hk hn))
  have HSF := Lib.hid (fun k hk => (sum_facts hok (r := 0) (r' := 0) (Int.le_refl _) k hk).2.2.2)
  have HBD := Lib.hid (fun x => blkV_bd (ts := ts) hok x)
  have HMO := Lib.hid (fun x z h => blkV_mono (ts := ts) hok (x := x) (z := z) h)
  have HLM := Lib.hid (fun k (hk : k < ms.length) => ok_limit' hok hk)
  have nm6 : nm ≤ 6 := by have := ok_len' hok; have := HH.out.mtx.len; omega
  rw [hm] at HM
  have HTL := Lib.hid HH.out.tasks.len
  have HML := Lib.hid HH.out.mtx.len
  clear hm hmt hok
  go_wp2_with (refine wpl_load_w _ ?_ 27 _ rfl (by kernel_rfl) 6 size_conf _ rfl _ _ oV rfl ?_; focus (go_simp; done))
  refine (HM.out _ bV).mono ?_
  rintro e w2 ⟨rfl, b2⟩
  replace oV := oV.keep b2
  replace bV := Ext.trans bV b2
  have v0 : w2.cell? ⟨w.heap.size, 0, none⟩ = some (.slice A nt ct) := oV.cell 0
  have v2 : w2.cell? ⟨w.heap.size, 2, none⟩ = some (.slice M nm cm) := oV.cell 2
  have HMR := Lib.hid (HH.out.mtx.rd.keep bV)
  clear HM HG b1 b2
  go_wp2
  go_loop [3, 4] (fun s i => ∃ k : Nat, k ≤ nm ∧ i = .int .i64 k ∧ s = .int .i64 (limT ms k)) (fun _ i => nm - (intOf i).toNat)
  case atStart => exact ⟨0, by omega, rfl, rfl⟩
  case round =>
    obtain ⟨k, hk, rfl, rfl⟩ := hrel
    by_cases hlt : k < nm
    · have hkl : k < ms.length := by rw [HML.out]; exact hlt
      obtain ⟨b0, off, rfl, c1, c2⟩ := HMR.out.pair hkl
      obtain ⟨l1, l2⟩ := HLM.out k hkl
      obtain ⟨s1, s2⟩ := HSF.out k (by omega)
      have hsn := limT_succ hkl
      generalize ms[k] = x at *
      obtain ⟨xr, xl⟩ := x
      simp only at c1 c2 l1 l2 hsn
      have HSN := Lib.hid hsn
      have i0' : (0 : Int) ≤ (k : Int) := by omega
      have i1' : (k : Int) < (nm : Int) := by omega
      have s3 : limT ms k ≤ 12000 := by omega
      clear hsn
      generalize limT ms k = lk at *
      go_wp2
      go_round
      case rel => exact ⟨k + 1, by omega, by go_num, by rw [HSN.out]⟩
      case measure => simp [intOf]; omega
    · obtain rfl : nm = k := by omega
      have hbd := HBD.out
      rw [HML.out] at hbd
      have HBD2 := Lib.hid hbd
      obtain ⟨s1, s2⟩ := HSF.out nm (by rw [HML.out]; omega)
      have s3 : limT ms nm ≤ 12000 := by omega
      generalize limT ms nm = lim at *
      clear hbd s2
      go_wp2
      go_loopw [5] (fun i wr => ∃ k : Nat, k ≤ nt ∧ i = .int .i64 k ∧ Ext w2 wr ∧ Own wr w.heap.size 27 [.slice A nt ct, .slice B nb cb, .slice M nm cm, .slice G ng cg, .int .i64 fr, .int .i64 dog]) (fun i _ => nt - (intOf i).toNat)
      case atStart => exact ⟨0, by omega, rfl, Ext.refl _, oV⟩
      case round =>
        obtain ⟨i, hi, rfl, q2, oW⟩ := hrel
        clear oV v0 v2
        have v0r : wr.cell? ⟨w.heap.size, 0, none⟩ = some (.slice A nt ct) := oW.cell 0
        by_cases hlt : i < nt
        · have hil : i < ts.length := by rw [HTL.out]; exact hlt
          have hbk := HBK.out i hil
          obtain ⟨bd1, bd2⟩ := HBD2.out ts[i]
          have HCI := Lib.hid (HCL.out i hil hlt)
          generalize hbv : blkV ts ms ts[i] = bv at *
          have HBV := Lib.hid hbv
          have HBI := Lib.hid hbk
          have i0' : (0 : Int) ≤ (i : Int) := by omega
          have i1' : (i : Int) < (nt : Int) := by omega
          have hlim : IntKind.i64.wrap (11 + lim) = 11 + lim := IntWalk.i64_in _ ⟨by omega, by omega⟩
          have d1 : ¬ bv < 11 := by omega
          have d2 : ¬ 11 + lim < bv := by omega
          clear hbv hbk
          go_wp2_with (refine wpl_load_w _ ?_ 27 _ rfl (by kernel_rfl) 6 size_conf _ rfl _ _ oW rfl ?_; focus (go_simp; done))
          refine (HBI.out _ (Ext.trans bV q2)).mono ?_
          rintro e w3 ⟨rfl, b3⟩
          replace oW := oW.keep b3
          have q3 := Ext.trans q2 b3
          have v0 : w3.cell? ⟨w.heap.size, 0, none⟩ = some (.slice A nt ct) := oW.cell 0
          clear v0r
          go_wp2
          go_loopw [7] (fun kk wr => ∃ k : Nat, k ≤ nt ∧ kk = .int .i64 k ∧ Ext w3 wr ∧ Own wr w.heap.size 27 [.slice A nt ct, .slice B nb cb, .slice M nm cm, .slice G ng cg, .int .i64 fr, .int .i64 dog]) (fun kk _ => nt - (intOf kk).toNat)
          case atStart => exact ⟨0, by omega, rfl, Ext.refl _, oW⟩
          case round =>
            obtain ⟨k, hk, rfl, q4, oX⟩ := hrel
            clear oW v0
            have v0 : wr.cell? ⟨w.heap.size, 0, none⟩ = some (.slice A nt ct) := oX.cell 0
            by_cases hlt2 : k < nt
            · have hkl : k < ts.length := by rw [HTL.out]; exact hlt2
              have hbk := HBK.out k hkl
              have hcl := HCL.out k hkl hlt2
              have hmo : ts[i].cls = 2 → (ts[k].cls = 1 ∨ ts[k].lvl ≤ ts[i].lvl) → bv ≤ blkV ts ms ts[k] := fun e1 e2 => by
                rw [← HBV.out]
                exact HMO.out _ _ (fun y _ hy => cnt_more e1 hcl e2 hy)
              obtain ⟨b0, off, rfl, he⟩ := flat_at (k := 8) (HH.out.tasks.keep (Ext.trans (Ext.trans bV q3) q4)).rd (fun _ _ => rfl) (by omega) hil
              obtain ⟨b0', off', eA, he'⟩ := flat_at (k := 8) (HH.out.tasks.keep (Ext.trans (Ext.trans bV q3) q4)).rd (fun _ _ => rfl) (by omega) hkl
              injection eA with eA
              injection eA with eA1 eA2
              subst eA1
              subst eA2
              have HBK2 := Lib.hid hbk
              generalize blkV ts ms ts[k] = bk at *
              generalize ts[i]'hil = x at *
              generalize ts[k]'hkl = y at *
              have HMOK := Lib.hid hmo
              have HE := Lib.hid he
              have HE' := Lib.hid he'
              have k0' : (0 : Int) ≤ (k : Int) := by omega
              have k1' : (k : Int) < (nt : Int) := by omega
              have hcl1 : y.cls = 1 ∨ y.cls = 2 := hcl
              clear hbk hmo he he' hcl
              obtain ⟨wo, rfl⟩ : ∃ wo : World, wo = wr := ⟨_, rfl⟩
              go_wp2
              refine wp_region_two 13 10 11 12 8 9 47 [.int .i64 0, .int .i64 0, .int .i64 0, .int .i64 0, .int .i64 0, .int .i64 0, .slice none 0 0, .slice none 0 0] [.int .i64 x.cls, .int .i64 x.lvl, .int .i64 x.per, .int .i64 x.ddl, .int .i64 x.bud, .int .i64 x.line, .slice x.U x.un x.uc, .slice x.O x.on x.oc] (by kernel_rfl) (by kernel_rfl) (by kernel_rfl) rfl ?_
              repeat (refine two_read (by rfl) (by decide) (fun K hK => ?_); go_simp; first
                | (refine ⟨_, fun w1 hw1 => ⟨rfl, rfl⟩, hK _ ?_⟩; clear hK K)
                | (apply Exists.intro
                   refine ⟨fun w1 hw1 => ?_, hK _ ?_⟩
                   · have c_1 := cell_keep hw1 v0
                     go_simp
                     first | done | exact ⟨rfl, rfl⟩ | rfl
                   clear hK K))
              refine two_load_rd (by rfl) (by decide) 47 _ rfl b0 (off + i * 8) (by rfl) [.int .i64 x.cls, .int .i64 x.lvl, .int .i64 x.per, .int .i64 x.ddl, .int .i64 x.bud, .int .i64 x.line, .slice x.U x.un x.uc, .slice x.O x.on x.oc] (by go_simp) (fun w1 hw1 => run_load_rd w1 47 (by kernel_rfl) 8 size_task b0 (off + i * 8) _ rfl (fun j v hv => cell_keep hw1 (HE.out j v hv))) ?_
              repeat (refine two_read (by rfl) (by decide) (fun K hK => ?_); go_simp; first
                | (refine ⟨_, fun w1 hw1 => ⟨rfl, rfl⟩, hK _ ?_⟩; clear hK K)
                | (apply Exists.intro
                   refine ⟨fun w1 hw1 => ?_, hK _ ?_⟩
                   · have c_1 := cell_keep hw1 v0
                     go_simp
                     first | done | exact ⟨rfl, rfl⟩ | rfl
                   clear hK K))
              refine two_load_rd (by rfl) (by decide) 47 _ rfl b0 (off + k * 8) (by rfl) [.int .i64 y.cls, .int .i64 y.lvl, .int .i64 y.per, .int .i64 y.ddl, .int .i64 y.bud, .int .i64 y.line, .slice y.U y.un y.uc, .slice y.O y.on y.oc] (by go_simp) (fun w1 hw1 => run_load_rd w1 47 (by kernel_rfl) 8 size_task b0 (off + k * 8) _ rfl (fun j v hv => cell_keep hw1 (HE'.out j v hv))) ?_
              refine two_alloc (by rfl) (by decide) rfl rfl ztk zero_task rfl rfl 8 rfl ?_
              refine two_alloc (by rfl) (by decide) rfl rfl ztk zero_task rfl rfl 9 rfl ?_
              refine two_store 62 (by rfl) (by decide) rfl rfl (by decide) (by intro V' h; simpa using h) (by simp) (by first | (simp; done) | simp [Act.put]) 8 size_task (by rfl) rfl rfl (TK.one x) rfl ?_
              intro a' w' g1 g2 hC e1 e2 hne hb1 hb2 o1 o2 hE
              obtain ⟨v, ⟨h2, rfl, _⟩, hE⟩ := atEnd_cons hE (by simp) (by first | (simp; done) | simp [Act.put])
              obtain ⟨v, ⟨h1, rfl, _⟩, hE⟩ := atEnd_cons hE (by simp) (by first | (simp; done) | simp [Act.put])
              obtain rfl := atEnd_nil hE
              obtain rfl : h1 = g1 := ptr_inj (by simpa [Act.put] using e1)
              obtain rfl : h2 = g2 := ptr_inj (by simpa [Act.put] using e2)
              clear hE e1 e2
              unfold ptr
              refine wpl_store_own _ rfl 47 _ _ rfl 8 size_task _ rfl [.int .i64 y.cls, .int .i64 y.lvl, .int .i64 y.per, .int .i64 y.ddl, .int .i64 y.bud, .int .i64 y.line, .slice y.U y.un y.uc, .slice y.O y.on y.oc] rfl _ _ o2 rfl rfl (TK.one y) ?_
              intro w5 o5 g5 s5
              have o1' := o1.grown g5 (by intro q; injection q with q; exact hne q)
              have e5 := below_grown hC g5 hC.size (fun j hj => by injection hj with hj; omega)
              have oY := (oX.keep hC).grown g5 (by intro q; injection q with q; have := (Own.lt oX); omega)
              have e6 := Ext.trans q4 e5
              have dx0 : w5.cell? ⟨h1, 0, none⟩ = some (.int .i64 x.cls) := o1'.cell 0
              have dx1 : w5.cell? ⟨h1, 1, none⟩ = some (.int .i64 x.lvl) := o1'.cell 1
              have dy0 : w5.cell? ⟨h2, 0, none⟩ = some (.int .i64 y.cls) := o5.cell 0
              have dy1 : w5.cell? ⟨h2, 1, none⟩ = some (.int .i64 y.lvl) := o5.cell 1
              clear o1 o2 o1' o5 g5 s5 hb1 hb2 hne hC e5 oX v0 HE HE'
              by_cases hxc : x.cls = 2
              · have tx : (x.cls == 2) = true := by simp [hxc]
                by_cases hyc : y.cls = 1
                · have ty : (y.cls == 1) = true := by simp [hyc]
                  have hle := HMOK.out hxc (.inl hyc)
                  clear hxc hyc hcl1
                  have hd : ¬ bk < bv := by omega
                  go_wp2_with (refine wpl_load_w _ ?_ 27 _ rfl (by kernel_rfl) 6 size_conf _ rfl _ _ oY rfl ?_; focus (go_simp; done))
                  refine (HBK2.out _ (Ext.trans (Ext.trans bV q3) e6)).mono ?_
                  rintro e w7 ⟨rfl, b7⟩
                  go_wp2
                  go_roundw
                  case rel => exact ⟨k + 1, by omega, by go_num, Ext.trans e6 b7, oY.keep b7⟩
                  case measure => simp [intOf]; omega
                · have ty : (y.cls == 1) = false := by simp [hyc]
                  by_cases hlv : y.lvl ≤ x.lvl
                  · have hle := HMOK.out hxc (.inr hlv)
                    clear hxc hyc hcl1
                    have hd : ¬ bk < bv := by omega
                    go_wp2_with (refine wpl_load_w _ ?_ 27 _ rfl (by kernel_rfl) 6 size_conf _ rfl _ _ oY rfl ?_; focus (go_simp; done))
                    refine (HBK2.out _ (Ext.trans (Ext.trans bV q3) e6)).mono ?_
                    rintro e w7 ⟨rfl, b7⟩
                    go_wp2
                    go_roundw
                    case rel => exact ⟨k + 1, by omega, by go_num, Ext.trans e6 b7, oY.keep b7⟩
                    case measure => simp [intOf]; omega
                  · have hl2 : decide (y.lvl ≤ x.lvl) = false := by simpa using hlv
                    clear hxc hyc hcl1 hlv
                    go_wp2
                    go_roundw
                    case rel => exact ⟨k + 1, by omega, by go_num, e6, oY⟩
                    case measure => simp [intOf]; omega
              · have tx : (x.cls == 2) = false := by simp [hxc]
                clear hxc hcl1
                go_wp2
                go_roundw
                case rel => exact ⟨k + 1, by omega, by go_num, e6, oY⟩
                case measure => simp [intOf]; omega
            · obtain rfl : nt = k := by omega
              go_wp2
              go_roundw
              case rel => exact ⟨i + 1, by omega, by go_num, Ext.trans q3 q4, oX⟩
              case measure => simp [intOf]; omega
        · obtain rfl : nt = i := by omega
          go_wp2_with ((with_reducible go_at_call 9); (with_reducible refine (HAW.out _).mono ?_); rintro e w4 ⟨rfl, b4⟩)
          go_ret
          exact ⟨rfl, Ext.trans (Ext.trans bV q2) b4⟩

end Go.Proofs.Ytdninhdabeddeaa
