/-
  THE WALK of the statement ProcScript.
-/
import Derived.Test.YtdgggdhligfnpaaPrcM
import Derived.Test.YtdgggdhligfnpaaPrcE
import Derived.Test.YtdgggdhligfnpaaLend
import Derived.Deep.CutRange
import Derived.Deep.CutBlock
import Derived.Deep.RegionHeld3
import Derived.BigQuiet
namespace Go.Proofs.Ytdgggdhligfnpaa
open Go.ChangeShapes Go.WideShapes Go.ChangeAt Go.RowKit Go.Maps
attribute [local go_sem] depUpon Sp.ok

section
variable {H : Type} {enc : TypeId × Value → H} {W : World} {base : Nat} {v : Value} {d : DataW H} {p : List MemPlace}
set_option maxRecDepth 100000 in
theorem open_acts25 (hv : Value.okWide Try.prog W .any base 34 v) (h : DataW.Trod enc Try.prog W 0 (fun _ => true) true 34 v d p) : ∃ A n c ps, v = .slice A n c ∧ TripsArg W A n ps :=
  open_trips Try.underlying34 Try.underlying40 (by kernel_rfl) (by kernel_rfl) rfl hv h
end
theorem l_num25 (x : Int) (w : World) : Calls Try.prog 14 #[.int .i64 x] w fun e w' => e = .returned (.int .i64 x) ∧ w = w' := by
  go_enter Try.func14, Try.ntmps14
  go_wp2
  go_ret
  exact ⟨rfl, rfl⟩
theorem PS.grown {w w' : World} {g gm gr : Nat} {L : List PR} (h : PS w g gm L) (hg : w.grownBy w' (some gr)) (h1 : g ≠ gr) (h2 : gm ≠ gr) : PS w' g gm L := by
  refine ⟨h.own.grown hg (fun q => h1 (by injection q)), ?_, h.srt, h.wf, h.ne⟩
  obtain ⟨es, clock, k1, k2⟩ := h.map
  exact ⟨es, clock, (hg.block gm (Array.getElem?_eq_some_iff.1 k1).1 (fun q => h2 (by injection q))).trans k1, k2⟩
theorem RS.grown {w w' : World} {B gr gm : Nat} {A : Option Addr} {n c : Nat} {L : List PR} (h : RS w B gr A n c L) (hg : w.grownBy w' (some gm)) (h1 : gr ≠ gm) (h2 : gm < B) : RS w' B gr A n c L :=
  ⟨h.own.grown hg (fun q => h1 (by injection q)), h.row.grown hg (.inr fun q => by have := (h.row.at_ _ q).1; omega)⟩
/-- Both tell the same: at most k processes, none its own parent. -/
structure Good (k : Nat) (L : List PR) : Prop where
  self : NoSelf L
  pos : ∀ r ∈ L, 0 ≤ r.pid
  len : L.length ≤ k
theorem Good.nil : Good 0 [] := ⟨fun r hr => absurd hr (by simp), fun r hr => absurd hr (by simp), Nat.le_refl _⟩
theorem Good.start {k : Nat} {L : List PR} (h : Good k L) (p par : Int) : Good (k + 1) (startL L p par) := by
  refine ⟨h.self.start p par, fun r hr => ?_, ?_⟩
  · by_cases he : startE L p par = 0
    · unfold startL at hr
      rw [if_pos he] at hr
      rcases pput_mem.1 hr with rfl | ⟨hr, _⟩
      · show 0 ≤ p
        unfold startE at he
        split at he
        · cases he
        · omega
      · exact h.pos r hr
    · rw [start_none he] at hr; exact h.pos r hr
  · have := h.len
    by_cases he : startE L p par = 0
    · unfold startL
      rw [if_pos he]
      have := pput_len L ⟨p, par, 0, false⟩
      omega
    · rw [start_none he]; omega
theorem Good.exit {k : Nat} {L : List PR} (h : Good k L) (hs : Srt L) (p c : Int) : Good (k + 1) (exitL L p c) := by
  refine ⟨h.self.exit hs h.pos p c, fun r hr => ?_, ?_⟩
  · by_cases he : exitE L p c = 0
    · rw [exit_fin hs h.self he] at hr
      obtain ⟨q, hq, hz⟩ := List.mem_filterMap.1 hr
      rw [exO_pid hz]; exact h.pos q hq
    · rw [exit_none he] at hr; exact h.pos r hr
  · have := h.len
    by_cases he : exitE L p c = 0
    · rw [exit_fin hs h.self he]
      have := List.length_filterMap_le (exO p c) L
      omega
    · rw [exit_none he]; omega
theorem Good.child {k : Nat} {L : List PR} (h : Good k L) (p : Int) : Good (k + 1) (childL L p) := by
  refine ⟨h.self.child p, fun r hr => ?_, ?_⟩
  · unfold childL at hr
    split at hr
    · exact h.pos r (pdel_mem.1 hr).1
    · exact h.pos r hr
  · have := h.len
    unfold childL
    split
    · have := pdel_len L (by assumption)
      omega
    · omega
theorem Good.mono {k j : Nat} {L : List PR} (h : Good k L) (hj : k ≤ j) : Good j L := ⟨h.self, h.pos, Nat.le_trans h.len hj⟩
/-- The state of both. -/
def Both (w : World) (B g gm gr k : Nat) : Prop := ∃ L A n c, PS w g gm L ∧ RS w B gr A n c L ∧ Good k L
theorem Both.keep {w w' : World} {B g gm gr k : Nat} (h : Both w B g gm gr k) (hb : Ext w w') : Both w' B g gm gr k := by
  obtain ⟨L, A, n, c, h1, h2, h3⟩ := h
  exact ⟨L, A, n, c, h1.keep hb, h2.keep hb, h3⟩

set_option maxRecDepth 100000 in
set_option maxHeartbeats 8000000 in
theorem law_procscript (A : Option Addr) (m cA : Nat) (ps : List (Int × Int × Int)) (w : World) (ga : TripsArg w A m ps) :
    Calls Try.prog 4 #[.slice A m cA] w fun e w' => e = .returned (.bool true) ∧ Below w.heap.size w w' := by
  have HAW := Lib.hid (fun w => prc_awake w)
  by_cases h100 : 100 < m
  · have h1 : (100 : Int) < (m : Int) := by omega
    go_enter Try.func4, Try.ntmps4
    go_wp2_with ((with_reducible go_at_call 13); (with_reducible refine (HAW.out _).mono ?_); rintro e w1 ⟨rfl, b1⟩)
    go_ret
    exact ⟨rfl, b1⟩
  have h1 : (m : Int) ≤ 100 := by omega
  have HP := Lib.hid ga
  have hpl := ga.len
  have HN := Lib.hid (p_new w)
  clear ga
  go_enter Try.func4, Try.ntmps4
  go_wp2_with fail
  refine HN.out.mono ?_
  rintro e w1 ⟨g, gm, rfl, s1, b1, hg, hgm⟩
  have hl1 := Own.lt s1.own
  have hl2 := s1.map.lt
  have oR := Own.new w1 38 [.slice none 0 0]
  have bR := Ext.alloc w1 (.cells #[.slice none 0 0] 38)
  have hBo : Both (w1.alloc (.cells #[.slice none 0 0] 38)) (w1.heap.size + 1) g gm w1.heap.size 0 := ⟨[], none, 0, 0, s1.keep bR, ⟨oR, Row.nil _ _ _ _⟩, Good.nil⟩
  have b2 := Ext.trans b1 bR
  have hsz : w1.heap.size + 1 ≤ (w1.alloc (.cells #[.slice none 0 0] 38)).heap.size := by simp
  clear oR s1 HN
  go_wp2
  go_loopw [5] (fun q wr => ∃ i : Nat, q = .int .i64 i ∧ i ≤ m ∧ Both wr (w1.heap.size + 1) g gm w1.heap.size i ∧ Ext w wr ∧ w1.heap.size + 1 ≤ wr.heap.size) (fun q _ => m - (intOf q).toNat)
  case atStart => exact ⟨0, rfl, by omega, hBo, b2, hsz⟩
  case round =>
    clear hBo b2 hsz bR
    obtain ⟨i, rfl, hi, hBo, b2, hsz⟩ := hrel
    by_cases hlt : i < m
    · have hil : i < ps.length := by omega
      obtain ⟨b, off, rfl, e0, e1, e2⟩ := (HP.out.rd.keep b2).trip hil
      have hwf := HP.out.wf _ (List.getElem_mem hil)
      obtain ⟨hw0, hw1, hw2⟩ := hwf
      generalize ps[i].1 = d at *
      generalize ps[i].2.1 = k at *
      generalize ps[i].2.2 = x at *
      have i0' : (0 : Int) ≤ (i : Int) := by omega
      have i1' : (i : Int) < (m : Int) := by omega
      have HK := Lib.hid hw1
      have HX := Lib.hid hw2
      clear hw0 hw1 hw2 hil
      have hXT : Own (wr.alloc (.cells #[.int .i64 d, .int .i64 k, .int .i64 x] 40)) wr.heap.size 40 [.int .i64 d, .int .i64 k, .int .i64 x] := Own.new wr _ _
      have bX := Ext.alloc wr (.cells #[.int .i64 d, .int .i64 k, .int .i64 x] 40)
      go_upto_block 2 with fail
      replace hBo := hBo.keep bX
      replace b2 := Ext.trans b2 bX
      have hxs : w1.heap.size + 1 ≤ wr.heap.size := hsz
      have hxl := Own.lt hXT
      replace hsz := Nat.le_trans hsz bX.size
      generalize wr.alloc (.cells #[.int .i64 d, .int .i64 k, .int .i64 x] 40) = w3 at *
      generalize wr.heap.size = hx at *
      clear e0 e1 e2 bX
      go_cut [7, 8, 9, 10, 11, 12, 13] from 28 to 155 (fun s7 _ _ _ _ _ _ wx => s7 = .bool true ∧ Both wx (w1.heap.size + 1) g gm w1.heap.size (i + 1) ∧ Ext w wx ∧ w1.heap.size + 1 ≤ wx.heap.size ∧ wx.cell? ⟨hx, 1, none⟩ = some (.int .i64 k))
      case first =>
        have x0 := hXT.cell 0
        have x1 := hXT.cell 1
        have x2 := hXT.cell 2
        simp only [List.getElem?_cons_zero, List.getElem?_cons_succ] at x0 x1 x2
        obtain ⟨L, A1, n1, c1, hP, hR, hG⟩ := hBo
        have hlen := hG.len
        have hn1 : n1 ≤ 200 := by have := hR.len; omega
        have HPD := Lib.hid (hP.keep (Ext.drew w3))
        have HRD := Lib.hid (hR.keep (Ext.drew w3))
        have HG := Lib.hid hG
        have HS := Lib.hid hP.srt
        clear hXT hG
        have HNE := Lib.hid (show some hx ≠ some gm by simp; omega)
        have HNR := Lib.hid (show some hx ≠ some w1.heap.size by simp; omega)
        have HQ := Lib.hid (show w1.heap.size ≠ gm ∧ gm < w1.heap.size + 1 ∧ g ≠ w1.heap.size ∧ gm ≠ w1.heap.size by omega)
        have HW := Lib.hid b1.size
        by_cases hd0 : d = 0
        · subst hd0
          have t0 : ((0 : Int) == 0) = true := by simp
          go_upto_region 13 with fail
          go_region_held3 (fun w' => w'.cell? ⟨hx, 1, none⟩ = some (.int .i64 k) ∧ w'.cell? ⟨hx, 2, none⟩ = some (.int .i64 x)) (first | exact ⟨x1, x2⟩ | exact ⟨k1, k2⟩ | exact ⟨k3, k4⟩)
            (first
              | ((with_reducible go_at_call 8); (with_reducible refine (p_start g gm L k x _ HPD.out HK.out HX.out (by omega)).mono ?_); rintro e w4 ⟨rfl, p4⟩; have k1 := p4.grown.cell (show w3.drew.cell? ⟨hx, 1, none⟩ = _ from x1) HNE.out; have k2 := p4.grown.cell (show w3.drew.cell? ⟨hx, 2, none⟩ = _ from x2) HNE.out; have k0 : w3.heap.size ≤ w4.heap.size := p4.grown.size)
              | ((with_reducible go_at_call 15); (with_reducible refine (r_start _ _ A1 n1 c1 L k x _ (HRD.out.grown p4.grown HQ.out.1 HQ.out.2.1) (by omega) (Nat.le_trans hsz k0)).mono ?_); rintro e w6 ⟨rfl, A6, n6, c6, r6, g6⟩; have k3 := g6.cell k1 HNR.out; have k4 := g6.cell k2 HNR.out)
              | ((with_reducible go_at_call 14); (with_reducible refine (l_num25 _ _).mono ?_); rintro e w5 ⟨rfl, rfl⟩))
          have b4 := p4.below (Ext.trans b2 (Ext.drew _)) b2.size hgm
          have b6 := below_grown b4 g6 b4.size (fun q hq => by injection hq with hq; have := HW.out; omega)
          go_wp2
          go_meet
          exact ⟨by simp, ⟨startL L k x, A6, n6, c6, p4.st.grown g6 HQ.out.2.2.1 HQ.out.2.2.2, r6, HG.out.start k x⟩, b6, Nat.le_trans hsz (Nat.le_trans k0 g6.size), k3⟩
        · have t0 : (d == 0) = false := by simp [hd0]
          by_cases hd1 : d = 1
          · subst hd1
            have t1 : ((1 : Int) == 1) = true := by simp
            clear hd0
            go_upto_region 15 with fail
            go_region_held3 (fun w' => w'.cell? ⟨hx, 1, none⟩ = some (.int .i64 k) ∧ w'.cell? ⟨hx, 2, none⟩ = some (.int .i64 x)) (first | exact ⟨x1, x2⟩ | exact ⟨k1, k2⟩ | exact ⟨k3, k4⟩)
              (first
                | ((with_reducible go_at_call 10); (with_reducible refine (p_exit g gm L k x _ HPD.out HK.out (by omega)).mono ?_); rintro e w4 ⟨rfl, p4⟩; have k1 := p4.grown.cell (show w3.drew.cell? ⟨hx, 1, none⟩ = _ from x1) HNE.out; have k2 := p4.grown.cell (show w3.drew.cell? ⟨hx, 2, none⟩ = _ from x2) HNE.out; have k0 : w3.heap.size ≤ w4.heap.size := p4.grown.size)
                | ((with_reducible go_at_call 16); (with_reducible refine (r_exit _ _ A1 n1 c1 L k x _ (HRD.out.grown p4.grown HQ.out.1 HQ.out.2.1) (by omega) (Nat.le_trans hsz k0) HS.out HG.out.self).mono ?_); rintro e w6 ⟨rfl, A6, n6, c6, r6, g6⟩; have k3 := g6.cell k1 HNR.out; have k4 := g6.cell k2 HNR.out)
                | ((with_reducible go_at_call 14); (with_reducible refine (l_num25 _ _).mono ?_); rintro e w5 ⟨rfl, rfl⟩))
            have b4 := p4.below (Ext.trans b2 (Ext.drew _)) b2.size hgm
            have b6 := below_grown b4 g6 b4.size (fun q hq => by injection hq with hq; have := HW.out; omega)
            go_wp2
            go_meet
            exact ⟨by simp, ⟨exitL L k x, A6, n6, c6, p4.st.grown g6 HQ.out.2.2.1 HQ.out.2.2.2, r6, HG.out.exit HS.out k x⟩, b6, Nat.le_trans hsz (Nat.le_trans k0 g6.size), k3⟩
          · have t1 : (d == 1) = false := by simp [hd1]
            by_cases hd2 : d = 2
            · subst hd2
              have t2 : ((2 : Int) == 2) = true := by simp
              clear hd0 hd1
              have HP := Lib.hid hP
              have HR := Lib.hid hR
              go_wp2_with (first
                | ((with_reducible go_at_call 11); (with_reducible refine (p_child g gm L k _ HP.out HK.out (by omega)).mono ?_); rintro e w4 ⟨rfl, p4⟩; have k1 := p4.grown.cell x1 HNE.out; have k2 := p4.grown.size)
                | ((with_reducible go_at_call 17); (with_reducible refine (r_child _ _ A1 n1 c1 L k _ (HR.out.grown p4.grown HQ.out.1 HQ.out.2.1) (by omega) (Nat.le_trans hsz k2) HS.out).mono ?_); rintro e w6 ⟨rfl, A6, n6, c6, r6, g6⟩; have k3 := g6.cell k1 HNR.out)
                | ((with_reducible go_at_call 14); (with_reducible refine (l_num25 _ _).mono ?_); rintro e w5 ⟨rfl, rfl⟩))
              have b4 := p4.below b2 b2.size hgm
              have b6 := below_grown b4 g6 b4.size (fun q hq => by injection hq with hq; have := HW.out; omega)
              go_meet
              exact ⟨rfl, ⟨childL L k, A6, n6, c6, p4.st.grown g6 HQ.out.2.2.1 HQ.out.2.2.2, r6, HG.out.child k⟩, b6, Nat.le_trans hsz (Nat.le_trans k2 g6.size), k3⟩
            · have t2 : (d == 2) = false := by simp [hd2]
              clear hd0 hd1 hd2
              go_wp2
              go_meet
              exact ⟨rfl, ⟨L, A1, n1, c1, hP, hR, HG.out.mono (by omega)⟩, b2, hsz, x1⟩
      case rest =>
        obtain ⟨rfl, ⟨L, A1, n1, c1, hP, hR, hG⟩, b3, hs3, x1⟩ := hcut
        clear hBo hXT b2 hsz
        have hlen := hG.len
        have hn1 : n1 ≤ 200 := by have := hR.len; omega
        have hkl : (kidsA L k).length ≤ 200 := by
          unfold kidsA
          split
          · have := kids_len L k; omega
          · simp
        have HP3 := Lib.hid hP
        have HR3 := Lib.hid hR
        have HG := Lib.hid hG
        clear hP hR hG
        go_upto_region 23 with (first
          | ((with_reducible go_at_call 18); (with_reducible refine (p_parent g gm L k _ HP3.out HK.out).mono ?_); rintro e w5 ⟨rfl, b5⟩; have x5 := cell_keep b5 x1)
          | ((with_reducible go_at_call 19); (with_reducible refine (r_parent _ _ A1 n1 c1 L k _ (HR3.out.keep b5) (by omega)).mono ?_); rintro e w9 ⟨rfl, rfl⟩)
          | ((with_reducible go_at_call 12); (with_reducible refine (p_children g gm L k _ (HP3.out.keep b5) HK.out (by omega)).mono ?_); rintro e w6 ⟨S6, c6, rfl, r6, b6⟩; have x6 := cell_keep b6 x5))
        have b56 := Ext.trans b5 b6
        have HPA := Lib.hid (fun w' (h' : Ext w6 w') => p_alive g gm L k w' (HP3.out.keep (Ext.trans b56 h')) HK.out)
        have HRA := Lib.hid (fun w' (h' : Ext w6 w') => r_alive _ _ A1 n1 c1 L k w' (HR3.out.keep (Ext.trans b56 h')) (by omega))
        have HRC := Lib.hid (fun w' (h' : Ext w6 w') => r_children _ _ A1 n1 c1 L k w' (HR3.out.keep (Ext.trans b56 h')) (by omega))
        have hs5 := b5.size
        have hs6 := b6.size
        have HIN := Lib.hid (fun A2 d2 w' (h' : Ext w6 w') (rd : Rd w' A2 (ints (kidsA L k))) => same_ints S6 A2 (kidsA L k).length (kidsA L k).length c6 d2 (kidsA L k) (kidsA L k) w' (by omega) (by omega) (r6.keep h').rd rd rfl rfl)
        simp only [decide_true] at HIN
        have HOV := Lib.hid (fun w' (h' : Ext w6 w') => over_ints2 S6 (kidsA L k).length c6 w5.heap.size (kidsA L k) w' (r6.keep h') (Nat.le_trans hs6 h'.size) (by omega))
        clear x1 x5 r6
        generalize kidsA L k = K at *
        generalize oPar (pget L k) = pr at *
        generalize (pget L k).isSome = ip at *
        generalize aliveB L k = al at *
        refine wp_region_dep (S := Ext) (C := Ext (w6)) (by kernel_rfl) (by kernel_rfl) rfl Ext.refl (Ext.drew _) ?_
        repeat (refine dep_det (by rfl) (fun K hK => ?_); go_simp; first
          | ((with_reducible refine hK _ ?_); clear hK K)
          | (rw [if_neg (by decide)]; (with_reducible refine hK _ ?_); clear hK K)
          | (refine ⟨_, fun w1 hw1 => ⟨Ext.refl w1, hw1, rfl⟩, hK _ ?_⟩; clear hK K)
          | (apply Exists.intro; refine ⟨fun w1 hw1 => ?_, hK _ ?_⟩
             first
               | (have c_x6 := cell_keep hw1 x6; go_simp; first | exact ⟨Ext.refl _, hw1, rfl⟩ | exact ⟨Ext.refl _, rfl⟩)
               | (go_at_call 20; ((with_reducible refine (HPA.out _ hw1).mono ?_); rintro e w' ⟨rfl, hb'⟩; exact ⟨_, rfl, hb', Ext.trans hw1 hb', rfl⟩))
               | (go_at_call 21; ((with_reducible refine (HRA.out _ hw1).mono ?_); rintro e w' ⟨rfl, rfl⟩; exact ⟨_, rfl, Ext.refl _, hw1, rfl⟩))
             clear hK K))
        refine dep_var (RdSl (ints K) K.length) 150 rfl (by rfl) RdSl.keep (by go_simp) (fun w1 hw1 => ?_) ?_
        · go_simp
          refine (HRC.out _ hw1).mono ?_
          rintro e w' ⟨A', c', rfl, hrow, hb'⟩
          exact ⟨_, rfl, hb', Ext.trans hw1 hb', _, _, rfl, hrow.rd⟩
        refine dep_det1 150 _ (by rfl) (by intro V' h; simpa using h) (List.mem_cons_self ..) (by first | (simp; done) | simp [Act.put]) (fun K hK => ?_)
        apply Exists.intro
        refine ⟨fun w1 v hw1 hV => ?_, hK _ ?_⟩
        · obtain ⟨A', c', rfl, ho⟩ := hV
          go_simp
          refine (HIN.out A' c' w1 hw1 ho).mono ?_
          rintro e w' ⟨rfl, qq, rfl⟩
          exact ⟨_, rfl, Ext.drewN _ qq, Ext.trans hw1 (Ext.drewN _ qq), rfl⟩
        clear hK K
        repeat (refine dep_det (by rfl) (fun K hK => ?_); go_simp; first
          | ((with_reducible refine hK _ ?_); clear hK K)
          | (rw [if_neg (by decide)]; (with_reducible refine hK _ ?_); clear hK K)
          | (refine ⟨_, fun w1 hw1 => ⟨Ext.refl w1, hw1, rfl⟩, hK _ ?_⟩; clear hK K))
        refine dep_nil ?_
        intro a' w' hC hE
        obtain ⟨v, ⟨A', c', rfl, _⟩, hE⟩ := atEnd_cons hE (by simp) (by first | (simp; done) | simp [Act.put])
        obtain rfl := atEnd_nil hE
        clear hE
        go_wp2_with ((with_reducible go_at_call 24); (with_reducible refine (HOV.out _ hC).mono ?_); rintro e w7 ⟨rfl, b7, _⟩)
        have b37 : Ext wc w7 := Ext.trans b5 (Below.trans (Ext.trans b6 hC) b7)
        go_roundw
        case rel => exact ⟨i + 1, by go_num, by omega, ⟨L, A1, n1, c1, HP3.out.keep b37, HR3.out.keep b37, HG.out⟩, Ext.trans b3 b37, Nat.le_trans hs3 b37.size⟩
        case measure => simp [intOf]; omega
    · obtain rfl : i = m := by omega
      go_wp2_with ((with_reducible go_at_call 13); (with_reducible refine (HAW.out _).mono ?_); rintro e w9 ⟨rfl, b9⟩)
      go_ret
      exact ⟨rfl, Ext.trans b2 b9⟩

end Go.Proofs.Ytdgggdhligfnpaa
