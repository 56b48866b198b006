/-
  SLAB: the walk of the statement SlabApart.
-/
import Derived.Test.YtkdhinemianndaaSlbI
import Derived.Test.YtkdhinemianndaaDel
namespace Go.Proofs.Ytkdhinemianndaa
open Go.RowKit Go.Maps
attribute [local go_sem] depUpon Sp.ok

theorem SW.grown {w w' : World} {B gs gf : Nat} {p : FP} {L : List Pc} {P : Nat → Prop} (h : SW w B gs gf p L P) {S : Option Addr} (hg : w.grownBy w' (blk S)) (hS : ∀ i, blk S = some i → ¬ P i) : SW w' B gs gf p L P :=
  h.other (Tr.grown (P := fun i => blk S = some i) hg fun _ hg => .inl hg) fun i hi q => hS i q hi
theorem SW.apart {w : World} {B gs gf : Nat} {p : FP} {L : List Pc} {P : Nat → Prop} (h : SW w B gs gf p L P) {b n c : Nat} {S : Option Addr} {xs : List Value} (hr : Row w b 23 3 S n c xs) : ∀ i, blk S = some i → ¬ P i :=
  h.noRow hr (by decide) (by decide) (by decide) (by decide) (by decide)
theorem mul_le {s z : Int} (h0 : 0 ≤ s) (hz : z = 16 ∨ z = 32 ∨ z = 64) (h : s * z + z ≤ 64) : 0 ≤ s * z ∧ s * z ≤ 64 := by
  have : 0 ≤ s * z := Int.mul_nonneg h0 (by omega)
  omega

set_option maxRecDepth 100000 in
set_option maxHeartbeats 8000000 in
theorem law_slabapart (A : Option Addr) (m c : Nat) (X : Nat → A5) (w : World) (ga : Acts5 w A m X) :
    Calls Try.prog 5 #[.slice A m c] w fun e w' => e = .returned (.bool true) ∧ Below w.heap.size w w' := by
  have HAW := Lib.hid (fun w => slb_awake w)
  by_cases h100 : 100 < m
  · have h1 : (100 : Int) < (m : Int) := by omega
    clear ga
    go_enter Try.func5, Try.ntmps5
    go_wp2_with ((with_reducible go_at_call 10); (with_reducible refine (HAW.out _).mono ?_); rintro e w1 ⟨rfl, b1⟩)
    go_ret
    exact ⟨rfl, b1⟩
  have m1 : (m : Int) ≤ 100 := by omega
  have HZ := Lib.hid ga
  have hn := f_new 4 w (by omega) (by omega)
  rw [show ((4 : Nat) : Int) = 4 from rfl] at hn
  have HN := Lib.hid hn
  have HS := Lib.hid (fun gf w => s_new gf w)
  obtain ⟨i0, hi0, hz0, hz1, hz2⟩ := info_parts info_ref
  have HI := Lib.hid hi0
  clear hn ga hi0
  go_enter Try.func5, Try.ntmps5
  go_wp2_with (first
    | ((with_reducible go_at_call 11); (with_reducible refine HN.out.mono ?_); rintro e w1 ⟨gf, gb, gt, rfl, f1, b1⟩; have F1 := Lib.hid f1; clear f1)
    | ((with_reducible go_at_call 13); (with_reducible refine (HS.out _ _).mono ?_); rintro e w2 ⟨gs, gm, rfl, s2, b2⟩; obtain ⟨P2, S2⟩ := SW.made F1.out s2 b1 b2; have b12 := Ext.trans b1 b2; have S2 := Lib.hid S2; clear s2 F1))
  go_loopw [6, 7] (fun v q wr => ∃ (i : Nat) (p : FP) (L : List Pc) (P : Nat → Prop) (nw : List X3) (S : Option Addr) (c1 : Nat), v = .slice S nw.length c1 ∧ q = .int .i64 (i : Int) ∧ i ≤ m ∧ SW wr w.heap.size gs gf p L P ∧ p.n = 4 ∧ Inv p L nw ∧ Row wr w.heap.size 23 3 S nw.length c1 (trips nw) ∧ Ext w wr) (fun _ q _ => m - (intOf q).toNat)
  case atStart => exact ⟨0, p0 4, [], P2, [], none, 0, rfl, rfl, by omega, S2.out, rfl, Inv.zero, Row.nil _ _ _ _, b12⟩
  case round =>
    clear S2 b1 b2 b12 HN HS
    obtain ⟨i, p, L, P, nw, S, c1, rfl, rfl, hi, hS, hp4, hV, hR, h4⟩ := hrel
    have hn16 : nw.length ≤ 16 := by
      have h1 := hV.tot
      have h2 := hS.sp.tot
      omega
    by_cases hlt : i < m
    · have i0' : (0 : Int) ≤ (i : Int) := by omega
      have i1' : (i : Int) < (m : Int) := by omega
      obtain ⟨_, b, off, rfl, hc⟩ := HZ.out.at_ i hlt
      generalize X i = x at *
      obtain ⟨xg, xr, xs, xk, xa, xb, xc⟩ := x
      have e0 := cell_keep h4 (hc 0 _ rfl)
      have e1 := cell_keep h4 (hc 1 _ rfl)
      have e2 := cell_keep h4 (hc 2 _ rfl)
      have e3 := cell_keep h4 (hc 3 _ rfl)
      have e4 := cell_keep h4 (hc 4 _ rfl)
      have e5 := cell_keep h4 (hc 5 _ rfl)
      have e6 := cell_keep h4 (hc 6 _ rfl)
      simp only [Nat.add_zero, ← Nat.add_assoc] at e0 e1 e2 e3 e4 e5 e6
      have bX := Ext.alloc wr (.cells #[.bool xg, .bool xr, .int .i64 xs, .int .i64 xk, .int .i64 xa, .int .i64 xb, .int .i64 xc] 47)
      have oX := Own.new wr 47 [.bool xg, .bool xr, .int .i64 xs, .int .i64 xk, .int .i64 xa, .int .i64 xb, .int .i64 xc]
      go_upto_region 12 with fail
      have x0 := oX.cell 0
      have x2 := oX.cell 2
      have x3 := oX.cell 3
      simp only [List.getElem?_cons_zero, List.getElem?_cons_succ] at x0 x2 x3
      have SX := Lib.hid (hS.keep bX)
      have RX := Lib.hid (hR.keep bX)
      have OX := Lib.hid oX
      have hB3 := (Ext.trans h4 bX).size
      have H4 := Lib.hid (Ext.trans h4 bX)
      have HV := Lib.hid hV
      clear e0 e1 e2 e3 e4 e5 e6 hS hR h4 bX oX hV hc
      generalize (wr.alloc (.cells #[.bool xg, .bool xr, .int .i64 xs, .int .i64 xk, .int .i64 xa, .int .i64 xb, .int .i64 xc] 47)) = w3 at *
      generalize wr.heap.size = hx at *
      cases xg
      · have HT := Lib.hid (sw_take _ gs gf p L P xs w3 SX.out hB3)
        have HTS := Lib.hid (fun he => take_spec SX.out.sp SX.out.ok (size := xs) he)
        have HTN := Lib.hid (fun he => take_no (p := p) (L := L) (size := xs) he)
        have HP4 := Lib.hid (show (takeL p L xs).1.n = 4 by rw [take_n]; exact hp4)
        generalize takeL p L xs = pl at *
        generalize takeV p L xs = tv at *
        obtain ⟨vf, vs, vz, ve⟩ := tv
        obtain ⟨p', L'⟩ := pl
        simp only at HT HTS HTN HP4
        go_upto_region 19 with ((with_reducible go_at_call 6); (with_reducible refine HT.out.mono ?_); rintro e w4 ⟨rfl, P4, s4, t4⟩)
        have b4 := t4.belowOf H4.out SX.out.ge
        have bR := Ext.alloc w4 (.cells #[.int .i64 vf, .int .i64 vs, .int .i64 vz] 23)
        have oR := Own.new w4 23 [.int .i64 vf, .int .i64 vs, .int .i64 vz]
        have S4 := Lib.hid (s4.keep bR)
        have R4 := Lib.hid ((t4.row RX.out (SX.out.apart RX.out)).keep bR)
        have O4 := Lib.hid ((t4.own OX.out (SX.out.no OX.out (by decide) (by decide) (by decide) (by decide) (by decide))).keep bR)
        have B4 := Lib.hid (Ext.trans b4 bR)
        have hB5 := (Ext.trans b4 bR).size
        have OR := Lib.hid oR
        clear s4 t4 bR oR b4 x0 x2 x3 HT
        generalize (w4.alloc (.cells #[.int .i64 vf, .int .i64 vs, .int .i64 vz] 23)) = w5 at *
        generalize w4.heap.size = hr at *
        by_cases he : ve = 0
        rotate_left
        · have HE := Lib.hid (HTN.out he)
          have te : (ve != 0) = true := by simp [he]
          go_wp2
          go_roundw
          case rel =>
            have hE := HE.out
            injection hE with hE1 hE2
            subst hE1; subst hE2
            exact ⟨i + 1, _, _, P4, nw, S, c1, rfl, by go_num, by omega, S4.out, HP4.out, HV.out, R4.out, B4.out⟩
          case measure => simp [intOf]; omega
        subst he
        have hT := HTS.out rfl
        have HVV := Lib.hid (HV.out.take hT)
        have hbig := hT.big
        have hsl := hT.slot
        have hfit := hT.fits
        have hszs := hT.sz
        have hkn := hT.known
        have hf0 := hT.f0
        have HAP := Lib.hid (fun k (hk : k < nw.length) => hT.apart nw[k] (HV.out.has _ (List.getElem_mem hk)))
        simp only at hbig hsl hfit hszs hkn hf0 HAP
        obtain ⟨hm0, hm1⟩ := mul_le hsl.1 hszs hfit
        have hf1 := hf0.1
        have hf2 := hf0.2
        have hs1 := hsl.1
        have hs2 := hsl.2
        have hz1' : 0 ≤ vz ∧ vz ≤ 64 := by rcases hszs with rfl | rfl | rfl <;> omega
        have hzl := hz1'.1
        have hzh := hz1'.2
        have y0 := OR.out.cell 0
        have y1 := OR.out.cell 1
        have y2 := OR.out.cell 2
        have x2 := O4.out.cell 2
        simp only [List.getElem?_cons_zero, List.getElem?_cons_succ] at y0 y1 y2 x2
        have HH := Lib.hid (sw_fhas _ gs gf p' L' P4 vf w5 S4.out)
        rw [hkn] at HH
        clear hT HTS HTN hsl hf0 hkn hszs hz1'
        go_upto_region 22 with ((with_reducible go_at_call 24); (with_reducible refine (HH.out).mono ?_); rintro e w' ⟨rfl, rfl⟩)
        clear x2 hbig hfit hm0 hm1
        go_wp2
        go_loopw [12] (fun q wr => ∃ k : Nat, q = .int .i64 (k : Int) ∧ k ≤ nw.length ∧ Ext w5 wr) (fun q _ => nw.length - (intOf q).toNat)
        case atStart => exact ⟨0, rfl, by omega, Ext.refl _⟩
        case round =>
          clear y0 y1 y2
          obtain ⟨k, rfl, hk, q2⟩ := hrel
          have y0 := (OR.out.keep q2).cell 0
          have y1 := (OR.out.keep q2).cell 1
          have y2 := (OR.out.keep q2).cell 2
          simp only [List.getElem?_cons_zero, List.getElem?_cons_succ] at y0 y1 y2
          have k0' : (0 : Int) ≤ (k : Int) := by omega
          by_cases hkl : k < nw.length
          · have k1' : (k : Int) < (nw.length : Int) := by omega
            obtain ⟨bn, on, rfl, n0, n1, n2⟩ := (R4.out.keep q2).rd.trip hkl
            have hap := HAP.out k hkl
            generalize nw[k].1 = nf at *
            generalize nw[k].2.1 = ns at *
            generalize nw[k].2.2 = nz at *
            by_cases hff : nf = vf
            · have hap1 := (hap hff).1
              have tf : (nf == vf) = true := by simp [hff]
              have tz : (nz != vz) = false := by simp [hap1]
              have ts : (ns == vs) = false := by simpa using (hap hff).2
              clear hap hap1 hff
              go_wp2
              refine wp_region_dep (S := Ext) (C := Ext (_)) (by kernel_rfl) (by kernel_rfl) rfl Ext.refl (Ext.drew _) ?_
              repeat (refine dep_det (by rfl) (fun K hK => ?_); go_simp; first
                | ((with_reducible refine hK _ ?_); clear hK K)
                | (rw [if_neg (by decide)]; (with_reducible refine hK _ ?_); clear hK K)
                | (refine ⟨_, fun w1 hw1 => ⟨Ext.refl w1, hw1, rfl⟩, hK _ ?_⟩; clear hK K)
                | (apply Exists.intro; refine ⟨fun w1 hw1 => ?_, hK _ ?_⟩
                   first
                     | (have c_n0 := cell_keep hw1 n0; have c_n1 := cell_keep hw1 n1; have c_n2 := cell_keep hw1 n2; have c_y0 := cell_keep hw1 y0; have c_y1 := cell_keep hw1 y1; have c_y2 := cell_keep hw1 y2; go_simp; first | exact ⟨Ext.refl _, hw1, rfl⟩ | exact ⟨Ext.refl _, rfl⟩)
                   clear hK K))
              refine dep_nil ?_
              intro a' w' hC hE
              obtain rfl := atEnd_nil hE
              clear hE
              go_wp2
              go_roundw
              case rel => exact ⟨k + 1, by go_num, by omega, Ext.trans q2 hC⟩
              case measure => simp [intOf]; omega
            · have tf : (nf == vf) = false := by simp [hff]
              clear hap hff
              go_wp2
              refine wp_region_dep (S := Ext) (C := Ext (_)) (by kernel_rfl) (by kernel_rfl) rfl Ext.refl (Ext.drew _) ?_
              repeat (refine dep_det (by rfl) (fun K hK => ?_); go_simp; first
                | ((with_reducible refine hK _ ?_); clear hK K)
                | (rw [if_neg (by decide)]; (with_reducible refine hK _ ?_); clear hK K)
                | (refine ⟨_, fun w1 hw1 => ⟨Ext.refl w1, hw1, rfl⟩, hK _ ?_⟩; clear hK K)
                | (apply Exists.intro; refine ⟨fun w1 hw1 => ?_, hK _ ?_⟩
                   first
                     | (have c_n0 := cell_keep hw1 n0; have c_n1 := cell_keep hw1 n1; have c_n2 := cell_keep hw1 n2; have c_y0 := cell_keep hw1 y0; have c_y1 := cell_keep hw1 y1; have c_y2 := cell_keep hw1 y2; go_simp; first | exact ⟨Ext.refl _, hw1, rfl⟩ | exact ⟨Ext.refl _, rfl⟩)
                   clear hK K))
              refine dep_nil ?_
              intro a' w' hC hE
              obtain rfl := atEnd_nil hE
              clear hE
              go_wp2
              go_roundw
              case rel => exact ⟨k + 1, by go_num, by omega, Ext.trans q2 hC⟩
              case measure => simp [intOf]; omega
          · obtain rfl : k = nw.length := by omega
            have RK := Lib.hid (R4.out.keep q2)
            have SK := Lib.hid (S4.out.keep q2)
            have hsz := q2.size
            clear hlt hi hk hkl
            go_wp2_with (at_builtin; have r7 := (RK.out.alloc (.cells #[.int .i64 vf, .int .i64 vs, .int .i64 vz] 23)); refine wpl_append _ rfl (.tmp 133) (.tmp 135) 45 rfl 23 i0 _ 3 24 Try.underlying45 HI.out hz0 hz1 hz2 rfl (by omega) w.heap.size S nw.length c1 _ rfl r7 _ 1 1 (trips [(vf, vs, vz)]) rfl rfl (Own.new wr 23 (trips [(vf, vs, vz)])).rd0 (trips_one _) (nw.length + 1) _ rfl (trips_app _ _) (by omega) (by omega) (by simp; omega) ?_; intro A6 c6 w6 o6 g6 k6; have e6 := below_grown (Ext.trans (Ext.trans B4.out q2) (Ext.alloc wr (.cells #[.int .i64 vf, .int .i64 vs, .int .i64 vz] 23))) g6 (by simp; omega) (fun gg hg => (r7.at_ gg hg).1); have S6 := Lib.hid ((SK.out.keep (Ext.alloc wr (.cells #[.int .i64 vf, .int .i64 vs, .int .i64 vz] 23))).grown g6 ((SK.out.keep (Ext.alloc wr (.cells #[.int .i64 vf, .int .i64 vs, .int .i64 vz] 23))).apart r7)); clear r7)
            go_roundw
            case rel => exact ⟨i + 1, p', L', P4, nw ++ [(vf, vs, vz)], A6, c6, by rw [List.length_append]; rfl, by go_num, by omega, S6.out, HP4.out, HVV.out, by rw [List.length_append]; exact o6, e6⟩
            case measure => simp [intOf]; omega
      · by_cases hl0 : nw = []
        · subst hl0
          go_wp2
          go_roundw
          case rel => exact ⟨i + 1, p, L, P, [], S, c1, rfl, by go_num, by omega, SX.out, hp4, HV.out, RX.out, H4.out⟩
          case measure => simp [intOf]; omega
        · have hpos : 0 < nw.length := List.length_pos_iff.2 hl0
          have p1' : (0 : Int) < (nw.length : Int) := by omega
          have HL := Lib.hid (fun w => low_any xk (nw.length : Int) w (by omega) (by omega))
          have k0 := low_lo xk (nw.length : Int) (by omega)
          have k1 := low_hi xk (nw.length : Int) (by omega)
          generalize low xk (nw.length : Int) = kz at *
          obtain ⟨k, rfl⟩ : ∃ k : Nat, kz = (k : Int) := ⟨kz.toNat, by omega⟩
          have hk : k < nw.length := by omega
          obtain ⟨bn, on, rfl, n0, n1, n2⟩ := RX.out.rd.trip hk
          obtain ⟨hge, hI⟩ := HV.out.give SX.out.sp hk
          have HG := Lib.hid (fun (hf : I64 _) (hi2 : I64 _) => sw_give _ gs gf p L P nw[k].1 nw[k].2.1 nw[k].2.2 w3 SX.out hB3 hf hi2)
          rw [hge] at HG
          have HI64 := Lib.hid (has3_i64 SX.out.sp SX.out.ok (HV.out.has _ (List.getElem_mem hk)))
          have HII := Lib.hid hI
          have HP4 := Lib.hid (show (giveL p L nw[k].1 nw[k].2.1 nw[k].2.2).1.n = 4 by rw [give_n]; exact hp4)
          generalize giveL p L nw[k].1 nw[k].2.1 nw[k].2.2 = pl at *
          have hcap := Row.le RX.out
          have LT := Lib.hid (by rw [trips_len, List.length_take]; omega : (trips (nw.take k)).length = k * 3)
          have NL := Lib.hid (show (nw.take k ++ nw.drop (k + 1)).length = k + (nw.length - (k + 1)) by rw [List.length_append, List.length_take, List.length_drop]; omega)
          clear hge hI hl0
          go_upto_region 17 with (first
            | ((with_reducible go_at_call 16); (with_reducible refine (HL.out _).mono ?_); rintro e w' ⟨rfl, rfl⟩)
            | ((with_reducible go_at_call 7); (with_reducible refine (HG.out HI64.out.1 HI64.out.2).mono ?_); rintro e w5 ⟨rfl, P5, s5, t5⟩; have S5 := Lib.hid s5; have R5 := Lib.hid (t5.row RX.out (SX.out.apart RX.out)); have b5 := t5.belowOf H4.out SX.out.ge; clear s5 t5))
          have hk1 : IntKind.i64.wrap ((k : Int) + 1) = (k : Int) + 1 := IntWalk.i64_in _ ⟨by omega, by omega⟩
          have kk1 : (k : Int) ≤ (c1 : Int) := by omega
          have kk2 : (k : Int) + 1 ≤ (nw.length : Int) := by omega
          have kk3 : (nw.length : Int) ≤ (c1 : Int) := by omega
          have HT := Lib.hid (fun w1 (h1 : Ext w5 w1) => by
            have := (R5.out.keep h1).rd.take (k * 3)
            rwa [← trips_take] at this)
          clear n0 n1 n2 x0 x2 x3
          by_cases hcc : c1 = k + 1
          · subst hcc
            have hq1 : (k : Int) ≤ (k : Int) + 1 := by omega
            have hq2 : (nw.length : Int) ≤ (k : Int) + 1 := by omega
            have hq3 : nw.length = k + 1 := by omega
            have hd0 : nw.drop (k + 1) = [] := List.drop_eq_nil_of_le (by omega)
            have HD := Lib.hid (fun w1 (_ : Ext w5 w1) => show Rd w1 (some ⟨bn, on, none⟩) (trips (nw.drop (k + 1))) by
              rw [hd0]; exact Rd.nil _ _)
            have LD := Lib.hid (by rw [hd0]; rfl : (trips (nw.drop (k + 1))).length = 0 * 3)
            have NL2 := Lib.hid (show (nw.take k ++ nw.drop (k + 1)).length = k + 0 by rw [NL.out]; omega)
            clear hd0
            rw [hq3]
            clear kk2 kk3 hq2
            refine wp_region_dep_tail 9 (S := Rx w5.heap.size 23 3 k 0 (trips (nw.take k)) (trips (nw.take k) ++ trips (nw.drop (k + 1)))) (C := Ext w5) (by kernel_rfl) (by kernel_rfl) rfl Rx.refl (Ext.drew _) ?_
            simp only [List.take_succ_cons, List.take_zero]
            repeat (refine dep_det (by rfl) (fun K hK => ?_); go_simp; first
              | ((with_reducible refine hK _ ?_); clear hK K)
              | (rw [if_neg (by decide)]; (with_reducible refine hK _ ?_); clear hK K)
              | (refine ⟨_, fun w1 hw1 => ⟨Rx.refl w1, hw1, rfl⟩, hK _ ?_⟩; clear hK K))
            refine dep_var (RwV w5.heap.size 23 3 k (trips (nw.take k))) 56 rfl (by rfl) RwV.one (by go_simp) (fun w1 hw1 => ?_) ?_
            · obtain ⟨A', c', w', hrun, hh⟩ := rx_first (P := Try.prog) w5 w1 45 45 23 i0 _ 3 24 Try.underlying45 HI.out hz0 hz1 hz2 rfl (by omega) hw1 (some ⟨bn, on, none⟩) k (k + 1) (trips (nw.take k)) (trips (nw.take k) ++ trips (nw.drop (k + 1))) 0 LT.out (HT.out w1 hw1) (trips_one _) (by omega) (by omega)
              exact dep_append rfl hrun hh
            repeat (refine dep_det (by rfl) (fun K hK => ?_); go_simp; first
              | ((with_reducible refine hK _ ?_); clear hK K)
              | (rw [if_neg (by decide)]; (with_reducible refine hK _ ?_); clear hK K)
              | (refine ⟨_, fun w1 hw1 => ⟨Rx.refl w1, hw1, rfl⟩, hK _ ?_⟩; clear hK K))
            refine dep_var1 56 _ (RwV w5.heap.size 23 3 (k + 0) (trips (nw.take k) ++ trips (nw.drop (k + 1)))) 61 rfl (by rfl) (by intro V' h; simpa using h) (List.mem_cons_self ..) (by first | (simp; done) | simp [Act.put]) RwV.two (fun w1 v hw1 hV => ⟨by go_simp, ?_⟩) ?_
            · obtain ⟨A', c', w', hrun, hh⟩ := rx_second (P := Try.prog) w5 w1 45 45 23 i0 _ 3 24 Try.underlying45 HI.out hz0 hz1 hz2 rfl (by omega) hw1 _ k 0 _ (trips (nw.take k)) (trips (nw.drop (k + 1))) v hV LD.out (HD.out w1 hw1) (trips_one _) (by omega) (by omega)
              exact dep_append rfl hrun hh
            repeat (refine dep_det (by rfl) (fun K hK => ?_); go_simp; first
              | ((with_reducible refine hK _ ?_); clear hK K)
              | (rw [if_neg (by decide)]; (with_reducible refine hK _ ?_); clear hK K)
              | (refine ⟨_, fun w1 hw1 => ⟨Rx.refl w1, hw1, rfl⟩, hK _ ?_⟩; clear hK K))
            refine dep_nil ?_
            intro a' w' hC hE
            obtain ⟨v, ⟨A2, d2, rfl, r2⟩, hE⟩ := atEnd_cons hE (by simp) (by first | (simp; done) | simp [Act.put])
            obtain ⟨v, ⟨A1, d1, rfl, r1⟩, hE⟩ := atEnd_cons hE (by simp) (by first | (simp; done) | simp [Act.put])
            obtain rfl := atEnd_nil hE
            clear hE
            simp only [List.drop_succ_cons, List.drop_zero]
            have RN := Lib.hid (show Row w' w.heap.size 23 3 A2 (nw.take k ++ nw.drop (k + 1)).length d2 (trips (nw.take k ++ nw.drop (k + 1))) by rw [NL2.out, ← trips_app]; exact r2.mono b5.size)
            have SN := Lib.hid (S5.out.keep hC)
            clear r1 r2
            go_wp2
            go_roundw
            case rel => exact ⟨i + 1, _, _, P5, nw.take k ++ nw.drop (k + 1), A2, d2, by rw [NL2.out] <;> rfl, by go_num, by omega, SN.out, HP4.out, HII.out, RN.out, Ext.trans b5 hC⟩
            case measure => simp [intOf]; omega
          · have hq3 : (k : Int) + 1 < (c1 : Int) := by omega
            have hc1 : ¬ c1 - (k + 1) = 0 := by omega
            have HD := Lib.hid (fun w1 (h1 : Ext w5 w1) => show Rd w1 (some ⟨bn, on + (k + 1) * 3, none⟩) (trips (nw.drop (k + 1))) by
              rw [trips_drop]; exact (R5.out.keep h1).rd.dropAt _)
            have LD := Lib.hid (by rw [trips_len, List.length_drop]; omega : (trips (nw.drop (k + 1))).length = (nw.length - (k + 1)) * 3)
            have NL2 := NL
            refine wp_region_dep_tail 9 (S := Rx w5.heap.size 23 3 k (nw.length - (k + 1)) (trips (nw.take k)) (trips (nw.take k) ++ trips (nw.drop (k + 1)))) (C := Ext w5) (by kernel_rfl) (by kernel_rfl) rfl Rx.refl (Ext.drew _) ?_
            simp only [List.take_succ_cons, List.take_zero]
            repeat (refine dep_det (by rfl) (fun K hK => ?_); go_simp; first
              | ((with_reducible refine hK _ ?_); clear hK K)
              | (rw [if_neg (by decide)]; (with_reducible refine hK _ ?_); clear hK K)
              | (refine ⟨_, fun w1 hw1 => ⟨Rx.refl w1, hw1, rfl⟩, hK _ ?_⟩; clear hK K))
            refine dep_var (RwV w5.heap.size 23 3 k (trips (nw.take k))) 56 rfl (by rfl) RwV.one (by go_simp) (fun w1 hw1 => ?_) ?_
            · obtain ⟨A', c', w', hrun, hh⟩ := rx_first (P := Try.prog) w5 w1 45 45 23 i0 _ 3 24 Try.underlying45 HI.out hz0 hz1 hz2 rfl (by omega) hw1 (some ⟨bn, on, none⟩) k c1 (trips (nw.take k)) (trips (nw.take k) ++ trips (nw.drop (k + 1))) (nw.length - (k + 1)) LT.out (HT.out w1 hw1) (trips_one _) (by omega) (by omega)
              exact dep_append rfl hrun hh
            repeat (refine dep_det (by rfl) (fun K hK => ?_); go_simp; first
              | ((with_reducible refine hK _ ?_); clear hK K)
              | (rw [if_neg (by decide)]; (with_reducible refine hK _ ?_); clear hK K)
              | (refine ⟨_, fun w1 hw1 => ⟨Rx.refl w1, hw1, rfl⟩, hK _ ?_⟩; clear hK K))
            refine dep_var1 56 _ (RwV w5.heap.size 23 3 (k + (nw.length - (k + 1))) (trips (nw.take k) ++ trips (nw.drop (k + 1)))) 61 rfl (by rfl) (by intro V' h; simpa using h) (List.mem_cons_self ..) (by first | (simp; done) | simp [Act.put]) RwV.two (fun w1 v hw1 hV => ⟨by go_simp, ?_⟩) ?_
            · obtain ⟨A', c', w', hrun, hh⟩ := rx_second (P := Try.prog) w5 w1 45 45 23 i0 _ 3 24 Try.underlying45 HI.out hz0 hz1 hz2 rfl (by omega) hw1 _ k (nw.length - (k + 1)) _ (trips (nw.take k)) (trips (nw.drop (k + 1))) v hV LD.out (HD.out w1 hw1) (trips_one _) (by omega) (by omega)
              exact dep_append rfl hrun hh
            repeat (refine dep_det (by rfl) (fun K hK => ?_); go_simp; first
              | ((with_reducible refine hK _ ?_); clear hK K)
              | (rw [if_neg (by decide)]; (with_reducible refine hK _ ?_); clear hK K)
              | (refine ⟨_, fun w1 hw1 => ⟨Rx.refl w1, hw1, rfl⟩, hK _ ?_⟩; clear hK K))
            refine dep_nil ?_
            intro a' w' hC hE
            obtain ⟨v, ⟨A2, d2, rfl, r2⟩, hE⟩ := atEnd_cons hE (by simp) (by first | (simp; done) | simp [Act.put])
            obtain ⟨v, ⟨A1, d1, rfl, r1⟩, hE⟩ := atEnd_cons hE (by simp) (by first | (simp; done) | simp [Act.put])
            obtain rfl := atEnd_nil hE
            clear hE
            simp only [List.drop_succ_cons, List.drop_zero]
            have RN := Lib.hid (show Row w' w.heap.size 23 3 A2 (nw.take k ++ nw.drop (k + 1)).length d2 (trips (nw.take k ++ nw.drop (k + 1))) by rw [NL2.out, ← trips_app]; exact r2.mono b5.size)
            have SN := Lib.hid (S5.out.keep hC)
            clear r1 r2
            go_wp2
            go_roundw
            case rel => exact ⟨i + 1, _, _, P5, nw.take k ++ nw.drop (k + 1), A2, d2, by rw [NL2.out] <;> rfl, by go_num, by omega, SN.out, HP4.out, HII.out, RN.out, Ext.trans b5 hC⟩
            case measure => simp [intOf]; omega
    · have HLN := Lib.hid (sw_len _ gs gf p L P wr hS)
      have hto := hV.tot
      rw [← hto] at HLN
      have HSS := Lib.hid hS
      have HVS := Lib.hid hV
      have HRR := Lib.hid hR
      clear hto hS hV hR hi
      go_wp2_with ((with_reducible go_at_call 9); (with_reducible refine HLN.out.mono ?_); rintro e w3 ⟨rfl, b3⟩)
      go_loopw [13] (fun q wr => ∃ (j : Nat) (p' : FP) (L' : List Pc) (P' : Nat → Prop), q = .int .i64 (j : Int) ∧ j ≤ nw.length ∧ SW wr w.heap.size gs gf p' L' P' ∧ p'.n = 4 ∧ Inv p' L' (nw.drop j) ∧ Row wr w.heap.size 23 3 S nw.length c1 (trips nw) ∧ Ext w wr) (fun q _ => nw.length - (intOf q).toNat)
      case atStart => exact ⟨0, p, L, P, rfl, by omega, HSS.out.keep b3, hp4, HVS.out, HRR.out.keep b3, Ext.trans h4 b3⟩
      case round =>
        clear HSS HVS HRR b3 h4 hp4 HLN
        obtain ⟨j, p', L', P', rfl, hj, hS, hp4, hV, hR, h4⟩ := hrel
        have j0' : (0 : Int) ≤ (j : Int) := by omega
        by_cases hjl : j < nw.length
        · have j1' : (j : Int) < (nw.length : Int) := by omega
          obtain ⟨bn, on, rfl, n0, n1, n2⟩ := hR.rd.trip hjl
          have hd : nw.drop j = nw[j] :: nw.drop (j + 1) := List.drop_eq_getElem_cons hjl
          rw [hd] at hV
          obtain ⟨hge, hI⟩ := hV.give hS.sp (k := 0) (by rw [List.length_cons]; omega)
          simp only [List.getElem_cons_zero, List.take_zero, List.nil_append, Nat.zero_add, List.drop_succ_cons, List.drop_zero] at hge hI
          have HG := Lib.hid (fun (hf : I64 _) (hi2 : I64 _) => sw_give _ gs gf p' L' P' nw[j].1 nw[j].2.1 nw[j].2.2 wr hS h4.size hf hi2)
          rw [hge] at HG
          have HI64 := Lib.hid (has3_i64 hS.sp hS.ok (hV.has nw[j] (List.mem_cons_self ..)))
          have HII := Lib.hid hI
          have HP4 := Lib.hid (show (giveL p' L' nw[j].1 nw[j].2.1 nw[j].2.2).1.n = 4 by rw [give_n]; exact hp4)
          have HSS := Lib.hid hS
          have HRR := Lib.hid hR
          clear hge hI hV hd hS hR
          generalize giveL p' L' nw[j].1 nw[j].2.1 nw[j].2.2 = pl at *
          go_wp2_with ((with_reducible go_at_call 7); (with_reducible refine (HG.out HI64.out.1 HI64.out.2).mono ?_); rintro e w5 ⟨rfl, P5, s5, t5⟩; have S5 := Lib.hid s5; have R5 := Lib.hid (t5.row HRR.out (HSS.out.apart HRR.out)); have b5 := t5.belowOf h4 HSS.out.ge; clear s5 t5)
          go_roundw
          case rel => exact ⟨j + 1, _, _, P5, by go_num, by omega, S5.out, HP4.out, HII.out, R5.out, b5⟩
          case measure => simp [intOf]; omega
        · obtain rfl : j = nw.length := by omega
          rw [List.drop_length] at hV
          obtain ⟨ht0, hfr⟩ := hV.end_ hS.sp hS.ok
          have HF := Lib.hid (sw_free _ gs gf p' L' P' wr hS)
          rw [hfr, hp4, show ((4 : Nat) : Int) = 4 from rfl] at HF
          have HLN := Lib.hid (fun w' (h : Ext wr w') => sw_len _ gs gf p' L' P' w' (hS.keep h))
          rw [ht0, show ((0 : Nat) : Int) = 0 from rfl] at HLN
          clear ht0 hfr hS hV hR hp4
          go_wp2_with (first
            | ((with_reducible go_at_call 20); (with_reducible refine HF.out.mono ?_); rintro e w5 ⟨rfl, b5⟩)
            | ((with_reducible go_at_call 9); (with_reducible refine (HLN.out _ b5).mono ?_); rintro e w6 ⟨rfl, b6⟩)
            | ((with_reducible go_at_call 10); (with_reducible refine (HAW.out _).mono ?_); rintro e w7 ⟨rfl, b7⟩))
          go_ret
          exact ⟨rfl, Ext.trans h4 (Ext.trans b5 (Ext.trans b6 b7))⟩

end Go.Proofs.Ytkdhinemianndaa
