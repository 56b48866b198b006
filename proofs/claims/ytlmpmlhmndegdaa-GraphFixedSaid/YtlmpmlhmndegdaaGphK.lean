/-
  WALK of the statement GraphFixed, chapter 11.
-/
import Derived.Test.YtlmpmlhmndegdaaGphI
namespace Go.Proofs.Ytlmpmlhmndegdaa
open Go.RowKit
attribute [local go_sem] depUpon Sp.ok

set_option maxRecDepth 100000 in
set_option maxHeartbeats 8000000 in
theorem law_graphfixed (D : Option Addr) (n cd : Nat) (base : List P3) (A : Option Addr) (na ca : Nat) (ws : List Int) (B : Option Addr) (nb cb : Nat) (os : List Int) (w : World) (gd : TripsArg w D n base) (ga : IntsArg w A na ws) (gb : IntsArg w B nb os) :
    Calls Try.prog 4 #[.slice D n cd, .slice A na ca, .slice B nb cb] w fun e w' => e = .returned (.bool true) ∧ Below w.heap.size w w' := by
  obtain ⟨hl, _, hr, _⟩ := gd
  have hwo : WO w A na ws B nb os := ⟨ga.rd, ga.len, gb.rd, gb.len⟩
  clear ga gb
  cases hg : decide (25 < na ∨ 25 < nb ∨ 25 < (n : Int))
  · have hG := Lib.hid (l_great A na ca B nb cb (n : Int) w false hg)
    have hn : n ≤ 25 := by simp at hg; omega
    subst hl
    have HR := Lib.hid hr
    have HW := Lib.hid hwo
    have HO := Lib.hid (fun k w' (h : Ext w w') => g_on A na ca ws B nb cb os (base.length : Int) k w' (HW.out.keep h))
    have HC := Lib.hid (fun (k : Nat) w' (h : Ext w w') => g_chain A na ca ws B nb cb os (base.length : Int) (k : Int) w' (HW.out.keep h) (by omega))
    have HCL := Lib.hid (fun (k : Nat) => gchain_len ws os (base.length : Int) (k : Int))
    have HF1 := Lib.hid (fun (i : Nat) => eff_base base (chs ws os base.length) i base.length)
    have HF3 := Lib.hid (fun (i : Nat) => eff_from base (chs ws os base.length) i base.length)
    have HF4 := Lib.hid (fun (i k : Nat) hi hk => eff_along base ws os i k hi hk)
    have GL := Lib.hid (geff_len base (chs ws os base.length))
    have HGG := Lib.hid (fun i (hi : i < base.length) => geff_get base (chs ws os base.length) i hi)
    have hGR := gon_rng ws os (base.length : Int)
    have HGR := Lib.hid hGR
    clear hg hr hwo hGR
    go_enter Try.func4, Try.ntmps4
    go_wp2_with fail
    refine hG.out.mono ?_
    rintro e w' ⟨rfl, rfl⟩
    go_wp2_with fail
    refine (g_effective D base.length cd base A na ca ws B nb cb os w HW.out HR.out rfl (by omega)).mono ?_
    rintro e w1 ⟨O, c1, rfl, r1, b1⟩
    have rE := r1.rd
    have rB := HR.out.keep b1
    clear r1
    go_wp2
    go_loopw [9] (fun i wr => ∃ i' : Nat, i' ≤ base.length ∧ i = .int .i64 i' ∧ Ext w1 wr) (fun i _ => base.length - (intOf i).toNat)
    case atStart => exact ⟨0, by omega, rfl, Ext.refl _⟩
    case round =>
      obtain ⟨i, hi, rfl, hb⟩ := hrel
      by_cases hlt : i < base.length
      · obtain ⟨bo, oo, eO, a1, a2, a3⟩ := (rE.keep hb).trip (k := i) (by rw [GL.out]; exact hlt)
        obtain ⟨bb, ob, eD, c1', c2', c3'⟩ := (rB.keep hb).trip (k := i) hlt
        subst eO; subst eD
        have hge := HGG.out i hlt
        have hf1 := HF1.out i
        have hf3 := HF3.out i
        have hf4 := fun k hk => HF4.out i k hlt hk
        rw [base_get base i hlt] at hf1 hf3
        generalize (geff base (chs ws os base.length))[i]'(by rw [GL.out]; exact hlt) = ei at *
        generalize base[i] = bi at *
        rw [← hge] at hf1 hf3 hf4
        have HF3i := Lib.hid hf3
        have HF4i := Lib.hid hf4
        have hEq := fun w => eql_prio ei bi w
        have hcases : ei = bi ∨ ei ≠ bi := Classical.em _
        have HNE : ei = bi ∨ decide (ei = bi) = false := by
          rcases hcases with h | h
          · exact .inl h
          · exact .inr (by simpa using h)
        have HDE := Lib.hid HNE
        have HEI := Lib.hid (rfl : ei = ei)
        clear hge hf3 hf4 hcases HNE HEI
        obtain ⟨e1, e2, e3⟩ := ei
        obtain ⟨b1', b2', b3'⟩ := bi
        unfold pge at hf1
        simp only at a1 a2 a3 c1' c2' c3' hf1 hEq
        have cC := fun w' => prio_compare e1 e2 e3 b1' b2' b3' w'
        generalize pcmp e1 e2 e3 b1' b2' b3' = pc at *
        have CC := Lib.hid cC
        have HQ := Lib.hid hEq
        have i0 : (0 : Int) ≤ (i : Int) := by omega
        have i1 : (i : Int) < (base.length : Int) := by omega
        have hd : decide (pc < 0) = false := by simp; omega
        have hkr := HGR.out (i : Int)
        clear cC hEq
        go_wp2
        refine wp_region_dep (S := Ext) (C := Ext (wr)) (by kernel_rfl) (by kernel_rfl) rfl Ext.refl (Ext.drew _) ?_
        repeat (refine dep_det (by rfl) (fun K hK => ?_); go_simp; first
          | ((with_reducible refine hK _ ?_); clear hK K)
          | (rw [if_neg (by decide)]; (with_reducible refine hK _ ?_); clear hK K)
          | (refine ⟨_, fun w1 hw1 => ⟨Ext.refl w1, hw1, rfl⟩, hK _ ?_⟩; clear hK K)
          | (apply Exists.intro; refine ⟨fun w1 hw1 => ?_, hK _ ?_⟩
             first
               | (go_at_call 16; refine (CC.out _).mono ?_; rintro e w' ⟨rfl, hb'⟩; exact ⟨_, rfl, hb', Ext.trans hw1 hb', rfl⟩)
               | (have c_a1 := cell_keep hw1 a1; have c_a2 := cell_keep hw1 a2; have c_a3 := cell_keep hw1 a3; have c_c1' := cell_keep hw1 c1'; have c_c2' := cell_keep hw1 c2'; have c_c3' := cell_keep hw1 c3'; go_simp; first | exact ⟨Ext.refl _, hw1, rfl⟩ | exact ⟨Ext.refl _, rfl⟩)
             clear hK K))
        refine dep_nil ?_
        intro a' w' hC hE
        obtain rfl := atEnd_nil hE
        clear hE
        have g1 := cell_keep hC a1
        have g2 := cell_keep hC a2
        have g3 := cell_keep hC a3
        have g4 := cell_keep hC c1'
        have g5 := cell_keep hC c2'
        have g6 := cell_keep hC c3'
        replace hb := Ext.trans hb hC
        clear a1 a2 a3 c1' c2' c3' hC hd hf1
        generalize hgon : gon ws os (base.length : Int) (i : Int) = k at *
        have HGO := Lib.hid hgon
        have HOi := Lib.hid (fun w' (h : Ext w w') => (by have := HO.out (i : Int) w' h; rwa [hgon] at this : Calls Try.prog 17 #[.slice A na ca, .slice B nb cb, .int .i64 (base.length : Int), .int .i64 (i : Int)] w' fun e w'' => e = .returned (.int .i64 k) ∧ w' = w''))
        clear hgon
        go_wp2_with ((with_reducible go_at_call 17); (with_reducible refine (HOi.out _ (Ext.trans b1 hb)).mono ?_); rintro e w' ⟨rfl, rfl⟩)
        rcases hkr with hk | ⟨hk0, hk1⟩
        all_goals
          go_wp2
          first
            | (obtain rfl := hk
               refine wp_region_dep (S := Ext) (C := Ext (w')) (by kernel_rfl) (by kernel_rfl) rfl Ext.refl (Ext.drew _) ?_
               repeat (refine dep_det (by rfl) (fun K hK => ?_); go_simp; first
                 | ((with_reducible refine hK _ ?_); clear hK K)
                 | (rw [if_neg (by decide)]; (with_reducible refine hK _ ?_); clear hK K)
                 | (refine ⟨_, fun w1 hw1 => ⟨Ext.refl w1, hw1, rfl⟩, hK _ ?_⟩; clear hK K)
                 | (apply Exists.intro; refine ⟨fun w1 hw1 => ?_, hK _ ?_⟩
                    first
                      | (have c_g1 := cell_keep hw1 g1; have c_g2 := cell_keep hw1 g2; have c_g3 := cell_keep hw1 g3; go_simp; first | exact ⟨Ext.refl _, hw1, rfl⟩ | exact ⟨Ext.refl _, rfl⟩)
                    clear hK K))
               refine dep_nil ?_
               intro a' w' hC hE
               obtain rfl := atEnd_nil hE
               clear hE)
            | (obtain ⟨kn, rfl⟩ : ∃ kn : Nat, k = (kn : Int) := ⟨k.toNat, by omega⟩
               have hkn : kn < base.length := by omega
               have hp4 := HF4i.out kn rfl
               have hgk := HGG.out kn hkn
               rw [← hgk] at hp4
               obtain ⟨bo', oo', eO, k1', k2', k3'⟩ := (rE.keep hb).trip (k := kn) (by rw [GL.out]; exact hkn)
               injection eO with eO
               injection eO with eO1 eO2
               subst eO1
               subst eO2
               generalize (geff base (chs ws os base.length))[kn]'(by rw [GL.out]; exact hkn) = ek at *
               clear hgk
               obtain ⟨f1, f2, f3⟩ := ek
               unfold pge at hp4
               simp only at k1' k2' k3' hp4
               have cC := fun w' => prio_compare f1 f2 f3 e1 e2 e3 w'
               generalize pcmp f1 f2 f3 e1 e2 e3 = pk at *
               have CK := Lib.hid cC
               clear cC
               have hd2 : decide ((base.length : Int) ≤ (kn : Int)) = false := by simp; omega
               have hd3 : decide (pk < 0) = false := by simp; omega
               have hd4 : decide ((0 : Int) ≤ (kn : Int)) = true := by simp
               refine wp_region_dep (S := Ext) (C := Ext (w')) (by kernel_rfl) (by kernel_rfl) rfl Ext.refl (Ext.drew _) ?_
               repeat (refine dep_det (by rfl) (fun K hK => ?_); go_simp; first
                 | ((with_reducible refine hK _ ?_); clear hK K)
                 | (rw [if_neg (by decide)]; (with_reducible refine hK _ ?_); clear hK K)
                 | (refine ⟨_, fun w1 hw1 => ⟨Ext.refl w1, hw1, rfl⟩, hK _ ?_⟩; clear hK K)
                 | (apply Exists.intro; refine ⟨fun w1 hw1 => ?_, hK _ ?_⟩
                    first
                      | (go_at_call 16; refine (CK.out _).mono ?_; rintro e w' ⟨rfl, hb'⟩; exact ⟨_, rfl, hb', Ext.trans hw1 hb', rfl⟩)
                      | (have c_g1 := cell_keep hw1 g1; have c_g2 := cell_keep hw1 g2; have c_g3 := cell_keep hw1 g3; have c_k1' := cell_keep hw1 k1'; have c_k2' := cell_keep hw1 k2'; have c_k3' := cell_keep hw1 k3'; go_simp; first | exact ⟨Ext.refl _, hw1, rfl⟩ | exact ⟨Ext.refl _, rfl⟩)
                    clear hK K))
               refine dep_nil ?_
               intro a' w' hC hE
               obtain rfl := atEnd_nil hE
               clear hE
               clear hd2 hd3 hd4 k1' k2' k3' hp4)
          replace g1 := cell_keep hC g1
          replace g2 := cell_keep hC g2
          replace g3 := cell_keep hC g3
          replace g4 := cell_keep hC g4
          replace g5 := cell_keep hC g5
          replace g6 := cell_keep hC g6
          replace hb := Ext.trans hb hC
          have hEq := HQ.out
          obtain ⟨q0, hq0⟩ : ∃ q0, decide ((e1, e2, e3) = (b1', b2', b3')) = q0 := ⟨_, rfl⟩
          rw [hq0] at hEq
          have HQ0 := Lib.hid hq0
          clear hC hq0
          go_wp2
          refine wp_region_dep (S := Ext) (C := Ext (w')) (by kernel_rfl) (by kernel_rfl) rfl Ext.refl (Ext.drew _) ?_
          repeat (refine dep_det (by rfl) (fun K hK => ?_); go_simp; first
            | ((with_reducible refine hK _ ?_); clear hK K)
            | (rw [if_neg (by decide)]; (with_reducible refine hK _ ?_); clear hK K)
            | (refine ⟨_, fun w1 hw1 => ⟨Ext.refl w1, hw1, rfl⟩, hK _ ?_⟩; clear hK K)
            | (apply Exists.intro; refine ⟨fun w1 hw1 => ?_, hK _ ?_⟩
               first
                 | (have c_g1 := cell_keep hw1 g1; have c_g2 := cell_keep hw1 g2; have c_g3 := cell_keep hw1 g3; have c_g4 := cell_keep hw1 g4; have c_g5 := cell_keep hw1 g5; have c_g6 := cell_keep hw1 g6; go_simp; first | exact ⟨Ext.refl _, hw1, rfl⟩ | exact ⟨Ext.refl _, rfl⟩)
               clear hK K))
          refine dep_nil ?_
          intro a' w' hC hE
          obtain rfl := atEnd_nil hE
          clear hE
          replace g1 := cell_keep hC g1
          replace g2 := cell_keep hC g2
          replace g3 := cell_keep hC g3
          replace hb := Ext.trans hb hC
          have G1 := Lib.hid g1
          have G2 := Lib.hid g2
          have G3 := Lib.hid g3
          clear hC g4 g5 g6 hEq g1 g2 g3
          generalize hw0 : w' = wI at *
          clear hw0
          go_wp2
          go_loopw [11, 12] (fun o j wr => ∃ (j' : Nat) (q : Bool), j' ≤ base.length ∧ j = .int .i64 j' ∧ o = .bool q ∧ Hid (q = false → (e1, e2, e3) ≠ (b1', b2', b3') ∧ ∀ x, x < j' → ¬ ((i : Int) ∈ chs ws os base.length x ∧ (e1, e2, e3) = base.getD x (0, 0, 0))) ∧ Ext wI wr) (fun _ j _ => base.length - (intOf j).toNat)
          case atStart => exact ⟨0, q0, by omega, rfl, rfl, Lib.hid (fun h => ⟨by have := HQ0.out; rw [h] at this; simpa using this, fun x hx => by omega⟩), Ext.refl _⟩
          case round =>
            obtain ⟨j, q, hj, rfl, rfl, HQJ, hbj⟩ := hrel
            cases q with
            | true =>
              by_cases hjl : j < base.length
              all_goals
                go_wp2
                go_roundw
                case rel => exact ⟨i + 1, by omega, by go_num, Ext.trans hb hbj⟩
                case measure => simp [intOf]; omega
            | false =>
              obtain ⟨hne, hno⟩ := HQJ.out rfl
              by_cases hjl : j < base.length
              · have HNO := Lib.hid hno
                have HNE := Lib.hid hne
                clear hne hno HQJ
                have hlenj := HCL.out j
                have hCj := HC.out j
                have hch : gchain ws os (base.length : Int) (j : Int) = chs ws os base.length j := rfl
                rw [hch] at hCj hlenj
                rw [Int.toNat_natCast] at hlenj
                generalize hcj : chs ws os base.length j = cj at *
                have HCJ := Lib.hid hcj
                have HCj := Lib.hid hCj
                clear hch hCj hcj
                go_wp2_with fail
                refine (HCj.out _ (Ext.trans b1 (Ext.trans hb hbj))).mono ?_
                rintro e w5 ⟨X, cx, rfl, rx, b5⟩
                have rX := rx.rd
                have hb5 := Ext.trans hbj b5
                clear rx
                go_wp2
                go_loopw [11, 14] (fun o x wr => ∃ (x' : Nat) (q : Bool), x' ≤ cj.length ∧ x = .int .i64 x' ∧ o = .bool q ∧ Hid (q = false → ∀ y, y ∈ cj.take x' → ¬ (y = (i : Int) ∧ (e1, e2, e3) = base.getD j (0, 0, 0))) ∧ Ext w5 wr) (fun _ x _ => cj.length - (intOf x).toNat)
                case atStart => exact ⟨0, false, by omega, rfl, rfl, Lib.hid (fun _ => by simp), Ext.refl _⟩
                case round =>
                  obtain ⟨x, q, hx, rfl, rfl, HX, hbx⟩ := hrel
                  by_cases hxl : x < cj.length
                  · obtain ⟨bx, ox, eX, hcx⟩ := (rX.keep hbx).int hxl
                    subst eX
                    have HT := Lib.hid (take_succ' cj x hxl)
                    generalize cj[x] = y at *
                    have x0 : (0 : Int) ≤ (x : Int) := by omega
                    have x1 : (x : Int) < (cj.length : Int) := by omega
                    cases q with
                    | true =>
                      go_wp2
                      refine wp_region_dep (S := Ext) (C := Ext (wr)) (by kernel_rfl) (by kernel_rfl) rfl Ext.refl (Ext.drew _) ?_
                      repeat (refine dep_det (by rfl) (fun K hK => ?_); go_simp; first
                        | ((with_reducible refine hK _ ?_); clear hK K)
                        | (rw [if_neg (by decide)]; (with_reducible refine hK _ ?_); clear hK K)
                        | (refine ⟨_, fun w1 hw1 => ⟨Ext.refl w1, hw1, rfl⟩, hK _ ?_⟩; clear hK K))
                      refine dep_nil ?_
                      intro a' w' hC hE
                      obtain rfl := atEnd_nil hE
                      clear hE
                      go_wp2
                      go_roundw
                      case rel => exact ⟨x + 1, true, by omega, by go_num, rfl, Lib.hid (fun h => by cases h), Ext.trans hbx hC⟩
                      case measure => simp [intOf]; omega
                    | false =>
                      by_cases hy : y = (i : Int)
                      · subst hy
                        have kE := Ext.trans hb5 hbx
                        obtain ⟨bd, od, eD, m1, m2, m3⟩ := ((rB.keep hb).keep kE).trip (k := j) hjl
                        injection eD with eD
                        injection eD with eD1 eD2
                        subst eD1
                        subst eD2
                        have n1 := cell_keep kE G1.out
                        have n2 := cell_keep kE G2.out
                        have n3 := cell_keep kE G3.out
                        have hbg := base_get base j hjl
                        have hEq := fun w => eql_prio (e1, e2, e3) base[j] w
                        rw [← hbg] at hEq m1 m2 m3
                        have HBX : Hid (∀ q2, decide ((e1, e2, e3) = base.getD j (0, 0, 0)) = q2 → q2 = false → ∀ z, z ∈ cj.take (x + 1) → ¬ (z = (i : Int) ∧ (e1, e2, e3) = base.getD j (0, 0, 0))) := Lib.hid fun q2 h h2 z hz hz2 => by
                          subst h; simp at h2; exact h2 hz2.2
                        generalize base.getD j (0, 0, 0) = pj at *
                        obtain ⟨j1, j2, j3⟩ := pj
                        simp only at hEq m1 m2 m3
                        obtain ⟨q2, hq2⟩ : ∃ q2, decide ((e1, e2, e3) = (j1, j2, j3)) = q2 := ⟨_, rfl⟩
                        rw [hq2] at hEq
                        have HBX2 := Lib.hid (HBX.out q2 hq2)
                        have j0 : (0 : Int) ≤ (j : Int) := by omega
                        have j1' : (j : Int) < (base.length : Int) := by omega
                        clear hq2 HBX hbg
                        go_wp2
                        refine wp_region_dep (S := Ext) (C := Ext (wr)) (by kernel_rfl) (by kernel_rfl) rfl Ext.refl (Ext.drew _) ?_
                        repeat (refine dep_det (by rfl) (fun K hK => ?_); go_simp; first
                          | ((with_reducible refine hK _ ?_); clear hK K)
                          | (rw [if_neg (by decide)]; (with_reducible refine hK _ ?_); clear hK K)
                          | (refine ⟨_, fun w1 hw1 => ⟨Ext.refl w1, hw1, rfl⟩, hK _ ?_⟩; clear hK K)
                          | (apply Exists.intro; refine ⟨fun w1 hw1 => ?_, hK _ ?_⟩
                             first
                               | (have c_hcx := cell_keep hw1 hcx; have c_n1 := cell_keep hw1 n1; have c_n2 := cell_keep hw1 n2; have c_n3 := cell_keep hw1 n3; have c_m1 := cell_keep hw1 m1; have c_m2 := cell_keep hw1 m2; have c_m3 := cell_keep hw1 m3; go_simp; first | exact ⟨Ext.refl _, hw1, rfl⟩ | exact ⟨Ext.refl _, rfl⟩)
                             clear hK K))
                        refine dep_nil ?_
                        intro a' w' hC hE
                        obtain rfl := atEnd_nil hE
                        clear hE
                        go_wp2
                        go_roundw
                        case rel => exact ⟨x + 1, q2, by omega, by go_num, rfl, HBX2, Ext.trans hbx hC⟩
                        case measure => simp [intOf]; omega
                      · have hyb : (y == (i : Int)) = false := by simp [hy]
                        have HX2' : Hid (∀ z, z ∈ cj.take (x + 1) → ¬ (z = (i : Int) ∧ (e1, e2, e3) = base.getD j (0, 0, 0))) := Lib.hid fun z hz hz2 => by
                          rw [HT.out] at hz
                          rcases List.mem_append.1 hz with hz | hz
                          · exact HX.out rfl z hz hz2
                          · simp at hz; subst hz; exact hy hz2.1
                        go_wp2
                        refine wp_region_dep (S := Ext) (C := Ext (wr)) (by kernel_rfl) (by kernel_rfl) rfl Ext.refl (Ext.drew _) ?_
                        repeat (refine dep_det (by rfl) (fun K hK => ?_); go_simp; first
                          | ((with_reducible refine hK _ ?_); clear hK K)
                          | (rw [if_neg (by decide)]; (with_reducible refine hK _ ?_); clear hK K)
                          | (refine ⟨_, fun w1 hw1 => ⟨Ext.refl w1, hw1, rfl⟩, hK _ ?_⟩; clear hK K)
                          | (apply Exists.intro; refine ⟨fun w1 hw1 => ?_, hK _ ?_⟩
                             first
                               | (have c_hcx := cell_keep hw1 hcx; go_simp; first | exact ⟨Ext.refl _, hw1, rfl⟩ | exact ⟨Ext.refl _, rfl⟩)
                             clear hK K))
                        refine dep_nil ?_
                        intro a' w' hC hE
                        obtain rfl := atEnd_nil hE
                        clear hE
                        go_wp2
                        go_roundw
                        case rel => exact ⟨x + 1, false, by omega, by go_num, rfl, Lib.hid (fun _ => HX2'.out), Ext.trans hbx hC⟩
                        case measure => simp [intOf]; omega
                  · have HJ2 : Hid (q = false → (e1, e2, e3) ≠ (b1', b2', b3') ∧ ∀ x, x < j + 1 → ¬ ((i : Int) ∈ chs ws os base.length x ∧ (e1, e2, e3) = base.getD x (0, 0, 0))) := Lib.hid fun h => by
                      refine ⟨HNE.out, fun z hz hz2 => ?_⟩
                      by_cases e : z = j
                      · subst e
                        rw [HCJ.out] at hz2
                        refine HX.out h (i : Int) ?_ ⟨rfl, hz2.2⟩
                        rw [List.take_of_length_le (by omega)]
                        exact hz2.1
                      · exact HNO.out z (by omega) hz2
                    go_wp2
                    go_roundw
                    case rel => exact ⟨j + 1, q, by omega, by go_num, rfl, HJ2, Ext.trans hb5 hbx⟩
                    case measure => simp [intOf]; omega
              · exfalso
                rcases HF3i.out with h | ⟨x, h1, h2, h3⟩
                · exact hne h
                · exact hno x (by omega) ⟨h2, h3⟩
      · go_wp2_with (go_at_call 9; refine (gph_awake _).mono ?_; rintro e w10 ⟨rfl, b10⟩)
        go_ret
        exact ⟨rfl, Ext.trans (Ext.trans b1 hb) b10⟩
  · have hG := Lib.hid (l_great A na ca B nb cb (n : Int) w true hg)
    clear hg hl hr hwo
    go_enter Try.func4, Try.ntmps4
    go_wp2_with fail
    refine hG.out.mono ?_
    rintro e w' ⟨rfl, rfl⟩
    go_wp2_with (go_at_call 9; refine (gph_awake _).mono ?_; rintro e w1 ⟨rfl, b1⟩)
    go_ret
    exact ⟨rfl, b1⟩

end Go.Proofs.Ytlmpmlhmndegdaa
