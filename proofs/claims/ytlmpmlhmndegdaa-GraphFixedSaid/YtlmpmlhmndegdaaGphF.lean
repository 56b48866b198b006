/-
  WALKS of the reference of chapter 11: Effective; Acyclic of both; what the statements share.
-/
import Derived.Test.YtlmpmlhmndegdaaGphE
import Derived.Test.YtlmpmlhmndegdaaLendB
namespace Go.Proofs.Ytlmpmlhmndegdaa
open Go.RowKit
attribute [local go_sem] depUpon Sp.ok

theorem effAt_step (base : List P3) (ch : Nat → List Int) (j i : Nat) (hj : j < base.length) : effAt base ch (j + 1) i = if (i : Int) ∈ ch j then pmaxStep (effAt base ch j i) base[j] else effAt base ch j i := by
  rw [effAt]; simp [hj]

set_option maxRecDepth 100000 in
set_option maxHeartbeats 4000000 in
theorem r_effective (D : Option Addr) (n cd : Nat) (base : List P3) (A : Option Addr) (na ca : Nat) (ws : List Int) (B : Option Addr) (nb cb : Nat) (os : List Int) (w : World) (h : WO w A na ws B nb os) (hd : Rd w D (trips base)) (hl : base.length = n) (hn : n ≤ 60000) :
    Calls Try.prog 13 #[.slice D n cd, .slice A na ca, .slice B nb cb] w fun e w' => ∃ O c, e = .returned (.slice O n c) ∧ Row w' w.heap.size 33 3 O n c (trips (geff base (chs ws os n))) ∧ Below w.heap.size w w' := by
  subst hl
  obtain ⟨ip, hi, hz0, hz1, hz2⟩ := info_parts info_prio
  have HI := Lib.hid hi
  have HW := Lib.hid h
  have HD := Lib.hid hd
  have HC := Lib.hid (fun (k : Nat) w' (hb : Ext w w') => r_chain A na ca ws B nb cb os (base.length : Int) (k : Int) w' (HW.out.keep hb) (by omega))
  have HCL : Hid (∀ k : Nat, (chs ws os base.length k).length ≤ base.length) := Lib.hid fun k => by
    have := gchain_len ws os (base.length : Int) (k : Int)
    rwa [Int.toNat_natCast] at this
  clear hi h hd
  go_enter Try.func13, Try.ntmps13
  go_wp2
  go_loopw [7, 8] (fun v i wr => ∃ (j c : Nat) (O : Option Addr), j ≤ base.length ∧ i = .int .i64 j ∧ v = .slice O j c ∧ Row wr w.heap.size 33 3 O j c (trips ((geff base (chs ws os base.length)).take j)) ∧ Ext w wr) (fun _ i _ => base.length - (intOf i).toNat)
  case atStart => exact ⟨0, 0, none, Nat.zero_le _, rfl, rfl, Row.nil _ _ _ _, Ext.refl _⟩
  case round =>
    obtain ⟨j, c, O, hj, rfl, rfl, q2, q3⟩ := hrel
    by_cases hlt : j < base.length
    · obtain ⟨b, off, eD, h1, h2, h3⟩ := (HD.out.keep q3).trip hlt
      subst eD
      have hget : effAt base (chs ws os base.length) 0 j = base[j] := by simp [effAt, hlt]
      have oP : Own (wr.alloc (.cells #[.int .i64 base[j].1, .int .i64 base[j].2.1, .int .i64 base[j].2.2] 33)) wr.heap.size 33 (pv (effAt base (chs ws os base.length) 0 j)) := by rw [hget]; exact Own.new wr 33 (pv base[j])
      have r2 := q2.alloc (.cells #[.int .i64 base[j].1, .int .i64 base[j].2.1, .int .i64 base[j].2.2] 33)
      have e2 := Ext.trans q3 (Ext.alloc wr (.cells #[.int .i64 base[j].1, .int .i64 base[j].2.1, .int .i64 base[j].2.2] 33))
      have hO2 : ∀ g, blk O = some g → g < wr.heap.size := fun g hg => (q2.at_ g hg).2
      have i0 : (0 : Int) ≤ (j : Int) := by omega
      have i1 : (j : Int) < (base.length : Int) := by omega
      have hgbw := q3.size
      clear q2 q3 hget
      go_wp2
      generalize hgb : wr.heap.size = gb at *
      clear hgb
      go_loopw [10] (fun i wr2 => ∃ k : Nat, k ≤ base.length ∧ i = .int .i64 k ∧ Own wr2 gb 33 (pv (effAt base (chs ws os base.length) k j)) ∧ Row wr2 w.heap.size 33 3 O j c (trips ((geff base (chs ws os base.length)).take j)) ∧ Ext w wr2) (fun i _ => base.length - (intOf i).toNat)
      case atStart => exact ⟨0, Nat.zero_le _, rfl, oP, r2, e2⟩
      case round =>
        obtain ⟨k, hk, rfl, p1, p2, p3⟩ := hrel
        clear oP r2 e2 h1 h2 h3
        obtain ⟨d0, d1, d2, f0, f1, f2⟩ := p1.pv3
        by_cases hlk : k < base.length
        · obtain ⟨b', off', eD, h1, h2, h3⟩ := (HD.out.keep p3).trip hlk
          injection eD with eD; injection eD with eD1 eD2
          subst eD1; subst eD2
          have HST := Lib.hid (effAt_step base (chs ws os base.length) k j hlk)
          have hCk := fun w' (hb : Ext wr w') => HC.out k w' (Ext.trans p3 hb)
          have hlen := HCL.out k
          have hmemI := fun A' (c' : Nat) w' (hr : Rd w' A' (ints (chs ws os base.length k))) => r_in (j : Int) A' (chs ws os base.length k).length c' (chs ws os base.length k) w' (by omega) hr rfl
          have hchs : gchain ws os (base.length : Int) (k : Int) = chs ws os base.length k := rfl
          rw [hchs] at hCk
          have hmb : memB (j : Int) (chs ws os base.length k) = decide ((j : Int) ∈ chs ws os base.length k) := rfl
          generalize chs ws os base.length k = ck at *
          generalize hcur : effAt base (chs ws os base.length) k j = cur at *
          generalize base[k] = q at *
          have HCU := Lib.hid hcur
          have HCk := Lib.hid hCk
          have HMB := Lib.hid hmb
          have k0 : (0 : Int) ≤ (k : Int) := by omega
          have k1 : (k : Int) < (base.length : Int) := by omega
          clear hcur hCk hmb hchs
          obtain ⟨q1, q2, q3⟩ := q
          obtain ⟨e1, e2, e3⟩ := cur
          simp only at h1 h2 h3 d0 d1 d2
          cases hm : memB (j : Int) ck
          · rw [hm] at hmemI
            have HIn := Lib.hid hmemI
            have HN := Lib.hid (by rw [HST.out, if_neg (by have := HMB.out; rw [hm] at this; simpa using this.symm)] : effAt base (chs ws os base.length) (k + 1) j = (e1, e2, e3))
            clear hmemI hm
            go_wp2
            refine wp_region_dep (S := Ext) (C := Ext (wr)) (by kernel_rfl) (by kernel_rfl) rfl Ext.refl (Ext.drew _) ?_
            repeat (refine dep_det (by rfl) (fun K hK => ?_); go_simp; first
              | ((with_reducible refine hK _ ?_); clear hK K)
              | (refine ⟨_, fun w1 hw1 => ⟨Ext.refl w1, hw1, rfl⟩, hK _ ?_⟩; clear hK K)
              | (apply Exists.intro; refine ⟨fun w1 hw1 => ?_, hK _ ?_⟩
                 first
                   | (have c_h1 := cell_keep hw1 h1; have c_h2 := cell_keep hw1 h2; have c_h3 := cell_keep hw1 h3; have c_d0 := cell_keep hw1 d0; have c_d1 := cell_keep hw1 d1; have c_d2 := cell_keep hw1 d2; go_simp; first | exact ⟨Ext.refl _, hw1, rfl⟩ | exact ⟨Ext.refl _, rfl⟩)
                 clear hK K))
            refine dep_var (RdSl (ints ck) ck.length) 32 rfl (by rfl) RdSl.keep (by go_simp) (fun w1 hw1 => ?_) ?_
            · go_simp
              refine (HCk.out _ hw1).mono ?_
              rintro e w' ⟨A', c', rfl, hrow, hb'⟩
              exact ⟨_, rfl, hb', Ext.trans hw1 hb', _, _, rfl, hrow.rd⟩
            repeat (refine dep_det (by rfl) (fun K hK => ?_); go_simp; first
              | ((with_reducible refine hK _ ?_); clear hK K)
              | (refine ⟨_, fun w1 hw1 => ⟨Ext.refl w1, hw1, rfl⟩, hK _ ?_⟩; clear hK K))
            refine dep_det1 32 _ (by rfl) (by intro V' h; simpa using h) (List.mem_cons_self ..) (by first | (simp; done) | simp [Act.put]) (fun K hK => ?_)
            apply Exists.intro
            refine ⟨fun w1 v hw1 hV => ?_, hK _ ?_⟩
            · obtain ⟨A', c', rfl, ho⟩ := hV
              go_simp
              refine (HIn.out A' c' w1 ho).mono ?_
              rintro e w' ⟨rfl, rfl⟩
              exact ⟨_, rfl, Ext.refl _, hw1, rfl⟩
            clear hK K
            repeat (refine dep_det (by rfl) (fun K hK => ?_); go_simp; first
              | ((with_reducible refine hK _ ?_); clear hK K)
              | (refine ⟨_, fun w1 hw1 => ⟨Ext.refl w1, hw1, rfl⟩, hK _ ?_⟩; clear hK K)
              | (apply Exists.intro; refine ⟨fun w1 hw1 => ?_, hK _ ?_⟩
                 first
                   | (have c_h1 := cell_keep hw1 h1; have c_h2 := cell_keep hw1 h2; have c_h3 := cell_keep hw1 h3; have c_d0 := cell_keep hw1 d0; have c_d1 := cell_keep hw1 d1; have c_d2 := cell_keep hw1 d2; go_simp; first | exact ⟨Ext.refl _, hw1, rfl⟩ | exact ⟨Ext.refl _, rfl⟩)
                 clear hK K))
            refine dep_nil ?_
            intro a' w' hC hE
            obtain ⟨v, ⟨_, _, rfl, _⟩, hE⟩ := atEnd_cons hE (by simp) (by first | (simp; done) | simp [Act.put])
            obtain rfl := atEnd_nil hE
            clear hE
            go_wp2
            go_roundw
            case rel => exact ⟨k + 1, by omega, by go_num, by rw [HN.out]; exact p1.keep hC, p2.keep hC, Ext.trans p3 hC⟩
            case measure => simp [intOf]; omega
          · rw [hm] at hmemI
            have HIn := Lib.hid hmemI
            have hmm : (j : Int) ∈ ck := by have := HMB.out; rw [hm] at this; simpa using this.symm
            have hns : effAt base (chs ws os base.length) (k + 1) j = pmaxStep (e1, e2, e3) (q1, q2, q3) := by rw [HST.out, if_pos hmm]
            have cC := fun w' => ref_compare q1 q2 q3 e1 e2 e3 w'
            have hps : pmaxStep (e1, e2, e3) (q1, q2, q3) = if 0 < pcmp q1 q2 q3 e1 e2 e3 then (q1, q2, q3) else (e1, e2, e3) := rfl
            generalize pcmp q1 q2 q3 e1 e2 e3 = pc at *
            have CC := Lib.hid cC
            have HPS := Lib.hid hps
            have HNS := Lib.hid hns
            clear hmemI hm hmm cC hps hns
            by_cases hgt : 0 < pc
            · have HN := Lib.hid (by rw [HNS.out, HPS.out, if_pos hgt] : effAt base (chs ws os base.length) (k + 1) j = (q1, q2, q3))
              go_wp2
              refine wp_region_dep (S := Ext) (C := Ext (wr)) (by kernel_rfl) (by kernel_rfl) rfl Ext.refl (Ext.drew _) ?_
              repeat (refine dep_det (by rfl) (fun K hK => ?_); go_simp; first
                | ((with_reducible refine hK _ ?_); clear hK K)
                | (refine ⟨_, fun w1 hw1 => ⟨Ext.refl w1, hw1, rfl⟩, hK _ ?_⟩; clear hK K)
                | (apply Exists.intro; refine ⟨fun w1 hw1 => ?_, hK _ ?_⟩
                   first
                     | (have c_h1 := cell_keep hw1 h1; have c_h2 := cell_keep hw1 h2; have c_h3 := cell_keep hw1 h3; have c_d0 := cell_keep hw1 d0; have c_d1 := cell_keep hw1 d1; have c_d2 := cell_keep hw1 d2; go_simp; first | exact ⟨Ext.refl _, hw1, rfl⟩ | exact ⟨Ext.refl _, rfl⟩)
                   clear hK K))
              refine dep_var (RdSl (ints ck) ck.length) 32 rfl (by rfl) RdSl.keep (by go_simp) (fun w1 hw1 => ?_) ?_
              · go_simp
                refine (HCk.out _ hw1).mono ?_
                rintro e w' ⟨A', c', rfl, hrow, hb'⟩
                exact ⟨_, rfl, hb', Ext.trans hw1 hb', _, _, rfl, hrow.rd⟩
              repeat (refine dep_det (by rfl) (fun K hK => ?_); go_simp; first
                | ((with_reducible refine hK _ ?_); clear hK K)
                | (refine ⟨_, fun w1 hw1 => ⟨Ext.refl w1, hw1, rfl⟩, hK _ ?_⟩; clear hK K))
              refine dep_det1 32 _ (by rfl) (by intro V' h; simpa using h) (List.mem_cons_self ..) (by first | (simp; done) | simp [Act.put]) (fun K hK => ?_)
              apply Exists.intro
              refine ⟨fun w1 v hw1 hV => ?_, hK _ ?_⟩
              · obtain ⟨A', c', rfl, ho⟩ := hV
                go_simp
                refine (HIn.out A' c' w1 ho).mono ?_
                rintro e w' ⟨rfl, rfl⟩
                exact ⟨_, rfl, Ext.refl _, hw1, rfl⟩
              clear hK K
              repeat (refine dep_det (by rfl) (fun K hK => ?_); go_simp; first
                | ((with_reducible refine hK _ ?_); clear hK K)
                | (refine ⟨_, fun w1 hw1 => ⟨Ext.refl w1, hw1, rfl⟩, hK _ ?_⟩; clear hK K)
                | (apply Exists.intro; refine ⟨fun w1 hw1 => ?_, hK _ ?_⟩
                   first
                     | (go_at_call 33; refine (CC.out _).mono ?_; rintro e w' ⟨rfl, hb'⟩; exact ⟨_, rfl, hb', Ext.trans hw1 hb', rfl⟩)
                     | (have c_h1 := cell_keep hw1 h1; have c_h2 := cell_keep hw1 h2; have c_h3 := cell_keep hw1 h3; have c_d0 := cell_keep hw1 d0; have c_d1 := cell_keep hw1 d1; have c_d2 := cell_keep hw1 d2; go_simp; first | exact ⟨Ext.refl _, hw1, rfl⟩ | exact ⟨Ext.refl _, rfl⟩)
                   clear hK K))
              refine dep_nil ?_
              intro a' w' hC hE
              obtain ⟨v, ⟨_, _, rfl, _⟩, hE⟩ := atEnd_cons hE (by simp) (by first | (simp; done) | simp [Act.put])
              obtain rfl := atEnd_nil hE
              clear hE
              have o1 := p1.keep hC
              have r1 := p2.keep hC
              have g1 := cell_keep hC h1
              have g2 := cell_keep hC h2
              have g3 := cell_keep hC h3
              have e3' := Ext.trans p3 hC
              clear d0 d1 d2 f0 f1 f2 h1 h2 h3 p1 p2 p3
              obtain ⟨d0, d1, d2, f0, f1, f2⟩ := o1.pv3
              simp only at d0 d1 d2
              go_wp2
              have nO : blk O ≠ some gb := fun q => by have := hO2 gb q; omega
              go_roundw
              case rel => exact ⟨k + 1, by omega, by go_num, by rw [HN.out]; exact o1.put3 (q := (q1, q2, q3)), ((r1.far (p := ⟨gb, 0, none⟩) nO _).far (p := ⟨gb, 1, none⟩) nO _).far (p := ⟨gb, 2, none⟩) nO _, ((e3'.setCell (p := ⟨gb, 0, none⟩) hgbw _).setCell (p := ⟨gb, 1, none⟩) hgbw _).setCell (p := ⟨gb, 2, none⟩) hgbw _⟩
              case measure => simp [intOf]; omega
            · have HN := Lib.hid (by rw [HNS.out, HPS.out, if_neg hgt] : effAt base (chs ws os base.length) (k + 1) j = (e1, e2, e3))
              go_wp2
              refine wp_region_dep (S := Ext) (C := Ext (wr)) (by kernel_rfl) (by kernel_rfl) rfl Ext.refl (Ext.drew _) ?_
              repeat (refine dep_det (by rfl) (fun K hK => ?_); go_simp; first
                | ((with_reducible refine hK _ ?_); clear hK K)
                | (refine ⟨_, fun w1 hw1 => ⟨Ext.refl w1, hw1, rfl⟩, hK _ ?_⟩; clear hK K)
                | (apply Exists.intro; refine ⟨fun w1 hw1 => ?_, hK _ ?_⟩
                   first
                     | (have c_h1 := cell_keep hw1 h1; have c_h2 := cell_keep hw1 h2; have c_h3 := cell_keep hw1 h3; have c_d0 := cell_keep hw1 d0; have c_d1 := cell_keep hw1 d1; have c_d2 := cell_keep hw1 d2; go_simp; first | exact ⟨Ext.refl _, hw1, rfl⟩ | exact ⟨Ext.refl _, rfl⟩)
                   clear hK K))
              refine dep_var (RdSl (ints ck) ck.length) 32 rfl (by rfl) RdSl.keep (by go_simp) (fun w1 hw1 => ?_) ?_
              · go_simp
                refine (HCk.out _ hw1).mono ?_
                rintro e w' ⟨A', c', rfl, hrow, hb'⟩
                exact ⟨_, rfl, hb', Ext.trans hw1 hb', _, _, rfl, hrow.rd⟩
              repeat (refine dep_det (by rfl) (fun K hK => ?_); go_simp; first
                | ((with_reducible refine hK _ ?_); clear hK K)
                | (refine ⟨_, fun w1 hw1 => ⟨Ext.refl w1, hw1, rfl⟩, hK _ ?_⟩; clear hK K))
              refine dep_det1 32 _ (by rfl) (by intro V' h; simpa using h) (List.mem_cons_self ..) (by first | (simp; done) | simp [Act.put]) (fun K hK => ?_)
              apply Exists.intro
              refine ⟨fun w1 v hw1 hV => ?_, hK _ ?_⟩
              · obtain ⟨A', c', rfl, ho⟩ := hV
                go_simp
                refine (HIn.out A' c' w1 ho).mono ?_
                rintro e w' ⟨rfl, rfl⟩
                exact ⟨_, rfl, Ext.refl _, hw1, rfl⟩
              clear hK K
              repeat (refine dep_det (by rfl) (fun K hK => ?_); go_simp; first
                | ((with_reducible refine hK _ ?_); clear hK K)
                | (refine ⟨_, fun w1 hw1 => ⟨Ext.refl w1, hw1, rfl⟩, hK _ ?_⟩; clear hK K)
                | (apply Exists.intro; refine ⟨fun w1 hw1 => ?_, hK _ ?_⟩
                   first
                     | (go_at_call 33; refine (CC.out _).mono ?_; rintro e w' ⟨rfl, hb'⟩; exact ⟨_, rfl, hb', Ext.trans hw1 hb', rfl⟩)
                     | (have c_h1 := cell_keep hw1 h1; have c_h2 := cell_keep hw1 h2; have c_h3 := cell_keep hw1 h3; have c_d0 := cell_keep hw1 d0; have c_d1 := cell_keep hw1 d1; have c_d2 := cell_keep hw1 d2; go_simp; first | exact ⟨Ext.refl _, hw1, rfl⟩ | exact ⟨Ext.refl _, rfl⟩)
                   clear hK K))
              refine dep_nil ?_
              intro a' w' hC hE
              obtain ⟨v, ⟨_, _, rfl, _⟩, hE⟩ := atEnd_cons hE (by simp) (by first | (simp; done) | simp [Act.put])
              obtain rfl := atEnd_nil hE
              clear hE
              go_wp2
              go_roundw
              case rel => exact ⟨k + 1, by omega, by go_num, by rw [HN.out]; exact p1.keep hC, p2.keep hC, Ext.trans p3 hC⟩
              case measure => simp [intOf]; omega
        · obtain rfl : k = base.length := by omega
          have hgl : (geff base (chs ws os base.length)).length = base.length := by simp [geff]
          have hge : (geff base (chs ws os base.length))[j]'(by rw [hgl]; exact hlt) = effAt base (chs ws os base.length) base.length j := by simp [geff]
          have hts := take_succ' (geff base (chs ws os base.length)) j (by rw [hgl]; exact hlt)
          rw [hge] at hts
          generalize hcur : effAt base (chs ws os base.length) base.length j = cur at *
          clear hcur hge hgl
          obtain ⟨e1, e2, e3⟩ := cur
          simp only at d0 d1 d2
          have r7 := p2.alloc (.cells #[.int .i64 e1, .int .i64 e2, .int .i64 e3] 33)
          have b7 := Ext.trans p3 (Ext.alloc wr (.cells #[.int .i64 e1, .int .i64 e2, .int .i64 e3] 33))
          have HA : Hid (trips ((geff base (chs ws os base.length)).take j) ++ trips [(e1, e2, e3)] = trips ((geff base (chs ws os base.length)).take (j + 1))) := Lib.hid (by rw [hts, trips_app])
          clear hts
          go_wp2_with (at_builtin; refine wpl_append _ rfl (.tmp 48) (.tmp 50) 22 rfl 33 ip _ 3 24 Try.underlying22 HI.out hz0 hz1 hz2 rfl (by omega) w.heap.size O j c _ rfl r7 _ 1 1 (trips [(e1, e2, e3)]) rfl rfl (Own.new wr 33 (trips [(e1, e2, e3)])).rd0 (trips_one _) (j + 1) _ rfl HA.out (by omega) (by omega) b7.size ?_; intro A2 c2 w2 o2 g2 x2)
          have b8 := below_grown b7 g2 b7.size (fun g' hg' => (r7.at_ g' hg').1)
          go_roundw
          case rel => exact ⟨j + 1, c2, A2, by omega, by go_num, rfl, o2, b8⟩
          case measure => simp [intOf]; omega
    · obtain rfl : j = base.length := by omega
      have hgl : (geff base (chs ws os base.length)).length = base.length := by simp [geff]
      rw [List.take_of_length_le (by omega)] at q2
      clear hgl
      go_wp2
      go_ret
      exact ⟨O, c, rfl, q2, q3⟩

end Go.Proofs.Ytlmpmlhmndegdaa
