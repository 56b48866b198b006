/-
  WALKS of chapter 17's reference: Need, Busy, Fits.
-/
import Derived.Test.YtdninhdabeddeaaDemB
import Derived.Test.YtdninhdabeddeaaRtaB
namespace Go.Proofs.Ytdninhdabeddeaa
open Go.RowKit
attribute [local go_sem] depUpon Sp.ok

theorem info_rpart' : (Try.prog.info? 37).map (fun i => (i.zero, i.size, i.bytes)) = some (some (.agg #[.int .i64 0, .int .i64 0]), 2, 16) := by kernel_rfl
theorem nmul_clip (a b : Int) : nmul a (clip b) = nmul a b := by
  unfold nmul
  rw [clip_of (clip b) (clip_lo b) (clip_hi b)]
theorem rjobs_yes {s p d c : Int} (h : ¬ clip s < clip d) : ework s (p, d, c) = nmul c (ndown (clip s - clip d) p + 1) := by
  have e : ejobs s (p, d, c) = nsum [ndown (clip s - clip d) p, 1] := if_neg h
  unfold ework
  rw [e]
  have h0 := ndown_lo (clip s - clip d) p
  have h1 := ndown_hi (clip s - clip d) p
  generalize ndown (clip s - clip d) p = x at *
  have e2 : nsum [x, 1] = clip (x + 1) := by simp [nsum]; unfold clip; omega
  rw [e2]
  exact nmul_clip _ _
theorem rjobs_no {s p d c : Int} (h : clip s < clip d) : ework s (p, d, c) = 0 := by
  have e : ejobs s (p, d, c) = 0 := if_pos h
  unfold ework
  rw [e]
  unfold nmul
  rw [show clip (0 : Int) = 0 by unfold clip; omega, Int.mul_zero]
  unfold clip; omega

set_option maxRecDepth 100000 in
set_option maxHeartbeats 1000000 in
theorem r_need (span : Int) (A : Option Addr) (n c : Nat) (es : List (Int × Int × Int)) (w : World) (hn : n ≤ 4611686018427387904) (hr : Rd w A (trips es)) (hl : es.length = n) :
    Calls Try.prog 69 #[.int .i64 span, .slice A n c] w fun e w' => e = .returned (.int .i64 (eneed span es)) ∧ Below w.heap.size w w' := by
  subst hl
  have s0 := clip_lo span
  have s1 := clip_hi span
  go_enter Try.func69, Try.ntmps69
  go_wp2_with ((with_reducible go_at_call 66); (with_reducible refine (ref_clip _ _).mono ?_); rintro e w' ⟨rfl, rfl⟩)
  go_loopw [5, 6] (fun s i wr => ∃ k : Nat, k ≤ es.length ∧ i = .int .i64 k ∧ s = .int .i64 (eneed span (es.take k)) ∧ Below w.heap.size w wr) (fun _ i _ => es.length - (intOf i).toNat)
  case atStart => exact ⟨0, Nat.zero_le _, rfl, rfl, Below.refl _ _⟩
  case round =>
    obtain ⟨k, hk, rfl, rfl, hb⟩ := hrel
    by_cases hlt : k < es.length
    · obtain ⟨b, off, rfl, h1, h2, h3⟩ := (hr.keep hb).trip hlt
      have HT := Lib.hid (take_succ' es k hlt)
      have i0 : (0 : Int) ≤ (k : Int) := by omega
      have i1 : (k : Int) < (es.length : Int) := by omega
      have hsn := eneed_snoc span (es.take k) es[k]
      have n0 := eneed_lo span (es.take k)
      have n1 := eneed_hi span (es.take k)
      generalize es[k] = x at *
      obtain ⟨xp, xd, xc⟩ := x
      simp only at h1 h2 h3
      have d0 := clip_lo xd
      have d1 := clip_hi xd
      generalize hnk : eneed span (es.take k) = nk at *
      by_cases hle : clip xd ≤ clip span
      · have q0 := ndown_lo (clip span - clip xd) xp
        have q1 := ndown_hi (clip span - clip xd) xp
        have hk1 : IntKind.i64.wrap (clip span - clip xd) = clip span - clip xd := IntWalk.i64_in _ ⟨by omega, by omega⟩
        have hk2 : IntKind.i64.wrap (ndown (clip span - clip xd) xp + 1) = ndown (clip span - clip xd) xp + 1 := IntWalk.i64_in _ ⟨by omega, by omega⟩
        have HN := Lib.hid (show nadd nk (nmul xc (ndown (clip span - clip xd) xp + 1)) = eneed span (es.take k ++ [(xp, xd, xc)]) by
          rw [hsn, rjobs_yes (by omega), nadd_nsum])
        clear hsn hnk
        go_wp2_with ((with_reducible go_at_call 66); (with_reducible refine (ref_clip _ _).mono ?_); rintro e w' ⟨rfl, rfl⟩)
        refine wp_region_dep (S := Ext) (C := Ext (wr)) (by kernel_rfl) (by kernel_rfl) rfl Ext.refl (Ext.drew _) ?_
        repeat (refine dep_det (by rfl) (fun K hK => ?_); go_simp; first
          | ((with_reducible refine hK _ ?_); clear hK K)
          | (rw [if_neg (by decide)]; (with_reducible refine hK _ ?_); clear hK K)
          | (refine ⟨_, fun w1 hw1 => ⟨Ext.refl w1, hw1, rfl⟩, hK _ ?_⟩; clear hK K)
          | (apply Exists.intro; refine ⟨fun w1 hw1 => ?_, hK _ ?_⟩
             first
               | (go_at_call 81; refine (ref_down _ _ _).mono ?_; rintro e w' ⟨rfl, rfl⟩; exact ⟨_, rfl, Ext.refl _, hw1, rfl⟩)
               | (go_at_call 79; refine (ref_mul _ _ _).mono ?_; rintro e w' ⟨rfl, rfl⟩; exact ⟨_, rfl, Ext.refl _, hw1, rfl⟩)
               | (go_at_call 61; refine (ref_add _ _ _).mono ?_; rintro e w' ⟨rfl, rfl⟩; exact ⟨_, rfl, Ext.refl _, hw1, rfl⟩)
               | (have c_h1 := cell_keep hw1 h1; have c_h2 := cell_keep hw1 h2; have c_h3 := cell_keep hw1 h3; go_simp; first | exact ⟨Ext.refl _, hw1, rfl⟩ | exact ⟨Ext.refl _, rfl⟩)
             clear hK K))
        refine dep_nil ?_
        intro a' w' hC hE
        obtain rfl := atEnd_nil hE
        clear hE
        go_wp2
        go_roundw
        case rel => exact ⟨k + 1, by omega, by go_num, by rw [HT.out, HN.out], hb.trans (hC.mono hb.size)⟩
        case measure => simp [intOf]; omega
      · have HN := Lib.hid (show nk = eneed span (es.take k ++ [(xp, xd, xc)]) by
          rw [hsn, rjobs_no (by omega)]
          simp [nsum]; unfold clip; omega)
        clear hsn hnk
        go_wp2_with ((with_reducible go_at_call 66); (with_reducible refine (ref_clip _ _).mono ?_); rintro e w' ⟨rfl, rfl⟩)
        go_roundw
        case rel => exact ⟨k + 1, by omega, by go_num, by rw [HT.out, ← HN.out], hb⟩
        case measure => simp [intOf]; omega
    · go_wp2
      go_ret
      exact ⟨ret_int (by rw [List.take_of_length_le (by omega)]), hb⟩

set_option maxRecDepth 100000 in
set_option maxHeartbeats 1000000 in
theorem r_busy (block : Int) (A : Option Addr) (n c : Nat) (ps : List (Int × Int)) (most : Int) (w : World) (hn : n ≤ 4611686018427387904) (hr : Rd w A (pairs ps)) (hl : ps.length = n) :
    Calls Try.prog 68 #[.int .i64 block, .slice A n c, .int .i64 most] w fun e w' =>
      e = .returned (.tuple #[.int .i64 (respOf (rresp 0 block ps most)), .bool (rresp 0 block ps most).isSome]) ∧ Below w.heap.size w w' := by
  have HR := Lib.hid (ref_response 0 block A n c ps most w hn hr hl)
  generalize rresp 0 block ps most = o at *
  go_enter Try.func68, Try.ntmps68
  go_wp2_with ((with_reducible go_at_call 46); (with_reducible refine (HR.out).mono ?_); rintro e w1 ⟨rfl, b1⟩)
  go_ret2
  exact ⟨rfl, b1⟩

set_option maxRecDepth 100000 in
set_option maxHeartbeats 2000000 in
theorem r_fits (block : Int) (A : Option Addr) (n c : Nat) (ps : List (Int × Int)) (B : Option Addr) (m d : Nat) (es : List (Int × Int × Int)) (most : Int) (w : World) (hn : n ≤ 65536) (hr : Rd w A (pairs ps)) (hl : ps.length = n) (hm : m ≤ 65536) (hs : Rd w B (trips es)) (hk : es.length = m) :
    Calls Try.prog 47 #[.int .i64 block, .slice A n c, .slice B m d, .int .i64 most] w fun e w' =>
      e = .returned (.tuple #[.int .i64 (dfits block ps es most).1, .bool (dfits block ps es most).2]) ∧ Below w.heap.size w w' := by
  subst hk
  obtain ⟨ip, hi, hz0, hz1, hz2⟩ := info_parts info_rpart'
  have HI := Lib.hid hi
  have HL := Lib.hid hl
  have LP := Lib.hid (by rw [pairs_len, hl]; omega : (pairs ps).length = n * 2)
  clear hi hl
  go_enter Try.func47, Try.ntmps47
  go_wp2_with (at_builtin; refine wpl_append _ rfl (.const (.slice none 0 0)) (.tmp 16) 33 rfl 37 ip _ 2 16 Try.underlying33 HI.out hz0 hz1 hz2 rfl (by omega) w.heap.size none 0 0 [] rfl (Row.nil _ _ _ _) A n c (pairs ps) rfl LP.out hr (pairs_one ps) n (pairs ps) (by omega) rfl (by omega) (by omega) (Nat.le_refl _) ?_; intro A1 c1 w1 r1 g1 e1; clear e1)
  have b1 := below_grown (Ext.refl w) g1 (Nat.le_refl _) (by simp [blk])
  clear g1
  go_loopw [10, 11] (fun v i wr => ∃ (k : Nat) (A' : Option Addr) (c' : Nat), k ≤ es.length ∧ i = .int .i64 k ∧ v = .slice A' (n + k) c' ∧ Row wr w.heap.size 37 2 A' (n + k) c' (pairs (ps ++ (es.take k).map epc)) ∧ Below w.heap.size w wr) (fun _ i _ => es.length - (intOf i).toNat)
  case atStart => exact ⟨0, A1, c1, Nat.zero_le _, rfl, rfl, by simpa using r1, b1⟩
  case round =>
    obtain ⟨k, A', c', hk, rfl, rfl, hown, hb⟩ := hrel
    clear r1 b1
    by_cases hlt : k < es.length
    · obtain ⟨b, off, rfl, h1, h2, h3⟩ := (hs.keep hb).trip hlt
      have HT := Lib.hid (take_succ' es k hlt)
      have i0 : (0 : Int) ≤ (k : Int) := by omega
      have i1 : (k : Int) < (es.length : Int) := by omega
      have HA : Hid (pairs (ps ++ (es.take k).map epc) ++ pairs [(es[k].1, es[k].2.2)] = pairs (ps ++ (es.take (k + 1)).map epc)) := Lib.hid (by rw [HT.out, pairs_app, List.map_append, List.append_assoc]; rfl)
      go_wp2
      refine wp_region_dep_tail 13 (S := Ext) (C := Ext (wr)) (by kernel_rfl) (by kernel_rfl) rfl Ext.refl (Ext.drew _) ?_
      simp only [List.take_succ_cons, List.take_zero]
      repeat (refine dep_det (by rfl) (fun K hK => ?_); go_simp; first
        | ((with_reducible refine hK _ ?_); clear hK K)
        | (rw [if_neg (by decide)]; (with_reducible refine hK _ ?_); clear hK K)
        | (refine ⟨_, fun w1 hw1 => ⟨Ext.refl w1, hw1, rfl⟩, hK _ ?_⟩; clear hK K)
        | (apply Exists.intro; refine ⟨fun w1 hw1 => ?_, hK _ ?_⟩
           first
             | (have c_h1 := cell_keep hw1 h1; have c_h3 := cell_keep hw1 h3; go_simp; first | exact ⟨Ext.refl _, hw1, rfl⟩ | exact ⟨Ext.refl _, rfl⟩)
           clear hK K))
      refine dep_var (SlAt 37 ([.int .i64 es[k].1, .int .i64 es[k].2.2]) 1 1) 36 rfl (by rfl) SlAt.keep (by go_simp) (fun w1 hw1 => ?_) ?_
      · go_simp
        exact ⟨Ext.alloc _ _, Ext.trans hw1 (Ext.alloc _ _), SlAt.new w1 37 ([.int .i64 es[k].1, .int .i64 es[k].2.2]) 1 1⟩
      refine dep_nil ?_
      intro a' w' hC hE
      obtain ⟨v, ⟨g, rfl, ho⟩, hE⟩ := atEnd_cons hE (by simp) (by first | (simp; done) | simp [Act.put])
      obtain rfl := atEnd_nil hE
      clear hE
      simp only [List.drop_succ_cons, List.drop_zero]
      have row := hown.keep hC
      go_wp2_with (at_builtin; refine wpl_append _ rfl (.tmp 24) (.tmp 36) 33 rfl 37 ip _ 2 16 Try.underlying33 HI.out hz0 hz1 hz2 rfl (by omega) w.heap.size A' (n + k) c' _ rfl row (some ⟨g, 0, none⟩) 1 1 (pairs [(es[k].1, es[k].2.2)]) rfl rfl ho.rd0 (pairs_one _) (n + (k + 1)) (pairs (ps ++ (es.take (k + 1)).map epc)) (by omega) HA.out (by omega) (by omega) (Nat.le_trans hb.size hC.size) ?_; intro A2 c2 w2 o2 g2 e2)
      have bC := hb.trans (hC.mono hb.size)
      have b2 := below_grown bC g2 bC.size (fun g' hg' => (row.at_ g' hg').1)
      go_roundw
      case rel => exact ⟨k + 1, A2, c2, by omega, by go_num, rfl, o2, b2⟩
      case measure => simp [intOf]; omega
    · obtain rfl : k = es.length := by omega
      have hall : Rd wr A' (pairs (dall ps es)) := by have := hown.rd; rwa [List.take_length] at this
      have hlen : (dall ps es).length = n + es.length := by simp [dall, HL.out]
      have HBL := Lib.hid hlen
      clear hown hlt hlen
      go_wp2_with fail
      refine (r_busy block A' (n + es.length) c' (dall ps es) most wr (by omega) hall HBL.out).mono ?_
      rintro e w3 ⟨rfl, b3⟩
      have k3 : Ext w w3 := Ext.trans hb b3
      cases hres : rresp 0 block (dall ps es) most with
      | none =>
        have HN := Lib.hid (dfits_no hres)
        clear hres
        go_wp2
        go_ret2
        exact ⟨ret_fits HN.out, k3⟩
      | some i =>
        have hi4 := resp_small hres
        have HR := Lib.hid hres
        have hro : respOf (some i) = (i : Int) + 1 := rfl
        rw [hro]
        clear hres hro
        go_wp2
        go_loopw [14] (fun s wr => ∃ x : Int, 1 ≤ x ∧ x ≤ (i : Int) + 2 ∧ s = .int .i64 x ∧ Hid (∀ t : Int, 1 ≤ t → t < x → dbad block ps es t = false) ∧ Below w.heap.size w wr) (fun s _ => (4098 - intOf s).toNat)
        case atStart => exact ⟨1, by omega, by omega, rfl, Lib.hid (fun t h1 h2 => by omega), k3⟩
        case round =>
          obtain ⟨x, x0, x1, rfl, hs2, hb2⟩ := hrel
          clear k3 hb b3 hall
          have hrS := hs.keep hb2
          have hrP := hr.keep hb2
          by_cases hle : x ≤ (i : Int) + 1
          · have hle4 : x ≤ 4096 := by omega
            have n0 := eneed_lo x es
            have n1 := eneed_hi x es
            have hbx : dbad block ps es x = (decide (0 < eneed x es) && decide (x < nsum [block, rwork x ps, eneed x es])) := rfl
            have HB := Lib.hid hbx
            clear hbx
            have HNX : Hid (∀ h : dbad block ps es x = false, ∀ t : Int, 1 ≤ t → t < x + 1 → dbad block ps es t = false) := Lib.hid fun h t h1 h2 => by
              rcases Int.lt_or_le t x with h3 | h3
              · exact hs2.out t h1 h3
              · obtain rfl : t = x := by omega
                exact h
            by_cases hz : eneed x es ≤ 0
            · have HF := Lib.hid (HNX.out (by rw [HB.out]; simp; omega))
              go_wp2_with ((with_reducible go_at_call 69); refine (r_need x B es.length d es _ (by omega) hrS rfl).mono ?_; rintro e w4 ⟨rfl, b4⟩)
              go_roundw
              case rel => exact ⟨x + 1, by omega, by omega, rfl, HF, Ext.trans hb2 b4⟩
              case measure => simp [intOf]; omega
            · by_cases hgt : x < nsum [block, rwork x ps, eneed x es]
              · have HD := Lib.hid (dfits_bad HR.out x0 hle (by rw [HB.out]; simp; omega) hs2.out)
                go_wp2_with (first
                  | ((with_reducible go_at_call 69); refine (r_need x B es.length d es _ (by omega) hrS rfl).mono ?_; rintro e w4 ⟨rfl, b4⟩)
                  | ((with_reducible go_at_call 67); refine (ref_work x A n c ps _ (by omega) (hrP.keep b4) HL.out).mono ?_; rintro e w5 ⟨rfl, b5⟩)
                  | (go_at_call 70; refine (ref_sum _ 3 _ [block, rwork x ps, eneed x es] _ (by omega) (rd3i _ _ _ _) rfl).mono ?_; rintro e w' ⟨rfl, rfl⟩))
                go_ret2
                exact ⟨ret_fits HD.out, Ext.trans hb2 (Ext.trans b4 (Ext.trans b5 (Ext.alloc _ _)))⟩
              · have HF := Lib.hid (HNX.out (by rw [HB.out]; simp; omega))
                go_wp2_with (first
                  | ((with_reducible go_at_call 69); refine (r_need x B es.length d es _ (by omega) hrS rfl).mono ?_; rintro e w4 ⟨rfl, b4⟩)
                  | ((with_reducible go_at_call 67); refine (ref_work x A n c ps _ (by omega) (hrP.keep b4) HL.out).mono ?_; rintro e w5 ⟨rfl, b5⟩)
                  | (go_at_call 70; refine (ref_sum _ 3 _ [block, rwork x ps, eneed x es] _ (by omega) (rd3i _ _ _ _) rfl).mono ?_; rintro e w' ⟨rfl, rfl⟩))
                go_roundw
                case rel => exact ⟨x + 1, by omega, by omega, rfl, HF, Ext.trans hb2 (Ext.trans b4 (Ext.trans b5 (Ext.alloc _ _)))⟩
                case measure => simp [intOf]; omega
          · have HD := Lib.hid (dfits_ok HR.out fun t h1 h2 => hs2.out t h1 (by omega))
            go_wp2
            go_ret2
            exact ⟨ret_fits HD.out, hb2⟩

end Go.Proofs.Ytdninhdabeddeaa
