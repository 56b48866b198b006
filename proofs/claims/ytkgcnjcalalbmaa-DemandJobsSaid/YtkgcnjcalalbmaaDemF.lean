/-
  WALK of the statement DemandJobs, chapter 17.
-/
import Derived.Test.YtkgcnjcalalbmaaDemC
import Derived.Test.YtkgcnjcalalbmaaArr
namespace Go.Proofs.Ytkgcnjcalalbmaa
open Go.RowKit
attribute [local go_sem] depUpon Sp.ok

/-- A pointer to a whole block of the call's own, from block B on. -/
def PtAt (t : TypeId) (xs : List Value) (B : Nat) (v : Value) (w : World) : Prop := ∃ g, v = .pointer (some ⟨g, 0, none⟩) ∧ Own w g t xs ∧ B ≤ g
theorem PtAt.keep {t : TypeId} {xs : List Value} {B : Nat} : ∀ (v : Value) (w w' : World), Ext w w' → PtAt t xs B v w → PtAt t xs B v w' := fun _ _ _ hS ⟨g, e, ho, hb⟩ => ⟨g, e, ho.keep hS, hb⟩

def smallE (e : Int × Int × Int) : Int × Int × Int := (1 + low e.1 60, low e.2.1 60, low e.2.2 20)

/-- The inner loop's end: j jobs. -/
theorem jobs_count {s P D C r : Int} {j : Nat} (s0 : 0 ≤ s) (s1 : s < 500) (p0 : 1 ≤ P) (p1 : P ≤ 60) (d0 : 0 ≤ D) (d1 : D < 60) (hr : r = (j : Int) * P) (h1 : s < r + D) (h2 : j = 0 ∨ r - P + D ≤ s) : ejobs s (P, D, C) = (j : Int) := by
  have cs : clip s = s := clip_of s (by omega) (by omega)
  have cd : clip D = D := clip_of D (by omega) (by omega)
  have cp : clip P = P := clip_of P (by omega) (by omega)
  have mp : max P 1 = P := by omega
  rcases Nat.eq_zero_or_pos j with h0 | h0
  · subst h0
    have : r = 0 := by rw [hr]; simp
    rw [ejobs_no (by omega)]; rfl
  · have h3 : r - P + D ≤ s := by omega
    have hj : (j : Int) * P = ((j : Int) - 1) * P + P := by rw [Int.sub_mul, Int.one_mul]; omega
    have hq0 : 0 ≤ ((j : Int) - 1) * P := Int.mul_nonneg (by omega) (by omega)
    have hq : (s - D) / P = (j : Int) - 1 := by
      refine Int.le_antisymm ?_ ?_
      · have := (Int.ediv_lt_iff_lt_mul (a := s - D) (b := (j : Int)) (c := P) (by omega)).2 (by omega)
        omega
      · rw [Int.le_ediv_iff_mul_le (by omega)]; omega
    have hjr : (j : Int) - 1 ≤ 600 := by
      have := Int.mul_le_mul_of_nonneg_left (show (1 : Int) ≤ P by omega) (show 0 ≤ (j : Int) - 1 by omega)
      omega
    rw [ejobs_yes (by omega), cs, cd, cp, mp, hq, clip_of _ (by omega) (by omega)]
    omega

theorem jobs_sum {s P D C r T S : Int} {j : Nat} {L : List (Int × Int × Int)} (s0 : 0 ≤ s) (s1 : s < 500) (p0 : 1 ≤ P) (p1 : P ≤ 60) (d0 : 0 ≤ D) (d1 : D < 60) (c0 : 0 ≤ C) (c1 : C < 20) (hr : r = (j : Int) * P) (h1 : s < r + D) (h2 : j = 0 ∨ r - P + D ≤ s)
    (hT : T = C * (j : Int)) (t0 : 0 ≤ T) (t1 : T ≤ 11200) (hj : (j : Int) ≤ 560) (hS : eneed s L = S) (S0 : 0 ≤ S) (S1 : S ≤ 200000) : eneed s (L ++ [(P, D, C)]) = S + T := by
  have hw : ework s (P, D, C) = T := by
    unfold ework
    rw [jobs_count s0 s1 p0 p1 d0 d1 hr h1 h2]
    unfold nmul
    rw [clip_of C (by omega) (by omega), clip_of (j : Int) (by omega) (by omega), ← hT, clip_of T (by omega) (by omega)]
  rw [eneed_snoc, hw, hS]
  simp [nsum]; unfold clip; omega

theorem size_early : (Try.prog.info? 26).map (·.size) = some 3 := by kernel_rfl
theorem info_early : (Try.prog.info? 26).map (fun i => (i.zero, i.size, i.bytes)) = some (some (.agg #[.int .i64 0, .int .i64 0, .int .i64 0]), 3, 24) := by kernel_rfl

set_option maxRecDepth 100000 in
set_option maxHeartbeats 4000000 in
theorem law_demandjobs (x : Int) (A : Option Addr) (n c : Nat) (es : List (Int × Int × Int)) (w : World) (_ : I64 x) (ga : TripsArg w A n es) :
    Calls Try.prog 3 #[.int .i64 x, .slice A n c] w fun e w' => e = .returned (.bool true) ∧ Below w.heap.size w w' := by
  obtain ⟨hl, hn, hr, _⟩ := ga
  subst hl
  by_cases h8 : 8 < es.length
  · go_enter Try.func3, Try.ntmps3
    go_wp2_with (go_at_call 7; refine (dem_awake _).mono ?_; rintro e w1 ⟨rfl, b1⟩)
    go_ret
    exact ⟨rfl, b1⟩
  · clear hn
    have l1 := low_lo x 500 (by omega)
    have l2 := low_hi x 500 (by omega)
    have c1 := fun w => low_any x 500 w (by omega) (by omega)
    generalize low x 500 = s at *
    have C1 := Lib.hid c1
    clear c1
    obtain ⟨ie, hi, hz0, hz1, hz2⟩ := info_parts info_early
    have HI := Lib.hid hi
    clear hi
    go_enter Try.func3, Try.ntmps3
    go_wp2_with ((with_reducible go_at_call 8); (with_reducible refine (C1.out _).mono ?_); rintro e w' ⟨rfl, rfl⟩)
    go_loopw [5, 6, 7] (fun v1 v2 v3 wr => ∃ (k : Nat) (A' : Option Addr) (c' : Nat) (S : Int), k ≤ es.length ∧ v1 = .int .i64 S ∧ v2 = .slice A' k c' ∧ v3 = .int .i64 k ∧ Hid (eneed s ((es.take k).map smallE) = S) ∧ 0 ≤ S ∧ S ≤ 11200 * k ∧ Row wr w.heap.size 26 3 A' k c' (trips ((es.take k).map smallE)) ∧ Below w.heap.size w wr) (fun _ _ i _ => es.length - (intOf i).toNat)
    case atStart => exact ⟨0, none, 0, 0, by omega, rfl, rfl, rfl, Lib.hid rfl, by omega, by omega, Row.nil _ _ _ _, Below.refl _ _⟩
    case round =>
      obtain ⟨k, A', c', S, hk, rfl, rfl, rfl, HS, S0, S1, hown, hb⟩ := hrel
      by_cases hlt : k < es.length
      · obtain ⟨b, off, rfl, h1, h2, h3⟩ := (hr.keep hb).trip hlt
        have HT := Lib.hid (by rw [take_succ' es k hlt, List.map_append]; rfl : (es.take (k + 1)).map smallE = (es.take k).map smallE ++ [smallE es[k]])
        have i0 : (0 : Int) ≤ (k : Int) := by omega
        have i1 : (k : Int) < (es.length : Int) := by omega
        generalize es[k] = ek at *
        obtain ⟨ep, ed, ec⟩ := ek
        have hsm : smallE (ep, ed, ec) = (1 + low ep 60, low ed 60, low ec 20) := rfl
        rw [hsm] at HT
        clear hsm
        simp only at h1 h2 h3
        have p0 := low_lo ep 60 (by omega)
        have p1 := low_hi ep 60 (by omega)
        have d0 := low_lo ed 60 (by omega)
        have d1 := low_hi ed 60 (by omega)
        have c0 := low_lo ec 20 (by omega)
        have c1 := low_hi ec 20 (by omega)
        have t1 := fun w => low_any ep 60 w (by omega) (by omega)
        have t2 := fun w => low_any ed 60 w (by omega) (by omega)
        have t3 := fun w => low_any ec 20 w (by omega) (by omega)
        have hkp : IntKind.i64.wrap (1 + low ep 60) = 1 + low ep 60 := IntWalk.i64_in _ ⟨by omega, by omega⟩
        generalize low ep 60 = P' at *
        generalize low ed 60 = D at *
        generalize low ec 20 = C at *
        have T1 := Lib.hid t1
        have T2 := Lib.hid t2
        have T3 := Lib.hid t3
        clear t1 t2 t3
        go_wp2
        refine wp_region_dep_tail 21 (S := Ext) (C := Ext (wr)) (by kernel_rfl) (by kernel_rfl) rfl Ext.refl (Ext.drew _) ?_
        simp only [List.take_succ_cons, List.take_zero]
        repeat (refine dep_det (by rfl) (fun K hK => ?_); go_simp; first
          | ((with_reducible refine hK _ ?_); clear hK K)
          | (refine ⟨_, fun w1 hw1 => ⟨Ext.refl w1, hw1, rfl⟩, hK _ ?_⟩; clear hK K)
          | (apply Exists.intro; refine ⟨fun w1 hw1 => ?_, hK _ ?_⟩
             first
               | (go_at_call 8; ((with_reducible refine (T1.out _).mono ?_); rintro e w' ⟨rfl, rfl⟩; exact ⟨_, rfl, Ext.refl _, hw1, rfl⟩))
               | (go_at_call 8; ((with_reducible refine (T2.out _).mono ?_); rintro e w' ⟨rfl, rfl⟩; exact ⟨_, rfl, Ext.refl _, hw1, rfl⟩))
               | (go_at_call 8; ((with_reducible refine (T3.out _).mono ?_); rintro e w' ⟨rfl, rfl⟩; exact ⟨_, rfl, Ext.refl _, hw1, rfl⟩))
               | (have c_h1 := cell_keep hw1 h1; have c_h2 := cell_keep hw1 h2; have c_h3 := cell_keep hw1 h3; go_simp; first | exact ⟨Ext.refl _, hw1, rfl⟩ | exact ⟨Ext.refl _, rfl⟩)
             clear hK K))
        refine dep_var (PtAt 26 [.int .i64 0, .int .i64 0, .int .i64 0] wr.heap.size) 8 rfl (by rfl) PtAt.keep (by go_simp) (fun w1 hw1 => ?_) ?_
        · go_simp
          exact ⟨Ext.alloc _ _, Ext.trans hw1 (Ext.alloc _ _), _, rfl, Own.new w1 26 [.int .i64 0, .int .i64 0, .int .i64 0], hw1.size⟩
        refine dep_nil ?_
        intro a' w' hC hE
        obtain ⟨v, ⟨g, rfl, ho, hg⟩, hE⟩ := atEnd_cons hE (by simp) (by first | (simp; done) | simp [Act.put])
        obtain rfl := atEnd_nil hE
        clear hE hkp
        simp only [List.drop_succ_cons, List.drop_zero]
        have hne : blk A' = none ∨ blk A' ≠ some g := .inr fun h => by have := (hown.at_ g h).2; omega
        have hx1 := hb.size
        have HA : Hid (trips ((es.take k).map smallE) ++ trips [(1 + P', D, C)] = trips ((es.take (k + 1)).map smallE)) := Lib.hid (by rw [HT.out, trips_app])
        go_wp2_with (first
          | (refine wpl_store_own _ rfl 26 _ _ rfl 3 size_early _ rfl [.int .i64 (1 + P'), .int .i64 D, .int .i64 C] rfl _ _ ho rfl rfl (by simp [Value.oneCell']) ?_; intro w2 o2 g2 s2; clear s2; have hd0 := o2.cell 0; have hd1 := o2.cell 1; have hd2 := o2.cell 2; simp only [List.getElem?_cons_zero, List.getElem?_cons_succ] at hd0 hd1 hd2; have r2 := ((hown.keep hC).grown g2 hne).alloc (.cells #[.int .i64 (1 + P'), .int .i64 D, .int .i64 C] 26); have b2 := below_of_grown (hb.trans (hC.mono hb.size)) g2 (by omega) (Nat.le_trans hb.size hC.size); have b3 := Ext.trans b2 (Ext.alloc w2 (.cells #[.int .i64 (1 + P'), .int .i64 D, .int .i64 C] 26)); have o2A := o2.alloc (.cells #[.int .i64 (1 + P'), .int .i64 D, .int .i64 C] 26))
          | (at_builtin; go_loud (refine wpl_append _ rfl (.tmp 42) (.tmp 44) 22 rfl 26 ie _ 3 24 Try.underlying22 HI.out hz0 hz1 hz2 rfl (by omega) w.heap.size A' k c' _ rfl r2 _ 1 1 (trips [(1 + P', D, C)]) rfl rfl (rd_early1 _ _ _ _) (trips_one _) (k + 1) (trips ((es.take (k + 1)).map smallE)) rfl HA.out (by omega) (by omega) b3.size ?_; intro A2 c2 w3 o3 g3 e3)))
        have b4 := below_grown b3 g3 b3.size (fun g' hg' => (r2.at_ g' hg').1)
        have o4 : Own w3 g 26 [.int .i64 (1 + P'), .int .i64 D, .int .i64 C] := o2A.grown g3 (by rcases hne with h | h; rw [h]; simp; exact fun q => h q.symm)
        have hd0' := o4.cell 0
        have hd1' := o4.cell 1
        have hd2' := o4.cell 2
        simp only [List.getElem?_cons_zero, List.getElem?_cons_succ] at hd0' hd1' hd2'
        clear hd0 hd1 hd2 r2 b2 b3 o2A o2 g2 g3 e3 hne ho hC hown hb h1 h2 h3 T1 T2 T3 o4
        have S2 : S ≤ 200000 := by omega
        go_loop [5, 9] (fun v r => ∃ (j : Nat) (r' T : Int), v = .int .i64 (S + T) ∧ r = .int .i64 r' ∧ Hid (r' = (j : Int) * (1 + P')) ∧ Hid (T = C * (j : Int)) ∧ Hid (j = 0 ∨ r' - (1 + P') + D ≤ s) ∧ 0 ≤ r' ∧ r' ≤ 560 ∧ (j : Int) ≤ r' ∧ 0 ≤ T ∧ T ≤ 20 * (j : Int)) (fun _ r => (700 - intOf r).toNat)
        case atStart => exact ⟨0, 0, 0, by simp, rfl, Lib.hid (by simp), Lib.hid (by simp), Lib.hid (.inl rfl), by omega, by omega, by omega, by omega, by omega⟩
        case round =>
          obtain ⟨j, r', T, rfl, rfl, HRR, HTT, HJ, r0, r1, j1, T0, T1⟩ := hrel
          by_cases hle : r' + D ≤ s
          · have HR2 : Hid (r' + (1 + P') = ((j + 1 : Nat) : Int) * (1 + P')) := Lib.hid (by rw [HRR.out, Int.natCast_add, Int.add_mul]; simp)
            have HT2 : Hid (T + C = C * ((j + 1 : Nat) : Int)) := Lib.hid (by rw [HTT.out, Int.natCast_add, Int.mul_add]; simp)
            go_wp2
            go_round
            case rel => exact ⟨j + 1, r' + (1 + P'), T + C, by rw [Int.add_assoc], by go_num, HR2, HT2, Lib.hid (.inr (by omega)), by omega, by omega, by omega, by omega, by omega⟩
            case measure => simp [intOf]; omega
          · have HN := Lib.hid (jobs_sum l1 l2 (by omega) (by omega) d0 d1 c0 c1 HRR.out (by omega) HJ.out HTT.out T0 (by omega) (by omega) HS.out S0 S2)
            rw [← HT.out] at HN
            go_wp2
            go_roundw
            case rel => exact ⟨k + 1, A2, c2, S + T, by omega, rfl, rfl, by go_num, HN, by omega, by omega, o3, b4⟩
            case measure => simp [intOf]; omega
      · go_wp2_with (first
          | ((with_reducible go_at_call 9); refine (d_need s A' k c' ((es.take k).map smallE) _ (by omega) hown.rd (by simp; omega)).mono ?_; rw [HS.out]; rintro e w1 ⟨rfl, b1⟩)
          | (go_at_call 7; refine (dem_awake _).mono ?_; rintro e w2 ⟨rfl, b2⟩))
        go_ret
        exact ⟨rfl, Ext.trans hb (Ext.trans b1 b2)⟩

end Go.Proofs.Ytkgcnjcalalbmaa
