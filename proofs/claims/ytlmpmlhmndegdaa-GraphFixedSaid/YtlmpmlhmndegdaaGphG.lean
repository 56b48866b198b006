/-
  WALKS of chapter 11: Acyclic of both; great; what every program answers that is one.
-/
import Derived.Test.YtlmpmlhmndegdaaGphF
import Derived.Test.YtlmpmlhmndegdaaAppB
namespace Go.Proofs.Ytlmpmlhmndegdaa
open Go.RowKit
attribute [local go_sem] depUpon Sp.ok

/-- Does none of the first k wait for itself? -/
def gacy (ws os : List Int) (n : Int) (k : Nat) : Bool := (List.range k).all fun i => !memB (i : Int) (gchain ws os n (i : Int))
def gacyclic (ws os : List Int) (n : Int) : Bool := gacy ws os n (min n (ws.length : Int)).toNat
theorem gacy_succ (ws os : List Int) (n : Int) (k : Nat) : gacy ws os n (k + 1) = (gacy ws os n k && !memB (k : Int) (gchain ws os n (k : Int))) := by
  unfold gacy; rw [List.range_succ, List.all_append]; simp
theorem gacy_false {ws os : List Int} {n : Int} {k m : Nat} (hk : k < m) (h : memB (k : Int) (gchain ws os n (k : Int)) = true) : gacy ws os n m = false := by
  unfold gacy
  rw [List.all_eq_false]
  exact ⟨k, List.mem_range.2 hk, by simp [h]⟩

set_option maxRecDepth 100000 in
set_option maxHeartbeats 2000000 in
theorem g_acyclic (A : Option Addr) (na ca : Nat) (ws : List Int) (B : Option Addr) (nb cb : Nat) (os : List Int) (n : Int) (w : World) (h : WO w A na ws B nb os) (hn : n ≤ 60000) :
    Calls Try.prog 24 #[.slice A na ca, .slice B nb cb, .int .i64 n] w fun e w' => e = .returned (.bool (gacyclic ws os n)) ∧ Below w.heap.size w w' := by
  have HW := Lib.hid h
  have HLA := Lib.hid h.la
  have HC := Lib.hid (fun (k : Nat) w' (hb : Ext w w') => g_chain A na ca ws B nb cb os n (k : Int) w' (HW.out.keep hb) hn)
  have HCL := Lib.hid (fun (k : Nat) => gchain_len ws os n (k : Int))
  have hval : gacyclic ws os n = gacy ws os n (min n (na : Int)).toNat := by rw [← HLA.out]; rfl
  have hb : ((min n (na : Int)).toNat : Int) = max (min n (na : Int)) 0 := by omega
  generalize hN : (min n (na : Int)).toNat = N at *
  have HV := Lib.hid hval
  have h1 : (N : Int) ≤ 60000 := by omega
  clear h hval hN
  go_enter Try.func24, Try.ntmps24
  go_wp2
  all_goals
    have hq : ∀ k : Nat, (k : Int) < (N : Int) ↔ (k : Int) < min n (na : Int) := fun k => by omega
    have HQ := Lib.hid hq
    clear hq hb
    go_loopw [12] (fun i wr => ∃ k : Nat, k ≤ N ∧ i = .int .i64 k ∧ Hid (gacy ws os n k = true) ∧ Ext w wr) (fun i _ => N - (intOf i).toNat)
    case atStart => exact ⟨0, Nat.zero_le _, rfl, Lib.hid rfl, Ext.refl _⟩
    case round =>
      obtain ⟨k, hk, rfl, HA, hb⟩ := hrel
      by_cases hlt : k < N
      · have hlt2 := (HQ.out k).1 (by omega)
        first
          | (have hlt3 : (k : Int) < n := by omega)
          | skip
        have hlt4 : (k : Int) < (na : Int) := by omega
        have hlen := HCL.out k
        have hI := fun A' (c' : Nat) w' (hr : Rd w' A' (ints (gchain ws os n (k : Int)))) => s_contains (k : Int) A' (gchain ws os n (k : Int)).length c' (gchain ws os n (k : Int)) w' (by omega) hr rfl
        have HS := Lib.hid (gacy_succ ws os n k)
        cases hm : memB (k : Int) (gchain ws os n (k : Int))
        · rw [hm] at hI
          have HI := Lib.hid hI
          have HA2 : Hid (gacy ws os n (k + 1) = true) := Lib.hid (by rw [HS.out, HA.out, hm]; rfl)
          clear hI hm hlt2
          go_wp2_with (first
            | ((with_reducible go_at_call 18); refine (HC.out k _ hb).mono ?_; rintro e w1 ⟨A', c', rfl, r1, b1⟩)
            | ((with_reducible go_at_call 38); (with_reducible refine (HI.out _ _ _ r1.rd).mono ?_); rintro e w' ⟨rfl, rfl⟩))
          go_roundw
          case rel => exact ⟨k + 1, by omega, by go_num, HA2, Ext.trans hb b1⟩
          case measure => simp [intOf]; omega
        · have HF := Lib.hid (gacy_false hlt hm)
          rw [hm] at hI
          have HI := Lib.hid hI
          clear hI hm hlt2
          go_wp2_with (first
            | ((with_reducible go_at_call 18); refine (HC.out k _ hb).mono ?_; rintro e w1 ⟨A', c', rfl, r1, b1⟩)
            | ((with_reducible go_at_call 38); (with_reducible refine (HI.out _ _ _ r1.rd).mono ?_); rintro e w' ⟨rfl, rfl⟩))
          go_ret
          exact ⟨by rw [HV.out, HF.out]; rfl, Ext.trans hb b1⟩
      · have hge : ¬ (k : Int) < min n (na : Int) := fun h => hlt (by have := (HQ.out k).2 h; omega)
        have hkN : k = N := by omega
        have HF : Hid (gacyclic ws os n = true) := Lib.hid (by rw [HV.out, ← hkN, HA.out])
        clear hkN
        first
          | (have hge2 : ¬ (k : Int) < n := by omega)
          | (have hge2 : ¬ (k : Int) < (na : Int) := by omega)
        clear hge
        go_wp2
        go_ret
        exact ⟨by rw [HF.out]; rfl, hb⟩

set_option maxRecDepth 100000 in
set_option maxHeartbeats 2000000 in
theorem r_acyclic (A : Option Addr) (na ca : Nat) (ws : List Int) (B : Option Addr) (nb cb : Nat) (os : List Int) (n : Int) (w : World) (h : WO w A na ws B nb os) (hn : n ≤ 60000) :
    Calls Try.prog 25 #[.slice A na ca, .slice B nb cb, .int .i64 n] w fun e w' => e = .returned (.bool (gacyclic ws os n)) ∧ Below w.heap.size w w' := by
  have HW := Lib.hid h
  have HLA := Lib.hid h.la
  have HC := Lib.hid (fun (k : Nat) w' (hb : Ext w w') => r_chain A na ca ws B nb cb os n (k : Int) w' (HW.out.keep hb) hn)
  have HCL := Lib.hid (fun (k : Nat) => gchain_len ws os n (k : Int))
  have hval : gacyclic ws os n = gacy ws os n (min n (na : Int)).toNat := by rw [← HLA.out]; rfl
  have hb : ((min n (na : Int)).toNat : Int) = max (min n (na : Int)) 0 := by omega
  generalize hN : (min n (na : Int)).toNat = N at *
  have HV := Lib.hid hval
  have h1 : (N : Int) ≤ 60000 := by omega
  have hq : ∀ k : Nat, (k : Int) < (N : Int) ↔ (k : Int) < min n (na : Int) := fun k => by omega
  have HQ := Lib.hid hq
  clear h hval hN hq hb
  go_enter Try.func25, Try.ntmps25
  go_wp2
  go_loopw [7] (fun i wr => ∃ k : Nat, k ≤ N ∧ i = .int .i64 k ∧ Hid (gacy ws os n k = true) ∧ Ext w wr) (fun i _ => N - (intOf i).toNat)
  case atStart => exact ⟨0, Nat.zero_le _, rfl, Lib.hid rfl, Ext.refl _⟩
  case round =>
    obtain ⟨k, hk, rfl, HA, hb⟩ := hrel
    by_cases hlt : k < N
    · have hlt2 := (HQ.out k).1 (by omega)
      have hlt3 : (k : Int) < n := by omega
      have hlt4 : (k : Int) < (na : Int) := by omega
      have hlen := HCL.out k
      have hI := fun A' (c' : Nat) w' (hr : Rd w' A' (ints (gchain ws os n (k : Int)))) => r_in (k : Int) A' (gchain ws os n (k : Int)).length c' (gchain ws os n (k : Int)) w' (by omega) hr rfl
      have HS := Lib.hid (gacy_succ ws os n k)
      cases hm : memB (k : Int) (gchain ws os n (k : Int))
      · rw [hm] at hI
        have HI := Lib.hid hI
        have HA2 : Hid (gacy ws os n (k + 1) = true) := Lib.hid (by rw [HS.out, HA.out, hm]; rfl)
        clear hI hm hlt2
        go_wp2_with (first
          | ((with_reducible go_at_call 22); refine (HC.out k _ hb).mono ?_; rintro e w1 ⟨A', c', rfl, r1, b1⟩)
          | ((with_reducible go_at_call 32); (with_reducible refine (HI.out _ _ _ r1.rd).mono ?_); rintro e w' ⟨rfl, rfl⟩))
        go_roundw
        case rel => exact ⟨k + 1, by omega, by go_num, HA2, Ext.trans hb b1⟩
        case measure => simp [intOf]; omega
      · have HF := Lib.hid (gacy_false hlt hm)
        rw [hm] at hI
        have HI := Lib.hid hI
        clear hI hm hlt2
        go_wp2_with (first
          | ((with_reducible go_at_call 22); refine (HC.out k _ hb).mono ?_; rintro e w1 ⟨A', c', rfl, r1, b1⟩)
          | ((with_reducible go_at_call 32); (with_reducible refine (HI.out _ _ _ r1.rd).mono ?_); rintro e w' ⟨rfl, rfl⟩))
        go_ret
        exact ⟨by rw [HV.out, HF.out]; rfl, Ext.trans hb b1⟩
    · have hge : ¬ (k : Int) < min n (na : Int) := fun h => hlt (by have := (HQ.out k).2 h; omega)
      have hkN : k = N := by omega
      have HF : Hid (gacyclic ws os n = true) := Lib.hid (by rw [HV.out, ← hkN, HA.out])
      clear hkN
      by_cases hge1 : (k : Int) < n
      · have hge2 : ¬ (k : Int) < (na : Int) := by omega
        clear hge
        go_wp2
        go_ret
        exact ⟨by rw [HF.out]; rfl, hb⟩
      · clear hge
        go_wp2
        go_ret
        exact ⟨by rw [HF.out]; rfl, hb⟩

set_option maxRecDepth 100000 in
set_option maxHeartbeats 400000 in
theorem l_great (A : Option Addr) (na ca : Nat) (B : Option Addr) (nb cb : Nat) (n : Int) (w : World) (q : Bool) (h : decide (25 < na ∨ 25 < nb ∨ 25 < n) = q) :
    Calls Try.prog 8 #[.slice A na ca, .slice B nb cb, .int .i64 n] w fun e w' => e = .returned (.bool q) ∧ w = w' := by
  have H := Lib.hid h
  clear h
  go_enter Try.func8, Try.ntmps8
  go_wp2
  all_goals
    go_ret
    refine ⟨ret_bool ?_, rfl⟩
    rw [← H.out, Bool.eq_iff_iff]
    simp
    omega

theorem rd_prio3 (w : World) (a b c d e f g h i : Int) : Rd (w.alloc (.cells #[.int .i64 a, .int .i64 b, .int .i64 c, .int .i64 d, .int .i64 e, .int .i64 f, .int .i64 g, .int .i64 h, .int .i64 i] 33)) (some ⟨w.heap.size, 0, none⟩) (trips [(a, b, c), (d, e, f), (g, h, i)]) := (Own.new w 33 (trips [(a, b, c), (d, e, f), (g, h, i)])).rd0

set_option maxRecDepth 100000 in
set_option maxHeartbeats 4000000 in
theorem gph_awake (w : World) :
    Calls Try.prog 9 #[] w fun e w' => e = .returned (.bool true) ∧ Below w.heap.size w w' := by
  have h1 : geff [(2, 3, 0), (0, 2, 0), (0, 9, 0)] (chs [0, 1, -1] [1, 2] 3) = [(2, 3, 0), (2, 3, 0), (2, 3, 0)] := by decide +kernel
  have h2 : gchain [0, 1, -1] [1, 2] 3 0 = [1, 2] := by decide +kernel
  have c1 := fun D cd A ca B cb w (h : WO w A 3 [0, 1, -1] B 2 [1, 2]) (hd : Rd w D (trips [(2, 3, 0), (0, 2, 0), (0, 9, 0)])) => g_effective D 3 cd [(2, 3, 0), (0, 2, 0), (0, 9, 0)] A 3 ca [0, 1, -1] B 2 cb [1, 2] w h hd rfl (by omega)
  rw [h1] at c1
  have c2 := fun A ca B cb w (h : WO w A 3 [0, 1, -1] B 2 [1, 2]) => g_chain A 3 ca [0, 1, -1] B 2 cb [1, 2] 3 0 w h (by omega)
  rw [h2] at c2
  have c3 := fun A B c d w (h : Rd w A (ints [1, 2])) (k : Rd w B (ints [1, 2])) => same_ints A B 2 2 c d [1, 2] [1, 2] w (by omega) (by omega) h k rfl rfl
  have hdd : decide (([1, 2] : List Int) = [1, 2]) = true := by decide
  rw [hdd] at c3
  have C1 := Lib.hid c1
  have C2 := Lib.hid c2
  have C3 := Lib.hid c3
  clear h1 h2 c1 c2 c3 hdd
  have rP := rd_prio3 w 2 3 0 0 2 0 0 9 0
  have rA := (Own.new (w.alloc (.cells #[.int .i64 2, .int .i64 3, .int .i64 0, .int .i64 0, .int .i64 2, .int .i64 0, .int .i64 0, .int .i64 9, .int .i64 0] 33)) 3 (ints [0, 1, -1])).rd0
  have rB := (Own.new ((w.alloc (.cells #[.int .i64 2, .int .i64 3, .int .i64 0, .int .i64 0, .int .i64 2, .int .i64 0, .int .i64 0, .int .i64 9, .int .i64 0] 33)).alloc (.cells (ints [0, 1, -1]).toArray 3)) 3 (ints [1, 2])).rd0
  have e1 : (w.alloc (.cells #[.int .i64 2, .int .i64 3, .int .i64 0, .int .i64 0, .int .i64 2, .int .i64 0, .int .i64 0, .int .i64 9, .int .i64 0] 33)).heap.size = w.heap.size + 1 := by simp
  have e2 : ((w.alloc (.cells #[.int .i64 2, .int .i64 3, .int .i64 0, .int .i64 0, .int .i64 2, .int .i64 0, .int .i64 0, .int .i64 9, .int .i64 0] 33)).alloc (.cells (ints [0, 1, -1]).toArray 3)).heap.size = w.heap.size + 1 + 1 := by simp
  rw [e1] at rA
  rw [e2] at rB
  clear e1 e2
  have HWO : Hid (WO (((w.alloc (.cells #[.int .i64 2, .int .i64 3, .int .i64 0, .int .i64 0, .int .i64 2, .int .i64 0, .int .i64 0, .int .i64 9, .int .i64 0] 33)).alloc (.cells #[.int .i64 0, .int .i64 1, .int .i64 (-1)] 3)).alloc (.cells #[.int .i64 1, .int .i64 2] 3)) (some ⟨w.heap.size + 1, 0, none⟩) 3 [0, 1, -1] (some ⟨w.heap.size + 1 + 1, 0, none⟩) 2 [1, 2]) := Lib.hid ⟨rA.keep (Ext.alloc _ _), rfl, rB, rfl⟩
  have HRP := Lib.hid ((rP.keep (Ext.alloc _ (.cells #[.int .i64 0, .int .i64 1, .int .i64 (-1)] 3))).keep (Ext.alloc _ (.cells #[.int .i64 1, .int .i64 2] 3)))
  clear rP rA rB
  go_enter Try.func9, Try.ntmps9
  go_wp2_with fail
  refine (C1.out _ _ _ _ _ _ _ HWO.out HRP.out).mono ?_
  rintro e w1 ⟨O, c, rfl, r1, b1⟩
  have hp := HRP.out.keep b1
  have kW : Ext w w1 := Ext.trans (Ext.trans (Ext.trans (Ext.alloc _ _) (Ext.alloc _ _)) (Ext.alloc _ _)) b1
  obtain ⟨g, rfl⟩ := r1.addr (by omega)
  obtain ⟨bx, ox, eO, a0, a1, a2⟩ := r1.rd.trip (k := 1) (by simp)
  injection eO with eO; injection eO with x1 x2
  subst x1; subst x2
  obtain ⟨bx, ox, eO, a3, a4, a5⟩ := r1.rd.trip (k := 2) (by simp)
  injection eO with eO; injection eO with x1 x2
  subst x1; subst x2
  obtain ⟨bx, ox, eO, a6, a7, a8⟩ := hp.trip (k := 0) (by simp)
  injection eO with eO; injection eO with x1 x2
  subst x1; subst x2
  have z0 : w1.cell? ⟨g, 3, none⟩ = some (.int .i64 2) := a0
  have z1 : w1.cell? ⟨g, 4, none⟩ = some (.int .i64 3) := a1
  have z2 : w1.cell? ⟨g, 5, none⟩ = some (.int .i64 0) := a2
  have z3 : w1.cell? ⟨g, 6, none⟩ = some (.int .i64 2) := a3
  have z4 : w1.cell? ⟨g, 7, none⟩ = some (.int .i64 3) := a4
  have z5 : w1.cell? ⟨g, 8, none⟩ = some (.int .i64 0) := a5
  have z6 : w1.cell? ⟨w.heap.size, 0, none⟩ = some (.int .i64 2) := a6
  have z7 : w1.cell? ⟨w.heap.size, 1, none⟩ = some (.int .i64 3) := a7
  have z8 : w1.cell? ⟨w.heap.size, 2, none⟩ = some (.int .i64 0) := a8
  clear a0 a1 a2 a3 a4 a5 a6 a7 a8 hp r1 b1
  go_wp2
  refine wp_region_dep (S := Ext) (C := Ext (w1)) (by kernel_rfl) (by kernel_rfl) rfl Ext.refl (Ext.drew _) ?_
  repeat (refine dep_det (by rfl) (fun K hK => ?_); go_simp; first
    | ((with_reducible refine hK _ ?_); clear hK K)
    | (refine ⟨_, fun w1 hw1 => ⟨Ext.refl w1, hw1, rfl⟩, hK _ ?_⟩; clear hK K)
    | (apply Exists.intro; refine ⟨fun w1 hw1 => ?_, hK _ ?_⟩
       first
         | (have c_z0 := cell_keep hw1 z0; have c_z1 := cell_keep hw1 z1; have c_z2 := cell_keep hw1 z2; have c_z3 := cell_keep hw1 z3; have c_z4 := cell_keep hw1 z4; have c_z5 := cell_keep hw1 z5; have c_z6 := cell_keep hw1 z6; have c_z7 := cell_keep hw1 z7; have c_z8 := cell_keep hw1 z8; go_simp; first | exact ⟨Ext.refl _, hw1, rfl⟩ | exact ⟨Ext.refl _, rfl⟩)
       clear hK K))
  refine dep_var (SlAt 3 (ints [0, 1, -1]) 3 3) 33 rfl (by rfl) SlAt.keep (by go_simp) (fun w1 hw1 => ?_) ?_
  · go_simp
    exact ⟨Ext.alloc _ _, Ext.trans hw1 (Ext.alloc _ _), SlAt.new w1 3 (ints [0, 1, -1]) 3 3⟩
  refine dep_var (SlAt 3 (ints [1, 2]) 2 2) 34 rfl (by rfl) SlAt.keep (by go_simp) (fun w1 hw1 => ?_) ?_
  · go_simp
    exact ⟨Ext.alloc _ _, Ext.trans hw1 (Ext.alloc _ _), SlAt.new w1 3 (ints [1, 2]) 2 2⟩
  refine dep_var2 33 34 _ _ (RdSl (ints [1, 2]) 2) 35 rfl (by rfl) (by intro V' h; simpa using h) (by simp) (by intro V' h; simpa using h) (by simp) (by first | (simp; done) | simp [Act.put]) (by first | (simp; done) | simp [Act.put]) RdSl.keep (fun W v1 v2 hW hV1 hV2 => ?_) ?_
  · obtain ⟨g1, rfl, h1⟩ := hV1
    obtain ⟨g2, rfl, h2⟩ := hV2
    refine ⟨by go_simp, ?_⟩
    go_simp
    refine (C2.out _ _ _ _ W ⟨h1.rd0, rfl, h2.rd0, rfl⟩).mono ?_
    rintro e w' ⟨A', c', rfl, hrow, hb'⟩
    exact ⟨_, rfl, hb', Ext.trans hW hb', _, _, rfl, hrow.rd⟩
  refine dep_var (SlAt 3 (ints [1, 2]) 2 2) 36 rfl (by rfl) SlAt.keep (by go_simp) (fun w1 hw1 => ?_) ?_
  · go_simp
    exact ⟨Ext.alloc _ _, Ext.trans hw1 (Ext.alloc _ _), SlAt.new w1 3 (ints [1, 2]) 2 2⟩
  refine dep_var2 35 36 _ _ (fun v _ => v = .bool true) 37 rfl (by rfl) (by intro V' h; simpa using h) (by simp) (by intro V' h; simpa using h) (by simp) (by first | (simp; done) | simp [Act.put]) (by first | (simp; done) | simp [Act.put]) (fun _ _ _ _ h => h) (fun W v1 v2 hW hV1 hV2 => ?_) ?_
  · obtain ⟨A1, c1, rfl, h1⟩ := hV1
    obtain ⟨g2, rfl, h2⟩ := hV2
    refine ⟨by go_simp, ?_⟩
    go_simp
    refine (C3.out _ _ _ _ W h1 h2.rd0).mono ?_
    rintro e w' ⟨rfl, qq, rfl⟩
    exact ⟨_, rfl, Ext.drewN _ _, Ext.trans hW (Ext.drewN _ _), rfl⟩
  refine dep_det1 37 _ (by rfl) (by intro V' h; simpa using h) (List.mem_cons_self ..) (by first | (simp; done) | simp [Act.put]) (fun K hK => ?_)
  apply Exists.intro
  refine ⟨fun W v hW hV => ?_, hK _ ?_⟩
  · subst hV
    go_simp
    first | exact ⟨Ext.refl _, hW, rfl⟩ | exact ⟨Ext.refl _, rfl⟩ | exact ⟨hW, rfl⟩ | rfl
  clear hK K
  repeat (refine dep_det (by rfl) (fun K hK => ?_); go_simp; first
    | ((with_reducible refine hK _ ?_); clear hK K)
    | (refine ⟨_, fun w1 hw1 => ⟨Ext.refl w1, hw1, rfl⟩, hK _ ?_⟩; clear hK K))
  refine dep_nil ?_
  intro a' w' hC hE
  obtain ⟨v, rfl, hE⟩ := atEnd_cons hE (by simp) (by first | (simp; done) | simp [Act.put])
  obtain ⟨v, ⟨_, rfl, _⟩, hE⟩ := atEnd_cons hE (by simp) (by first | (simp; done) | simp [Act.put])
  obtain ⟨v, ⟨_, _, rfl, _⟩, hE⟩ := atEnd_cons hE (by simp) (by first | (simp; done) | simp [Act.put])
  obtain ⟨v, ⟨_, rfl, _⟩, hE⟩ := atEnd_cons hE (by simp) (by first | (simp; done) | simp [Act.put])
  obtain ⟨v, ⟨_, rfl, _⟩, hE⟩ := atEnd_cons hE (by simp) (by first | (simp; done) | simp [Act.put])
  obtain rfl := atEnd_nil hE
  clear hE
  go_wp2
  go_ret
  exact ⟨rfl, Ext.trans kW hC⟩

end Go.Proofs.Ytlmpmlhmndegdaa
