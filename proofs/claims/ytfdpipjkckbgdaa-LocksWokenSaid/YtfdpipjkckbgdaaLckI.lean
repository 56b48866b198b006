/-
  LOCKS: the statement LocksWoken.
-/
import Derived.Test.YtfdpipjkckbgdaaLckG
namespace Go.Proofs.Ytfdpipjkckbgdaa
open Go.ChangeShapes Go.WideShapes Go.ChangeAt Go.RowKit Go.Maps
attribute [local go_sem] depUpon Sp.ok

def wo0 : LS := ls0 [(1, 9), (2, 9)]
def woA : LS := wo0.setH 50 (some [(0, 0)])
def woB : LS := wo0.setH 50 (some [(0, 0), (1, 0)])
def WF (L : List Int) (t : Int) : Option Int := if t ∈ L then some 1 else none
/-- Thread 50 holds both; some wait for the second. -/
def woL (L : List Int) : LS := woB.setW (WF L)
theorem wo_mu (xs : List (Int × Int)) (t : Int) : (wo0.setH 50 (some xs)).mu t = if t = 50 then xs.map Prod.fst else [] := by
  rw [mu_setH]
  split <;> rfl
theorem wo_hl (xs : List (Int × Int)) {t : Int} (ht : t ≠ 50) : (wo0.setH 50 (some xs)).hl t = [] := by
  unfold LS.hl LS.setH
  show (fset wo0.H 50 (some xs) t).getD [] = []
  rw [fset_ne _ _ ht]
  rfl
theorem wo_1 : lockS wo0 50 0 = woA ∧ LI woA := by
  have he : lockE wo0 50 0 = 0 := by rfl
  have ho : ownO wo0 0 = -1 := ownO_no fun t h => by cases h
  have hs : lockS wo0 50 0 = woA := by
    unfold lockS
    rw [if_neg (by rw [he]; simp), if_neg (by rw [ho]; decide)]
    rfl
  exact ⟨hs, by rw [← hs]; exact (LI.zero _).lock 50 0⟩
theorem woA_own : ownO woA 1 = -1 := ownO_no fun t h => by
  unfold woA at h
  rw [wo_mu] at h
  split at h
  · simp at h
  · cases h
theorem WF_nil : WF [] = fun _ => none := by funext t; unfold WF; simp
theorem wo_2 : lockS woA 50 1 = woL [] ∧ LI (woL []) := by
  have he : lockE woA 50 1 = 0 := by rfl
  have hs : lockS woA 50 1 = woL [] := by
    unfold lockS
    rw [if_neg (by rw [he]; simp), if_neg (by rw [woA_own]; decide)]
    unfold woL
    rw [WF_nil]
    exact setH_setH _ _ _ _
  exact ⟨hs, by rw [← hs]; exact wo_1.2.lock 50 1⟩
theorem WF_cons (L : List Int) (t : Int) : fset (WF L) t (some 1) = WF (t :: L) := by
  funext u
  by_cases e : u = t
  · subst e; rw [fset_at]; unfold WF; simp
  · rw [fset_ne _ _ e]; unfold WF; simp [e]
theorem wl_L (L : List Int) (t : Int) : (woL L).wl t = if t ∈ L then 1 else -1 := by
  show (WF L t).getD (-1) = _
  unfold WF
  split <;> rfl
theorem mu_L (L : List Int) {t : Int} (ht : t ≠ 50) : (woL L).mu t = [] := by
  show woB.mu t = []
  unfold woB
  rw [wo_mu, if_neg ht]
theorem wo_step {L : List Int} (hi : LI (woL L)) {t : Int} (h0 : 0 ≤ t) (h1 : t < 40) :
    lockB (woL L) t 1 = false ∧ (t ∈ L → lockE (woL L) t 1 = 5 ∧ lockS (woL L) t 1 = woL L) ∧ (t ∉ L → lockE (woL L) t 1 = 0 ∧ lockS (woL L) t 1 = woL (t :: L)) := by
  have ho : ownO (woL L) 1 = 50 := ownO_of hi.uq (show (1 : Int) ∈ (woL L).mu 50 from List.mem_cons_of_mem _ (List.mem_singleton.2 rfl))
  have he1 : t ∈ L → lockE (woL L) t 1 = 5 := fun h => by
    unfold lockE
    rw [if_neg (by omega), wl_L, if_pos h, if_pos (by decide)]
  have he2 : t ∉ L → lockE (woL L) t 1 = 0 := fun h => by
    unfold lockE
    rw [if_neg (by omega), wl_L, if_neg h, if_neg (by decide), mu_L L (by omega)]
    rfl
  refine ⟨?_, fun h => ⟨he1 h, ?_⟩, fun h => ⟨he2 h, ?_⟩⟩
  · unfold lockB
    rw [ho]
    simp
  · unfold lockS
    rw [he1 h, if_pos (by decide)]
  · unfold lockS
    rw [he2 h, if_neg (by decide), ho, if_pos (by decide)]
    show (woL L).setW (fset (WF L) t (some 1)) = _
    rw [WF_cons]
    rfl
theorem wo_wk {L : List Int} {W : Int → Option Int} (hW : W = WF L) {us : List Int} (hu : (1 : Int) ∈ us) (t : Int) : wk ((woL L).setW W) us t = true ↔ t ∈ L := by
  unfold wk
  show (match W t with
    | some m => decide (m ∈ us)
    | none => false) = true ↔ _
  rw [hW]
  unfold WF
  by_cases h : t ∈ L
  · rw [if_pos h]; simp [h, hu]
  · rw [if_neg h]; simp [h]
theorem wo_free {L : List Int} {us : List Int} (hu : (1 : Int) ∈ us) : freeW (WF L) us = fun _ => none := by
  funext t
  unfold freeW WF
  by_cases h : t ∈ L
  · rw [if_pos h]; simp [hu]
  · rw [if_neg h]
theorem same_len {ws L : List Int} (hs : ws.Pairwise (· < ·)) (hL : L.Nodup) (h : ∀ t, t ∈ ws ↔ t ∈ L) : ws.length = L.length :=
  ((List.perm_ext_iff_of_nodup (hs.imp fun q e => by omega) hL).2 h).length_eq
theorem wo_unl (L : List Int) : unlE (woL L) 50 1 = 0 ∧ unlS (woL L) 50 1 = woA := by
  have he : unlE (woL L) 50 1 = 0 := by rfl
  refine ⟨he, ?_⟩
  unfold unlS
  rw [if_pos he]
  show (((woL L).setH 50 (some [(0, 0)])).setW (freeW (WF L) [1])) = woA
  rw [wo_free (by simp)]
  unfold woL woA
  show ((woB.setH 50 (some [(0, 0)])).setW fun _ => none) = _
  unfold woB
  rw [setH_setH]
  rfl
theorem wo_leave {L : List Int} (h50 : (50 : Int) ∉ L) : leaveS (woL L) 50 = wo0 ∧ fset (woL L).W 50 none = WF L := by
  have hf : fset (woL L).W 50 none = WF L := by
    funext t
    by_cases e : t = 50
    · subst e; rw [fset_at]; unfold WF; rw [if_neg h50]
    · rw [fset_ne _ _ e]; rfl
  refine ⟨?_, hf⟩
  unfold leaveS
  rw [hf, wo_free (show (1 : Int) ∈ (woL L).mu 50 from List.mem_cons_of_mem _ (List.mem_singleton.2 rfl))]
  show (((woB.setW (WF L)).setW (WF L)).setH 50 none).setW (fun _ => none) = wo0
  unfold woB
  show LS.mk [(1, 9), (2, 9)] (fset (fset wo0.H 50 (some [(0, 0), (1, 0)])) 50 none) (fun _ => none) = wo0
  have : fset (fset wo0.H 50 (some [(0, 0), (1, 0)])) 50 none = fun _ => none := by
    funext t
    by_cases e : t = 50
    · subst e; rw [fset_at]
    · rw [fset_ne _ _ e, fset_ne _ _ e]; rfl
  rw [this]
  rfl
/-- What the last Lock does. -/
def woS (lv : Bool) : LS := if lv = true then wo0 else woA
theorem wo_end {s : LS} {lv : Bool} (hs : s = woS lv) {t : Int} (h0 : 0 ≤ t) (h1 : t < 40) : LI s ∧ (∀ u, s.wl u = -1) ∧ lockE s t 1 = 0 ∧ lockB s t 1 = true ∧ LI (lockS s t 1) ∧ ownO (lockS s t 1) 0 = if lv = true then -1 else 50 := by
  have hs2 : (lv = false ∧ s = woA) ∨ (lv = true ∧ s = wo0) := by
    cases lv
    · exact .inl ⟨rfl, hs⟩
    · exact .inr ⟨rfl, hs⟩
  clear hs
  have hi : LI s := by
    rcases hs2 with ⟨_, rfl⟩ | ⟨_, rfl⟩
    · exact wo_1.2
    · exact LI.zero _
  have hw : ∀ u, s.wl u = -1 := fun u => by rcases hs2 with ⟨_, rfl⟩ | ⟨_, rfl⟩ <;> rfl
  have hh : s.hl t = [] := by
    rcases hs2 with ⟨_, rfl⟩ | ⟨_, rfl⟩
    · exact wo_hl _ (by omega)
    · rfl
  have hm : s.mu t = [] := by unfold LS.mu; rw [hh]; rfl
  have hms : s.ms = [(1, 9), (2, 9)] := by rcases hs2 with ⟨_, rfl⟩ | ⟨_, rfl⟩ <;> rfl
  have he : lockE s t 1 = 0 := by
    unfold lockE
    rw [if_neg (by omega), hw, if_neg (by decide), hm, hms]
    rfl
  have ho : ownO s 1 = -1 := by
    rcases hs2 with ⟨_, rfl⟩ | ⟨_, rfl⟩
    · exact woA_own
    · exact ownO_no fun t h => by cases h
  have hS : lockS s t 1 = s.setH t (some [(1, 0)]) := by
    unfold lockS
    rw [he, if_neg (by decide), ho, if_neg (by decide), hh]
    rfl
  refine ⟨hi, hw, he, by unfold lockB; rw [he, ho]; rfl, hi.lock t 1, ?_⟩
  have hL := hi.lock t 1
  rw [hS] at hL ⊢
  rcases hs2 with ⟨rfl, rfl⟩ | ⟨rfl, rfl⟩
  · rw [if_neg (by decide)]
    refine ownO_of hL.uq ?_
    rw [mu_setH, if_neg (by omega)]
    unfold woA
    rw [wo_mu, if_pos rfl]
    exact List.mem_singleton.2 rfl
  · rw [if_pos rfl]
    refine ownO_no fun u h => ?_
    rw [mu_setH] at h
    split at h
    · simp at h
    · cases h

set_option maxRecDepth 100000 in
set_option maxHeartbeats 16000000 in
theorem law_lockswoken (A : Option Addr) (n c : Nat) (zs : List Int) (lv : Bool) (w : World) (ga : IntsArg w A n zs) :
    Calls Try.prog 3 #[.slice A n c, .bool lv] w fun e w' => e = .returned (.bool true) ∧ Below w.heap.size w w' := by
  have HAW := Lib.hid (fun w => lck_awake w)
  by_cases h5 : 5 < n
  · have h1 : (5 : Int) < (n : Int) := by omega
    clear ga
    go_enter Try.func3, Try.ntmps3
    go_wp2_with ((with_reducible go_at_call 8); (with_reducible refine (HAW.out _).mono ?_); rintro e w1 ⟨rfl, b1⟩)
    go_ret
    exact ⟨rfl, b1⟩
  have n1 : (n : Int) ≤ 5 := by omega
  have hl := ga.len
  have HR := Lib.hid ga.rd
  have HT := Lib.hid (t_new2 (some ⟨w.heap.size, 0, none⟩) 2 2 [(1, 9), (2, 9)] (w.alloc (.cells #[.int .i64 1, .int .i64 9, .int .i64 2, .int .i64 9] 29)) (by omega) (show Rd (w.alloc (.cells #[.int .i64 1, .int .i64 9, .int .i64 2, .int .i64 9] 29)) (some ⟨w.heap.size, 0, none⟩) (pairs [(1, 9), (2, 9)]) from (Own.new w 29 (pairs [(1, 9), (2, 9)])).rd0) rfl (by decide))
  have b0 := Ext.alloc w (.cells #[.int .i64 1, .int .i64 9, .int .i64 2, .int .i64 9] 29)
  have z0 := b0.size
  have HK := Lib.hid (fun gt K kc w2 ho hr hB hBw => k_new w.heap.size gt K kc [(1, 9), (2, 9)] w2 ho hr (by decide) hB hBw)
  have hb0 := run_mutex 1 9
  have hb1 := run_mutex 2 9
  have H1 := Lib.hid (fun g P w3 (h : KW w3 w.heap.size g wo0 0 P) hB => kw_lock w.heap.size g wo0 0 P 50 0 w3 h (by omega) ⟨by omega, by omega⟩ (LI.zero _) hB)
  rw [wo_1.1] at H1
  have H2 := Lib.hid (fun g P w3 (h : KW w3 w.heap.size g woA 1 P) hB => kw_lock w.heap.size g woA 1 P 50 1 w3 h (by omega) ⟨by omega, by omega⟩ wo_1.2 hB)
  rw [wo_2.1] at H2
  clear ga
  go_enter Try.func3, Try.ntmps3
  go_wp2_with (first
    | ((with_reducible go_at_call 9); (with_reducible refine (HT.out).mono ?_); rintro e w2 ⟨gt, K, kc, rfl, ot, rt, ht6, hgt, b2⟩; have b02 := Ext.trans b0 b2; have HN := Lib.hid (HK.out gt K kc _ ot (rt.mono z0) (by omega) b02.size); clear ot rt ht6)
    | ((with_reducible go_at_call 10); (with_reducible refine (HN.out).mono ?_); rintro e w3 ⟨g, P3, rfl, s3, bb3⟩; have b3 := Ext.trans b02 bb3; have S3 := Lib.hid s3; clear s3)
    | ((with_reducible go_at_call 11); (with_reducible refine (H1.out _ _ _ S3.out b3.size).mono ?_); rintro e w4 ⟨rfl, P4, s4, t4⟩; have b4 := t4.belowOf b3 S3.out.ge; have S4 := Lib.hid s4; clear s4 t4)
    | ((with_reducible go_at_call 11); (with_reducible refine (H2.out _ _ _ S4.out b4.size).mono ?_); rintro e w5 ⟨rfl, P5, s5, t5⟩; have b5 := t5.belowOf b4 S4.out.ge; have S5 := Lib.hid s5; clear s5 t5))
  go_loopw [8, 9] (fun v q wr => ∃ (i : Nat) (L : List Int) (P : Nat → Prop), v = .int .i64 (L.length : Int) ∧ q = .int .i64 (i : Int) ∧ i ≤ n ∧ L.length ≤ i ∧ Hid (L.Nodup ∧ (∀ t ∈ L, 0 ≤ t ∧ t < 40) ∧ LI (woL L)) ∧ KW wr w.heap.size g (woL L) (2 + i) P ∧ Ext w wr) (fun _ q _ => n - (intOf q).toNat)
  case atStart => exact ⟨0, [], P5, rfl, rfl, by omega, Nat.le_refl _, Lib.hid ⟨List.nodup_nil, by simp, wo_2.2⟩, S5.out, b5⟩
  case round =>
    clear S3 S4 S5 b3 b4 b5 HT HK HN H1 H2
    obtain ⟨i, L, P, rfl, rfl, hi, hLi, HL, hS, hb⟩ := hrel
    have HS := Lib.hid hS
    clear hS
    have i0' : (0 : Int) ≤ (i : Int) := by omega
    by_cases hlt : i < n
    · have i1' : (i : Int) < (n : Int) := by omega
      obtain ⟨bz, oz, rfl, hc⟩ := (HR.out.keep hb).int (k := i) (by omega)
      generalize zs[i]'(by omega) = z at *
      have HLO := Lib.hid (fun w => low_any z 40 w (by omega) (by omega))
      have k0 := low_lo z 40 (by omega)
      have k1 := low_hi z 40 (by omega)
      generalize low z 40 = t at *
      have hst := wo_step HL.out.2.2 k0 k1
      have HLK := Lib.hid (kw_lock w.heap.size g (woL L) (2 + i) P t 1 wr HS.out (by omega) ⟨by omega, by omega⟩ HL.out.2.2 hb.size)
      rw [hst.1] at HLK
      have HLI := Lib.hid (HL.out.2.2.lock t 1)
      by_cases hin : t ∈ L
      · rw [(hst.2.1 hin).1, (hst.2.1 hin).2] at HLK
        clear hst hin
        go_wp2_with (first
          | ((with_reducible go_at_call 12); (with_reducible refine (HLO.out _).mono ?_); rintro e w' ⟨rfl, rfl⟩)
          | ((with_reducible go_at_call 11); (with_reducible refine (HLK.out).mono ?_); rintro e w6 ⟨rfl, P6, s6, t6⟩; have b6 := t6.belowOf hb HS.out.ge))
        go_roundw
        case rel => exact ⟨i + 1, L, P6, rfl, by go_num, by omega, by omega, HL, s6.mono (by omega), b6⟩
        case measure => simp [intOf]; omega
      · rw [(hst.2.2 hin).1, (hst.2.2 hin).2] at HLK
        rw [(hst.2.2 hin).2] at HLI
        have HL2 := Lib.hid (show (t :: L).Nodup ∧ (∀ u ∈ t :: L, 0 ≤ u ∧ u < 40) ∧ LI (woL (t :: L)) from ⟨List.nodup_cons.2 ⟨hin, HL.out.1⟩, fun u hu => by
          rcases List.mem_cons.1 hu with rfl | hu
          · exact ⟨k0, k1⟩
          · exact HL.out.2.1 u hu, HLI.out⟩)
        clear hst hin
        go_wp2_with (first
          | ((with_reducible go_at_call 12); (with_reducible refine (HLO.out _).mono ?_); rintro e w' ⟨rfl, rfl⟩)
          | ((with_reducible go_at_call 11); (with_reducible refine (HLK.out).mono ?_); rintro e w6 ⟨rfl, P6, s6, t6⟩; have b6 := t6.belowOf hb HS.out.ge))
        go_roundw
        case rel => exact ⟨i + 1, t :: L, P6, by rw [List.length_cons]; go_num, by go_num, by omega, by rw [List.length_cons]; omega, HL2, s6.mono (by omega), b6⟩
        case measure => simp [intOf]; omega
    · obtain rfl : i = n := by omega
      clear hlt i0' HR
      have h50 : (50 : Int) ∉ L := fun h => by have := HL.out.2.1 50 h; omega
      cases lv
      · have HF := Lib.hid (kw_unlock w.heap.size g (woL L) (2 + i) P 50 1 wr HS.out (by omega) ⟨by omega, by omega⟩)
        rw [(wo_unl L).1, (wo_unl L).2] at HF
        go_upto_region 23 with ((with_reducible go_at_call 14); (with_reducible refine (HF.out).mono ?_); rintro e w7 ⟨ws, A7, c7, rfl, r7, k7, l7, P7, s7, t7⟩)
        first | rw [if_pos trivial] at k7 | rw [if_pos rfl] at k7
        have hws : ws.Pairwise (· < ·) ∧ ∀ t, t ∈ ws ↔ t ∈ L := ⟨k7.1, fun t => (k7.2 t).trans (wo_wk (L := L) (W := WF L) rfl (us := [1]) (by simp) t)⟩
        clear k7 l7
        have HWL := Lib.hid (show ws.length = L.length from same_len hws.1 HL.out.1 hws.2)
        have HWR := Lib.hid (show ∀ t ∈ ws, 0 ≤ t ∧ t < 40 from fun t ht => HL.out.2.1 t ((hws.2 t).1 ht))
        have HSO := Lib.hid hws.1
        have HSX := Lib.hid (show woA = woS false from rfl)
        have S7 := Lib.hid s7
        have R7 := Lib.hid r7
        have hln : ws.length ≤ 5 := by have := HWL.out; omega
        have HWT := Lib.hid (fun w8 (b8 : Ext w7 w8) t (ht : I64 t) => kw_waits w.heap.size g woA _ P7 t w8 (S7.out.keep b8) ht)
        have b7 := t7.belowOf hb HS.out.ge
        clear hws s7 r7 t7 h50 HF
        rw [← HWL.out]
        have tz : (((ws.length : Nat) : Int) != ((ws.length : Nat) : Int)) = false := by simp
        go_upto_region 26 with fail
        go_wp2
        go_loopw [14] (fun q wr => ∃ k : Nat, q = .int .i64 (k : Int) ∧ k ≤ ws.length ∧ Ext w7 wr) (fun q _ => ws.length - (intOf q).toNat)
        case atStart => exact ⟨0, rfl, by omega, Ext.refl _⟩
        case round =>
          obtain ⟨k, rfl, hk, hE⟩ := hrel
          have k0' : (0 : Int) ≤ (k : Int) := by omega
          by_cases hkl : k < ws.length
          · have k1' : (k : Int) < (ws.length : Int) := by omega
            obtain ⟨bq, oq, rfl, hck⟩ := (R7.out.rd.keep hE).int hkl
            have hrg := HWR.out _ (List.getElem_mem hkl)
            have HW1 := Lib.hid (fun w8 (b8 : Ext wr w8) => HWT.out w8 (Ext.trans hE b8) ws[k] ⟨by omega, by omega⟩)
            rw [(wo_end HSX.out hrg.1 hrg.2).2.1] at HW1
            have t1 : ((-1 : Int) != -1) = false := by decide
            by_cases hz : k = 0
            · subst hz
              have t2 : decide ((0 : Int) < ((0 : Nat) : Int)) = false := by decide
              generalize ws[0] = x0 at *
              simp only [Nat.add_zero] at hck
              clear hrg
              go_wp2
              refine wp_region_dep (S := Ext) (C := Ext (wr)) (by kernel_rfl) (by kernel_rfl) rfl Ext.refl (Ext.drew _) ?_
              repeat (refine dep_det (by rfl) (fun K hK => ?_); go_simp; first
                | ((with_reducible refine hK _ ?_); clear hK K)
                | (rw [if_neg (by decide)]; (with_reducible refine hK _ ?_); clear hK K)
                | (refine ⟨_, fun w1 hw1 => ⟨Ext.refl w1, hw1, rfl⟩, hK _ ?_⟩; clear hK K)
                | (apply Exists.intro; refine ⟨fun w1 hw1 => ?_, hK _ ?_⟩
                   first
                     | (have c_hck := cell_keep hw1 hck; go_simp; first | exact ⟨Ext.refl _, hw1, rfl⟩ | exact ⟨Ext.refl _, rfl⟩)
                     | (go_at_call 15; ((with_reducible refine (HW1.out _ hw1).mono ?_); rintro e w' ⟨rfl, rfl⟩; exact ⟨_, rfl, Ext.refl _, hw1, rfl⟩))
                   clear hK K))
              refine dep_nil ?_
              intro a' w' hC hE
              obtain rfl := atEnd_nil hE
              clear hE
              go_wp2
              go_roundw
              case rel => exact ⟨1, by go_num, by omega, Ext.trans hE hC⟩
              case measure => simp [intOf]; omega
            · obtain ⟨j, hj⟩ : ∃ j, k = j + 1 := ⟨k - 1, by omega⟩
              have t2 : decide ((0 : Int) < (k : Int)) = true := decide_eq_true (by omega)
              have hjl : j < ws.length := by omega
              obtain ⟨bq', oq', e', hcj⟩ := (R7.out.rd.keep hE).int hjl
              injection e' with e'; injection e' with e1 e2
              subst e1; subst e2
              have hlt2 := List.pairwise_iff_getElem.1 HSO.out j k hjl hkl (by omega)
              have hkw : IntKind.i64.wrap ((k : Int) - 1) = (j : Int) := by rw [IntWalk.i64_in _ ⟨by omega, by omega⟩]; omega
              have j0' : (0 : Int) ≤ (j : Int) := by omega
              have j1' : (j : Int) < (ws.length : Int) := by omega
              generalize ws[k] = x0 at *
              generalize ws[j] = x1 at *
              have t3 : decide (x0 ≤ x1) = false := decide_eq_false (by omega)
              have HJ := Lib.hid hj
              have t4 : 0 < k := by omega
              clear hj hrg hz
              go_wp2
              refine wp_region_dep (S := Ext) (C := Ext (wr)) (by kernel_rfl) (by kernel_rfl) rfl Ext.refl (Ext.drew _) ?_
              repeat (refine dep_det (by rfl) (fun K hK => ?_); go_simp; first
                | ((with_reducible refine hK _ ?_); clear hK K)
                | (rw [if_neg (by decide)]; (with_reducible refine hK _ ?_); clear hK K)
                | (refine ⟨_, fun w1 hw1 => ⟨Ext.refl w1, hw1, rfl⟩, hK _ ?_⟩; clear hK K)
                | (apply Exists.intro; refine ⟨fun w1 hw1 => ?_, hK _ ?_⟩
                   first
                     | (have c_hck := cell_keep hw1 hck; have c_hcj := cell_keep hw1 hcj; go_simp; first | exact ⟨Ext.refl _, hw1, rfl⟩ | exact ⟨Ext.refl _, rfl⟩)
                     | (go_at_call 15; ((with_reducible refine (HW1.out _ hw1).mono ?_); rintro e w' ⟨rfl, rfl⟩; exact ⟨_, rfl, Ext.refl _, hw1, rfl⟩))
                   clear hK K))
              refine dep_nil ?_
              intro a' w' hC hE
              obtain rfl := atEnd_nil hE
              clear hE
              go_wp2
              go_roundw
              case rel => exact ⟨k + 1, by go_num, by omega, Ext.trans hE hC⟩
              case measure => simp [intOf]; omega
          · obtain rfl : k = ws.length := by omega
            clear hkl hk k0'
            by_cases hw0 : ws.length = 0
            · rw [hw0]
              go_wp2_with ((with_reducible go_at_call 8); (with_reducible refine (HAW.out _).mono ?_); rintro e wd ⟨rfl, bd⟩)
              go_ret
              exact ⟨rfl, Ext.trans (Ext.trans b7 hE) bd⟩
            · obtain ⟨j, hj⟩ : ∃ j, ws.length = j + 1 := ⟨ws.length - 1, by omega⟩
              have hjl : j < ws.length := by omega
              obtain ⟨bq, oq, rfl, hcj⟩ := (R7.out.rd.keep hE).int hjl
              have hrg := HWR.out _ (List.getElem_mem hjl)
              have hkw : IntKind.i64.wrap ((ws.length : Int) - 1) = (j : Int) := by rw [IntWalk.i64_in _ ⟨by omega, by omega⟩]; omega
              have j0' : (0 : Int) ≤ (j : Int) := by omega
              have j1' : (j : Int) < (ws.length : Int) := by omega
              have t2 : (((ws.length : Nat) : Int) == 0) = false := beq_eq_false_iff_ne.2 (by omega)
              have hend := wo_end HSX.out hrg.1 hrg.2
              have HLK := Lib.hid (kw_lock w.heap.size g woA _ P7 ws[j] 1 wr (S7.out.keep hE) (by omega) ⟨by omega, by omega⟩ hend.1 (Ext.trans b7 hE).size)
              rw [hend.2.2.1, hend.2.2.2.1] at HLK
              have HOW := Lib.hid (fun P w9 (h : KW w9 w.heap.size g (lockS woA ws[j] 1) ((2 + i + 1) + 1) P) => kw_owner w.heap.size g (lockS woA ws[j] 1) ((2 + i + 1) + 1) P 0 w9 h (by omega) hend.2.2.2.2.1)
              rw [hend.2.2.2.2.2, if_neg (by decide)] at HOW
              have hbE := Ext.trans b7 hE
              generalize ws[j] = x0 at *
              generalize ws.length = wn at *
              clear hend hrg hj hw0
              go_wp2_with (first
                | ((with_reducible go_at_call 11); (with_reducible refine (HLK.out).mono ?_); rintro e w8 ⟨rfl, P8, s8, t8⟩; have b8 := t8.belowOf hbE (S7.out.keep hE).ge; have S8 := Lib.hid s8; clear s8 t8)
                | ((with_reducible go_at_call 16); (with_reducible refine (HOW.out _ _ S8.out).mono ?_); rintro e w9 ⟨rfl, b9⟩)
                | ((with_reducible go_at_call 8); (with_reducible refine (HAW.out _).mono ?_); rintro e wd ⟨rfl, bd⟩))
              go_ret
              exact ⟨rfl, Ext.trans (Ext.trans b8 b9) bd⟩
      · have HF := Lib.hid (kw_leave w.heap.size g (woL L) (2 + i) P 50 wr HS.out (by omega) ⟨by omega, by omega⟩)
        rw [(wo_leave h50).1, (wo_leave h50).2] at HF
        go_upto_region 23 with ((with_reducible go_at_call 13); (with_reducible refine (HF.out).mono ?_); rintro e w7 ⟨ws, A7, c7, rfl, r7, k7, l7, P7, s7, t7⟩)
        have hws : ws.Pairwise (· < ·) ∧ ∀ t, t ∈ ws ↔ t ∈ L := ⟨k7.1, fun t => (k7.2 t).trans (wo_wk (L := L) (W := WF L) rfl (us := (woL L).mu 50) (List.mem_cons_of_mem _ (List.mem_singleton.2 rfl)) t)⟩
        clear k7 l7
        have HWL := Lib.hid (show ws.length = L.length from same_len hws.1 HL.out.1 hws.2)
        have HWR := Lib.hid (show ∀ t ∈ ws, 0 ≤ t ∧ t < 40 from fun t ht => HL.out.2.1 t ((hws.2 t).1 ht))
        have HSO := Lib.hid hws.1
        have HSX := Lib.hid (show wo0 = woS true from rfl)
        have S7 := Lib.hid s7
        have R7 := Lib.hid r7
        have hln : ws.length ≤ 5 := by have := HWL.out; omega
        have HWT := Lib.hid (fun w8 (b8 : Ext w7 w8) t (ht : I64 t) => kw_waits w.heap.size g wo0 _ P7 t w8 (S7.out.keep b8) ht)
        have b7 := t7.belowOf hb HS.out.ge
        clear hws s7 r7 t7 h50 HF
        rw [← HWL.out]
        have tz : (((ws.length : Nat) : Int) != ((ws.length : Nat) : Int)) = false := by simp
        go_upto_region 26 with fail
        go_wp2
        go_loopw [14] (fun q wr => ∃ k : Nat, q = .int .i64 (k : Int) ∧ k ≤ ws.length ∧ Ext w7 wr) (fun q _ => ws.length - (intOf q).toNat)
        case atStart => exact ⟨0, rfl, by omega, Ext.refl _⟩
        case round =>
          obtain ⟨k, rfl, hk, hE⟩ := hrel
          have k0' : (0 : Int) ≤ (k : Int) := by omega
          by_cases hkl : k < ws.length
          · have k1' : (k : Int) < (ws.length : Int) := by omega
            obtain ⟨bq, oq, rfl, hck⟩ := (R7.out.rd.keep hE).int hkl
            have hrg := HWR.out _ (List.getElem_mem hkl)
            have HW1 := Lib.hid (fun w8 (b8 : Ext wr w8) => HWT.out w8 (Ext.trans hE b8) ws[k] ⟨by omega, by omega⟩)
            rw [(wo_end HSX.out hrg.1 hrg.2).2.1] at HW1
            have t1 : ((-1 : Int) != -1) = false := by decide
            by_cases hz : k = 0
            · subst hz
              have t2 : decide ((0 : Int) < ((0 : Nat) : Int)) = false := by decide
              generalize ws[0] = x0 at *
              simp only [Nat.add_zero] at hck
              clear hrg
              go_wp2
              refine wp_region_dep (S := Ext) (C := Ext (wr)) (by kernel_rfl) (by kernel_rfl) rfl Ext.refl (Ext.drew _) ?_
              repeat (refine dep_det (by rfl) (fun K hK => ?_); go_simp; first
                | ((with_reducible refine hK _ ?_); clear hK K)
                | (rw [if_neg (by decide)]; (with_reducible refine hK _ ?_); clear hK K)
                | (refine ⟨_, fun w1 hw1 => ⟨Ext.refl w1, hw1, rfl⟩, hK _ ?_⟩; clear hK K)
                | (apply Exists.intro; refine ⟨fun w1 hw1 => ?_, hK _ ?_⟩
                   first
                     | (have c_hck := cell_keep hw1 hck; go_simp; first | exact ⟨Ext.refl _, hw1, rfl⟩ | exact ⟨Ext.refl _, rfl⟩)
                     | (go_at_call 15; ((with_reducible refine (HW1.out _ hw1).mono ?_); rintro e w' ⟨rfl, rfl⟩; exact ⟨_, rfl, Ext.refl _, hw1, rfl⟩))
                   clear hK K))
              refine dep_nil ?_
              intro a' w' hC hE
              obtain rfl := atEnd_nil hE
              clear hE
              go_wp2
              go_roundw
              case rel => exact ⟨1, by go_num, by omega, Ext.trans hE hC⟩
              case measure => simp [intOf]; omega
            · obtain ⟨j, hj⟩ : ∃ j, k = j + 1 := ⟨k - 1, by omega⟩
              have t2 : decide ((0 : Int) < (k : Int)) = true := decide_eq_true (by omega)
              have hjl : j < ws.length := by omega
              obtain ⟨bq', oq', e', hcj⟩ := (R7.out.rd.keep hE).int hjl
              injection e' with e'; injection e' with e1 e2
              subst e1; subst e2
              have hlt2 := List.pairwise_iff_getElem.1 HSO.out j k hjl hkl (by omega)
              have hkw : IntKind.i64.wrap ((k : Int) - 1) = (j : Int) := by rw [IntWalk.i64_in _ ⟨by omega, by omega⟩]; omega
              have j0' : (0 : Int) ≤ (j : Int) := by omega
              have j1' : (j : Int) < (ws.length : Int) := by omega
              generalize ws[k] = x0 at *
              generalize ws[j] = x1 at *
              have t3 : decide (x0 ≤ x1) = false := decide_eq_false (by omega)
              have HJ := Lib.hid hj
              have t4 : 0 < k := by omega
              clear hj hrg hz
              go_wp2
              refine wp_region_dep (S := Ext) (C := Ext (wr)) (by kernel_rfl) (by kernel_rfl) rfl Ext.refl (Ext.drew _) ?_
              repeat (refine dep_det (by rfl) (fun K hK => ?_); go_simp; first
                | ((with_reducible refine hK _ ?_); clear hK K)
                | (rw [if_neg (by decide)]; (with_reducible refine hK _ ?_); clear hK K)
                | (refine ⟨_, fun w1 hw1 => ⟨Ext.refl w1, hw1, rfl⟩, hK _ ?_⟩; clear hK K)
                | (apply Exists.intro; refine ⟨fun w1 hw1 => ?_, hK _ ?_⟩
                   first
                     | (have c_hck := cell_keep hw1 hck; have c_hcj := cell_keep hw1 hcj; go_simp; first | exact ⟨Ext.refl _, hw1, rfl⟩ | exact ⟨Ext.refl _, rfl⟩)
                     | (go_at_call 15; ((with_reducible refine (HW1.out _ hw1).mono ?_); rintro e w' ⟨rfl, rfl⟩; exact ⟨_, rfl, Ext.refl _, hw1, rfl⟩))
                   clear hK K))
              refine dep_nil ?_
              intro a' w' hC hE
              obtain rfl := atEnd_nil hE
              clear hE
              go_wp2
              go_roundw
              case rel => exact ⟨k + 1, by go_num, by omega, Ext.trans hE hC⟩
              case measure => simp [intOf]; omega
          · obtain rfl : k = ws.length := by omega
            clear hkl hk k0'
            by_cases hw0 : ws.length = 0
            · rw [hw0]
              go_wp2_with ((with_reducible go_at_call 8); (with_reducible refine (HAW.out _).mono ?_); rintro e wd ⟨rfl, bd⟩)
              go_ret
              exact ⟨rfl, Ext.trans (Ext.trans b7 hE) bd⟩
            · obtain ⟨j, hj⟩ : ∃ j, ws.length = j + 1 := ⟨ws.length - 1, by omega⟩
              have hjl : j < ws.length := by omega
              obtain ⟨bq, oq, rfl, hcj⟩ := (R7.out.rd.keep hE).int hjl
              have hrg := HWR.out _ (List.getElem_mem hjl)
              have hkw : IntKind.i64.wrap ((ws.length : Int) - 1) = (j : Int) := by rw [IntWalk.i64_in _ ⟨by omega, by omega⟩]; omega
              have j0' : (0 : Int) ≤ (j : Int) := by omega
              have j1' : (j : Int) < (ws.length : Int) := by omega
              have t2 : (((ws.length : Nat) : Int) == 0) = false := beq_eq_false_iff_ne.2 (by omega)
              have hend := wo_end HSX.out hrg.1 hrg.2
              have HLK := Lib.hid (kw_lock w.heap.size g wo0 _ P7 ws[j] 1 wr (S7.out.keep hE) (by omega) ⟨by omega, by omega⟩ hend.1 (Ext.trans b7 hE).size)
              rw [hend.2.2.1, hend.2.2.2.1] at HLK
              have HOW := Lib.hid (fun P w9 (h : KW w9 w.heap.size g (lockS wo0 ws[j] 1) ((2 + i) + 1) P) => kw_owner w.heap.size g (lockS wo0 ws[j] 1) ((2 + i) + 1) P 0 w9 h (by omega) hend.2.2.2.2.1)
              rw [hend.2.2.2.2.2, if_pos rfl] at HOW
              have hbE := Ext.trans b7 hE
              generalize ws[j] = x0 at *
              generalize ws.length = wn at *
              clear hend hrg hj hw0
              go_wp2_with (first
                | ((with_reducible go_at_call 11); (with_reducible refine (HLK.out).mono ?_); rintro e w8 ⟨rfl, P8, s8, t8⟩; have b8 := t8.belowOf hbE (S7.out.keep hE).ge; have S8 := Lib.hid s8; clear s8 t8)
                | ((with_reducible go_at_call 16); (with_reducible refine (HOW.out _ _ S8.out).mono ?_); rintro e w9 ⟨rfl, b9⟩)
                | ((with_reducible go_at_call 8); (with_reducible refine (HAW.out _).mono ?_); rintro e wd ⟨rfl, bd⟩))
              go_ret
              exact ⟨rfl, Ext.trans (Ext.trans b8 b9) bd⟩

end Go.Proofs.Ytfdpipjkckbgdaa
