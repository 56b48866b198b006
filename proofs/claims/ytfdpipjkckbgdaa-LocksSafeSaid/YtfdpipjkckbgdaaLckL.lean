/-
  LOCKS: the statement LocksSafe.
-/
import Derived.Test.YtfdpipjkckbgdaaLckK
import Derived.Test.YtfdpipjkckbgdaaLckG
import Derived.Deep.CutRange
import Derived.Deep.CutBlock
namespace Go.Proofs.Ytfdpipjkckbgdaa
open Go.ChangeShapes Go.WideShapes Go.ChangeAt Go.RowKit Go.Maps
attribute [local go_sem] depUpon Sp.ok

/-- What is so behind each act. -/
structure SC (w0 w : World) (g gt N : Nat) (s : LS) (P : Nat → Prop) : Prop where
  li : LI s
  rg : Rg s
  kx : KX w w0.heap.size g gt s N P
  ex : Ext w0 w
theorem KX.other {w w' : World} {B g gt : Nat} {s : LS} {N : Nat} {P : Nat → Prop} (h : KX w B g gt s N P) {Q Q' : Nat → Prop} (q : Tr w w' Q Q') (hP : ∀ i, P i → ¬ Q i) : KX w' B g gt s N P := by
  obtain ⟨a, h1, h2, h3, rfl⟩ := h
  exact ⟨a, h1, h2, h3.other q hP, rfl⟩
section
variable {w0 w w' : World} {g gt N : Nat} {s : LS} {P : Nat → Prop}
theorem SC.keep (h : SC w0 w g gt N s P) (hb : Ext w w') : SC w0 w' g gt N s P := ⟨h.li, h.rg, h.kx.keep hb, Ext.trans h.ex hb⟩
theorem SC.mono (h : SC w0 w g gt N s P) {M : Nat} (hM : N ≤ M) : SC w0 w g gt M s P := ⟨h.li, h.rg, h.kx.mono hM, h.ex⟩
theorem SC.ge (h : SC w0 w g gt N s P) : ∀ i, P i → w0.heap.size ≤ i := h.kx.kw.ge
/-- A row of numbers beside it grows. -/
theorem SC.over (h : SC w0 w g gt N s P) {S : Option Addr} {m c : Nat} {xs : List Value} (hr : Row w w0.heap.size 3 1 S m c xs) (hg : w.grownBy w' (blk S)) : SC w0 w' g gt N s P := by
  have t : Tr w w' (fun i => blk S = some i) (fun i => blk S = some i) := Tr.grown hg fun _ q => .inl q
  have hn := h.kx.kw.noRow hr (by decide) (by decide) (by decide) (by decide)
  exact ⟨h.li, h.rg, h.kx.other t fun i hi q => hn i q hi, t.belowOf h.ex fun i hi => (hr.at_ i hi).1⟩
end

theorem Row.beside {w w' : World} {B1 B2 n1 c1 s1 n2 c2 s2 : Nat} {e1 e2 : TypeId} {A1 A2 : Option Addr} {xs ys : List Value} (h1 : Row w B1 e1 s1 A1 n1 c1 xs) (h2 : Row w B2 e2 s2 A2 n2 c2 ys) (ht : e1 ≠ e2) (hg : w.grownBy w' (blk A2)) : Row w' B1 e1 s1 A1 n1 c1 xs :=
  h1.grown hg (by
    cases hb : blk A1 with
    | none => exact .inl rfl
    | some b => exact .inr fun e => row_row h1 h2 ht b hb e.symm)

set_option maxRecDepth 100000 in
set_option maxHeartbeats 16000000 in
theorem law_lockssafe (A : Option Addr) (n c : Nat) (ms : List (Int × Int)) (Bo : Option Addr) (m d : Nat) (X : Nat → A12) (w : World) (ga : PairsArg w A n ms) (gb : Acts12 w Bo m X) :
    Calls Try.prog 7 #[.slice A n c, .slice Bo m d] w fun e w' => e = .returned (.bool true) ∧ Below w.heap.size w w' := by
  have HAW := Lib.hid (fun w => lck_awake w)
  by_cases h10 : 100 < m
  · have h1 : (100 : Int) < (m : Int) := by omega
    clear ga gb
    go_enter Try.func7, Try.ntmps7
    go_wp2_with ((with_reducible go_at_call 8); (with_reducible refine (HAW.out _).mono ?_); rintro e w1 ⟨rfl, b1⟩)
    go_ret
    exact ⟨rfl, b1⟩
  have m1 : (m : Int) ≤ 100 := by omega
  by_cases h60 : 6 < n
  · have h1 : (6 : Int) < (n : Int) := by omega
    clear ga gb
    go_enter Try.func7, Try.ntmps7
    go_wp2_with ((with_reducible go_at_call 8); (with_reducible refine (HAW.out _).mono ?_); rintro e w1 ⟨rfl, b1⟩)
    go_ret
    exact ⟨rfl, b1⟩
  have n1 : (n : Int) ≤ 6 := by omega
  have hl := ga.len
  have HR := Lib.hid ga.rd
  by_cases hok : okM ms = true
  rotate_left
  · have HT := Lib.hid (t_new_no A n c ms w (by omega) ga.rd hl (by simpa using hok))
    clear ga gb hl hok h10 h60
    go_enter Try.func7, Try.ntmps7
    go_wp2_with (first
      | ((with_reducible go_at_call 9); (with_reducible refine (HT.out).mono ?_); rintro e w1 ⟨rfl, b1⟩)
      | ((with_reducible go_at_call 8); (with_reducible refine (HAW.out _).mono ?_); rintro e w2 ⟨rfl, b2⟩))
    go_ret
    exact ⟨rfl, Ext.trans b1 b2⟩
  have HT := Lib.hid (t_new2 A n c ms w (by omega) ga.rd hl hok)
  have HZ := Lib.hid gb
  have HK := Lib.hid (fun gt K kc w2 ho hr h6 hB hBw => kx_new w.heap.size gt K kc ms w2 ho hr h6 hB hBw)
  clear ga gb hl hok h10 h60
  go_enter Try.func7, Try.ntmps7
  go_wp2_with (first
    | ((with_reducible go_at_call 9); (with_reducible refine (HT.out).mono ?_); rintro e w2 ⟨gt, K, kc, rfl, ot, rt, ht6, hgt, b2⟩; have HN := Lib.hid (HK.out gt K kc _ ot rt ht6 hgt b2.size); clear ot rt ht6)
    | ((with_reducible go_at_call 10); (with_reducible refine (HN.out).mono ?_); rintro e w3 ⟨g, P3, rfl, s3, bb3⟩; have b3 := Ext.trans b2 bb3; have S3 := Lib.hid s3; clear s3))
  go_loopw [8] (fun q wr => ∃ (i : Nat) (s : LS) (P : Nat → Prop), q = .int .i64 (i : Int) ∧ i ≤ m ∧ SC w wr g gt i s P) (fun q _ => m - (intOf q).toNat)
  case atStart => exact ⟨0, _, P3, rfl, by omega, LI.zero _, Rg.zero _, S3.out, b3⟩
  case round =>
    clear S3 b3 HT HK HN HR
    obtain ⟨i, s, P, rfl, hi, hS⟩ := hrel
    have i0' : (0 : Int) ≤ (i : Int) := by omega
    by_cases hlt : i < m
    · have i1' : (i : Int) < (m : Int) := by omega
      obtain ⟨hx, b, off, rfl, hc⟩ := HZ.out.at_ i hlt
      generalize X i = x at *
      obtain ⟨xd, xt, xm, xn⟩ := x
      have e0 := cell_keep hS.ex (hc 0 _ rfl)
      have e1 := cell_keep hS.ex (hc 1 _ rfl)
      have e2 := cell_keep hS.ex (hc 2 _ rfl)
      have e3 := cell_keep hS.ex (hc 3 _ rfl)
      simp only [Nat.add_zero, ← Nat.add_assoc] at e0 e1 e2 e3
      have bX := Ext.alloc wr (.cells #[.int .i64 xd, .int .i64 xt, .int .i64 xm, .int .i64 xn] 51)
      have oX := Own.new wr 51 [.int .i64 xd, .int .i64 xt, .int .i64 xm, .int .i64 xn]
      have HLO := Lib.hid (fun w => low_any xt 6 w (by omega) (by omega))
      have k0 := low_lo xt 6 (by omega)
      have k1 := low_hi xt 6 (by omega)
      have y1 := oX.cell 1
      have y0 := oX.cell 0
      simp only [List.getElem?_cons_zero, List.getElem?_cons_succ] at y0 y1
      generalize low xt 6 = id at *
      clear hx hc
      go_upto_block 2 with ((with_reducible go_at_call 12); (with_reducible refine (HLO.out _).mono ?_); rintro e w' ⟨rfl, rfl⟩)
      have OX := Lib.hid oX
      have HS := Lib.hid (hS.keep bX)
      clear e0 e1 e2 e3 bX oX hS HLO y0 y1
      generalize (wr.alloc (.cells #[.int .i64 xd, .int .i64 xt, .int .i64 xm, .int .i64 xn] 51)) = w5 at *
      generalize wr.heap.size = hx at *
      go_cut [11] from 59 to 77 (fun _ wx => ∃ (s' : LS) (P' : Nat → Prop), SC w wx g gt (i + 1) s' P')
      case first =>
        have x2 := OX.out.cell 2
        simp only [List.getElem?_cons_zero, List.getElem?_cons_succ] at x2
        have hB := HS.out.ex.size
        by_cases hd0 : xd = 0
        · subst hd0
          have t0 : ((0 : Int) == 0) = true := by simp
          have H1 := Lib.hid (kx_lock w.heap.size g gt s i P id xm w5 HS.out.kx (by omega) ⟨by omega, by omega⟩ HS.out.li hB)
          go_wp2_with ((with_reducible go_at_call 11); (with_reducible refine (H1.out).mono ?_); rintro e w7 ⟨rfl, P7, s7, q7⟩; have S7 := Lib.hid s7; have b7 := q7.belowOf HS.out.ex HS.out.ge; clear s7 q7)
          go_meet
          exact ⟨_, P7, HS.out.li.lock id xm, HS.out.rg.lock (by omega), S7.out, b7⟩
        have t0 : (xd == 0) = false := by simp [hd0]
        by_cases hd1 : xd = 1
        · subst hd1
          have t1 : ((1 : Int) == 1) = true := by simp
          have H1 := Lib.hid (kx_unlock w.heap.size g gt s i P id xm w5 HS.out.kx (by omega) ⟨by omega, by omega⟩)
          go_wp2_with ((with_reducible go_at_call 14); (with_reducible refine (H1.out).mono ?_); rintro e w7 ⟨ws7, A7, c7, rfl, r7, k7, l7, P7, s7, q7⟩; clear r7 k7 l7; have S7 := Lib.hid s7; have b7 := q7.belowOf HS.out.ex HS.out.ge; clear s7 q7)
          go_meet
          exact ⟨_, P7, HS.out.li.unlock id xm, HS.out.rg.unlock (by omega), S7.out, b7⟩
        have t1 : (xd == 1) = false := by simp [hd1]
        by_cases hd2 : xd = 2
        · subst hd2
          have t2 : ((2 : Int) == 2) = true := by simp
          have H1 := Lib.hid (kx_leave w.heap.size g gt s i P id w5 HS.out.kx (by omega) ⟨by omega, by omega⟩)
          go_wp2_with ((with_reducible go_at_call 13); (with_reducible refine (H1.out).mono ?_); rintro e w7 ⟨ws7, A7, c7, rfl, r7, k7, l7, P7, s7, q7⟩; clear r7 k7 l7; have S7 := Lib.hid s7; have b7 := q7.belowOf HS.out.ex HS.out.ge; clear s7 q7)
          go_meet
          exact ⟨_, P7, HS.out.li.leave id, HS.out.rg.leave, S7.out.mono (by omega), b7⟩
        have t2 : (xd == 2) = false := by simp [hd2]
        clear hd0 hd1 hd2
        go_wp2
        go_meet
        exact ⟨s, P, HS.out.mono (by omega)⟩
      case rest =>
        clear HS OX
        obtain ⟨s', P', hS⟩ := hcut
        clear s P
        have HS := Lib.hid hS
        clear hS
        obtain ⟨i0, hi0, hz0, hz1, hz2⟩ := info_parts info_int
        have HI := Lib.hid hi0
        clear hi0
        go_wp2
        go_loopw [11, 12, 13] (fun v mv q wr => ∃ (j : Nat) (S : Option Addr) (c1 : Nat), q = .int .i64 (j : Int) ∧ j ≤ 6 ∧ v = .slice S j c1 ∧ mv = .int .i64 ((lkH s' j).length : Int) ∧ Row wr w.heap.size 3 1 S j c1 (ints (waitsL s' j)) ∧ SC w wr g gt (i + 1) s' P') (fun _ _ q _ => 6 - (intOf q).toNat)
        case atStart => exact ⟨0, none, 0, rfl, by omega, rfl, rfl, Row.nil _ _ _ _, HS.out⟩
        case round =>
          clear HS
          obtain ⟨j, S, c1, rfl, hj, rfl, rfl, hR, hS⟩ := hrel
          have HS := Lib.hid hS
          have HRW := Lib.hid hR
          clear hS hR
          have j0' : (0 : Int) ≤ (j : Int) := by omega
          have hml := Lib.hid HS.out.kx.kw.mlen
          have hle := Nat.le_trans (lkH_le HS.out.li j) hml.out
          by_cases hj6 : j < 6
          · have j1' : (j : Int) < 6 := by omega
            have HH := Lib.hid (kw_held w.heap.size g s' (i + 1) P' (j : Int) wr HS.out.kx.kw (by omega) ⟨by omega, by omega⟩)
            have hhl := HS.out.kx.kw.hlen (j : Int)
            have HWA := Lib.hid (fun w8 (b8 : Ext wr w8) => kw_waits w.heap.size g s' (i + 1) P' (j : Int) w8 (HS.out.kx.kw.keep b8) ⟨by omega, by omega⟩)
            have HW1 := Lib.hid (show waitsL s' (j + 1) = waitsL s' j ++ [s'.wl (j : Int)] from waitsL_succ s' j)
            have HL1 := Lib.hid (lkH_succ s' j)
            have HOW := Lib.hid (fun w8 (h : SC w w8 g gt (i + 1) s' P') w9 (b9 : Ext w8 w9) m => kw_owner w.heap.size g s' (i + 1) P' m w9 (h.kx.kw.keep b9) (by omega) h.li)
            have HRK := Lib.hid (fun w8 (h : SC w w8 g gt (i + 1) s' P') w9 (b9 : Ext w8 w9) m => t_rank (.pointer (some ⟨gt, 0, none⟩)) s'.ms m w9 (h.kx.keep b9).table)
            have HF1 := Lib.hid (fun k (hk : k < (s'.hl (j : Int)).length) => HS.out.li.held_own hk)
            have HF2 : Hid (∀ k (hk : k + 1 < (s'.hl (j : Int)).length), rnk s' ((s'.hl (j : Int))[k]'(Nat.lt_of_succ_lt hk)).1 < rnk s' ((s'.hl (j : Int))[k + 1]'hk).1) := Lib.hid (fun k hk => HS.out.li.held_rank hk)
            have HF3 := Lib.hid (fun k (hk : k < (s'.hl (j : Int)).length) => HS.out.li.held_wait hk)
            have HF4 := Lib.hid (HS.out.li.wait_own (t := (j : Int)))
            generalize s'.wl (j : Int) = wv at *
            generalize s'.hl (j : Int) = hs at *
            generalize waitsL s' j = wsj at *
            generalize (lkH s' j).length = hm at *
            go_upto_region 28 with (first
              | ((with_reducible go_at_call 18); (with_reducible refine (HH.out).mono ?_); rintro e w9 ⟨A9, c9, rfl, r9, b9⟩)
              | ((with_reducible go_at_call 15); (with_reducible refine (HWA.out _ b9).mono ?_); rintro e w' ⟨rfl, rfl⟩))
            have R9 := Lib.hid r9
            have RA := Lib.hid ((HRW.out.keep b9).alloc (.cells #[.int .i64 wv] 3))
            have bA := Ext.alloc w9 (.cells #[.int .i64 wv] 3)
            have SA := Lib.hid ((HS.out.keep b9).keep bA)
            have hB := SA.out.ex.size
            clear r9 HRW HS HH HWA
            go_wp2_with (at_builtin; refine wpl_append _ rfl (.tmp 88) (.tmp 90) 22 rfl 3 i0 _ 1 8 Try.underlying22 HI.out hz0 hz1 hz2 rfl (by omega) w.heap.size S j c1 _ rfl RA.out _ 1 1 (ints [wv]) rfl rfl (Own.new w9 3 (ints [wv])).rd0 (ints_one _) (j + 1) _ rfl rfl (by omega) (by omega) (by omega) ?_; intro A6 c6 w6 o6 g6 k6; have S6 := Lib.hid (SA.out.over RA.out g6); have R6 := Lib.hid ((R9.out.keep bA).beside RA.out (by decide) g6); have O6 := Lib.hid o6; clear o6 g6 k6)
            go_loopw [16] (fun q wr => ∃ (k : Nat), q = .int .i64 (k : Int) ∧ k ≤ hs.length ∧ Ext w6 wr) (fun q _ => hs.length - (intOf q).toNat)
            case atStart => exact ⟨0, rfl, by omega, Ext.refl _⟩
            case round =>
              obtain ⟨k, rfl, hk, hE⟩ := hrel
              have k0' : (0 : Int) ≤ (k : Int) := by omega
              have SW := Lib.hid (S6.out.keep hE)
              by_cases hkl : k < hs.length
              · have k1' : (k : Int) < (hs.length : Int) := by omega
                obtain ⟨b, off, rfl, q0, q0r⟩ := (R6.out.keep hE).rd.pair hkl
                clear q0r
                have E1 := HF1.out k hkl
                have E3 := HF3.out k hkl
                have HOW1 := Lib.hid (HOW.out _ SW.out)
                have HRK1 := Lib.hid (HRK.out _ SW.out)
                have HO1 := Lib.hid (fun w9 b9 => HOW1.out w9 b9 hs[k].1)
                rw [E1] at HO1
                clear E1
                rcases Nat.eq_zero_or_pos k with rfl | hkp
                · generalize hs[0].1 = x1 at *
                  simp only [Nat.zero_mul, Nat.add_zero] at q0
                  by_cases hw0 : 0 ≤ wv
                  · have f3 : decide (rnk s' wv ≤ rnk s' x1) = false := by have := E3 hw0; simp; omega
                    have f4 : decide (0 ≤ wv) = true := by simp [hw0]
                    have HRwv := Lib.hid (fun w9 b9 => HRK1.out w9 b9 wv)
                    have hzwv : (mget s'.ms wv).1 = rnk s' wv := rfl
                    rw [hzwv] at HRwv
                    clear hzwv
                    have HRx1 := Lib.hid (fun w9 b9 => HRK1.out w9 b9 x1)
                    have hzx1 : (mget s'.ms x1).1 = rnk s' x1 := rfl
                    rw [hzx1] at HRx1
                    clear hzx1
                    generalize rnk s' wv = rwv at *
                    generalize rnk s' x1 = rx1 at *
                    clear E3
                    go_upto_region 33 with fail
                    refine wp_region_dep (S := Ext) (C := Ext (wr)) (by kernel_rfl) (by kernel_rfl) rfl Ext.refl (Ext.drew _) ?_
                    repeat (refine dep_det (by rfl) (fun K hK => ?_); go_simp; first
                      | ((with_reducible refine hK _ ?_); clear hK K)
                      | (rw [if_neg (by decide)]; (with_reducible refine hK _ ?_); clear hK K)
                      | (refine ⟨_, fun w1 hw1 => ⟨Ext.refl w1, hw1, rfl⟩, hK _ ?_⟩; clear hK K)
                      | (apply Exists.intro; refine ⟨fun w1 hw1 => ?_, hK _ ?_⟩
                         first
                           | (have c_q0 := cell_keep hw1 q0; go_simp; first | exact ⟨Ext.refl _, hw1, rfl⟩ | exact ⟨Ext.refl _, rfl⟩)
                           | (go_at_call 16; ((with_reducible refine (HO1.out _ hw1).mono ?_); rintro e w' ⟨rfl, hb'⟩; exact ⟨_, rfl, hb', Ext.trans hw1 hb', rfl⟩))
                           | (go_at_call 22; ((with_reducible refine (HRwv.out _ hw1).mono ?_); rintro e w' ⟨rfl, hb'⟩; exact ⟨_, rfl, hb', Ext.trans hw1 hb', rfl⟩))
                           | (go_at_call 22; ((with_reducible refine (HRx1.out _ hw1).mono ?_); rintro e w' ⟨rfl, hb'⟩; exact ⟨_, rfl, hb', Ext.trans hw1 hb', rfl⟩))
                         clear hK K))
                    refine dep_nil ?_
                    intro a' w' hC hE
                    obtain rfl := atEnd_nil hE
                    clear hE
                    go_wp2
                    go_roundw
                    case rel => exact ⟨0 + 1, by go_num, by omega, Ext.trans hE hC⟩
                    case measure => simp [intOf]; omega
                  · have f4 : decide (0 ≤ wv) = false := by simp [hw0]
                    clear E3
                    go_upto_region 33 with fail
                    refine wp_region_dep (S := Ext) (C := Ext (wr)) (by kernel_rfl) (by kernel_rfl) rfl Ext.refl (Ext.drew _) ?_
                    repeat (refine dep_det (by rfl) (fun K hK => ?_); go_simp; first
                      | ((with_reducible refine hK _ ?_); clear hK K)
                      | (rw [if_neg (by decide)]; (with_reducible refine hK _ ?_); clear hK K)
                      | (refine ⟨_, fun w1 hw1 => ⟨Ext.refl w1, hw1, rfl⟩, hK _ ?_⟩; clear hK K)
                      | (apply Exists.intro; refine ⟨fun w1 hw1 => ?_, hK _ ?_⟩
                         first
                           | (have c_q0 := cell_keep hw1 q0; go_simp; first | exact ⟨Ext.refl _, hw1, rfl⟩ | exact ⟨Ext.refl _, rfl⟩)
                           | (go_at_call 16; ((with_reducible refine (HO1.out _ hw1).mono ?_); rintro e w' ⟨rfl, hb'⟩; exact ⟨_, rfl, hb', Ext.trans hw1 hb', rfl⟩))
                         clear hK K))
                    refine dep_nil ?_
                    intro a' w' hC hE
                    obtain rfl := atEnd_nil hE
                    clear hE
                    go_wp2
                    go_roundw
                    case rel => exact ⟨0 + 1, by go_num, by omega, Ext.trans hE hC⟩
                    case measure => simp [intOf]; omega
                · obtain ⟨k', hkk⟩ : ∃ k', k = k' + 1 := ⟨k - 1, by omega⟩
                  obtain ⟨b', off', eb, q1, q1r⟩ := (R6.out.keep hE).rd.pair (k := k') (by omega)
                  injection eb with eb
                  injection eb with e1 e2
                  subst e1 e2
                  have E2 : rnk s' (hs[k']'(by omega)).1 < rnk s' (hs[k]'hkl).1 := by subst hkk; exact HF2.out k' hkl
                  generalize hs[k].1 = x1 at *
                  generalize (hs[k']'(by omega)).1 = x0 at *
                  have f1 : decide (rnk s' x1 ≤ rnk s' x0) = false := by simp; omega
                  have kw : IntKind.i64.wrap ((k : Int) - 1) = (k' : Int) := by rw [show (k : Int) - 1 = (k' : Int) by omega]; exact IntWalk.i64_in _ ⟨by omega, by omega⟩
                  have k2' : (k' : Int) < (hs.length : Int) := by omega
                  have k20 : (0 : Int) ≤ (k' : Int) := by omega
                  have kp : (0 : Int) < (k : Int) := by omega
                  have kp2 : decide ((0 : Int) < (k : Int)) = true := by simp; omega
                  clear q1r hkk E2
                  by_cases hw0 : 0 ≤ wv
                  · have f3 : decide (rnk s' wv ≤ rnk s' x1) = false := by have := E3 hw0; simp; omega
                    have f4 : decide (0 ≤ wv) = true := by simp [hw0]
                    have HRx1 := Lib.hid (fun w9 b9 => HRK1.out w9 b9 x1)
                    have hzx1 : (mget s'.ms x1).1 = rnk s' x1 := rfl
                    rw [hzx1] at HRx1
                    clear hzx1
                    have HRx0 := Lib.hid (fun w9 b9 => HRK1.out w9 b9 x0)
                    have hzx0 : (mget s'.ms x0).1 = rnk s' x0 := rfl
                    rw [hzx0] at HRx0
                    clear hzx0
                    have HRwv := Lib.hid (fun w9 b9 => HRK1.out w9 b9 wv)
                    have hzwv : (mget s'.ms wv).1 = rnk s' wv := rfl
                    rw [hzwv] at HRwv
                    clear hzwv
                    generalize rnk s' x1 = rx1 at *
                    generalize rnk s' x0 = rx0 at *
                    generalize rnk s' wv = rwv at *
                    clear E3
                    go_upto_region 33 with fail
                    refine wp_region_dep (S := Ext) (C := Ext (wr)) (by kernel_rfl) (by kernel_rfl) rfl Ext.refl (Ext.drew _) ?_
                    repeat (refine dep_det (by rfl) (fun K hK => ?_); go_simp; first
                      | ((with_reducible refine hK _ ?_); clear hK K)
                      | (rw [if_neg (by decide)]; (with_reducible refine hK _ ?_); clear hK K)
                      | (refine ⟨_, fun w1 hw1 => ⟨Ext.refl w1, hw1, rfl⟩, hK _ ?_⟩; clear hK K)
                      | (apply Exists.intro; refine ⟨fun w1 hw1 => ?_, hK _ ?_⟩
                         first
                           | (have c_q0 := cell_keep hw1 q0; have c_q1 := cell_keep hw1 q1; go_simp; first | exact ⟨Ext.refl _, hw1, rfl⟩ | exact ⟨Ext.refl _, rfl⟩)
                           | (go_at_call 16; ((with_reducible refine (HO1.out _ hw1).mono ?_); rintro e w' ⟨rfl, hb'⟩; exact ⟨_, rfl, hb', Ext.trans hw1 hb', rfl⟩))
                           | (go_at_call 22; ((with_reducible refine (HRx1.out _ hw1).mono ?_); rintro e w' ⟨rfl, hb'⟩; exact ⟨_, rfl, hb', Ext.trans hw1 hb', rfl⟩))
                           | (go_at_call 22; ((with_reducible refine (HRx0.out _ hw1).mono ?_); rintro e w' ⟨rfl, hb'⟩; exact ⟨_, rfl, hb', Ext.trans hw1 hb', rfl⟩))
                           | (go_at_call 22; ((with_reducible refine (HRwv.out _ hw1).mono ?_); rintro e w' ⟨rfl, hb'⟩; exact ⟨_, rfl, hb', Ext.trans hw1 hb', rfl⟩))
                         clear hK K))
                    refine dep_nil ?_
                    intro a' w' hC hE
                    obtain rfl := atEnd_nil hE
                    clear hE
                    go_wp2
                    go_roundw
                    case rel => exact ⟨k + 1, by go_num, by omega, Ext.trans hE hC⟩
                    case measure => simp [intOf]; omega
                  · have f4 : decide (0 ≤ wv) = false := by simp [hw0]
                    have HRx1 := Lib.hid (fun w9 b9 => HRK1.out w9 b9 x1)
                    have hzx1 : (mget s'.ms x1).1 = rnk s' x1 := rfl
                    rw [hzx1] at HRx1
                    clear hzx1
                    have HRx0 := Lib.hid (fun w9 b9 => HRK1.out w9 b9 x0)
                    have hzx0 : (mget s'.ms x0).1 = rnk s' x0 := rfl
                    rw [hzx0] at HRx0
                    clear hzx0
                    generalize rnk s' x1 = rx1 at *
                    generalize rnk s' x0 = rx0 at *
                    clear E3
                    go_upto_region 33 with fail
                    refine wp_region_dep (S := Ext) (C := Ext (wr)) (by kernel_rfl) (by kernel_rfl) rfl Ext.refl (Ext.drew _) ?_
                    repeat (refine dep_det (by rfl) (fun K hK => ?_); go_simp; first
                      | ((with_reducible refine hK _ ?_); clear hK K)
                      | (rw [if_neg (by decide)]; (with_reducible refine hK _ ?_); clear hK K)
                      | (refine ⟨_, fun w1 hw1 => ⟨Ext.refl w1, hw1, rfl⟩, hK _ ?_⟩; clear hK K)
                      | (apply Exists.intro; refine ⟨fun w1 hw1 => ?_, hK _ ?_⟩
                         first
                           | (have c_q0 := cell_keep hw1 q0; have c_q1 := cell_keep hw1 q1; go_simp; first | exact ⟨Ext.refl _, hw1, rfl⟩ | exact ⟨Ext.refl _, rfl⟩)
                           | (go_at_call 16; ((with_reducible refine (HO1.out _ hw1).mono ?_); rintro e w' ⟨rfl, hb'⟩; exact ⟨_, rfl, hb', Ext.trans hw1 hb', rfl⟩))
                           | (go_at_call 22; ((with_reducible refine (HRx1.out _ hw1).mono ?_); rintro e w' ⟨rfl, hb'⟩; exact ⟨_, rfl, hb', Ext.trans hw1 hb', rfl⟩))
                           | (go_at_call 22; ((with_reducible refine (HRx0.out _ hw1).mono ?_); rintro e w' ⟨rfl, hb'⟩; exact ⟨_, rfl, hb', Ext.trans hw1 hb', rfl⟩))
                         clear hK K))
                    refine dep_nil ?_
                    intro a' w' hC hE
                    obtain rfl := atEnd_nil hE
                    clear hE
                    go_wp2
                    go_roundw
                    case rel => exact ⟨k + 1, by go_num, by omega, Ext.trans hE hC⟩
                    case measure => simp [intOf]; omega
              · obtain rfl : k = hs.length := by omega
                clear R9 HF1 HF2 HF3
                have HOW1 := Lib.hid (fun w9 b9 => HOW.out _ SW.out w9 b9 wv)
                have RS := Lib.hid (O6.out.keep hE)
                by_cases hw0 : 0 ≤ wv
                · obtain ⟨f1, f2⟩ := HF4.out hw0
                  generalize ownO s' wv = ov at *
                  have f4 : decide (0 ≤ wv) = true := by simp [hw0]
                  have f5 : decide (ov < 0) = false := by simp; omega
                  have f6 : (ov == (j : Int)) = false := by simp [f2]
                  have bW := Ext.refl wr
                  go_wp2_with ((with_reducible go_at_call 16); (with_reducible refine (HOW1.out _ bW).mono ?_); rintro e w1 ⟨rfl, b1⟩; replace bW := Ext.trans bW b1; clear b1)
                  go_roundw
                  case rel => exact ⟨j + 1, A6, c6, by go_num, by omega, rfl, by rw [HL1.out]; push_cast; rfl, by rw [HW1.out]; simpa [ints] using RS.out.keep bW, SW.out.keep bW⟩
                  case measure => simp [intOf]; omega
                · have f4 : decide (0 ≤ wv) = false := by simp [hw0]
                  have bW := Ext.refl wr
                  go_wp2_with ((with_reducible go_at_call 16); (with_reducible refine (HOW1.out _ bW).mono ?_); rintro e w1 ⟨rfl, b1⟩; replace bW := Ext.trans bW b1; clear b1)
                  go_roundw
                  case rel => exact ⟨j + 1, A6, c6, by go_num, by omega, rfl, by rw [HL1.out]; push_cast; rfl, by rw [HW1.out]; simpa [ints] using RS.out.keep bW, SW.out.keep bW⟩
                  case measure => simp [intOf]; omega
          · obtain rfl : j = 6 := by omega
            have HOS := Lib.hid (kw_owners w.heap.size g s' (i + 1) P' wr HS.out.kx.kw (by omega) HS.out.li)
            have HCN := Lib.hid (lk_count HS.out.li HS.out.rg)
            have HACY := Lib.hid (lk_acyclic HS.out.li)
            have HOL := Lib.hid (ownsL_len s')
            have HWL := Lib.hid (waitsL_len s' 6)
            go_wp2_with ((with_reducible go_at_call 21); (with_reducible refine (HOS.out).mono ?_); rintro e w7 ⟨A7, c7, rfl, r7, b7⟩; have R7 := Lib.hid r7; have S7 := Lib.hid (HS.out.keep b7); have W7 := Lib.hid (HRW.out.keep b7); clear r7 b7 HS HRW)
            go_loopw [12, 18] (fun mv q wr => ∃ (k : Nat) (z : Int), q = .int .i64 (k : Int) ∧ k ≤ s'.ms.length ∧ mv = .int .i64 z ∧ Hid (z = ((lkH s' 6).length : Int) - ((lkO s' k).length : Int)) ∧ Ext w7 wr) (fun _ q _ => s'.ms.length - (intOf q).toNat)
            case atStart => exact ⟨0, _, rfl, by omega, rfl, Lib.hid (by simp [lkO]), Ext.refl _⟩
            case round =>
              obtain ⟨k, z, rfl, hk, rfl, hz, hE⟩ := hrel
              have k0' : (0 : Int) ≤ (k : Int) := by omega
              have hm6 := hml.out
              have hzb : -6 ≤ z ∧ z ≤ 6 := by have := hz.out; have := lkO_le s' k; have := hml.out; omega
              by_cases hkl : k < s'.ms.length
              · have k1' : (k : Int) < (s'.ms.length : Int) := by omega
                obtain ⟨b, off, rfl, q0⟩ := (R7.out.keep hE).rd.int (k := k) (by rw [HOL.out]; exact hkl)
                have e2 : (ownsL s')[k]'(by rw [HOL.out]; exact hkl) = ownO s' (k : Int) := by simp only [ownsL, List.getElem_map, List.getElem_range]
                rw [e2] at q0
                clear e2
                have HZS := Lib.hid (lkO_succ s' k)
                by_cases ho : 0 ≤ ownO s' (k : Int)
                · have HZ2 : Hid (z - 1 = ((lkH s' 6).length : Int) - ((lkO s' (k + 1)).length : Int)) := Lib.hid (by have := hz.out; have := HZS.out; rw [if_pos ho] at this; omega)
                  have f4 : decide (0 ≤ ownO s' (k : Int)) = true := by simp [ho]
                  clear HZS
                  generalize ownO s' (k : Int) = ov at *
                  go_wp2
                  go_roundw
                  case rel => exact ⟨k + 1, z - 1, by go_num, by omega, rfl, HZ2, hE⟩
                  case measure => simp [intOf]; omega
                · have HZ2 : Hid (z = ((lkH s' 6).length : Int) - ((lkO s' (k + 1)).length : Int)) := Lib.hid (by have := hz.out; have := HZS.out; rw [if_neg ho] at this; omega)
                  have f4 : decide (0 ≤ ownO s' (k : Int)) = false := by simp [ho]
                  clear HZS
                  generalize ownO s' (k : Int) = ov at *
                  go_wp2
                  go_roundw
                  case rel => exact ⟨k + 1, z, by go_num, by omega, rfl, HZ2, hE⟩
                  case measure => simp [intOf]; omega
              · obtain rfl : k = s'.ms.length := by omega
                obtain rfl : z = 0 := by have := hz.out; have := HCN.out; omega
                clear hkl hz
                have HAC := Lib.hid (g_acyclic S 6 c1 (waitsL s' 6) A7 s'.ms.length c7 (ownsL s') 6 wr ⟨(W7.out.keep hE).rd, HWL.out, (R7.out.keep hE).rd, HOL.out⟩ (by omega))
                rw [HACY.out] at HAC
                go_wp2_with ((with_reducible go_at_call 23); (with_reducible refine (HAC.out).mono ?_); rintro e w8 ⟨rfl, b8⟩)
                go_roundw
                case rel => exact ⟨i + 1, s', P', by go_num, by omega, (S7.out.keep hE).keep b8⟩
                case measure => simp [intOf]; omega
    · obtain rfl : i = m := by omega
      go_wp2_with ((with_reducible go_at_call 8); (with_reducible refine (HAW.out _).mono ?_); rintro e w7 ⟨rfl, b7⟩)
      go_ret
      exact ⟨rfl, Ext.trans hS.ex b7⟩

end Go.Proofs.Ytfdpipjkckbgdaa
