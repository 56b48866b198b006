/-
  PIPES: the walk of the statement PipeOrder.
-/
import Derived.Test.YtebkknkgkjblnaaPipN
namespace Go.Proofs.Ytebkknkgkjblnaa
open Go.RowKit Go.Maps
attribute [local go_sem] depUpon Sp.ok

set_option maxRecDepth 100000 in
set_option maxHeartbeats 16000000 in
theorem law_pipeorder (A : Option Addr) (m c : Nat) (X : Nat → A23) (w : World) (ga : Acts23 w A m X) :
    Calls Try.prog 3 #[.slice A m c] w fun e w' => e = .returned (.bool true) ∧ Below w.heap.size w w' := by
  have HAW := Lib.hid (fun w => pip_awake w)
  by_cases hg : Great m X
  · have HG := Lib.hid (l_great A m c X w ga true (by simp [hg]))
    clear ga hg
    go_enter Try.func3, Try.ntmps3
    go_wp2_with (first
      | ((with_reducible go_at_call 8); (with_reducible refine (HG.out).mono ?_); rintro e w' ⟨rfl, rfl⟩)
      | ((with_reducible go_at_call 9); (with_reducible refine (HAW.out _).mono ?_); rintro e w1 ⟨rfl, b1⟩))
    go_ret
    exact ⟨rfl, b1⟩
  have HG := Lib.hid (l_great A m c X w ga false (by simp [hg]))
  obtain ⟨m1, hx200⟩ := Great.not hg
  have HX200 := Lib.hid hx200
  have HZ := Lib.hid ga
  have hn := fun w => l_made 1 w (by omega) (by omega)
  rw [show ((1 : Nat) : Int) = 1 from rfl] at hn
  have HN := Lib.hid hn
  have H1 := Lib.hid (fun B g gs gf P w h hB => pw_make B g gs gf (p0 1) [] T0 P w h hB)
  rw [e_make.1, e_make.2.1, e_make.2.2] at H1
  obtain ⟨ib, hib, hz0, hz1, hz2⟩ := info_parts info_byte
  have HI := Lib.hid hib
  clear hn ga hg hx200 hib
  go_enter Try.func3, Try.ntmps3
  go_wp2_with (first
    | ((with_reducible go_at_call 8); (with_reducible refine (HG.out).mono ?_); rintro e w' ⟨rfl, rfl⟩)
    | ((with_reducible go_at_call 10); (with_reducible refine (HN.out _).mono ?_); rintro e w1 ⟨g, gs, gf, rfl, P1, s1, b1⟩; have S1 := Lib.hid s1; have z1 := b1.size; clear s1)
    | ((with_reducible go_at_call 11); (with_reducible refine (H1.out _ _ _ _ _ _ S1.out z1).mono ?_); rintro e w2 ⟨rfl, P2, s2, t2⟩; have b2 := t2.belowOf b1 S1.out.ge; have S2 := Lib.hid s2; clear s2 t2))
  have HO2 := Lib.hid (show OS w2 w.heap.size g gs gf [] [] [] none 0 none 0 from ⟨⟨P2, S2.out, ⟨fun i q => (by cases q), fun i q => (by cases q)⟩⟩, Row.nil _ _ _ _, Row.nil _ _ _ _, fun i q => (by cases q), rfl, by simp⟩)
  go_loopw [5, 6, 7] (fun s r q wr => ∃ (i : Nat) (xs ys bs : List Int) (S : Option Addr) (c1 : Nat) (R : Option Addr) (c2 : Nat), s = .slice S xs.length c1 ∧ r = .slice R ys.length c2 ∧ q = .int .i64 (i : Int) ∧ i ≤ m ∧ OS wr w.heap.size g gs gf xs ys bs S c1 R c2 ∧ xs.length ≤ 200 * i ∧ Ext w wr) (fun _ _ q _ => m - (intOf q).toNat)
  case atStart => exact ⟨0, [], [], [], none, 0, none, 0, rfl, rfl, rfl, by omega, HO2.out, by simp, b2⟩
  case round =>
    clear HO2 S1 S2 b1 b2 z1 HN H1 HG
    obtain ⟨i, xs, ys, bs, S, c1, R, c2, rfl, rfl, rfl, hi, hO, hle, h4⟩ := hrel
    by_cases hlt : i < m
    · have i0' : (0 : Int) ≤ (i : Int) := by omega
      have i1' : (i : Int) < (m : Int) := by omega
      have hxm := HX200.out i hlt
      obtain ⟨hx, b, off, rfl, hc⟩ := HZ.out.at_ i hlt
      generalize X i = x at *
      obtain ⟨xd, xi, xn, xw, xA, xm, xc, xb⟩ := x
      have hbl := hx.b.len
      have HRB := Lib.hid hx.b.rd
      have HC := Lib.hid hc
      have HH4 := Lib.hid h4
      have HO := Lib.hid hO
      have e0 := cell_keep h4 (hc 0 _ rfl)
      have e2 := cell_keep h4 (hc 2 _ rfl)
      have e4 := cell_keep h4 (hc 4 _ rfl)
      simp only [Nat.add_zero, ← Nat.add_assoc] at e0 e2 e4
      have hB := h4.size
      obtain ⟨P, hP, hSP, hRP⟩ := hO.pw
      have HP := Lib.hid hP
      have heq := hO.eq
      have hxl : xs.length = ys.length + bs.length := by rw [heq, List.length_append]
      have hb64 := hO.le
      simp only at hxm hbl HRB
      have hw1 : IntKind.i64.wrap ((xs.length : Int) - (ys.length : Int)) = (bs.length : Int) := by rw [IntWalk.i64_in _ ⟨by omega, by omega⟩]; omega
      have hle2 : xs.length + 200 ≤ 200 * (i + 1) := by omega
      have HXL := Lib.hid hxl
      have HEQ := Lib.hid heq
      clear hxl heq
      by_cases h0 : xd = 4
      · subst h0
        have HW := Lib.hid (pw_write _ g gs gf e1.1 e1.2 (U bs 1 1) P 0 wr HP.out xA xm xc xb (HRB.out.keep h4) hbl hB)
        have hw2 : IntKind.i64.wrap (64 - (bs.length : Int)) = 64 - (bs.length : Int) := IntWalk.i64_in _ ⟨by omega, by omega⟩
        by_cases hf : xm + bs.length ≤ 64
        · have ef := o_wr0 (bs := bs) hbl hf
          rw [ef.1, ef.2] at HW
          have tf : decide ((xm : Int) ≤ 64 - (bs.length : Int)) = true := decide_eq_true (by omega)
          have tf' : (xm : Int) ≤ 64 - (bs.length : Int) := by omega
          clear ef hO hP hx hc
          go_upto_region 17 with ((with_reducible go_at_call 12); (with_reducible refine HW.out.mono ?_); rintro e w3 ⟨rfl, P3, s3, t3⟩; have S3 := Lib.hid s3; have b3 := t3.belowOf HH4.out HP.out.ge; have T3 := Lib.hid t3; clear s3 t3; replace e4 := cell_keep b3 (HC.out 4 _ rfl); simp only [← Nat.add_assoc] at e4)
          have HS3 := Lib.hid (fun j (q : blk S = some j) => (T3.out.apart (fun j (q : blk S = some j) => hSP j q) (blkQ HO.out.inn)) j q)
          have HR3 := Lib.hid (fun j (q : blk R = some j) => (T3.out.apart (fun j (q : blk R = some j) => hRP j q) (blkQ HO.out.out)) j q)
          have RI := Lib.hid (T3.out.row HO.out.inn hSP)
          have RO := Lib.hid (T3.out.row HO.out.out hRP)
          have LB := Lib.hid (by rw [u8s_len, hbl]; omega : (u8s xb).length = xm * 1)
          have RB3 := Lib.hid (HRB.out.keep b3)
          go_wp2_with (at_builtin; refine wpl_append _ rfl (.tmp 61) (.tmp 66) 32 rfl 5 ib _ 1 1 Try.underlying32 HI.out hz0 hz1 hz2 rfl (by omega) w.heap.size S xs.length c1 _ rfl RI.out xA xm xc (u8s xb) rfl LB.out RB3.out (u8s_one xb) (xs.length + xm) _ rfl (u8s_app _ _) (by omega) (by omega) b3.size ?_; intro A5 c5 w5 o5 g5 k5; have b5 := below_grown b3 g5 b3.size (fun gg hg => (RI.out.at_ gg hg).1))
          go_roundw
          case rel => exact ⟨i + 1, xs ++ xb, ys, bs ++ xb, A5, c5, R, c2, by rw [List.length_append, hbl], rfl, by go_num, by omega, OS.wrote S3.out HS3.out HR3.out RO.out HO.out.ap HEQ.out o5 (by rw [List.length_append, hbl]) g5 k5 (by rw [List.length_append]; omega), by rw [List.length_append]; omega, b5⟩
          case measure => simp [intOf]; omega
        · have ef := o_wr1 (bs := bs) hbl hb64 hf
          rw [ef.2] at HW
          have te : (wrE (U bs 1 1) 0 xm == 0) = false := by rcases ef.1 with q | q <;> rw [q] <;> rfl
          have tf : decide ((xm : Int) ≤ 64 - (bs.length : Int)) = false := decide_eq_false (by omega)
          have tf' : 64 - (bs.length : Int) < (xm : Int) := by omega
          clear ef hO hP hx hc
          generalize wrE (U bs 1 1) 0 xm = we at *
          go_upto_region 16 with ((with_reducible go_at_call 12); (with_reducible refine HW.out.mono ?_); rintro e w3 ⟨rfl, P3, s3, t3⟩; have S3 := Lib.hid s3; have b3 := t3.belowOf HH4.out HP.out.ge; have T3 := Lib.hid t3; clear s3 t3; replace e4 := cell_keep b3 (HC.out 4 _ rfl); simp only [← Nat.add_assoc] at e4)
          have HS3 := Lib.hid (fun j (q : blk S = some j) => (T3.out.apart (fun j (q : blk S = some j) => hSP j q) (blkQ HO.out.inn)) j q)
          have HR3 := Lib.hid (fun j (q : blk R = some j) => (T3.out.apart (fun j (q : blk R = some j) => hRP j q) (blkQ HO.out.out)) j q)
          have RI := Lib.hid (T3.out.row HO.out.inn hSP)
          have RO := Lib.hid (T3.out.row HO.out.out hRP)
          go_wp2
          go_roundw
          case rel => exact ⟨i + 1, xs, ys, bs, S, c1, R, c2, rfl, rfl, by go_num, by omega, ⟨⟨P3, S3.out, ⟨HS3.out, HR3.out⟩⟩, RI.out, RO.out, HO.out.ap, HEQ.out, hb64⟩, by omega, b3⟩
          case measure => simp [intOf]; omega
      · have t0 : (xd == 4) = false := by simp [h0]
        have HLR := Lib.hid (fun w => low_any xn 80 w (by omega) (by omega))
        have r0 := low_lo xn 80 (by omega)
        have r1 := low_hi xn 80 (by omega)
        generalize low xn 80 = rn at *
        have HR := Lib.hid (pw_read _ g gs gf e1.1 e1.2 (U bs 1 1) P 0 wr HP.out rn (by constructor <;> omega) hB)
        clear hO hP hx hc
        by_cases hz : bs = [] ∧ rn ≠ 0
        · obtain ⟨hz1e, hz2e⟩ := hz
          subst hz1e
          obtain ⟨er, eb, et⟩ := o_rd0 r0 hz2e
          rw [er, eb, et, show ([] : List Int).length = 0 from rfl] at HR
          have hxy : xs.length = ys.length := by have := HXL.out; simpa using this
          have txy : ((xs.length : Int) != (ys.length : Int)) = false := by simp [hxy]
          clear er eb et hxy
          go_upto_region 23 with (first
            | ((with_reducible go_at_call 14); (with_reducible refine (HLR.out _).mono ?_); rintro e w' ⟨rfl, rfl⟩)
            | ((with_reducible go_at_call 13); (with_reducible refine HR.out.mono ?_); rintro e w3 ⟨A3, c3, rfl, r3, P3, s3, t3, n3⟩; have S3 := Lib.hid s3; have b3 := t3.belowOf HH4.out HP.out.ge; have T3 := Lib.hid t3; clear s3 t3 r3 n3))
          have HO5 := Lib.hid (show OS w3 w.heap.size g gs gf xs ys [] S c1 R c2 from ⟨⟨P3, S3.out, ⟨fun j (q : blk S = some j) => (T3.out.apart (fun j (q : blk S = some j) => hSP j q) (blkQ HO.out.inn)) j q, fun j (q : blk R = some j) => (T3.out.apart (fun j (q : blk R = some j) => hRP j q) (blkQ HO.out.out)) j q⟩⟩, T3.out.row HO.out.inn hSP, T3.out.row HO.out.out hRP, HO.out.ap, HEQ.out, hb64⟩)
          have hO6 := HO5.out
          have hYX := hO6.eq
          have hxl2 : xs.length = ys.length + ([] : List Int).length := by rw [hYX, List.length_append]
          have n1 : (ys.length : Int) ≤ (xs.length : Int) := by omega
          have hca := Row.le' hO6.inn
          have n2 : (ys.length : Int) ≤ (c1 : Int) := by omega
          have hw5 : IntKind.i64.wrap ((xs.length : Int) - (ys.length : Int)) = (([] : List Int).length : Int) := by rw [IntWalk.i64_in _ ⟨by omega, by omega⟩]; omega
          obtain ⟨P6, hP6, hSP6, hRP6⟩ := hO6.pw
          have HP6 := Lib.hid hP6
          have HSM := Lib.hid (same_bytes R S ys.length ys.length c2 c1 ys ys w3 (by omega) (by omega) hO6.out.rd (by
            have := hO6.inn.rd.take ys.length
            rwa [← u8s_take, hYX, List.take_left] at this) rfl rfl)
          simp only [decide_true] at HSM
          have HLN := Lib.hid (fun w1 h => pw_len w.heap.size g gs gf e1.1 e1.2 (U [] 1 1) P6 0 w1 h)
          rw [u_len] at HLN
          have HXL2 := Lib.hid hxl2
          clear hO6 hYX hxl2 hP6 hSP6 hRP6 hca
          go_wp2_with (first
            | ((with_reducible go_at_call 15); (with_reducible refine HSM.out.mono ?_); rintro e w7 ⟨rfl, q7, rfl⟩; have S7 := Lib.hid (HP6.out.keep (Ext.drewN w3 q7)); have HO7 := Lib.hid (HO5.out.keep (Ext.drewN w3 q7)); have b7 := Ext.trans b3 (Ext.drewN w3 q7))
            | ((with_reducible go_at_call 16); (with_reducible refine (HLN.out _ S7.out).mono ?_); rintro e w' ⟨rfl, rfl⟩))
          go_roundw
          case rel => exact ⟨i + 1, xs, ys, [], S, c1, R, c2, rfl, rfl, by go_num, by omega, HO7.out, by omega, b7⟩
          case measure => simp [intOf]; omega
        · obtain ⟨er, k, hk, eb, et⟩ := o_rd1 (bs := bs) (n := rn) r0 (fun q => by
            by_cases q2 : rn = 0
            · exact q2
            · exact absurd ⟨q, q2⟩ hz)
          have hkl : (bs.take k).length = k := by rw [List.length_take]; omega
          have hdl : (bs.drop k).length = bs.length - k := by rw [List.length_drop]
          rw [er, eb, et, hkl] at HR
          have HKL := Lib.hid hkl
          have HDL := Lib.hid hdl
          clear er eb et hz hkl hdl
          go_upto_region 20 with (first
            | ((with_reducible go_at_call 14); (with_reducible refine (HLR.out _).mono ?_); rintro e w' ⟨rfl, rfl⟩)
            | ((with_reducible go_at_call 13); (with_reducible refine HR.out.mono ?_); rintro e w3 ⟨A3, c3, rfl, r3, P3, s3, t3, n3⟩; have S3 := Lib.hid s3; have R3 := Lib.hid r3; have N3 := Lib.hid n3; have b3 := t3.belowOf HH4.out HP.out.ge; have T3 := Lib.hid t3; clear s3 t3 r3 n3))
          have HS3 := Lib.hid (fun j (q : blk S = some j) => (T3.out.apart (fun j (q : blk S = some j) => hSP j q) (blkQ HO.out.inn)) j q)
          have HR3 := Lib.hid (fun j (q : blk R = some j) => (T3.out.apart (fun j (q : blk R = some j) => hRP j q) (blkQ HO.out.out)) j q)
          have RI := Lib.hid (T3.out.row HO.out.inn hSP)
          have RO := Lib.hid (T3.out.row HO.out.out hRP)
          have LB := Lib.hid (by rw [u8s_len, HKL.out]; omega : (u8s (bs.take k)).length = k * 1)
          go_upto_region 23 with (at_builtin; refine wpl_append _ rfl (.tmp 81) (.tmp 82) 32 rfl 5 ib _ 1 1 Try.underlying32 HI.out hz0 hz1 hz2 rfl (by omega) w.heap.size R ys.length c2 _ rfl RO.out A3 k c3 (u8s (bs.take k)) rfl LB.out R3.out.rd (u8s_one _) (ys.length + k) _ rfl (u8s_app _ _) (by have := HXL.out; omega) (by have := HXL.out; omega) b3.size ?_; intro A5 c5 w5 o5 g5 k5; have b5 := below_grown b3 g5 b3.size (fun gg hg => (RO.out.at_ gg hg).1))
          have HO5 := Lib.hid (OS.read S3.out HS3.out HR3.out RI.out HO.out.ap HEQ.out hb64 o5 (by rw [List.length_append, HKL.out]) g5 k5)
          have HYL := Lib.hid (show (ys ++ bs.take k).length = ys.length + k by rw [List.length_append, HKL.out])

          generalize ys ++ bs.take k = ys2 at *
          generalize bs.drop k = bs2 at *
          rw [← HYL.out]
          have hO6 := HO5.out
          have hYX := hO6.eq
          have hxl2 : xs.length = ys2.length + bs2.length := by rw [hYX, List.length_append]
          have n1 : (ys2.length : Int) ≤ (xs.length : Int) := by omega
          have hca := Row.le' hO6.inn
          have n2 : (ys2.length : Int) ≤ (c1 : Int) := by omega
          have hw5 : IntKind.i64.wrap ((xs.length : Int) - (ys2.length : Int)) = (bs2.length : Int) := by rw [IntWalk.i64_in _ ⟨by omega, by omega⟩]; omega
          obtain ⟨P6, hP6, hSP6, hRP6⟩ := hO6.pw
          have HP6 := Lib.hid hP6
          have HSM := Lib.hid (same_bytes A5 S ys2.length ys2.length c5 c1 ys2 ys2 w5 (by omega) (by omega) hO6.out.rd (by
            have := hO6.inn.rd.take ys2.length
            rwa [← u8s_take, hYX, List.take_left] at this) rfl rfl)
          simp only [decide_true] at HSM
          have HLN := Lib.hid (fun w1 h => pw_len w.heap.size g gs gf e1.1 e1.2 (U bs2 1 1) P6 0 w1 h)
          rw [u_len] at HLN
          have HXL2 := Lib.hid hxl2
          clear hO6 hYX hxl2 hP6 hSP6 hRP6 hca
          go_wp2_with (first
            | ((with_reducible go_at_call 15); (with_reducible refine HSM.out.mono ?_); rintro e w7 ⟨rfl, q7, rfl⟩; have S7 := Lib.hid (HP6.out.keep (Ext.drewN w5 q7)); have HO7 := Lib.hid (HO5.out.keep (Ext.drewN w5 q7)); have b7 := Ext.trans b5 (Ext.drewN w5 q7))
            | ((with_reducible go_at_call 16); (with_reducible refine (HLN.out _ S7.out).mono ?_); rintro e w' ⟨rfl, rfl⟩))
          go_roundw
          case rel => exact ⟨i + 1, xs, ys2, bs2, S, c1, A5, c5, rfl, rfl, by go_num, by omega, HO7.out, by omega, b7⟩
          case measure => simp [intOf]; omega
    · obtain rfl : i = m := by omega
      go_wp2_with ((with_reducible go_at_call 9); (with_reducible refine (HAW.out _).mono ?_); rintro e w9 ⟨rfl, b9⟩)
      go_ret
      exact ⟨rfl, Ext.trans h4 b9⟩

end Go.Proofs.Ytebkknkgkjblnaa
