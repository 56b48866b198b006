/-
  PIPES: one pipe alone; the statement PipeEnds.
-/
import Derived.Test.YtebkknkgkjblnaaPipK
namespace Go.Proofs.Ytebkknkgkjblnaa
open Go.RowKit Go.Maps
attribute [local go_sem] depUpon Sp.ok

/-- One pipe, with number 0. -/
def U (bs : List Int) (r w : Int) : PT := upd T0 0 (some ⟨0, 0, 64, bs, r, w⟩)
section
variable {bs ds : List Int} {r w : Int} {n : Int} {b : Bool}
theorem u_look : look (U bs r w) 0 = some ⟨0, 0, 64, bs, r, w⟩ := rfl
theorem u_wrE (k : Nat) : wrE (U bs r w) 0 k = writeE ⟨0, 0, 64, bs, r, w⟩ k := rfl
theorem u_wrT : wrT (U bs r w) 0 ds = if writeE ⟨0, 0, 64, bs, r, w⟩ ds.length = 0 then U (bs ++ ds) r w else U bs r w := by
  show writeT (U bs r w) 0 ⟨0, 0, 64, bs, r, w⟩ ds = _
  unfold writeT
  split
  · exact upd_upd _ _ _ _
  · rfl
theorem u_rdE : rdE (U bs r w) 0 n = readE ⟨0, 0, 64, bs, r, w⟩ n := rfl
theorem u_rdB : rdB (U bs r w) 0 n = bs.take (readK ⟨0, 0, 64, bs, r, w⟩ n) := rfl
theorem u_rdT : rdT (U bs r w) 0 n = U (bs.drop (readK ⟨0, 0, 64, bs, r, w⟩ n)) r w := upd_upd _ _ _ _
theorem u_clE : clE (U bs r w) 0 b = clsV ⟨0, 0, 64, bs, r, w⟩ b := rfl
theorem u_clT : clT (U bs r w) 0 b = clsT (U bs r w) 0 ⟨0, 0, 64, bs, r, w⟩ b := rfl
theorem u_clL {p : FP} {L : List Pc} : clL p L (U bs r w) 0 b = clsL p L ⟨0, 0, 64, bs, r, w⟩ b := rfl
theorem u_len : lnV (U bs r w) 0 = bs.length := rfl
end
def e1 : FP × List Pc := takeL (p0 1) [] 64
def e2 : FP × List Pc := giveL e1.1 e1.2 0 0 64
set_option maxRecDepth 100000 in
theorem e_make : makeV (p0 1) [] T0 = (0, 0) ∧ makeT (p0 1) [] T0 = U [] 1 1 ∧ makeL (p0 1) [] T0 = e1 := ⟨by kernel_rfl, by kernel_rfl, by kernel_rfl⟩
set_option maxRecDepth 100000 in
theorem e_free : ((e2.1.fr.length : Int) + (e2.1.n : Int) - (e2.1.fs : Int)) = 1 := by kernel_rfl
theorem e_write {bs : List Int} (h : bs.length ≤ 64) : wrE (U [] 1 1) 0 bs.length = 0 ∧ wrT (U [] 1 1) 0 bs = U bs 1 1 := by
  have e : writeE ⟨0, 0, 64, [], 1, 1⟩ bs.length = 0 := by
    unfold writeE
    rw [if_neg (by decide), if_neg (by decide)]
    split
    · rfl
    · rw [if_neg (by omega), if_neg (by simp only [List.length_nil]; omega)]
  exact ⟨e, by rw [u_wrT, if_pos e]; rfl⟩
theorem e_cls_r {bs : List Int} : clE (U bs 1 1) 0 false = 0 ∧ clT (U bs 1 1) 0 false = U bs 0 1 ∧ clL e1.1 e1.2 (U bs 1 1) 0 false = e1 := by
  refine ⟨rfl, ?_, rfl⟩
  rw [u_clT]
  unfold clsT
  rw [if_neg (by simp [endV]), if_neg (by simp [endV, cls1, setEnd])]
  exact upd_upd _ _ _ _
theorem e_cls_w {bs : List Int} : clE (U bs 1 1) 0 true = 0 ∧ clT (U bs 1 1) 0 true = U bs 1 0 ∧ clL e1.1 e1.2 (U bs 1 1) 0 true = e1 := by
  refine ⟨rfl, ?_, rfl⟩
  rw [u_clT]
  unfold clsT
  rw [if_neg (by simp [endV]), if_neg (by simp [endV, cls1, setEnd])]
  exact upd_upd _ _ _ _
theorem e_wr2 {bs : List Int} : wrE (U bs 0 1) 0 1 = 16 ∧ wrT (U bs 0 1) 0 [1] = U bs 0 1 := by
  have e : writeE ⟨0, 0, 64, bs, 0, 1⟩ 1 = 16 := rfl
  exact ⟨e, by rw [u_wrT, if_neg]; show ¬ writeE ⟨0, 0, 64, bs, 0, 1⟩ 1 = 0; rw [e]; decide⟩
theorem e_end_w {bs : List Int} : clE (U bs 0 1) 0 true = 0 ∧ clT (U bs 0 1) 0 true = T0 ∧ clL e1.1 e1.2 (U bs 0 1) 0 true = e2 := by
  refine ⟨rfl, ?_, rfl⟩
  rw [u_clT]
  unfold clsT
  rw [if_neg (by simp [endV]), if_pos (by simp [endV, cls1, setEnd])]
  funext k
  unfold U upd T0
  split <;> rfl
theorem e_end_r {bs : List Int} : clE (U bs 1 0) 0 false = 0 ∧ clT (U bs 1 0) 0 false = T0 ∧ clL e1.1 e1.2 (U bs 1 0) 0 false = e2 := by
  refine ⟨rfl, ?_, rfl⟩
  rw [u_clT]
  unfold clsT
  rw [if_neg (by simp [endV]), if_pos (by simp [endV, cls1, setEnd])]
  funext k
  unfold U upd T0
  split <;> rfl
theorem e_read {bs : List Int} (h : bs.length ≤ 64) : rdE (U bs 1 0) 0 100 = 0 ∧ rdB (U bs 1 0) 0 100 = bs ∧ rdT (U bs 1 0) 0 100 = U [] 1 0 := by
  have k : readK ⟨0, 0, 64, bs, 1, 0⟩ 100 = bs.length := by
    unfold readK
    rw [if_neg (by simp)]
    exact Nat.min_eq_right (by simp only; omega)
  refine ⟨?_, ?_, ?_⟩
  · rw [u_rdE]
    unfold readE
    rw [if_neg (by simp), if_neg (by simp)]
    split
    · rfl
    · rename_i q
      rw [if_neg]
      exact fun h0 => q ⟨h0, .inr rfl⟩
  · rw [u_rdB, k, List.take_length]
  · rw [u_rdT, k, List.drop_length]
theorem blkQ {w : World} {B n c z : Nat} {T : TypeId} {A : Option Addr} {xs : List Value} (h : Row w B T z A n c xs) : ∀ i, blk A = some i → i < w.heap.size := fun i hi => (h.at_ i hi).2

set_option maxRecDepth 100000 in
set_option maxHeartbeats 8000000 in
theorem law_pipeends (A : Option Addr) (n c : Nat) (bs : List Int) (fst : Bool) (w : World) (ga : BytesArg w A n bs) :
    Calls Try.prog 5 #[.slice A n c, .bool fst] w fun e w' => e = .returned (.bool true) ∧ Below w.heap.size w w' := by
  have HAW := Lib.hid (fun w => pip_awake w)
  by_cases h64 : 64 < n
  · have h1 : (64 : Int) < (n : Int) := by omega
    clear ga
    go_enter Try.func5, Try.ntmps5
    go_wp2_with ((with_reducible go_at_call 9); (with_reducible refine (HAW.out _).mono ?_); rintro e w1 ⟨rfl, b1⟩)
    go_ret
    exact ⟨rfl, b1⟩
  have n1 : (n : Int) ≤ 64 := by omega
  have hl := ga.len
  have hl64 : bs.length ≤ 64 := by omega
  have HR := Lib.hid ga.rd
  have hn := l_made 1 w (by omega) (by omega)
  rw [show ((1 : Nat) : Int) = 1 from rfl] at hn
  have HN := Lib.hid hn
  have H1 := Lib.hid (fun B g gs gf P w h hB => pw_make B g gs gf (p0 1) [] T0 P w h hB)
  rw [e_make.1, e_make.2.1, e_make.2.2] at H1
  have H2 := Lib.hid (fun B g gs gf P w h hr hB => pw_write B g gs gf e1.1 e1.2 (U [] 1 1) P 0 w h A n c bs hr hl hB)
  rw [← hl, (e_write hl64).1, (e_write hl64).2, hl] at H2
  clear hn ga
  cases fst
  · have H3 := Lib.hid (fun B g gs gf P w h hB => pw_closeI B g gs gf e1.1 e1.2 (U bs 1 1) P 0 w h true hB)
    rw [e_cls_w.1, e_cls_w.2.1, e_cls_w.2.2] at H3
    have H4 := Lib.hid (fun B g gs gf P w h hB => pw_read B g gs gf e1.1 e1.2 (U bs 1 0) P 0 w h 100 (by constructor <;> omega) hB)
    rw [(e_read hl64).1, (e_read hl64).2.1, (e_read hl64).2.2, hl] at H4
    have H5 := Lib.hid (fun B g gs gf P w h hB => pw_read B g gs gf e1.1 e1.2 (U [] 1 0) P 0 w h 100 (by constructor <;> omega) hB)
    rw [(e_read (bs := []) (by simp)).1, (e_read (bs := []) (by simp)).2.1, (e_read (bs := []) (by simp)).2.2, show ([] : List Int).length = 0 from rfl] at H5
    have H6 := Lib.hid (fun B g gs gf P w h hB => pw_closeI B g gs gf e1.1 e1.2 (U [] 1 0) P 0 w h false hB)
    rw [e_end_r.1, e_end_r.2.1, e_end_r.2.2] at H6
    have H7 := Lib.hid (fun B g gs gf P w h => pw_ends B g gs gf e2.1 e2.2 T0 P 0 w h)
    rw [show enV T0 0 = (0, 0, false) from rfl] at H7
    have H8 := Lib.hid (fun B g gs gf P w h => pw_free B g gs gf e2.1 e2.2 T0 P w h)
    rw [e_free] at H8
    have H9 := Lib.hid (fun w A' c' (ra : Rd w A' (u8s bs)) (rb : Rd w A (u8s bs)) => same_bytes A' A n n c' c bs bs w (by omega) (by omega) ra rb hl hl)
    simp only [decide_true] at H9
    go_enter Try.func5, Try.ntmps5
    go_wp2_with (first
      | ((with_reducible go_at_call 10); (with_reducible refine HN.out.mono ?_); rintro e w1 ⟨g, gs, gf, rfl, P1, s1, b1⟩; have S1 := Lib.hid s1; have z1 := b1.size; clear s1)
      | ((with_reducible go_at_call 11); (with_reducible refine (H1.out _ _ _ _ _ _ S1.out z1).mono ?_); rintro e w2 ⟨rfl, P2, s2, t2⟩; have b2 := t2.belowOf b1 S1.out.ge; have S2 := Lib.hid s2; have z2 := b2.size; have R2 := Lib.hid (HR.out.keep b2); clear s2 t2)
      | ((with_reducible go_at_call 12); (with_reducible refine (H2.out _ _ _ _ _ _ S2.out R2.out z2).mono ?_); rintro e w3 ⟨rfl, P3, s3, t3⟩; have b3 := t3.belowOf b2 S2.out.ge; have S3 := Lib.hid s3; have z3 := b3.size; clear s3 t3)
      | ((with_reducible go_at_call 17); (with_reducible refine (H3.out _ _ _ _ _ _ S3.out z3).mono ?_); rintro e w4 ⟨rfl, P4, s4, t4⟩; have b4 := t4.belowOf b3 S3.out.ge; have S4 := Lib.hid s4; have z4 := b4.size; clear s4 t4)
      | ((with_reducible go_at_call 13); (with_reducible refine (H4.out _ _ _ _ _ _ S4.out z4).mono ?_); rintro e w5 ⟨A5, c5, rfl, r5, P5, s5, t5, n5⟩; have b5 := t5.belowOf b4 S4.out.ge; have S5 := Lib.hid s5; have z5 := b5.size; have R5 := Lib.hid r5; have N5 := Lib.hid (fun i (q : blk A5 = some i) (h : P5 i) => n5 i h q); clear s5 t5 r5 n5)
      | ((with_reducible go_at_call 13); (with_reducible refine (H5.out _ _ _ _ _ _ S5.out z5).mono ?_); rintro e w6 ⟨A6, c6, rfl, r6, P6, s6, t6, n6⟩; have b6 := t6.belowOf b5 S5.out.ge; have S6 := Lib.hid s6; have z6 := b6.size; have R6 := Lib.hid (t6.row R5.out N5.out); have N6 := Lib.hid (t6.apart N5.out (blkQ R5.out)); clear s6 t6 r6 n6)
      | ((with_reducible go_at_call 17); (with_reducible refine (H6.out _ _ _ _ _ _ S6.out z6).mono ?_); rintro e w7 ⟨rfl, P7, s7, t7⟩; have b7 := t7.belowOf b6 S6.out.ge; have S7 := Lib.hid s7; have R7 := Lib.hid (t7.row R6.out N6.out); clear s7 t7)
      | ((with_reducible go_at_call 19); (with_reducible refine (H7.out _ _ _ _ _ _ S7.out).mono ?_); rintro e w8 ⟨rfl, b8⟩; have S8 := Lib.hid (S7.out.keep b8); have R8 := Lib.hid (R7.out.keep b8).rd; have bb8 := Ext.trans b7 b8; have RB := Lib.hid (HR.out.keep bb8))
      | ((with_reducible go_at_call 15); (with_reducible refine (H9.out _ _ _ R8.out RB.out).mono ?_); rintro e w9 ⟨rfl, q9, rfl⟩; have S9 := Lib.hid (S8.out.keep (Ext.drewN w8 q9)))
      | ((with_reducible go_at_call 18); (with_reducible refine (H8.out _ _ _ _ _ _ S9.out).mono ?_); rintro e w10 ⟨rfl, b10⟩)
      | ((with_reducible go_at_call 9); (with_reducible refine (HAW.out _).mono ?_); rintro e w11 ⟨rfl, b11⟩))
    go_ret
    exact ⟨rfl, Ext.trans (Ext.trans (Ext.trans bb8 (Ext.drewN w8 q9)) b10) b11⟩
  · have H3 := Lib.hid (fun B g gs gf P w h hB => pw_closeI B g gs gf e1.1 e1.2 (U bs 1 1) P 0 w h false hB)
    rw [e_cls_r.1, e_cls_r.2.1, e_cls_r.2.2] at H3
    have H4 := Lib.hid (fun B g gs gf P w h Bd cb hr hB => pw_write B g gs gf e1.1 e1.2 (U bs 0 1) P 0 w h Bd 1 cb [1] hr rfl hB)
    rw [e_wr2.1, e_wr2.2] at H4
    have H6 := Lib.hid (fun B g gs gf P w h hB => pw_closeI B g gs gf e1.1 e1.2 (U bs 0 1) P 0 w h true hB)
    rw [e_end_w.1, e_end_w.2.1, e_end_w.2.2] at H6
    have H7 := Lib.hid (fun B g gs gf P w h => pw_len B g gs gf e2.1 e2.2 T0 P 0 w h)
    rw [show ((lnV T0 0 : Nat) : Int) = 0 from rfl] at H7
    have H8 := Lib.hid (fun B g gs gf P w h => pw_free B g gs gf e2.1 e2.2 T0 P w h)
    rw [e_free] at H8
    go_enter Try.func5, Try.ntmps5
    go_wp2_with (first
      | ((with_reducible go_at_call 10); (with_reducible refine HN.out.mono ?_); rintro e w1 ⟨g, gs, gf, rfl, P1, s1, b1⟩; have S1 := Lib.hid s1; have z1 := b1.size; clear s1)
      | ((with_reducible go_at_call 11); (with_reducible refine (H1.out _ _ _ _ _ _ S1.out z1).mono ?_); rintro e w2 ⟨rfl, P2, s2, t2⟩; have b2 := t2.belowOf b1 S1.out.ge; have S2 := Lib.hid s2; have z2 := b2.size; have R2 := Lib.hid (HR.out.keep b2); clear s2 t2)
      | ((with_reducible go_at_call 12); (with_reducible refine (H2.out _ _ _ _ _ _ S2.out R2.out z2).mono ?_); rintro e w3 ⟨rfl, P3, s3, t3⟩; have b3 := t3.belowOf b2 S2.out.ge; have S3 := Lib.hid s3; have z3 := b3.size; clear s3 t3)
      | ((with_reducible go_at_call 17); (with_reducible refine (H3.out _ _ _ _ _ _ S3.out z3).mono ?_); rintro e w4 ⟨rfl, P4, s4, t4⟩; have b4 := t4.belowOf b3 S3.out.ge; have S4 := Lib.hid (s4.keep (Ext.alloc w4 (.cells #[.int .u8 1] 5))); have b4' := Ext.trans b4 (Ext.alloc w4 (.cells #[.int .u8 1] 5)); have z4 := b4'.size; have R4 := Lib.hid (show Rd (w4.alloc (.cells #[.int .u8 1] 5)) (some ⟨w4.heap.size, 0, none⟩) (u8s [1]) from (Own.new w4 5 (u8s [1])).rd0); clear s4 t4)
      | ((with_reducible go_at_call 12); (with_reducible refine (H4.out _ _ _ _ _ _ S4.out _ _ R4.out z4).mono ?_); rintro e w5 ⟨rfl, P5, s5, t5⟩; have b5 := t5.belowOf b4' S4.out.ge; have S5 := Lib.hid s5; have z5 := b5.size; clear s5 t5)
      | ((with_reducible go_at_call 17); (with_reducible refine (H6.out _ _ _ _ _ _ S5.out z5).mono ?_); rintro e w7 ⟨rfl, P7, s7, t7⟩; have b7 := t7.belowOf b5 S5.out.ge; have S7 := Lib.hid s7; clear s7 t7)
      | ((with_reducible go_at_call 18); (with_reducible refine (H8.out _ _ _ _ _ _ S7.out).mono ?_); rintro e w8 ⟨rfl, b8⟩; have S8 := Lib.hid (S7.out.keep b8))
      | ((with_reducible go_at_call 16); (with_reducible refine (H7.out _ _ _ _ _ _ S8.out).mono ?_); rintro e w9 ⟨rfl, rfl⟩)
      | ((with_reducible go_at_call 9); (with_reducible refine (HAW.out _).mono ?_); rintro e w11 ⟨rfl, b11⟩))
    go_ret
    exact ⟨rfl, Ext.trans (Ext.trans b7 b8) b11⟩

end Go.Proofs.Ytebkknkgkjblnaa
