/-
  PIPES: the statement PipePieces.
-/
import Derived.Test.YtebkknkgkjblnaaPipL
namespace Go.Proofs.Ytebkknkgkjblnaa
open Go.ChangeShapes Go.WideShapes Go.ChangeAt Go.RowKit Go.Maps
attribute [local go_sem] depUpon Sp.ok

section
variable {H : Type} {enc : TypeId × Value → H} {W : World} {base : Nat} {v : Value} {d : DataW H} {p : List MemPlace}
set_option maxRecDepth 100000 in
theorem open_bytesc (hv : Value.okWide Try.prog W .any base 32 v) (h : DataW.Trod enc Try.prog W 0 (fun _ => true) true 32 v d p) : ∃ A n c bs, v = .slice A n c ∧ BytesArg W A n bs ∧ (n ≤ c ∧ (A = none → c = 0)) := by
  obtain ⟨A, n, c, rfl⟩ := okWide_slice Try.underlying32 hv
  obtain ⟨fuel, hf⟩ := h
  simp only [Value.cells] at hf
  obtain ⟨bs, h1, h2⟩ := bytes_of_trod hf
  refine ⟨A, n, c, bs, rfl, h1, h2, fun hA => ?_⟩
  subst hA
  rcases DataW.trod_slice Try.underlying32 hf with ⟨hz, _⟩ | ⟨a, l, c', _, _, _, _, hz, _⟩
  · simp at hz; exact hz.2
  · simp at hz
end
/-- Two pipes, with numbers 0 and 1. -/
def W2 (bs cs : List Int) : PT := fun k => if k = 0 then some ⟨0, 0, 64, bs, 1, 1⟩ else if k = 1 then some ⟨1, 0, 64, cs, 1, 1⟩ else none
theorem w_up0 {bs cs bs' : List Int} : upd (W2 bs cs) 0 (some ⟨0, 0, 64, bs', 1, 1⟩) = W2 bs' cs := by
  funext k
  unfold upd W2
  split <;> rfl
theorem w_up1 {bs cs cs' : List Int} : upd (W2 bs cs) 1 (some ⟨1, 0, 64, cs', 1, 1⟩) = W2 bs cs' := by
  funext k
  unfold upd W2
  by_cases h : k = 1
  · subst h; rfl
  · rw [if_neg h]
    split
    · rfl
    · rfl
def q1 : FP × List Pc := takeL (p0 4) [] 64
def q2 : FP × List Pc := takeL q1.1 q1.2 64
def X1 : PT := upd T0 0 (some ⟨0, 0, 64, [], 1, 1⟩)
set_option maxRecDepth 100000 in
theorem q_make1 : makeV (p0 4) [] T0 = (0, 0) ∧ makeT (p0 4) [] T0 = X1 ∧ makeL (p0 4) [] T0 = q1 := ⟨by kernel_rfl, by kernel_rfl, by kernel_rfl⟩
set_option maxRecDepth 100000 in
theorem q_make2' : makeV q1.1 q1.2 X1 = (1, 0) ∧ makeT q1.1 q1.2 X1 = upd X1 1 (some ⟨1, 0, 64, [], 1, 1⟩) ∧ makeL q1.1 q1.2 X1 = q2 := ⟨by kernel_rfl, by kernel_rfl, by kernel_rfl⟩
theorem q_make2 : makeV q1.1 q1.2 X1 = (1, 0) ∧ makeT q1.1 q1.2 X1 = W2 [] [] ∧ makeL q1.1 q1.2 X1 = q2 := by
  refine ⟨q_make2'.1, q_make2'.2.1.trans ?_, q_make2'.2.2⟩
  funext k
  unfold X1 upd W2 T0
  by_cases h : k = 1
  · subst h; rfl
  · rw [if_neg h]
    split
    · rfl
    · rfl
theorem q_wrE {ds : List Int} {z n : Nat} (h : n + ds.length ≤ 64) : writeE ⟨z, 0, 64, ds, 1, 1⟩ n = 0 := by
  unfold writeE
  rw [if_neg (by simp), if_neg (by simp)]
  split
  · rfl
  · rw [if_neg (by omega), if_neg (by simp only; omega)]
theorem q_wr0 {bs cs : List Int} (h : bs.length ≤ 64) : wrE (W2 [] cs) 0 bs.length = 0 ∧ wrT (W2 [] cs) 0 bs = W2 bs cs := by
  have e : writeE ⟨0, 0, 64, [], 1, 1⟩ bs.length = 0 := q_wrE (z := 0) (by simpa using h)
  refine ⟨e, ?_⟩
  show writeT (W2 [] cs) 0 ⟨0, 0, 64, [], 1, 1⟩ bs = _
  unfold writeT
  rw [if_pos e]
  exact w_up0
theorem q_wr1 {bs cs ds : List Int} (h : ds.length + cs.length ≤ 64) : wrE (W2 bs cs) 1 ds.length = 0 ∧ wrT (W2 bs cs) 1 ds = W2 bs (cs ++ ds) := by
  have e : writeE ⟨1, 0, 64, cs, 1, 1⟩ ds.length = 0 := q_wrE (z := 1) h
  refine ⟨e, ?_⟩
  show writeT (W2 bs cs) 1 ⟨1, 0, 64, cs, 1, 1⟩ ds = _
  unfold writeT
  rw [if_pos e]
  exact w_up1
theorem q_rdK {ds : List Int} {z : Int} {r : Nat} : readK ⟨z, 0, 64, ds, 1, 1⟩ (r : Int) = min r ds.length := by
  unfold readK
  rw [if_neg (by simp)]
  simp
theorem q_rdE {ds : List Int} {z : Int} {r : Nat} (h : 0 < ds.length) : readE ⟨z, 0, 64, ds, 1, 1⟩ (r : Int) = 0 := by
  unfold readE
  rw [if_neg (by simp), if_neg (by omega), if_neg (fun q => by have := q.1; simp only at this; omega), if_neg (by simp only; omega)]
theorem q_rd0 {bs cs : List Int} {r : Nat} (h : 0 < bs.length) : rdE (W2 bs cs) 0 (r : Int) = 0 ∧ rdB (W2 bs cs) 0 (r : Int) = bs.take (min r bs.length) ∧ rdT (W2 bs cs) 0 (r : Int) = W2 (bs.drop (min r bs.length)) cs := by
  refine ⟨q_rdE h, ?_, ?_⟩
  · show bs.take (readK ⟨0, 0, 64, bs, 1, 1⟩ (r : Int)) = _
    rw [q_rdK]
  · show upd (W2 bs cs) 0 (some ⟨0, 0, 64, bs.drop (readK ⟨0, 0, 64, bs, 1, 1⟩ (r : Int)), 1, 1⟩) = _
    rw [q_rdK, w_up0]
theorem q_rd1 {bs cs : List Int} {r : Nat} (h : 0 < cs.length) : rdE (W2 bs cs) 1 (r : Int) = 0 ∧ rdB (W2 bs cs) 1 (r : Int) = cs.take (min r cs.length) ∧ rdT (W2 bs cs) 1 (r : Int) = W2 bs (cs.drop (min r cs.length)) := by
  refine ⟨q_rdE h, ?_, ?_⟩
  · show cs.take (readK ⟨1, 0, 64, cs, 1, 1⟩ (r : Int)) = _
    rw [q_rdK]
  · show upd (W2 bs cs) 1 (some ⟨1, 0, 64, cs.drop (readK ⟨1, 0, 64, cs, 1, 1⟩ (r : Int)), 1, 1⟩) = _
    rw [q_rdK, w_up1]
theorem q_len {bs cs : List Int} : lnV (W2 bs cs) 0 = bs.length ∧ lnV (W2 bs cs) 1 = cs.length := ⟨rfl, rfl⟩

set_option maxRecDepth 100000 in
set_option maxHeartbeats 8000000 in
theorem law_pipepieces (A : Option Addr) (n c : Nat) (bs : List Int) (cut rd : Int) (w : World) (ga : BytesArg w A n bs) (gc : n ≤ c ∧ (A = none → c = 0)) (_ : I64 cut) (_ : I64 rd) :
    Calls Try.prog 4 #[.slice A n c, .int .i64 cut, .int .i64 rd] w fun e w' => e = .returned (.bool true) ∧ Below w.heap.size w w' := by
  have HAW := Lib.hid (fun w => pip_awake w)
  by_cases h64 : 64 < n
  · have h1 : (64 : Int) < (n : Int) := by omega
    clear ga
    go_enter Try.func4, Try.ntmps4
    go_wp2_with ((with_reducible go_at_call 9); (with_reducible refine (HAW.out _).mono ?_); rintro e w1 ⟨rfl, b1⟩)
    go_ret
    exact ⟨rfl, b1⟩
  have n1 : (n : Int) ≤ 64 := by omega
  have hl := ga.len
  have hl64 : bs.length ≤ 64 := by omega
  have HR := Lib.hid ga.rd
  have hn := l_made 4 w (by omega) (by omega)
  rw [show ((4 : Nat) : Int) = 4 from rfl] at hn
  have HN := Lib.hid hn
  have HLW := Lib.hid (fun w => low_any cut ((n : Int) + 1) w (by omega) (by omega))
  have k0 := low_lo cut ((n : Int) + 1) (by omega)
  have k1 := low_hi cut ((n : Int) + 1) (by omega)
  generalize low cut ((n : Int) + 1) = kz at *
  obtain ⟨k, rfl⟩ : ∃ k : Nat, kz = (k : Int) := ⟨kz.toNat, by omega⟩
  have hk : k ≤ n := by omega
  have hw1 : IntKind.i64.wrap ((n : Int) + 1) = (n : Int) + 1 := IntWalk.i64_in _ ⟨by omega, by omega⟩
  have H1 := Lib.hid (fun B g gs gf P w h hB => pw_make B g gs gf (p0 4) [] T0 P w h hB)
  rw [q_make1.1, q_make1.2.1, q_make1.2.2] at H1
  have H2 := Lib.hid (fun B g gs gf P w h hB => pw_make B g gs gf q1.1 q1.2 X1 P w h hB)
  rw [q_make2.1, q_make2.2.1, q_make2.2.2] at H2
  have H3 := Lib.hid (fun B g gs gf P w h hr hB => pw_write B g gs gf q2.1 q2.2 (W2 [] []) P 0 w h A n c bs hr hl hB)
  rw [← hl, (q_wr0 hl64).1, (q_wr0 hl64).2, hl] at H3
  have hlt : (bs.take k).length = k := by rw [List.length_take]; omega
  have hld : (bs.drop k).length = n - k := by rw [List.length_drop]; omega
  have H4 := Lib.hid (fun B g gs gf P w h Bd cb hr hB => pw_write B g gs gf q2.1 q2.2 (W2 bs []) P 1 w h Bd k cb (bs.take k) hr hlt hB)
  have e4 := q_wr1 (bs := bs) (cs := []) (ds := bs.take k) (by rw [hlt]; simp; omega)
  rw [hlt, List.nil_append] at e4
  rw [e4.1, e4.2] at H4
  have H5 := Lib.hid (fun B g gs gf P w h Bd cb hr hB => pw_write B g gs gf q2.1 q2.2 (W2 bs (bs.take k)) P 1 w h Bd (n - k) cb (bs.drop k) hr hld hB)
  have e5 := q_wr1 (bs := bs) (cs := bs.take k) (ds := bs.drop k) (by rw [hlt, hld]; omega)
  rw [hld, List.take_append_drop] at e5
  rw [e5.1, e5.2] at H5
  have H6 := Lib.hid (fun B g gs gf P w h => pw_len B g gs gf q2.1 q2.2 (W2 bs bs) P 0 w h)
  rw [q_len.1, hl] at H6
  have H7 := Lib.hid (fun B g gs gf P w h => pw_len B g gs gf q2.1 q2.2 (W2 bs bs) P 1 w h)
  rw [q_len.2, hl] at H7
  have kk0 : (0 : Int) ≤ (k : Int) := by omega
  have kk1 : (k : Int) ≤ (n : Int) := by omega
  have kk2 : (k : Int) ≤ (c : Int) := by have := gc.1; omega
  have kk3 : (n : Int) ≤ (c : Int) := by have := gc.1; omega
  clear hn e4 e5
  by_cases h0 : n = 0
  · subst h0
    obtain rfl : k = 0 := by omega
    obtain rfl : bs = [] := List.eq_nil_of_length_eq_zero hl
    rw [show ((0 : Nat) : Int) + 1 = 1 from rfl, show ((0 : Nat) : Int) = 0 from rfl] at HLW
    rw [show (0 - 0 : Nat) = 0 from rfl] at H5
    rw [show ((0 : Nat) : Int) = 0 from rfl] at H6 H7
    have HT := Lib.hid (fun w1 (_ : Ext w w1) => show Rd w1 A (u8s (([] : List Int).take 0)) from Rd.nil _ _)
    cases A with
    | none =>
      obtain rfl : c = 0 := gc.2 rfl
      have HD := Lib.hid (fun w1 (_ : Ext w w1) => show Rd w1 none (u8s (([] : List Int).drop 0)) from Rd.nil _ _)
      clear gc
      go_enter Try.func4, Try.ntmps4
      go_wp2_with (first
        | ((with_reducible go_at_call 10); (with_reducible refine (HN.out).mono ?_); rintro e w1 ⟨g, gs, gf, rfl, P1, s1, b1⟩; have S1 := Lib.hid s1; have z1 := b1.size; clear s1)
        | ((with_reducible go_at_call 11); (with_reducible refine (H1.out _ _ _ _ _ _ S1.out z1).mono ?_); rintro e w2 ⟨rfl, P2, s2, t2⟩; have b2 := t2.belowOf b1 S1.out.ge; have S2 := Lib.hid s2; have z2 := b2.size; clear s2 t2)
        | ((with_reducible go_at_call 11); (with_reducible refine (H2.out _ _ _ _ _ _ S2.out z2).mono ?_); rintro e w3 ⟨rfl, P3, s3, t3⟩; have b3 := t3.belowOf b2 S2.out.ge; have S3 := Lib.hid s3; have z3 := b3.size; have R3 := Lib.hid (HR.out.keep b3); clear s3 t3)
        | ((with_reducible go_at_call 14); (with_reducible refine (HLW.out _).mono ?_); rintro e w' ⟨rfl, rfl⟩)
        | ((with_reducible go_at_call 12); (with_reducible refine (H3.out _ _ _ _ _ _ S3.out R3.out z3).mono ?_); rintro e w4 ⟨rfl, P4, s4, t4⟩; have b4 := t4.belowOf b3 S3.out.ge; have S4 := Lib.hid s4; have z4 := b4.size; have R4 := Lib.hid (HT.out _ b4); clear s4 t4)
        | ((with_reducible go_at_call 12); (with_reducible refine (H4.out _ _ _ _ _ _ S4.out _ _ R4.out z4).mono ?_); rintro e w5 ⟨rfl, P5, s5, t5⟩; have b5 := t5.belowOf b4 S4.out.ge; have S5 := Lib.hid s5; have z5 := b5.size; have R5 := Lib.hid (HD.out _ b5); clear s5 t5)
        | ((with_reducible go_at_call 12); (with_reducible refine (H5.out _ _ _ _ _ _ S5.out _ _ R5.out z5).mono ?_); rintro e w6 ⟨rfl, P6, s6, t6⟩; have b6 := t6.belowOf b5 S5.out.ge; have S6 := Lib.hid s6; have z6 := b6.size; clear s6 t6)
        | ((with_reducible go_at_call 16); (with_reducible refine (H6.out _ _ _ _ _ _ S6.out).mono ?_); rintro e w' ⟨rfl, rfl⟩)
        | ((with_reducible go_at_call 16); (with_reducible refine (H7.out _ _ _ _ _ _ S6.out).mono ?_); rintro e w' ⟨rfl, rfl⟩)
        | ((with_reducible go_at_call 9); (with_reducible refine (HAW.out _).mono ?_); rintro e w9 ⟨rfl, b9⟩))
      go_ret
      exact ⟨rfl, Ext.trans b6 b9⟩
    | some a =>
      by_cases hc0 : c = 0
      · subst hc0
        have HD := Lib.hid (fun w1 (_ : Ext w w1) => show Rd w1 (some a) (u8s (([] : List Int).drop 0)) from Rd.nil _ _)
        clear gc
        go_enter Try.func4, Try.ntmps4
        go_wp2_with (first
          | ((with_reducible go_at_call 10); (with_reducible refine (HN.out).mono ?_); rintro e w1 ⟨g, gs, gf, rfl, P1, s1, b1⟩; have S1 := Lib.hid s1; have z1 := b1.size; clear s1)
          | ((with_reducible go_at_call 11); (with_reducible refine (H1.out _ _ _ _ _ _ S1.out z1).mono ?_); rintro e w2 ⟨rfl, P2, s2, t2⟩; have b2 := t2.belowOf b1 S1.out.ge; have S2 := Lib.hid s2; have z2 := b2.size; clear s2 t2)
          | ((with_reducible go_at_call 11); (with_reducible refine (H2.out _ _ _ _ _ _ S2.out z2).mono ?_); rintro e w3 ⟨rfl, P3, s3, t3⟩; have b3 := t3.belowOf b2 S2.out.ge; have S3 := Lib.hid s3; have z3 := b3.size; have R3 := Lib.hid (HR.out.keep b3); clear s3 t3)
          | ((with_reducible go_at_call 14); (with_reducible refine (HLW.out _).mono ?_); rintro e w' ⟨rfl, rfl⟩)
          | ((with_reducible go_at_call 12); (with_reducible refine (H3.out _ _ _ _ _ _ S3.out R3.out z3).mono ?_); rintro e w4 ⟨rfl, P4, s4, t4⟩; have b4 := t4.belowOf b3 S3.out.ge; have S4 := Lib.hid s4; have z4 := b4.size; have R4 := Lib.hid (HT.out _ b4); clear s4 t4)
          | ((with_reducible go_at_call 12); (with_reducible refine (H4.out _ _ _ _ _ _ S4.out _ _ R4.out z4).mono ?_); rintro e w5 ⟨rfl, P5, s5, t5⟩; have b5 := t5.belowOf b4 S4.out.ge; have S5 := Lib.hid s5; have z5 := b5.size; have R5 := Lib.hid (HD.out _ b5); clear s5 t5)
          | ((with_reducible go_at_call 12); (with_reducible refine (H5.out _ _ _ _ _ _ S5.out _ _ R5.out z5).mono ?_); rintro e w6 ⟨rfl, P6, s6, t6⟩; have b6 := t6.belowOf b5 S5.out.ge; have S6 := Lib.hid s6; have z6 := b6.size; clear s6 t6)
          | ((with_reducible go_at_call 16); (with_reducible refine (H6.out _ _ _ _ _ _ S6.out).mono ?_); rintro e w' ⟨rfl, rfl⟩)
          | ((with_reducible go_at_call 16); (with_reducible refine (H7.out _ _ _ _ _ _ S6.out).mono ?_); rintro e w' ⟨rfl, rfl⟩)
          | ((with_reducible go_at_call 9); (with_reducible refine (HAW.out _).mono ?_); rintro e w9 ⟨rfl, b9⟩))
        go_ret
        exact ⟨rfl, Ext.trans b6 b9⟩
      · have hcp : (0 : Int) < (c : Int) := by omega
        have HD := Lib.hid (fun A1 w1 (_ : Ext w w1) => show Rd w1 A1 (u8s (([] : List Int).drop 0)) from Rd.nil _ _)
        clear gc
        go_enter Try.func4, Try.ntmps4
        go_wp2_with (first
          | ((with_reducible go_at_call 10); (with_reducible refine (HN.out).mono ?_); rintro e w1 ⟨g, gs, gf, rfl, P1, s1, b1⟩; have S1 := Lib.hid s1; have z1 := b1.size; clear s1)
          | ((with_reducible go_at_call 11); (with_reducible refine (H1.out _ _ _ _ _ _ S1.out z1).mono ?_); rintro e w2 ⟨rfl, P2, s2, t2⟩; have b2 := t2.belowOf b1 S1.out.ge; have S2 := Lib.hid s2; have z2 := b2.size; clear s2 t2)
          | ((with_reducible go_at_call 11); (with_reducible refine (H2.out _ _ _ _ _ _ S2.out z2).mono ?_); rintro e w3 ⟨rfl, P3, s3, t3⟩; have b3 := t3.belowOf b2 S2.out.ge; have S3 := Lib.hid s3; have z3 := b3.size; have R3 := Lib.hid (HR.out.keep b3); clear s3 t3)
          | ((with_reducible go_at_call 14); (with_reducible refine (HLW.out _).mono ?_); rintro e w' ⟨rfl, rfl⟩)
          | ((with_reducible go_at_call 12); (with_reducible refine (H3.out _ _ _ _ _ _ S3.out R3.out z3).mono ?_); rintro e w4 ⟨rfl, P4, s4, t4⟩; have b4 := t4.belowOf b3 S3.out.ge; have S4 := Lib.hid s4; have z4 := b4.size; have R4 := Lib.hid (HT.out _ b4); clear s4 t4)
          | ((with_reducible go_at_call 12); (with_reducible refine (H4.out _ _ _ _ _ _ S4.out _ _ R4.out z4).mono ?_); rintro e w5 ⟨rfl, P5, s5, t5⟩; have b5 := t5.belowOf b4 S4.out.ge; have S5 := Lib.hid s5; have z5 := b5.size; have R5 := Lib.hid (fun A1 => HD.out A1 _ b5); clear s5 t5)
          | ((with_reducible go_at_call 12); (with_reducible refine (H5.out _ _ _ _ _ _ S5.out _ _ (R5.out _) z5).mono ?_); rintro e w6 ⟨rfl, P6, s6, t6⟩; have b6 := t6.belowOf b5 S5.out.ge; have S6 := Lib.hid s6; have z6 := b6.size; clear s6 t6)
          | ((with_reducible go_at_call 16); (with_reducible refine (H6.out _ _ _ _ _ _ S6.out).mono ?_); rintro e w' ⟨rfl, rfl⟩)
          | ((with_reducible go_at_call 16); (with_reducible refine (H7.out _ _ _ _ _ _ S6.out).mono ?_); rintro e w' ⟨rfl, rfl⟩)
          | ((with_reducible go_at_call 9); (with_reducible refine (HAW.out _).mono ?_); rintro e w9 ⟨rfl, b9⟩))
        go_ret
        exact ⟨rfl, Ext.trans b6 b9⟩
  have hpos : 0 < bs.length := by omega
  obtain ⟨b0, off, rfl, _⟩ := HR.out.byte hpos
  have t0 : ((n : Int) == 0) = false := beq_eq_false_iff_ne.2 (by omega)
  have HT := Lib.hid (fun w1 (h1 : Ext w w1) => show Rd w1 (some ⟨b0, off, none⟩) (u8s (bs.take k)) from by
    rw [u8s_take]; exact (HR.out.keep h1).take k)
  have HLR := Lib.hid (fun w => low_any rd 65 w (by omega) (by omega))
  have r0 := low_lo rd 65 (by omega)
  have r1 := low_hi rd 65 (by omega)
  generalize low rd 65 = rz at *
  obtain ⟨r, rfl⟩ : ∃ r : Nat, rz = (r : Int) := ⟨rz.toNat, by omega⟩
  have H8 := Lib.hid (fun B g gs gf P w h hB => pw_read B g gs gf q2.1 q2.2 (W2 bs bs) P 0 w h (r : Int) (by constructor <;> omega) hB)
  have e8 := q_rd0 (bs := bs) (cs := bs) (r := r) hpos
  have hmin : min (r : Int) (n : Int) = ((min r bs.length : Nat) : Int) := by omega
  obtain ⟨K, hK⟩ : ∃ K, K = min r bs.length := ⟨_, rfl⟩
  have hKl : (bs.take K).length = K := by rw [List.length_take]; omega
  rw [← hK] at e8 hmin
  rw [e8.1, e8.2.1, e8.2.2, hKl] at H8
  have H9 := Lib.hid (fun B g gs gf P w h hB => pw_read B g gs gf q2.1 q2.2 (W2 (bs.drop K) bs) P 1 w h (r : Int) (by constructor <;> omega) hB)
  have e9 := q_rd1 (bs := bs.drop K) (cs := bs) (r := r) hpos
  rw [← hK] at e9
  rw [e9.1, e9.2.1, e9.2.2, hKl] at H9
  have HX := Lib.hid (fun B g gs gf P w h => pw_len B g gs gf q2.1 q2.2 (W2 (bs.drop K) (bs.drop K)) P 0 w h)
  rw [q_len.1, List.length_drop, hl] at HX
  have HS1 := Lib.hid (fun A' B' c' d' w (ra : Rd w A' (u8s (bs.take K))) (rb : Rd w B' (u8s (bs.take K))) => same_bytes A' B' K K c' d' (bs.take K) (bs.take K) w (by omega) (by omega) ra rb hKl hKl)
  simp only [decide_true] at HS1
  have HTK := Lib.hid (fun w1 (h1 : Ext w w1) => show Rd w1 (some ⟨b0, off, none⟩) (u8s (bs.take K)) from by
    rw [u8s_take]; exact (HR.out.keep h1).take K)
  have hKn : K ≤ n := by omega
  have kn1 : (K : Int) ≤ (n : Int) := by omega
  have kn0 : (0 : Int) ≤ (K : Int) := by omega
  have kn2 : (K : Int) ≤ (c : Int) := by omega
  have hsub : (n : Int) - (K : Int) = ((n - K : Nat) : Int) := by omega
  have hw2 : IntKind.i64.wrap ((n : Int) - (K : Int)) = ((n - K : Nat) : Int) := by rw [hsub]; exact IntWalk.i64_in _ ⟨by omega, by omega⟩
  have tz9 : (((n - K : Nat) : Int) == ((n - K : Nat) : Int)) = true := by simp
  clear e8 e9 hK hsub
  by_cases hck : k = c
  · subst hck
    obtain rfl : n = k := by omega
    rw [Nat.sub_self] at H5
    have HD := Lib.hid (fun w1 (_ : Ext w w1) => show Rd w1 (some ⟨b0, off, none⟩) (u8s (bs.drop n)) from by
      rw [List.drop_eq_nil_of_le (by omega)]; exact Rd.nil _ _)
    clear gc
    go_enter Try.func4, Try.ntmps4
    go_upto_region 11 with (first
      | ((with_reducible go_at_call 10); (with_reducible refine (HN.out).mono ?_); rintro e w1 ⟨g, gs, gf, rfl, P1, s1, b1⟩; have S1 := Lib.hid s1; have z1 := b1.size; clear s1)
      | ((with_reducible go_at_call 11); (with_reducible refine (H1.out _ _ _ _ _ _ S1.out z1).mono ?_); rintro e w2 ⟨rfl, P2, s2, t2⟩; have b2 := t2.belowOf b1 S1.out.ge; have S2 := Lib.hid s2; have z2 := b2.size; clear s2 t2)
      | ((with_reducible go_at_call 11); (with_reducible refine (H2.out _ _ _ _ _ _ S2.out z2).mono ?_); rintro e w3 ⟨rfl, P3, s3, t3⟩; have b3 := t3.belowOf b2 S2.out.ge; have S3 := Lib.hid s3; have z3 := b3.size; have R3 := Lib.hid (HR.out.keep b3); clear s3 t3)
      | ((with_reducible go_at_call 14); (with_reducible refine (HLW.out _).mono ?_); rintro e w' ⟨rfl, rfl⟩)
      | ((with_reducible go_at_call 12); (with_reducible refine (H3.out _ _ _ _ _ _ S3.out R3.out z3).mono ?_); rintro e w4 ⟨rfl, P4, s4, t4⟩; have b4 := t4.belowOf b3 S3.out.ge; have S4 := Lib.hid s4; have z4 := b4.size; have R4 := Lib.hid (HT.out _ b4); clear s4 t4)
      | ((with_reducible go_at_call 12); (with_reducible refine (H4.out _ _ _ _ _ _ S4.out _ _ R4.out z4).mono ?_); rintro e w5 ⟨rfl, P5, s5, t5⟩; have b5 := t5.belowOf b4 S4.out.ge; have S5 := Lib.hid s5; have z5 := b5.size; have R5 := Lib.hid (HD.out _ b5); clear s5 t5)
      | ((with_reducible go_at_call 12); (with_reducible refine (H5.out _ _ _ _ _ _ S5.out _ _ R5.out z5).mono ?_); rintro e w6 ⟨rfl, P6, s6, t6⟩; have b6 := t6.belowOf b5 S5.out.ge; have S6 := Lib.hid s6; have z6 := b6.size; clear s6 t6)
      | ((with_reducible go_at_call 16); (with_reducible refine (H6.out _ _ _ _ _ _ S6.out).mono ?_); rintro e w' ⟨rfl, rfl⟩)
      | ((with_reducible go_at_call 16); (with_reducible refine (H7.out _ _ _ _ _ _ S6.out).mono ?_); rintro e w' ⟨rfl, rfl⟩)
      | ((with_reducible go_at_call 9); (with_reducible refine (HAW.out _).mono ?_); rintro e w9 ⟨rfl, b9⟩))
    go_wp2_with (first
      | ((with_reducible go_at_call 14); (with_reducible refine (HLR.out _).mono ?_); rintro e w' ⟨rfl, rfl⟩)
      | ((with_reducible go_at_call 13); (with_reducible refine (H8.out _ _ _ _ _ _ S6.out z6).mono ?_); rintro e w7 ⟨A7, c7, rfl, r7, P7, s7, t7, n7⟩; have b7 := t7.belowOf b6 S6.out.ge; have S7 := Lib.hid s7; have z7 := b7.size; have R7 := Lib.hid r7; have N7 := Lib.hid (fun i (q : blk A7 = some i) (h : P7 i) => n7 i h q); clear s7 t7 r7 n7)
      | ((with_reducible go_at_call 13); (with_reducible refine (H9.out _ _ _ _ _ _ S7.out z7).mono ?_); rintro e w8 ⟨A8, c8, rfl, r8, P8, s8, t8, n8⟩; have b8 := t8.belowOf b7 S7.out.ge; have S8 := Lib.hid s8; have Q7 := Lib.hid (t8.row R7.out N7.out); have Q8 := Lib.hid r8; clear s8 t8 r8 n8)
      | ((with_reducible go_at_call 15); (with_reducible refine (HS1.out _ _ _ _ _ Q7.out.rd Q8.out.rd).mono ?_); rintro e wa ⟨rfl, qa, rfl⟩; have ba := Ext.trans b8 (Ext.drewN w8 qa); have Qa := Lib.hid (Q7.out.keep (Ext.drewN w8 qa)); have RA := Lib.hid (HTK.out _ ba))
      | ((with_reducible go_at_call 15); (with_reducible refine (HS1.out _ _ _ _ _ Qa.out.rd RA.out).mono ?_); rintro e wb ⟨rfl, qb, rfl⟩; have bb := Ext.trans b8 (Ext.drewN w8 (qa + qb)); have SB := Lib.hid (S8.out.keep (Ext.drewN w8 (qa + qb))))
      | ((with_reducible go_at_call 16); (with_reducible refine (HX.out _ _ _ _ _ _ SB.out).mono ?_); rintro e w' ⟨rfl, rfl⟩)
      | ((with_reducible go_at_call 9); (with_reducible refine (HAW.out _).mono ?_); rintro e w9 ⟨rfl, b9⟩))
    go_ret
    exact ⟨rfl, Ext.trans bb b9⟩
  · have kk4 : (k : Int) < (c : Int) := by omega
    have hck2 : ¬ c - k = 0 := by omega
    have HD := Lib.hid (fun w1 (h1 : Ext w w1) => show Rd w1 (some ⟨b0, off + k, none⟩) (u8s (bs.drop k)) from by
      rw [u8s_drop]; exact (HR.out.keep h1).dropAt k)
    clear gc
    go_enter Try.func4, Try.ntmps4
    go_upto_region 11 with (first
      | ((with_reducible go_at_call 10); (with_reducible refine (HN.out).mono ?_); rintro e w1 ⟨g, gs, gf, rfl, P1, s1, b1⟩; have S1 := Lib.hid s1; have z1 := b1.size; clear s1)
      | ((with_reducible go_at_call 11); (with_reducible refine (H1.out _ _ _ _ _ _ S1.out z1).mono ?_); rintro e w2 ⟨rfl, P2, s2, t2⟩; have b2 := t2.belowOf b1 S1.out.ge; have S2 := Lib.hid s2; have z2 := b2.size; clear s2 t2)
      | ((with_reducible go_at_call 11); (with_reducible refine (H2.out _ _ _ _ _ _ S2.out z2).mono ?_); rintro e w3 ⟨rfl, P3, s3, t3⟩; have b3 := t3.belowOf b2 S2.out.ge; have S3 := Lib.hid s3; have z3 := b3.size; have R3 := Lib.hid (HR.out.keep b3); clear s3 t3)
      | ((with_reducible go_at_call 14); (with_reducible refine (HLW.out _).mono ?_); rintro e w' ⟨rfl, rfl⟩)
      | ((with_reducible go_at_call 12); (with_reducible refine (H3.out _ _ _ _ _ _ S3.out R3.out z3).mono ?_); rintro e w4 ⟨rfl, P4, s4, t4⟩; have b4 := t4.belowOf b3 S3.out.ge; have S4 := Lib.hid s4; have z4 := b4.size; have R4 := Lib.hid (HT.out _ b4); clear s4 t4)
      | ((with_reducible go_at_call 12); (with_reducible refine (H4.out _ _ _ _ _ _ S4.out _ _ R4.out z4).mono ?_); rintro e w5 ⟨rfl, P5, s5, t5⟩; have b5 := t5.belowOf b4 S4.out.ge; have S5 := Lib.hid s5; have z5 := b5.size; have R5 := Lib.hid (HD.out _ b5); clear s5 t5)
      | ((with_reducible go_at_call 12); (with_reducible refine (H5.out _ _ _ _ _ _ S5.out _ _ R5.out z5).mono ?_); rintro e w6 ⟨rfl, P6, s6, t6⟩; have b6 := t6.belowOf b5 S5.out.ge; have S6 := Lib.hid s6; have z6 := b6.size; clear s6 t6)
      | ((with_reducible go_at_call 16); (with_reducible refine (H6.out _ _ _ _ _ _ S6.out).mono ?_); rintro e w' ⟨rfl, rfl⟩)
      | ((with_reducible go_at_call 16); (with_reducible refine (H7.out _ _ _ _ _ _ S6.out).mono ?_); rintro e w' ⟨rfl, rfl⟩)
      | ((with_reducible go_at_call 9); (with_reducible refine (HAW.out _).mono ?_); rintro e w9 ⟨rfl, b9⟩))
    go_wp2_with (first
      | ((with_reducible go_at_call 14); (with_reducible refine (HLR.out _).mono ?_); rintro e w' ⟨rfl, rfl⟩)
      | ((with_reducible go_at_call 13); (with_reducible refine (H8.out _ _ _ _ _ _ S6.out z6).mono ?_); rintro e w7 ⟨A7, c7, rfl, r7, P7, s7, t7, n7⟩; have b7 := t7.belowOf b6 S6.out.ge; have S7 := Lib.hid s7; have z7 := b7.size; have R7 := Lib.hid r7; have N7 := Lib.hid (fun i (q : blk A7 = some i) (h : P7 i) => n7 i h q); clear s7 t7 r7 n7)
      | ((with_reducible go_at_call 13); (with_reducible refine (H9.out _ _ _ _ _ _ S7.out z7).mono ?_); rintro e w8 ⟨A8, c8, rfl, r8, P8, s8, t8, n8⟩; have b8 := t8.belowOf b7 S7.out.ge; have S8 := Lib.hid s8; have Q7 := Lib.hid (t8.row R7.out N7.out); have Q8 := Lib.hid r8; clear s8 t8 r8 n8)
      | ((with_reducible go_at_call 15); (with_reducible refine (HS1.out _ _ _ _ _ Q7.out.rd Q8.out.rd).mono ?_); rintro e wa ⟨rfl, qa, rfl⟩; have ba := Ext.trans b8 (Ext.drewN w8 qa); have Qa := Lib.hid (Q7.out.keep (Ext.drewN w8 qa)); have RA := Lib.hid (HTK.out _ ba))
      | ((with_reducible go_at_call 15); (with_reducible refine (HS1.out _ _ _ _ _ Qa.out.rd RA.out).mono ?_); rintro e wb ⟨rfl, qb, rfl⟩; have bb := Ext.trans b8 (Ext.drewN w8 (qa + qb)); have SB := Lib.hid (S8.out.keep (Ext.drewN w8 (qa + qb))))
      | ((with_reducible go_at_call 16); (with_reducible refine (HX.out _ _ _ _ _ _ SB.out).mono ?_); rintro e w' ⟨rfl, rfl⟩)
      | ((with_reducible go_at_call 9); (with_reducible refine (HAW.out _).mono ?_); rintro e w9 ⟨rfl, b9⟩))
    go_ret
    exact ⟨rfl, Ext.trans bb b9⟩

end Go.Proofs.Ytebkknkgkjblnaa
