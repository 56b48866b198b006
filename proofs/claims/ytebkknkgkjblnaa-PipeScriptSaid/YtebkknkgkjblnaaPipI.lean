/-
  PIPES: awake; the statement PipeNone.
-/
import Derived.Test.YtebkknkgkjblnaaPipH
import Derived.Lib.SlBytesConst
namespace Go.Proofs.Ytebkknkgkjblnaa
open Go.ChangeShapes Go.WideShapes Go.ChangeAt Go.RowKit Go.Maps
attribute [local go_sem] depUpon Sp.ok

def awL : FP × List Pc := takeL (p0 2) [] 64
def awT1 : PT := upd T0 0 (some ⟨0, 0, 64, [], 1, 1⟩)
def awT2 : PT := upd awT1 0 (some ⟨0, 0, 64, [97, 98, 99], 1, 1⟩)
def awT3 : PT := upd awT2 0 (some ⟨0, 0, 64, [99], 1, 1⟩)
set_option maxRecDepth 100000 in
theorem pa_1 : makeV (p0 2) [] T0 = (0, 0) ∧ makeT (p0 2) [] T0 = awT1 ∧ makeL (p0 2) [] T0 = awL := ⟨by kernel_rfl, by kernel_rfl, by kernel_rfl⟩
set_option maxRecDepth 100000 in
theorem pa_2 : wrE awT1 0 3 = 0 ∧ wrT awT1 0 [97, 98, 99] = awT2 := ⟨by kernel_rfl, by kernel_rfl⟩
set_option maxRecDepth 100000 in
theorem pa_3 : rdE awT2 0 2 = 0 ∧ rdB awT2 0 2 = [97, 98] ∧ rdT awT2 0 2 = awT3 ∧ lnV awT3 0 = 1 := ⟨by kernel_rfl, by kernel_rfl, by kernel_rfl, by kernel_rfl⟩

def abcO : Obj := .cells #[.int .u8 97, .int .u8 98, .int .u8 99] 5 (3, 4)
theorem abc_rd (w : World) : Rd (w.alloc abcO) (some ⟨w.heap.size, 0, none⟩) (u8s [97, 98, 99]) := fun k v hk => ⟨w.heap.size, 0, rfl, by
  unfold abcO
  rw [Nat.zero_add, World.cell?_alloc_mark]
  simpa [u8s] using hk⟩
theorem abc_run (w : World) : (convert (32) (32) (.slice (some ⟨w.heap.size, 0, none⟩) 3 3)).run Try.prog (w.alloc (.cells #[.int .u8 97, .int .u8 98, .int .u8 99] 5)) = .ok (.slice (some ⟨w.heap.size, 0, none⟩) 3 3) (w.alloc abcO) :=
  Lib.run_convert_bytes_const (P := Try.prog) w _ _ _ 3 3 Try.underlying32 Try.underlying5
set_option maxRecDepth 100000 in
set_option maxHeartbeats 2000000 in
theorem pip_awake (w : World) : Calls Try.prog 9 #[] w fun e w' => e = .returned (.bool true) ∧ Below w.heap.size w w' := by
  have hn := l_made 2 w (by omega) (by omega)
  rw [show ((2 : Nat) : Int) = 2 from rfl] at hn
  have HN := Lib.hid hn
  clear hn
  have H1 := Lib.hid (fun B g gs gf P w h hB => pw_make B g gs gf (p0 2) [] T0 P w h hB)
  rw [pa_1.1, pa_1.2.1, pa_1.2.2] at H1
  have H2 := Lib.hid (fun B g gs gf P w h Bd cb hr hB => pw_write B g gs gf awL.1 awL.2 awT1 P 0 w h Bd 3 cb [97, 98, 99] hr rfl hB)
  rw [pa_2.1, pa_2.2] at H2
  have H3 := Lib.hid (fun B g gs gf P w h hB => pw_read B g gs gf awL.1 awL.2 awT2 P 0 w h 2 (by constructor <;> omega) hB)
  rw [pa_3.1, pa_3.2.1, pa_3.2.2.1, show ([97, 98] : List Int).length = 2 from rfl] at H3
  have H4 := Lib.hid (fun B g gs gf P w h => pw_len B g gs gf awL.1 awL.2 awT3 P 0 w h)
  rw [pa_3.2.2.2, show ((1 : Nat) : Int) = 1 from rfl] at H4
  have HCV := Lib.hid (fun (w : World) (a : Addr) (c : Nat) (hc : ∀ j (hj : j < ([97, 98] : List UInt8).length), w.cell? (a.add j) = some (.int .u8 ((([97, 98] : List UInt8)[j]).toNat : Int))) => run_convert_bytes_back (P := Try.prog) w 32 9 5 a c [97, 98] Try.underlying32 Try.underlying5 Try.underlying9 hc)
  have hcs := abc_run
  go_enter Try.func9, Try.ntmps9
  go_upto_region 7 with (first
    | ((with_reducible go_at_call 10); (with_reducible refine HN.out.mono ?_); rintro e w1 ⟨g, gs, gf, rfl, P1, s1, b1⟩; have S1 := Lib.hid s1; have z1 := b1.size; clear s1)
    | ((with_reducible go_at_call 11); (with_reducible refine (H1.out _ _ _ _ _ _ S1.out z1).mono ?_); rintro e w2 ⟨rfl, P2, s2, t2⟩; have b2 := t2.belowOf b1 S1.out.ge; have bb2 := Ext.trans b2 (Ext.alloc w2 abcO); have S2 := Lib.hid (s2.keep (Ext.alloc w2 abcO)); have z2 := bb2.size; have R2 := Lib.hid (abc_rd w2); clear s2 t2)
    | ((with_reducible go_at_call 12); (with_reducible refine (H2.out _ _ _ _ _ _ S2.out _ _ R2.out z2).mono ?_); rintro e w3 ⟨rfl, P3, s3, t3⟩; have b3 := t3.belowOf bb2 S2.out.ge; have S3 := Lib.hid s3; have z3 := b3.size; clear s3 t3)
    | ((with_reducible go_at_call 13); (with_reducible refine (H3.out _ _ _ _ _ _ S3.out z3).mono ?_); rintro e w4 ⟨A4, c4, rfl, r4, P4, s4, t4, n4⟩; have b4 := t4.belowOf b3 S3.out.ge; have S4 := Lib.hid s4; have R4 := Lib.hid r4; clear s4 t4 r4))
  obtain ⟨ga, rfl⟩ := R4.out.addr (by decide)
  have hcv := HCV.out w4 ⟨ga, 0, none⟩ c4 (fun j hj => by
    obtain ⟨b', o', e, hc⟩ := R4.out.rd j (.int .u8 ((([97, 98] : List UInt8)[j]).toNat : Int)) (by
      match j, hj with
      | 0, _ => rfl
      | 1, _ => rfl)
    injection e with e; injection e with e1 e2
    subst e1; subst e2
    rw [add0]; exact hc)
  simp only [List.length_cons, List.length_nil] at hcv
  have HL := Lib.hid (H4.out _ _ _ _ _ _ S4.out)
  clear HCV
  go_wp2_with ((with_reducible go_at_call 16); (with_reducible refine (HL.out).mono ?_); rintro e w' ⟨rfl, rfl⟩)
  go_ret
  exact ⟨rfl, b4⟩

end Go.Proofs.Ytebkknkgkjblnaa
