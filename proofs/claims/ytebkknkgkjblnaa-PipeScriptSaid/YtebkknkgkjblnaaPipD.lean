/-
  PIPES: Read.
-/
import Derived.Test.YtebkknkgkjblnaaPipC
namespace Go.Proofs.Ytebkknkgkjblnaa
open Go.RowKit Go.Maps
attribute [local go_sem] depUpon Sp.ok

def readE (x : PP) (n : Int) : Int := if x.r = 0 then 4 else if n < 0 then 19 else if x.d.length = 0 ∧ (n = 0 ∨ x.w = 0) then 0 else if x.d.length = 0 then 17 else 0
def readK (x : PP) (n : Int) : Nat := if x.r = 0 ∨ n < 0 then 0 else min n.toNat x.d.length
/-- What Read answers and leaves. -/
structure PRead (w w' : World) (B g gs : Nat) (ad : Nat → Nat) (A : Nat → Option Addr × Nat) (T : PT) (j : Nat) (x : PP) (er : Int) (k : Nat) (e : Ending) : Prop where
  out : ∃ Ar cr, e = .returned (.tuple #[.slice Ar k cr, .int .i64 er]) ∧ Row w' w.heap.size 5 1 Ar k cr (u8s (x.d.take k)) ∧ PMn w w' B g gs ad A T (upd T j (some { x with d := x.d.drop k })) (fun i => blk Ar = some i)

set_option maxRecDepth 100000 in
set_option maxHeartbeats 4000000 in
theorem p_read (B g gs : Nat) (ad : Nat → Nat) (A : Nat → Option Addr × Nat) (T : PT) (j : Nat) (x : PP) (n : Int) (w : World) (h : PM w B g gs ad A T) (hj : j < 4) (hl : T j = some x) (hB : B ≤ w.heap.size) (hn : I64 n) :
    Calls Try.prog 13 #[.pointer (some ⟨g, 0, none⟩), .int .i64 (j : Int), .int .i64 n] w fun e w' => PRead w w' B g gs ad A T j x (readE x n) (readK x n) e := by
  have HF := Lib.hid (p_find B g gs ad A T j x w h hj hl)
  have ho := h.pip j x hj hl
  have v3 := ho.cell 3
  have v4 := ho.cell 4
  have v5 := ho.cell 5
  simp only [pcs, List.getElem?_cons_zero, List.getElem?_cons_succ] at v3 v4 v5
  have HE := Lib.hid (show readE x n = if x.r = 0 then 4 else if n < 0 then 19 else if x.d.length = 0 ∧ (n = 0 ∨ x.w = 0) then 0 else if x.d.length = 0 then 17 else 0 from rfl)
  have HK := Lib.hid (show readK x n = if x.r = 0 ∨ n < 0 then 0 else min n.toNat x.d.length from rfl)
  have H0 := Lib.hid (show ∀ er : Int, PRead w w B g gs ad A T j x er 0 (.returned (.tuple #[.slice none 0 0, .int .i64 er])) from fun er => ⟨⟨none, 0, rfl, Row.nil _ _ _ _, by
    have e : upd T j (some { x with d := x.d.drop 0 }) = T := upd_self hl
    rw [e]; exact ⟨A, h, Tr.refl, fun i _ q => by cases q⟩⟩⟩)
  have hdl := (h.ok j x hj hl).1.dl
  have HH := Lib.hid h
  have HL := Lib.hid hl
  have HO := Lib.hid ho
  have hmf : ∀ (fn : Fn) (first cap : Array Value) (w : World), (Instr.makeFunc fn first cap).run Try.prog w = .ok (.func fn first cap) w := fun _ _ _ _ => rfl
  clear h hl ho
  by_cases h1 : x.r = 0
  · have E := Lib.hid (show readE x n = 4 by rw [HE.out, if_pos h1])
    have K := Lib.hid (show readK x n = 0 by rw [HK.out, if_pos (.inl h1)])
    have t1 : (x.r == 0) = true := by simp [h1]
    clear h1
    go_enter Try.func13, Try.ntmps13
    go_wp2_with ((with_reducible go_at_call 39); (with_reducible refine (HF.out).mono ?_); rintro e w' ⟨rfl, rfl⟩)
    go_ret2
    rw [E.out, K.out]; exact H0.out 4
  have t1 : (x.r == 0) = false := by simp [h1]
  by_cases h2 : n < 0
  · have E := Lib.hid (show readE x n = 19 by rw [HE.out, if_neg h1, if_pos h2])
    have K := Lib.hid (show readK x n = 0 by rw [HK.out, if_pos (.inr h2)])
    have t2 : decide (n < 0) = true := by simp [h2]
    clear h1
    go_enter Try.func13, Try.ntmps13
    go_wp2_with ((with_reducible go_at_call 39); (with_reducible refine (HF.out).mono ?_); rintro e w' ⟨rfl, rfl⟩)
    go_ret2
    rw [E.out, K.out]; exact H0.out 19
  have t2 : decide (n < 0) = false := by simp [h2]
  have t20 : 0 ≤ n := by omega
  have hk : readK x n = min n.toNat x.d.length := by rw [HK.out, if_neg (fun q => q.elim h1 h2)]
  by_cases h3 : x.d.length = 0
  · have K := Lib.hid (show readK x n = 0 by rw [hk, h3]; exact Nat.min_zero _)
    rw [h3] at v3
    clear hk
    by_cases h4 : n = 0
    · have E := Lib.hid (show readE x n = 0 by rw [HE.out, if_neg h1, if_neg h2, if_pos ⟨h3, .inl h4⟩])
      subst h4
      clear h1
      go_enter Try.func13, Try.ntmps13
      go_wp2_with ((with_reducible go_at_call 39); (with_reducible refine (HF.out).mono ?_); rintro e w' ⟨rfl, rfl⟩)
      go_ret2
      rw [E.out, K.out]; exact H0.out 0
    have t4 : (n == 0) = false := by simp [h4]
    by_cases h5 : x.w = 0
    · have E := Lib.hid (show readE x n = 0 by rw [HE.out, if_neg h1, if_neg h2, if_pos ⟨h3, .inr h5⟩])
      have t5 : (x.w == 0) = true := by simp [h5]
      clear h1 h5
      go_enter Try.func13, Try.ntmps13
      go_wp2_with ((with_reducible go_at_call 39); (with_reducible refine (HF.out).mono ?_); rintro e w' ⟨rfl, rfl⟩)
      go_ret2
      rw [E.out, K.out]; exact H0.out 0
    · have E := Lib.hid (show readE x n = 17 by rw [HE.out, if_neg h1, if_neg h2, if_neg (fun q => q.2.elim h4 h5), if_pos h3])
      have t5 : (x.w == 0) = false := by simp [h5]
      clear h1 h5
      go_enter Try.func13, Try.ntmps13
      go_wp2_with ((with_reducible go_at_call 39); (with_reducible refine (HF.out).mono ?_); rintro e w' ⟨rfl, rfl⟩)
      go_ret2
      rw [E.out, K.out]; exact H0.out 17
  have E := Lib.hid (show readE x n = 0 by rw [HE.out, if_neg h1, if_neg h2, if_neg (fun q => h3 q.1), if_neg h3])
  have t3 : ((x.d.length : Int) == 0) = false := beq_eq_false_iff_ne.2 (by omega)
  have hmin : min n (x.d.length : Int) = ((readK x n : Nat) : Int) := by rw [hk]; omega
  have hkl : readK x n ≤ x.d.length := by rw [hk]; exact Nat.min_le_right ..
  generalize readK x n = k at *
  obtain ⟨i0, hi0, hz0, hz1, hz2⟩ := info_parts info_byte
  have HI := Lib.hid hi0
  have HGT := Lib.hid (fun w1 zs (o1 : Own w1 w.heap.size 5 zs) (hz : zs.length = k) (b1 : Ext w w1) (s1 : w1.heap.size = w.heap.size + 1) => p_get B g gs ad A T j x w.heap.size k zs w w1 b1 rfl (HH.out.keep b1) hj HL.out o1 hz hkl s1 hB HH.out.lt)
  clear h1 hk HK hi0
  go_enter Try.func13, Try.ntmps13
  go_wp2_with (first
    | ((with_reducible go_at_call 39); (with_reducible refine (HF.out).mono ?_); rintro e w' ⟨rfl, rfl⟩)
    | (refine wpl_make _ rfl (.tmp 66) (.tmp 66) 32 rfl 5 i0 _ 1 1 Try.underlying32 HI.out hz0 hz1 hz2 k k rfl rfl (Nat.le_refl _) (by omega) (by omega) ?_; intro w1 o1 b1 s1)
    | ((with_reducible go_at_call 41); (with_reducible refine (HGT.out _ _ o1 (by simp [madeCells]) b1 s1).mono ?_); rintro e w5 ⟨rfl, m5, o5⟩))
  go_ret2
  rw [E.out]
  have LK := (show (u8s (x.d.take k)).length = k by rw [u8s_len, List.length_take]; omega)
  obtain ⟨A9, n1, n2, n3⟩ := m5
  exact ⟨⟨_, _, rfl, Row.ofOwn o5 (Nat.le_refl _) (by rw [LK]; omega) (by omega), A9, n1, n2, fun i hi q => n3 i hi (by injection q with q; exact q.symm)⟩⟩

end Go.Proofs.Ytebkknkgkjblnaa
