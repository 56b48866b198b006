/-
  LOCKS: awake; the statement LocksNone.
-/
import Derived.Test.YtfdpipjkckbgdaaLckF
import Derived.Test.YtfdpipjkckbgdaaOpn
namespace Go.Proofs.Ytfdpipjkckbgdaa
open Go.ChangeShapes Go.WideShapes Go.ChangeAt Go.RowKit Go.Maps
attribute [local go_sem] depUpon Sp.ok

theorem one_of {ws : List Int} {a : Int} (hs : ws.Pairwise (· < ·)) (h : ∀ t, t ∈ ws ↔ t = a) : ws = [a] := by
  cases ws with
  | nil => exact absurd ((h a).2 rfl) (by simp)
  | cons x r =>
    have hx : x = a := (h x).1 (by simp)
    subst hx
    cases r with
    | nil => rfl
    | cons y r =>
      have hy : y = x := (h y).1 (by simp)
      have := (List.pairwise_cons.1 hs).1 y (by simp)
      omega
def aw0 : LS := ls0 [(1, 5), (2, 7)]
def aw1 : LS := aw0.setH 3 (some [(0, 0)])
def aw2 : LS := aw1.setW (fset aw1.W 4 (some 0))
theorem aw_1 : lockE aw0 3 0 = 0 ∧ lockB aw0 3 0 = true ∧ lockS aw0 3 0 = aw1 ∧ LI aw1 := by
  have he : lockE aw0 3 0 = 0 := by rfl
  have ho : ownO aw0 0 = -1 := ownO_no fun t h => by cases h
  have hs : lockS aw0 3 0 = aw1 := by
    unfold lockS
    rw [if_neg (by rw [he]; simp), if_neg (by rw [ho]; decide)]
    rfl
  exact ⟨he, by unfold lockB; rw [he, ho]; rfl, hs, by rw [← hs]; exact (LI.zero _).lock 3 0⟩
theorem aw_2 : lockE aw1 4 0 = 0 ∧ lockB aw1 4 0 = false ∧ lockS aw1 4 0 = aw2 ∧ LI aw2 := by
  have he : lockE aw1 4 0 = 0 := by rfl
  have ho : ownO aw1 0 = 3 := ownO_of aw_1.2.2.2.uq (show (0 : Int) ∈ aw1.mu 3 from List.mem_singleton.2 rfl)
  have hs : lockS aw1 4 0 = aw2 := by
    unfold lockS
    rw [if_neg (by rw [he]; simp), if_pos (by rw [ho]; decide)]
    rfl
  exact ⟨he, by unfold lockB; rw [he, ho]; rfl, hs, by rw [← hs]; exact aw_1.2.2.2.lock 4 0⟩
theorem aw_3 : unlE aw2 3 0 = 0 ∧ LI (unlS aw2 3 0) ∧ ownO (unlS aw2 3 0) 0 = -1 ∧ ∀ ws, Woken aw2 [0] ws → ws = [4] := by
  have he : unlE aw2 3 0 = 0 := by rfl
  refine ⟨he, aw_2.2.2.2.unlock 3 0, ownO_no fun t h => ?_, fun ws h => one_of h.1 fun t => (h.2 t).trans ?_⟩
  · unfold unlS at h
    rw [if_pos he, mu_setW, mu_setH] at h
    split at h
    · cases h
    · rename_i ht
      have : aw2.mu t = [] := by
        show aw1.mu t = []
        unfold aw1
        rw [mu_setH, if_neg ht]
        rfl
      rw [this] at h
      cases h
  · show (match fset aw1.W 4 (some 0) t with
      | some m => decide (m ∈ ([0] : List Int))
      | none => false) = true ↔ t = 4
    by_cases e : t = 4
    · subst e
      rw [fset_at]
      simp
    · rw [fset_ne _ _ e]
      have : aw1.W t = none := rfl
      rw [this]
      simp [e]
theorem run_mutex (a b : Int) (w : World) : (Instr.build 29 #[(0, .int .i64 a), (1, .int .i64 b)]).run Try.prog w = .ok (.agg #[.int .i64 a, .int .i64 b]) w := by kernel_rfl
theorem lit2 (a b c d : Int) (w : World) : Rd (w.alloc (.cells #[.int .i64 a, .int .i64 b, .int .i64 c, .int .i64 d] 29)) (some ⟨w.heap.size, 0, none⟩) (pairs [(a, b), (c, d)]) := (Own.new w 29 (pairs [(a, b), (c, d)])).rd0

set_option maxRecDepth 100000 in
set_option maxHeartbeats 8000000 in
theorem lck_awake (w : World) : Calls Try.prog 8 #[] w fun e w' => e = .returned (.bool true) ∧ Below w.heap.size w w' := by
  have HT := Lib.hid (t_new2 (some ⟨w.heap.size, 0, none⟩) 2 2 [(1, 5), (2, 7)] (w.alloc (.cells #[.int .i64 1, .int .i64 5, .int .i64 2, .int .i64 7] 29)) (by omega) (lit2 1 5 2 7 w) rfl (by decide))
  have b0 := Ext.alloc w (.cells #[.int .i64 1, .int .i64 5, .int .i64 2, .int .i64 7] 29)
  have z0 := b0.size
  have HK := Lib.hid (fun gt K kc w2 ho hr hB hBw => k_new w.heap.size gt K kc [(1, 5), (2, 7)] w2 ho hr (by decide) hB hBw)
  have H1 := Lib.hid (fun g P w3 (h : KW w3 w.heap.size g aw0 0 P) hB => kw_lock w.heap.size g aw0 0 P 3 0 w3 h (by omega) ⟨by omega, by omega⟩ (LI.zero _) hB)
  rw [aw_1.1, aw_1.2.1, aw_1.2.2.1] at H1
  have H2 := Lib.hid (fun g P w3 (h : KW w3 w.heap.size g aw1 1 P) hB => kw_lock w.heap.size g aw1 1 P 4 0 w3 h (by omega) ⟨by omega, by omega⟩ aw_1.2.2.2 hB)
  rw [aw_2.1, aw_2.2.1, aw_2.2.2.1] at H2
  have H3 := Lib.hid (fun g P w3 (h : KW w3 w.heap.size g aw2 2 P) => kw_unlock w.heap.size g aw2 2 P 3 0 w3 h (by omega) ⟨by omega, by omega⟩)
  rw [aw_3.1] at H3
  have H4 := Lib.hid (fun g P w3 (h : KW w3 w.heap.size g (unlS aw2 3 0) 3 P) => kw_owner w.heap.size g (unlS aw2 3 0) 3 P 0 w3 h (by omega) aw_3.2.1)
  rw [aw_3.2.2.1] at H4
  have HWK := Lib.hid aw_3.2.2.2
  have HSI := Lib.hid (fun A c B d w1 (ha : Rd w1 A (ints [4])) (hb : Rd w1 B (ints [4])) => same_ints A B 1 1 c d [4] [4] w1 (by omega) (by omega) ha hb rfl rfl)
  simp only [decide_true] at HSI
  have hb1 := run_mutex 1 5
  have hb2 := run_mutex 2 7
  go_enter Try.func8, Try.ntmps8
  go_upto_region 8 with (first
    | ((with_reducible go_at_call 9); (with_reducible refine (HT.out).mono ?_); rintro e w2 ⟨gt, K, kc, rfl, ot, rt, ht6, hgt, b2⟩; have b02 := Ext.trans b0 b2; have HN := Lib.hid (HK.out gt K kc _ ot (rt.mono z0) (by omega) b02.size); clear ot rt ht6)
    | ((with_reducible go_at_call 10); (with_reducible refine (HN.out).mono ?_); rintro e w3 ⟨g, P3, rfl, s3, bb3⟩; have b3 := Ext.trans b02 bb3; have S3 := Lib.hid s3; clear s3)
    | ((with_reducible go_at_call 11); (with_reducible refine (H1.out _ _ _ S3.out b3.size).mono ?_); rintro e w4 ⟨rfl, P4, s4, t4⟩; have b4 := t4.belowOf b3 S3.out.ge; have S4 := Lib.hid s4; clear s4 t4)
    | ((with_reducible go_at_call 11); (with_reducible refine (H2.out _ _ _ S4.out b4.size).mono ?_); rintro e w5 ⟨rfl, P5, s5, t5⟩; have b5 := t5.belowOf b4 S4.out.ge; have S5 := Lib.hid s5; clear s5 t5)
    | ((with_reducible go_at_call 14); (with_reducible refine (H3.out _ _ _ S5.out).mono ?_); rintro e w6 ⟨ws, A6, c6, rfl, r6, k6, l6, P6, s6, t6⟩; have b6 := t6.belowOf b5 S5.out.ge))
  rw [if_pos trivial] at k6
  obtain rfl := HWK.out _ k6
  rw [show (([4] : List Int)).length = 1 from rfl] at *
  have R6 := Lib.hid r6
  have B7 := Ext.trans b6 (Ext.alloc w6 (.cells #[.int .i64 4] 3))
  have S7 := Lib.hid (s6.keep (Ext.alloc w6 (.cells #[.int .i64 4] 3)))
  have HS7 := Lib.hid (HSI.out A6 c6 (some ⟨w6.heap.size, 0, none⟩) 1 (w6.alloc (.cells #[.int .i64 4] 3)) (R6.out.keep (Ext.alloc w6 (.cells #[.int .i64 4] 3))).rd (rd1i w6 4))
  clear r6 s6 t6 k6 b6
  go_wp2_with (first
    | ((with_reducible go_at_call 24); (with_reducible refine HS7.out.mono ?_); rintro e w8 ⟨rfl, q8, rfl⟩; have S8 := Lib.hid (S7.out.keep (Ext.drewN _ q8)); have B8 := Ext.trans B7 (Ext.drewN _ q8))
    | ((with_reducible go_at_call 16); (with_reducible refine (H4.out _ _ _ S8.out).mono ?_); rintro e w9 ⟨rfl, b9⟩))
  go_ret
  exact ⟨rfl, Ext.trans B8 b9⟩

theorem n_lock (t m : Int) (w : World) : Calls Try.prog 11 #[.pointer none, .int .i64 t, .int .i64 m] w fun e w' => e = .returned (.tuple #[.bool false, .int .i64 1]) ∧ w = w' := by
  go_enter Try.func11, Try.ntmps11
  go_wp2
  go_ret2
  exact ⟨rfl, rfl⟩
theorem n_unlock (t m : Int) (w : World) : Calls Try.prog 14 #[.pointer none, .int .i64 t, .int .i64 m] w fun e w' => e = .returned (.tuple #[.slice none 0 0, .int .i64 1]) ∧ w = w' := by
  go_enter Try.func14, Try.ntmps14
  go_wp2
  go_ret2
  exact ⟨rfl, rfl⟩
theorem n_run (t n : Int) (w : World) : Calls Try.prog 17 #[.pointer none, .int .i64 t, .int .i64 n] w fun e w' => e = .returned (.tuple #[]) ∧ w = w' := by
  go_enter Try.func17, Try.ntmps17
  go_wp2
  exact bodyPost_ret (v := .tuple #[]) (results_none rfl _ _ _) rfl ⟨rfl, rfl⟩
theorem n_leave (t : Int) (w : World) : Calls Try.prog 13 #[.pointer none, .int .i64 t] w fun e w' => e = .returned (.slice none 0 0) ∧ w = w' := by
  go_enter Try.func13, Try.ntmps13
  go_wp2
  go_ret
  exact ⟨rfl, rfl⟩
theorem n_over (t n : Int) (w : World) : Calls Try.prog 20 #[.pointer none, .int .i64 t, .int .i64 n] w fun e w' => e = .returned (.bool false) ∧ Ext w w' := by
  go_enter Try.func20, Try.ntmps20
  go_wp2
  go_ret
  exact ⟨rfl, Ext.alloc _ _⟩
theorem n_held (t : Int) (w : World) : Calls Try.prog 18 #[.pointer none, .int .i64 t] w fun e w' => e = .returned (.slice none 0 0) ∧ w = w' := by
  go_enter Try.func18, Try.ntmps18
  go_wp2
  go_ret
  exact ⟨rfl, rfl⟩
theorem n_owner (m : Int) (w : World) : Calls Try.prog 16 #[.pointer none, .int .i64 m] w fun e w' => e = .returned (.int .i64 (-1)) ∧ Ext w w' := by
  go_enter Try.func16, Try.ntmps16
  go_wp2
  go_ret
  exact ⟨rfl, Ext.alloc _ _⟩
theorem n_owners (w : World) : Calls Try.prog 21 #[.pointer none] w fun e w' => e = .returned (.slice none 0 0) ∧ w = w' := by
  go_enter Try.func21, Try.ntmps21
  go_wp2
  go_ret
  exact ⟨rfl, rfl⟩
theorem n_waits (t : Int) (w : World) : Calls Try.prog 15 #[.pointer none, .int .i64 t] w fun e w' => e = .returned (.int .i64 (-1)) ∧ w = w' := by
  go_enter Try.func15, Try.ntmps15
  go_wp2
  go_ret
  exact ⟨rfl, rfl⟩

/-- An act of chapter 12. -/
structure A12 where
  d : Int
  t : Int
  m : Int
  n : Int
def A12.cs (x : A12) : List Value := [.int .i64 x.d, .int .i64 x.t, .int .i64 x.m, .int .i64 x.n]
structure A12.Ok (x : A12) : Prop where
  d64 : I64 x.d
  t64 : I64 x.t
  m64 : I64 x.m
  n64 : I64 x.n
structure Acts12 (w : World) (A : Option Addr) (n : Nat) (X : Nat → A12) : Prop where
  max : n ≤ 9223372036854775807
  at_ : ∀ i, i < n → (X i).Ok ∧ ∃ b off, A = some ⟨b, off, none⟩ ∧ ∀ j v, (X i).cs[j]? = some v → w.cell? ⟨b, off + (i * 4 + j), none⟩ = some v
section
variable {H : Type} {enc : TypeId × Value → H} {W : World} {base : Nat} {v : Value} {d : DataW H} {p : List MemPlace}
set_option maxRecDepth 100000 in
theorem act_of {fuel : Nat} {cs : List Value} {x : DataW H × List MemPlace} {hd : Bool} (h : DataW.trod enc Try.prog W 0 (fun _ => true) hd fuel 51 cs = some x) : ∃ y : A12, y.cs = cs ∧ y.Ok := by
  have hu := Try.underlying51
  obtain ⟨d, h0, i0⟩ := field_int hu h 0 0 3 (by kernel_rfl) (by kernel_rfl) Try.underlying3
  obtain ⟨t, h1, i1⟩ := field_int hu h 1 1 3 (by kernel_rfl) (by kernel_rfl) Try.underlying3
  obtain ⟨m, h2, i2⟩ := field_int hu h 2 2 3 (by kernel_rfl) (by kernel_rfl) Try.underlying3
  obtain ⟨n, h3, i3⟩ := field_int hu h 3 3 3 (by kernel_rfl) (by kernel_rfl) Try.underlying3
  have hlen : cs.length = 4 := by
    obtain ⟨_, _, _, _, hl, _⟩ := DataW.trod_struct hu h
    have : Try.prog.cellsOf 51 = 4 := by kernel_rfl
    omega
  refine ⟨⟨d, t, m, n⟩, ?_, i0, i1, i2, i3⟩
  refine List.ext_getElem? fun j => ?_
  match j with
  | 0 => exact h0.symm
  | 1 => exact h1.symm
  | 2 => exact h2.symm
  | 3 => exact h3.symm
  | j + 4 => rw [List.getElem?_eq_none (show cs.length ≤ j + 4 by omega), List.getElem?_eq_none (show 4 ≤ j + 4 by omega)]
set_option maxRecDepth 100000 in
theorem open_act12 (hv : Value.okWide Try.prog W .any base 51 v) (h : DataW.Trod enc Try.prog W 0 (fun _ => true) true 51 v d p) : ∃ y : A12, v = .agg #[.int .i64 y.d, .int .i64 y.t, .int .i64 y.m, .int .i64 y.n] ∧ y.Ok := by
  obtain ⟨cs, rfl, _⟩ := okWide_struct Try.underlying51 hv
  obtain ⟨fuel, hf⟩ := h
  simp only [Value.cells] at hf
  obtain ⟨y, hy, hok⟩ := act_of hf
  refine ⟨y, ?_, hok⟩
  have e : cs = y.cs.toArray := Array.ext' (by rw [← hy])
  rw [e]; rfl
set_option maxRecDepth 100000 in
theorem open_acts12 (hv : Value.okWide Try.prog W .any base 54 v) (h : DataW.Trod enc Try.prog W 0 (fun _ => true) true 54 v d p) : ∃ A n c X, v = .slice A n c ∧ Acts12 W A n X := by
  obtain ⟨A, n, c, rfl⟩ := okWide_slice Try.underlying54 hv
  obtain ⟨fuel, hf⟩ := h
  simp only [Value.cells] at hf
  obtain ⟨hmax, _, L, hL⟩ := open_elems Try.underlying54 (by kernel_rfl : Try.prog.cellsOf 51 = 4) (by omega) hf
  have hth : ∀ i, ∃ y : A12, i < n → y.cs = L i ∧ y.Ok := fun i => by
    by_cases hi : i < n
    · obtain ⟨_, ⟨m, y, hy⟩, _⟩ := hL i hi
      obtain ⟨z, hz⟩ := act_of hy
      exact ⟨z, fun _ => hz⟩
    · exact ⟨⟨0, 0, 0, 0⟩, fun h => absurd h hi⟩
  obtain ⟨X, hX⟩ := Classical.axiomOfChoice hth
  refine ⟨A, n, c, X, rfl, hmax, fun i hi => ⟨(hX i hi).2, ?_⟩⟩
  obtain ⟨hlen, _, hr⟩ := hL i hi
  obtain ⟨b, off, rfl, _⟩ := hr 0 _ (List.getElem?_eq_getElem (by omega))
  refine ⟨b, off, rfl, fun j v hj => ?_⟩
  rw [(hX i hi).1] at hj
  obtain ⟨b', off', e, hc⟩ := hr j v hj
  injection e with e; injection e with e1 e2
  subst e1; subst e2
  exact hc
end

set_option maxRecDepth 100000 in
set_option maxHeartbeats 4000000 in
theorem law_locksnone (x : A12) (w : World) (_ : x.Ok) :
    Calls Try.prog 6 #[.agg #[.int .i64 x.d, .int .i64 x.t, .int .i64 x.m, .int .i64 x.n]] w fun e w' => e = .returned (.bool true) ∧ Below w.heap.size w w' := by
  have HAW := Lib.hid (fun w => lck_awake w)
  have oX := Own.new w 51 [.int .i64 x.d, .int .i64 x.t, .int .i64 x.m, .int .i64 x.n]
  have bX := Ext.alloc w (.cells #[.int .i64 x.d, .int .i64 x.t, .int .i64 x.m, .int .i64 x.n] 51)
  have y1 := oX.cell 1
  have y2 := oX.cell 2
  have y3 := oX.cell 3
  simp only [List.getElem?_cons_zero, List.getElem?_cons_succ] at y1 y2 y3
  have OX := Lib.hid oX
  clear oX
  go_enter Try.func6, Try.ntmps6
  go_upto_region 2 with fail
  generalize (w.alloc (.cells #[.int .i64 x.d, .int .i64 x.t, .int .i64 x.m, .int .i64 x.n] 51)) = w1 at *
  generalize w.heap.size = hx at *
  go_wp2_with (first
    | ((with_reducible go_at_call 11); (with_reducible refine (n_lock _ _ _).mono ?_); rintro e w' ⟨rfl, rfl⟩)
    | ((with_reducible go_at_call 14); (with_reducible refine (n_unlock _ _ _).mono ?_); rintro e w' ⟨rfl, rfl⟩)
    | ((with_reducible go_at_call 17); (with_reducible refine (n_run _ _ _).mono ?_); rintro e w' ⟨rfl, rfl⟩)
    | ((with_reducible go_at_call 13); (with_reducible refine (n_leave _ _).mono ?_); rintro e w' ⟨rfl, rfl⟩)
    | ((with_reducible go_at_call 20); (with_reducible refine (n_over _ _ _).mono ?_); rintro e w4 ⟨rfl, b4⟩; have u1 := cell_keep b4 y1; have u2 := cell_keep b4 y2)
    | ((with_reducible go_at_call 18); (with_reducible refine (n_held _ _).mono ?_); rintro e w' ⟨rfl, rfl⟩)
    | ((with_reducible go_at_call 16); (with_reducible refine (n_owner _ _).mono ?_); rintro e w5 ⟨rfl, b5⟩; have v1 := cell_keep b5 u1)
    | ((with_reducible go_at_call 21); (with_reducible refine (n_owners _).mono ?_); rintro e w' ⟨rfl, rfl⟩)
    | ((with_reducible go_at_call 15); (with_reducible refine (n_waits _ _).mono ?_); rintro e w' ⟨rfl, rfl⟩)
    | ((with_reducible go_at_call 8); (with_reducible refine (HAW.out _).mono ?_); rintro e w6 ⟨rfl, b6⟩))
  go_ret
  exact ⟨rfl, Ext.trans (Ext.trans (Ext.trans bX b4) b5) b6⟩

end Go.Proofs.Ytfdpipjkckbgdaa
