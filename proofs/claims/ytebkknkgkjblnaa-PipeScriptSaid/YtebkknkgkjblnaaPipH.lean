/-
  PIPES: each call in one word.
-/
import Derived.Test.YtebkknkgkjblnaaPipG
namespace Go.Proofs.Ytebkknkgkjblnaa
open Go.RowKit Go.Maps
attribute [local go_sem] depUpon Sp.ok

def wrE (T : PT) (id : Int) (n : Nat) : Int := match look T id with
  | some x => writeE x n
  | none => 4
def wrT (T : PT) (id : Int) (bs : List Int) : PT := match look T id with
  | some x => writeT T id.toNat x bs
  | none => T
def rdE (T : PT) (id n : Int) : Int := match look T id with
  | some x => readE x n
  | none => 4
def rdB (T : PT) (id n : Int) : List Int := match look T id with
  | some x => x.d.take (readK x n)
  | none => []
def rdT (T : PT) (id n : Int) : PT := match look T id with
  | some x => upd T id.toNat (some { x with d := x.d.drop (readK x n) })
  | none => T
def opE (T : PT) (id : Int) : Int := match look T id with
  | some _ => 0
  | none => 4
def opT (T : PT) (id : Int) (b : Bool) : PT := match look T id with
  | some x => upd T id.toNat (some (setEnd x b (endV x b + 1)))
  | none => T
def clE (T : PT) (id : Int) (b : Bool) : Int := match look T id with
  | some x => clsV x b
  | none => 4
def clT (T : PT) (id : Int) (b : Bool) : PT := match look T id with
  | some x => clsT T id.toNat x b
  | none => T
def clL (p : FP) (L : List Pc) (T : PT) (id : Int) (b : Bool) : FP × List Pc := match look T id with
  | some x => clsL p L x b
  | none => (p, L)
def lnV (T : PT) (id : Int) : Nat := match look T id with
  | some x => x.d.length
  | none => 0
def enV (T : PT) (id : Int) : Int × Int × Bool := match look T id with
  | some x => (x.r, x.w, true)
  | none => (0, 0, false)
section
variable (B g gs gf : Nat) (p : FP) (L : List Pc) (T : PT) (P : Nat → Prop) (id : Int) (w : World) (h : PW w B g gs gf p L T P)
include h
theorem pw_len : Calls Try.prog 16 #[.pointer (some ⟨g, 0, none⟩), .int .i64 id] w fun e w' => e = .returned (.int .i64 (lnV T id : Int)) ∧ w = w' := by
  obtain ⟨ad, A, P1, h1, h2, rfl⟩ := h
  rcases look_cases T id with e | ⟨j, x, rfl, hj, hx, e⟩
  · rw [show lnV T id = 0 by unfold lnV; rw [e]]
    exact p_len_no B g gs ad A T id w h1 e
  · rw [show lnV T (j : Int) = x.d.length by unfold lnV; rw [e]]
    exact p_len B g gs ad A T j x w h1 hj hx
theorem pw_ends : Calls Try.prog 19 #[.pointer (some ⟨g, 0, none⟩), .int .i64 id] w fun e w' => e = .returned (.tuple #[.int .i64 (enV T id).1, .int .i64 (enV T id).2.1, .bool (enV T id).2.2]) ∧ Ext w w' := by
  obtain ⟨ad, A, P1, h1, h2, rfl⟩ := h
  rcases look_cases T id with e | ⟨j, x, rfl, hj, hx, e⟩
  · rw [show enV T id = (0, 0, false) by unfold enV; rw [e]]
    exact (p_ends_no B g gs ad A T id w h1 e).mono fun _ _ ⟨a, b⟩ => ⟨a, b ▸ Ext.refl _⟩
  · rw [show enV T (j : Int) = (x.r, x.w, true) by unfold enV; rw [e]]
    exact p_ends B g gs ad A T j x w h1 hj hx
theorem pw_write (Bd : Option Addr) (n cb : Nat) (bs : List Int) (hr : Rd w Bd (u8s bs)) (hn : bs.length = n) (hB : B ≤ w.heap.size) :
    Calls Try.prog 12 #[.pointer (some ⟨g, 0, none⟩), .int .i64 id, .slice Bd n cb] w fun e w' => e = .returned (.int .i64 (wrE T id n)) ∧ ∃ P', PW w' B g gs gf p L (wrT T id bs) P' ∧ Tr w w' P P' := by
  obtain ⟨ad, A, P1, h1, h2, rfl⟩ := h
  rcases look_cases T id with e | ⟨j, x, rfl, hj, hx, e⟩
  · rw [show wrE T id n = 4 by unfold wrE; rw [e], show wrT T id bs = T by unfold wrT; rw [e]]
    refine (p_write_no B g gs ad A T id Bd n cb w h1 e).mono ?_
    rintro _ _ ⟨a, rfl⟩
    exact ⟨a, _, ⟨ad, A, P1, h1, h2, rfl⟩, Tr.refl⟩
  · rw [show wrE T (j : Int) n = writeE x n by unfold wrE; rw [e], show wrT T (j : Int) bs = writeT T j x bs by unfold wrT; rw [e, Int.toNat_natCast]]
    refine (p_write B g gs ad A T j x Bd n cb bs w h1 hj hx hr hn hB).mono ?_
    rintro _ _ ⟨a, m⟩
    exact ⟨a, PW.pipes h2 h1 m⟩
theorem pw_read (n : Int) (hn : I64 n) (hB : B ≤ w.heap.size) :
    Calls Try.prog 13 #[.pointer (some ⟨g, 0, none⟩), .int .i64 id, .int .i64 n] w fun e w' => ∃ Ar cr, e = .returned (.tuple #[.slice Ar (rdB T id n).length cr, .int .i64 (rdE T id n)]) ∧ Row w' w.heap.size 5 1 Ar (rdB T id n).length cr (u8s (rdB T id n)) ∧ ∃ P', PW w' B g gs gf p L (rdT T id n) P' ∧ Tr w w' P P' ∧ ∀ i, P' i → blk Ar ≠ some i := by
  obtain ⟨ad, A, P1, h1, h2, rfl⟩ := h
  rcases look_cases T id with e | ⟨j, x, rfl, hj, hx, e⟩
  · rw [show rdE T id n = 4 by unfold rdE; rw [e], show rdT T id n = T by unfold rdT; rw [e], show rdB T id n = [] by unfold rdB; rw [e]]
    refine (p_read_no B g gs ad A T id n w h1 e).mono ?_
    rintro _ _ ⟨a, rfl⟩
    exact ⟨none, 0, a, Row.nil _ _ _ _, _, ⟨ad, A, P1, h1, h2, rfl⟩, Tr.refl, fun i _ q => by cases q⟩
  · have hk : readK x n ≤ x.d.length := by
      unfold readK
      split
      · omega
      · exact Nat.min_le_right ..
    rw [show rdE T (j : Int) n = readE x n by unfold rdE; rw [e], show rdT T (j : Int) n = upd T j (some { x with d := x.d.drop (readK x n) }) by unfold rdT; rw [e, Int.toNat_natCast], show rdB T (j : Int) n = x.d.take (readK x n) by unfold rdB; rw [e],
      show (x.d.take (readK x n)).length = readK x n by rw [List.length_take]; omega]
    refine (p_read B g gs ad A T j x n w h1 hj hx hB hn).mono ?_
    rintro _ w' ⟨Ar, cr, a, r, A9, m1, m2, m3⟩
    refine ⟨Ar, cr, a, r, _, ⟨ad, A9, P1, m1, h2.other m2 (fun i hi q => h1.apart h2 i q hi), rfl⟩, m2.mono (fun _ q => .inl q) fun i hi => ?_, fun i hi q => ?_⟩
    · rcases hi with q | q
      · exact .inl q
      · exact .inr (.inl (.inr q))
    · rcases hi with hi | hi
      · exact m3 i hi q
      · exact (h2.other m2 (fun i hi q => h1.apart h2 i q hi)).noRow r (by decide) (by decide) (by decide) (by decide) (by decide) i q hi
theorem pw_open (b : Bool) (hb : ∀ j x, j < 4 → T j = some x → x.r < 65536 ∧ x.w < 65536) :
    Calls Try.prog 20 #[.pointer (some ⟨g, 0, none⟩), .int .i64 id, .bool b] w fun e w' => e = .returned (.int .i64 (opE T id)) ∧ ∃ P', PW w' B g gs gf p L (opT T id b) P' ∧ Tr w w' P P' := by
  obtain ⟨ad, A, P1, h1, h2, rfl⟩ := h
  rcases look_cases T id with e | ⟨j, x, rfl, hj, hx, e⟩
  · rw [show opE T id = 4 by unfold opE; rw [e], show opT T id b = T by unfold opT; rw [e]]
    refine (p_open_no B g gs ad A T id b w h1 e).mono ?_
    rintro _ _ ⟨a, rfl⟩
    exact ⟨a, _, ⟨ad, A, P1, h1, h2, rfl⟩, Tr.refl⟩
  · rw [show opE T (j : Int) = 0 by unfold opE; rw [e], show opT T (j : Int) b = upd T j (some (setEnd x b (endV x b + 1))) by unfold opT; rw [e, Int.toNat_natCast]]
    refine (p_open B g gs ad A T j x b w h1 hj hx (hb j x hj hx)).mono ?_
    rintro _ _ ⟨a, m⟩
    exact ⟨a, PW.pipes h2 h1 m⟩
theorem pw_closeI (b : Bool) (hB : B ≤ w.heap.size) :
    Calls Try.prog 17 #[.pointer (some ⟨g, 0, none⟩), .int .i64 id, .bool b] w fun e w' => e = .returned (.int .i64 (clE T id b)) ∧ ∃ P', PW w' B g gs gf (clL p L T id b).1 (clL p L T id b).2 (clT T id b) P' ∧ Tr w w' P P' := by
  rcases look_cases T id with e | ⟨j, x, rfl, hj, hx, e⟩
  · obtain ⟨ad, A, P1, h1, h2, rfl⟩ := h
    rw [show clE T id b = 4 by unfold clE; rw [e], show clT T id b = T by unfold clT; rw [e], show clL p L T id b = (p, L) by unfold clL; rw [e]]
    refine (p_close_no B g gs ad A T id b w h1 e).mono ?_
    rintro _ _ ⟨a, rfl⟩
    exact ⟨a, _, ⟨ad, A, P1, h1, h2, rfl⟩, Tr.refl⟩
  · rw [show clE T (j : Int) b = clsV x b by unfold clE; rw [e], show clT T (j : Int) b = clsT T j x b by unfold clT; rw [e, Int.toNat_natCast], show clL p L T (j : Int) b = clsL p L x b by unfold clL; rw [e]]
    exact pw_close B g gs gf p L T P j x b w h hj hx hB
theorem pw_free : Calls Try.prog 18 #[.pointer (some ⟨gf, 0, none⟩)] w fun e w' => e = .returned (.int .i64 ((p.fr.length : Int) + (p.n : Int) - (p.fs : Int))) ∧ Ext w w' := by
  obtain ⟨ad, A, P1, h1, h2, rfl⟩ := h
  exact sw_free B gs gf p L P1 w h2
end

theorem n_find (id : Int) (w : World) : Calls Try.prog 39 #[.pointer none, .int .i64 id] w fun e w' => e = .returned (.tuple #[.pointer none, .int .i64 1]) ∧ w = w' := by
  go_enter Try.func39, Try.ntmps39
  go_wp2
  go_ret2
  exact ⟨rfl, rfl⟩
theorem n_make (w : World) : Calls Try.prog 11 #[.pointer none] w fun e w' => e = .returned (.tuple #[.int .i64 0, .int .i64 1]) ∧ w = w' := by
  go_enter Try.func11, Try.ntmps11
  go_wp2
  go_ret2
  exact ⟨rfl, rfl⟩
theorem n_read (id n : Int) (w : World) : Calls Try.prog 13 #[.pointer none, .int .i64 id, .int .i64 n] w fun e w' => e = .returned (.tuple #[.slice none 0 0, .int .i64 1]) ∧ w = w' := by
  go_enter Try.func13, Try.ntmps13
  go_wp2_with ((with_reducible go_at_call 39); (with_reducible refine (n_find _ _).mono ?_); rintro e w' ⟨rfl, rfl⟩)
  go_ret2
  exact ⟨rfl, rfl⟩
theorem n_write (id : Int) (A : Option Addr) (n c : Nat) (w : World) : Calls Try.prog 12 #[.pointer none, .int .i64 id, .slice A n c] w fun e w' => e = .returned (.int .i64 1) ∧ w = w' := by
  go_enter Try.func12, Try.ntmps12
  go_wp2_with ((with_reducible go_at_call 39); (with_reducible refine (n_find _ _).mono ?_); rintro e w' ⟨rfl, rfl⟩)
  go_ret
  exact ⟨rfl, rfl⟩
theorem n_open (id : Int) (b : Bool) (w : World) : Calls Try.prog 20 #[.pointer none, .int .i64 id, .bool b] w fun e w' => e = .returned (.int .i64 1) ∧ w = w' := by
  go_enter Try.func20, Try.ntmps20
  go_wp2_with ((with_reducible go_at_call 39); (with_reducible refine (n_find _ _).mono ?_); rintro e w' ⟨rfl, rfl⟩)
  go_ret
  exact ⟨rfl, rfl⟩
theorem n_close (id : Int) (b : Bool) (w : World) : Calls Try.prog 17 #[.pointer none, .int .i64 id, .bool b] w fun e w' => e = .returned (.int .i64 1) ∧ w = w' := by
  go_enter Try.func17, Try.ntmps17
  go_wp2_with ((with_reducible go_at_call 39); (with_reducible refine (n_find _ _).mono ?_); rintro e w' ⟨rfl, rfl⟩)
  go_ret
  exact ⟨rfl, rfl⟩
theorem n_len (id : Int) (w : World) : Calls Try.prog 16 #[.pointer none, .int .i64 id] w fun e w' => e = .returned (.int .i64 0) ∧ w = w' := by
  go_enter Try.func16, Try.ntmps16
  go_wp2_with ((with_reducible go_at_call 39); (with_reducible refine (n_find _ _).mono ?_); rintro e w' ⟨rfl, rfl⟩)
  go_ret
  exact ⟨rfl, rfl⟩
theorem n_ends (id : Int) (w : World) : Calls Try.prog 19 #[.pointer none, .int .i64 id] w fun e w' => e = .returned (.tuple #[.int .i64 0, .int .i64 0, .bool false]) ∧ w = w' := by
  go_enter Try.func19, Try.ntmps19
  go_wp2_with ((with_reducible go_at_call 39); (with_reducible refine (n_find _ _).mono ?_); rintro e w' ⟨rfl, rfl⟩)
  go_ret3
  exact ⟨rfl, rfl⟩

theorem l_made (n : Nat) (w : World) (h0 : 1 ≤ n) (h1 : n ≤ 64) :
    Calls Try.prog 10 #[.int .i64 (n : Int)] w fun e w' => ∃ g gs gf, e = .returned (.tuple #[.pointer (some ⟨g, 0, none⟩), .pointer (some ⟨gf, 0, none⟩)]) ∧ ∃ P, PW w' w.heap.size g gs gf (p0 n) [] T0 P ∧ Ext w w' := by
  have HN := Lib.hid (f_new n w h0 h1)
  have HS := Lib.hid (fun gf w => s_new gf w)
  have HP := Lib.hid (fun gs w => p_new gs w)
  go_enter Try.func10, Try.ntmps10
  go_wp2_with (first
    | ((with_reducible go_at_call 34); (with_reducible refine HN.out.mono ?_); rintro e w1 ⟨gf, gb, gt, rfl, f1, b1⟩; have F1 := Lib.hid f1; clear f1)
    | ((with_reducible go_at_call 36); (with_reducible refine (HS.out _ _).mono ?_); rintro e w2 ⟨gs, gm, rfl, s2, b2⟩; obtain ⟨P2, S2⟩ := SW.made F1.out s2 b1 b2; have S2 := Lib.hid S2; clear s2)
    | ((with_reducible go_at_call 35); (with_reducible refine (HP.out _ _).mono ?_); rintro e w3 ⟨rfl, m3, b3⟩; have M3 := Lib.hid m3; clear m3))
  go_ret2
  have z1 := b1.size
  have z2 := b2.size
  refine ⟨_, _, _, rfl, _, ⟨fun _ => 0, fun _ => (none, 0), P2, ⟨M3.out.own, fun j x _ h => (by cases h), fun j x _ h => (by cases h), fun j k x y _ _ _ h => (by cases h), fun j x _ h => (by cases h), by omega⟩, S2.out.keep b3, rfl⟩, Ext.trans (Ext.trans b1 b2) b3⟩

end Go.Proofs.Ytebkknkgkjblnaa
