/-
  WALKS of chapter 25's statements: awake; ProcNone.
-/
import Derived.Test.YtdgggdhligfnpaaPrcD
import Derived.Test.YtdgggdhligfnpaaFrame
namespace Go.Proofs.Ytdgggdhligfnpaa
open Go.ChangeShapes Go.WideShapes Go.ChangeAt Go.RowKit Go.Maps
attribute [local go_sem] depUpon Sp.ok

def aw1 : List PR := [⟨1, -1, 0, false⟩]
def aw2 : List PR := [⟨1, -1, 0, false⟩, ⟨2, 1, 0, false⟩]
def aw3 : List PR := [⟨1, -1, 0, false⟩, ⟨2, 1, 7, true⟩]
theorem aw_s1 : startE [] 1 (-1) = 0 ∧ startL [] 1 (-1) = aw1 := ⟨rfl, rfl⟩
theorem aw_s2 : startE aw1 2 1 = 0 ∧ startL aw1 2 1 = aw2 := ⟨rfl, rfl⟩
theorem aw_s3 : exitE aw2 2 7 = 0 ∧ exitL aw2 2 7 = aw3 := ⟨rfl, rfl⟩
theorem aw_s4 : childR aw3 1 = (2, 7, 0) ∧ childL aw3 1 = aw1 := ⟨rfl, rfl⟩
theorem aw_s5 : aliveB aw1 1 = true := rfl
theorem PT.below {w0 w w' : World} {B : Nat} {g gm : Nat} {L : List PR} (h : PT w w' g gm L) (hb : Below B w0 w) (hs : B ≤ w.heap.size) (hm : B ≤ gm) : Below B w0 w' := below_grown hb h.grown hs (fun k hk => by injection hk with hk; omega)

set_option maxRecDepth 100000 in
set_option maxHeartbeats 2000000 in
theorem prc_awake (w : World) : Calls Try.prog 13 #[] w fun e w' => e = .returned (.bool true) ∧ Below w.heap.size w w' := by
  have A1 := Lib.hid (fun g gm w1 (h : PS w1 g gm []) => p_start g gm [] 1 (-1) w1 h ⟨by omega, by omega⟩ ⟨by omega, by omega⟩ (by simp))
  have A2 := Lib.hid (fun g gm w1 (h : PS w1 g gm aw1) => p_start g gm aw1 2 1 w1 h ⟨by omega, by omega⟩ ⟨by omega, by omega⟩ (by simp [aw1]))
  have A3 := Lib.hid (fun g gm w1 (h : PS w1 g gm aw2) => p_exit g gm aw2 2 7 w1 h ⟨by omega, by omega⟩ (by simp [aw2]))
  have A4 := Lib.hid (fun g gm w1 (h : PS w1 g gm aw3) => p_child g gm aw3 1 w1 h ⟨by omega, by omega⟩ (by simp [aw3]))
  have A5 := Lib.hid (fun g gm w1 (h : PS w1 g gm aw1) => p_alive g gm aw1 1 w1 h ⟨by omega, by omega⟩)
  rw [aw_s1.1, aw_s1.2] at A1
  rw [aw_s2.1, aw_s2.2] at A2
  rw [aw_s3.1, aw_s3.2] at A3
  rw [aw_s4.1, aw_s4.2] at A4
  rw [aw_s5] at A5
  have HN := Lib.hid (p_new w)
  go_enter Try.func13, Try.ntmps13
  go_wp2_with fail
  refine HN.out.mono ?_
  rintro e w1 ⟨g, gm, rfl, s1, b1, hg, hgm⟩
  go_wp2_with (first
    | ((with_reducible go_at_call 8); (with_reducible refine (A1.out _ _ _ s1).mono ?_); rintro e w2 ⟨rfl, p2⟩; have b2 := p2.below b1 b1.size hgm)
    | ((with_reducible go_at_call 8); (with_reducible refine (A2.out _ _ _ p2.st).mono ?_); rintro e w3 ⟨rfl, p3⟩; have b3 := p3.below b2 b2.size hgm)
    | ((with_reducible go_at_call 10); (with_reducible refine (A3.out _ _ _ p3.st).mono ?_); rintro e w4 ⟨rfl, p4⟩; have b4 := p4.below b3 b3.size hgm)
    | ((with_reducible go_at_call 11); (with_reducible refine (A4.out _ _ _ p4.st).mono ?_); rintro e w5 ⟨rfl, p5⟩; have b5 := p5.below b4 b4.size hgm)
    | ((with_reducible go_at_call 20); (with_reducible refine (A5.out _ _ _ p5.st).mono ?_); rintro e w6 ⟨rfl, b6⟩))
  go_ret
  exact ⟨rfl, Below.trans b5 (Below.mono b6 b5.size)⟩

section
variable {H : Type} {enc : TypeId × Value → H} {W : World} {base : Nat} {v : Value} {d : DataW H} {p : List MemPlace}
set_option maxRecDepth 100000 in
theorem open_act25 (hv : Value.okWide Try.prog W .any base 40 v) (h : DataW.Trod enc Try.prog W 0 (fun _ => true) true 40 v d p) : ∃ a b c, v = .agg #[.int .i64 a, .int .i64 b, .int .i64 c] ∧ (I64 a ∧ I64 b ∧ I64 c) := by
  obtain ⟨zs, h1, h2, h3⟩ := open_struct Try.underlying40 (by kernel_rfl) (by kernel_rfl) hv h
  match zs, h1 with
  | [a, b, c], _ => exact ⟨a, b, c, h2, h3 a (by simp), h3 b (by simp), h3 c (by simp)⟩
end

set_option maxRecDepth 100000 in
set_option maxHeartbeats 2000000 in
theorem law_procnone (a b c : Int) (w : World) (_ : I64 a ∧ I64 b ∧ I64 c) :
    Calls Try.prog 5 #[.agg #[.int .i64 a, .int .i64 b, .int .i64 c]] w fun e w' => e = .returned (.bool true) ∧ Below w.heap.size w w' := by
  have oX := Own.new w 40 [.int .i64 a, .int .i64 b, .int .i64 c]
  have bX : Ext w (w.alloc (.cells #[.int .i64 a, .int .i64 b, .int .i64 c] 40)) := Ext.alloc _ _
  have C1 := Lib.hid (fun k w => p_child_nil k w)
  have C2 := Lib.hid (fun k w => p_parent_nil k w)
  have C3 := Lib.hid (fun k q w => p_start_nil k q w)
  have C4 := Lib.hid (fun k q w => p_exit_nil k q w)
  have C5 := Lib.hid (fun k w => p_alive_nil k w)
  have C6 := Lib.hid (fun k w => p_children_nil k w)
  have C7 := Lib.hid (fun w => prc_awake w)
  go_enter Try.func5, Try.ntmps5
  go_wp2_with (first
    | ((with_reducible go_at_call 11); (with_reducible refine (C1.out _ _).mono ?_); rintro e w1 ⟨rfl, b1⟩; have x1 := (oX.keep b1).cell 1; have x2 := (oX.keep b1).cell 2; simp only [List.getElem?_cons_zero, List.getElem?_cons_succ] at x1 x2)
    | ((with_reducible go_at_call 18); (with_reducible refine (C2.out _ _).mono ?_); rintro e w' ⟨rfl, rfl⟩)
    | ((with_reducible go_at_call 8); (with_reducible refine (C3.out _ _ _).mono ?_); rintro e w' ⟨rfl, rfl⟩)
    | ((with_reducible go_at_call 10); (with_reducible refine (C4.out _ _ _).mono ?_); rintro e w' ⟨rfl, rfl⟩)
    | ((with_reducible go_at_call 20); (with_reducible refine (C5.out _ _).mono ?_); rintro e w' ⟨rfl, rfl⟩)
    | ((with_reducible go_at_call 12); (with_reducible refine (C6.out _ _).mono ?_); rintro e w' ⟨rfl, rfl⟩)
    | ((with_reducible go_at_call 13); (with_reducible refine (C7.out _).mono ?_); rintro e w2 ⟨rfl, b2⟩))
  go_ret
  exact ⟨rfl, Ext.trans bX (Ext.trans b1 b2)⟩

end Go.Proofs.Ytdgggdhligfnpaa
