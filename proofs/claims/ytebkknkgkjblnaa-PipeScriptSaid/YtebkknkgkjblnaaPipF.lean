/-
  PIPES: Open, Close.
-/
import Derived.Test.YtebkknkgkjblnaaPipE
import Derived.Laws.StructEq
namespace Go.Proofs.Ytebkknkgkjblnaa
open Go.RowKit Go.Maps
attribute [local go_sem] depUpon Sp.ok

set_option maxRecDepth 100000 in
theorem eq2_ (a b c d : Int) (w : World) : (Op.equalIn 10000 87 (.agg #[.int .i64 a, .int .i64 b]) (.agg #[.int .i64 c, .int .i64 d])).run Try.prog w = .ok (a == c && b == d) w := by
  have u3 := Try.underlying3
  have a3 := Try.isAgg3
  have z3 := Try.sizeOf3
  rw [show (10000 : Nat) = 9999 + 1 from rfl, Op.equalIn]
  simp only [Sem.run_bind, run_underlying Try.underlying87, Result.andThen_ok]
  simp only [Std.Legacy.Range.forIn_eq_forIn_range', Std.Legacy.Range.size, Nat.sub_zero, Nat.add_sub_cancel, Nat.div_one, List.range'_succ, List.range'_zero, List.forIn_cons, List.forIn_nil]
  go_simp
  by_cases h1 : a = c <;> by_cases h2 : b = d <;> simp [h1, h2]
theorem run_eq2 (a b : Int) (x y : Operand) (w : World) :
    (do eqGuard .eql 87 x y (.agg #[.int .i64 a, .int .i64 b]) (.agg #[.int .i64 0, .int .i64 0]); binOp .eql 87 (.agg #[.int .i64 a, .int .i64 b]) (.agg #[.int .i64 0, .int .i64 0]) : Sem Value).run Try.prog w = .ok (.bool (a == 0 && b == 0)) w := by
  rw [Sem.run_bind, run_eqGuard_agg (P := Try.prog) w .eql _ x y _ _ (by kernel_rfl), Result.andThen_ok, run_eql_struct, eq2_]
  rfl
theorem run_zero2 (w : World) : (Instr.build 87 #[]).run Try.prog w = .ok (.agg #[.int .i64 0, .int .i64 0]) w := by kernel_rfl
theorem size_2 : (Try.prog.info? 87).map (·.size) = some 2 := by kernel_rfl

def endV (x : PP) (b : Bool) : Int := if b then x.w else x.r
def setEnd (x : PP) (b : Bool) (v : Int) : PP := if b then { x with w := v } else { x with r := v }
section
variable {w w' : World} {B g gs : Nat} {ad : Nat → Nat} {A : Nat → Option Addr × Nat} {T : PT}
theorem PM.endSet (h : PM w B g gs ad A T) {j : Nat} {x : PP} (hj : j < 4) (hx : T j = some x) (b : Bool) (v : Int) (h0 : 0 ≤ v) (h1 : v ≤ 65536) :
    PM (w.setCell ⟨ad j, 4 + endI b, none⟩ (.int .i64 v)) B g gs ad A (upd T j (some (setEnd x b v))) ∧ Tr w (w.setCell ⟨ad j, 4 + endI b, none⟩ (.int .i64 v)) (PB g ad A T) (PB g ad A (upd T j (some (setEnd x b v)))) := by
  have hok := (h.ok j x hj hx).1
  have hr := (h.row j x hj hx).grown (setCell_grown w ⟨ad j, 4 + endI b, none⟩ (.int .i64 v)) (.inr fun q => row_ne (h.row j x hj hx) (h.pip j x hj hx) (by decide) _ q rfl)
  have ho := (h.pip j x hj hx).set (4 + endI b) (.int .i64 v)
  have ht := Tr.set (P := fun i => i = ad j ∨ blk (A j).1 = some i) (w := w) ⟨ad j, 4 + endI b, none⟩ (.int .i64 v) (.inl rfl)
  have hA : (fun k => if k = j then A j else A k) = A := by
    funext k
    by_cases e : k = j
    · subst e; rw [if_pos rfl]
    · rw [if_neg e]
  cases b
  · have := h.set (x' := setEnd x false v) (a := A j) hj hx ht ho hr ⟨hok.f64, hok.i64, h0, h1, hok.w0, hok.w1, hok.dl⟩
    rwa [hA] at this
  · have := h.set (x' := setEnd x true v) (a := A j) hj hx ht ho hr ⟨hok.f64, hok.i64, hok.r0, hok.r1, h0, h1, hok.dl⟩
    rwa [hA] at this
end
theorem p_open_no (B g gs : Nat) (ad : Nat → Nat) (A : Nat → Option Addr × Nat) (T : PT) (id : Int) (b : Bool) (w : World) (h : PM w B g gs ad A T) (hl : look T id = none) :
    Calls Try.prog 20 #[.pointer (some ⟨g, 0, none⟩), .int .i64 id, .bool b] w fun e w' => e = .returned (.int .i64 4) ∧ w = w' := by
  have HF := Lib.hid (p_find_no B g gs ad A T id w h hl)
  clear h hl
  go_enter Try.func20, Try.ntmps20
  go_wp2_with ((with_reducible go_at_call 39); (with_reducible refine (HF.out).mono ?_); rintro e w' ⟨rfl, rfl⟩)
  go_ret
  exact ⟨rfl, rfl⟩
theorem p_close_no (B g gs : Nat) (ad : Nat → Nat) (A : Nat → Option Addr × Nat) (T : PT) (id : Int) (b : Bool) (w : World) (h : PM w B g gs ad A T) (hl : look T id = none) :
    Calls Try.prog 17 #[.pointer (some ⟨g, 0, none⟩), .int .i64 id, .bool b] w fun e w' => e = .returned (.int .i64 4) ∧ w = w' := by
  have HF := Lib.hid (p_find_no B g gs ad A T id w h hl)
  clear h hl
  go_enter Try.func17, Try.ntmps17
  go_wp2_with ((with_reducible go_at_call 39); (with_reducible refine (HF.out).mono ?_); rintro e w' ⟨rfl, rfl⟩)
  go_ret
  exact ⟨rfl, rfl⟩
theorem p_read_no (B g gs : Nat) (ad : Nat → Nat) (A : Nat → Option Addr × Nat) (T : PT) (id n : Int) (w : World) (h : PM w B g gs ad A T) (hl : look T id = none) :
    Calls Try.prog 13 #[.pointer (some ⟨g, 0, none⟩), .int .i64 id, .int .i64 n] w fun e w' => e = .returned (.tuple #[.slice none 0 0, .int .i64 4]) ∧ w = w' := by
  have HF := Lib.hid (p_find_no B g gs ad A T id w h hl)
  clear h hl
  go_enter Try.func13, Try.ntmps13
  go_wp2_with ((with_reducible go_at_call 39); (with_reducible refine (HF.out).mono ?_); rintro e w' ⟨rfl, rfl⟩)
  go_ret2
  exact ⟨rfl, rfl⟩

set_option maxRecDepth 100000 in
set_option maxHeartbeats 2000000 in
theorem p_open (B g gs : Nat) (ad : Nat → Nat) (A : Nat → Option Addr × Nat) (T : PT) (j : Nat) (x : PP) (b : Bool) (w : World) (h : PM w B g gs ad A T) (hj : j < 4) (hl : T j = some x) (hb : x.r < 65536 ∧ x.w < 65536) :
    Calls Try.prog 20 #[.pointer (some ⟨g, 0, none⟩), .int .i64 (j : Int), .bool b] w fun e w' => e = .returned (.int .i64 0) ∧ PMo w w' B g gs ad A T (upd T j (some (setEnd x b (endV x b + 1)))) := by
  have HF := Lib.hid (p_find B g gs ad A T j x w h hj hl)
  have hok := (h.ok j x hj hl).1
  have hr0 := hok.r0
  have hw0 := hok.w0
  have v4 := (h.pip j x hj hl).cell 4
  have v5 := (h.pip j x hj hl).cell 5
  simp only [pcs, List.getElem?_cons_zero, List.getElem?_cons_succ] at v4 v5
  have HEN := Lib.hid (fun w => p_end b w)
  have HO := Lib.hid (fun w' (hb' : Ext w w') => show PMo w (w'.setCell ⟨ad j, 4 + endI b, none⟩ (.int .i64 (endV x b + 1))) B g gs ad A T (upd T j (some (setEnd x b (endV x b + 1)))) from by
    have := (h.keep hb').endSet hj hl b (endV x b + 1) (by unfold endV; split <;> omega) (by unfold endV; split <;> omega)
    exact ⟨A, this.1, (Tr.ext hb').trans this.2⟩)
  have HFZ := Lib.hid (fun w' (hb' : Ext w w') => ((h.pip j x hj hl).keep hb').frozen (4 + endI b))
  clear h hl hok
  cases b
  · have hw : IntKind.i64.wrap (x.r + 1) = x.r + 1 := IntWalk.i64_in _ ⟨by omega, by omega⟩
    rw [show ((endI false : Nat) : Int) = 0 from rfl] at HEN
    have HO' := Lib.hid (fun w' (hb' : Ext w w') => show PMo w (w'.setCell ⟨ad j, 4, none⟩ (.int .i64 (x.r + 1))) B g gs ad A T (upd T j (some (setEnd x false (x.r + 1)))) from HO.out w' hb')
    have HFZ' := Lib.hid (fun w' (hb' : Ext w w') => show w'.frozen? ⟨ad j, 4, none⟩ = false from HFZ.out w' hb')
    clear HO HFZ
    go_enter Try.func20, Try.ntmps20
    go_upto_region 3 with ((with_reducible go_at_call 39); (with_reducible refine (HF.out).mono ?_); rintro e w' ⟨rfl, rfl⟩)
    refine wp_region_dep_tail 11 (S := Ext) (C := Ext (w)) (by kernel_rfl) (by kernel_rfl) rfl Ext.refl (Ext.drew _) ?_
    simp only [List.take_succ_cons, List.take_zero]
    repeat (refine dep_det (by rfl) (fun K hK => ?_); go_simp; first
      | ((with_reducible refine hK _ ?_); clear hK K)
      | (rw [if_neg (by decide)]; (with_reducible refine hK _ ?_); clear hK K)
      | (refine ⟨_, fun w1 hw1 => ⟨Ext.refl w1, hw1, rfl⟩, hK _ ?_⟩; clear hK K)
      | (apply Exists.intro; refine ⟨fun w1 hw1 => ?_, hK _ ?_⟩
         first
           | (have c_v4 := cell_keep hw1 v4; go_simp; first | exact ⟨Ext.refl _, hw1, rfl⟩ | exact ⟨Ext.refl _, rfl⟩)
           | (go_at_call 42; ((with_reducible refine (HEN.out _).mono ?_); rintro e w' ⟨rfl, rfl⟩; exact ⟨_, rfl, Ext.refl _, hw1, rfl⟩))
         clear hK K))
    refine dep_nil ?_
    intro a' w' hC hE
    obtain rfl := atEnd_nil hE
    clear hE
    simp only [List.drop_succ_cons, List.drop_zero]
    have q4 := cell_keep hC v4
    have f4 := HFZ'.out _ hC
    have HX := Lib.hid (HO'.out _ hC)
    clear v4 v5 hC
    go_wp2
    go_ret
    exact ⟨rfl, HX.out⟩
  · have hw : IntKind.i64.wrap (x.w + 1) = x.w + 1 := IntWalk.i64_in _ ⟨by omega, by omega⟩
    rw [show ((endI true : Nat) : Int) = 1 from rfl] at HEN
    have HO' := Lib.hid (fun w' (hb' : Ext w w') => show PMo w (w'.setCell ⟨ad j, 5, none⟩ (.int .i64 (x.w + 1))) B g gs ad A T (upd T j (some (setEnd x true (x.w + 1)))) from HO.out w' hb')
    have HFZ' := Lib.hid (fun w' (hb' : Ext w w') => show w'.frozen? ⟨ad j, 5, none⟩ = false from HFZ.out w' hb')
    clear HO HFZ
    go_enter Try.func20, Try.ntmps20
    go_upto_region 3 with ((with_reducible go_at_call 39); (with_reducible refine (HF.out).mono ?_); rintro e w' ⟨rfl, rfl⟩)
    refine wp_region_dep_tail 11 (S := Ext) (C := Ext (w)) (by kernel_rfl) (by kernel_rfl) rfl Ext.refl (Ext.drew _) ?_
    simp only [List.take_succ_cons, List.take_zero]
    repeat (refine dep_det (by rfl) (fun K hK => ?_); go_simp; first
      | ((with_reducible refine hK _ ?_); clear hK K)
      | (rw [if_neg (by decide)]; (with_reducible refine hK _ ?_); clear hK K)
      | (refine ⟨_, fun w1 hw1 => ⟨Ext.refl w1, hw1, rfl⟩, hK _ ?_⟩; clear hK K)
      | (apply Exists.intro; refine ⟨fun w1 hw1 => ?_, hK _ ?_⟩
         first
           | (have c_v5 := cell_keep hw1 v5; go_simp; first | exact ⟨Ext.refl _, hw1, rfl⟩ | exact ⟨Ext.refl _, rfl⟩)
           | (go_at_call 42; ((with_reducible refine (HEN.out _).mono ?_); rintro e w' ⟨rfl, rfl⟩; exact ⟨_, rfl, Ext.refl _, hw1, rfl⟩))
         clear hK K))
    refine dep_nil ?_
    intro a' w' hC hE
    obtain rfl := atEnd_nil hE
    clear hE
    simp only [List.drop_succ_cons, List.drop_zero]
    have q5 := cell_keep hC v5
    have f5 := HFZ'.out _ hC
    have HX := Lib.hid (HO'.out _ hC)
    clear v4 v5 hC
    go_wp2
    go_ret
    exact ⟨rfl, HX.out⟩

end Go.Proofs.Ytebkknkgkjblnaa
