/-
  PIPES: the reference's pipes: Open, Read, Write.
-/
import Derived.Test.YtebkknkgkjblnaaPipP
namespace Go.Proofs.Ytebkknkgkjblnaa
open Go.ChangeShapes Go.WideShapes Go.ChangeAt Go.RowKit Go.Maps
attribute [local go_sem] depUpon Sp.ok

/-- What a call leaves of the reference's pipes. -/
def QMo (w w' : World) (B gq gw : Nat) (A : Nat → Option Addr × Nat) (T T' : PT) : Prop := ∃ A', QM w' B gq gw A' T' ∧ Tr w w' (QB gq A T) (QB gq A' T')
section
variable {w w' : World} {B gq gw : Nat} {A : Nat → Option Addr × Nat} {T T' : PT}
theorem QMo.same (h : QM w B gq gw A T) (hb : Ext w w') : QMo w w' B gq gw A T T := ⟨A, h.keep hb, Tr.ext hb⟩
theorem qx_end (x : PP) (a : Option Addr × Nat) (b : Bool) (v : Int) : qx (setEnd x b v) a = (qx x a).set (2 + endI b) (.int .i64 v) := by cases b <;> rfl
theorem QM.endSet (h : QM w B gq gw A T) {j : Nat} {x : PP} (hj : j < 4) (hx : T j = some x) (b : Bool) (v : Int) {w1 : World} (hb : Ext w w1) :
    QM (w1.setCell ⟨gq, 1 + j * 7 + (2 + endI b), none⟩ (.int .i64 v)) B gq gw A (upd T j (some (setEnd x b v))) ∧ Tr w (w1.setCell ⟨gq, 1 + j * 7 + (2 + endI b), none⟩ (.int .i64 v)) (QB gq A T) (QB gq A (upd T j (some (setEnd x b v)))) := by
  have hk : 2 + endI b < 7 := by cases b <;> (unfold endI; decide)
  have hd : (setEnd x b v).d = x.d := by cases b <;> rfl
  have := (h.keep hb).set hj hk hx (.int .i64 v) (qx_end x (A j) b v) (by rw [hd]; exact (h.keep hb).row j x hj hx)
  refine ⟨QM.self this.1, (Tr.ext hb).trans (this.2.mono (fun i q => .inl q) fun i hi => ?_)⟩
  rcases hi with q | ⟨k, y, hk, hy, q⟩
  · exact .inl q
  · by_cases e : k = j
    · subst e
      exact .inr (.inl (.inr ⟨k, x, hj, hx, q⟩))
    · rw [upd_ne _ _ e] at hy
      exact .inr (.inl (.inr ⟨k, y, hk, hy, q⟩))
/-- The bytes are another slice. -/
theorem QM.data (h : QM w B gq gw A T) {j : Nat} {x : PP} (hj : j < 4) (hx : T j = some x) {w1 : World} (hb : Ext w w1) (hB : B ≤ w.heap.size) {A' : Option Addr} {c' n : Nat} {d : List Int} (hr : Row w1 w.heap.size 5 1 A' n c' (u8s d)) (hn : n = d.length) :
    QMo w (w1.setCell ⟨gq, 1 + j * 7 + 1, none⟩ (.slice A' n c')) B gq gw A T (upd T j (some { x with d := d })) := by
  subst hn
  have := (h.keep hb).set (x' := { x with d := d }) (a := (A', c')) hj (show 1 < 7 by omega) hx (.slice A' d.length c') rfl (hr.mono hB)
  have t : Tr w (w1.setCell ⟨gq, 1 + j * 7 + 1, none⟩ (.slice A' d.length c')) (QB gq A T) (QB gq A T) := (Tr.ext hb).trans (this.2.mono (fun i q => .inl q) fun i hi => .inr (.inl hi))
  refine ⟨_, this.1, t.base, t.block, fun i hi => ?_⟩
  rcases hi with q | ⟨k, y, hk, hy, q⟩
  · exact .inl (.inl q)
  · by_cases e : k = j
    · subst e
      simp only [if_pos] at q
      exact .inr ((hr.at_ i q).1)
    · rw [upd_ne _ _ e] at hy
      simp only [if_neg e] at q
      exact .inl (.inr ⟨k, y, hk, hy, q⟩)
end

set_option maxRecDepth 100000 in
set_option maxHeartbeats 2000000 in
theorem q_open (B gq gw : Nat) (A : Nat → Option Addr × Nat) (T : PT) (id : Int) (b : Bool) (w : World) (h : QM w B gq gw A T) (hb : ∀ j x, j < 4 → T j = some x → x.ok ∧ x.r < 65536 ∧ x.w < 65536) :
    Calls Try.prog 24 #[.pointer (some ⟨gq, 0, none⟩), .int .i64 id, .bool b] w fun e w' => e = .returned (.int .i64 (opE T id)) ∧ QMo w w' B gq gw A T (opT T id b) := by
  have HI := Lib.hid (q_is B gq gw A T id w h)
  rcases look_cases T id with e | ⟨j, x, rfl, hj, hx, e⟩
  · rw [isB_no e] at HI
    rw [show opE T id = 4 by unfold opE; rw [e], show opT T id b = T by unfold opT; rw [e]]
    have HH := Lib.hid h
    clear h e hb
    go_enter Try.func24, Try.ntmps24
    go_wp2_with ((with_reducible go_at_call 45); (with_reducible refine (HI.out).mono ?_); rintro e w' ⟨rfl, rfl⟩)
    go_ret
    exact ⟨rfl, QMo.same HH.out (Ext.refl _)⟩
  rw [isB_some e] at HI
  rw [show opE T (j : Int) = 0 by unfold opE; rw [e], show opT T (j : Int) b = upd T j (some (setEnd x b (endV x b + 1))) by unfold opT; rw [e, Int.toNat_natCast]]
  obtain ⟨hok, hr1, hw1⟩ := hb j x hj hx
  have hr0 := hok.r0
  have hw0 := hok.w0
  have v2 := h.c_ hj (show 2 < 7 by omega)
  have v3 := h.c_ hj (show 3 < 7 by omega)
  rw [qv_some hx] at v2 v3
  simp only [qx, List.getElem?_cons_zero, List.getElem?_cons_succ] at v2 v3
  have j0' : (0 : Int) ≤ (j : Int) := by omega
  have j1' : (j : Int) < 4 := by omega
  have HO := Lib.hid (fun w1 (h1 : Ext w w1) => h.endSet hj hx b (endV x b + 1) h1)
  have HFZ := Lib.hid (fun w' (hb' : Ext w w') k => (h.own.keep hb').frozen k)
  clear h e hx hb hok
  cases b
  · have hw : IntKind.i64.wrap (x.r + 1) = x.r + 1 := IntWalk.i64_in _ ⟨by omega, by omega⟩
    go_enter Try.func24, Try.ntmps24
    go_wp2_with ((with_reducible go_at_call 45); (with_reducible refine (HI.out).mono ?_); rintro e w' ⟨rfl, rfl⟩)
    refine wp_region_dep_tail 12 (S := Ext) (C := Ext (w)) (by kernel_rfl) (by kernel_rfl) rfl Ext.refl (Ext.drew _) ?_
    simp only [List.take_succ_cons, List.take_zero]
    repeat (refine dep_det (by rfl) (fun K hK => ?_); go_simp; first
      | ((with_reducible refine hK _ ?_); clear hK K)
      | (rw [if_neg (by decide)]; (with_reducible refine hK _ ?_); clear hK K)
      | (refine ⟨_, fun w1 hw1 => ⟨Ext.refl w1, hw1, rfl⟩, hK _ ?_⟩; clear hK K)
      | (apply Exists.intro; refine ⟨fun w1 hw1 => ?_, hK _ ?_⟩
         first
           | (have c_v2 := cell_keep hw1 v2; go_simp; first | exact ⟨Ext.refl _, hw1, rfl⟩ | exact ⟨Ext.refl _, rfl⟩)
         clear hK K))
    refine dep_nil ?_
    intro a' w' hC hE
    obtain rfl := atEnd_nil hE
    clear hE
    simp only [List.drop_succ_cons, List.drop_zero]
    have q2 := cell_keep hC v2
    have f2 : w'.frozen? ⟨gq, 1 + j * 7 + 2, none⟩ = false := HFZ.out _ hC _
    have HX := Lib.hid (HO.out _ hC)
    clear v2 v3 hC
    go_wp2
    go_ret
    exact ⟨rfl, A, HX.out⟩
  · have hw : IntKind.i64.wrap (x.w + 1) = x.w + 1 := IntWalk.i64_in _ ⟨by omega, by omega⟩
    go_enter Try.func24, Try.ntmps24
    go_wp2_with ((with_reducible go_at_call 45); (with_reducible refine (HI.out).mono ?_); rintro e w' ⟨rfl, rfl⟩)
    refine wp_region_dep_tail 12 (S := Ext) (C := Ext (w)) (by kernel_rfl) (by kernel_rfl) rfl Ext.refl (Ext.drew _) ?_
    simp only [List.take_succ_cons, List.take_zero]
    repeat (refine dep_det (by rfl) (fun K hK => ?_); go_simp; first
      | ((with_reducible refine hK _ ?_); clear hK K)
      | (rw [if_neg (by decide)]; (with_reducible refine hK _ ?_); clear hK K)
      | (refine ⟨_, fun w1 hw1 => ⟨Ext.refl w1, hw1, rfl⟩, hK _ ?_⟩; clear hK K)
      | (apply Exists.intro; refine ⟨fun w1 hw1 => ?_, hK _ ?_⟩
         first
           | (have c_v3 := cell_keep hw1 v3; go_simp; first | exact ⟨Ext.refl _, hw1, rfl⟩ | exact ⟨Ext.refl _, rfl⟩)
         clear hK K))
    refine dep_nil ?_
    intro a' w' hC hE
    obtain rfl := atEnd_nil hE
    clear hE
    simp only [List.drop_succ_cons, List.drop_zero]
    have q3 := cell_keep hC v3
    have f3 : w'.frozen? ⟨gq, 1 + j * 7 + 3, none⟩ = false := HFZ.out _ hC _
    have HX := Lib.hid (HO.out _ hC)
    clear v2 v3 hC
    go_wp2
    go_ret
    exact ⟨rfl, A, HX.out⟩

set_option maxRecDepth 100000 in
set_option maxHeartbeats 4000000 in
theorem q_write (B gq gw : Nat) (A : Nat → Option Addr × Nat) (T : PT) (id : Int) (Bd : Option Addr) (n cb : Nat) (bs : List Int) (w : World) (h : QM w B gq gw A T) (hok : ∀ j x, j < 4 → T j = some x → x.ok) (hr : Rd w Bd (u8s bs)) (hn : bs.length = n) (hB : B ≤ w.heap.size) :
    Calls Try.prog 29 #[.pointer (some ⟨gq, 0, none⟩), .int .i64 id, .slice Bd n cb] w fun e w' => e = .returned (.int .i64 (wrE T id n)) ∧ QMo w w' B gq gw A T (wrT T id bs) := by
  have HI := Lib.hid (q_is B gq gw A T id w h)
  rcases look_cases T id with e | ⟨j, x, rfl, hj, hx, e⟩
  · rw [isB_no e] at HI
    rw [show wrE T id n = 4 by unfold wrE; rw [e], show wrT T id bs = T by unfold wrT; rw [e]]
    have HH := Lib.hid h
    clear h e hok hr
    go_enter Try.func29, Try.ntmps29
    go_wp2_with ((with_reducible go_at_call 45); (with_reducible refine (HI.out).mono ?_); rintro e w' ⟨rfl, rfl⟩)
    go_ret
    exact ⟨rfl, QMo.same HH.out (Ext.refl _)⟩
  rw [isB_some e] at HI
  rw [show wrE T (j : Int) n = writeE x n by unfold wrE; rw [e], show wrT T (j : Int) bs = writeT T j x bs by unfold wrT; rw [e, Int.toNat_natCast]]
  have v1 := h.c_ hj (show 1 < 7 by omega)
  have v2 := h.c_ hj (show 2 < 7 by omega)
  have v3 := h.c_ hj (show 3 < 7 by omega)
  rw [qv_some hx] at v1 v2 v3
  simp only [qx, List.getElem?_cons_zero, List.getElem?_cons_succ] at v1 v2 v3
  have j0' : (0 : Int) ≤ (j : Int) := by omega
  have j1' : (j : Int) < 4 := by omega
  have HE := Lib.hid (show writeE x n = if x.w = 0 then 4 else if x.r = 0 then 16 else if n = 0 then 0 else if 64 < n then 19 else if 64 < n + x.d.length then 17 else 0 from rfl)
  have HNO := Lib.hid (fun (q : writeE x n ≠ 0) => show QMo w w B gq gw A T (writeT T j x bs) from by
    unfold writeT
    rw [hn, if_neg q]
    exact QMo.same h (Ext.refl _))
  have H00 := Lib.hid (fun (q : n = 0) => show QMo w w B gq gw A T (writeT T j x bs) from by
    subst q
    have : bs = [] := List.eq_nil_of_length_eq_zero hn
    subst this
    unfold writeT
    rw [List.append_nil]
    have e : upd T j (some { x with d := x.d }) = T := upd_self hx
    rw [e]
    split <;> exact QMo.same h (Ext.refl _))
  have HT := Lib.hid (fun (q : writeE x n = 0) => show writeT T j x bs = upd T j (some { x with d := x.d ++ bs }) from by unfold writeT; rw [hn, if_pos q])
  have hdl := (hok j x hj hx).dl
  have HH := Lib.hid h
  have HX := Lib.hid hx
  have HRB := Lib.hid hr
  have HRX := Lib.hid (h.row j x hj hx)
  clear h hr hok e hx
  by_cases h1 : x.w = 0
  · have E := Lib.hid (show writeE x n = 4 by rw [HE.out, if_pos h1])
    have t1 : (x.w == 0) = true := by simp [h1]
    clear h1
    go_enter Try.func29, Try.ntmps29
    go_wp2_with ((with_reducible go_at_call 45); (with_reducible refine (HI.out).mono ?_); rintro e w' ⟨rfl, rfl⟩)
    go_ret
    exact ⟨by rw [E.out]; rfl, HNO.out (by rw [E.out]; omega)⟩
  have t1 : (x.w == 0) = false := by simp [h1]
  by_cases h2 : x.r = 0
  · have E := Lib.hid (show writeE x n = 16 by rw [HE.out, if_neg h1, if_pos h2])
    have t2 : (x.r == 0) = true := by simp [h2]
    clear h1 h2
    go_enter Try.func29, Try.ntmps29
    go_wp2_with ((with_reducible go_at_call 45); (with_reducible refine (HI.out).mono ?_); rintro e w' ⟨rfl, rfl⟩)
    go_ret
    exact ⟨by rw [E.out]; rfl, HNO.out (by rw [E.out]; omega)⟩
  have t2 : (x.r == 0) = false := by simp [h2]
  by_cases h3 : n = 0
  · have E := Lib.hid (show writeE x n = 0 by rw [HE.out, if_neg h1, if_neg h2, if_pos h3])
    have t3 : ((n : Int) == 0) = true := by simp [h3]
    clear h1 h2
    go_enter Try.func29, Try.ntmps29
    go_wp2_with ((with_reducible go_at_call 45); (with_reducible refine (HI.out).mono ?_); rintro e w' ⟨rfl, rfl⟩)
    go_ret
    exact ⟨by rw [E.out]; rfl, H00.out h3⟩
  have t3 : ((n : Int) == 0) = false := by simp [h3]
  by_cases h4 : 64 < n
  · have E := Lib.hid (show writeE x n = 19 by rw [HE.out, if_neg h1, if_neg h2, if_neg h3, if_pos h4])
    have t4 : decide ((64 : Int) < (n : Int)) = true := decide_eq_true (by omega)
    have t4' : (64 : Int) < (n : Int) := by omega
    clear h1 h2 h3
    go_enter Try.func29, Try.ntmps29
    go_wp2_with ((with_reducible go_at_call 45); (with_reducible refine (HI.out).mono ?_); rintro e w' ⟨rfl, rfl⟩)
    go_ret
    exact ⟨by rw [E.out]; rfl, HNO.out (by rw [E.out]; omega)⟩
  have t4 : decide ((64 : Int) < (n : Int)) = false := decide_eq_false (by omega)
  have t4' : (n : Int) ≤ 64 := by omega
  have hw : IntKind.i64.wrap (64 - (x.d.length : Int)) = 64 - (x.d.length : Int) := IntWalk.i64_in _ ⟨by omega, by omega⟩
  by_cases h5 : 64 < n + x.d.length
  · have E := Lib.hid (show writeE x n = 17 by rw [HE.out, if_neg h1, if_neg h2, if_neg h3, if_neg h4, if_pos h5])
    have t5 : decide (64 - (x.d.length : Int) < (n : Int)) = true := decide_eq_true (by omega)
    have t5' : 64 - (x.d.length : Int) < (n : Int) := by omega
    clear h1 h2 h3 h4
    go_enter Try.func29, Try.ntmps29
    go_wp2_with ((with_reducible go_at_call 45); (with_reducible refine (HI.out).mono ?_); rintro e w' ⟨rfl, rfl⟩)
    go_ret
    exact ⟨by rw [E.out]; rfl, HNO.out (by rw [E.out]; omega)⟩
  have t5 : decide (64 - (x.d.length : Int) < (n : Int)) = false := decide_eq_false (by omega)
  have t5' : (n : Int) ≤ 64 - (x.d.length : Int) := by omega
  have E := Lib.hid (show writeE x n = 0 by rw [HE.out, if_neg h1, if_neg h2, if_neg h3, if_neg h4, if_neg h5])
  obtain ⟨i0, hi0, hz0, hz1, hz2⟩ := info_parts info_byte
  have HIB := Lib.hid hi0
  have LT := Lib.hid (by rw [u8s_len]; omega : (u8s x.d).length = x.d.length * 1)
  have LD := Lib.hid (by rw [u8s_len, hn]; omega : (u8s bs).length = n * 1)
  have HLE := Lib.hid (show (x.d ++ bs).length = x.d.length + n by rw [List.length_append, hn])
  clear h1 h2 h3 h4 h5 hi0
  go_enter Try.func29, Try.ntmps29
  go_wp2_with ((with_reducible go_at_call 45); (with_reducible refine (HI.out).mono ?_); rintro e w' ⟨rfl, rfl⟩)
  refine wp_region_dep_tail 16 (S := Rx w.heap.size 5 1 x.d.length n (u8s x.d) (u8s x.d ++ u8s bs)) (C := Ext w) (by kernel_rfl) (by kernel_rfl) rfl Rx.refl (Ext.drew _) ?_
  simp only [List.take_succ_cons, List.take_zero]
  repeat (refine dep_det (by rfl) (fun K hK => ?_); go_simp; first
    | ((with_reducible refine hK _ ?_); clear hK K)
    | (rw [if_neg (by decide)]; (with_reducible refine hK _ ?_); clear hK K)
    | (refine ⟨_, fun w1 hw1 => ⟨Rx.refl w1, hw1, rfl⟩, hK _ ?_⟩; clear hK K)
    | (apply Exists.intro; refine ⟨fun w1 hw1 => ?_, hK _ ?_⟩
       first
         | (have c_v1 := cell_keep hw1 v1; go_simp; first | exact ⟨Rx.refl w1, hw1, rfl⟩ | exact ⟨Rx.refl w1, rfl⟩)
       clear hK K))
  refine dep_var (RwV w.heap.size 5 1 x.d.length (u8s x.d)) 56 rfl (by rfl) RwV.one (by go_simp) (fun w1 hw1 => ?_) ?_
  · obtain ⟨A', c', w', hrun, hh⟩ := rx_first (P := Try.prog) w w1 32 32 5 i0 _ 1 1 Try.underlying32 HIB.out hz0 hz1 hz2 rfl (by omega) hw1 (A j).1 x.d.length (A j).2 (u8s x.d) (u8s x.d ++ u8s bs) n LT.out (HRX.out.keep hw1).rd (u8s_one _) (by omega) (by omega)
    exact dep_append rfl hrun hh
  repeat (refine dep_det (by rfl) (fun K hK => ?_); go_simp; first
    | ((with_reducible refine hK _ ?_); clear hK K)
    | (rw [if_neg (by decide)]; (with_reducible refine hK _ ?_); clear hK K)
    | (refine ⟨_, fun w1 hw1 => ⟨Rx.refl w1, hw1, rfl⟩, hK _ ?_⟩; clear hK K)
    | (apply Exists.intro; refine ⟨fun w1 hw1 => ?_, hK _ ?_⟩
       first
         | (have c_v1 := cell_keep hw1 v1; go_simp; first | exact ⟨Rx.refl w1, hw1, rfl⟩ | exact ⟨Rx.refl w1, rfl⟩)
       clear hK K))
  refine dep_var1 56 _ (RwV w.heap.size 5 1 (x.d.length + n) (u8s x.d ++ u8s bs)) 58 rfl (by rfl) (by intro V' h; simpa using h) (List.mem_cons_self ..) (by first | (simp; done) | simp [Act.put]) RwV.two (fun w1 v hw1 hV => ⟨by go_simp, ?_⟩) ?_
  · obtain ⟨A', c', w', hrun, hh⟩ := rx_second (P := Try.prog) w w1 32 32 5 i0 _ 1 1 Try.underlying32 HIB.out hz0 hz1 hz2 rfl (by omega) hw1 Bd x.d.length n cb (u8s x.d) (u8s bs) v hV LD.out (HRB.out.keep hw1) (u8s_one _) (by omega) (by omega)
    exact dep_append rfl hrun hh
  repeat (refine dep_det (by rfl) (fun K hK => ?_); go_simp; first
    | ((with_reducible refine hK _ ?_); clear hK K)
    | (rw [if_neg (by decide)]; (with_reducible refine hK _ ?_); clear hK K)
    | (refine ⟨_, fun w1 hw1 => ⟨Rx.refl w1, hw1, rfl⟩, hK _ ?_⟩; clear hK K)
    | (apply Exists.intro; refine ⟨fun w1 hw1 => ?_, hK _ ?_⟩
       first
         | (have c_v1 := cell_keep hw1 v1; go_simp; first | exact ⟨Rx.refl w1, hw1, rfl⟩ | exact ⟨Rx.refl w1, rfl⟩)
       clear hK K))
  refine dep_nil ?_
  intro a' w7 hC hE
  obtain ⟨v, ⟨A2, d2, rfl, r2⟩, hE⟩ := atEnd_cons hE (by simp) (by first | (simp; done) | simp [Act.put])
  obtain ⟨v, ⟨A1, d1, rfl, r1⟩, hE⟩ := atEnd_cons hE (by simp) (by first | (simp; done) | simp [Act.put])
  obtain rfl := atEnd_nil hE
  clear hE
  simp only [List.drop_succ_cons, List.drop_zero]
  have v9 := cell_keep hC v1
  have f9 := (HH.out.own.keep hC).frozen (1 + j * 7 + 1)
  have HST := Lib.hid (HH.out.data hj HX.out hC hB (d := x.d ++ bs) (by rw [← u8s_app]; exact r2) HLE.out.symm)
  clear r1 r2
  go_wp2
  go_ret
  exact ⟨by rw [E.out]; rfl, by rw [HT.out E.out]; exact HST.out⟩

/-- What the reference's Read answers and leaves. -/
structure QRead (w w' : World) (B gq gw : Nat) (A : Nat → Option Addr × Nat) (T : PT) (j : Nat) (x : PP) (er : Int) (k : Nat) (e : Ending) : Prop where
  out : ∃ Ar cr, e = .returned (.tuple #[.slice Ar k cr, .int .i64 er]) ∧ Row w' w.heap.size 5 1 Ar k cr (u8s (x.d.take k)) ∧ QMo w w' B gq gw A T (upd T j (some { x with d := x.d.drop k }))

set_option maxRecDepth 100000 in
set_option maxHeartbeats 4000000 in
theorem q_read0 (B gq gw : Nat) (A : Nat → Option Addr × Nat) (T : PT) (j : Nat) (x : PP) (n : Int) (w : World) (h : QM w B gq gw A T) (hj : j < 4) (hx : T j = some x) (hdl : x.d.length ≤ 64) (hB : B ≤ w.heap.size) :
    Calls Try.prog 26 #[.pointer (some ⟨gq, 0, none⟩), .int .i64 (j : Int), .int .i64 n] w fun e w' => QRead w w' B gq gw A T j x (readE x n) (readK x n) e := by
  have HI := Lib.hid (q_is B gq gw A T (j : Int) w h)
  rw [isB_some (show look T (j : Int) = some x by rw [look_at hj]; exact hx)] at HI
  have v1 := h.c_ hj (show 1 < 7 by omega)
  have v2 := h.c_ hj (show 2 < 7 by omega)
  have v3 := h.c_ hj (show 3 < 7 by omega)
  rw [qv_some hx] at v1 v2 v3
  simp only [qx, List.getElem?_cons_zero, List.getElem?_cons_succ] at v1 v2 v3
  have j0' : (0 : Int) ≤ (j : Int) := by omega
  have j1' : (j : Int) < 4 := by omega
  have HE := Lib.hid (show readE x n = if x.r = 0 then 4 else if n < 0 then 19 else if x.d.length = 0 ∧ (n = 0 ∨ x.w = 0) then 0 else if x.d.length = 0 then 17 else 0 from rfl)
  have HK := Lib.hid (show readK x n = if x.r = 0 ∨ n < 0 then 0 else min n.toNat x.d.length from rfl)
  have H0 := Lib.hid (show ∀ er : Int, QRead w w B gq gw A T j x er 0 (.returned (.tuple #[.slice none 0 0, .int .i64 er])) from fun er => ⟨⟨none, 0, rfl, Row.nil _ _ _ _, by
    have e : upd T j (some { x with d := x.d.drop 0 }) = T := upd_self hx
    rw [e]; exact QMo.same h (Ext.refl _)⟩⟩)
  have HH := Lib.hid h
  have HX := Lib.hid hx
  have HRX := Lib.hid (h.row j x hj hx)
  clear h hx
  by_cases h1 : x.r = 0
  · have E := Lib.hid (show readE x n = 4 by rw [HE.out, if_pos h1])
    have K := Lib.hid (show readK x n = 0 by rw [HK.out, if_pos (.inl h1)])
    have t1 : (x.r == 0) = true := by simp [h1]
    clear h1
    go_enter Try.func26, Try.ntmps26
    go_wp2_with ((with_reducible go_at_call 45); (with_reducible refine (HI.out).mono ?_); rintro e w' ⟨rfl, rfl⟩)
    go_ret2
    rw [E.out, K.out]; exact H0.out 4
  have t1 : (x.r == 0) = false := by simp [h1]
  by_cases h2 : n < 0
  · have E := Lib.hid (show readE x n = 19 by rw [HE.out, if_neg h1, if_pos h2])
    have K := Lib.hid (show readK x n = 0 by rw [HK.out, if_pos (.inr h2)])
    have t2 : decide (n < 0) = true := by simp [h2]
    clear h1
    go_enter Try.func26, Try.ntmps26
    go_wp2_with ((with_reducible go_at_call 45); (with_reducible refine (HI.out).mono ?_); rintro e w' ⟨rfl, rfl⟩)
    go_ret2
    rw [E.out, K.out]; exact H0.out 19
  have t2 : decide (n < 0) = false := by simp [h2]
  have t20 : 0 ≤ n := by omega
  have hk : readK x n = min n.toNat x.d.length := by rw [HK.out, if_neg (fun q => q.elim h1 h2)]
  by_cases h3 : x.d.length = 0
  · have K := Lib.hid (show readK x n = 0 by rw [hk, h3]; exact Nat.min_zero _)
    rw [h3] at v1
    clear hk
    by_cases h4 : n = 0
    · have E := Lib.hid (show readE x n = 0 by rw [HE.out, if_neg h1, if_neg h2, if_pos ⟨h3, .inl h4⟩])
      subst h4
      clear h1
      go_enter Try.func26, Try.ntmps26
      go_wp2_with ((with_reducible go_at_call 45); (with_reducible refine (HI.out).mono ?_); rintro e w' ⟨rfl, rfl⟩)
      go_ret2
      rw [E.out, K.out]; exact H0.out 0
    have t4 : (n == 0) = false := by simp [h4]
    by_cases h5 : x.w = 0
    · have E := Lib.hid (show readE x n = 0 by rw [HE.out, if_neg h1, if_neg h2, if_pos ⟨h3, .inr h5⟩])
      have t5 : (x.w == 0) = true := by simp [h5]
      clear h1 h5
      go_enter Try.func26, Try.ntmps26
      go_wp2_with ((with_reducible go_at_call 45); (with_reducible refine (HI.out).mono ?_); rintro e w' ⟨rfl, rfl⟩)
      go_ret2
      rw [E.out, K.out]; exact H0.out 0
    · have E := Lib.hid (show readE x n = 17 by rw [HE.out, if_neg h1, if_neg h2, if_neg (fun q => q.2.elim h4 h5), if_pos h3])
      have t5 : (x.w == 0) = false := by simp [h5]
      clear h1 h5
      go_enter Try.func26, Try.ntmps26
      go_wp2_with ((with_reducible go_at_call 45); (with_reducible refine (HI.out).mono ?_); rintro e w' ⟨rfl, rfl⟩)
      go_ret2
      rw [E.out, K.out]; exact H0.out 17
  have E := Lib.hid (show readE x n = 0 by rw [HE.out, if_neg h1, if_neg h2, if_neg (fun q => h3 q.1), if_neg h3])
  have t3 : ((x.d.length : Int) == 0) = false := beq_eq_false_iff_ne.2 (by omega)
  have hmin : min n (x.d.length : Int) = ((readK x n : Nat) : Int) := by rw [hk]; omega
  have hkl : readK x n ≤ x.d.length := by rw [hk]; exact Nat.min_le_right ..
  generalize readK x n = k at *
  obtain ⟨i0, hi0, hz0, hz1, hz2⟩ := info_parts info_byte
  have HIB := Lib.hid hi0
  obtain ⟨ga, hga⟩ := HRX.out.addr (by omega)
  have hle := Row.le' HRX.out
  have LD := Lib.hid (by rw [u8s_len, List.length_drop]; omega : (u8s (x.d.drop k)).length = (x.d.length - k) * 1)
  have LT := Lib.hid (by rw [u8s_len, List.length_take]; omega : (u8s (x.d.take k)).length = k * 1)
  have HUD := Lib.hid (show x.d.length - k = (x.d.drop k).length from (List.length_drop ..).symm)
  have HRA := Lib.hid (fun w1 (h1 : Ext w w1) => show Rd w1 (some ⟨ga, 0, none⟩) (u8s x.d) from by have := (HRX.out.keep h1).rd; rwa [hga] at this)
  have HTK := Lib.hid (fun w1 (h1 : Ext w w1) => show Rd w1 (some ⟨ga, 0, none⟩) (u8s (x.d.take k)) from by rw [u8s_take]; exact (HRA.out w1 h1).take k)
  rw [hga] at v1
  have kk1 : (k : Int) ≤ (x.d.length : Int) := by omega
  have kk2 : (x.d.length : Int) ≤ ((A j).2 : Int) := by omega
  have kk3 : (k : Int) ≤ ((A j).2 : Int) := by omega
  have kk0 : (0 : Int) ≤ (k : Int) := by omega
  clear h1 hk HK hi0
  by_cases hcc : (A j).2 = k
  · have hd0 : x.d.drop k = [] := List.drop_eq_nil_of_le (by omega)
    have hlk : x.d.length = k := by omega
    have HDP := Lib.hid (fun w1 (_ : Ext w w1) => show Rd w1 (some ⟨ga, 0, none⟩) (u8s (x.d.drop k)) from by rw [hd0]; exact Rd.nil _ _)
    have E0 := Lib.hid (show x.d.length - k = 0 by omega)
    rw [E0.out] at LD HUD
    rw [hlk, hcc] at v1
    rw [hlk] at hmin t3
    clear hd0 kk1 kk2 kk3
    go_enter Try.func26, Try.ntmps26
    go_wp2_with ((with_reducible go_at_call 45); (with_reducible refine (HI.out).mono ?_); rintro e w' ⟨rfl, rfl⟩)
    refine wp_region_dep_tail 10 (S := Rx w.heap.size 5 1 0 0 (u8s (x.d.drop k)) (u8s (x.d.drop k))) (C := Ext w) (by kernel_rfl) (by kernel_rfl) rfl Rx.refl (Ext.drew _) ?_
    simp only [List.take_succ_cons, List.take_zero]
    repeat (refine dep_det (by rfl) (fun K hK => ?_); go_simp; first
      | ((with_reducible refine hK _ ?_); clear hK K)
      | (rw [if_neg (by decide)]; (with_reducible refine hK _ ?_); clear hK K)
      | (refine ⟨_, fun w1 hw1 => ⟨Rx.refl w1, hw1, rfl⟩, hK _ ?_⟩; clear hK K)
      | (apply Exists.intro; refine ⟨fun w1 hw1 => ?_, hK _ ?_⟩
         first
           | (have c_v1 := cell_keep hw1 v1; go_simp; first | exact ⟨Rx.refl w1, hw1, rfl⟩ | exact ⟨Rx.refl w1, rfl⟩)
         clear hK K))
    refine dep_nil ?_
    intro a' w7 hC hE
    obtain rfl := atEnd_nil hE
    clear hE
    simp only [List.drop_succ_cons, List.drop_zero]
    have v9 := cell_keep hC v1
    have f9 := (HH.out.own.keep hC).frozen (1 + j * 7 + 1)
    have HST := Lib.hid (HH.out.data hj HX.out hC hB (d := x.d.drop k) (A' := none) (c' := 0) (n := 0) (by rw [List.eq_nil_of_length_eq_zero HUD.out.symm]; exact Row.nil _ _ _ _) HUD.out)
    have z7 := hC.size
    have HT7 := Lib.hid (show Rd (w7.setCell ⟨gq, 1 + j * 7 + 1, none⟩ (.slice none 0 0)) (some ⟨ga, 0, none⟩) (u8s (x.d.take k)) from fun q v hq => by
      obtain ⟨b', o', e, hc⟩ := HTK.out w7 hC q v hq
      refine ⟨b', o', e, ?_⟩
      rw [World.cell?_setCell_other]
      · exact hc
      · intro q2
        injection q2 with q3
        injection e with e; injection e with e1
        exact row_ne HRX.out HH.out.own (by decide) ga (by rw [hga]; rfl) (by omega))
    go_wp2_with (at_builtin; refine wpl_append _ rfl (.const (.slice none 0 0)) (.tmp 64) 32 rfl 5 i0 _ 1 1 Try.underlying32 HIB.out hz0 hz1 hz2 rfl (by omega) w.heap.size none 0 0 [] rfl (Row.nil _ _ _ _) (some ⟨ga, 0, none⟩) k k (u8s (x.d.take k)) rfl LT.out HT7.out (u8s_one _) k (u8s (x.d.take k)) (by omega) (List.nil_append _) (by omega) (by omega) (by simp; omega) ?_; intro A8 c8 w8 o8 g8 k8)
    go_ret2
    obtain ⟨A9, m1, m2⟩ := HST.out
    have b8 : Ext (w7.setCell ⟨gq, 1 + j * 7 + 1, none⟩ (.slice none 0 0)) w8 := (Below.refl _ _).grown g8 (Nat.le_refl _) (fun q hq => by cases hq)
    rw [E.out]
    exact ⟨⟨_, _, rfl, o8, A9, m1.keep b8, m2.trans (Tr.ext b8)⟩⟩
  · have kk4 : (k : Int) < ((A j).2 : Int) := by omega
    have hne : ¬ (A j).2 - k = 0 := by omega
    have HDP := Lib.hid (fun w1 (h1 : Ext w w1) => show Rd w1 (some ⟨ga, k, none⟩) (u8s (x.d.drop k)) from by
      have := (HRA.out w1 h1).dropAt k
      rwa [← u8s_drop, Nat.zero_add] at this)
    generalize (A j).2 = ca at *
    go_enter Try.func26, Try.ntmps26
    go_wp2_with ((with_reducible go_at_call 45); (with_reducible refine (HI.out).mono ?_); rintro e w' ⟨rfl, rfl⟩)
    refine wp_region_dep_tail 10 (S := Rx w.heap.size 5 1 (x.d.length - k) 0 (u8s (x.d.drop k)) (u8s (x.d.drop k))) (C := Ext w) (by kernel_rfl) (by kernel_rfl) rfl Rx.refl (Ext.drew _) ?_
    simp only [List.take_succ_cons, List.take_zero]
    repeat (refine dep_det (by rfl) (fun K hK => ?_); go_simp; first
      | ((with_reducible refine hK _ ?_); clear hK K)
      | (rw [if_neg (by decide)]; (with_reducible refine hK _ ?_); clear hK K)
      | (refine ⟨_, fun w1 hw1 => ⟨Rx.refl w1, hw1, rfl⟩, hK _ ?_⟩; clear hK K)
      | (apply Exists.intro; refine ⟨fun w1 hw1 => ?_, hK _ ?_⟩
         first
           | (have c_v1 := cell_keep hw1 v1; go_simp; first | exact ⟨Rx.refl w1, hw1, rfl⟩ | exact ⟨Rx.refl w1, rfl⟩)
         clear hK K))
    refine dep_var (RwV w.heap.size 5 1 (x.d.length - k) (u8s (x.d.drop k))) 57 rfl (by rfl) RwV.one (by go_simp) (fun w1 hw1 => ?_) ?_
    · obtain ⟨A', c', w', hrun, hh⟩ := rx_first (P := Try.prog) w w1 32 32 5 i0 _ 1 1 Try.underlying32 HIB.out hz0 hz1 hz2 rfl (by omega) hw1 (some ⟨ga, k, none⟩) (x.d.length - k) (ca - k) (u8s (x.d.drop k)) (u8s (x.d.drop k)) 0 LD.out (HDP.out w1 hw1) (u8s_one _) (by omega) (by omega)
      exact dep_append rfl hrun hh
    repeat (refine dep_det (by rfl) (fun K hK => ?_); go_simp; first
      | ((with_reducible refine hK _ ?_); clear hK K)
      | (rw [if_neg (by decide)]; (with_reducible refine hK _ ?_); clear hK K)
      | (refine ⟨_, fun w1 hw1 => ⟨Rx.refl w1, hw1, rfl⟩, hK _ ?_⟩; clear hK K)
      | (apply Exists.intro; refine ⟨fun w1 hw1 => ?_, hK _ ?_⟩
         first
           | (have c_v1 := cell_keep hw1 v1; go_simp; first | exact ⟨Rx.refl w1, hw1, rfl⟩ | exact ⟨Rx.refl w1, rfl⟩)
         clear hK K))
    refine dep_nil ?_
    intro a' w7 hC hE
    obtain ⟨v, ⟨A2, d2, rfl, r2⟩, hE⟩ := atEnd_cons hE (by simp) (by first | (simp; done) | simp [Act.put])
    obtain rfl := atEnd_nil hE
    clear hE
    simp only [List.drop_succ_cons, List.drop_zero]
    have v9 := cell_keep hC v1
    have f9 := (HH.out.own.keep hC).frozen (1 + j * 7 + 1)
    have HST := Lib.hid (HH.out.data hj HX.out hC hB (d := x.d.drop k) r2 HUD.out)
    have z7 := hC.size
    have HT7 := Lib.hid (show Rd (w7.setCell ⟨gq, 1 + j * 7 + 1, none⟩ (.slice A2 (x.d.length - k) d2)) (some ⟨ga, 0, none⟩) (u8s (x.d.take k)) from fun q v hq => by
      obtain ⟨b', o', e, hc⟩ := HTK.out w7 hC q v hq
      refine ⟨b', o', e, ?_⟩
      rw [World.cell?_setCell_other]
      · exact hc
      · intro q2
        injection q2 with q3
        injection e with e; injection e with e1
        exact row_ne HRX.out HH.out.own (by decide) ga (by rw [hga]; rfl) (by omega))
    clear r2
    go_wp2_with (at_builtin; refine wpl_append _ rfl (.const (.slice none 0 0)) (.tmp 64) 32 rfl 5 i0 _ 1 1 Try.underlying32 HIB.out hz0 hz1 hz2 rfl (by omega) w.heap.size none 0 0 [] rfl (Row.nil _ _ _ _) (some ⟨ga, 0, none⟩) k ca (u8s (x.d.take k)) rfl LT.out HT7.out (u8s_one _) k (u8s (x.d.take k)) (by omega) (List.nil_append _) (by omega) (by omega) (by simp; omega) ?_; intro A8 c8 w8 o8 g8 k8)
    go_ret2
    obtain ⟨A9, m1, m2⟩ := HST.out
    have b8 : Ext (w7.setCell ⟨gq, 1 + j * 7 + 1, none⟩ (.slice A2 (x.d.length - k) d2)) w8 := (Below.refl _ _).grown g8 (Nat.le_refl _) (fun q hq => by cases hq)
    rw [E.out]
    exact ⟨⟨_, _, rfl, o8, A9, m1.keep b8, m2.trans (Tr.ext b8)⟩⟩
theorem q_read (B gq gw : Nat) (A : Nat → Option Addr × Nat) (T : PT) (id n : Int) (w : World) (h : QM w B gq gw A T) (hok : ∀ j x, j < 4 → T j = some x → x.ok) (hB : B ≤ w.heap.size) :
    Calls Try.prog 26 #[.pointer (some ⟨gq, 0, none⟩), .int .i64 id, .int .i64 n] w fun e w' => ∃ Ar cr, e = .returned (.tuple #[.slice Ar (rdB T id n).length cr, .int .i64 (rdE T id n)]) ∧ Row w' w.heap.size 5 1 Ar (rdB T id n).length cr (u8s (rdB T id n)) ∧ QMo w w' B gq gw A T (rdT T id n) := by
  rcases look_cases T id with e | ⟨j, x, rfl, hj, hx, e⟩
  · rw [show rdE T id n = 4 by unfold rdE; rw [e], show rdT T id n = T by unfold rdT; rw [e], show rdB T id n = [] by unfold rdB; rw [e]]
    have HI := Lib.hid (q_is B gq gw A T id w h)
    rw [isB_no e] at HI
    have HH := Lib.hid h
    clear h e hok
    go_enter Try.func26, Try.ntmps26
    go_wp2_with ((with_reducible go_at_call 45); (with_reducible refine (HI.out).mono ?_); rintro e w' ⟨rfl, rfl⟩)
    go_ret2
    exact ⟨none, 0, rfl, Row.nil _ _ _ _, QMo.same HH.out (Ext.refl _)⟩
  · have hk : readK x n ≤ x.d.length := by
      unfold readK
      split
      · omega
      · exact Nat.min_le_right ..
    rw [show rdE T (j : Int) n = readE x n by unfold rdE; rw [e], show rdT T (j : Int) n = upd T j (some { x with d := x.d.drop (readK x n) }) by unfold rdT; rw [e, Int.toNat_natCast], show rdB T (j : Int) n = x.d.take (readK x n) by unfold rdB; rw [e],
      show (x.d.take (readK x n)).length = readK x n by rw [List.length_take]; omega]
    exact (q_read0 B gq gw A T j x n w h hj hx (hok j x hj hx).dl hB).mono fun _ _ q => q.out

end Go.Proofs.Ytebkknkgkjblnaa
