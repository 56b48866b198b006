/-
  PIPES: the reference's pipes with their slab in one word; Make, Close.
-/
import Derived.Test.YtebkknkgkjblnaaPipQ
namespace Go.Proofs.Ytebkknkgkjblnaa
open Go.ChangeShapes Go.WideShapes Go.ChangeAt Go.RowKit Go.Maps
attribute [local go_sem] depUpon Sp.ok

section
variable {w w' : World} {B gq gw gr : Nat} {p : FP} {L : List Pc} {Q : Nat → Prop} {A : Nat → Option Addr × Nat} {T : PT}
theorem RW.noRow8 (h : RW w B gw gr p L Q) {b m c : Nat} {Z : Option Addr} {xs : List Value} (hr : Row w b 5 1 Z m c xs) : ∀ i, blk Z = some i → ¬ Q i := by
  intro i hi hP
  rcases hr.2 with ⟨hv, _⟩ | ⟨g', cap, cur, hv, _, hc, _⟩
  · injection hv with e1 e2 e3
    subst e1; cases hi
  · injection hv with e1 e2 e3
    subst e1
    have : g' = i := by simpa [blk] using hi
    subst this
    have ho : Own w g' 5 cur.toList := by unfold Own; rw [hc]
    exact h.no ho (by decide) (by decide) (by decide) (by decide) (by decide) (by decide) hP
theorem QM.apart (h : QM w B gq gw A T) (hs : RW w B gw gr p L Q) : ∀ i, QB gq A T i → ¬ Q i := fun i hi => by
  rcases hi with rfl | ⟨j, x, hj, hx, hi⟩
  · exact hs.no h.own (by decide) (by decide) (by decide) (by decide) (by decide) (by decide)
  · exact hs.noRow8 (h.row j x hj hx) i hi
end
/-- The reference's pipes in block gq over its slab in gw over its frames in gr; their blocks are Q. -/
def QW (w : World) (B gq gw gr : Nat) (p : FP) (L : List Pc) (T : PT) (Q : Nat → Prop) : Prop := ∃ A Q1, QM w B gq gw A T ∧ RW w B gw gr p L Q1 ∧ Q = Un (QB gq A T) Q1
section
variable {w w' : World} {B gq gw gr : Nat} {p : FP} {L : List Pc} {T T' : PT} {Q : Nat → Prop}
theorem QW.keep (h : QW w B gq gw gr p L T Q) (hb : Ext w w') : QW w' B gq gw gr p L T Q := by
  obtain ⟨A, Q1, h1, h2, h3⟩ := h
  exact ⟨A, Q1, h1.keep hb, h2.keep hb, h3⟩
theorem QW.other (h : QW w B gq gw gr p L T Q) {P P' : Nat → Prop} (a : Tr w w' P P') (hP : ∀ i, Q i → ¬ P i) : QW w' B gq gw gr p L T Q := by
  obtain ⟨A, Q1, h1, h2, rfl⟩ := h
  exact ⟨A, Q1, h1.other a fun i hi => hP i (.inl hi), h2.other a fun i hi => hP i (.inr hi), rfl⟩
theorem QW.lt (h : QW w B gq gw gr p L T Q) : ∀ i, Q i → i < w.heap.size := by
  obtain ⟨A, Q1, h1, h2, rfl⟩ := h
  intro i hi
  rcases hi with hi | hi
  · exact h1.lt i hi
  · exact h2.lt i hi
theorem QW.ge (h : QW w B gq gw gr p L T Q) : ∀ i, Q i → B ≤ i := by
  obtain ⟨A, Q1, h1, h2, rfl⟩ := h
  intro i hi
  rcases hi with hi | hi
  · exact h1.ge i hi
  · exact h2.ge i hi
/-- The pipes turn, their slab does not. -/
theorem QW.pipes {A : Nat → Option Addr × Nat} {Q1 : Nat → Prop} (h2 : RW w B gw gr p L Q1) (h1 : QM w B gq gw A T) (m : QMo w w' B gq gw A T T') : ∃ Q', QW w' B gq gw gr p L T' Q' ∧ Tr w w' (Un (QB gq A T) Q1) Q' := by
  obtain ⟨A', m1, m2⟩ := m
  refine ⟨_, ⟨A', Q1, m1, h2.other m2 (fun i hi q => h1.apart h2 i q hi), rfl⟩, m2.mono (fun _ q => .inl q) fun i hi => ?_⟩
  rcases hi with q | q
  · exact .inl q
  · exact .inr (.inl (.inr q))
end
/-- Some cells in a row turn. -/
theorem Own.sets {g : Nat} {t : TypeId} : ∀ (vs : List Value) {o : Nat} {xs : List Value} {w : World}, Own w g t xs → o + vs.length ≤ xs.length → Own (w.setCells g o vs) g t (xs.take o ++ vs ++ xs.drop (o + vs.length))
  | [], o, xs, w, h, _ => by simpa [World.setCells] using h
  | v :: r, o, xs, w, h, hl => by
    rw [List.length_cons] at hl
    have h2 := Own.sets r (o := o + 1) (h.set o v) (by rw [List.length_set]; omega)
    rw [World.setCells]
    have e1 : (xs.set o v).take (o + 1) = xs.take o ++ [v] := by
      rw [List.set_eq_take_append_cons_drop, if_pos (by omega), List.take_append, List.length_take, Nat.min_eq_left (by omega), List.take_take, Nat.min_eq_right (by omega), show o + 1 - o = 1 by omega]
      rfl
    have e2 : (xs.set o v).drop (o + 1 + r.length) = xs.drop (o + (r.length + 1)) := by
      rw [List.drop_set_of_lt (by omega), show o + 1 + r.length = o + (r.length + 1) by omega]
    rw [e1, e2] at h2
    simpa using h2
theorem sets_grown (g : Nat) : ∀ (vs : List Value) (o : Nat) (w : World), w.grownBy (w.setCells g o vs) (some g)
  | [], _, w => World.grownBy.refl _ _
  | v :: r, o, w => by
    rw [World.setCells]
    exact (setCell_grown w ⟨g, o, none⟩ v).trans (sets_grown g r (o + 1) _)
theorem Own.there {w : World} {g o n : Nat} {t : TypeId} {xs : List Value} (h : Own w g t xs) (hl : o + n ≤ xs.length) : w.there g o n := fun j hj => ⟨by rw [h.cell, List.getElem?_eq_getElem (by omega)]; rfl, h.frozen _⟩
theorem qvs_len (A : Nat → Option Addr × Nat) (T : PT) (v : Value) : (v :: qvs A T).length = 29 := by
  unfold qvs
  simp [qv_len]
theorem qvs_put {A A' : Nat → Option Addr × Nat} {T T' : PT} (v : Value) {j : Nat} (hj : j < 4) (ho : ∀ i, i ≠ j → qv A' T' i = qv A T i) : (v :: qvs A T).take (1 + j * 7) ++ qv A' T' j ++ (v :: qvs A T).drop (1 + j * 7 + 7) = v :: qvs A' T' := by
  have h0 := qv_len A T 0
  have h1 := qv_len A T 1
  have h2 := qv_len A T 2
  have h3 := qv_len A T 3
  unfold qvs
  match j, hj with
  | 0, _ => rw [ho 1 (by omega), ho 2 (by omega), ho 3 (by omega)]; simp [List.take_append, h0]
  | 1, _ => rw [ho 0 (by omega), ho 2 (by omega), ho 3 (by omega)]; simp [List.drop_append, h0, h1, List.drop_eq_nil_of_le]
  | 2, _ => rw [ho 0 (by omega), ho 1 (by omega), ho 3 (by omega)]; simp [List.take_append, List.drop_append, h0, h1, h2, List.drop_eq_nil_of_le, List.take_of_length_le]
  | 3, _ => rw [ho 0 (by omega), ho 1 (by omega), ho 2 (by omega)]; simp [List.take_append, h0, h1, h2, h3, List.drop_eq_nil_of_le, List.take_of_length_le]
section
variable {w : World} {B gq gw : Nat} {A : Nat → Option Addr × Nat} {T : PT}
theorem QM.put_ (h : QM w B gq gw A T) {j : Nat} (hj : j < 4) {A' : Nat → Option Addr × Nat} {T' : PT} (ho : ∀ i, i ≠ j → qv A' T' i = qv A T i) (hn : ∀ i, i ≠ j → T' i = T i ∧ A' i = A i) (hr : ∀ x, T' j = some x → Row w B 5 1 (A' j).1 x.d.length (A' j).2 (u8s x.d)) (hb : ∀ x, T' j = some x → blk (A' j).1 = none) :
    QM (w.setCells gq (1 + j * 7) (qv A' T' j)) B gq gw A' T' ∧ Tr w (w.setCells gq (1 + j * 7) (qv A' T' j)) (QB gq A T) (QB gq A' T') := by
  have hst := sets_grown gq (qv A' T' j) (1 + j * 7) w
  have hrow : ∀ {n c : Nat} {Z : Option Addr} {xs : List Value}, Row w B 5 1 Z n c xs → Row (w.setCells gq (1 + j * 7) (qv A' T' j)) B 5 1 Z n c xs := fun hz => hz.grown hst (.inr fun q => row_ne hz h.own (by decide) _ q rfl)
  have ht : Tr w (w.setCells gq (1 + j * 7) (qv A' T' j)) (QB gq A T) (QB gq A T) := Tr.grown hst (fun k q => .inl (.inl (by injection q with q; exact q.symm)))
  refine ⟨⟨?_, fun i y hi hy => ?_, h.lo⟩, ht.base, ht.block, fun i hi => ?_⟩
  · have := h.own.sets (qv A' T' j) (o := 1 + j * 7) (by rw [qvs_len, qv_len]; omega)
    rwa [qv_len A' T' j, qvs_put _ hj ho] at this
  · by_cases e : i = j
    · subst e
      exact hrow (hr y hy)
    · obtain ⟨e1, e2⟩ := hn i e
      rw [e1] at hy
      rw [e2]
      exact hrow (h.row i y hi hy)
  · rcases hi with q | ⟨k, y, hk, hy, q⟩
    · exact .inl (.inl q)
    · by_cases e : k = j
      · subst e
        rw [hb y hy] at q
        cases q
      · obtain ⟨e1, e2⟩ := hn k e
        rw [e1] at hy
        rw [e2] at q
        exact .inl (.inr ⟨k, y, hk, hy, q⟩)
theorem QM.add (h : QM w B gq gw A T) {j : Nat} (hj : j < 4) (x : PP) (hx : x.d = []) :
    QM (w.setCells gq (1 + j * 7) (qx x (none, 0))) B gq gw (fun k => if k = j then (none, 0) else A k) (upd T j (some x)) ∧ Tr w (w.setCells gq (1 + j * 7) (qx x (none, 0))) (QB gq A T) (QB gq (fun k => if k = j then (none, 0) else A k) (upd T j (some x))) := by
  have := h.put_ hj (A' := fun k => if k = j then (none, 0) else A k) (T' := upd T j (some x)) qv_upd_ne (fun i hi => ⟨upd_ne _ _ hi, if_neg hi⟩)
    (fun y hy => by
      rw [upd_at] at hy
      injection hy with hy
      subst hy
      simp only [if_pos]
      rw [hx]; exact Row.nil _ _ _ _) (fun y hy => by simp only [if_pos]; rfl)
  rwa [qv_upd_at] at this
theorem QM.del (h : QM w B gq gw A T) {j : Nat} (hj : j < 4) :
    QM (w.setCells gq (1 + j * 7) q0) B gq gw A (upd T j none) ∧ Tr w (w.setCells gq (1 + j * 7) q0) (QB gq A T) (QB gq A (upd T j none)) := by
  have hq : qv A (upd T j none) j = q0 := qv_none (upd_at ..)
  have := h.put_ hj (A' := A) (T' := upd T j none) (fun i hi => by unfold qv; rw [upd_ne _ _ hi]) (fun i hi => ⟨upd_ne _ _ hi, rfl⟩) (fun y hy => by rw [upd_at] at hy; cases hy) (fun y hy => by rw [upd_at] at hy; cases hy)
  rwa [hq] at this
end
set_option maxRecDepth 100000 in
theorem run_newq (f i z : Int) (w : World) : (Instr.build 60 #[(0, .bool true), (2, .int .i64 1), (3, .int .i64 1), (4, .agg #[.int .i64 f, .int .i64 i, .int .i64 z])]).run Try.prog w = .ok (.agg #[.bool true, .slice none 0 0, .int .i64 1, .int .i64 1, .int .i64 f, .int .i64 i, .int .i64 z]) w := by kernel_rfl
theorem run_zeroq (w : World) : (Instr.build 60 #[]).run Try.prog w = .ok (.agg #[.bool false, .slice none 0 0, .int .i64 0, .int .i64 0, .int .i64 0, .int .i64 0, .int .i64 0]) w := by kernel_rfl
theorem newq_one (f i z : Int) : (#[.bool true, .slice none 0 0, .int .i64 1, .int .i64 1, .int .i64 f, .int .i64 i, .int .i64 z] : Array Value).all (·.oneCell') = true :=
  all_oneCell_toArray (cs := [.bool true, .slice none 0 0, .int .i64 1, .int .i64 1, .int .i64 f, .int .i64 i, .int .i64 z]) (by simp [Value.oneCell'])
theorem zeroq_one : (#[.bool false, .slice none 0 0, .int .i64 0, .int .i64 0, .int .i64 0, .int .i64 0, .int .i64 0] : Array Value).all (·.oneCell') = true :=
  all_oneCell_toArray (cs := [.bool false, .slice none 0 0, .int .i64 0, .int .i64 0, .int .i64 0, .int .i64 0, .int .i64 0]) (by simp [Value.oneCell'])
theorem size_q : (Try.prog.info? 60).map (·.size) = some 7 := by kernel_rfl

set_option maxRecDepth 100000 in
set_option maxHeartbeats 4000000 in
theorem qw_make (B gq gw gr : Nat) (p : FP) (L : List Pc) (T : PT) (Q : Nat → Prop) (w : World) (h : QW w B gq gw gr p L T Q) (hp : SP p L) (hB : B ≤ w.heap.size) :
    Calls Try.prog 22 #[.pointer (some ⟨gq, 0, none⟩)] w fun e w' => e = .returned (.tuple #[.int .i64 (makeV p L T).1, .int .i64 (makeV p L T).2]) ∧ ∃ Q', QW w' B gq gw gr (makeL p L T).1 (makeL p L T).2 (makeT p L T) Q' ∧ Tr w w' Q Q' := by
  obtain ⟨A, Q1, h1, h2, rfl⟩ := h
  have HCI := Lib.hid (fun j (hj : j < 4) x (hx : T j = some x) => show w.cell? ⟨gq, 1 + j * 7, none⟩ = some (.bool true) from by
    have := h1.c_ hj (show 0 < 7 by omega)
    rw [qv_some hx] at this
    exact this)
  rcases freeI_cases T with ⟨e0, hall⟩ | ⟨k, hk, e0, hn, hbe⟩
  · have HV := Lib.hid (show makeV p L T = (0, 3) by unfold makeV; rw [if_pos e0])
    have HT := Lib.hid (show makeT p L T = T by unfold makeT; rw [if_pos e0])
    have HL := Lib.hid (show makeL p L T = (p, L) by unfold makeL; rw [if_pos e0])
    have HH := Lib.hid (And.intro h1 h2)
    have HA := Lib.hid hall
    clear h1 h2 e0 hall
    go_enter Try.func22, Try.ntmps22
    go_wp2
    go_loopw [4] (fun q wr => ∃ i : Nat, q = .int .i64 (i : Int) ∧ i ≤ 4 ∧ w = wr) (fun q _ => 4 - (intOf q).toNat)
    case atStart => exact ⟨0, rfl, by omega, rfl⟩
    case round =>
      obtain ⟨i, rfl, hi, rfl⟩ := hrel
      have i0' : (0 : Int) ≤ (i : Int) := by omega
      by_cases hlt : i < 4
      · have i1' : (i : Int) < 4 := by omega
        obtain ⟨x, hx⟩ := HA.out i hlt
        have v1 := HCI.out i hlt x hx
        clear hx
        go_wp2
        go_roundw
        case rel => exact ⟨i + 1, by go_num, by omega, trivial⟩
        case measure => simp [intOf]; omega
      · obtain rfl : i = 4 := by omega
        go_wp2
        go_ret2
        exact ⟨by rw [HV.out]; rfl, by rw [HT.out, HL.out]; exact ⟨_, ⟨A, Q1, HH.out.1, HH.out.2, rfl⟩, Tr.refl⟩⟩
  have hne : ¬ freeI T = -1 := by omega
  have HV := Lib.hid (show makeV p L T = if (takeV p L 64).2.2.2 ≠ 0 then (0, 15) else (freeI T, 0) by unfold makeV; rw [if_neg hne])
  have HT := Lib.hid (show makeT p L T = if (takeV p L 64).2.2.2 ≠ 0 then T else upd T (freeI T).toNat (some ⟨(takeV p L 64).1, (takeV p L 64).2.1, (takeV p L 64).2.2.1, [], 1, 1⟩) by unfold makeT; rw [if_neg hne])
  have HL := Lib.hid (show makeL p L T = takeL p L 64 by unfold makeL; rw [if_neg hne])
  rw [e0] at HV HT
  rw [Int.toNat_natCast] at HT
  have HTK := Lib.hid (rw_take B gw gr p L Q1 64 w h2 hp hB)
  have HH1 := Lib.hid h1
  have HH2 := Lib.hid h2
  have HAP := Lib.hid (h1.apart h2)
  have HBE := Lib.hid hbe
  have v0 := h1.s_
  have vk : w.cell? ⟨gq, 1 + k * 7, none⟩ = some (.bool false) := by
    have := h1.c_ hk (show 0 < 7 by omega)
    rw [qv_none hn] at this
    exact this
  have k0' : (0 : Int) ≤ (k : Int) := by omega
  have k1' : (k : Int) < 4 := by omega
  clear h1 h2 hne e0 hbe hn
  generalize takeL p L 64 = pl at *
  generalize takeV p L 64 = tv at *
  obtain ⟨vf, vs, vz, ve⟩ := tv
  simp only at HV HT HTK
  go_enter Try.func22, Try.ntmps22
  go_wp2
  go_loopw [4] (fun q wr => ∃ i : Nat, q = .int .i64 (i : Int) ∧ i ≤ k ∧ w = wr) (fun q _ => 4 - (intOf q).toNat)
  case atStart => exact ⟨0, rfl, by omega, rfl⟩
  case round =>
    obtain ⟨i, rfl, hi, rfl⟩ := hrel
    have i0' : (0 : Int) ≤ (i : Int) := by omega
    have i1' : (i : Int) < 4 := by omega
    by_cases hlt : i < k
    · obtain ⟨x, hx⟩ := HBE.out i hlt
      have v1 := HCI.out i (by omega) x hx
      clear hx
      go_wp2
      go_roundw
      case rel => exact ⟨i + 1, by go_num, by omega, trivial⟩
      case measure => simp [intOf]; omega
    obtain rfl : i = k := by omega
    clear hlt hi HBE HCI
    go_upto_region 6 with ((with_reducible go_at_call 44); (with_reducible refine HTK.out.mono ?_); rintro e w4 ⟨rfl, P4, s4, t4⟩)
    have bR := Ext.alloc w4 (.cells #[.int .i64 vf, .int .i64 vs, .int .i64 vz] 58)
    have OR := Lib.hid (Own.new w4 58 [.int .i64 vf, .int .i64 vs, .int .i64 vz])
    have M5 := Lib.hid ((HH1.out.other t4 (fun i hi q => HAP.out i hi q)).keep bR)
    have S5 := Lib.hid (s4.keep bR)
    have T5 := Lib.hid ((t4.mono (Q := Un (QB gq A T) Q1) (Q' := Un (QB gq A T) P4) (fun _ q => .inr q) (fun i q => by
      rcases q with q | q
      · exact .inr (.inl (.inl q))
      · exact .inl q)).trans (Tr.ext bR))
    have hs5 := (T5.out.base).size
    clear s4 t4 bR v0 vk HTK
    generalize (w4.alloc (.cells #[.int .i64 vf, .int .i64 vs, .int .i64 vz] 58)) = w5 at *
    by_cases he : ve = 0
    rotate_left
    · have te : (ve != 0) = true := by simp [he]
      have HV' := Lib.hid (show makeV p L T = (0, 15) by rw [HV.out, if_pos he])
      have HT' := Lib.hid (show makeT p L T = T by rw [HT.out, if_pos he])
      clear he
      go_wp2
      go_ret2
      exact ⟨by rw [HV'.out]; rfl, _, by rw [HT'.out, HL.out]; exact ⟨A, P4, M5.out, S5.out, rfl⟩, T5.out⟩
    · subst he
      have HV' := Lib.hid (show makeV p L T = ((i : Int), 0) by rw [HV.out, if_neg (by simp)])
      have HT' := Lib.hid (show makeT p L T = upd T i (some ⟨vf, vs, vz, [], 1, 1⟩) by rw [HT.out, if_neg (by simp)])
      have hbd := fun w => run_newq vf vs vz w
      have y0 := OR.out.cell 0
      have y1 := OR.out.cell 1
      have y2 := OR.out.cell 2
      simp only [List.getElem?_cons_zero, List.getElem?_cons_succ] at y0 y1 y2
      have HADD := Lib.hid (fun w6 (b6 : Ext w5 w6) => (M5.out.keep b6).add hk ⟨vf, vs, vz, [], 1, 1⟩ rfl)
      have HTH := Lib.hid (fun w6 (b6 : Ext w5 w6) => show w6.there gq (1 + i * 7) 7 from (M5.out.own.keep b6).there (by rw [qvs_len]; omega))
      have d3 := OR.out.lt
      go_upto_region 8 with fail
      refine wp_region_dep_tail 7 (S := Ext) (C := Ext (w5)) (by kernel_rfl) (by kernel_rfl) rfl Ext.refl (Ext.drew _) ?_
      simp only [List.take_succ_cons, List.take_zero]
      repeat (refine dep_det (by rfl) (fun K hK => ?_); go_simp; first
        | ((with_reducible refine hK _ ?_); clear hK K)
        | (rw [if_neg (by decide)]; (with_reducible refine hK _ ?_); clear hK K)
        | (refine ⟨_, fun w1 hw1 => ⟨Ext.refl w1, hw1, rfl⟩, hK _ ?_⟩; clear hK K)
        | (apply Exists.intro; refine ⟨fun w1 hw1 => ?_, hK _ ?_⟩
           first
             | (have c_y0 := cell_keep hw1 y0; have c_y1 := cell_keep hw1 y1; have c_y2 := cell_keep hw1 y2; go_simp; first | exact ⟨Ext.refl _, hw1, rfl⟩ | exact ⟨Ext.refl _, rfl⟩)
           clear hK K))
      refine dep_nil ?_
      intro a' w' hC hE
      obtain rfl := atEnd_nil hE
      clear hE
      simp only [List.drop_succ_cons, List.drop_zero]
      have HCC := Lib.hid hC
      clear hC
      go_wp2_with (refine wpList_store_mid rfl 60 _ _ rfl gq (1 + i * 7) #[.bool true, .slice none 0 0, .int .i64 1, .int .i64 1, .int .i64 vf, .int .i64 vs, .int .i64 vz] rfl rfl (HTH.out _ HCC.out) size_q (newq_one vf vs vz) ?_)
      go_ret2
      have hA := HADD.out _ HCC.out
      have S6 := (S5.out.keep HCC.out).other hA.2 (fun j hj q => (M5.out.keep HCC.out).apart (S5.out.keep HCC.out) j q hj)
      refine ⟨by rw [HV'.out]; rfl, _, by rw [HT'.out, HL.out]; exact ⟨_, P4, hA.1, S6, rfl⟩, ?_⟩
      refine (T5.out.stepE HCC.out).trans (hA.2.mono (Q := Un (QB gq A T) P4) (fun _ q => .inl q) (fun j q => ?_))
      rcases q with q | q
      · exact .inl q
      · exact .inr (.inl (.inr q))

set_option maxRecDepth 100000 in
set_option maxHeartbeats 8000000 in
theorem qw_close0 (B gq gw gr : Nat) (p : FP) (L : List Pc) (T : PT) (Q : Nat → Prop) (j : Nat) (x : PP) (b : Bool) (w : World) (h : QW w B gq gw gr p L T Q) (hp : SP p L) (hok : x.ok) (hj : j < 4) (hx : T j = some x) (hB : B ≤ w.heap.size) :
    Calls Try.prog 25 #[.pointer (some ⟨gq, 0, none⟩), .int .i64 (j : Int), .bool b] w fun e w' => e = .returned (.int .i64 (clsV x b)) ∧ ∃ Q', QW w' B gq gw gr (clsL p L x b).1 (clsL p L x b).2 (clsT T j x b) Q' ∧ Tr w w' Q Q' := by
  obtain ⟨A, Q1, h1, h2, rfl⟩ := h
  have HI := Lib.hid (q_is B gq gw A T (j : Int) w h1)
  rw [isB_some (show look T (j : Int) = some x by rw [look_at hj]; exact hx)] at HI
  have hr0 := hok.r0
  have hw0 := hok.w0
  have hr1 := hok.r1
  have hw1 := hok.w1
  have v2 := h1.c_ hj (show 2 < 7 by omega)
  have v3 := h1.c_ hj (show 3 < 7 by omega)
  rw [qv_some hx] at v2 v3
  simp only [qx, List.getElem?_cons_zero, List.getElem?_cons_succ] at v2 v3
  have j0' : (0 : Int) ≤ (j : Int) := by omega
  have j1' : (j : Int) < 4 := by omega
  have HV := Lib.hid (show clsV x b = if endV x b = 0 then 4 else 0 from rfl)
  have HT := Lib.hid (show clsT T j x b = if endV x b = 0 then T else if (cls1 x b).r = 0 ∧ (cls1 x b).w = 0 then upd T j none else upd T j (some (cls1 x b)) from rfl)
  have HL := Lib.hid (show clsL p L x b = if endV x b = 0 then (p, L) else if (cls1 x b).r = 0 ∧ (cls1 x b).w = 0 then giveL p L x.f x.i x.z else (p, L) from rfl)
  have HH := Lib.hid (And.intro h1 h2)
  have HX := Lib.hid hx
  clear h1 h2 hx hok
  cases b
  · rw [show endV x false = x.r from rfl] at HV HT HL
    go_enter Try.func25, Try.ntmps25
    by_cases h0 : x.r = 0
    · have t0 : (x.r == 0) = true := by simp [h0]
      have HV' := Lib.hid (show clsV x false = 4 by rw [HV.out, if_pos h0])
      have HT' := Lib.hid (show clsT T j x false = T by rw [HT.out, if_pos h0])
      have HL' := Lib.hid (show clsL p L x false = (p, L) by rw [HL.out, if_pos h0])
      clear h0
      go_wp2_with ((with_reducible go_at_call 45); (with_reducible refine (HI.out).mono ?_); rintro e w' ⟨rfl, rfl⟩)
      go_ret
      exact ⟨by rw [HV'.out]; rfl, _, by rw [HT'.out, HL'.out]; exact ⟨A, Q1, HH.out.1, HH.out.2, rfl⟩, Tr.refl⟩
    have t0 : (x.r == 0) = false := by simp [h0]
    have HV' := Lib.hid (show clsV x false = 0 by rw [HV.out, if_neg h0])
    have HT' := Lib.hid (show clsT T j x false = if (cls1 x false).r = 0 ∧ (cls1 x false).w = 0 then upd T j none else upd T j (some (cls1 x false)) by rw [HT.out, if_neg h0])
    have HL' := Lib.hid (show clsL p L x false = if (cls1 x false).r = 0 ∧ (cls1 x false).w = 0 then giveL p L x.f x.i x.z else (p, L) by rw [HL.out, if_neg h0])
    have hw : IntKind.i64.wrap (x.r - 1) = x.r - 1 := IntWalk.i64_in _ ⟨by omega, by omega⟩
    have HO' := Lib.hid (fun w1 (h1 : Ext w w1) => show QM (w1.setCell ⟨gq, 1 + j * 7 + 2, none⟩ (.int .i64 (x.r - 1))) B gq gw A (upd T j (some (cls1 x false))) ∧ Tr w (w1.setCell ⟨gq, 1 + j * 7 + 2, none⟩ (.int .i64 (x.r - 1))) (QB gq A T) (QB gq A (upd T j (some (cls1 x false)))) from HH.out.1.endSet hj HX.out false (x.r - 1) h1)
    clear h0 HV HT HL
    go_wp2_with ((with_reducible go_at_call 45); (with_reducible refine (HI.out).mono ?_); rintro e w' ⟨rfl, rfl⟩)
    refine wp_region_dep_tail 12 (S := Ext) (C := Ext (w)) (by kernel_rfl) (by kernel_rfl) rfl Ext.refl (Ext.drew _) ?_
    simp only [List.take_succ_cons, List.take_zero]
    repeat (refine dep_det (by rfl) (fun K hK => ?_); go_simp; first
      | ((with_reducible refine hK _ ?_); clear hK K)
      | (rw [if_neg (by decide)]; (with_reducible refine hK _ ?_); clear hK K)
      | (refine ⟨_, fun w1 hw1 => ⟨Ext.refl w1, hw1, rfl⟩, hK _ ?_⟩; clear hK K)
      | (apply Exists.intro; refine ⟨fun w1 hw1 => ?_, hK _ ?_⟩
         first
           | (have c_v2 := cell_keep hw1 v2; go_simp; first | exact ⟨Ext.refl _, hw1, rfl⟩ | exact ⟨Ext.refl _, rfl⟩)
         clear hK K))
    refine dep_nil ?_
    intro a' w' hC hE
    obtain rfl := atEnd_nil hE
    clear hE
    simp only [List.drop_succ_cons, List.drop_zero]
    have q4 := cell_keep hC v2
    have f4 : w'.frozen? ⟨gq, 1 + j * 7 + 2, none⟩ = false := (HH.out.1.own.keep hC).frozen _
    obtain ⟨m1, m2⟩ := HO'.out _ hC
    have M2 := Lib.hid m1
    have S2 := Lib.hid (HH.out.2.other m2 (fun i hi q => HH.out.1.apart HH.out.2 i q hi))
    have T2 := Lib.hid (m2.mono (Q := Un (QB gq A T) Q1) (Q' := Un (QB gq A (upd T j (some (cls1 x false)))) Q1) (fun _ q => .inl q) (fun i q => by
      rcases q with q | q
      · exact .inl q
      · exact .inr (.inl (.inr q))))
    clear m1 m2 v2 v3 hC HO'
    go_upto_region 6 with fail
    generalize w'.setCell { block := gq, off := 1 + j * 7 + 2 } (Value.int IntKind.i64 (x.r - 1)) = w2 at *
    have HXX := Lib.hid (show upd T j (some (cls1 x false)) j = some (cls1 x false) from upd_at ..)
    have c2 := M2.out.c_ hj (show 2 < 7 by omega)
    have c3 := M2.out.c_ hj (show 3 < 7 by omega)
    have c4 := M2.out.c_ hj (show 4 < 7 by omega)
    have c5 := M2.out.c_ hj (show 5 < 7 by omega)
    have c6 := M2.out.c_ hj (show 6 < 7 by omega)
    rw [qv_some HXX.out] at c2 c3 c4 c5 c6
    simp only [qx, List.getElem?_cons_zero, List.getElem?_cons_succ] at c2 c3 c4 c5 c6
    rw [show (cls1 x false).f = x.f from rfl] at c4
    rw [show (cls1 x false).i = x.i from rfl] at c5
    rw [show (cls1 x false).z = x.z from rfl] at c6
    have c5' : w2.cell? ⟨gq, 1 + j * 7 + 4 + 1, none⟩ = some (.int .i64 x.i) := c5
    have c6' : w2.cell? ⟨gq, 1 + j * 7 + 4 + 2, none⟩ = some (.int .i64 x.z) := c6
    have v0 := M2.out.s_
    have hz2 := T2.out.base.size
    clear q4 f4
    by_cases hzr : (cls1 x false).w = 0
    rotate_left
    · have HT2 := Lib.hid (show clsT T j x false = upd T j (some (cls1 x false)) by rw [HT'.out, if_neg (fun q => hzr q.2)])
      have HL2 := Lib.hid (show clsL p L x false = (p, L) by rw [HL'.out, if_neg (fun q => hzr q.2)])
      have tb : ((cls1 x false).w == 0) = false := by simp [hzr]
      clear hzr
      generalize (cls1 x false).r = xr at *
      generalize (cls1 x false).w = xw at *
      go_wp2
      go_ret
      exact ⟨by rw [HV'.out]; rfl, _, by rw [HT2.out, HL2.out]; exact ⟨A, Q1, M2.out, S2.out, rfl⟩, T2.out⟩
    have tb : ((cls1 x false).w == 0) = true := by simp [hzr]
    by_cases hzq : (cls1 x false).r = 0
    rotate_left
    · have HT2 := Lib.hid (show clsT T j x false = upd T j (some (cls1 x false)) by rw [HT'.out, if_neg (fun q => hzq q.1)])
      have HL2 := Lib.hid (show clsL p L x false = (p, L) by rw [HL'.out, if_neg (fun q => hzq q.1)])
      have tb2 : ((cls1 x false).r == 0) = false := by simp [hzq]
      clear hzr hzq
      generalize (cls1 x false).r = xr at *
      generalize (cls1 x false).w = xw at *
      go_wp2
      go_ret
      exact ⟨by rw [HV'.out]; rfl, _, by rw [HT2.out, HL2.out]; exact ⟨A, Q1, M2.out, S2.out, rfl⟩, T2.out⟩
    have HT2 := Lib.hid (show clsT T j x false = upd T j none by rw [HT'.out, if_pos ⟨hzq, hzr⟩])
    have HL2 := Lib.hid (show clsL p L x false = giveL p L x.f x.i x.z by rw [HL'.out, if_pos ⟨hzq, hzr⟩])
    have tb2 : ((cls1 x false).r == 0) = true := by simp [hzq]
    clear hzr hzq
    generalize (cls1 x false).r = xr at *
    generalize (cls1 x false).w = xw at *
    have HDL := Lib.hid (fun wz (m : QM wz B gq gw A (upd T j (some (cls1 x false)))) => show QM (wz.setCells gq (1 + j * 7) q0) B gq gw A (upd T j none) ∧ Tr wz (wz.setCells gq (1 + j * 7) q0) (QB gq A (upd T j (some (cls1 x false)))) (QB gq A (upd T j none)) from by
      have := m.del hj
      rwa [upd_upd] at this)
    generalize upd T j (some (cls1 x false)) = T1 at *
    have HG := Lib.hid (fun w3 (b3 : Ext w2 w3) => rw_give B gw gr p L Q1 x.f x.i x.z w3 (S2.out.keep b3) hp (by have := b3.size; omega))
    have HZQ := Lib.hid (fun w => run_zeroq w)
    go_upto_region 7 with fail
    refine wp_region_dep_tail 11 (S := Ext) (C := Ext (w2)) (by kernel_rfl) (by kernel_rfl) rfl Ext.refl (Ext.drew _) ?_
    simp only [List.take_succ_cons, List.take_zero]
    repeat (refine dep_det (by rfl) (fun K hK => ?_); go_simp; first
      | ((with_reducible refine hK _ ?_); clear hK K)
      | (rw [if_neg (by decide)]; (with_reducible refine hK _ ?_); clear hK K)
      | (refine ⟨_, fun w1 hw1 => ⟨Ext.refl w1, hw1, rfl⟩, hK _ ?_⟩; clear hK K)
      | (apply Exists.intro; refine ⟨fun w1 hw1 => ?_, hK _ ?_⟩
         first
           | (have c_v0 := cell_keep hw1 v0; have c_c4 := cell_keep hw1 c4; have c_c5' := cell_keep hw1 c5'; have c_c6' := cell_keep hw1 c6'; go_simp; first | exact ⟨Ext.refl _, hw1, rfl⟩ | exact ⟨Ext.refl _, rfl⟩)
         clear hK K))
    refine dep_nil ?_
    intro a' w' hC hE
    obtain rfl := atEnd_nil hE
    clear hE
    simp only [List.drop_succ_cons, List.drop_zero]
    have HC3 := Lib.hid hC
    clear v0 c2 c3 c4 c5 c6 c5' c6' hC
    go_upto_region 8 with ((with_reducible go_at_call 46); (with_reducible refine (HG.out _ HC3.out).mono ?_); rintro e w4 ⟨rfl, P4, s4, t4⟩)
    have M4 := Lib.hid ((M2.out.keep HC3.out).other t4 (fun i hi q => (M2.out.keep HC3.out).apart (S2.out.keep HC3.out) i hi q))
    have S4 := Lib.hid s4
    have T4 := Lib.hid ((T2.out.stepE HC3.out).trans (t4.mono (Q := Un (QB gq A T1) Q1) (Q' := Un (QB gq A T1) P4) (fun _ q => .inr q) (fun i q => by
      rcases q with q | q
      · exact .inr (.inl (.inl q))
      · exact .inl q)))
    have HTH := Lib.hid (show w4.there gq (1 + j * 7) 7 from M4.out.own.there (by rw [qvs_len]; omega))
    clear s4 t4
    go_wp2_with (first
      | (refine wpl_build0 _ rfl 60 rfl _ (HZQ.out _) ?_)
      | (refine wpList_store_mid rfl 60 _ _ rfl gq (1 + j * 7) #[.bool false, .slice none 0 0, .int .i64 0, .int .i64 0, .int .i64 0, .int .i64 0, .int .i64 0] rfl rfl HTH.out size_q zeroq_one ?_))
    go_ret
    obtain ⟨n1, n2⟩ := HDL.out _ M4.out
    refine ⟨by rw [HV'.out]; rfl, _, by rw [HT2.out, HL2.out]; exact ⟨A, P4, n1, S4.out.other n2 (fun i hi q => M4.out.apart S4.out i q hi), rfl⟩, ?_⟩
    refine T4.out.trans (n2.mono (Q := Un (QB gq A T1) P4) (fun _ q => .inl q) (fun i q => ?_))
    rcases q with q | q
    · exact .inl q
    · exact .inr (.inl (.inr q))
  · rw [show endV x true = x.w from rfl] at HV HT HL
    go_enter Try.func25, Try.ntmps25
    by_cases h0 : x.w = 0
    · have t0 : (x.w == 0) = true := by simp [h0]
      have HV' := Lib.hid (show clsV x true = 4 by rw [HV.out, if_pos h0])
      have HT' := Lib.hid (show clsT T j x true = T by rw [HT.out, if_pos h0])
      have HL' := Lib.hid (show clsL p L x true = (p, L) by rw [HL.out, if_pos h0])
      clear h0
      go_wp2_with ((with_reducible go_at_call 45); (with_reducible refine (HI.out).mono ?_); rintro e w' ⟨rfl, rfl⟩)
      go_ret
      exact ⟨by rw [HV'.out]; rfl, _, by rw [HT'.out, HL'.out]; exact ⟨A, Q1, HH.out.1, HH.out.2, rfl⟩, Tr.refl⟩
    have t0 : (x.w == 0) = false := by simp [h0]
    have HV' := Lib.hid (show clsV x true = 0 by rw [HV.out, if_neg h0])
    have HT' := Lib.hid (show clsT T j x true = if (cls1 x true).r = 0 ∧ (cls1 x true).w = 0 then upd T j none else upd T j (some (cls1 x true)) by rw [HT.out, if_neg h0])
    have HL' := Lib.hid (show clsL p L x true = if (cls1 x true).r = 0 ∧ (cls1 x true).w = 0 then giveL p L x.f x.i x.z else (p, L) by rw [HL.out, if_neg h0])
    have hw : IntKind.i64.wrap (x.w - 1) = x.w - 1 := IntWalk.i64_in _ ⟨by omega, by omega⟩
    have HO' := Lib.hid (fun w1 (h1 : Ext w w1) => show QM (w1.setCell ⟨gq, 1 + j * 7 + 3, none⟩ (.int .i64 (x.w - 1))) B gq gw A (upd T j (some (cls1 x true))) ∧ Tr w (w1.setCell ⟨gq, 1 + j * 7 + 3, none⟩ (.int .i64 (x.w - 1))) (QB gq A T) (QB gq A (upd T j (some (cls1 x true)))) from HH.out.1.endSet hj HX.out true (x.w - 1) h1)
    clear h0 HV HT HL
    go_wp2_with ((with_reducible go_at_call 45); (with_reducible refine (HI.out).mono ?_); rintro e w' ⟨rfl, rfl⟩)
    refine wp_region_dep_tail 12 (S := Ext) (C := Ext (w)) (by kernel_rfl) (by kernel_rfl) rfl Ext.refl (Ext.drew _) ?_
    simp only [List.take_succ_cons, List.take_zero]
    repeat (refine dep_det (by rfl) (fun K hK => ?_); go_simp; first
      | ((with_reducible refine hK _ ?_); clear hK K)
      | (rw [if_neg (by decide)]; (with_reducible refine hK _ ?_); clear hK K)
      | (refine ⟨_, fun w1 hw1 => ⟨Ext.refl w1, hw1, rfl⟩, hK _ ?_⟩; clear hK K)
      | (apply Exists.intro; refine ⟨fun w1 hw1 => ?_, hK _ ?_⟩
         first
           | (have c_v3 := cell_keep hw1 v3; go_simp; first | exact ⟨Ext.refl _, hw1, rfl⟩ | exact ⟨Ext.refl _, rfl⟩)
         clear hK K))
    refine dep_nil ?_
    intro a' w' hC hE
    obtain rfl := atEnd_nil hE
    clear hE
    simp only [List.drop_succ_cons, List.drop_zero]
    have q4 := cell_keep hC v3
    have f4 : w'.frozen? ⟨gq, 1 + j * 7 + 3, none⟩ = false := (HH.out.1.own.keep hC).frozen _
    obtain ⟨m1, m2⟩ := HO'.out _ hC
    have M2 := Lib.hid m1
    have S2 := Lib.hid (HH.out.2.other m2 (fun i hi q => HH.out.1.apart HH.out.2 i q hi))
    have T2 := Lib.hid (m2.mono (Q := Un (QB gq A T) Q1) (Q' := Un (QB gq A (upd T j (some (cls1 x true)))) Q1) (fun _ q => .inl q) (fun i q => by
      rcases q with q | q
      · exact .inl q
      · exact .inr (.inl (.inr q))))
    clear m1 m2 v2 v3 hC HO'
    go_upto_region 6 with fail
    generalize w'.setCell { block := gq, off := 1 + j * 7 + 3 } (Value.int IntKind.i64 (x.w - 1)) = w2 at *
    have HXX := Lib.hid (show upd T j (some (cls1 x true)) j = some (cls1 x true) from upd_at ..)
    have c2 := M2.out.c_ hj (show 2 < 7 by omega)
    have c3 := M2.out.c_ hj (show 3 < 7 by omega)
    have c4 := M2.out.c_ hj (show 4 < 7 by omega)
    have c5 := M2.out.c_ hj (show 5 < 7 by omega)
    have c6 := M2.out.c_ hj (show 6 < 7 by omega)
    rw [qv_some HXX.out] at c2 c3 c4 c5 c6
    simp only [qx, List.getElem?_cons_zero, List.getElem?_cons_succ] at c2 c3 c4 c5 c6
    rw [show (cls1 x true).f = x.f from rfl] at c4
    rw [show (cls1 x true).i = x.i from rfl] at c5
    rw [show (cls1 x true).z = x.z from rfl] at c6
    have c5' : w2.cell? ⟨gq, 1 + j * 7 + 4 + 1, none⟩ = some (.int .i64 x.i) := c5
    have c6' : w2.cell? ⟨gq, 1 + j * 7 + 4 + 2, none⟩ = some (.int .i64 x.z) := c6
    have v0 := M2.out.s_
    have hz2 := T2.out.base.size
    clear q4 f4
    by_cases hzr : (cls1 x true).w = 0
    rotate_left
    · have HT2 := Lib.hid (show clsT T j x true = upd T j (some (cls1 x true)) by rw [HT'.out, if_neg (fun q => hzr q.2)])
      have HL2 := Lib.hid (show clsL p L x true = (p, L) by rw [HL'.out, if_neg (fun q => hzr q.2)])
      have tb : ((cls1 x true).w == 0) = false := by simp [hzr]
      clear hzr
      generalize (cls1 x true).r = xr at *
      generalize (cls1 x true).w = xw at *
      go_wp2
      go_ret
      exact ⟨by rw [HV'.out]; rfl, _, by rw [HT2.out, HL2.out]; exact ⟨A, Q1, M2.out, S2.out, rfl⟩, T2.out⟩
    have tb : ((cls1 x true).w == 0) = true := by simp [hzr]
    by_cases hzq : (cls1 x true).r = 0
    rotate_left
    · have HT2 := Lib.hid (show clsT T j x true = upd T j (some (cls1 x true)) by rw [HT'.out, if_neg (fun q => hzq q.1)])
      have HL2 := Lib.hid (show clsL p L x true = (p, L) by rw [HL'.out, if_neg (fun q => hzq q.1)])
      have tb2 : ((cls1 x true).r == 0) = false := by simp [hzq]
      clear hzr hzq
      generalize (cls1 x true).r = xr at *
      generalize (cls1 x true).w = xw at *
      go_wp2
      go_ret
      exact ⟨by rw [HV'.out]; rfl, _, by rw [HT2.out, HL2.out]; exact ⟨A, Q1, M2.out, S2.out, rfl⟩, T2.out⟩
    have HT2 := Lib.hid (show clsT T j x true = upd T j none by rw [HT'.out, if_pos ⟨hzq, hzr⟩])
    have HL2 := Lib.hid (show clsL p L x true = giveL p L x.f x.i x.z by rw [HL'.out, if_pos ⟨hzq, hzr⟩])
    have tb2 : ((cls1 x true).r == 0) = true := by simp [hzq]
    clear hzr hzq
    generalize (cls1 x true).r = xr at *
    generalize (cls1 x true).w = xw at *
    have HDL := Lib.hid (fun wz (m : QM wz B gq gw A (upd T j (some (cls1 x true)))) => show QM (wz.setCells gq (1 + j * 7) q0) B gq gw A (upd T j none) ∧ Tr wz (wz.setCells gq (1 + j * 7) q0) (QB gq A (upd T j (some (cls1 x true)))) (QB gq A (upd T j none)) from by
      have := m.del hj
      rwa [upd_upd] at this)
    generalize upd T j (some (cls1 x true)) = T1 at *
    have HG := Lib.hid (fun w3 (b3 : Ext w2 w3) => rw_give B gw gr p L Q1 x.f x.i x.z w3 (S2.out.keep b3) hp (by have := b3.size; omega))
    have HZQ := Lib.hid (fun w => run_zeroq w)
    go_upto_region 7 with fail
    refine wp_region_dep_tail 11 (S := Ext) (C := Ext (w2)) (by kernel_rfl) (by kernel_rfl) rfl Ext.refl (Ext.drew _) ?_
    simp only [List.take_succ_cons, List.take_zero]
    repeat (refine dep_det (by rfl) (fun K hK => ?_); go_simp; first
      | ((with_reducible refine hK _ ?_); clear hK K)
      | (rw [if_neg (by decide)]; (with_reducible refine hK _ ?_); clear hK K)
      | (refine ⟨_, fun w1 hw1 => ⟨Ext.refl w1, hw1, rfl⟩, hK _ ?_⟩; clear hK K)
      | (apply Exists.intro; refine ⟨fun w1 hw1 => ?_, hK _ ?_⟩
         first
           | (have c_v0 := cell_keep hw1 v0; have c_c4 := cell_keep hw1 c4; have c_c5' := cell_keep hw1 c5'; have c_c6' := cell_keep hw1 c6'; go_simp; first | exact ⟨Ext.refl _, hw1, rfl⟩ | exact ⟨Ext.refl _, rfl⟩)
         clear hK K))
    refine dep_nil ?_
    intro a' w' hC hE
    obtain rfl := atEnd_nil hE
    clear hE
    simp only [List.drop_succ_cons, List.drop_zero]
    have HC3 := Lib.hid hC
    clear v0 c2 c3 c4 c5 c6 c5' c6' hC
    go_upto_region 8 with ((with_reducible go_at_call 46); (with_reducible refine (HG.out _ HC3.out).mono ?_); rintro e w4 ⟨rfl, P4, s4, t4⟩)
    have M4 := Lib.hid ((M2.out.keep HC3.out).other t4 (fun i hi q => (M2.out.keep HC3.out).apart (S2.out.keep HC3.out) i hi q))
    have S4 := Lib.hid s4
    have T4 := Lib.hid ((T2.out.stepE HC3.out).trans (t4.mono (Q := Un (QB gq A T1) Q1) (Q' := Un (QB gq A T1) P4) (fun _ q => .inr q) (fun i q => by
      rcases q with q | q
      · exact .inr (.inl (.inl q))
      · exact .inl q)))
    have HTH := Lib.hid (show w4.there gq (1 + j * 7) 7 from M4.out.own.there (by rw [qvs_len]; omega))
    clear s4 t4
    go_wp2_with (first
      | (refine wpl_build0 _ rfl 60 rfl _ (HZQ.out _) ?_)
      | (refine wpList_store_mid rfl 60 _ _ rfl gq (1 + j * 7) #[.bool false, .slice none 0 0, .int .i64 0, .int .i64 0, .int .i64 0, .int .i64 0, .int .i64 0] rfl rfl HTH.out size_q zeroq_one ?_))
    go_ret
    obtain ⟨n1, n2⟩ := HDL.out _ M4.out
    refine ⟨by rw [HV'.out]; rfl, _, by rw [HT2.out, HL2.out]; exact ⟨A, P4, n1, S4.out.other n2 (fun i hi q => M4.out.apart S4.out i q hi), rfl⟩, ?_⟩
    refine T4.out.trans (n2.mono (Q := Un (QB gq A T1) P4) (fun _ q => .inl q) (fun i q => ?_))
    rcases q with q | q
    · exact .inl q
    · exact .inr (.inl (.inr q))
theorem qw_close (B gq gw gr : Nat) (p : FP) (L : List Pc) (T : PT) (Q : Nat → Prop) (id : Int) (b : Bool) (w : World) (h : QW w B gq gw gr p L T Q) (hp : SP p L) (hok : ∀ j x, j < 4 → T j = some x → x.ok) (hB : B ≤ w.heap.size) :
    Calls Try.prog 25 #[.pointer (some ⟨gq, 0, none⟩), .int .i64 id, .bool b] w fun e w' => e = .returned (.int .i64 (clE T id b)) ∧ ∃ Q', QW w' B gq gw gr (clL p L T id b).1 (clL p L T id b).2 (clT T id b) Q' ∧ Tr w w' Q Q' := by
  rcases look_cases T id with e | ⟨j, x, rfl, hj, hx, e⟩
  · have HI := Lib.hid (by obtain ⟨A, Q1, h1, h2, rfl⟩ := h; exact q_is B gq gw A T id w h1 : Calls Try.prog 45 #[.pointer (some ⟨gq, 0, none⟩), .int .i64 id] w fun e w' => e = .returned (.bool (isB T id)) ∧ w = w')
    rw [isB_no e] at HI
    rw [show clE T id b = 4 by unfold clE; rw [e], show clT T id b = T by unfold clT; rw [e], show clL p L T id b = (p, L) by unfold clL; rw [e]]
    have HH := Lib.hid h
    clear h e hok
    go_enter Try.func25, Try.ntmps25
    go_wp2_with ((with_reducible go_at_call 45); (with_reducible refine (HI.out).mono ?_); rintro e w' ⟨rfl, rfl⟩)
    go_ret
    exact ⟨rfl, Q, HH.out, Tr.refl⟩
  · rw [show clE T (j : Int) b = clsV x b by unfold clE; rw [e], show clT T (j : Int) b = clsT T j x b by unfold clT; rw [e, Int.toNat_natCast], show clL p L T (j : Int) b = clsL p L x b by unfold clL; rw [e]]
    exact qw_close0 B gq gw gr p L T Q j x b w h hp (hok j x hj hx) hj hx hB
section
variable (B gq gw gr : Nat) (p : FP) (L : List Pc) (T : PT) (Q : Nat → Prop) (id : Int) (w : World) (h : QW w B gq gw gr p L T Q)
include h
theorem qw_len : Calls Try.prog 32 #[.pointer (some ⟨gq, 0, none⟩), .int .i64 id] w fun e w' => e = .returned (.int .i64 (lnV T id : Int)) ∧ w = w' := by
  obtain ⟨A, Q1, h1, h2, rfl⟩ := h
  exact q_len B gq gw A T id w h1
theorem qw_ends : Calls Try.prog 31 #[.pointer (some ⟨gq, 0, none⟩), .int .i64 id] w fun e w' => e = .returned (.tuple #[.int .i64 (enV T id).1, .int .i64 (enV T id).2.1, .bool (enV T id).2.2]) ∧ Ext w w' := by
  obtain ⟨A, Q1, h1, h2, rfl⟩ := h
  exact q_ends B gq gw A T id w h1
theorem qw_free : Calls Try.prog 33 #[.pointer (some ⟨gr, 0, none⟩)] w fun e w' => e = .returned (.int .i64 ((p.fr.length : Int) + (p.n : Int) - (p.fs : Int))) ∧ Ext w w' := by
  obtain ⟨A, Q1, h1, h2, rfl⟩ := h
  exact rw_free B gw gr p L Q1 w h2
theorem qw_open (b : Bool) (hb : ∀ j x, j < 4 → T j = some x → x.ok ∧ x.r < 65536 ∧ x.w < 65536) :
    Calls Try.prog 24 #[.pointer (some ⟨gq, 0, none⟩), .int .i64 id, .bool b] w fun e w' => e = .returned (.int .i64 (opE T id)) ∧ ∃ Q', QW w' B gq gw gr p L (opT T id b) Q' ∧ Tr w w' Q Q' := by
  obtain ⟨A, Q1, h1, h2, rfl⟩ := h
  exact (q_open B gq gw A T id b w h1 hb).mono fun _ _ ⟨a, m⟩ => ⟨a, QW.pipes h2 h1 m⟩
theorem qw_write (Bd : Option Addr) (n cb : Nat) (bs : List Int) (hok : ∀ j x, j < 4 → T j = some x → x.ok) (hr : Rd w Bd (u8s bs)) (hn : bs.length = n) (hB : B ≤ w.heap.size) :
    Calls Try.prog 29 #[.pointer (some ⟨gq, 0, none⟩), .int .i64 id, .slice Bd n cb] w fun e w' => e = .returned (.int .i64 (wrE T id n)) ∧ ∃ Q', QW w' B gq gw gr p L (wrT T id bs) Q' ∧ Tr w w' Q Q' := by
  obtain ⟨A, Q1, h1, h2, rfl⟩ := h
  exact (q_write B gq gw A T id Bd n cb bs w h1 hok hr hn hB).mono fun _ _ ⟨a, m⟩ => ⟨a, QW.pipes h2 h1 m⟩
theorem qw_read (n : Int) (hok : ∀ j x, j < 4 → T j = some x → x.ok) (hB : B ≤ w.heap.size) :
    Calls Try.prog 26 #[.pointer (some ⟨gq, 0, none⟩), .int .i64 id, .int .i64 n] w fun e w' => ∃ Ar cr, e = .returned (.tuple #[.slice Ar (rdB T id n).length cr, .int .i64 (rdE T id n)]) ∧ Row w' w.heap.size 5 1 Ar (rdB T id n).length cr (u8s (rdB T id n)) ∧ ∃ Q', QW w' B gq gw gr p L (rdT T id n) Q' ∧ Tr w w' Q Q' := by
  obtain ⟨A, Q1, h1, h2, rfl⟩ := h
  exact (q_read B gq gw A T id n w h1 hok hB).mono fun _ _ ⟨Ar, cr, a, r, m⟩ => ⟨Ar, cr, a, r, QW.pipes h2 h1 m⟩
end

end Go.Proofs.Ytebkknkgkjblnaa
