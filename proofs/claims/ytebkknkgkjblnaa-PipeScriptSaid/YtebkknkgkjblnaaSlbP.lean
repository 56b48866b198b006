/-
  WALKS of chapter 5's reference: Give.
-/
import Derived.Test.YtebkknkgkjblnaaSlbO
namespace Go.Proofs.Ytebkknkgkjblnaa
open Go.RowKit
attribute [local go_sem] depUpon Sp.ok

section
variable {P : Program} (w : World) {ops : Array Oper} {rest : List Oper} {o : Oper} {a : Act} {Q : Exit → Act → World → Prop}
theorem wpl_bin4 (hg : o.guard = none) (op : BinOp) (t t' : TypeId) (x y : Operand) (hop : o.op = .binOp op t x y t') (v : Value)
    (hrun : (do eqGuard op t x y (a.eval x) (a.eval y); binOp op t (a.eval x) (a.eval y) : Sem Value).run P w = .ok v w)
    (h : wpList P ops Q rest (a.put o.dst v) w) : wpList P ops Q (o :: rest) a w := by
  refine wpList_plain hg fun K hK' => ?_
  unfold Oper.wp
  simp only [execOp, hop]
  rw [Sem.run_bind, hrun]
  exact hK' _ _ h
end
set_option maxRecDepth 100000 in
theorem size_4b : (Try.prog.info? 122).map (·.size) = some 4 := by kernel_rfl
set_option maxRecDepth 100000 in
theorem run_zero4 (w : World) : (Instr.build 122 #[]).run Try.prog w = .ok (.agg #[.bool false, .bool false, .bool false, .bool false]) w := by kernel_rfl
set_option maxRecDepth 100000 in
theorem run_eq4 (b0 b1 b2 b3 : Bool) (x y : Operand) (w : World) :
    (do eqGuard .eql 122 x y (.agg #[.bool b0, .bool b1, .bool b2, .bool b3]) (.agg #[.bool false, .bool false, .bool false, .bool false]); binOp .eql 122 (.agg #[.bool b0, .bool b1, .bool b2, .bool b3]) (.agg #[.bool false, .bool false, .bool false, .bool false]) : Sem Value).run Try.prog w = .ok (.bool (!b0 && !b1 && !b2 && !b3)) w := by
  cases b0 <;> cases b1 <;> cases b2 <;> cases b3 <;> kernel_rfl
/-- What the reference's Give answers and leaves. -/
structure RGave (w w' : World) (B gs gr ga gB : Nat) (A S : Option Addr) (p : FP) (L : List Pc) (f i s : Int) (e : Ending) : Prop where
  out : e = .returned (.int .i64 (giveE L f i s))
  ex : ∃ A' c' S' d', RS w' B gs gr S' d' (giveL p L f i s).2 ∧ RF w' B gr ga gB A' c' (giveL p L f i s).1 ∧ Tr w w' (Un (RSB gs S) (RFB gr ga gB A)) (Un (RSB gs S') (RFB gr ga gB A'))
theorem delP_at {L : List Pc} (hs : L.Pairwise fun a b => a.f < b.f) {j : Nat} (hj : j < L.length) : delP L L[j].f = L.take j ++ L.drop (j + 1) := by
  have h1 : L = L.take j ++ L[j] :: L.drop (j + 1) := by rw [← List.drop_eq_getElem_cons hj, List.take_append_drop]
  have hp := hs
  rw [h1] at hp
  obtain ⟨p1, p2, p3⟩ := List.pairwise_append.1 hp
  obtain ⟨p4, p5⟩ := List.pairwise_cons.1 p2
  generalize hx : L[j] = x at *
  have e1 : delP (L.take j) x.f = L.take j := by
    unfold delP
    rw [List.filter_eq_self]
    intro a ha
    have := p3 a ha x (List.mem_cons_self ..)
    simp; omega
  have e2 : delP (L.drop (j + 1)) x.f = L.drop (j + 1) := by
    unfold delP
    rw [List.filter_eq_self]
    intro a ha
    have := p4 a ha
    simp; omega
  have e3 : delP L x.f = delP (L.take j ++ x :: L.drop (j + 1)) x.f := by rw [← h1]
  rw [e3]
  unfold delP at *
  rw [List.filter_append, List.filter_cons_of_neg (by simp), e1, e2]
theorem sdel_nil {p : FP} {L : List Pc} (hp : SP p L) {a : Pc} (ha : a ∈ L) (k : Int) :
    (!decide ((0 : Int) ∈ sdel a.sl k) && !decide ((1 : Int) ∈ sdel a.sl k) && !decide ((2 : Int) ∈ sdel a.sl k) && !decide ((3 : Int) ∈ sdel a.sl k)) = decide (sdel a.sl k = []) := by
  have ok := hp.ok a ha
  have h4 : ∀ z ∈ sdel a.sl k, z = 0 ∨ z = 1 ∨ z = 2 ∨ z = 3 := fun z hz => by
    have h1 := ok.sl z (sdel_mem.1 hz).1
    have h2 : nsl a.sz ≤ 4 := by rcases ok.sz with e | e | e <;> rw [e] <;> decide
    omega
  generalize sdel a.sl k = m at *
  cases m with
  | nil => simp
  | cons z r =>
    rcases h4 z (by simp) with rfl | rfl | rfl | rfl <;> simp

set_option maxRecDepth 100000 in
set_option maxHeartbeats 8000000 in
theorem r5_give (B gs gr ga gB c d : Nat) (A S : Option Addr) (p : FP) (L : List Pc) (f i s : Int) (w : World) (h : RS w B gs gr S d L) (hf : RF w B gr ga gB A c p) (hp : SP p L) (hB : B ≤ w.heap.size) :
    Calls Try.prog 46 #[.pointer (some ⟨gs, 0, none⟩), .agg #[.int .i64 f, .int .i64 i, .int .i64 s]] w fun e w' => RGave w w' B gs gr ga gB A S p L f i s e := by
  have bX := Ext.alloc w (.cells #[.int .i64 f, .int .i64 i, .int .i64 s] 58)
  have oX := Own.new w 58 [.int .i64 f, .int .i64 i, .int .i64 s]
  have HA := Lib.hid (r5_at B gs gr d S p L f i s _ (h.keep bX) hp hf.ok.n64)
  have HH := Lib.hid (And.intro h hf)
  rcases @atR_get L f i s with ⟨h1, h2⟩ | ⟨j, hj, h1, h2, h3, h4, h5⟩
  · have HE := Lib.hid (show giveE L f i s = 4 by unfold giveE; rw [h1]; rfl)
    have HL := Lib.hid (show giveL p L f i s = (p, L) by unfold giveL; rw [h1]; rfl)
    rw [h2] at HA
    clear h hf hp h1 h2
    go_enter Try.func46, Try.ntmps46
    go_upto_region 1 with fail
    generalize w.alloc (.cells #[.int .i64 f, .int .i64 i, .int .i64 s] 58) = w1 at *
    go_wp2_with (first
      | (refine wpl_load_own _ rfl _ _ rfl (by kernel_rfl) 3 (by kernel_rfl) _ rfl _ _ oX rfl ?_)
      | ((with_reducible go_at_call 57); (with_reducible refine (HA.out).mono ?_); rintro e w2 ⟨rfl, b2⟩))
    go_ret
    exact ⟨by rw [HE.out]; rfl, _, _, _, _, by rw [HL.out]; exact HH.out.1.keep (Ext.trans bX b2), by rw [HL.out]; exact HH.out.2.keep (Ext.trans bX b2), Tr.ext (Ext.trans bX b2)⟩
  · subst h3; subst h4
    have hrange := (hp.ok _ (List.getElem_mem hj)).sl i h5
    have hnsl : nsl L[j].sz ≤ 4 := by rcases (hp.ok _ (List.getElem_mem hj)).sz with e | e | e <;> rw [e] <;> decide
    obtain ⟨k, rfl⟩ : ∃ k : Nat, i = (k : Int) := ⟨i.toNat, by omega⟩
    have hk4 : k < 4 := by omega
    have HE := Lib.hid (show giveE L (L[j].f : Int) (k : Int) L[j].sz = 0 by unfold giveE; rw [if_pos h1])
    have HL := Lib.hid (show giveL p L (L[j].f : Int) (k : Int) L[j].sz = if sdel L[j].sl (k : Int) = [] then (p.gvn L[j].f, delP L L[j].f) else (p, updS L L[j].f (sdel L[j].sl (k : Int))) by
      unfold giveL
      rw [if_pos h1, slOf_of hp (List.getElem_mem hj), Int.toNat_natCast])
    rw [h2] at HA
    obtain ⟨g, rfl⟩ := h.row.addr (by omega)
    have HMK := Lib.hid (fun wz (hz : Ext w wz) => (HH.out.1.keep hz).mark hp hj hk4 false _ (cutV_del L[j] hk4))
    have HCT := Lib.hid (fun wz (hz : Ext w wz) => (HH.out.1.keep hz).cut hj)
    have HSD := Lib.hid (sdel_nil hp (List.getElem_mem hj) (k : Int))
    have HTK := Lib.hid (hp.ok _ (List.getElem_mem hj)).tk
    have HDP := Lib.hid (delP_at hp.srt hj)
    have hul : (updS L L[j].f (sdel L[j].sl (k : Int))).length = L.length := by simp [updS]
    have hat : (updS L L[j].f (sdel L[j].sl (k : Int)))[j]? = some { L[j] with sl := sdel L[j].sl (k : Int) } := by rw [updS_at hp hj, List.getElem?_set_self hj]
    have htk : (updS L L[j].f (sdel L[j].sl (k : Int))).take j = L.take j := by rw [updS_at hp hj, List.take_set_of_le (Nat.le_refl _)]
    have hdr : (updS L L[j].f (sdel L[j].sl (k : Int))).drop (j + 1) = L.drop (j + 1) := by rw [updS_at hp hj, List.drop_set_of_lt (by omega)]
    have HAT := Lib.hid (And.intro hul (And.intro hat (And.intro htk hdr)))
    have hge := Row.le' h.row
    have hlen := hp.len
    have hn64 := hf.ok.n64
    have hgs := h.own.lt
    have hgr := hf.own.lt
    have hgg := h.lt g (.inr rfl)
    have hngs : gs ≠ g := fun q => row_ne h.row h.own (by decide) g rfl q.symm
    have j0' : (0 : Int) ≤ (j : Int) := by omega
    have j1' : (j : Int) < (L.length : Int) := by omega
    have k0' : (0 : Int) ≤ (k : Int) := by omega
    have k1' : (k : Int) < 4 := by omega
    clear h hf hp h1 h2 h5 hrange hnsl hul hat htk hdr
    generalize L[j] = a at *
    generalize hL1 : updS L a.f (sdel a.sl (k : Int)) = L1 at *
    have HL1 := Lib.hid hL1
    clear hL1
    generalize hm : sdel a.sl (k : Int) = m at *
    clear hm
    obtain ⟨af, az, al⟩ := a
    go_enter Try.func46, Try.ntmps46
    go_upto_region 1 with fail
    generalize w.alloc (.cells #[.int .i64 (af : Int), .int .i64 (k : Int), .int .i64 az] 58) = w1 at *
    go_upto_region 4 with (first
      | (refine wpl_load_own _ rfl _ _ rfl (by kernel_rfl) 3 (by kernel_rfl) _ rfl _ _ oX rfl ?_)
      | ((with_reducible go_at_call 57); (with_reducible refine (HA.out).mono ?_); rintro e w2 ⟨rfl, b2⟩))
    have b12 := Ext.trans bX b2
    have O2 := Lib.hid (oX.keep b2)
    have x1 := O2.out.cell 1
    simp only [List.getElem?_cons_zero, List.getElem?_cons_succ] at x1
    have v1 := (HH.out.1.keep b12).l_
    clear bX b2 oX HA
    refine wp_region_dep_tail 10 (S := Ext) (C := Ext (w2)) (by kernel_rfl) (by kernel_rfl) rfl Ext.refl (Ext.drew _) ?_
    simp only [List.take_succ_cons, List.take_zero]
    repeat (refine dep_det (by rfl) (fun K hK => ?_); go_simp; first
      | ((with_reducible refine hK _ ?_); clear hK K)
      | (rw [if_neg (by decide)]; (with_reducible refine hK _ ?_); clear hK K)
      | (refine ⟨_, fun w1 hw1 => ⟨Ext.refl w1, hw1, rfl⟩, hK _ ?_⟩; clear hK K)
      | (apply Exists.intro; refine ⟨fun w1 hw1 => ?_, hK _ ?_⟩
         first
           | (have c_v1 := cell_keep hw1 v1; have c_x1 := cell_keep hw1 x1; go_simp; first | exact ⟨Ext.refl _, hw1, rfl⟩ | exact ⟨Ext.refl _, rfl⟩)
         clear hK K))
    refine dep_nil ?_
    intro a' w' hC hE
    obtain rfl := atEnd_nil hE
    clear hE
    simp only [List.drop_succ_cons, List.drop_zero]
    have b13 := Ext.trans b12 hC
    obtain ⟨M1, M2, M3, M4⟩ := HMK.out _ b13
    obtain ⟨g', hg', d0, d1, d2⟩ := HCT.out _ b13
    injection hg' with hg'; injection hg' with hg'
    subst hg'
    have d3 := d2 k hk4
    have O3 := Lib.hid ((O2.out.keep hC).far (p := ⟨g, j * 6 + 2 + k, none⟩) (fun q => by simp only at q; omega) (.bool false))
    have F3 := Lib.hid ((HH.out.2.keep b13).other M2 (fun x hx q => (HH.out.1.keep b13).apart (HH.out.2.keep b13) x q hx))
    have T3 := Lib.hid ((Tr.ext (P := Un (RSB gs (some ⟨g, 0, none⟩)) (RFB gr ga gB A)) b13).trans (M2.mono (Q := Un (RSB gs (some ⟨g, 0, none⟩)) (RFB gr ga gB A)) (Q' := Un (RSB gs (some ⟨g, 0, none⟩)) (RFB gr ga gB A)) (fun _ q => .inl q) (fun _ q => .inr (.inl q))))
    have M1H := Lib.hid M1
    have hs3 := (Ext.trans b12 hC).size
    clear M1 M2 v1 x1 hC d0 d1 d2 b13 b12 O2 M4
    go_upto_region 5 with fail
    have hs4 : w'.heap.size = (w'.setCell { block := g, off := j * 6 + 2 + k } (Value.bool false)).heap.size := by simp
    generalize w'.setCell { block := g, off := j * 6 + 2 + k } (Value.bool false) = w3 at *
    rw [hs4] at hs3
    clear d3 M3 hs4
    have M1 := M1H.out
    have v1 := M1.l_
    have v0 := M1.f_
    have x0 := O3.out.cell 0
    simp only [List.getElem?_cons_zero] at x0
    rw [HAT.out.1] at v1
    have hjl : j < L1.length := by rw [HAT.out.1]; omega
    have hat2 : L1[j] = ⟨af, az, m⟩ := by
      have := HAT.out.2.1
      rw [List.getElem?_eq_getElem hjl] at this
      exact Option.some.inj this
    obtain ⟨g', hg', e0, e1, e2⟩ := M1.cut hjl
    injection hg' with hg'; injection hg' with hg'
    subst hg'
    rw [hat2] at e2
    simp only at e2
    have HZ := Lib.hid (fun w => run_zero4 w)
    have HQ := Lib.hid (fun x y w => run_eq4 (decide ((0 : Int) ∈ m)) (decide ((1 : Int) ∈ m)) (decide ((2 : Int) ∈ m)) (decide ((3 : Int) ∈ m)) x y w)
    rw [HSD.out] at HQ
    have hc4 : ∀ (q : Nat) (v : Value), ([.bool (decide ((0 : Int) ∈ m)), .bool (decide ((1 : Int) ∈ m)), .bool (decide ((2 : Int) ∈ m)), .bool (decide ((3 : Int) ∈ m))] : List Value)[q]? = some v → w3.cell? ⟨g, j * 6 + 2 + q, none⟩ = some v := fun q v hq => by
      have hq4 : q < 4 := (List.getElem?_eq_some_iff.1 hq).1
      rw [e2 q hq4, ← hq]
      match q, hq4 with
      | 0, _ => rfl
      | 1, _ => rfl
      | 2, _ => rfl
      | 3, _ => rfl
    have HC4 := Lib.hid hc4
    clear hc4 e0 e1 e2 hat2 M1
    by_cases hm : m = []
    rotate_left
    · have HLL := Lib.hid (show giveL p L (af : Int) (k : Int) az = (p, L1) by rw [HL.out, if_neg hm])
      rw [decide_eq_false hm] at HQ
      clear hm
      go_wp2_with (first
        | (refine wpl_load_rd _ rfl 122 _ rfl (by kernel_rfl) 4 size_4b g (j * 6 + 2) rfl [.bool (decide ((0 : Int) ∈ m)), .bool (decide ((1 : Int) ∈ m)), .bool (decide ((2 : Int) ∈ m)), .bool (decide ((3 : Int) ∈ m))] rfl HC4.out ?_)
        | (refine wpl_build0 _ rfl 122 rfl _ (HZ.out _) ?_)
        | (refine wpl_bin4 _ rfl _ _ _ _ _ rfl _ (HQ.out _ _ _) ?_))
      go_ret
      exact ⟨by rw [HE.out]; rfl, _, _, _, _, by rw [HLL.out]; exact M1H.out, by rw [HLL.out]; exact F3.out, T3.out⟩
    · have HLL := Lib.hid (show giveL p L (af : Int) (k : Int) az = (p.gvn af, delP L af) by rw [HL.out, if_pos hm])
      rw [decide_eq_true hm] at HQ
      clear hm
      have HFG := Lib.hid (fun wz (hz : Ext w3 wz) (hb : B ≤ wz.heap.size) => r4_give B gr ga gB A c p af wz (F3.out.keep hz) HTK.out hb)
      go_upto_region 6 with (first
        | (refine wpl_load_rd _ rfl 122 _ rfl (by kernel_rfl) 4 size_4b g (j * 6 + 2) rfl [.bool (decide ((0 : Int) ∈ m)), .bool (decide ((1 : Int) ∈ m)), .bool (decide ((2 : Int) ∈ m)), .bool (decide ((3 : Int) ∈ m))] rfl HC4.out ?_)
        | (refine wpl_build0 _ rfl 122 rfl _ (HZ.out _) ?_)
        | (refine wpl_bin4 _ rfl _ _ _ _ _ rfl _ (HQ.out _ _ _) ?_))
      refine wp_region_dep_tail 6 (S := Ext) (C := Ext (w3)) (by kernel_rfl) (by kernel_rfl) rfl Ext.refl (Ext.drew _) ?_
      simp only [List.take_succ_cons, List.take_zero]
      repeat (refine dep_det (by rfl) (fun K hK => ?_); go_simp; first
        | ((with_reducible refine hK _ ?_); clear hK K)
        | (rw [if_neg (by decide)]; (with_reducible refine hK _ ?_); clear hK K)
        | (refine ⟨_, fun w1 hw1 => ⟨Ext.refl w1, hw1, rfl⟩, hK _ ?_⟩; clear hK K)
        | (apply Exists.intro; refine ⟨fun w1 hw1 => ?_, hK _ ?_⟩
           first
             | (have c_v0 := cell_keep hw1 v0; have c_x0 := cell_keep hw1 x0; go_simp; first | exact ⟨Ext.refl _, hw1, rfl⟩ | exact ⟨Ext.refl _, rfl⟩)
           clear hK K))
      refine dep_nil ?_
      intro a' w' hC hE
      obtain rfl := atEnd_nil hE
      clear hE
      simp only [List.drop_succ_cons, List.drop_zero]
      have HC3 := Lib.hid hC
      have hs5 := hC.size
      clear v0 v1 x0 hC
      go_upto_region 7 with ((with_reducible go_at_call 58); (with_reducible refine (HFG.out _ HC3.out (by omega)).mono ?_); rintro e w6 ⟨rfl, A6, c6, f6, t6⟩)
      have F6 := Lib.hid f6
      have S6 := Lib.hid ((M1H.out.keep HC3.out).other t6 (fun x hx => (M1H.out.keep HC3.out).apart (F3.out.keep HC3.out) x hx))
      have T6 := Lib.hid ((T3.out.stepE HC3.out).trans (t6.mono (Q := Un (RSB gs (some ⟨g, 0, none⟩)) (RFB gr ga gB A)) (Q' := Un (RSB gs (some ⟨g, 0, none⟩)) (RFB gr ga gB A6)) (fun _ q => .inr q) (fun x q => by
        rcases q with q | q
        · exact .inr (.inl (.inl q))
        · exact .inl q)))
      have hs6 := t6.base.size
      have v1 := S6.out.l_
      rw [HAT.out.1] at v1
      clear f6 t6 HFG
      obtain ⟨j0, hj0, hz0, hz1, hz2⟩ := info_parts info_cut
      have HI := Lib.hid hj0
      clear hj0
      have LT := Lib.hid (by rw [cuts_len, List.length_take]; omega : (cuts (L.take j)).length = j * 6)
      have HT := Lib.hid (fun w1 (h1 : Ext w6 w1) => by
        have := (S6.out.keep h1).row.rd.take (j * 6)
        rwa [← cuts_take, HAT.out.2.2.1] at this)
      have hk1 : IntKind.i64.wrap ((j : Int) + 1) = (j : Int) + 1 := IntWalk.i64_in _ ⟨by omega, by omega⟩
      have kk1 : (j : Int) ≤ (d : Int) := by omega
      have kk2 : (j : Int) + 1 ≤ (L.length : Int) := by omega
      have kk3 : (L.length : Int) ≤ (d : Int) := by omega
      by_cases hcc : d = j + 1
      · subst hcc
        have hq1 : (j : Int) ≤ (j : Int) + 1 := by omega
        have hq2 : (L.length : Int) ≤ (j : Int) + 1 := by omega
        have hq3 : L.length = j + 1 := by omega
        have hd0 : L.drop (j + 1) = [] := List.drop_eq_nil_of_le (by omega)
        have HD := Lib.hid (fun w1 (_ : Ext w6 w1) => show Rd w1 (some ⟨g, 0, none⟩) (cuts (L.drop (j + 1))) by
          rw [hd0]; exact Rd.nil _ _)
        have LD := Lib.hid (by rw [hd0]; rfl : (cuts (L.drop (j + 1))).length = 0 * 6)
        have NL := Lib.hid (show (L.take j ++ L.drop (j + 1)).length = j + 0 by rw [hd0, List.append_nil, List.length_take]; omega)
        clear hd0
        rw [hq3] at v1
        clear kk2 kk3 hq2
        refine wp_region_dep_tail 18 (S := Rx w6.heap.size 124 6 j 0 (cuts (L.take j)) (cuts (L.take j) ++ cuts (L.drop (j + 1)))) (C := Ext w6) (by kernel_rfl) (by kernel_rfl) rfl Rx.refl (Ext.drew _) ?_
        simp only [List.take_succ_cons, List.take_zero]
        repeat (refine dep_det (by rfl) (fun K hK => ?_); go_simp; first
          | ((with_reducible refine hK _ ?_); clear hK K)
          | (rw [if_neg (by decide)]; (with_reducible refine hK _ ?_); clear hK K)
          | (refine ⟨_, fun w1 hw1 => ⟨Rx.refl w1, hw1, rfl⟩, hK _ ?_⟩; clear hK K)
          | (apply Exists.intro; refine ⟨fun w1 hw1 => ?_, hK _ ?_⟩
             first
               | (have c_v1 := cell_keep hw1 v1; go_simp; first | exact ⟨Rx.refl w1, hw1, rfl⟩ | exact ⟨Rx.refl w1, rfl⟩)
             clear hK K))
        refine dep_var (RwV w6.heap.size 124 6 j (cuts (L.take j))) 45 rfl (by rfl) RwV.one (by go_simp) (fun w1 hw1 => ?_) ?_
        · obtain ⟨A', c', w', hrun, hh⟩ := rx_first (P := Try.prog) w6 w1 54 54 124 j0 _ 6 24 Try.underlying54 HI.out hz0 hz1 hz2 rfl (by omega) hw1 (some ⟨g, 0, none⟩) j (j + 1) (cuts (L.take j)) (cuts (L.take j) ++ cuts (L.drop (j + 1))) 0 LT.out (HT.out w1 hw1) (cuts_one _) (by omega) (by omega)
          exact dep_append rfl hrun hh
        repeat (refine dep_det (by rfl) (fun K hK => ?_); go_simp; first
          | ((with_reducible refine hK _ ?_); clear hK K)
          | (rw [if_neg (by decide)]; (with_reducible refine hK _ ?_); clear hK K)
          | (refine ⟨_, fun w1 hw1 => ⟨Rx.refl w1, hw1, rfl⟩, hK _ ?_⟩; clear hK K)
          | (apply Exists.intro; refine ⟨fun w1 hw1 => ?_, hK _ ?_⟩
             first
               | (have c_v1 := cell_keep hw1 v1; go_simp; first | exact ⟨Rx.refl w1, hw1, rfl⟩ | exact ⟨Rx.refl w1, rfl⟩)
             clear hK K))
        refine dep_var1 45 _ (RwV w6.heap.size 124 6 (j + 0) (cuts (L.take j) ++ cuts (L.drop (j + 1)))) 53 rfl (by rfl) (by intro V' h; simpa using h) (List.mem_cons_self ..) (by first | (simp; done) | simp [Act.put]) RwV.two (fun w1 v hw1 hV => ⟨by go_simp, ?_⟩) ?_
        · obtain ⟨A', c', w', hrun, hh⟩ := rx_second (P := Try.prog) w6 w1 54 54 124 j0 _ 6 24 Try.underlying54 HI.out hz0 hz1 hz2 rfl (by omega) hw1 _ j 0 _ (cuts (L.take j)) (cuts (L.drop (j + 1))) v hV LD.out (HD.out w1 hw1) (cuts_one _) (by omega) (by omega)
          exact dep_append rfl hrun hh
        repeat (refine dep_det (by rfl) (fun K hK => ?_); go_simp; first
          | ((with_reducible refine hK _ ?_); clear hK K)
          | (rw [if_neg (by decide)]; (with_reducible refine hK _ ?_); clear hK K)
          | (refine ⟨_, fun w1 hw1 => ⟨Rx.refl w1, hw1, rfl⟩, hK _ ?_⟩; clear hK K)
          | (apply Exists.intro; refine ⟨fun w1 hw1 => ?_, hK _ ?_⟩
             first
               | (have c_v1 := cell_keep hw1 v1; go_simp; first | exact ⟨Rx.refl w1, hw1, rfl⟩ | exact ⟨Rx.refl w1, rfl⟩)
             clear hK K))
        refine dep_nil ?_
        intro a' w7 hC hE
        obtain ⟨v, ⟨A2, d2, rfl, r2⟩, hE⟩ := atEnd_cons hE (by simp) (by first | (simp; done) | simp [Act.put])
        obtain ⟨v, ⟨A1, d1, rfl, r1⟩, hE⟩ := atEnd_cons hE (by simp) (by first | (simp; done) | simp [Act.put])
        obtain rfl := atEnd_nil hE
        clear hE
        simp only [List.drop_succ_cons, List.drop_zero]
        have v9 := (S6.out.keep hC).l_
        have f9 := (S6.out.own.keep hC).frozen 1
        have hST := RS.store (B := B) (S := A2) (d := d2) (L := L.take j ++ L.drop (j + 1)) S6.out hC (by omega) (by rw [← cuts_app, NL.out]; exact r2)
        rw [NL.out] at hST
        have HST := Lib.hid hST
        have FR := Lib.hid ((F6.out.keep hC).other (Tr.set (P := fun x => x = gs) ⟨gs, 1, none⟩ (.slice A2 (j + 0) d2) rfl) (fun x hx q => S6.out.apart F6.out x (.inl q) hx))
        clear r1 r2 hST
        go_wp2
        go_ret
        refine ⟨by rw [HE.out]; rfl, ?_⟩
        rw [HLL.out, HDP.out]
        exact ⟨_, _, _, _, HST.out.1, FR.out, T6.out.trans (HST.out.2.mono (Q := Un (RSB gs (some ⟨g, 0, none⟩)) (RFB gr ga gB A6)) (fun _ q => .inl q) (fun x q => by
          rcases q with q | q
          · exact .inl q
          · exact .inr (.inl (.inr q))))⟩
      · have hq3 : (j : Int) + 1 < (d : Int) := by omega
        have hc1 : ¬ d - (j + 1) = 0 := by omega
        have HD := Lib.hid (fun w1 (h1 : Ext w6 w1) => show Rd w1 (some ⟨g, 0 + (j + 1) * 6, none⟩) (cuts (L.drop (j + 1))) by
          have := (S6.out.keep h1).row.rd.dropAt5 ((j + 1) * 6)
          rwa [← cuts_drop, HAT.out.2.2.2] at this)
        have LD := Lib.hid (by rw [cuts_len, List.length_drop] : (cuts (L.drop (j + 1))).length = (L.length - (j + 1)) * 6)
        have NL := Lib.hid (show (L.take j ++ L.drop (j + 1)).length = j + (L.length - (j + 1)) by rw [List.length_append, List.length_take, List.length_drop]; omega)
        simp only [Nat.zero_add] at HD
        refine wp_region_dep_tail 18 (S := Rx w6.heap.size 124 6 j (L.length - (j + 1)) (cuts (L.take j)) (cuts (L.take j) ++ cuts (L.drop (j + 1)))) (C := Ext w6) (by kernel_rfl) (by kernel_rfl) rfl Rx.refl (Ext.drew _) ?_
        simp only [List.take_succ_cons, List.take_zero]
        repeat (refine dep_det (by rfl) (fun K hK => ?_); go_simp; first
          | ((with_reducible refine hK _ ?_); clear hK K)
          | (rw [if_neg (by decide)]; (with_reducible refine hK _ ?_); clear hK K)
          | (refine ⟨_, fun w1 hw1 => ⟨Rx.refl w1, hw1, rfl⟩, hK _ ?_⟩; clear hK K)
          | (apply Exists.intro; refine ⟨fun w1 hw1 => ?_, hK _ ?_⟩
             first
               | (have c_v1 := cell_keep hw1 v1; go_simp; first | exact ⟨Rx.refl w1, hw1, rfl⟩ | exact ⟨Rx.refl w1, rfl⟩)
             clear hK K))
        refine dep_var (RwV w6.heap.size 124 6 j (cuts (L.take j))) 45 rfl (by rfl) RwV.one (by go_simp) (fun w1 hw1 => ?_) ?_
        · obtain ⟨A', c', w', hrun, hh⟩ := rx_first (P := Try.prog) w6 w1 54 54 124 j0 _ 6 24 Try.underlying54 HI.out hz0 hz1 hz2 rfl (by omega) hw1 (some ⟨g, 0, none⟩) j d (cuts (L.take j)) (cuts (L.take j) ++ cuts (L.drop (j + 1))) (L.length - (j + 1)) LT.out (HT.out w1 hw1) (cuts_one _) (by omega) (by omega)
          exact dep_append rfl hrun hh
        repeat (refine dep_det (by rfl) (fun K hK => ?_); go_simp; first
          | ((with_reducible refine hK _ ?_); clear hK K)
          | (rw [if_neg (by decide)]; (with_reducible refine hK _ ?_); clear hK K)
          | (refine ⟨_, fun w1 hw1 => ⟨Rx.refl w1, hw1, rfl⟩, hK _ ?_⟩; clear hK K)
          | (apply Exists.intro; refine ⟨fun w1 hw1 => ?_, hK _ ?_⟩
             first
               | (have c_v1 := cell_keep hw1 v1; go_simp; first | exact ⟨Rx.refl w1, hw1, rfl⟩ | exact ⟨Rx.refl w1, rfl⟩)
             clear hK K))
        refine dep_var1 45 _ (RwV w6.heap.size 124 6 (j + (L.length - (j + 1))) (cuts (L.take j) ++ cuts (L.drop (j + 1)))) 53 rfl (by rfl) (by intro V' h; simpa using h) (List.mem_cons_self ..) (by first | (simp; done) | simp [Act.put]) RwV.two (fun w1 v hw1 hV => ⟨by go_simp, ?_⟩) ?_
        · obtain ⟨A', c', w', hrun, hh⟩ := rx_second (P := Try.prog) w6 w1 54 54 124 j0 _ 6 24 Try.underlying54 HI.out hz0 hz1 hz2 rfl (by omega) hw1 _ j (L.length - (j + 1)) _ (cuts (L.take j)) (cuts (L.drop (j + 1))) v hV LD.out (HD.out w1 hw1) (cuts_one _) (by omega) (by omega)
          exact dep_append rfl hrun hh
        repeat (refine dep_det (by rfl) (fun K hK => ?_); go_simp; first
          | ((with_reducible refine hK _ ?_); clear hK K)
          | (rw [if_neg (by decide)]; (with_reducible refine hK _ ?_); clear hK K)
          | (refine ⟨_, fun w1 hw1 => ⟨Rx.refl w1, hw1, rfl⟩, hK _ ?_⟩; clear hK K)
          | (apply Exists.intro; refine ⟨fun w1 hw1 => ?_, hK _ ?_⟩
             first
               | (have c_v1 := cell_keep hw1 v1; go_simp; first | exact ⟨Rx.refl w1, hw1, rfl⟩ | exact ⟨Rx.refl w1, rfl⟩)
             clear hK K))
        refine dep_nil ?_
        intro a' w7 hC hE
        obtain ⟨v, ⟨A2, d2, rfl, r2⟩, hE⟩ := atEnd_cons hE (by simp) (by first | (simp; done) | simp [Act.put])
        obtain ⟨v, ⟨A1, d1, rfl, r1⟩, hE⟩ := atEnd_cons hE (by simp) (by first | (simp; done) | simp [Act.put])
        obtain rfl := atEnd_nil hE
        clear hE
        simp only [List.drop_succ_cons, List.drop_zero]
        have v9 := (S6.out.keep hC).l_
        have f9 := (S6.out.own.keep hC).frozen 1
        have hST := RS.store (B := B) (S := A2) (d := d2) (L := L.take j ++ L.drop (j + 1)) S6.out hC (by omega) (by rw [← cuts_app, NL.out]; exact r2)
        rw [NL.out] at hST
        have HST := Lib.hid hST
        have FR := Lib.hid ((F6.out.keep hC).other (Tr.set (P := fun x => x = gs) ⟨gs, 1, none⟩ (.slice A2 (j + (L.length - (j + 1))) d2) rfl) (fun x hx q => S6.out.apart F6.out x (.inl q) hx))
        clear r1 r2 hST
        go_wp2
        go_ret
        refine ⟨by rw [HE.out]; rfl, ?_⟩
        rw [HLL.out, HDP.out]
        exact ⟨_, _, _, _, HST.out.1, FR.out, T6.out.trans (HST.out.2.mono (Q := Un (RSB gs (some ⟨g, 0, none⟩)) (RFB gr ga gB A6)) (fun _ q => .inl q) (fun x q => by
          rcases q with q | q
          · exact .inl q
          · exact .inr (.inl (.inr q))))⟩

end Go.Proofs.Ytebkknkgkjblnaa
