/-
  WALKS of package slab: Give.
-/
import Derived.Test.YtebkknkgkjblnaaSlbE
namespace Go.Proofs.Ytebkknkgkjblnaa
open Go.RowKit Go.Maps
attribute [local go_sem] depUpon Sp.ok

def delP (L : List Pc) (f : Nat) : List Pc := L.filter fun a => !decide (a.f = f)
theorem delP_mem {L : List Pc} {f : Nat} {z : Pc} : z ∈ delP L f ↔ z ∈ L ∧ z.f ≠ f := by simp [delP, List.mem_filter]
theorem delP_upd (L : List Pc) (f : Nat) (sl : List Int) : delP (updS L f sl) f = delP L f := by
  unfold delP updS
  induction L with
  | nil => rfl
  | cons a L ih =>
    rw [List.map_cons]
    by_cases e : a.f = f
    · rw [if_pos e, List.filter_cons_of_neg (by simp [e]), List.filter_cons_of_neg (by simp [e])]; exact ih
    · rw [if_neg e, List.filter_cons_of_pos (by simp [e]), List.filter_cons_of_pos (by simp [e]), ih]
theorem sm_del (ad : AD) (L : List Pc) (f : Nat) : vdel (sm ad L) (f : Int) = sm ad (delP L f) := by
  unfold vdel sm delP
  rw [List.filter_map]
  congr 1
  exact List.filter_congr fun a _ => by simp; omega
theorem SP.drop {p : FP} {L : List Pc} (h : SP p L) (f : Nat) : SP (p.gvn f) (delP L f) := by
  refine ⟨fun a ha => ?_, h.srt.filter _⟩
  obtain ⟨h1, h2⟩ := delP_mem.1 ha
  have ok := h.ok a h1
  exact ⟨ok.lt, by show (p.tk.set f false)[a.f]? = _; rw [List.getElem?_set_ne (fun e => h2 e.symm)]; exact ok.tk, ok.sz, ok.ls, ok.ne, ok.sl⟩
theorem SP.less {p : FP} {L : List Pc} (h : SP p L) {a : Pc} (ha : a ∈ L) {i : Int} (hne : sdel a.sl i ≠ []) : SP p (updS L a.f (sdel a.sl i)) := by
  refine ⟨fun z hz => ?_, ?_⟩
  · rcases updS_mem h ha hz with rfl | ⟨hz', _⟩
    · have ok := h.ok a ha
      exact ⟨ok.lt, ok.tk, ok.sz, ok.ls.del i, hne, fun j hj => ok.sl j (sdel_mem.1 hj).1⟩
    · exact h.ok z hz'
  · have := List.pairwise_map.2 h.srt
    rw [← updS_f L a.f (sdel a.sl i)] at this
    exact List.pairwise_map.1 this
/-- What Give answers and leaves. -/
def giveE (L : List Pc) (f i s : Int) : Int := if hasB L f i s = true then 0 else 4
def slOf (L : List Pc) (f : Int) : List Int := match L.find? fun a => decide ((a.f : Int) = f) with
  | some a => a.sl
  | none => []
def giveL (p : FP) (L : List Pc) (f i s : Int) : FP × List Pc :=
  if hasB L f i s = true then (if sdel (slOf L f) i = [] then (p.gvn f.toNat, delP L f.toNat) else (p, updS L f.toNat (sdel (slOf L f) i))) else (p, L)
theorem slOf_of {p : FP} {L : List Pc} (h : SP p L) {a : Pc} (ha : a ∈ L) : slOf L (a.f : Int) = a.sl := by
  unfold slOf
  cases hf : L.find? (fun b => decide ((b.f : Int) = (a.f : Int))) with
  | none =>
    have := List.find?_eq_none.1 hf a ha
    simp at this
  | some b =>
    have h1 := List.find?_some hf
    simp only [decide_eq_true_eq] at h1
    have := h.inj (List.mem_of_find?_eq_some hf) ha (by omega)
    rw [this]
theorem hasB_inv {L : List Pc} {f i s : Int} (h : hasB L f i s = true) : ∃ a ∈ L, (a.f : Int) = f ∧ a.sz = s ∧ i ∈ a.sl := by
  unfold hasB at h
  rw [List.any_eq_true] at h
  obtain ⟨a, ha, q⟩ := h
  exact ⟨a, ha, by simpa using q⟩
theorem SP.give {p : FP} {L : List Pc} (h : SP p L) (f i s : Int) : SP (giveL p L f i s).1 (giveL p L f i s).2 := by
  unfold giveL
  by_cases hb : hasB L f i s = true
  · rw [if_pos hb]
    obtain ⟨a, ha, rfl, _, _⟩ := hasB_inv hb
    rw [slOf_of h ha, Int.toNat_natCast]
    by_cases he : sdel a.sl i = []
    · rw [if_pos he]; exact h.drop a.f
    · rw [if_neg he]; exact h.less ha he
  · rw [if_neg hb]; exact h
theorem SP.take {p : FP} {L : List Pc} (h : SP p L) (hp : p.ok) (size : Int) : SP (takeL p L size).1 (takeL p L size).2 := by
  unfold takeL
  by_cases hc : cls size = 0
  · rw [if_pos hc]; exact h
  · rw [if_neg hc]
    cases hk : pickS (cls size) L with
    | some q =>
      obtain ⟨a, i⟩ := q
      obtain ⟨h1, h2⟩ := pickS_inv hk
      exact (h.hit h1 h2).1
    | none =>
      cases ht : p.top with
      | some f => exact h.add hp ht (cls_of hc)
      | none => exact h
section
variable {w w' : World} {B gs gm gf : Nat} {ad : AD} {L : List Pc}
/-- A sheet is struck. -/
theorem SS.drop (h : SS w B gs gm gf ad L) (f : Nat) (hm : MS w' gm (vdel (sm ad L) (f : Int))) (hg : w.grownBy w' (some gm)) : SS w' B gs gm gf ad (delP L f) :=
  ⟨h.own.grown hg (fun q => h.map.own_ne h.own (by injection q with q; exact q.symm)), by rw [← sm_del]; exact hm, fun x hx => ⟨(h.shs x (delP_mem.1 hx).1).1.grown hg (fun q => h.map.own_ne (h.shs x (delP_mem.1 hx).1).1 (by injection q with q; exact q.symm)), (h.shs x (delP_mem.1 hx).1).2.grown hg (fun q => h.ngm x (delP_mem.1 hx).1 (by injection q))⟩,
    fun x hx y hy => h.inj x (delP_mem.1 hx).1 y (delP_mem.1 hy).1, fun x hx => h.ngm x (delP_mem.1 hx).1, fun i hi => h.lo i (by
      rcases hi with q | q | ⟨x, hx, q⟩
      · exact .inl q
      · exact .inr (.inl q)
      · exact .inr (.inr ⟨x, (delP_mem.1 hx).1, q⟩))⟩
theorem SB_drop {f i : Nat} (hi : SB gs gm ad (delP L f) i) : SB gs gm ad L i := by
  rcases hi with q | q | ⟨x, hx, q⟩
  · exact .inl q
  · exact .inr (.inl q)
  · exact .inr (.inr ⟨x, (delP_mem.1 hx).1, q⟩)
end
structure SGave (w w' : World) (B gs gm gf gb gt : Nat) (A : Option Addr) (ad : AD) (p : FP) (L : List Pc) (f i s : Int) (e : Ending) : Prop where
  ret : e = .returned (.int .i64 (giveE L f i s))
  st : ∃ A' c', SS w' B gs gm gf ad (giveL p L f i s).2 ∧ FS w' B gf gb gt A' c' (giveL p L f i s).1 ∧ Tr w w' (Un (SB gs gm ad L) (FB gf gb gt A)) (Un (SB gs gm ad (giveL p L f i s).2) (FB gf gb gt A'))

set_option maxRecDepth 100000 in
set_option maxHeartbeats 8000000 in
theorem s_give (B gs gm gf gb gt : Nat) (A : Option Addr) (c : Nat) (ad : AD) (p : FP) (L : List Pc) (f i s : Int) (w : World) (h : SS w B gs gm gf ad L) (hf : FS w B gf gb gt A c p) (hp : SP p L) (hB : B ≤ w.heap.size) (hf1 : I64 f) (hi1 : I64 i) :
    Calls Try.prog 43 #[.pointer (some ⟨gs, 0, none⟩), .agg #[.int .i64 f, .int .i64 i, .int .i64 s]] w fun e w' => SGave w w' B gs gm gf gb gt A ad p L f i s e := by
  have bX := Ext.alloc w (.cells #[.int .i64 f, .int .i64 i, .int .i64 s] 84)
  have oX := Own.new w 84 [.int .i64 f, .int .i64 i, .int .i64 s]
  have hlw := h.lt
  have HHS := Lib.hid (s_has B gs gm gf ad p L f i s _ (h.keep bX) hp hf1 hi1)
  cases hb : hasB L f i s with
  | false =>
    have HE := Lib.hid (show giveE L f i s = 4 by unfold giveE; rw [hb]; rfl)
    have HL := Lib.hid (show giveL p L f i s = (p, L) by unfold giveL; rw [hb]; rfl)
    rw [hb] at HHS
    have HH := Lib.hid (And.intro h hf)
    clear h hf hp hb
    go_enter Try.func43, Try.ntmps43
    go_upto_region 1 with fail
    generalize w.alloc (.cells #[.int .i64 f, .int .i64 i, .int .i64 s] 84) = w1 at *
    have x0 := oX.cell 0
    have x1 := oX.cell 1
    have x2 := oX.cell 2
    simp only [List.getElem?_cons_zero, List.getElem?_cons_succ] at x0 x1 x2
    go_wp2_with ((with_reducible go_at_call 54); (with_reducible refine (HHS.out).mono ?_); rintro e w2 ⟨rfl, b2⟩)
    go_ret
    have b3 := Ext.trans bX b2
    exact ⟨by rw [HE.out]; rfl, A, c, by rw [HL.out]; exact HH.out.1.keep b3, by rw [HL.out]; exact HH.out.2.keep b3, by rw [HL.out]; exact Tr.ext b3⟩
  | true =>
    have HE := Lib.hid (show giveE L f i s = 0 by unfold giveE; rw [hb]; rfl)
    rw [hb] at HHS
    obtain ⟨a, ha, hfa, hsz, hin⟩ := hasB_inv hb
    subst hfa
    have hL : giveL p L (a.f : Int) i s = if sdel a.sl i = [] then (p.gvn a.f, delP L a.f) else (p, updS L a.f (sdel a.sl i)) := by
      unfold giveL
      rw [if_pos hb, slOf_of hp ha, Int.toNat_natCast]
    have HL := Lib.hid hL
    have hok := hp.ok a ha
    have hl4 := hok.len
    have HH := Lib.hid h
    have HF := Lib.hid hf
    have HP := Lib.hid hp
    have HAM := Lib.hid ha
    have HTK := Lib.hid hok.tk
    have HLK := Lib.hid (fun w' (S : SS w' B gs gm gf ad L) => S.map.look Try.underlying108 (zero_ptr w') hf1)
    rw [show vget (sm ad L) (a.f : Int) = some (pv_ ad a.f) from sm_get ha] at HLK
    simp only [Option.getD_some, pv_] at HLK
    have hold1 := hlw _ (.inr (.inr ⟨a, ha, .inl rfl⟩))
    have hold2 := hlw _ (.inr (.inr ⟨a, ha, .inr rfl⟩))
    have hold3 := hlw gm (.inr (.inl rfl))
    have HAP := Lib.hid (h.apart hf)
    have HNM := Lib.hid (h.ngm a ha)
    have HNX := Lib.hid (h.map.own_ne (h.shs a ha).1)
    have HNY := Lib.hid ((h.shs a ha).2.own_ne (h.shs a ha).1)
    have HNG := Lib.hid ((h.shs a ha).2.own_ne h.own)
    have HNS := Lib.hid (h.map.own_ne h.own)
    have HI1 := Lib.hid hi1
    have hlo := h.lo
    clear h hf hp hb ha hsz hL hok hlw
    go_enter Try.func43, Try.ntmps43
    go_upto_region 1 with fail
    generalize hw1 : w.alloc (.cells #[.int .i64 (a.f : Int), .int .i64 i, .int .i64 s] 84) = w1 at *
    clear hw1
    have x0 := oX.cell 0
    have x1 := oX.cell 1
    have x2 := oX.cell 2
    simp only [List.getElem?_cons_zero, List.getElem?_cons_succ] at x0 x1 x2
    go_upto_region 5 with ((with_reducible go_at_call 54); (with_reducible refine (HHS.out).mono ?_); rintro e w2 ⟨rfl, b2⟩)
    have O2 := Lib.hid (oX.keep b2)
    replace x0 := cell_keep b2 x0
    have b12 := Ext.trans bX b2
    have S2 := Lib.hid (HH.out.keep b12)
    have v2 := S2.out.own.cell 2
    simp only [List.getElem?_cons_zero, List.getElem?_cons_succ] at v2
    clear x1 x2 bX b2 oX HHS
    refine wp_region_dep (S := Ext) (C := Ext (w2)) (by kernel_rfl) (by kernel_rfl) rfl Ext.refl (Ext.drew _) ?_
    repeat (refine dep_det (by rfl) (fun K hK => ?_); go_simp; first
      | ((with_reducible refine hK _ ?_); clear hK K)
      | (rw [if_neg (by decide)]; (with_reducible refine hK _ ?_); clear hK K)
      | (refine ⟨_, fun w1 hw1 => ⟨Ext.refl w1, hw1, rfl⟩, hK _ ?_⟩; clear hK K)
      | (apply Exists.intro; refine ⟨fun w1 hw1 => ?_, hK _ ?_⟩
         first
           | (have c_x0 := cell_keep hw1 x0; have c_v2 := cell_keep hw1 v2; go_simp; first | exact ⟨Ext.refl _, hw1, rfl⟩ | exact ⟨Ext.refl _, rfl⟩)
           | (have hlk := HLK.out _ (S2.out.keep hw1); go_simp; first | exact ⟨Ext.refl _, hw1, rfl⟩ | exact ⟨Ext.refl _, rfl⟩)
         clear hK K))
    refine dep_nil ?_
    intro a' w' hC hE
    obtain rfl := atEnd_nil hE
    clear hE
    have b13 := Ext.trans b12 hC
    have O3 := Lib.hid (O2.out.keep hC)
    have S3 := Lib.hid (HH.out.keep b13)
    have x1 := O3.out.cell 1
    have y1 := (S3.out.shs a HAM.out).1.cell 1
    simp only [List.getElem?_cons_zero, List.getElem?_cons_succ] at x1 y1
    clear x0 v2 hC b12
    go_upto_region 6 with fail
    refine wp_region_dep_tail 6 (S := Ext) (C := Ext (w')) (by kernel_rfl) (by kernel_rfl) rfl Ext.refl (Ext.drew _) ?_
    simp only [List.take_succ_cons, List.take_zero]
    repeat (refine dep_det (by rfl) (fun K hK => ?_); go_simp; first
      | ((with_reducible refine hK _ ?_); clear hK K)
      | (rw [if_neg (by decide)]; (with_reducible refine hK _ ?_); clear hK K)
      | (refine ⟨_, fun w1 hw1 => ⟨Ext.refl w1, hw1, rfl⟩, hK _ ?_⟩; clear hK K)
      | (apply Exists.intro; refine ⟨fun w1 hw1 => ?_, hK _ ?_⟩
         first
           | (have c_x1 := cell_keep hw1 x1; have c_y1 := cell_keep hw1 y1; go_simp; first | exact ⟨Ext.refl _, hw1, rfl⟩ | exact ⟨Ext.refl _, rfl⟩)
         clear hK K))
    refine dep_nil ?_
    intro a' w' hC hE
    obtain rfl := atEnd_nil hE
    clear hE
    simp only [List.drop_succ_cons, List.drop_zero]
    have b14 := Lib.hid (Ext.trans b13 hC)
    have O4 := Lib.hid (O3.out.keep hC)
    have S4 := Lib.hid (HH.out.keep b14.out)
    clear x1 y1 hC b13 O3 S3 O2 S2
    go_upto_region 7 with (at_delete; refine wpl_del_kv _ rfl _ _ 118 rfl 3 Try.underlying118 (ad a.f).2 (sq a.sl) rfl (S4.out.shs a HAM.out).2 i HI1.out rfl ?_; intro w5 m5 g5)
    rw [sq_del] at m5
    have hS5 := S4.out.slots HP.out HAM.out m5 g5
    have O5 := Lib.hid (O4.out.grown g5 (fun q => by injection q with q; omega))
    have hF4 := HF.out.keep b14.out
    have hP5 : ∀ wz, wz.grownBy w5 (some (ad a.f).2) → Tr wz w5 (fun x => x = (ad a.f).2) (fun x => x = (ad a.f).2) := fun wz gz => Tr.grown gz (fun g q => .inl (by injection q with q; exact q.symm))
    have F5 := Lib.hid (hF4.other (hP5 _ g5) (fun x hx q => HAP.out x (.inr (.inr ⟨a, HAM.out, .inr q⟩)) hx))
    have y1 := ((S4.out.shs a HAM.out).1.grown g5 (fun q => HNY.out (by injection q with q; exact q.symm))).cell 1
    simp only [List.getElem?_cons_zero, List.getElem?_cons_succ] at y1
    have hln := m5.len Try.underlying118 3
    rw [sq_len] at hln
    have hT5 : Tr w w5 (Un (SB gs gm ad L) (FB gf gb gt A)) (Un (SB gs gm ad L) (FB gf gb gt A)) := (Tr.ext b14.out).step g5 (fun g q => .inl (.inl (by injection q with q; rw [← q]; exact .inr (.inr ⟨a, HAM.out, .inr rfl⟩))))
    have S5 := Lib.hid hS5.1
    have T5 := Lib.hid hT5
    have x0 := O5.out.cell 0
    simp only [List.getElem?_cons_zero] at x0
    have v1 := S5.out.own.cell 1
    have v2 := S5.out.own.cell 2
    simp only [List.getElem?_cons_zero, List.getElem?_cons_succ] at v1 v2
    have hz5 := hT5.base.size
    clear hS5 hF4 hP5 hT5 g5 m5
    cases hsl : sdel a.sl i with
    | cons z r =>
      rw [hsl] at HL hln
      have HL' := Lib.hid (show giveL p L (a.f : Int) i s = (p, updS L a.f (z :: r)) by rw [HL.out, if_neg (by simp)])
      rw [hsl] at S5
      have tl : (((z :: r).length : Int) == 0) = false := by simp; omega
      go_wp2
      go_ret
      exact ⟨by rw [HE.out]; rfl, A, c, by rw [HL'.out]; exact S5.out, by rw [HL'.out]; exact F5.out, by rw [HL'.out]; exact T5.out.to (fun x hx => by
        rcases hx with hx | hx
        · exact .inl (.inl (SB_upd HP.out HAM.out hx))
        · exact .inl (.inr hx))⟩
    | nil =>
      rw [hsl] at HL hln S5
      have HL' := Lib.hid (show giveL p L (a.f : Int) i s = (p.gvn a.f, delP L a.f) by rw [HL.out, if_pos rfl])
      clear HL
      rw [show (([] : List Int).length : Int) = 0 from rfl] at hln
      go_upto_region 8 with fail
      refine wp_region_dep_tail 6 (S := Ext) (C := Ext (w5)) (by kernel_rfl) (by kernel_rfl) rfl Ext.refl (Ext.drew _) ?_
      simp only [List.take_succ_cons, List.take_zero]
      repeat (refine dep_det (by rfl) (fun K hK => ?_); go_simp; first
        | ((with_reducible refine hK _ ?_); clear hK K)
        | (rw [if_neg (by decide)]; (with_reducible refine hK _ ?_); clear hK K)
        | (refine ⟨_, fun w1 hw1 => ⟨Ext.refl w1, hw1, rfl⟩, hK _ ?_⟩; clear hK K)
        | (apply Exists.intro; refine ⟨fun w1 hw1 => ?_, hK _ ?_⟩
           first
             | (have c_x0 := cell_keep hw1 x0; have c_v2 := cell_keep hw1 v2; go_simp; first | exact ⟨Ext.refl _, hw1, rfl⟩ | exact ⟨Ext.refl _, rfl⟩)
           clear hK K))
      refine dep_nil ?_
      intro a' w' hC hE
      obtain rfl := atEnd_nil hE
      clear hE
      simp only [List.drop_succ_cons, List.drop_zero]
      have S6 := Lib.hid (S5.out.keep hC)
      have F6 := Lib.hid (F5.out.keep hC)
      have O6 := Lib.hid (O5.out.keep hC)
      have T6 := Lib.hid (T5.out.stepE hC)
      clear x0 v1 v2 y1 hln hC S5 F5 O5 T5
      go_upto_region 9 with (at_delete; refine wpl_del_kv _ rfl _ _ 108 rfl 115 Try.underlying108 gm (sm ad (updS L a.f [])) rfl S6.out.map (a.f : Int) hf1 rfl ?_; intro w7 m7 g7)
      have hS7 := S6.out.drop a.f m7 g7
      rw [delP_upd] at hS7
      have hP7 : ∀ wz, wz.grownBy w7 (some gm) → Tr wz w7 (fun x => x = gm) (fun x => x = gm) := fun wz gz => Tr.grown gz (fun g q => .inl (by injection q with q; exact q.symm))
      have F7 := Lib.hid (F6.out.other (hP7 _ g7) (fun x hx q => HAP.out x (.inr (.inl q)) hx))
      have O7 := Lib.hid (O6.out.grown g7 (fun q => by injection q with q; omega))
      have T7 := Lib.hid (T6.out.step g7 (fun g q => .inl (.inl (by injection q with q; rw [← q]; exact .inr (.inl rfl)))))
      have S7 := Lib.hid hS7
      have x0 := O7.out.cell 0
      have v1 := S7.out.own.cell 1
      simp only [List.getElem?_cons_zero, List.getElem?_cons_succ] at x0 v1
      clear hS7 hP7 m7 g7 S6 F6 O6 T6
      refine wp_region_dep_tail 6 (S := Ext) (C := Ext (w7)) (by kernel_rfl) (by kernel_rfl) rfl Ext.refl (Ext.drew _) ?_
      simp only [List.take_succ_cons, List.take_zero]
      repeat (refine dep_det (by rfl) (fun K hK => ?_); go_simp; first
        | ((with_reducible refine hK _ ?_); clear hK K)
        | (rw [if_neg (by decide)]; (with_reducible refine hK _ ?_); clear hK K)
        | (refine ⟨_, fun w1 hw1 => ⟨Ext.refl w1, hw1, rfl⟩, hK _ ?_⟩; clear hK K)
        | (apply Exists.intro; refine ⟨fun w1 hw1 => ?_, hK _ ?_⟩
           first
             | (have c_x0 := cell_keep hw1 x0; have c_v1 := cell_keep hw1 v1; go_simp; first | exact ⟨Ext.refl _, hw1, rfl⟩ | exact ⟨Ext.refl _, rfl⟩)
           clear hK K))
      refine dep_nil ?_
      intro a' w' hC hE
      obtain rfl := atEnd_nil hE
      clear hE
      simp only [List.drop_succ_cons, List.drop_zero]
      have T8 := Lib.hid (T7.out.stepE hC)
      have hz8 := T8.out.base.size
      have HFG := Lib.hid (f_give B gf gb gt A c p a.f _ (F7.out.keep hC) HTK.out (by omega))
      have S8 := Lib.hid (S7.out.keep hC)
      clear x0 v1
      go_wp2_with ((with_reducible go_at_call 48); (with_reducible refine HFG.out.mono ?_); rintro e w9 ⟨rfl, A9, c9, f9, t9⟩)
      go_ret
      have hU : ∀ x, SB gs gm ad (delP L a.f) x → ¬ FB gf gb gt A x := fun x hx => HAP.out x (SB_drop hx)
      have hT9 : Tr w w9 (Un (SB gs gm ad L) (FB gf gb gt A)) (Un (SB gs gm ad L) (FB gf gb gt A9)) := T8.out.trans (t9.mono (Q := Un (SB gs gm ad L) (FB gf gb gt A)) (fun _ q => .inr q) (fun x hx => by
        rcases hx with hx | hx
        · exact .inr (.inl (.inl hx))
        · exact .inl hx))
      exact ⟨by rw [HE.out]; rfl, A9, c9, by rw [HL'.out]; exact S8.out.other t9 hU, by rw [HL'.out]; exact f9, by rw [HL'.out]; exact hT9.to (fun x hx => by
        rcases hx with hx | hx
        · exact .inl (.inl (SB_drop hx))
        · exact .inl (.inr hx))⟩

end Go.Proofs.Ytebkknkgkjblnaa
