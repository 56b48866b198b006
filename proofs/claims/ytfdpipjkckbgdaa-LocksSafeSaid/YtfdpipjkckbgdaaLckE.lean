/-
  LOCKS: Unlock, Leave, Run.
-/
import Derived.Test.YtfdpipjkckbgdaaLckD
namespace Go.Proofs.Ytfdpipjkckbgdaa
open Go.RowKit Go.Maps
attribute [local go_sem] depUpon Sp.ok

theorem LW.hsome {s : LS} {t : Int} (h : s.hl t ≠ []) : s.H t = some (s.hl t) := by
  unfold LS.hl at h ⊢
  cases hx : s.H t with
  | none => rw [hx] at h; exact absurd rfl h
  | some xs => rfl
theorem pairs_drop (xs : List (Int × Int)) (k : Nat) : pairs (xs.take k) = (pairs xs).take (k * 2) := by
  induction xs generalizing k with
  | nil => simp [pairs]
  | cons x r ih =>
    cases k with
    | zero => simp [pairs]
    | succ k =>
      have := ih k
      simp only [pairs, List.take_succ_cons, List.flatMap_cons] at this ⊢
      rw [this, show (k + 1) * 2 = k * 2 + 1 + 1 by omega]
      rfl
/-- Unlock's error; what is held and waited for then. -/
def unlE (s : LS) (t m : Int) : Int := if (s.mu t).getLast? = some m then 0 else 6
def unlS (s : LS) (t m : Int) : LS := if unlE s t m = 0 then (s.setH t (some (s.hl t).dropLast)).setW (freeW s.W [m]) else s
/-- What Unlock leaves. -/
def Unl (w w' : World) (B : Nat) (a : LA) (s : LS) (N : Nat) (t m : Int) (e : Ending) : Prop :=
  ∃ ws A' c', e = .returned (.tuple #[.slice A' ws.length c', .int .i64 (unlE s t m)]) ∧ Row w' w.heap.size 3 1 A' ws.length c' (ints ws) ∧ (if unlE s t m = 0 then Woken s [m] ws else ws = []) ∧ ws.length ≤ N + 1 ∧ ∃ P', KX w' B a.g a.gt (unlS s t m) (N + 1) P' ∧ Tr w w' (LB a s) P'
theorem last_of {xs : List (Int × Int)} {n : Nat} (hn : xs.length = n + 1) : (xs.map Prod.fst).getLast? = some (xs[n]'(by omega)).1 ∧ xs.dropLast = xs.take n := by
  refine ⟨?_, ?_⟩
  · rw [List.getLast?_eq_getElem?, List.length_map, show xs.length - 1 = n by omega, List.getElem?_map, List.getElem?_eq_getElem (by omega)]
    rfl
  · rw [List.dropLast_eq_take, hn, Nat.add_sub_cancel]

set_option maxRecDepth 100000 in
set_option maxHeartbeats 4000000 in
theorem k_unlock (B : Nat) (a : LA) (s : LS) (N : Nat) (t m : Int) (w : World) (h : LW w B a s N) (ht : I64 t) (hN : N ≤ 50000) :
    Calls Try.prog 14 #[.pointer (some ⟨a.g, 0, none⟩), .int .i64 t, .int .i64 m] w fun e w' => Unl w w' B a s N t m e := by
  have v1 := h.h_
  have hlk := h.hlook ht
  have hrow := h.hrow t
  have hlen := h.hlen t
  have HE := Lib.hid (show unlE s t m = if (s.mu t).getLast? = some m then 0 else 6 from rfl)
  have HNO := Lib.hid (fun (q : unlE s t m = 6) => show Unl w w B a s N t m (.returned (.tuple #[.slice none 0 0, .int .i64 6])) from
    ⟨[], none, 0, by rw [q]; rfl, Row.nil _ _ _ _, by rw [q]; rfl, by simp, LB a s, by unfold unlS; rw [q, if_neg (by decide)]; exact ⟨a, rfl, rfl, h.mono (by omega), rfl⟩, Tr.refl⟩)
  by_cases h0 : s.hl t = []
  · have E := Lib.hid (show unlE s t m = 6 by rw [HE.out]; unfold LS.mu; rw [h0]; rfl)
    rw [h0] at hlk
    simp only [List.length_nil] at hlk
    clear h hrow
    go_enter Try.func14, Try.ntmps14
    go_wp2
    go_ret2
    exact HNO.out E.out
  obtain ⟨n, hn⟩ : ∃ n, (s.hl t).length = n + 1 := ⟨(s.hl t).length - 1, by have := List.length_pos_iff.2 h0; omega⟩
  obtain ⟨hla, hdl⟩ := last_of hn
  have hH := LW.hsome h0
  obtain ⟨ga, hga⟩ := hrow.addr (by omega)
  obtain ⟨b', o', e', c0, c00⟩ := hrow.rd.pair (k := n) (by omega)
  clear c00
  rw [hga] at e' hlk
  injection e' with e'; injection e' with e1 e2
  subst e1; subst e2
  simp only [Nat.zero_add] at c0
  have hw1 : IntKind.i64.wrap (((s.hl t).length : Int) - 1) = (n : Int) := by rw [IntWalk.i64_in _ ⟨by omega, by omega⟩]; omega
  have hle : n + 1 ≤ hC a s t := by
    rcases hrow.2 with ⟨hv, h0'⟩ | ⟨g, cap, cur, hv, _, _, hnc, _⟩
    · omega
    · injection hv with q1 q2 q3; omega
  have hmul : ((s.hl t)[n]'(by omega)).1 = ((s.hl t)[n]'(by omega)).1 := rfl
  generalize hx : ((s.hl t)[n]'(by omega)).1 = x at c0 hla
  have HLA := Lib.hid (show (s.mu t).getLast? = some x from hla)
  clear hmul hx hla
  have n0' : (0 : Int) ≤ (n : Int) := by omega
  have n1' : (n : Int) < ((s.hl t).length : Int) := by omega
  have n2' : (n : Int) ≤ ((hC a s t : Nat) : Int) := by omega
  have n3' : (((s.hl t).length : Int) == 0) = false := beq_eq_false_iff_ne.2 (by omega)
  have HNN := Lib.hid hn
  have n4' : n < (s.hl t).length := by omega
  have n5' : n + 1 ≤ 60000 := by omega
  by_cases hm : x = m
  rotate_left
  · have E := Lib.hid (show unlE s t m = 6 by rw [HE.out, HLA.out, if_neg (fun q => hm (by injection q))])
    have t1 : (x != m) = true := by simp [hm]
    clear h hrow hm hn hdl
    generalize (s.hl t).length = ln at *
    go_enter Try.func14, Try.ntmps14
    go_wp2
    go_ret2
    exact HNO.out E.out
  subst hm
  have E := Lib.hid (show unlE s t x = 0 by rw [HE.out, HLA.out, if_pos rfl])
  have t1 : (x != x) = false := by simp
  obtain ⟨L, l1, l2, l3⟩ := h.hm
  have HL1 := Lib.hid l1
  have HL2 := Lib.hid l2
  have HL3 := Lib.hid l3
  have HH := Lib.hid h
  have HGA := Lib.hid hga
  have HSH := Lib.hid (show Row w B 46 2 (hA a s t) ((s.hl t).dropLast).length (hC a s t) (pairs (s.hl t).dropLast) from by
    have := hrow.shrink (m := n) (by omega)
    rw [hdl, pairs_drop, List.length_take, hn, Nat.min_eq_left (by omega)]
    exact this)
  have HDL := Lib.hid (show ((s.hl t).dropLast).length = n by rw [hdl, List.length_take, hn]; omega)
  have HS2 := Lib.hid (show unlS s t x = (s.setH t (some (s.hl t).dropLast)).setW (freeW s.W [x]) by unfold unlS; rw [if_pos E.out])
  clear h hrow hdl hH HE HNO HLA l1 l2 l3
  clear hn
  generalize hlq : (s.hl t).length = ln at *
  clear hlq
  generalize hcc : hC a s t = c at *
  have HCC := Lib.hid hcc
  clear hcc
  go_enter Try.func14, Try.ntmps14
  go_upto_region 6 with fail
  refine wp_region_dep_tail 10 (S := Ext) (C := Ext (w)) (by kernel_rfl) (by kernel_rfl) rfl Ext.refl (Ext.drew _) ?_
  simp only [List.take_succ_cons, List.take_zero]
  repeat (refine dep_det (by rfl) (fun K hK => ?_); go_simp; first
    | ((with_reducible refine hK _ ?_); clear hK K)
    | (rw [if_neg (by decide)]; (with_reducible refine hK _ ?_); clear hK K)
    | (refine ⟨_, fun w1 hw1 => ⟨Ext.refl w1, hw1, rfl⟩, hK _ ?_⟩; clear hK K)
    | (apply Exists.intro; refine ⟨fun w1 hw1 => ?_, hK _ ?_⟩
       first
         | (have c_v1 := cell_keep hw1 v1; go_simp; first | exact ⟨Ext.refl _, hw1, rfl⟩ | exact ⟨Ext.refl _, rfl⟩)
       clear hK K))
  refine dep_nil ?_
  intro a' w' hC hE
  obtain rfl := atEnd_nil hE
  clear hE
  simp only [List.drop_succ_cons, List.drop_zero]
  have HC1 := Lib.hid hC
  have M1 := Lib.hid (HL1.out.keep hC)
  clear hC v1 hlk c0
  go_upto_region 7 with (at_mapUpdate; refine wpl_put_kv _ rfl _ _ _ 62 (.inl rfl) 42 Try.underlying62 a.gh L rfl M1.out t ht rfl (.slice (some ⟨ga, 0, none⟩) n c) rfl (by have := HL3.out; omega) ?_; intro w5 m5 g5)
  have hSH := HSH.out
  have hQ : Tr w w' (fun i => blk (hA a s t) = some i) (fun i => blk (hA a s t) = some i) := Tr.ext HC1.out
  have m5' : MS w5 a.gh (vput L t (.slice (hA a s t) ((s.hl t).dropLast).length c)) := by rw [HGA.out, HDL.out]; exact m5
  have HP := Lib.hid (HH.out.setH HL1.out HL2.out HL3.out hQ (hSH.keep HC1.out) m5' g5 (by rw [HDL.out]; omega))
  clear m5 m5' g5 hSH hQ M1
  have bA := Ext.alloc w5 (.cells #[.int .i64 x] 3)
  have HF := Lib.hid (k_free B _ _ (N + 1) w5.heap.size (some ⟨w5.heap.size, 0, none⟩) 1 1 [x] (w5.alloc (.cells #[.int .i64 x] 3)) (HP.out.1.keep bA) (by omega) (Row.ofOwn (Own.new w5 3 (ints [x])) (Nat.le_refl _) rfl (by omega)) rfl (by omega))
  have hgg : (a.setAd t (hA a s t, c)).g = a.g := rfl
  rw [hgg] at HF
  have hgt2 : (a.setAd t (hA a s t, c)).gt = a.gt := rfl
  rw [hgt2] at HF
  clear hgt2
  have HTA := Lib.hid ((HP.out.2).trans (Tr.ext bA))
  have hz := HTA.out.base.size
  clear hgg
  go_wp2_with ((with_reducible go_at_call 31); (with_reducible refine HF.out.mono ?_); rintro e w6 ⟨ws, A6, c6, rfl, r6, k6, l6, P6, p6, t6⟩)
  go_ret2
  refine ⟨ws, A6, c6, by rw [E.out]; rfl, r6.mono hz, by rw [E.out, if_pos rfl]; exact k6, l6, P6, by rw [HS2.out]; exact p6, HTA.out.trans t6⟩

/-- What is held and waited for when a thread left. -/
def leaveS (s : LS) (t : Int) : LS := ((s.setW (fset s.W t none)).setH t none).setW (freeW (fset s.W t none) (s.mu t))
set_option maxRecDepth 100000 in
set_option maxHeartbeats 4000000 in
theorem k_leave (B : Nat) (a : LA) (s : LS) (N : Nat) (t : Int) (w : World) (h : LW w B a s N) (ht : I64 t) (hN : N ≤ 50000) :
    Calls Try.prog 13 #[.pointer (some ⟨a.g, 0, none⟩), .int .i64 t] w fun e w' => ∃ ws A' c', e = .returned (.slice A' ws.length c') ∧ Row w' w.heap.size 3 1 A' ws.length c' (ints ws) ∧ Woken (s.setW (fset s.W t none)) (s.mu t) ws ∧ ws.length ≤ N ∧ ∃ P', KX w' B a.g a.gt (leaveS s t) N P' ∧ Tr w w' (LB a s) P' := by
  have HNU := Lib.hid (k_numbers B a s N t w h ht (by omega))
  have HH := Lib.hid h
  have hlen := h.hlen t
  have HML := Lib.hid (show (s.mu t).length = (s.hl t).length by unfold LS.mu; rw [List.length_map])
  clear h
  go_enter Try.func13, Try.ntmps13
  go_upto_region 4 with ((with_reducible go_at_call 30); (with_reducible refine HNU.out.mono ?_); rintro e w1 ⟨A1, c1, rfl, r1, b1⟩)
  have H1 := Lib.hid (HH.out.keep b1)
  have R1 := Lib.hid r1
  have hz1 := b1.size
  have v2 := H1.out.w_
  obtain ⟨M, n1, n2, n3⟩ := H1.out.wm
  have HN1 := Lib.hid n1
  have HN2 := Lib.hid n2
  have HN3 := Lib.hid n3
  clear n1 n2 n3 r1
  go_upto_region 5 with (at_delete; refine wpl_del_kv _ rfl _ _ 63 rfl 3 Try.underlying63 a.gw M rfl HN1.out t ht rfl ?_; intro w2 m2 g2; have HP := Lib.hid (H1.out.delW HN1.out HN2.out HN3.out m2 g2); clear m2 g2)
  have H2 := Lib.hid HP.out.1
  have T2 := Lib.hid (show Tr w1 w2 (LB a s) (LB a s) from HP.out.2)
  have R2 := Lib.hid (T2.out.row R1.out (H1.out.noRow R1.out (by decide) (by decide) (by decide) (by decide)))
  clear HP v2
  have v1 := H2.out.h_
  obtain ⟨L, l1, l2, l3⟩ := H2.out.hm
  have HL1 := Lib.hid l1
  have HL2 := Lib.hid l2
  have HL3 := Lib.hid l3
  clear l1 l2 l3
  go_upto_region 6 with (at_delete; refine wpl_del_kv _ rfl _ _ 62 rfl 42 Try.underlying62 a.gh L rfl HL1.out t ht rfl ?_; intro w3 m3 g3; have HP := Lib.hid (H2.out.delH HL1.out HL2.out HL3.out m3 g3); clear m3 g3)
  have H3 := Lib.hid HP.out.1
  have T3 := Lib.hid HP.out.2
  have R3 := Lib.hid (T3.out.row R2.out (H2.out.noRow R2.out (by decide) (by decide) (by decide) (by decide)))
  clear HP v1
  have HF := Lib.hid (k_free B a _ N w.heap.size A1 (s.hl t).length c1 (s.mu t) w3 H3.out (by omega) R3.out HML.out (by omega))
  have HTA := Lib.hid (((Tr.ext (P := LB a s) b1).trans T2.out).trans T3.out)
  have hz := HTA.out.base.size
  go_wp2_with ((with_reducible go_at_call 31); (with_reducible refine HF.out.mono ?_); rintro e w6 ⟨ws, A6, c6, rfl, r6, k6, l6, P6, p6, t6⟩)
  go_ret
  exact ⟨ws, A6, c6, rfl, r6.mono hz, k6, l6, P6, p6, HTA.out.trans t6⟩

/-- Ticks count for all that a thread holds. -/
def tick (n : Int) (x : Int × Int) : Int × Int := (x.1, nsum [x.2, n])
def runS (s : LS) (t n : Int) : LS := match s.H t with
  | some xs => s.setH t (some (xs.map (tick n)))
  | none => s
section
variable {w w1 : World} {B : Nat} {a : LA} {s : LS} {N : Nat}
theorem LW.rowset (h : LW w B a s N) {t : Int} {xs ys : List (Int × Int)} (hx : s.H t = some xs) (q : Tr w w1 (fun i => blk (a.ad t).1 = some i) (fun i => blk (a.ad t).1 = some i)) (hr : Row w1 B 46 2 (a.ad t).1 ys.length (a.ad t).2 (pairs ys)) (hl : ys.length = xs.length) :
    LW w1 B a (s.setH t (some ys)) N ∧ Tr w w1 (LB a s) (LB a (s.setH t (some ys))) := by
  have hrt := h.row t xs hx
  obtain ⟨M, n1, n2, n3⟩ := h.wm
  obtain ⟨L, l1, l2, l3⟩ := h.hm
  have hu : ∀ u zs, (s.setH t (some ys)).H u = some zs → ∃ zs', s.H u = some zs' ∧ zs'.length = zs.length ∧ (u ≠ t → zs' = zs) := fun u zs hz => by
    have hz' : fset s.H t (some ys) u = some zs := hz
    by_cases e : u = t
    · subst e
      rw [fset_at] at hz'
      injection hz' with hz'
      subst hz'
      exact ⟨xs, hx, hl.symm, fun q => absurd rfl q⟩
    · rw [fset_ne _ _ e] at hz'
      exact ⟨zs, hz', rfl, fun _ => rfl⟩
  refine ⟨⟨q.own h.own (fun e => row_ne hrt h.own (by decide) _ e rfl), q.own h.tab (fun e => row_ne hrt h.tab (by decide) _ e rfl), q.row h.tro (fun i hi e => row_row hrt h.tro (by decide) i e hi), h.tle, ⟨L, q.ms l1 (fun e => l1.row_ne hrt e), fun k => ?_, l3⟩, ⟨M, q.ms n1 (fun e => n1.row_ne hrt e), n2, n3⟩, fun u zs hz => ?_, fun u v zs ys' huv hz hy => ?_, fun u zs hz => ?_, h.ne, h.lo⟩, ?_⟩
  · rw [l2]
    show _ = (fset s.H t (some ys) k).map _
    by_cases e : k = t
    · subst e
      rw [fset_at, hx, Option.map_some, Option.map_some]
      unfold hval
      rw [hl]
    · rw [fset_ne _ _ e]
  · by_cases e : u = t
    · subst e
      have hz' : fset s.H u (some ys) u = some zs := hz
      rw [fset_at] at hz'
      injection hz' with hz'
      subst hz'
      exact hr
    · obtain ⟨zs', z1, z2, z3⟩ := hu u zs hz
      rw [← z3 e]
      exact q.row (h.row u zs' z1) (fun i hi e2 => h.inj u t zs' xs e z1 hx i hi e2)
  · obtain ⟨zs', z1, _, _⟩ := hu u zs hz
    obtain ⟨ys2, y1, _, _⟩ := hu v ys' hy
    exact h.inj u v zs' ys2 huv z1 y1
  · obtain ⟨zs', z1, z2, _⟩ := hu u zs hz
    have := h.len u zs' z1
    omega
  · have t1 : Tr w w1 (LB a s) (LB a s) := q.mono (fun i hi => .inr (.inr (.inr (.inr (.inr ⟨t, xs, hx, hi⟩))))) (fun i hi => .inr (.inl hi))
    refine ⟨t1.base, t1.block, fun i hi => .inl ?_⟩
    rcases hi with e | e | e | e | e | ⟨u, zs, hz, hi⟩
    · exact .inl e
    · exact .inr (.inl e)
    · exact .inr (.inr (.inl e))
    · exact .inr (.inr (.inr (.inl e)))
    · exact .inr (.inr (.inr (.inr (.inl e))))
    · obtain ⟨zs', z1, _, _⟩ := hu u zs hz
      exact .inr (.inr (.inr (.inr (.inr ⟨u, zs', z1, hi⟩))))
end
theorem setH_setH (s : LS) (t : Int) (o o' : Option (List (Int × Int))) : (s.setH t o).setH t o' = s.setH t o' := by
  unfold LS.setH
  congr 1
  funext k
  show fset (fset s.H t o) t o' k = fset s.H t o' k
  by_cases e : k = t
  · subst e; rw [fset_at, fset_at]
  · rw [fset_ne _ _ e, fset_ne _ _ e, fset_ne _ _ e]
theorem setH_self {s : LS} {t : Int} {xs : List (Int × Int)} (h : s.H t = some xs) : s.setH t (some xs) = s := by
  cases s with
  | mk ms H W =>
    unfold LS.setH
    congr 1
    funext k
    unfold fset
    split
    · rename_i e; rw [e]; exact h.symm
    · rfl
/-- The first k of a list turned. -/
def midH (n : Int) (xs : List (Int × Int)) (k : Nat) : List (Int × Int) := (xs.take k).map (tick n) ++ xs.drop k
theorem midH_len (n : Int) (xs : List (Int × Int)) (k : Nat) : (midH n xs k).length = xs.length := by
  unfold midH
  rw [List.length_append, List.length_map, List.length_take, List.length_drop]; omega
theorem midH_at {n : Int} {xs : List (Int × Int)} {k : Nat} (hk : k < xs.length) : (midH n xs k)[k]'(by rw [midH_len]; exact hk) = xs[k] := by
  unfold midH
  rw [List.getElem_append_right (by rw [List.length_map, List.length_take]; omega)]
  simp only [List.length_map, List.length_take, List.getElem_drop]
  congr 1
  omega
theorem midH_next {n : Int} {xs : List (Int × Int)} {k : Nat} (hk : k < xs.length) : midH n xs (k + 1) = (midH n xs k).set k (tick n xs[k]) := by
  unfold midH
  rw [take_succ' xs k hk, List.map_append, List.set_append_right _ _ (by rw [List.length_map, List.length_take]; omega), List.drop_eq_getElem_cons hk, List.length_map, List.length_take, Nat.min_eq_left (by omega), Nat.sub_self, List.set_cons_zero, List.append_assoc]
  rfl
theorem pairs_set2 (xs : List (Int × Int)) (k : Nat) (v : Int) : (pairs xs).set (k * 2 + 1) (.int .i64 v) = pairs (xs.set k ((xs.getD k (0, 0)).1, v)) := by
  induction xs generalizing k with
  | nil => simp [pairs]
  | cons x r ih =>
    cases k with
    | zero => simp [pairs]
    | succ k =>
      have := ih k
      simp only [pairs, List.flatMap_cons] at this ⊢
      rw [show (k + 1) * 2 + 1 = k * 2 + 1 + 1 + 1 by omega]
      simp only [List.cons_append, List.nil_append, List.set_cons_succ, this, List.getD_cons_succ]
      rfl

set_option maxRecDepth 100000 in
set_option maxHeartbeats 4000000 in
theorem k_run (B : Nat) (a : LA) (s : LS) (N : Nat) (t n : Int) (w : World) (h : LW w B a s N) (ht : I64 t) (hN : N ≤ 60000) :
    Calls Try.prog 17 #[.pointer (some ⟨a.g, 0, none⟩), .int .i64 t, .int .i64 n] w fun e w' => e = .returned (.tuple #[]) ∧ ∃ P', KX w' B a.g a.gt (runS s t n) N P' ∧ Tr w w' (LB a s) P' := by
  have v1 := h.h_
  have hlk := h.hlook ht
  have hlen := h.hlen t
  cases hx : s.H t with
  | none =>
    have HR := Lib.hid (show runS s t n = s by unfold runS; rw [hx])
    have h0 : s.hl t = [] := by unfold LS.hl; rw [hx]; rfl
    rw [h0] at hlk
    simp only [List.length_nil] at hlk
    have HH := Lib.hid h
    clear h h0 hx
    go_enter Try.func17, Try.ntmps17
    go_wp2
    go_loopw [17] (fun q wr => q = .int .i64 0 ∧ wr = w) (fun _ _ => 0)
    case atStart => exact ⟨rfl, rfl⟩
    case round =>
      obtain ⟨rfl, rfl⟩ := hrel
      go_wp2
      exact bodyPost_end (results_none rfl _ _ _) rfl ⟨rfl, _, by rw [HR.out]; exact ⟨a, rfl, rfl, HH.out, rfl⟩, Tr.refl⟩
  | some xs =>
    have HR := Lib.hid (show runS s t n = s.setH t (some (midH n xs xs.length)) by unfold runS midH; rw [hx, List.take_length, List.drop_length, List.append_nil])
    have h0 : s.hl t = xs := by unfold LS.hl; rw [hx]; rfl
    have hAe : hA a s t = (a.ad t).1 := by unfold hA; rw [hx]
    have hCe : hC a s t = (a.ad t).2 := by unfold hC; rw [hx]
    rw [h0, hAe, hCe] at hlk
    rw [h0] at hlen
    have HH := Lib.hid h
    have HX := Lib.hid hx
    have HM0 := Lib.hid (show midH n xs 0 = xs by unfold midH; simp)
    clear h h0 hx hAe hCe
    go_enter Try.func17, Try.ntmps17
    go_wp2
    go_loopw [6, 7, 17] (fun _ _ q wr => ∃ k : Nat, q = .int .i64 (k : Int) ∧ k ≤ xs.length ∧ LW wr B a (s.setH t (some (midH n xs k))) N ∧ Tr w wr (LB a s) (LB a s)) (fun _ _ q _ => xs.length - (intOf q).toNat)
    case atStart => exact ⟨0, rfl, by omega, by rw [HM0.out, setH_self HX.out]; exact HH.out, Tr.refl⟩
    case round =>
      clear hlk v1
      obtain ⟨k, rfl, hk, hL, hT⟩ := hrel
      have HL := Lib.hid hL
      have HT := Lib.hid hT
      clear hL hT
      have k0' : (0 : Int) ≤ (k : Int) := by omega
      by_cases hlt : k < xs.length
      · have k1' : (k : Int) < (xs.length : Int) := by omega
        have v1 := HL.out.h_
        have hHk : (s.setH t (some (midH n xs k))).H t = some (midH n xs k) := fset_at _ _ _
        have hlk := HL.out.hlook ht
        rw [show (s.setH t (some (midH n xs k))).hl t = midH n xs k by unfold LS.hl; rw [hHk]; rfl, show hA a (s.setH t (some (midH n xs k))) t = (a.ad t).1 by unfold hA; rw [hHk], show hC a (s.setH t (some (midH n xs k))) t = (a.ad t).2 by unfold hC; rw [hHk], midH_len] at hlk
        have hrow := HL.out.row t _ hHk
        rw [midH_len] at hrow
        obtain ⟨ga, hga⟩ := hrow.addr (by omega)
        rw [hga] at hrow hlk
        have hkm : k < (midH n xs k).length := by rw [midH_len]; exact hlt
        obtain ⟨p1, p2⟩ := pairs_get (midH n xs k) k hkm
        rw [midH_at hlt] at p1 p2
        obtain ⟨q1, q2, q3⟩ := hrow.setAt (k * 2 + 1) (by omega) (.int .i64 (nsum [xs[k].2, n]))
        rw [p2] at q1
        have HHK := Lib.hid hHk
        have HGA := Lib.hid hga
        have HQ3 := Lib.hid q3
        have HPS := Lib.hid (show (pairs (midH n xs k)).set (k * 2 + 1) (.int .i64 (nsum [xs[k].2, n])) = pairs (midH n xs (k + 1)) by
          rw [pairs_set2, midH_next hlt]
          congr 2
          rw [List.getD_eq_getElem?_getD, List.getElem?_eq_getElem hkm, Option.getD_some, midH_at hlt]
          rfl)
        have HNA := Lib.hid (fun w2 (hb : Own w2 wr.heap.size 3 (ints [xs[k].2, n])) => num_add (some ⟨wr.heap.size, 0, none⟩) 2 2 [xs[k].2, n] w2 (by omega) hb.rd0 rfl)
        have HO := Lib.hid (show Own (wr.alloc (.cells #[.int .i64 xs[k].2, .int .i64 n] 3)) wr.heap.size 3 (ints [xs[k].2, n]) from Own.new wr 3 (ints [xs[k].2, n]))
        have bA := Ext.alloc wr (.cells #[.int .i64 xs[k].2, .int .i64 n] 3)
        generalize xs[k].2 = x2 at *
        have f1 : (wr.alloc (.cells #[.int .i64 x2, .int .i64 n] 3)).frozen? ⟨ga, k * 2 + 1, none⟩ = false := by
          have := (hrow.keep bA).setAt (k * 2 + 1) (by omega) (.int .i64 0)
          exact this.2.1
        have c1 := cell_keep bA q1
        have hrowA := Lib.hid (hrow.keep bA)
        generalize nsum [x2, n] = nv at *
        clear hrow p1 p2 hHk hga hkm q2 q3
        go_wp2_with ((with_reducible go_at_call 34); (with_reducible refine (HNA.out _ HO.out).mono ?_); rintro e w' ⟨rfl, rfl⟩)
        go_roundw
        case rel =>
          have hb : Tr (wr.alloc (.cells #[.int .i64 x2, .int .i64 n] 3)) ((wr.alloc (.cells #[.int .i64 x2, .int .i64 n] 3)).setCell ⟨ga, k * 2 + 1, none⟩ (.int .i64 nv)) (fun i => blk (a.ad t).1 = some i) (fun i => blk (a.ad t).1 = some i) := Tr.set ⟨ga, k * 2 + 1, none⟩ _ (by rw [HGA.out]; rfl)
          have hr1 := (hrowA.out.setAt (k * 2 + 1) (by omega) (.int .i64 nv)).2.2
          rw [HPS.out] at hr1
          have hS := (HL.out.keep bA).rowset HHK.out hb (ys := midH n xs (k + 1)) (by rw [HGA.out, midH_len]; exact hr1) (by rw [midH_len, midH_len])
          rw [setH_setH] at hS
          refine ⟨k + 1, by go_num, by omega, hS.1, ?_⟩
          have t2 := (HT.out.trans (Tr.ext (P := LB a s) bA)).trans (hb.mono (Q := LB a s) (Q' := LB a s) (fun i hi => .inr (.inr (.inr (.inr (.inr ⟨t, xs, HX.out, hi⟩))))) (fun i hi => .inr (.inl hi)))
          exact t2
        case measure => simp [intOf]; omega
      · obtain rfl : k = xs.length := by omega
        go_wp2
        refine bodyPost_end (results_none rfl _ _ _) rfl ⟨rfl, _, by rw [HR.out]; exact ⟨a, rfl, rfl, HL.out, rfl⟩, ⟨HT.out.base, HT.out.block, fun i hi => ?_⟩⟩
        rcases hi with e | e | e | e | e | ⟨u, zs, hz, hi⟩
        · exact .inl (.inl e)
        · exact .inl (.inr (.inl e))
        · exact .inl (.inr (.inr (.inl e)))
        · exact .inl (.inr (.inr (.inr (.inl e))))
        · exact .inl (.inr (.inr (.inr (.inr (.inl e)))))
        · by_cases e : u = t
          · subst e
            exact .inl (.inr (.inr (.inr (.inr (.inr ⟨u, xs, HX.out, hi⟩)))))
          · have hz' : fset s.H t (some (midH n xs xs.length)) u = some zs := hz
            rw [fset_ne _ _ e] at hz'
            exact .inl (.inr (.inr (.inr (.inr (.inr ⟨u, zs, hz', hi⟩)))))

end Go.Proofs.Ytfdpipjkckbgdaa
