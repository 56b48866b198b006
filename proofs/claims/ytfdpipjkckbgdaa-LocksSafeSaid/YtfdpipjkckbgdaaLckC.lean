/-
  LOCKS: how what bears locks may turn; Lock.
-/
import Derived.Test.YtfdpipjkckbgdaaLckB
import Derived.Test.YtfdpipjkckbgdaaAppG
namespace Go.Proofs.Ytfdpipjkckbgdaa
open Go.RowKit Go.Maps
attribute [local go_sem] depUpon Sp.ok

theorem row_row {w : World} {B1 B2 n1 c1 s1 n2 c2 s2 : Nat} {e1 e2 : TypeId} {A1 A2 : Option Addr} {xs ys : List Value} (h1 : Row w B1 e1 s1 A1 n1 c1 xs) (h2 : Row w B2 e2 s2 A2 n2 c2 ys) (ht : e1 ≠ e2) : ∀ b, blk A1 = some b → blk A2 ≠ some b := by
  intro b hb q
  rcases h2.2 with ⟨hv, _⟩ | ⟨g', cap, cur, hv, _, hc, _⟩
  · injection hv with q1 q2 q3
    subst q1; cases q
  · injection hv with q1 q2 q3
    subst q1
    have : g' = b := by simpa [blk] using q
    subst this
    have ho : Own w g' e2 cur.toList := by unfold Own; rw [hc]
    exact row_ne h1 ho ht _ hb rfl
def LA.setAd (a : LA) (t : Int) (p : Option Addr × Nat) : LA := { a with ad := fun k => if k = t then p else a.ad k }
def LS.setH (s : LS) (t : Int) (o : Option (List (Int × Int))) : LS := { s with H := fset s.H t o }
def LS.setW (s : LS) (W : Int → Option Int) : LS := { s with W := W }
section
variable {w w1 w2 : World} {B : Nat} {a : LA} {s : LS} {N : Nat}
theorem LW.setH (h : LW w B a s N) {L : KV} (l1 : MS w a.gh L) (l2 : ∀ t, vget L t = (s.H t).map (hval a t)) (l3 : L.length ≤ N) {t : Int} {A' : Option Addr} {c' : Nat} {ys : List (Int × Int)}
    (q : Tr w w1 (fun i => blk (hA a s t) = some i) (fun i => blk A' = some i)) (hr : Row w1 B 46 2 A' ys.length c' (pairs ys)) (m2 : MS w2 a.gh (vput L t (.slice A' ys.length c'))) (g2 : w1.grownBy w2 (some a.gh)) (hn : ys.length ≤ N + 1) :
    LW w2 B (a.setAd t (A', c')) (s.setH t (some ys)) (N + 1) ∧ Tr w w2 (LB a s) (LB (a.setAd t (A', c')) (s.setH t (some ys))) := by
  have hrt := h.hrow t
  obtain ⟨M, n1, n2, n3⟩ := h.wm
  have k1 : MS w1 a.gh L := q.ms l1 (fun e => l1.row_ne hrt e)
  have hA_other : ∀ u xs, u ≠ t → s.H u = some xs → ∀ i, blk (a.ad u).1 = some i → blk (hA a s t) ≠ some i := fun u xs hu hx i hi e => by
    unfold hA at e
    cases hs : s.H t with
    | none => rw [hs] at e; cases e
    | some zs =>
      rw [hs] at e
      exact h.inj u t xs zs hu hx hs i hi e
  have hA'_other : ∀ u xs, u ≠ t → s.H u = some xs → ∀ i, blk (a.ad u).1 = some i → blk A' ≠ some i := fun u xs hu hx i hi e => by
    rcases q.fr i e with e1 | e1
    · exact hA_other u xs hu hx i hi e1
    · have := ((h.row u xs hx).at_ i hi).2; omega
  refine ⟨⟨?_, ?_, ?_, h.tle, ⟨_, m2, fun k => ?_, ?_⟩, ⟨M, (q.ms n1 (fun e => n1.row_ne hrt e)).grown g2 (fun e => by injection e with e; exact h.ne e.symm), n2, by omega⟩, fun u xs hx => ?_, fun u v xs ys' huv hx hy i hi => ?_, fun u xs hx => ?_, h.ne, h.lo⟩, ?_⟩
  · exact (q.own h.own (fun e => row_ne hrt h.own (by decide) _ e rfl)).grown g2 (fun e => by injection e with e; exact l1.own_ne h.own e.symm)
  · exact (q.own h.tab (fun e => row_ne hrt h.tab (by decide) _ e rfl)).grown g2 (fun e => by injection e with e; exact l1.own_ne h.tab e.symm)
  · exact (q.row h.tro (fun i hi e => row_row hrt h.tro (by decide) i e hi)).grown g2 (.inr (fun e => l1.row_ne h.tro e))
  · rw [vget_put l1.srt, l2]
    by_cases e : k = t
    · subst e
      rw [if_pos rfl]
      show _ = (fset s.H k (some ys) k).map _
      rw [fset_at, Option.map_some]
      unfold hval LA.setAd
      simp only [if_pos]
    · rw [if_neg e]
      show _ = (fset s.H t (some ys) k).map _
      rw [fset_ne _ _ e]
      unfold hval LA.setAd
      simp only [if_neg e]
  · have := kput_len L t (.slice A' ys.length c')
    omega
  · by_cases e : u = t
    · subst e
      have hx' : fset s.H u (some ys) u = some xs := hx
      rw [fset_at] at hx'
      injection hx' with hx'
      subst hx'
      unfold LA.setAd
      simp only [if_pos]
      exact hr.grown g2 (.inr (fun e => k1.row_ne hr e))
    · have hx' : fset s.H t (some ys) u = some xs := hx
      rw [fset_ne _ _ e] at hx'
      unfold LA.setAd
      simp only [if_neg e]
      exact (q.row (h.row u xs hx') (hA_other u xs e hx')).grown g2 (.inr (fun e => l1.row_ne (h.row u xs hx') e))
  · have hx' : fset s.H t (some ys) u = some xs := hx
    have hy' : fset s.H t (some ys) v = some ys' := hy
    unfold LA.setAd at hi ⊢
    by_cases e : u = t
    · subst e
      have e2 : v ≠ u := fun q => huv q.symm
      rw [fset_ne _ _ e2] at hy'
      simp only [if_pos, if_neg e2] at hi ⊢
      intro e3
      exact hA'_other v ys' e2 hy' i e3 hi
    · rw [fset_ne _ _ e] at hx'
      by_cases e2 : v = t
      · subst e2
        simp only [if_pos, if_neg e] at hi ⊢
        exact hA'_other u xs e hx' i hi
      · rw [fset_ne _ _ e2] at hy'
        simp only [if_neg e, if_neg e2] at hi ⊢
        exact h.inj u v xs ys' huv hx' hy' i hi
  · have hx' : fset s.H t (some ys) u = some xs := hx
    by_cases e : u = t
    · subst e
      rw [fset_at] at hx'
      injection hx' with hx'
      subst hx'
      exact hn
    · rw [fset_ne _ _ e] at hx'
      have := h.len u xs hx'
      omega
  · have hrb : ∀ i, blk (hA a s t) = some i → LB a s i := fun i hi => by
      unfold hA at hi
      cases hs : s.H t with
      | none => rw [hs] at hi; cases hi
      | some zs => rw [hs] at hi; exact .inr (.inr (.inr (.inr (.inr ⟨t, zs, hs, hi⟩))))
    have t1 : Tr w w1 (LB a s) (LB a s) := q.mono hrb (fun i hi => .inr (.inl hi))
    have t2 := t1.trans (Tr.grown (P := LB a s) g2 (fun k e => .inl (by injection e with e; rw [← e]; exact .inr (.inr (.inr (.inl rfl))))))
    refine ⟨t2.base, t2.block, fun i hi => ?_⟩
    rcases hi with e | e | e | e | e | ⟨u, xs, hx, hi⟩
    · exact .inl (.inl e)
    · exact .inl (.inr (.inl e))
    · exact .inl (.inr (.inr (.inl e)))
    · exact .inl (.inr (.inr (.inr (.inl e))))
    · exact .inl (.inr (.inr (.inr (.inr (.inl e)))))
    · have hx' : fset s.H t (some ys) u = some xs := hx
      unfold LA.setAd at hi
      by_cases e : u = t
      · subst e
        simp only [if_pos] at hi
        rcases q.fr i hi with e1 | e1
        · exact .inl (hrb i e1)
        · exact .inr e1
      · rw [fset_ne _ _ e] at hx'
        simp only [if_neg e] at hi
        exact .inl (.inr (.inr (.inr (.inr (.inr ⟨u, xs, hx', hi⟩)))))
theorem LW.wmap (h : LW w B a s N) {M' : KV} {W' : Int → Option Int} {N' : Nat} (m2 : MS w2 a.gw M') (hM : ∀ t, vget M' t = (W' t).map (.int .i64 ·)) (hl : M'.length ≤ N') (hN : N ≤ N') (g2 : w.grownBy w2 (some a.gw)) :
    LW w2 B a (s.setW W') N' ∧ Tr w w2 (LB a s) (LB a (s.setW W')) := by
  obtain ⟨M, n1, _, _⟩ := h.wm
  obtain ⟨L, l1, l2, l3⟩ := h.hm
  refine ⟨⟨h.own.grown g2 (fun e => by injection e with e; exact n1.own_ne h.own e.symm), h.tab.grown g2 (fun e => by injection e with e; exact n1.own_ne h.tab e.symm), h.tro.grown g2 (.inr (fun e => n1.row_ne h.tro e)), h.tle, ⟨L, l1.grown g2 (fun e => by injection e with e; exact h.ne e), l2, by omega⟩, ⟨M', m2, hM, hl⟩, fun t xs hx => (h.row t xs hx).grown g2 (.inr (fun e => n1.row_ne (h.row t xs hx) e)), h.inj, fun t xs hx => by have := h.len t xs hx; omega, h.ne, h.lo⟩, ?_⟩
  exact Tr.grown (P := LB a s) g2 (fun k e => .inl (by injection e with e; rw [← e]; exact .inr (.inr (.inr (.inr (.inl rfl))))))
theorem LW.delH (h : LW w B a s N) {L : KV} (l1 : MS w a.gh L) (l2 : ∀ t, vget L t = (s.H t).map (hval a t)) (l3 : L.length ≤ N) {t : Int} (m2 : MS w2 a.gh (vdel L t)) (g2 : w.grownBy w2 (some a.gh)) :
    LW w2 B a (s.setH t none) N ∧ Tr w w2 (LB a s) (LB a (s.setH t none)) := by
  obtain ⟨M, n1, n2, n3⟩ := h.wm
  have hu : ∀ u xs, fset s.H t none u = some xs → s.H u = some xs := fun u xs hx => by
    by_cases e : u = t
    · subst e; rw [fset_at] at hx; cases hx
    · rwa [fset_ne _ _ e] at hx
  refine ⟨⟨h.own.grown g2 (fun e => by injection e with e; exact l1.own_ne h.own e.symm), h.tab.grown g2 (fun e => by injection e with e; exact l1.own_ne h.tab e.symm), h.tro.grown g2 (.inr (fun e => l1.row_ne h.tro e)), h.tle, ⟨_, m2, fun k => ?_, by have := kdel_len L t; omega⟩, ⟨M, n1.grown g2 (fun e => by injection e with e; exact h.ne e.symm), n2, n3⟩, fun u xs hx => (h.row u xs (hu u xs hx)).grown g2 (.inr (fun e => l1.row_ne (h.row u xs (hu u xs hx)) e)), fun u v xs ys huv hx hy => h.inj u v xs ys huv (hu u xs hx) (hu v ys hy), fun u xs hx => h.len u xs (hu u xs hx), h.ne, h.lo⟩, ?_⟩
  · rw [vget_del l1.srt, l2]
    by_cases e : k = t
    · subst e
      rw [if_pos rfl]
      show _ = (fset s.H k none k).map _
      rw [fset_at]; rfl
    · rw [if_neg e]
      show _ = (fset s.H t none k).map _
      rw [fset_ne _ _ e]
  · have t2 := Tr.grown (P := LB a s) g2 (fun k e => .inl (by injection e with e; rw [← e]; exact .inr (.inr (.inr (.inl rfl)))))
    refine ⟨t2.base, t2.block, fun i hi => ?_⟩
    rcases hi with e | e | e | e | e | ⟨u, xs, hx, hi⟩
    · exact .inl (.inl e)
    · exact .inl (.inr (.inl e))
    · exact .inl (.inr (.inr (.inl e)))
    · exact .inl (.inr (.inr (.inr (.inl e))))
    · exact .inl (.inr (.inr (.inr (.inr (.inl e)))))
    · exact .inl (.inr (.inr (.inr (.inr (.inr ⟨u, xs, hu u xs hx, hi⟩)))))
/-- One entry of 'waits' is written, one is struck. -/
theorem LW.putW (h : LW w B a s N) {M : KV} (n1 : MS w a.gw M) (n2 : ∀ t, vget M t = (s.W t).map (.int .i64 ·)) (n3 : M.length ≤ N) {t m : Int} (m2 : MS w2 a.gw (vput M t (.int .i64 m))) (g2 : w.grownBy w2 (some a.gw)) :
    LW w2 B a (s.setW (fset s.W t (some m))) (N + 1) ∧ Tr w w2 (LB a s) (LB a (s.setW (fset s.W t (some m)))) :=
  h.wmap m2 (fun k => by
    rw [vget_put n1.srt, n2]
    by_cases e : k = t
    · subst e; rw [if_pos rfl, fset_at]; rfl
    · rw [if_neg e, fset_ne _ _ e]) (by have := kput_len M t (.int .i64 m); omega) (by omega) g2
theorem LW.delW (h : LW w B a s N) {M : KV} (n1 : MS w a.gw M) (n2 : ∀ t, vget M t = (s.W t).map (.int .i64 ·)) (n3 : M.length ≤ N) {t : Int} (m2 : MS w2 a.gw (vdel M t)) (g2 : w.grownBy w2 (some a.gw)) :
    LW w2 B a (s.setW (fset s.W t none)) N ∧ Tr w w2 (LB a s) (LB a (s.setW (fset s.W t none))) :=
  h.wmap m2 (fun k => by
    rw [vget_del n1.srt, n2]
    by_cases e : k = t
    · subst e; rw [if_pos rfl, fset_at]; rfl
    · rw [if_neg e, fset_ne _ _ e]) (by have := kdel_len M t; omega) (by omega) g2
end

/-- Lock's error, whether it is had, what is held and waited for then. -/
def lockE (s : LS) (t m : Int) : Int := if t < 0 then 2 else if 0 ≤ s.wl t then 5 else mmay s.ms (s.mu t) m
noncomputable def lockB (s : LS) (t m : Int) : Bool := decide (lockE s t m = 0) && decide (ownO s m < 0)
noncomputable def lockS (s : LS) (t m : Int) : LS := if lockE s t m ≠ 0 then s else if 0 ≤ ownO s m then s.setW (fset s.W t (some m)) else s.setH t (some (s.hl t ++ [(m, 0)]))
theorem run_newheld (m : Int) (w : World) : (Instr.build 46 #[(0, .int .i64 m)]).run Try.prog w = .ok (.agg #[.int .i64 m, .int .i64 0]) w := by kernel_rfl

set_option maxRecDepth 100000 in
set_option maxHeartbeats 8000000 in
theorem k_lock (B : Nat) (a : LA) (s : LS) (N : Nat) (t m : Int) (w : World) (h : LW w B a s N) (ht : I64 t) (hN : N ≤ 60000) (hu : Uq s) (hB : B ≤ w.heap.size) :
    Calls Try.prog 11 #[.pointer (some ⟨a.g, 0, none⟩), .int .i64 t, .int .i64 m] w fun e w' => e = .returned (.tuple #[.bool (lockB s t m), .int .i64 (lockE s t m)]) ∧ ∃ P', KX w' B a.g a.gt (lockS s t m) (N + 1) P' ∧ Tr w w' (LB a s) P' := by
  have HW := Lib.hid (k_waits B a s N t w h ht)
  have HNU := Lib.hid (fun w1 (h1 : Ext w w1) => k_numbers B a s N t w1 (h.keep h1) ht hN)
  have hlen := h.hlen t
  have HMY := Lib.hid (fun w1 (h1 : Ext w w1) A' c' (hr : Rd w1 A' (ints (s.mu t))) => t_may a.gt s.ms A' (s.hl t).length c' (s.mu t) m w1 (h.keep h1).table (by omega) hr (by unfold LS.mu; rw [List.length_map]))
  have HOW := Lib.hid (fun w1 (h1 : Ext w w1) => k_owner B a s N m w1 (h.keep h1) hN hu)
  have HE := Lib.hid (show lockE s t m = if t < 0 then 2 else if 0 ≤ s.wl t then 5 else mmay s.ms (s.mu t) m from rfl)
  have HLB := Lib.hid (show lockB s t m = (decide (lockE s t m = 0) && decide (ownO s m < 0)) from rfl)
  have HLS := Lib.hid (show lockS s t m = if lockE s t m ≠ 0 then s else if 0 ≤ ownO s m then s.setW (fset s.W t (some m)) else s.setH t (some (s.hl t ++ [(m, 0)])) from rfl)
  have HH := Lib.hid h
  have v0 := h.t_
  have HSAME := Lib.hid (fun w1 (h1 : Ext w w1) (q : lockE s t m ≠ 0) => show ∃ P', KX w1 B a.g a.gt (lockS s t m) (N + 1) P' ∧ Tr w w1 (LB a s) P' from ⟨LB a s, by rw [HLS.out, if_pos q]; exact ⟨a, rfl, rfl, (h.keep h1).mono (by omega), rfl⟩, Tr.ext h1⟩)
  clear h
  by_cases h0 : t < 0
  · have E := Lib.hid (show lockE s t m = 2 by rw [HE.out, if_pos h0])
    have BB := Lib.hid (show lockB s t m = false by rw [HLB.out, E.out]; rfl)
    have t0 : decide (t < 0) = true := by simp [h0]
    go_enter Try.func11, Try.ntmps11
    go_wp2
    go_ret2
    exact ⟨by rw [E.out, BB.out]; rfl, HSAME.out _ (Ext.refl _) (by rw [E.out]; decide)⟩
  have t0 : decide (t < 0) = false := by simp [h0]
  have t00 : 0 ≤ t := by omega
  by_cases h1 : 0 ≤ s.wl t
  · have E := Lib.hid (show lockE s t m = 5 by rw [HE.out, if_neg h0, if_pos h1])
    have BB := Lib.hid (show lockB s t m = false by rw [HLB.out, E.out]; rfl)
    have t1 : decide (0 ≤ s.wl t) = true := by simp [h1]
    go_enter Try.func11, Try.ntmps11
    go_wp2_with ((with_reducible go_at_call 15); (with_reducible refine (HW.out).mono ?_); rintro e w' ⟨rfl, rfl⟩)
    go_ret2
    exact ⟨by rw [E.out, BB.out]; rfl, HSAME.out _ (Ext.refl _) (by rw [E.out]; decide)⟩
  have t1 : decide (0 ≤ s.wl t) = false := by simp [h1]
  have t10 : s.wl t < 0 := by omega
  have E := Lib.hid (show lockE s t m = mmay s.ms (s.mu t) m by rw [HE.out, if_neg h0, if_neg h1])
  clear h0 h1 HE
  generalize lockE s t m = le at *
  rw [← E.out] at HMY
  clear E
  go_enter Try.func11, Try.ntmps11
  go_upto_region 7 with ((with_reducible go_at_call 15); (with_reducible refine (HW.out).mono ?_); rintro e w' ⟨rfl, rfl⟩)
  refine wp_region_dep (S := Ext) (C := Ext (w)) (by kernel_rfl) (by kernel_rfl) rfl Ext.refl (Ext.drew _) ?_
  repeat (refine dep_det (by rfl) (fun K hK => ?_); go_simp; first
    | ((with_reducible refine hK _ ?_); clear hK K)
    | (rw [if_neg (by decide)]; (with_reducible refine hK _ ?_); clear hK K)
    | (refine ⟨_, fun w1 hw1 => ⟨Ext.refl w1, hw1, rfl⟩, hK _ ?_⟩; clear hK K)
    | (apply Exists.intro; refine ⟨fun w1 hw1 => ?_, hK _ ?_⟩
       first
         | (have c_v0 := cell_keep hw1 v0; go_simp; first | exact ⟨Ext.refl _, hw1, rfl⟩ | exact ⟨Ext.refl _, rfl⟩)
       clear hK K))
  refine dep_var (RdSl (ints (s.mu t)) (s.hl t).length) 26 rfl (by rfl) RdSl.keep (by go_simp) (fun w1 hw1 => ?_) ?_
  · go_simp
    refine (HNU.out _ hw1).mono ?_
    rintro e w' ⟨A', c', rfl, hrow, hb'⟩
    exact ⟨_, rfl, hb', Ext.trans hw1 hb', _, _, rfl, hrow.rd⟩
  repeat (refine dep_det (by rfl) (fun K hK => ?_); go_simp; first
    | ((with_reducible refine hK _ ?_); clear hK K)
    | (rw [if_neg (by decide)]; (with_reducible refine hK _ ?_); clear hK K)
    | (refine ⟨_, fun w1 hw1 => ⟨Ext.refl w1, hw1, rfl⟩, hK _ ?_⟩; clear hK K)
    | (apply Exists.intro; refine ⟨fun w1 hw1 => ?_, hK _ ?_⟩
       first
         | (have c_v0 := cell_keep hw1 v0; go_simp; first | exact ⟨Ext.refl _, hw1, rfl⟩ | exact ⟨Ext.refl _, rfl⟩)
       clear hK K))
  refine dep_det1 26 _ (by rfl) (by intro V' h; simpa using h) (List.mem_cons_self ..) (by first | (simp; done) | simp [Act.put]) (fun K hK => ?_)
  apply Exists.intro
  refine ⟨fun w1 v hw1 hV => ?_, hK _ ?_⟩
  · obtain ⟨A', c', rfl, ho⟩ := hV
    go_simp
    refine (HMY.out w1 hw1 A' c' ho).mono ?_
    rintro e w' ⟨rfl, hb'⟩
    exact ⟨_, rfl, hb', Ext.trans hw1 hb', rfl⟩
  clear hK K
  repeat (refine dep_det (by rfl) (fun K hK => ?_); go_simp; first
    | ((with_reducible refine hK _ ?_); clear hK K)
    | (rw [if_neg (by decide)]; (with_reducible refine hK _ ?_); clear hK K)
    | (refine ⟨_, fun w1 hw1 => ⟨Ext.refl w1, hw1, rfl⟩, hK _ ?_⟩; clear hK K))
  refine dep_nil ?_
  intro a' w' hC hE
  obtain ⟨v, ⟨_, _, rfl, _⟩, hE⟩ := atEnd_cons hE (by simp) (by first | (simp; done) | simp [Act.put])
  obtain rfl := atEnd_nil hE
  clear hE
  have HC1 := Lib.hid hC
  clear hC
  by_cases h2 : le = 0
  rotate_left
  · have BB := Lib.hid (show lockB s t m = false by rw [HLB.out]; simp [h2])
    have t2 : (le != 0) = true := by simp [h2]
    go_wp2
    go_ret2
    exact ⟨by rw [BB.out]; rfl, HSAME.out _ HC1.out h2⟩
  subst h2
  have HO := Lib.hid (HOW.out _ HC1.out)
  have HOV := Lib.hid (show ∀ v, ownO s m = v → (0 ≤ v → lockB s t m = false ∧ lockS s t m = s.setW (fset s.W t (some m))) ∧ (v < 0 → lockB s t m = true ∧ lockS s t m = s.setH t (some (s.hl t ++ [(m, 0)]))) from fun v hv => by
    rw [HLB.out, HLS.out, hv]
    refine ⟨fun q => ⟨by simp; omega, by rw [if_neg (by simp), if_pos q]⟩, fun q => ⟨by simp [q], by rw [if_neg (by simp), if_neg (by omega)]⟩⟩)
  have HOV := Lib.hid (HOV.out _ rfl)
  generalize ownO s m = ow at *
  by_cases h3 : 0 ≤ ow
  · have t3 : decide (0 ≤ ow) = true := by simp [h3]
    have HV3 := Lib.hid (HOV.out.1 h3)
    clear h3 HOV
    go_upto_region 11 with ((with_reducible go_at_call 16); (with_reducible refine (HO.out).mono ?_); rintro e w2 ⟨rfl, b2⟩)
    have b12 := Ext.trans HC1.out b2
    have H2 := Lib.hid (HH.out.keep b12)
    have v2 := H2.out.w_
    obtain ⟨M, n1, n2, n3⟩ := H2.out.wm
    have HN1 := Lib.hid n1
    have HN2 := Lib.hid n2
    have HN3 := Lib.hid n3
    clear n1 n2 n3
    go_wp2_with (at_mapUpdate; refine wpl_put_kv _ rfl _ _ _ 63 (.inl rfl) 3 Try.underlying63 a.gw M rfl HN1.out t ht rfl (.int .i64 m) rfl (by have := HN3.out; omega) ?_; intro w5 m5 g5; have HP := Lib.hid (H2.out.putW HN1.out HN2.out HN3.out m5 g5); clear m5 g5)
    go_ret2
    exact ⟨by rw [HV3.out.1]; rfl, _, by rw [HV3.out.2]; exact ⟨a, rfl, rfl, HP.out.1, rfl⟩, (Tr.ext b12).trans HP.out.2⟩
  · have t3 : decide (0 ≤ ow) = false := by simp [h3]
    have t30 : ow < 0 := by omega
    have HV3 := Lib.hid (HOV.out.2 t30)
    clear h3 HOV
    go_upto_region 13 with ((with_reducible go_at_call 16); (with_reducible refine (HO.out).mono ?_); rintro e w2 ⟨rfl, b2⟩)
    have b12 := Ext.trans HC1.out b2
    have H2 := Lib.hid (HH.out.keep b12)
    have v1 := H2.out.h_
    obtain ⟨L, l1, l2, l3⟩ := H2.out.hm
    have HL1 := Lib.hid l1
    have HL2 := Lib.hid l2
    have HL3 := Lib.hid l3
    have HRO := Lib.hid (H2.out.hrow t)
    have HNG := Lib.hid (show some a.g ≠ blk (hA a s t) from fun q => row_ne HRO.out H2.out.own (by decide) _ q.symm rfl)
    have HNM := Lib.hid (show some a.gh ≠ blk (hA a s t) from fun q => l1.row_ne HRO.out q.symm)
    have HLK := Lib.hid (fun w3 (g3 : w2.grownBy w3 (blk (hA a s t))) => show (Instr.lookup 62 (.map (some a.gh)) (.int .i64 t) false).run Try.prog w3 = .ok (.slice (hA a s t) (s.hl t).length (hC a s t)) w3 from by
      have := (HL1.out.grown g3 HNM.out).look Try.underlying62 (zero_helds w3) ht
      rw [HL2.out] at this
      rw [← hsl_eq]
      exact this)
    have hbd := run_newheld m
    obtain ⟨i0, hi0, hz0, hz1, hz2⟩ := info_parts info_held
    have HI := Lib.hid hi0
    have HAP := Lib.hid (show pairs (s.hl t) ++ pairs [(m, 0)] = pairs (s.hl t ++ [(m, 0)]) by simp [pairs])
    have HLN := Lib.hid (show (s.hl t ++ [(m, 0)]).length = (s.hl t).length + 1 by simp)
    have z2 := b12.size
    clear l1 l2 l3 hi0 v0
    generalize hgA : hA a s t = A at *
    generalize hC a s t = c at *
    have HGA := Lib.hid hgA
    generalize hgx : s.hl t = xs at *
    clear hgA hgx
    refine wp_region_dep_tail 15 (S := Gw (blk A) B 2 xs.length 46 (pairs (xs ++ [(m, 0)]))) (C := Gc w2 A c B 2 xs.length 46 (pairs xs)) (by kernel_rfl) (by kernel_rfl) rfl Gw.refl (Gc.start HRO.out) ?_
    simp only [List.take_succ_cons, List.take_zero]
    repeat (refine dep_det (by rfl) (fun K hK => ?_); go_simp; first
      | ((with_reducible refine hK _ ?_); clear hK K)
      | (refine ⟨_, fun w1 hw1 => ⟨Gw.refl w1, hw1, rfl⟩, hK _ ?_⟩; clear hK K)
      | (apply Exists.intro; refine ⟨fun w1 hw1 => ?_, hK _ ?_⟩
         · have c_1 := hw1.grown.cell v1 HNG.out
           have hlk := HLK.out _ hw1.grown
           go_simp
           first | exact ⟨Gw.refl _, hw1, rfl⟩ | exact ⟨Gw.refl _, rfl⟩
         clear hK K))
    refine dep_var (SlG 46 (pairs [(m, 0)]) (blk A)) 55 rfl (by rfl) SlG.keep (by go_simp) (fun w1 hw1 => ?_) ?_
    · go_simp
      exact ⟨Gw.ext (Ext.alloc _ _), hw1.ext (Ext.alloc _ _), SlG.new hw1⟩
    repeat (refine dep_det (by rfl) (fun K hK => ?_); go_simp; first
      | ((with_reducible refine hK _ ?_); clear hK K)
      | (refine ⟨_, fun w1 hw1 => ⟨Gw.refl w1, hw1, rfl⟩, hK _ ?_⟩; clear hK K)
      | (apply Exists.intro; refine ⟨fun w1 hw1 => ?_, hK _ ?_⟩
         · have c_1 := hw1.grown.cell v1 HNG.out
           have hlk := HLK.out _ hw1.grown
           go_simp
           first | exact ⟨Gw.refl _, hw1, rfl⟩ | exact ⟨Gw.refl _, rfl⟩
         clear hK K))
    refine dep_var1 55 (SlG 46 (pairs [(m, 0)]) (blk A)) (GrV B 2 xs.length 46 (pairs (xs ++ [(m, 0)])) (blk A) w2.heap.size) 56 rfl (by rfl) (by intro V' h; simpa using h) (List.mem_cons_self ..) (by first | (simp; done) | simp [Act.put]) GrV.keep (fun w1 v hw1 hV => ?_) ?_
    · refine ⟨by go_simp, ?_⟩
      obtain ⟨A', c', w', hrun, p1, p2, p3⟩ := grow_run (P := Try.prog) w1 42 42 46 i0 _ 2 16 Try.underlying42 HI.out hz0 hz1 hz2 rfl (by omega) w2 B A xs.length c (pairs xs) hw1 (pairs [(m, 0)]) rfl (pairs_one _) _ HAP.out v hV (by omega) (by omega) (by have := hw1.grown.size; omega)
      exact dep_append rfl hrun ⟨p1, p2, p3⟩
    repeat (refine dep_det (by rfl) (fun K hK => ?_); go_simp; first
      | ((with_reducible refine hK _ ?_); clear hK K)
      | (refine ⟨_, fun w1 hw1 => ⟨Gw.refl w1, hw1, rfl⟩, hK _ ?_⟩; clear hK K)
      | (apply Exists.intro; refine ⟨fun w1 hw1 => ?_, hK _ ?_⟩
         · have c_1 := hw1.grown.cell v1 HNG.out
           have hlk := HLK.out _ hw1.grown
           go_simp
           first | exact ⟨Gw.refl _, hw1, rfl⟩ | exact ⟨Gw.refl _, rfl⟩
         clear hK K))
    refine dep_nil ?_
    intro a' w7 hC hE
    obtain ⟨v, ⟨A1, d1, rfl, p1, p1'⟩, hE⟩ := atEnd_cons hE (by simp) (by first | (simp; done) | simp [Act.put])
    obtain ⟨v, ⟨g3, rfl, _⟩, hE⟩ := atEnd_cons hE (by simp) (by first | (simp; done) | simp [Act.put])
    obtain rfl := atEnd_nil hE
    clear hE
    simp only [List.drop_succ_cons, List.drop_zero]
    have M7 := Lib.hid (HL1.out.grown hC.grown HNM.out)
    have HQ := Lib.hid (show Tr w2 w7 (fun i => blk (hA a s t) = some i) (fun i => blk A1 = some i) from by
      rw [HGA.out]
      have t1 := Tr.grown (P := fun i => blk A = some i) hC.grown (fun k q => .inl q)
      refine ⟨t1.base, t1.block, fun i hi => ?_⟩
      rcases p1' with q | ⟨k, q1, q2⟩
      · exact .inl (by rw [← q]; exact hi)
      · rw [q1] at hi
        injection hi with hi
        exact .inr (by omega))
    have HR7 := Lib.hid (show Row w7 B 46 2 A1 (xs ++ [(m, 0)]).length d1 (pairs (xs ++ [(m, 0)])) from by rw [HLN.out]; exact p1)
    have hln := HLN.out
    clear p1 p1' hC
    rw [show xs.length + 1 = (xs ++ [(m, 0)]).length from HLN.out.symm]
    go_wp2_with (at_mapUpdate; refine wpl_put_kv _ rfl _ _ _ 62 (.inl rfl) 42 Try.underlying62 a.gh L rfl M7.out t ht rfl (.slice A1 (xs ++ [(m, 0)]).length d1) rfl (by have := HL3.out; omega) ?_; intro w5 m5 g5; have HP := Lib.hid (H2.out.setH HL1.out HL2.out HL3.out HQ.out HR7.out m5 g5 (by omega)); clear m5 g5)
    go_ret2
    exact ⟨by rw [HV3.out.1]; rfl, _, by rw [HV3.out.2]; exact ⟨a.setAd t (A1, d1), rfl, rfl, HP.out.1, rfl⟩, (Tr.ext b12).trans HP.out.2⟩

end Go.Proofs.Ytfdpipjkckbgdaa
