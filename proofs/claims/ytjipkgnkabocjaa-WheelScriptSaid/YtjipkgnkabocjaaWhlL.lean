/-
  WALKS of package wheel: take, turn with take, Cancel, Tick over the list.
-/
import Derived.Test.YtjipkgnkabocjaaWhlK
namespace Go.Proofs.Ytjipkgnkabocjaa
open Go.RowKit
attribute [local go_sem] depUpon Sp.ok

set_option maxRecDepth 100000 in
set_option maxHeartbeats 2000000 in
theorem w_take (B g : Nat) (now n : Int) (F : FW) (R : RW) (k off : Nat) (id at_ : Int) (k0 : Nat) (w : World) (h : WS w B g now n F R) (hk : k < 256) (ho : off = 1 + k) (hlen : (R k).length ≤ 65536) (hO : One (R k) id k0) :
    Calls Try.prog 33 #[.pointer (some ⟨g, off, none⟩), .agg #[.int .i64 id, .int .i64 at_]] w fun e w' => e = .returned (.tuple #[]) ∧ ∃ F', WS w' B g now n F' (updR R k ((R k).eraseIdx k0)) ∧ WT w w' g F F' := by
  have hmf : ∀ (fn : Fn) (first cap : Array Value) (w : World), (Instr.makeFunc fn first cap).run Try.prog w = .ok (.func fn first cap) w := fun _ _ _ _ => rfl
  have oL := Own.new w 62 [.int .i64 id, .int .i64 at_]
  have bL := Ext.alloc w (.cells #[.int .i64 id, .int .i64 at_] 62)
  have hL := h.keep bL
  have hk0 := hO.lt
  obtain ⟨m, hm⟩ : ∃ m, (R k).length = m + 1 := ⟨(R k).length - 1, by omega⟩
  have hrow0 := h.row k hk
  obtain ⟨gk, hgk⟩ := hrow0.addr (by omega)
  have hgl := (hrow0.at_ gk (by rw [hgk]; rfl)).2
  have hrow := hL.row k hk
  have hne : g ≠ gk := fun e => row_ne hrow hL.own (by decide) gk (by rw [hgk]; rfl) e.symm
  rw [hgk, hm] at hrow
  have v0 := hL.slot hk
  rw [← ho] at v0
  have hcell : cellOf F R k = .slice (F k).1 (R k).length (F k).2 := rfl
  rw [hcell, hgk, hm] at v0
  have hfz := hL.own.frozen off
  have HD := Lib.hid (w_del B gk m (F k).2 (R k) id w.heap.size k0 _ hrow (by omega) hm hO (oL.cell 0) (by omega))
  have HL := Lib.hid hL
  have HT := Lib.hid (WT.ext (g := g) (F := F) bL)
  have HO := Lib.hid ho
  have HGK := Lib.hid (show blk (F k).1 = some gk by rw [hgk]; rfl)
  have HE := Lib.hid (show ((R k).eraseIdx k0).length = m by rw [List.length_eraseIdx, if_pos hk0]; omega)
  have HNG := Lib.hid (show some g ≠ some gk from fun e => hne (by injection e))
  have HGL := Lib.hid (Own.lt h.own)
  clear hcell h hL hlen bL ho hrow hrow0 hO hk0 hgk hm hne oL
  go_enter Try.func33, Try.ntmps33
  go_upto_region 1 with fail
  generalize (F k).2 = c at *
  generalize w.alloc (.cells #[.int .i64 id, .int .i64 at_] 62) = w1 at *
  go_wp2_with ((with_reducible go_at_call 40); (with_reducible refine HD.out.mono ?_); rintro e w4 ⟨rfl, r4, g4⟩; have v4 := g4.cell v0 HNG.out; have f4 := (World.frozen?_of_block (g4.block g (by have := HL.out.own.lt; omega) HNG.out)).trans hfz)
  have hS := HL.out.slotTo hk (w' := w4) (by rw [HGK.out]; exact g4) r4 HE.out (fun i hb => .inl (by rw [HGK.out]; exact hb)) off HO.out
  exact bodyPost_end (results_none rfl _ _ _) rfl ⟨rfl, _, hS.1, HT.out.trans hS.2⟩

set_option maxRecDepth 100000 in
set_option maxHeartbeats 2000000 in
theorem w_turn_take (B g : Nat) (now n : Int) (F : FW) (R : RW) (id at_ : Int) (k0 : Nat) (w : World) (h : WS w B g now n F R) (n0 : 0 ≤ now) (n1 : now ≤ 16777216) (a0 : 0 ≤ at_) (a1 : at_ ≤ 16777216) (hlen : (R (ix now at_)).length ≤ 65536) (hO : One (R (ix now at_)) id k0) :
    Calls Try.prog 28 #[.pointer (some ⟨g, 0, none⟩), .agg #[.int .i64 id, .int .i64 at_], .func (.func 33) #[] #[]] w fun e w' => e = .returned (.tuple #[]) ∧ ∃ F', WS w' B g now n F' (updR R (ix now at_) ((R (ix now at_)).eraseIdx k0)) ∧ WT w w' g F F' := by
  have oL := Own.new w 62 [.int .i64 id, .int .i64 at_]
  have bL := Ext.alloc w (.cells #[.int .i64 id, .int .i64 at_] 62)
  obtain ⟨s, hs, hs64, hix⟩ := ix_eq now at_
  have hr := rg_hi now at_
  have hP := fun w' (h' : Ext w w') => w_place g now at_ w' (h.keep h').now_ n0 (by omega) a0 (by omega)
  rw [hs] at hP
  have HPL := Lib.hid hP
  rw [hix] at hlen hO ⊢
  generalize hrr : rg now at_ = r at *
  have HPU := Lib.hid (fun w' (h' : Ext w w') => w_take B g now n F R (r * 64 + s) (1 + r * 64 + s) id at_ k0 w' (h.keep h') (by omega) (by omega) hlen hO)
  have r1' : (r : Int) < 4 := by omega
  have r0' : (0 : Int) ≤ (r : Int) := by omega
  have s1' : (s : Int) < 64 := by omega
  have s0' : (0 : Int) ≤ (s : Int) := by omega
  clear hP hs hix h hrr hlen hO
  go_enter Try.func28, Try.ntmps28
  go_upto_region 2 with ((with_reducible go_at_call 31); (with_reducible refine (HPL.out _ bL).mono ?_); rintro e w2 ⟨rfl, b2⟩)
  have b3 := Ext.trans bL b2
  have x0 := (oL.keep b2).cell 0
  have x1 := (oL.keep b2).cell 1
  simp only [List.getElem?_cons_zero, List.getElem?_cons_succ] at x0 x1
  refine wp_region_dep_tail 9 (S := Ext) (C := Ext (w2)) (by kernel_rfl) (by kernel_rfl) rfl Ext.refl (Ext.drew _) ?_
  simp only [List.take_succ_cons, List.take_zero]
  repeat (refine dep_det (by rfl) (fun K hK => ?_); go_simp; first
    | ((with_reducible refine hK _ ?_); clear hK K)
    | (rw [if_neg (by decide)]; (with_reducible refine hK _ ?_); clear hK K)
    | (refine ⟨_, fun w1 hw1 => ⟨Ext.refl w1, hw1, rfl⟩, hK _ ?_⟩; clear hK K)
    | (apply Exists.intro; refine ⟨fun w1 hw1 => ?_, hK _ ?_⟩
       first
         | (have c_x0 := cell_keep hw1 x0; have c_x1 := cell_keep hw1 x1; go_simp; first | exact ⟨Ext.refl _, hw1, rfl⟩ | exact ⟨Ext.refl _, rfl⟩)
       clear hK K))
  refine dep_nil ?_
  intro a' w' hC hE
  obtain rfl := atEnd_nil hE
  clear hE
  simp only [List.drop_succ_cons, List.drop_zero]
  go_wp2_with ((with_reducible go_at_call 33); (with_reducible refine (HPU.out _ (Ext.trans b3 hC)).mono ?_); rintro e w4 ⟨rfl, F', h4, t4⟩)
  exact bodyPost_end (results_none rfl _ _ _) rfl ⟨rfl, F', h4, (WT.ext (Ext.trans b3 hC)).trans t4⟩

/-- The list without a number. -/
def tdel (L : TL) (id : Int) : TL := L.filter fun x => decide (x.1 ≠ id)
theorem tdel_none {L : TL} {id : Int} (h : tget L id = none) : tdel L id = L := by
  unfold tdel
  rw [List.filter_eq_self]
  intro x hx
  simpa using tget_none.1 h x hx
theorem erase_filter {id : Int} : ∀ {l : TL} {k0 : Nat}, One l id k0 → l.eraseIdx k0 = l.filter fun x => decide (x.1 ≠ id)
  | [], k0, h => absurd h.lt (by simp)
  | x :: l, 0, h => by
    have hx : x.1 = id := h.hit
    rw [List.eraseIdx_cons_zero, List.filter_cons_of_neg (by simp [hx]), List.filter_eq_self.2]
    intro y hy
    obtain ⟨j, hj, rfl⟩ := List.getElem_of_mem hy
    have := h.ne (j + 1) (by simpa using hj) (by omega)
    simpa using this
  | x :: l, k0 + 1, h => by
    have hx : x.1 ≠ id := h.ne 0 (by simp) (by omega)
    rw [List.eraseIdx_cons_succ, List.filter_cons_of_pos (by simp [hx]), erase_filter (l := l) (k0 := k0) ⟨by simpa using h.lt, h.hit, fun k hk hne => by
      have := h.ne (k + 1) (by simpa using hk) (by omega)
      simpa using this⟩]
theorem tdel_len {L : TL} (hs : TS L) {id : Int} {x : Int × Int} (h : tget L id = some x) : (tdel L id).length + 1 = L.length := by
  obtain ⟨hx, he⟩ := tget_some h
  obtain ⟨k0, hk, hxk⟩ := List.getElem_of_mem hx
  have hO : One L id k0 := ⟨hk, by rw [hxk]; exact he, fun k hk2 hne e => by
    have h1 := hs.inj (List.getElem_mem hk2) (List.getElem_mem hk) (by rw [e, hxk, he])
    rcases Nat.lt_trichotomy k k0 with q | q | q
    · have := List.pairwise_iff_getElem.1 hs k k0 hk2 hk q
      rw [h1] at this; omega
    · exact hne q
    · have := List.pairwise_iff_getElem.1 hs k0 k hk hk2 q
      rw [h1] at this; omega⟩
  unfold tdel
  rw [← erase_filter hO, List.length_eraseIdx, if_pos hk]
  omega
theorem Fits.one {now : Int} {R : RW} {L : TL} (h : Fits now R L) {id : Int} {x : Int × Int} (hg : tget L id = some x) : ∃ k0, One (R (ix now x.2)) id k0 := by
  obtain ⟨hx, he⟩ := tget_some hg
  have hm := (h.mem (ix_hi now x.2)).2 ⟨hx, rfl⟩
  obtain ⟨k0, hk, hxk⟩ := List.getElem_of_mem hm
  have hpw : (R (ix now x.2)).Pairwise fun a b => a.1 ≠ b.1 := by
    refine ((h.perm _ (ix_hi now x.2)).symm.pairwise ((h.srt.filter _).imp fun q => by omega) fun {a b} q => fun e => q e.symm)
  refine ⟨k0, hk, by rw [hxk]; exact he, fun k hk2 hne e => ?_⟩
  rcases Nat.lt_trichotomy k k0 with q | q | q
  · exact List.pairwise_iff_getElem.1 hpw k k0 hk2 hk q (by rw [e, hxk, he])
  · exact hne q
  · exact List.pairwise_iff_getElem.1 hpw k0 k hk hk2 q (by rw [e, hxk, he])
theorem Fits.cancel {now : Int} {R : RW} {L : TL} (h : Fits now R L) {id : Int} {x : Int × Int} (hg : tget L id = some x) {k0 : Nat} (hO : One (R (ix now x.2)) id k0) :
    Fits now (updR R (ix now x.2) ((R (ix now x.2)).eraseIdx k0)) (tdel L id) := by
  obtain ⟨hx, he⟩ := tget_some hg
  refine ⟨fun k hk => ?_, h.srt.filter _, fun y hy => h.fut y (List.mem_filter.1 hy).1, h.lo, h.hi, Nat.le_trans (List.length_filter_le _ _) h.len⟩
  unfold updR tdel
  rw [List.filter_filter]
  by_cases e : k = ix now x.2
  · subst e
    rw [if_pos rfl, erase_filter hO]
    have := (h.perm _ hk).filter fun y => decide (y.1 ≠ id)
    rw [List.filter_filter] at this
    refine this.trans ?_
    rw [filter_eq fun y _ => Bool.and_comm _ _]
  · rw [if_neg e]
    refine (h.perm k hk).trans ?_
    rw [filter_eq fun y hy => ?_]
    by_cases q : y.1 = id
    · have := h.srt.inj hy hx (by rw [q, he])
      subst this
      have e2 : ¬ ix now y.2 = k := fun e' => e e'.symm
      simp [e2]
    · simp [q]

set_option maxRecDepth 100000 in
set_option maxHeartbeats 1000000 in
theorem l_cancel (B g : Nat) (now : Int) (F : FW) (L : TL) (id : Int) (w : World) (h : WL w B g now F L) :
    Calls Try.prog 17 #[.pointer (some ⟨g, 0, none⟩), .int .i64 id] w fun e w' => e = .returned (.bool (tget L id).isSome) ∧ ∃ F', WL w' B g now F' (tdel L id) ∧ WT w w' g F F' := by
  have hf := l_find B g now F L id w h
  unfold findE at hf
  cases ht : tget L id with
  | none =>
    have HW := Lib.hid h
    have HDN := Lib.hid (tdel_none ht)
    rw [ht] at hf
    have HF := Lib.hid hf
    clear hf h ht
    go_enter Try.func17, Try.ntmps17
    go_wp2_with ((with_reducible go_at_call 27); (with_reducible refine (HF.out).mono ?_); rintro e w1 ⟨rfl, b1⟩)
    go_ret
    have b2 := Ext.trans b1 (Ext.alloc w1 (.cells #[.int .i64 0, .int .i64 0] 62))
    exact ⟨rfl, F, by rw [HDN.out]; exact HW.out.keep b2, WT.ext b2⟩
  | some x =>
    rw [ht] at hf
    have HF := Lib.hid hf
    obtain ⟨R, h1, h2, h3⟩ := h
    have hfu := h2.fut x (tget_some ht).1
    have hid := (tget_some ht).2
    obtain ⟨k0, hO⟩ := h2.one ht
    have HC := Lib.hid (h2.cancel ht hO)
    have HDL := Lib.hid (tdel_len h2.srt ht)
    have hlo := h2.lo
    have hhi := h2.hi
    have HTT := Lib.hid (fun w' (h' : Ext w w') => w_turn_take B g now (L.length : Int) F R id x.2 k0 w' (h1.keep h') hlo (by omega) (by omega) (by omega) (by have := h2.rlen (ix now x.2) (ix_hi _ _); omega) hO)
    have H3 := Lib.hid h3
    have hl1 := h2.len
    have hl0 := HDL.out
    obtain ⟨xi, xa⟩ := x
    simp only at hid hfu HTT HC
    subst hid
    simp only [oI, oA, Option.isSome_some] at HF
    clear hf h1 h2 ht hO h3
    have n0 : (0 : Int) < (L.length : Int) := by omega
    have n1 : (L.length : Int) ≤ 64 := by omega
    clear hl0 hl1
    go_enter Try.func17, Try.ntmps17
    go_wp2_with (first
      | ((with_reducible go_at_call 27); (with_reducible refine HF.out.mono ?_); rintro e w1 ⟨rfl, b1⟩)
      | ((with_reducible go_at_call 28); (with_reducible refine (HTT.out _ (Ext.trans b1 (Ext.alloc _ _))).mono ?_); rintro e w4 ⟨rfl, F', h4, t4⟩; have v4 := h4.n_; have f4 := h4.own.frozen 257; have H4 := Lib.hid h4; clear h4))
    go_ret
    have hS := H4.out.nTo ((L.length : Int) - 1)
    refine ⟨rfl, F', ⟨_, by rw [show ((tdel L xi).length : Int) = (L.length : Int) - 1 by have := HDL.out; omega]; exact hS.1, HC.out, ?_⟩, ((WT.ext (Ext.trans b1 (Ext.alloc _ _))).trans t4).trans hS.2⟩
    have hb := (Ext.trans b1 (Ext.alloc w1 (.cells #[.int .i64 xi, .int .i64 xa] 62))).size
    exact Nat.le_trans H3.out (Nat.le_trans hb (Nat.le_trans t4.base.size hS.2.base.size))

/-- What a tick answers and leaves. -/
structure Ticked (w w' : World) (B g : Nat) (now : Int) (F : FW) (L : TL) (e : Ending) : Prop where
  out : ∃ A c F', e = .returned (.tuple #[.slice A (goneF now L).length c, .int .i64 (movA now L : Nat)]) ∧ Row w' w.heap.size 3 1 A (goneF now L).length c (ints (goneF now L)) ∧ WL w' B g (now + 1) F' (stayF now L) ∧ WT w w' g F F'
theorem l_tick (B g : Nat) (now : Int) (F : FW) (L : TL) (w : World) (h : WL w B g now F L) (h1 : now < 16777215) :
    Calls Try.prog 13 #[.pointer (some ⟨g, 0, none⟩)] w fun e w' => Ticked w w' B g now F L e := by
  obtain ⟨R, h2, h3, h4⟩ := h
  exact (w_tick B g now F R L w h2 h3 h4 h1).mono fun e w' ⟨A, c, F', R', a1, a2, a3, a4, a5⟩ => ⟨A, c, F', a1, a2, ⟨R', a3, a4, Nat.le_trans h4 a5.base.size⟩, a5⟩
theorem l_tick_end (B g : Nat) (F : FW) (L : TL) (w : World) (h : WL w B g 16777215 F L) :
    Calls Try.prog 13 #[.pointer (some ⟨g, 0, none⟩)] w fun e w' => e = .returned (.tuple #[.slice none 0 0, .int .i64 0]) ∧ w = w' := by
  obtain ⟨R, h2, h3, h4⟩ := h
  have v0 := h2.now_
  clear h2 h3 h4
  go_enter Try.func13, Try.ntmps13
  go_wp2
  go_ret2
  exact ⟨rfl, rfl⟩

end Go.Proofs.Ytjipkgnkabocjaa
