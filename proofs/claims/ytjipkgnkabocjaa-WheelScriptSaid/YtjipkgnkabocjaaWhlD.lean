/-
  WALKS of package wheel: put, turn with put; what a store into a slot leaves.
-/
import Derived.Test.YtjipkgnkabocjaaWhlC
namespace Go.Proofs.Ytjipkgnkabocjaa
open Go.RowKit
attribute [local go_sem] depUpon Sp.ok

theorem setCell_grown (w : World) (p : Addr) (v : Value) : w.grownBy (w.setCell p v) (some p.block) := ⟨rfl, rfl, rfl, by simp, fun j _ hj => heap_setCell_other w p j v (fun q => hj (by rw [q]))⟩
theorem row_ne {w : World} {B g n c size : Nat} {e t : TypeId} {A : Option Addr} {xs ys : List Value} (h : Row w B e size A n c xs) (ho : Own w g t ys) (ht : e ≠ t) : ∀ b, blk A = some b → b ≠ g := by
  intro b hb e'
  subst e'
  rcases h.2 with ⟨hv, _⟩ | ⟨g', cap, cur, hv, _, hc, _⟩
  · injection hv with e1 e2 e3
    subst e1; cases hb
  · injection hv with e1 e2 e3
    subst e1
    have : g' = b := by simpa [blk] using hb
    subst this
    have := hc.symm.trans ho
    injection this with this
    injection this with _ e2 _
    exact ht e2
def updF (F : FW) (k : Nat) (v : Option Addr × Nat) : FW := fun j => if j = k then v else F j
def updR (R : RW) (k : Nat) (l : List (Int × Int)) : RW := fun j => if j = k then l else R j
theorem wcells_slot (now n : Int) (F : FW) (R : RW) {k : Nat} (hk : k < 256) (A : Option Addr) (m c : Nat) (ys : List (Int × Int)) (hm : ys.length = m) :
    (wcells now n F R).set (1 + k) (.slice A m c) = wcells now n (updF F k (A, c)) (updR R k ys) := by
  subst hm
  unfold wcells
  rw [Nat.add_comm, List.set_cons_succ, List.set_append_left _ _ (by simpa using hk)]
  congr 2
  apply List.ext_getElem?
  intro j
  by_cases e : j = k
  · subst e
    rw [List.getElem?_set_self (by simpa using hk)]
    simp [hk, cellOf, updF, updR]
  · rw [List.getElem?_set_ne (fun q => e q.symm)]
    simp only [List.getElem?_map]
    cases h : (List.range 256)[j]? with
    | none => rfl
    | some i =>
      have hi : i = j := by
        have h' := (List.getElem?_eq_some_iff.1 h).2
        simpa using h'.symm
      subst hi
      simp [cellOf, updF, updR, e]
theorem wcells_now (now n : Int) (F : FW) (R : RW) (v : Int) : (wcells now n F R).set 0 (.int .i64 v) = wcells v n F R := rfl
theorem wcells_setn (now n : Int) (F : FW) (R : RW) (v : Int) : (wcells now n F R).set 257 (.int .i64 v) = wcells now v F R := by
  unfold wcells
  rw [List.set_cons_succ, List.set_append_right _ _ (by simp)]
  simp
/-- What a call leaves of a wheel's world: all blocks but the wheel's own. -/
structure WT (w w' : World) (g : Nat) (F F' : FW) : Prop where
  base : Below 0 w w'
  block : ∀ i, i < w.heap.size → i ≠ g → (∀ k, k < 256 → blk (F k).1 ≠ some i) → w'.heap[i]? = w.heap[i]?
  fr : ∀ k, k < 256 → ∀ h, blk (F' k).1 = some h → (∃ j, j < 256 ∧ blk (F j).1 = some h) ∨ w.heap.size ≤ h
section
variable {w w' w'' : World} {B g : Nat} {now n : Int} {F F' F'' : FW} {R : RW}
theorem WT.ext (h : Ext w w') : WT w w' g F F := ⟨h.mono (Nat.zero_le _), fun i hi _ _ => h.block i hi, fun k hk _ hb => .inl ⟨k, hk, hb⟩⟩
theorem WT.refl (w : World) (g : Nat) (F : FW) : WT w w g F F := WT.ext (Ext.refl w)
theorem WT.trans (a : WT w w' g F F') (b : WT w' w'' g F' F'') : WT w w'' g F F'' := by
  refine ⟨Below.trans a.base b.base, fun i hi hg hF => ?_, fun k hk h hb => ?_⟩
  · rw [b.block i (Nat.lt_of_lt_of_le hi a.base.size) hg (fun k hk e => ?_), a.block i hi hg hF]
    rcases a.fr k hk i e with ⟨j, hj, hb⟩ | hb
    · exact hF j hj hb
    · omega
  · rcases b.fr k hk h hb with ⟨j, hj, hb'⟩ | hb'
    · exact a.fr j hj h hb'
    · exact .inr (Nat.le_trans a.base.size hb')
theorem WT.own (a : WT w w' g F F') {i : Nat} {t : TypeId} {xs : List Value} (h : Own w i t xs) (hg : i ≠ g) (hF : ∀ k, k < 256 → blk (F k).1 ≠ some i) : Own w' i t xs := (a.block i h.lt hg hF).trans h
theorem WT.row (a : WT w w' g F F') {b m c size : Nat} {e : TypeId} {A : Option Addr} {xs : List Value} (h : Row w b e size A m c xs) (hg : blk A ≠ some g) (hF : ∀ k, k < 256 → ∀ i, blk A = some i → blk (F k).1 ≠ some i) : Row w' b e size A m c xs := by
  refine ⟨h.1, ?_⟩
  rcases h.2 with hn | ⟨g', cap, cur, hv, hb, hc, rest⟩
  · exact .inl hn
  · refine .inr ⟨g', cap, cur, hv, hb, ?_, rest⟩
    injection hv with e1 e2 e3
    have hbl : blk A = some g' := by rw [e1]; rfl
    rw [a.block g' (Array.getElem?_eq_some_iff.1 hc).1 (fun e => hg (by rw [hbl, e])) (fun k hk => hF k hk g' hbl)]
    exact hc
theorem WS.below (h : WS w B g now n F R) (a : WT w w' g F F') (hB : B ≤ w.heap.size) : Below B w w' :=
  ⟨a.base.os, a.base.tape, a.base.output, a.base.size, fun i hi => a.block i (by omega) (by have := h.lo; omega) (fun k hk e => by have := ((h.row k hk).at_ i e).1; omega)⟩
/-- A store into a slot. -/
theorem WS.slotTo (h : WS w B g now n F R) {k : Nat} (hk : k < 256) (hg : w.grownBy w' (blk (F k).1)) {A : Option Addr} {m c : Nat} {ys : List (Int × Int)} (hr : Row w' B 62 2 A m c (pairs ys)) (hm : ys.length = m)
    (hf : ∀ i, blk A = some i → blk (F k).1 = some i ∨ w.heap.size ≤ i) (off : Nat) (ho : off = 1 + k) :
    WS (w'.setCell ⟨g, off, none⟩ (.slice A m c)) B g now n (updF F k (A, c)) (updR R k ys) ∧ WT w (w'.setCell ⟨g, off, none⟩ (.slice A m c)) g F (updF F k (A, c)) := by
  subst ho
  have hgl := h.own.lt
  have hne : ∀ j, j < 256 → ∀ b, blk (F j).1 = some b → b ≠ g := fun j hj => row_ne (h.row j hj) h.own (by decide)
  have hneA : ∀ b, blk A = some b → b ≠ g := fun b hb => by
    rcases hf b hb with h1 | h1
    · exact hne k hk b h1
    · omega
  refine ⟨⟨?_, fun j hj => ?_, fun i j hi hj hij b hb => ?_, h.lo⟩, ?_, fun i hi hig hF => ?_, fun j hj b hb => ?_⟩
  · have h1 : Own w' g 60 (wcells now n F R) := h.own.grown hg (fun e => hne k hk g e.symm rfl)
    have := h1.set (1 + k) (.slice A m c)
    rwa [wcells_slot now n F R hk A m c ys hm] at this
  · by_cases e : j = k
    · subst e
      have : Row w' B 62 2 (updF F j (A, c) j).1 (updR R j ys j).length (updF F j (A, c) j).2 (pairs (updR R j ys j)) := by
        simp only [updF, updR, if_true, hm]; exact hr
      refine this.grown (setCell_grown w' ⟨g, 1 + j, none⟩ (.slice A m c)) (.inr fun q => ?_)
      simp only [updF, if_true] at q
      exact hneA _ q rfl
    · have : Row w' B 62 2 (updF F k (A, c) j).1 (updR R k ys j).length (updF F k (A, c) j).2 (pairs (updR R k ys j)) := by
        simp only [updF, updR, e, if_false]
        refine (h.row j hj).grown hg ?_
        cases hb : blk (F j).1 with
        | none => exact .inl rfl
        | some b => exact .inr fun q => h.sep j k hj hk e b hb q.symm
      refine this.grown (setCell_grown w' ⟨g, 1 + k, none⟩ (.slice A m c)) (.inr fun q => ?_)
      simp only [updF, e, if_false] at q
      exact hne j hj _ q rfl
  · have key : ∀ j', j' < 256 → j' ≠ k → ∀ b, blk (F j').1 = some b → blk A ≠ some b := fun j' hj' hne' b hb q => by
      rcases hf b q with h1 | h1
      · exact h.sep j' k hj' hk hne' b hb h1
      · have := ((h.row j' hj').at_ b hb).2; omega
    by_cases ei : i = k
    · subst ei
      have ej : ¬ j = i := fun e => hij e.symm
      simp only [updF, if_true] at hb
      simp only [updF, ej, if_false]
      exact fun q => key j hj ej b q hb
    · simp only [updF, ei, if_false] at hb
      by_cases ej : j = k
      · subst ej
        simp only [updF, if_true]
        exact key i hi ei b hb
      · simp only [updF, ej, if_false]
        exact h.sep i j hi hj hij b hb
  · exact ⟨hg.os, hg.tape, hg.output, by have := hg.size; simpa using this, fun i hi => by omega⟩
  · rw [(setCell_grown w' ⟨g, 1 + k, none⟩ (.slice A m c)).block i (Nat.lt_of_lt_of_le hi hg.size) (fun e => hig (by injection e)), hg.block i hi (fun e => hF k hk e.symm)]
  · by_cases e : j = k
    · subst e
      simp only [updF, if_true] at hb
      rcases hf b hb with h1 | h1
      · exact .inl ⟨j, hj, h1⟩
      · exact .inr h1
    · simp only [updF, e, if_false] at hb
      exact .inl ⟨j, hj, hb⟩
theorem WS.nowTo (h : WS w B g now n F R) (v : Int) : WS (w.setCell ⟨g, 0, none⟩ (.int .i64 v)) B g v n F R ∧ WT w (w.setCell ⟨g, 0, none⟩ (.int .i64 v)) g F F := by
  have hne : ∀ j, j < 256 → ∀ b, blk (F j).1 = some b → b ≠ g := fun j hj => row_ne (h.row j hj) h.own (by decide)
  have hg := setCell_grown w ⟨g, 0, none⟩ (.int .i64 v)
  refine ⟨⟨?_, fun j hj => (h.row j hj).grown hg (.inr fun q => hne j hj _ q rfl), h.sep, h.lo⟩, ⟨hg.os, hg.tape, hg.output, hg.size, fun i hi => by omega⟩, fun i hi hig _ => hg.block i hi (fun e => hig (by injection e)), fun k hk _ hb => .inl ⟨k, hk, hb⟩⟩
  have := h.own.set 0 (.int .i64 v)
  rwa [wcells_now] at this
theorem WS.nTo (h : WS w B g now n F R) (v : Int) : WS (w.setCell ⟨g, 257, none⟩ (.int .i64 v)) B g now v F R ∧ WT w (w.setCell ⟨g, 257, none⟩ (.int .i64 v)) g F F := by
  have hne : ∀ j, j < 256 → ∀ b, blk (F j).1 = some b → b ≠ g := fun j hj => row_ne (h.row j hj) h.own (by decide)
  have hg := setCell_grown w ⟨g, 257, none⟩ (.int .i64 v)
  refine ⟨⟨?_, fun j hj => (h.row j hj).grown hg (.inr fun q => hne j hj _ q rfl), h.sep, h.lo⟩, ⟨hg.os, hg.tape, hg.output, hg.size, fun i hi => by omega⟩, fun i hi hig _ => hg.block i hi (fun e => hig (by injection e)), fun k hk _ hb => .inl ⟨k, hk, hb⟩⟩
  have := h.own.set 257 (.int .i64 v)
  rwa [wcells_setn] at this
end

theorem info_timer : (Try.prog.info? 62).map (fun i => (i.zero, i.size, i.bytes)) = some (some (.agg #[.int .i64 0, .int .i64 0]), 2, 16) := by kernel_rfl

set_option maxRecDepth 100000 in
set_option maxHeartbeats 2000000 in
theorem w_put (B g : Nat) (now n : Int) (F : FW) (R : RW) (k off : Nat) (id at_ : Int) (w : World) (h : WS w B g now n F R) (hk : k < 256) (ho : off = 1 + k) (hlen : (R k).length ≤ 65536) (hB : B ≤ w.heap.size) :
    Calls Try.prog 29 #[.pointer (some ⟨g, off, none⟩), .agg #[.int .i64 id, .int .i64 at_]] w fun e w' => e = .returned (.tuple #[]) ∧ ∃ F', WS w' B g now n F' (updR R k (R k ++ [(id, at_)])) ∧ WT w w' g F F' := by
  obtain ⟨i0, hi, hz0, hz1, hz2⟩ := info_parts info_timer
  have HI := Lib.hid hi
  have oL := Own.new w 62 [.int .i64 id, .int .i64 at_]
  have bL := Ext.alloc w (.cells #[.int .i64 id, .int .i64 at_] 62)
  have hL := h.keep bL
  have hsl := hL.slot hk
  have hfz := hL.own.frozen off
  rw [← ho] at hsl
  have HL := Lib.hid hL
  have hwl := h.own.lt
  have HT := Lib.hid (WT.ext (g := g) (F := F) bL)
  have HRO := Lib.hid (hL.row k hk)
  have HNE := Lib.hid (row_ne (hL.row k hk) hL.own (by decide))
  have HNP := Lib.hid (fun b hb => ((h.row k hk).at_ b hb).2)
  have hcell : cellOf F R k = .slice (F k).1 (R k).length (F k).2 := rfl
  rw [hcell] at hsl
  have HLEN := Lib.hid hlen
  have HAP := Lib.hid (show pairs (R k) ++ pairs [(id, at_)] = pairs (R k ++ [(id, at_)]) from pairs_app _ _)
  have HO := Lib.hid ho
  clear hcell hi h hL hlen bL ho
  go_enter Try.func29, Try.ntmps29
  go_upto_region 1 with fail
  generalize w.alloc (.cells #[.int .i64 id, .int .i64 at_] 62) = w1 at *
  have x0 := oL.cell 0
  have x1 := oL.cell 1
  simp only [List.getElem?_cons_zero, List.getElem?_cons_succ] at x0 x1
  have v0 := hsl
  have HNB := Lib.hid (show some w.heap.size ≠ blk (F k).1 from fun e => by have := HNP.out _ e.symm; omega)
  have HNG := Lib.hid (show some g ≠ blk (F k).1 from fun e => HNE.out _ e.symm rfl)
  clear hsl
  refine wp_region_dep_tail 8 (S := Gw (blk (F k).1) B 2 (R k).length 62 (pairs (R k ++ [(id, at_)]))) (C := Gc w1 (F k).1 (F k).2 B 2 (R k).length 62 (pairs (R k))) (by kernel_rfl) (by kernel_rfl) rfl Gw.refl (Gc.start HRO.out) ?_
  simp only [List.take_succ_cons, List.take_zero]
  generalize hRL : R k = L at *
  have HRL := Lib.hid hRL
  generalize hFA : (F k).1 = A at *
  generalize (F k).2 = c at *
  have HFA := Lib.hid hFA
  clear hRL hFA
  repeat (refine dep_det (by rfl) (fun K hK => ?_); go_simp; first
    | ((with_reducible refine hK _ ?_); clear hK K)
    | (refine ⟨_, fun w1 hw1 => ⟨Gw.refl w1, hw1, rfl⟩, hK _ ?_⟩; clear hK K)
    | (apply Exists.intro; refine ⟨fun w1 hw1 => ?_, hK _ ?_⟩
       · have c_1 := hw1.grown.cell v0 HNG.out
         have c_2 := hw1.grown.cell x0 HNB.out
         have c_3 := hw1.grown.cell x1 HNB.out
         go_simp
         first | exact ⟨Gw.refl _, hw1, rfl⟩ | exact ⟨Gw.refl _, rfl⟩
       clear hK K))
  refine dep_var (SlG 62 (pairs [(id, at_)]) (blk A)) 9 rfl (by rfl) SlG.keep (by go_simp) (fun w1 hw1 => ?_) ?_
  · go_simp
    exact ⟨Gw.ext (Ext.alloc _ _), hw1.ext (Ext.alloc _ _), SlG.new hw1⟩
  refine dep_var1 9 (SlG 62 (pairs [(id, at_)]) (blk A)) (GrV B 2 L.length 62 (pairs (L ++ [(id, at_)])) (blk A) w1.heap.size) 10 rfl (by rfl) (by intro V' h; simpa using h) (List.mem_cons_self ..) (by first | (simp; done) | simp [Act.put]) GrV.keep (fun w2 v hw2 hV => ?_) ?_
  · refine ⟨by go_simp, ?_⟩
    obtain ⟨A', c', w', hrun, p1, p2, p3⟩ := grow_run (P := Try.prog) w2 56 56 62 i0 _ 2 16 und_slot HI.out hz0 hz1 hz2 rfl (by omega) w1 B A L.length c (pairs L) hw2 (pairs [(id, at_)]) rfl (pairs_one _) _ HAP.out v hV (by have := HLEN.out; omega) (by have := HLEN.out; omega) (by have h1 := hw2.grown.size; have h2 := HT.out.base.size; omega)
    exact dep_append rfl hrun ⟨p1, p2, p3⟩
  repeat (refine dep_det (by rfl) (fun K hK => ?_); go_simp; first
    | ((with_reducible refine hK _ ?_); clear hK K)
    | (refine ⟨_, fun w1 hw1 => ⟨Gw.refl w1, hw1, rfl⟩, hK _ ?_⟩; clear hK K)
    | (apply Exists.intro; refine ⟨fun w1 hw1 => ?_, hK _ ?_⟩
       · have c_1 := hw1.grown.cell v0 HNG.out
         have c_2 := hw1.grown.cell x0 HNB.out
         have c_3 := hw1.grown.cell x1 HNB.out
         go_simp
         first | exact ⟨Gw.refl _, hw1, rfl⟩ | exact ⟨Gw.refl _, rfl⟩
       clear hK K))
  refine dep_nil ?_
  intro a' w' hC hE
  obtain ⟨v, ⟨A1, d1, rfl, p1, p1'⟩, hE⟩ := atEnd_cons hE (by simp) (by first | (simp; done) | simp [Act.put])
  obtain ⟨v, ⟨g3, rfl, _⟩, hE⟩ := atEnd_cons hE (by simp) (by first | (simp; done) | simp [Act.put])
  obtain rfl := atEnd_nil hE
  clear hE
  simp only [List.drop_succ_cons, List.drop_zero]
  have hgr := hC.grown
  rw [← HFA.out] at hgr p1'
  have hS := HL.out.slotTo hk hgr (by simpa using p1 : Row w' B 62 2 A1 (L.length + 1) d1 (pairs (L ++ [(id, at_)]))) (by simp) (fun i hb => by
    rcases p1' with h1 | ⟨hh, h1, h2⟩
    · exact .inl (by rw [← h1]; exact hb)
    · right
      rw [hb] at h1
      injection h1 with h1
      omega) off HO.out
  have v9 := hC.grown.cell v0 HNG.out
  have f9 : w'.frozen? ⟨g, off, none⟩ = false := (World.frozen?_of_block (hC.grown.block g (by have := HL.out.own.lt; omega) HNG.out)).trans hfz
  go_wp2
  exact bodyPost_end (results_none rfl _ _ _) rfl ⟨rfl, updF F k (A1, d1), by rw [← HRL.out] at hS ⊢; exact hS.1, HT.out.trans hS.2⟩

end Go.Proofs.Ytjipkgnkabocjaa
