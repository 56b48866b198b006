/-
  WALKS of package proc: New, Alive, Parent, Start.
-/
import Derived.Test.YtdgggdhligfnpaaPrcA
namespace Go.Proofs.Ytdgggdhligfnpaa
open Go.RowKit Go.Maps
attribute [local go_sem] depUpon Sp.ok

def aliveB (L : List PR) (k : Int) : Bool := (pget L k).isSome && !oDead (pget L k)

set_option maxRecDepth 100000 in
theorem zero_proc : (Try.prog.info? 56).map (·.zero) = some (some (pval 0 0 false)) := by kernel_rfl
set_option maxRecDepth 100000 in
theorem size_proc : (Try.prog.info? 56).map (·.size) = some 3 := by kernel_rfl

theorem p_new (w : World) : Calls Try.prog 7 #[] w fun e w' => ∃ g gm, e = .returned (.pointer (some ⟨g, 0, none⟩)) ∧ PS w' g gm [] ∧ Below w.heap.size w w' ∧ w.heap.size ≤ g ∧ w.heap.size ≤ gm := by
  have hm := @run_makeMap Try.prog
  have h1 : (w.alloc (.map #[] 0)).ownsMap Try.prog 3 prd w.heap.size 0 (dmap []) := World.ownsMap_made w Try.prog 3 prd
  have h2 := h1.alloc (.cells #[.map (some w.heap.size)] 54)
  have o2 := Own.new (w.alloc (.map #[] 0)) 54 [.map (some w.heap.size)]
  rw [World.size_alloc] at o2
  have b2 : Ext w ((w.alloc (.map #[] 0)).alloc (.cells #[.map (some w.heap.size)] 54)) := Ext.trans (Ext.alloc _ _) (Ext.alloc _ _)
  go_enter Try.func7, Try.ntmps7
  go_wp2
  go_ret
  exact ⟨_, _, rfl, ⟨o2, h2, List.Pairwise.nil, by simp, by omega⟩, b2, by omega, Nat.le_refl _⟩

set_option maxRecDepth 100000 in
set_option maxHeartbeats 1000000 in
theorem p_alive (g gm : Nat) (L : List PR) (k : Int) (w : World) (h : PS w g gm L) (hk : I64 k) :
    Calls Try.prog 20 #[.pointer (some ⟨g, 0, none⟩), .int .i64 k] w fun e w' => e = .returned (.bool (aliveB L k)) ∧ Below w.heap.size w w' := by
  have hrun := h.look_ok hk
  have hc := h.cell
  have HQ := Lib.hid (show aliveB L k = ((pget L k).isSome && !oDead (pget L k)) from rfl)
  generalize (pget L k).isSome = q at *
  generalize oPar (pget L k) = a at *
  generalize oCode (pget L k) = c at *
  generalize oDead (pget L k) = d at *
  clear h hk
  cases q
  all_goals
    go_enter Try.func20, Try.ntmps20
    go_wp2_with (first | (refine wpl_alloc_own _ rfl 56 rfl (pval 0 0 false) zero_proc ?_; intro w2 o2 b2 s2; clear s2) | (refine wpl_store_own _ rfl 56 _ _ rfl 3 size_proc _ rfl [.int .i64 a, .int .i64 c, .bool d] rfl _ _ o2 rfl rfl (by simp [Value.oneCell']) ?_; intro w3 o3 g3 s3; clear s3; have b3 := below_of_grown b2 g3 (Nat.le_refl _) b2.size; have x0 := o3.cell 0; have x1 := o3.cell 1; have x2 := o3.cell 2; simp only [List.getElem?_cons_zero, List.getElem?_cons_succ] at x0 x1 x2))
    cases d
    all_goals
      go_wp2
      go_ret
      exact ⟨by rw [HQ.out]; rfl, b3⟩
theorem p_alive_nil (k : Int) (w : World) : Calls Try.prog 20 #[.pointer none, .int .i64 k] w fun e w' => e = .returned (.bool false) ∧ w = w' := by
  go_enter Try.func20, Try.ntmps20
  go_wp2
  go_ret
  exact ⟨rfl, rfl⟩

set_option maxRecDepth 100000 in
set_option maxHeartbeats 1000000 in
theorem p_parent (g gm : Nat) (L : List PR) (k : Int) (w : World) (h : PS w g gm L) (hk : I64 k) :
    Calls Try.prog 18 #[.pointer (some ⟨g, 0, none⟩), .int .i64 k] w fun e w' => e = .returned (.tuple #[.int .i64 (oPar (pget L k)), .bool (pget L k).isSome]) ∧ Below w.heap.size w w' := by
  have hrun := h.look_ok hk
  have hc := h.cell
  generalize (pget L k).isSome = q at *
  generalize oPar (pget L k) = a at *
  generalize oCode (pget L k) = c at *
  generalize oDead (pget L k) = d at *
  clear h hk
  go_enter Try.func18, Try.ntmps18
  go_wp2_with (first | (refine wpl_alloc_own _ rfl 56 rfl (pval 0 0 false) zero_proc ?_; intro w2 o2 b2 s2; clear s2) | (refine wpl_store_own _ rfl 56 _ _ rfl 3 size_proc _ rfl [.int .i64 a, .int .i64 c, .bool d] rfl _ _ o2 rfl rfl (by simp [Value.oneCell']) ?_; intro w3 o3 g3 s3; clear s3; have b3 := below_of_grown b2 g3 (Nat.le_refl _) b2.size; have x0 := o3.cell 0; have x1 := o3.cell 1; have x2 := o3.cell 2; simp only [List.getElem?_cons_zero, List.getElem?_cons_succ] at x0 x1 x2))
  go_ret2
  exact ⟨rfl, b3⟩
theorem p_parent_nil (k : Int) (w : World) : Calls Try.prog 18 #[.pointer none, .int .i64 k] w fun e w' => e = .returned (.tuple #[.int .i64 0, .bool false]) ∧ w = w' := by
  go_enter Try.func18, Try.ntmps18
  go_wp2
  go_ret2
  exact ⟨rfl, rfl⟩

/-- What Start answers, and leaves. -/
def startE (L : List PR) (k par : Int) : Int := if k < 0 then 2 else if (pget L k).isSome = true then 5 else if par ≠ -1 ∧ aliveB L par = false then 4 else 0
def startL (L : List PR) (k par : Int) : List PR := if startE L k par = 0 then pput L ⟨k, par, 0, false⟩ else L
/-- What a call leaves: all but the map is as it was. -/
structure PT (w w' : World) (g gm : Nat) (L : List PR) : Prop where
  st : PS w' g gm L
  grown : w.grownBy w' (some gm)
theorem PT.of {w w' : World} {g gm : Nat} {L : List PR} (h : PS w g gm L) (hb : Ext w w') : PT w w' g gm L := ⟨h.keep hb, ⟨hb.os, hb.tape, hb.output, hb.size, fun i hi _ => hb.block i hi⟩⟩
theorem PS.put {w w' : World} {g gm : Nat} {L : List PR} (h : PS w g gm L) (x : PR) (hx : I64 x.pid) (hm : w'.ownsMap Try.prog 3 prd gm (L.length + 1) ((dmap L).put (.int .i64 x.pid) (penc x.par x.code x.dead))) (hg : w.grownBy w' (some gm)) : PS w' g gm (pput L x) :=
  ⟨h.own.grown hg (fun q => h.ne (by injection q)), by rw [dmap_put] at hm; exact tight hm, h.srt.put x, fun r hr => by
    rcases pput_mem.1 hr with rfl | ⟨h1, _⟩
    · exact hx
    · exact h.wf r h1, h.ne⟩

set_option maxRecDepth 100000 in
set_option maxHeartbeats 2000000 in
theorem p_start (g gm : Nat) (L : List PR) (k par : Int) (w : World) (h : PS w g gm L) (hk : I64 k) (hp : I64 par) (hn : L.length ≤ 65536) :
    Calls Try.prog 8 #[.pointer (some ⟨g, 0, none⟩), .int .i64 k, .int .i64 par] w fun e w' => e = .returned (.int .i64 (startE L k par)) ∧ PT w w' g gm (startL L k par) := by
  have hrun := h.look_ok hk
  have hc := h.cell
  have HAL := Lib.hid (fun w' (h' : Ext w w') => p_alive g gm L par w' (h.keep h') hp)
  have HH := Lib.hid h
  have he : startE L k par = if k < 0 then 2 else if (pget L k).isSome = true then 5 else if par ≠ -1 ∧ aliveB L par = false then 4 else 0 := rfl
  have HL := Lib.hid (show startL L k par = if startE L k par = 0 then pput L ⟨k, par, 0, false⟩ else L from rfl)
  generalize (pget L k).isSome = q at *
  generalize oPar (pget L k) = a at *
  generalize oCode (pget L k) = c at *
  generalize oDead (pget L k) = d at *
  generalize aliveB L par = al at *
  have HK := Lib.hid hk
  clear h hk hp
  by_cases hk0 : k < 0
  · have HE := Lib.hid (by rw [he, if_pos hk0] : startE L k par = 2)
    have HL2 := Lib.hid (by rw [HL.out, HE.out]; rfl : startL L k par = L)
    clear he
    go_enter Try.func8, Try.ntmps8
    go_wp2_with (first | (refine wpl_alloc_own _ rfl 56 rfl (pval 0 0 false) zero_proc ?_; intro w2 o2 b2 s2; clear s2) | (refine wpl_store_own _ rfl 56 _ _ rfl 3 size_proc _ rfl [.int .i64 a, .int .i64 c, .bool d] rfl _ _ o2 rfl rfl (by simp [Value.oneCell']) ?_; intro w3 o3 g3 s3; clear s3; have b3 := below_of_grown b2 g3 (Nat.le_refl _) b2.size; have x0 := o3.cell 0; have x1 := o3.cell 1; have x2 := o3.cell 2; simp only [List.getElem?_cons_zero, List.getElem?_cons_succ] at x0 x1 x2))
    go_ret
    exact ⟨by rw [HE.out]; rfl, by rw [HL2.out]; exact PT.of HH.out b3⟩
  rw [if_neg hk0] at he
  cases q
  case true =>
    have HE := Lib.hid (by rw [he]; rfl : startE L k par = 5)
    have HL2 := Lib.hid (by rw [HL.out, HE.out]; rfl : startL L k par = L)
    clear he
    go_enter Try.func8, Try.ntmps8
    go_wp2_with (first | (refine wpl_alloc_own _ rfl 56 rfl (pval 0 0 false) zero_proc ?_; intro w2 o2 b2 s2; clear s2) | (refine wpl_store_own _ rfl 56 _ _ rfl 3 size_proc _ rfl [.int .i64 a, .int .i64 c, .bool d] rfl _ _ o2 rfl rfl (by simp [Value.oneCell']) ?_; intro w3 o3 g3 s3; clear s3; have b3 := below_of_grown b2 g3 (Nat.le_refl _) b2.size; have x0 := o3.cell 0; have x1 := o3.cell 1; have x2 := o3.cell 2; simp only [List.getElem?_cons_zero, List.getElem?_cons_succ] at x0 x1 x2))
    go_ret
    exact ⟨by rw [HE.out]; rfl, by rw [HL2.out]; exact PT.of HH.out b3⟩
  rw [if_neg (by simp)] at he
  by_cases hp1 : par = -1
  · have tp : (par != -1) = false := by simp [hp1]
    have HE := Lib.hid (by rw [he, if_neg (fun h => h.1 hp1)] : startE L k par = 0)
    have HL2 := Lib.hid (by rw [HL.out, HE.out]; rfl : startL L k par = pput L ⟨k, par, 0, false⟩)
    clear he hp1
    go_enter Try.func8, Try.ntmps8
    go_wp2_with (first | (refine wpl_alloc_own _ rfl 56 rfl (pval 0 0 false) zero_proc ?_; intro w2 o2 b2 s2; clear s2) | (refine wpl_store_own _ rfl 56 _ _ rfl 3 size_proc _ rfl [.int .i64 a, .int .i64 c, .bool d] rfl _ _ o2 rfl rfl (by simp [Value.oneCell']) ?_; intro w3 o3 g3 s3; clear s3; have b3 := below_of_grown b2 g3 (Nat.le_refl _) b2.size; have x0 := o3.cell 0; have x1 := o3.cell 1; have x2 := o3.cell 2; simp only [List.getElem?_cons_zero, List.getElem?_cons_succ] at x0 x1 x2; have hc3 := (HH.out.keep b3).cell) | (at_mapUpdate; refine wpList_mapUpdate_own _ rfl _ _ _ 52 rfl 3 56 keyed_int' Try.underlying52 prd gm L.length (dmap L) rfl (HH.out.keep b3).map (by unfold maxLen; omega) (.int .i64 k) (pval par 0 false) (.int .i64 k) rfl rfl (keyOf_int_mk Try.underlying3 (wf_i64' HK.out)) (penc par 0 false) [] rfl ?_; intro w4 m4 g4))
    go_ret
    exact ⟨by rw [HE.out]; rfl, by rw [HL2.out]; exact ⟨(HH.out.keep b3).put ⟨k, par, 0, false⟩ HK.out m4 g4, (World.grownBy.trans ⟨b3.os, b3.tape, b3.output, b3.size, fun i hi _ => b3.block i hi⟩ g4)⟩⟩
  · have tp : (par != -1) = true := by simp [hp1]
    cases al
    case false =>
      have HE := Lib.hid (by rw [he, if_pos ⟨hp1, rfl⟩] : startE L k par = 4)
      have HL2 := Lib.hid (by rw [HL.out, HE.out]; rfl : startL L k par = L)
      clear he hp1
      go_enter Try.func8, Try.ntmps8
      go_wp2_with (first | (refine wpl_alloc_own _ rfl 56 rfl (pval 0 0 false) zero_proc ?_; intro w2 o2 b2 s2; clear s2) | (refine wpl_store_own _ rfl 56 _ _ rfl 3 size_proc _ rfl [.int .i64 a, .int .i64 c, .bool d] rfl _ _ o2 rfl rfl (by simp [Value.oneCell']) ?_; intro w3 o3 g3 s3; clear s3; have b3 := below_of_grown b2 g3 (Nat.le_refl _) b2.size; have x0 := o3.cell 0; have x1 := o3.cell 1; have x2 := o3.cell 2; simp only [List.getElem?_cons_zero, List.getElem?_cons_succ] at x0 x1 x2) | ((with_reducible go_at_call 20); (with_reducible refine (HAL.out _ b3).mono ?_); rintro e w4 ⟨rfl, b4⟩))
      go_ret
      exact ⟨by rw [HE.out]; rfl, by rw [HL2.out]; exact PT.of HH.out (Ext.trans b3 b4)⟩
    have HE := Lib.hid (by rw [he, if_neg (fun h => by cases h.2)] : startE L k par = 0)
    have HL2 := Lib.hid (by rw [HL.out, HE.out]; rfl : startL L k par = pput L ⟨k, par, 0, false⟩)
    clear he hp1
    go_enter Try.func8, Try.ntmps8
    go_wp2_with (first | (refine wpl_alloc_own _ rfl 56 rfl (pval 0 0 false) zero_proc ?_; intro w2 o2 b2 s2; clear s2) | (refine wpl_store_own _ rfl 56 _ _ rfl 3 size_proc _ rfl [.int .i64 a, .int .i64 c, .bool d] rfl _ _ o2 rfl rfl (by simp [Value.oneCell']) ?_; intro w3 o3 g3 s3; clear s3; have b3 := below_of_grown b2 g3 (Nat.le_refl _) b2.size; have x0 := o3.cell 0; have x1 := o3.cell 1; have x2 := o3.cell 2; simp only [List.getElem?_cons_zero, List.getElem?_cons_succ] at x0 x1 x2) | ((with_reducible go_at_call 20); (with_reducible refine (HAL.out _ b3).mono ?_); rintro e w6 ⟨rfl, b6⟩; have b5 := Ext.trans b3 b6; have hc5 := (HH.out.keep b5).cell) | (at_mapUpdate; refine wpList_mapUpdate_own _ rfl _ _ _ 52 rfl 3 56 keyed_int' Try.underlying52 prd gm L.length (dmap L) rfl (HH.out.keep b5).map (by unfold maxLen; omega) (.int .i64 k) (pval par 0 false) (.int .i64 k) rfl rfl (keyOf_int_mk Try.underlying3 (wf_i64' HK.out)) (penc par 0 false) [] rfl ?_; intro w4 m4 g4))
    go_ret
    exact ⟨by rw [HE.out]; rfl, by rw [HL2.out]; exact ⟨(HH.out.keep b5).put ⟨k, par, 0, false⟩ HK.out m4 g4, (World.grownBy.trans ⟨b5.os, b5.tape, b5.output, b5.size, fun i hi _ => b5.block i hi⟩ g4)⟩⟩
theorem p_start_nil (k par : Int) (w : World) : Calls Try.prog 8 #[.pointer none, .int .i64 k, .int .i64 par] w fun e w' => e = .returned (.int .i64 1) ∧ w = w' := by
  go_enter Try.func8, Try.ntmps8
  go_wp2
  go_ret
  exact ⟨rfl, rfl⟩

end Go.Proofs.Ytdgggdhligfnpaa
