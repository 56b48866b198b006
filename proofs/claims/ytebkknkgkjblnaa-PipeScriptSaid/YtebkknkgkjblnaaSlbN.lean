/-
  WALKS of chapter 5's reference: Len; the plain words of Take and Give.
-/
import Derived.Test.YtebkknkgkjblnaaSlbM
namespace Go.Proofs.Ytebkknkgkjblnaa
open Go.RowKit
attribute [local go_sem] depUpon Sp.ok

/-- How many of the first K slots are taken. -/
def cntK (sl : List Int) : Nat → Nat
  | 0 => 0
  | k + 1 => cntK sl k + if (k : Int) ∈ sl then 1 else 0
theorem cntK_le (sl : List Int) : ∀ k, cntK sl k ≤ k
  | 0 => Nat.le_refl _
  | k + 1 => by
    have := cntK_le sl k
    unfold cntK
    split <;> omega
theorem cntK_congr {sl tl : List Int} : ∀ K : Nat, (∀ j : Nat, j < K → ((j : Int) ∈ sl ↔ (j : Int) ∈ tl)) → cntK sl K = cntK tl K
  | 0, _ => rfl
  | k + 1, h => by
    unfold cntK
    rw [cntK_congr k fun j hj => h j (by omega)]
    by_cases e : (k : Int) ∈ sl
    · rw [if_pos e, if_pos ((h k (by omega)).1 e)]
    · rw [if_neg e, if_neg (fun q => e ((h k (by omega)).2 q))]
theorem cntK_all : ∀ (K : Nat) {sl : List Int}, LS sl → (∀ j ∈ sl, 0 ≤ j ∧ j < (K : Int)) → cntK sl K = sl.length
  | 0, sl, _, h => by
    cases sl with
    | nil => rfl
    | cons y r => have := h y (by simp); omega
  | K + 1, sl, hs, h => by
    unfold cntK
    by_cases e : (K : Int) ∈ sl
    · have h1 := sdel_len hs e
      have h2 := cntK_all K (hs.del (K : Int)) fun j hj => by
        obtain ⟨q1, q2⟩ := sdel_mem.1 hj
        have := h j q1
        omega
      rw [if_pos e, cntK_congr (tl := sdel sl (K : Int)) K (fun j hj => by rw [sdel_mem]; constructor <;> intro q <;> first | exact q.1 | exact ⟨q, by omega⟩), h2]
      omega
    · rw [if_neg e]
      exact cntK_all K hs fun j hj => by
        have := h j hj
        have : j ≠ (K : Int) := fun q => e (q ▸ hj)
        omega
theorem Pc.ok.cnt {n : Nat} {tk : List Bool} {a : Pc} (h : a.ok n tk) : cntK a.sl 4 = a.sl.length := by
  refine cntK_all 4 h.ls fun j hj => ?_
  have h1 := h.sl j hj
  have h2 : nsl a.sz ≤ 4 := by rcases h.sz with e | e | e <;> rw [e] <;> decide
  omega
theorem totL_app (L M : List Pc) : totL (L ++ M) = totL L + totL M := by simp [totL]

/-- The list so far, and is it in? -/
theorem insP_in {x : Pc} (m : List Pc) : ∀ {l : List Pc}, (∃ z ∈ l, x.f < z.f) → insP x (l ++ m) = insP x l ++ m
  | [], h => by obtain ⟨z, hz, _⟩ := h; cases hz
  | y :: r, h => by
    show insP x (y :: (r ++ m)) = _
    unfold insP
    by_cases e : x.f < y.f
    · rw [if_pos e, if_pos e]; rfl
    · rw [if_neg e, if_neg e, insP_in m (l := r)]
      · rfl
      · obtain ⟨z, hz, hl⟩ := h
        rcases List.mem_cons.1 hz with rfl | hz
        · exact absurd hl e
        · exact ⟨z, hz, hl⟩
theorem insP_out {x : Pc} (m : List Pc) : ∀ {l : List Pc}, (∀ z ∈ l, ¬ x.f < z.f) → insP x (l ++ m) = l ++ insP x m
  | [], _ => rfl
  | y :: r, h => by
    show insP x (y :: (r ++ m)) = _
    unfold insP
    rw [if_neg (h y (by simp)), insP_out m (l := r) fun z hz => h z (by simp [hz])]
    cases m <;> rfl
theorem insP_len (x : Pc) : ∀ L : List Pc, (insP x L).length = L.length + 1
  | [] => rfl
  | y :: r => by
    unfold insP
    split
    · rfl
    · rw [List.length_cons, insP_len x r]; rfl
def insG (x : Pc) (l : List Pc) : List Pc × Bool := if l.any (fun y => decide (x.f < y.f)) = true then (insP x l, true) else (l, false)
theorem insG_no {x : Pc} {l : List Pc} (h : ¬ l.any (fun y => decide (x.f < y.f)) = true) : ∀ z ∈ l, ¬ x.f < z.f := fun z hz hl => h (List.any_eq_true.2 ⟨z, hz, by simpa using hl⟩)
theorem insG_snoc (x y : Pc) (l : List Pc) : insG x (l ++ [y]) = if (insG x l).2 = true then ((insG x l).1 ++ [y], true) else if x.f < y.f then ((insG x l).1 ++ [x] ++ [y], true) else ((insG x l).1 ++ [y], false) := by
  by_cases h : l.any (fun y => decide (x.f < y.f)) = true
  · have e1 : insG x l = (insP x l, true) := by unfold insG; rw [if_pos h]
    have e2 : insG x (l ++ [y]) = (insP x (l ++ [y]), true) := by unfold insG; rw [if_pos (by rw [List.any_append, h]; rfl)]
    obtain ⟨z, hz, hl⟩ := List.any_eq_true.1 h
    rw [e1, e2, if_pos rfl, insP_in [y] ⟨z, hz, by simpa using hl⟩]
  · have e1 : insG x l = (l, false) := by unfold insG; rw [if_neg h]
    have hno := insG_no h
    by_cases e : x.f < y.f
    · have e2 : insG x (l ++ [y]) = (insP x (l ++ [y]), true) := by unfold insG; rw [if_pos (by rw [List.any_append]; simp [e])]
      have e3 : insP x [y] = [x, y] := by unfold insP; rw [if_pos e]
      rw [e1, e2, if_neg (by simp), if_pos e, insP_out [y] hno, e3]
      simp
    · have e2 : insG x (l ++ [y]) = (l ++ [y], false) := by
        unfold insG
        rw [if_neg]
        rw [List.any_append]
        simp only [Bool.not_eq_true] at h
        rw [h]
        simp; omega
      rw [e1, e2, if_neg (by simp), if_neg e]
theorem insG_end (x : Pc) (l : List Pc) : insP x l = if (insG x l).2 = true then (insG x l).1 else (insG x l).1 ++ [x] := by
  by_cases h : l.any (fun y => decide (x.f < y.f)) = true
  · have e1 : insG x l = (insP x l, true) := by unfold insG; rw [if_pos h]
    rw [e1, if_pos rfl]
  · have e1 : insG x l = (l, false) := by unfold insG; rw [if_neg h]
    rw [e1, if_neg (by simp)]
    have := insP_out (x := x) [] (insG_no h)
    rw [List.append_nil] at this
    exact this
theorem insG_len (x : Pc) (l : List Pc) : (insG x l).1.length ≤ l.length + 1 := by
  by_cases h : l.any (fun y => decide (x.f < y.f)) = true
  · have e1 : insG x l = (insP x l, true) := by unfold insG; rw [if_pos h]
    rw [e1]
    show (insP x l).length ≤ _
    rw [insP_len]; exact Nat.le_refl _
  · have e1 : insG x l = (l, false) := by unfold insG; rw [if_neg h]
    rw [e1]
    show l.length ≤ _
    omega

theorem updS_at {p : FP} {L : List Pc} (h : SP p L) {i : Nat} (hi : i < L.length) (sl : List Int) : updS L L[i].f sl = L.set i { L[i] with sl := sl } := by
  unfold updS
  apply List.ext_getElem
  · simp
  · intro j h1 h2
    have hj : j < L.length := by simpa using h1
    rw [List.getElem_map, List.getElem_set]
    by_cases e : i = j
    · subst e
      rw [if_pos rfl, if_pos rfl]
    · rw [if_neg e, if_neg]
      intro q
      have hs := List.pairwise_iff_getElem.1 h.srt
      rcases Nat.lt_or_gt_of_ne e with l | l
      · have := hs i j hi hj l; omega
      · have := hs j i hj hi l; omega
theorem cuts_set {L : List Pc} {i : Nat} (hi : i < L.length) {j : Nat} (hj : j < 6) (v : Value) (a : Pc) (ha : cutV a = (cutV L[i]).set j v) : (cuts L).set (i * 6 + j) v = cuts (L.set i a) := by
  have e1 : cuts L = cuts (L.take i) ++ (cutV L[i] ++ cuts (L.drop (i + 1))) := by
    have h1 : L = L.take i ++ L[i] :: L.drop (i + 1) := by rw [← List.drop_eq_getElem_cons hi, List.take_append_drop]
    have h2 : cuts (L[i] :: L.drop (i + 1)) = cutV L[i] ++ cuts (L.drop (i + 1)) := by unfold cuts; rw [List.flatMap_cons]
    rw [← h2, cuts_app, ← h1]
  have e2 : cuts (L.set i a) = cuts (L.take i) ++ (cutV a ++ cuts (L.drop (i + 1))) := by
    have h1 : L.set i a = L.take i ++ a :: L.drop (i + 1) := List.set_eq_take_append_cons_drop .. |>.trans (by rw [if_pos hi])
    have h2 : cuts (a :: L.drop (i + 1)) = cutV a ++ cuts (L.drop (i + 1)) := by unfold cuts; rw [List.flatMap_cons]
    rw [h1, ← h2, cuts_app]
  have hl : (cuts (L.take i)).length = i * 6 := by rw [cuts_len, List.length_take]; omega
  rw [e1, e2, List.set_append_right _ _ (by omega), List.set_append_left _ _ (by show _ < (cutV L[i]).length; rw [hl]; show _ < 6; omega), ha, hl]
  congr 3
  omega
theorem cutV_put (a : Pc) {k : Nat} (hk : k < 4) : cutV { a with sl := sins (k : Int) a.sl } = (cutV a).set (2 + k) (.bool true) := by
  match k, hk with
  | 0, _ => simp [cutV, sins_mem]
  | 1, _ => simp [cutV, sins_mem]
  | 2, _ => simp [cutV, sins_mem]
  | 3, _ => simp [cutV, sins_mem]
theorem cutV_del (a : Pc) {k : Nat} (hk : k < 4) : cutV { a with sl := sdel a.sl (k : Int) } = (cutV a).set (2 + k) (.bool false) := by
  match k, hk with
  | 0, _ => simp [cutV, sdel_mem]
  | 1, _ => simp [cutV, sdel_mem]
  | 2, _ => simp [cutV, sdel_mem]
  | 3, _ => simp [cutV, sdel_mem]
/-- A slot's mark is turned. -/
theorem RS.mark {w : World} {B gs gr c g : Nat} {p : FP} {L : List Pc} (h : RS w B gs gr (some ⟨g, 0, none⟩) c L) (hp : SP p L) {i : Nat} (hi : i < L.length) {k : Nat} (hk : k < 4) (b : Bool) (sl : List Int) (hs : cutV { L[i] with sl := sl } = (cutV L[i]).set (2 + k) (.bool b)) :
    RS (w.setCell ⟨g, i * 6 + 2 + k, none⟩ (.bool b)) B gs gr (some ⟨g, 0, none⟩) c (updS L L[i].f sl) ∧ Tr w (w.setCell ⟨g, i * 6 + 2 + k, none⟩ (.bool b)) (RSB gs (some ⟨g, 0, none⟩)) (RSB gs (some ⟨g, 0, none⟩)) ∧ w.frozen? ⟨g, i * 6 + 2 + k, none⟩ = false ∧ (w.setCell ⟨g, i * 6 + 2 + k, none⟩ (.bool b)).cell? ⟨g, i * 6, none⟩ = some (.int .i64 (L[i].f : Int)) := by
  have hlen : (updS L L[i].f sl).length = L.length := by simp [updS]
  obtain ⟨a1, a2, a3⟩ := h.row.setAt (i * 6 + 2 + k) (by omega) (.bool b)
  have hne : gs ≠ g := fun q => row_ne h.row h.own (by decide) g rfl q.symm
  have e := cuts_set hi (show 2 + k < 6 by omega) (.bool b) _ hs
  rw [← updS_at hp hi, ← Nat.add_assoc] at e
  rw [e] at a3
  have hR : RS (w.setCell ⟨g, i * 6 + 2 + k, none⟩ (.bool b)) B gs gr (some ⟨g, 0, none⟩) c (updS L L[i].f sl) := by
    refine ⟨?_, ?_, h.lo⟩
    · rw [hlen]
      exact h.own.far (p := ⟨g, i * 6 + 2 + k, none⟩) hne _
    · rw [hlen]; exact a3
  refine ⟨hR, Tr.set _ _ (.inr rfl), a2, ?_⟩
  obtain ⟨g', e1, e2, _⟩ := hR.cut (i := i) (by omega)
  injection e1 with e1; injection e1 with e1
  subst e1
  have hf : (updS L L[i].f sl)[i].f = L[i].f := by
    unfold updS
    rw [List.getElem_map]
    split <;> rfl
  rwa [hf] at e2

end Go.Proofs.Ytebkknkgkjblnaa
