/-
  WHEEL: a tick, ring by ring (plain).
-/
import Derived.Test.YtjipkgnkabocjaaWhlH
namespace Go.Proofs.Ytjipkgnkabocjaa
open Go.RowKit

/-- Who goes off. -/
def goneF (now : Int) (l : TL) : List Int := (l.filter fun x => decide (x.2 = now + 1)).map Prod.fst
/-- Who stays. -/
def stayF (now : Int) (l : TL) : TL := l.filter fun x => decide (x.2 ≠ now + 1)
/-- How many of ring r's go elsewhere. -/
def movF (now : Int) (r : Nat) (l : TL) : Nat := (l.filter fun x => decide (x.2 ≠ now + 1 ∧ rg (now + 1) x.2 ≠ r)).length
/-- How many are moved. -/
def movA (now : Int) (l : TL) : Nat := (l.filter fun x => decide (x.2 ≠ now + 1 ∧ rg (now + 1) x.2 ≠ rg now x.2)).length
/-- The slots, with these put in. -/
def Rt (now : Int) (R : RW) (l : TL) : RW := fun k => R k ++ l.filter fun x => decide (x.2 ≠ now + 1 ∧ ix (now + 1) x.2 = k)
theorem Rt_nil (now : Int) (R : RW) : Rt now R [] = R := by funext k; simp [Rt]
theorem Rt_put (now : Int) (R : RW) (l : TL) (x : Int × Int) (h : x.2 ≠ now + 1) : updR (Rt now R l) (ix (now + 1) x.2) (Rt now R l (ix (now + 1) x.2) ++ [x]) = Rt now R (l ++ [x]) := by
  funext k
  unfold updR Rt
  by_cases e : k = ix (now + 1) x.2
  · subst e
    rw [if_pos rfl, List.filter_append, List.append_assoc]
    congr 2
    rw [List.filter_cons_of_pos (by simp [h])]; rfl
  · rw [if_neg e, List.filter_append, List.filter_cons_of_neg (by simp; intro _ q; exact e q.symm)]
    simp
theorem Rt_off (now : Int) (R : RW) (l : TL) (x : Int × Int) (h : x.2 = now + 1) : Rt now R (l ++ [x]) = Rt now R l := by
  funext k
  unfold Rt
  rw [List.filter_append, List.filter_cons_of_neg (by simp [h])]
  simp
theorem gone_off (now : Int) (l : TL) (x : Int × Int) (h : x.2 = now + 1) : goneF now (l ++ [x]) = goneF now l ++ [x.1] := by
  unfold goneF
  rw [List.filter_append, List.filter_cons_of_pos (by simp [h])]
  simp
theorem gone_put (now : Int) (l : TL) (x : Int × Int) (h : x.2 ≠ now + 1) : goneF now (l ++ [x]) = goneF now l := by
  unfold goneF
  rw [List.filter_append, List.filter_cons_of_neg (by simp [h])]
  simp
theorem mov_off (now : Int) (r : Nat) (l : TL) (x : Int × Int) (h : x.2 = now + 1) : movF now r (l ++ [x]) = movF now r l := by
  unfold movF
  rw [List.filter_append, List.filter_cons_of_neg (by simp [h])]
  simp
theorem mov_put (now : Int) (r : Nat) (l : TL) (x : Int × Int) (h : x.2 ≠ now + 1) : movF now r (l ++ [x]) = movF now r l + (if rg (now + 1) x.2 ≠ r then 1 else 0) := by
  unfold movF
  rw [List.filter_append, List.length_append]
  by_cases e : rg (now + 1) x.2 = r
  · rw [List.filter_cons_of_neg (by simp [e]), if_neg (by simp [e])]; rfl
  · rw [List.filter_cons_of_pos (by simp [h, e]), if_pos e]; rfl
theorem movF_le (now : Int) (r : Nat) (l : TL) : movF now r l ≤ l.length := List.length_filter_le _ _
theorem goneF_le (now : Int) (l : TL) : (goneF now l).length ≤ l.length := by unfold goneF; rw [List.length_map]; exact List.length_filter_le _ _
/-- The rings from r on have come up. -/
structure Ring (now : Int) (r : Nat) (R : RW) (L : TL) (off : List Int) (mv : Nat) : Prop where
  perm : ∀ k, k < 256 → (R k).Perm (L.filter fun x => decide (cur now r x = some k))
  off : off.Perm ((L.filter fun x => decide (r ≤ rg now x.2 ∧ x.2 = now + 1)).map Prod.fst)
  mv : mv = (L.filter fun x => decide (r ≤ rg now x.2 ∧ x.2 ≠ now + 1 ∧ rg (now + 1) x.2 ≠ rg now x.2)).length
theorem Ring.start {now : Int} {R : RW} {L : TL} (h : Fits now R L) : Ring now 4 R L [] 0 := by
  have h4 : ∀ x : Int × Int, ¬ 4 ≤ rg now x.2 := fun x => by have := rg_hi now x.2; omega
  refine ⟨fun k hk => ?_, ?_, ?_⟩
  · have := h.perm k hk
    rwa [show (fun x => decide (cur now 4 x = some k)) = (fun x : Int × Int => decide (ix now x.2 = k)) from by funext x; rw [cur_four]; simp]
  · rw [List.filter_eq_nil_iff.2 (fun x _ => by simp [h4 x])]; exact List.Perm.refl _
  · rw [List.filter_eq_nil_iff.2 (fun x _ => by simp [h4 x])]; rfl
theorem filter_eq {α : Type} {p q : α → Bool} {l : List α} (h : ∀ x ∈ l, p x = q x) : l.filter p = l.filter q := List.filter_congr h
theorem Ring.idle {now : Int} {r : Nat} {R : RW} {L : TL} {off : List Int} {mv : Nat} (h : Ring now (r + 1) R L off mv) (hf : ∀ x ∈ L, Fut now x) (hp : (now + 1) % pw r ≠ 0) : Ring now r R L off mv := by
  refine ⟨fun k hk => ?_, ?_, ?_⟩
  · rw [filter_eq (q := fun x => decide (cur now (r + 1) x = some k)) fun x hx => by rw [cur_idle (hf x hx) hp]]
    exact h.perm k hk
  · rw [filter_eq (q := fun x => decide (r + 1 ≤ rg now x.2 ∧ x.2 = now + 1)) fun x hx => ?_]
    · exact h.off
    · by_cases e : rg now x.2 = r
      · have := (tick_stay (hf x hx).lo (hf x hx).gt (hf x hx).lt e (.inl hp)).1
        simp [this]
      · have e2 : r ≤ rg now x.2 ↔ r + 1 ≤ rg now x.2 := by omega
        rw [decide_eq_decide, e2]
  · rw [filter_eq (q := fun x => decide (r + 1 ≤ rg now x.2 ∧ x.2 ≠ now + 1 ∧ rg (now + 1) x.2 ≠ rg now x.2)) fun x hx => ?_]
    · exact h.mv
    · by_cases e : rg now x.2 = r
      · have := (tick_stay (hf x hx).lo (hf x hx).gt (hf x hx).lt e (.inl hp)).2
        simp [this, e]
      · have e2 : r ≤ rg now x.2 ↔ r + 1 ≤ rg now x.2 := by omega
        rw [decide_eq_decide, e2]
theorem Ring.next {now : Int} {r : Nat} {R : RW} {L : TL} {off : List Int} {mv : Nat} (h : Ring now (r + 1) R L off mv) (hf : ∀ x ∈ L, Fut now x) (hr : r ≤ 3) :
    Ring now r (Rt now (updR R (sl now r) []) (R (sl now r))) L (off ++ goneF now (R (sl now r))) (mv + movF now r (R (sl now r))) := by
  have hs := h.perm (sl now r) (sl_hi now hr)
  refine ⟨fun k hk => ?_, ?_, ?_⟩
  · unfold Rt
    have h2 := hs.filter fun x => decide (x.2 ≠ now + 1 ∧ ix (now + 1) x.2 = k)
    rw [List.filter_filter] at h2
    have h1 : (updR R (sl now r) [] k).Perm (L.filter fun x => decide (k ≠ sl now r ∧ cur now (r + 1) x = some k)) := by
      unfold updR
      by_cases e : k = sl now r
      · rw [if_pos e, List.filter_eq_nil_iff.2 (fun x _ => by simp [e])]
      · rw [if_neg e]
        refine (h.perm k hk).trans ?_
        rw [filter_eq fun x _ => ?_]
        simp [e]
    refine (h1.append h2).trans ((filter_or _ _ L fun x hx => ?_).trans ?_)
    · intro hh
      simp only [decide_eq_true_eq, Bool.and_eq_true] at hh
      obtain ⟨⟨q1, q2⟩, _, q3⟩ := hh
      rw [q2] at q3
      injection q3 with q3
      exact q1 q3
    · rw [filter_eq fun x hx => ?_]
      have := cur_next (r := r) (hf x hx) (k := k)
      rw [← Bool.decide_and, ← Bool.decide_or, decide_eq_decide, ← this]
      constructor
      · rintro (q | ⟨⟨q1, q2⟩, q3⟩)
        · exact .inl q
        · exact .inr ⟨q3, q1, q2⟩
      · rintro (q | ⟨q3, q1, q2⟩)
        · exact .inl q
        · exact .inr ⟨⟨q1, q2⟩, q3⟩
  · have h2 := (hs.filter fun x => decide (x.2 = now + 1)).map Prod.fst
    rw [List.filter_filter] at h2
    refine (h.off.append h2).trans ?_
    rw [← List.map_append]
    refine ((filter_or _ _ L fun x hx => ?_).trans ?_).map _
    · intro hh
      simp only [decide_eq_true_eq, Bool.and_eq_true] at hh
      obtain ⟨⟨q1, q2⟩, _, q3⟩ := hh
      have := (cur_slot (hf x hx)).1 q3
      omega
    · rw [filter_eq fun x hx => ?_]
      rw [← Bool.decide_and, ← Bool.decide_or, decide_eq_decide, cur_slot (hf x hx)]
      constructor
      · rintro (⟨q1, q2⟩ | ⟨q1, q2, q3⟩)
        · exact ⟨by omega, q2⟩
        · exact ⟨by omega, q1⟩
      · rintro ⟨q1, q2⟩
        by_cases e : rg now x.2 = r
        · exact .inr ⟨q2, e, by rw [q2]⟩
        · exact .inl ⟨by omega, q2⟩
  · have h2 := (hs.filter fun x => decide (x.2 ≠ now + 1 ∧ rg (now + 1) x.2 ≠ r)).length_eq
    rw [List.filter_filter] at h2
    unfold movF
    rw [h2, h.mv, ← List.length_append]
    refine ((filter_or _ _ L fun x hx => ?_).trans ?_).length_eq
    · intro hh
      simp only [decide_eq_true_eq, Bool.and_eq_true] at hh
      obtain ⟨⟨q1, q2⟩, _, q3⟩ := hh
      have := (cur_slot (hf x hx)).1 q3
      omega
    · rw [filter_eq fun x hx => ?_]
      rw [← Bool.decide_and, ← Bool.decide_or, decide_eq_decide, cur_slot (hf x hx)]
      constructor
      · rintro (⟨q1, q2, q3⟩ | ⟨⟨q1, q2⟩, q3, q4⟩)
        · exact ⟨by omega, q2, q3⟩
        · exact ⟨by omega, q1, by rw [q3]; exact q2⟩
      · rintro ⟨q1, q2, q3⟩
        by_cases e : rg now x.2 = r
        · refine .inr ⟨⟨q2, by rw [← e]; exact q3⟩, e, ?_⟩
          by_cases ed : dg x.2 r = dg (now + 1) r
          · exact ed
          · have := (tick_stay (hf x hx).lo (hf x hx).gt (hf x hx).lt e (.inr ed)).2
            exact absurd (this.trans e.symm) q3
        · exact .inl ⟨by omega, q2, q3⟩
theorem stay_len (now : Int) (L : TL) : (stayF now L).length + (goneF now L).length = L.length := by
  unfold stayF goneF
  rw [List.length_map]
  induction L with
  | nil => rfl
  | cons x L ih =>
    by_cases e : x.2 = now + 1
    · rw [List.filter_cons_of_neg (by simp [e]), List.filter_cons_of_pos (by simp [e])]; simp only [List.length_cons]; omega
    · rw [List.filter_cons_of_pos (by simp [e]), List.filter_cons_of_neg (by simp [e])]; simp only [List.length_cons]; omega
theorem gone_srt (now : Int) {L : TL} (h : TS L) : (goneF now L).Pairwise (· < ·) := by
  unfold goneF
  rw [List.pairwise_map]
  exact h.filter _
theorem Ring.done {now : Int} {R : RW} {L : TL} {off : List Int} {mv : Nat} (h : Ring now 0 R L off mv) (hs : TS L) (hfu : ∀ x ∈ L, now < x.2 ∧ x.2 < 16777216) (h0 : 0 ≤ now) (h1 : now < 16777215) (hl : L.length ≤ 64) :
    Fits (now + 1) R (stayF now L) ∧ sortI off = goneF now L ∧ mv = movA now L ∧ off.length = (goneF now L).length := by
  have hp : off.Perm (goneF now L) := by
    have := h.off
    rwa [show (fun x : Int × Int => decide (0 ≤ rg now x.2 ∧ x.2 = now + 1)) = (fun x => decide (x.2 = now + 1)) from by funext x; simp] at this
  refine ⟨⟨fun k hk => ?_, hs.filter _, fun x hx => ?_, by omega, by omega, Nat.le_trans (List.length_filter_le _ _) hl⟩, ?_, ?_, hp.length_eq⟩
  · refine (h.perm k hk).trans ?_
    unfold stayF
    rw [List.filter_filter, filter_eq fun x hx => ?_]
    unfold cur
    rw [if_pos (Nat.zero_le _)]
    by_cases e : x.2 = now + 1
    · simp [e]
    · simp [e]
  · unfold stayF at hx
    rw [List.mem_filter] at hx
    have := hfu x hx.1
    have h2 : x.2 ≠ now + 1 := by simpa using hx.2
    omega
  · refine List.Perm.eq_of_pairwise (le := fun a b => a ≤ b) (fun a b _ _ q1 q2 => by omega) ?_ ((gone_srt now hs).imp fun q => by omega) ((List.mergeSort_perm _ _).trans hp)
    have := List.pairwise_mergeSort (le := fun (a b : Int) => decide (a ≤ b)) (fun a b c q1 q2 => by simp at *; omega) (fun a b => by simp; omega) off
    exact this.imp fun q => by simpa using q
  · rw [h.mv]
    unfold movA
    congr 1
    exact filter_eq fun x _ => by simp

end Go.Proofs.Ytjipkgnkabocjaa
