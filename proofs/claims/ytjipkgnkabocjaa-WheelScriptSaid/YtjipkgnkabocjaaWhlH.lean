/-
  WHEEL: what a tick does (plain).
-/
import Derived.Test.YtjipkgnkabocjaaWhlG
import Derived.Test.YtjipkgnkabocjaaSrt
namespace Go.Proofs.Ytjipkgnkabocjaa
open Go.RowKit

/-- 64 to the r. -/
def pw : Nat → Int
  | 0 => 1
  | 1 => 64
  | 2 => 4096
  | _ => 262144
theorem rg_3 {now a : Int} : rg now a = 3 ↔ dg a 3 ≠ dg now 3 := by
  unfold rg
  split
  · rename_i h; simp [h]
  · rename_i h
    split
    · simp; simpa using h
    · split
      · simp; simpa using h
      · simp; simpa using h
theorem rg_2 {now a : Int} : rg now a = 2 ↔ dg a 3 = dg now 3 ∧ dg a 2 ≠ dg now 2 := by
  unfold rg
  split
  · rename_i h; simp [h]
  · rename_i h
    have h' : dg a 3 = dg now 3 := by simpa using h
    split
    · rename_i h2; simp [h', h2]
    · rename_i h2
      have h2' : dg a 2 = dg now 2 := by simpa using h2
      split
      · simp [h2']
      · simp [h2']
theorem rg_1 {now a : Int} : rg now a = 1 ↔ dg a 3 = dg now 3 ∧ dg a 2 = dg now 2 ∧ dg a 1 ≠ dg now 1 := by
  unfold rg
  split
  · rename_i h; simp [h]
  · rename_i h
    have h' : dg a 3 = dg now 3 := by simpa using h
    split
    · rename_i h2; simp [h2]
    · rename_i h2
      have h2' : dg a 2 = dg now 2 := by simpa using h2
      split
      · rename_i h3; simp [h', h2', h3]
      · rename_i h3
        have h3' : dg a 1 = dg now 1 := by simpa using h3
        simp [h3']
theorem rg_0 {now a : Int} : rg now a = 0 ↔ dg a 3 = dg now 3 ∧ dg a 2 = dg now 2 ∧ dg a 1 = dg now 1 := by
  unfold rg
  split
  · rename_i h; simp [h]
  · rename_i h
    have h' : dg a 3 = dg now 3 := by simpa using h
    split
    · rename_i h2; simp [h2]
    · rename_i h2
      have h2' : dg a 2 = dg now 2 := by simpa using h2
      split
      · rename_i h3; simp [h3]
      · rename_i h3
        have h3' : dg a 1 = dg now 1 := by simpa using h3
        simp [h', h2', h3']
/-- What is not in a slot that comes up stays where it is. -/
theorem tick_stay {now a : Int} {r : Nat} (h0 : 0 ≤ now) (h1 : now < a) (h2 : a < 16777216) (hr : rg now a = r) (h : (now + 1) % pw r ≠ 0 ∨ dg a r ≠ dg (now + 1) r) : a ≠ now + 1 ∧ rg (now + 1) a = r := by
  have h3 := rg_hi now a
  have hc : r = 0 ∨ r = 1 ∨ r = 2 ∨ r = 3 := by omega
  rcases hc with rfl | rfl | rfl | rfl
  · rw [rg_0] at hr ⊢
    simp only [dg, pw] at *
    omega
  · rw [rg_1] at hr ⊢
    simp only [dg, pw] at *
    omega
  · rw [rg_2] at hr ⊢
    simp only [dg, pw] at *
    omega
  · rw [rg_3] at hr ⊢
    simp only [dg, pw] at *
    omega
/-- What has been moved stands at no slot that comes up. -/
theorem tick_off {now a : Int} {r : Nat} (h0 : 0 ≤ now) (h1 : now < a) (h2 : a < 16777216) (hr : rg (now + 1) a = r) (hne : a ≠ now + 1) : dg a r ≠ dg (now + 1) r := by
  have h3 := rg_hi (now + 1) a
  have hc : r = 0 ∨ r = 1 ∨ r = 2 ∨ r = 3 := by omega
  rcases hc with rfl | rfl | rfl | rfl
  · rw [rg_0] at hr
    simp only [dg] at *
    omega
  · rw [rg_1] at hr; exact hr.2.2
  · rw [rg_2] at hr; exact hr.2
  · rw [rg_3] at hr; exact hr
theorem ix_inj {now a : Int} {r d : Nat} (hd : d < 64) : ix now a = r * 64 + d ↔ rg now a = r ∧ dg a r = (d : Int) := by
  unfold ix
  have h1 := dg_lo a (rg now a)
  have h2 := dg_hi a (rg now a)
  constructor
  · intro h
    have e : rg now a = r := by omega
    refine ⟨e, ?_⟩
    rw [← e]
    omega
  · rintro ⟨rfl, h⟩
    omega

/-- Where a timer stands when the rings from r on have come up. -/
def cur (now : Int) (r : Nat) (x : Int × Int) : Option Nat := if r ≤ rg now x.2 then (if x.2 = now + 1 then none else some (ix (now + 1) x.2)) else some (ix now x.2)
/-- The slot of ring r that comes up. -/
def sl (now : Int) (r : Nat) : Nat := r * 64 + (dg (now + 1) r).toNat
theorem sl_hi (now : Int) {r : Nat} (h : r ≤ 3) : sl now r < 256 := by
  unfold sl
  have := dg_hi (now + 1) r
  omega
theorem ix_sl {now m a : Int} {r : Nat} : ix m a = sl now r ↔ rg m a = r ∧ dg a r = dg (now + 1) r := by
  have h1 := dg_lo (now + 1) r
  have h2 := dg_hi (now + 1) r
  unfold sl
  rw [ix_inj (by omega)]
  have e : ((dg (now + 1) r).toNat : Int) = dg (now + 1) r := by omega
  rw [e]
structure Fut (now : Int) (x : Int × Int) : Prop where
  lo : 0 ≤ now
  gt : now < x.2
  lt : x.2 < 16777216
section
variable {now : Int} {x : Int × Int} {r : Nat}
theorem cur_four (x : Int × Int) (now : Int) : cur now 4 x = some (ix now x.2) := by
  have := rg_hi now x.2
  unfold cur
  rw [if_neg (by omega)]
/-- Where nothing comes up. -/
theorem cur_idle (h : Fut now x) (hp : (now + 1) % pw r ≠ 0) : cur now r x = cur now (r + 1) x := by
  unfold cur
  by_cases e : rg now x.2 = r
  · obtain ⟨h1, h2⟩ := tick_stay h.lo h.gt h.lt e (.inl hp)
    have : ix (now + 1) x.2 = ix now x.2 := by unfold ix; rw [h2, e]
    rw [if_pos (show r ≤ rg now x.2 by omega), if_neg (show ¬ r + 1 ≤ rg now x.2 by omega), if_neg h1, this]
  · by_cases e2 : r ≤ rg now x.2
    · rw [if_pos e2, if_pos (show r + 1 ≤ rg now x.2 by omega)]
    · rw [if_neg e2, if_neg (show ¬ r + 1 ≤ rg now x.2 by omega)]
/-- Who stands in the slot. -/
theorem cur_slot (h : Fut now x) : cur now (r + 1) x = some (sl now r) ↔ rg now x.2 = r ∧ dg x.2 r = dg (now + 1) r := by
  unfold cur
  by_cases e : r + 1 ≤ rg now x.2
  · rw [if_pos e]
    constructor
    · intro hq
      split at hq
      · cases hq
      · rename_i hne
        injection hq with hq
        have := ix_sl.1 hq
        exact absurd this.2 (tick_off h.lo h.gt h.lt this.1 hne)
    · rintro ⟨h1, _⟩; omega
  · rw [if_neg e]
    constructor
    · intro hq
      injection hq with hq
      exact ix_sl.1 hq
    · intro hq; rw [ix_sl.2 hq]
/-- What stands where, when the slot has come up. -/
theorem cur_next (h : Fut now x) {k : Nat} : ((k ≠ sl now r ∧ cur now (r + 1) x = some k) ∨ (cur now (r + 1) x = some (sl now r) ∧ x.2 ≠ now + 1 ∧ ix (now + 1) x.2 = k)) ↔ cur now r x = some k := by
  rw [cur_slot h]
  by_cases e : r + 1 ≤ rg now x.2
  · have e1 : cur now (r + 1) x = cur now r x := by unfold cur; rw [if_pos e, if_pos (show r ≤ rg now x.2 by omega)]
    constructor
    · rintro (⟨_, h2⟩ | ⟨⟨h2, _⟩, _⟩)
      · rw [← e1]; exact h2
      · omega
    · intro hq
      left
      refine ⟨fun ek => ?_, by rw [e1]; exact hq⟩
      subst ek
      rw [← e1] at hq
      have := (cur_slot h).1 hq
      omega
  · have c1 : cur now (r + 1) x = some (ix now x.2) := by unfold cur; rw [if_neg e]
    by_cases e2 : rg now x.2 = r
    · have c2 : cur now r x = if x.2 = now + 1 then none else some (ix (now + 1) x.2) := by unfold cur; rw [if_pos (by omega)]
      rw [c1, c2]
      by_cases ed : dg x.2 r = dg (now + 1) r
      · have hs : ix now x.2 = sl now r := ix_sl.2 ⟨e2, ed⟩
        rw [hs]
        constructor
        · rintro (⟨h1, h2⟩ | ⟨_, h2, h3⟩)
          · injection h2 with h2; exact absurd h2.symm h1
          · rw [if_neg h2, h3]
        · intro hq
          split at hq
          · cases hq
          · rename_i hne
            injection hq with hq
            exact .inr ⟨⟨e2, ed⟩, hne, hq⟩
      · obtain ⟨h1, h2⟩ := tick_stay h.lo h.gt h.lt e2 (.inr ed)
        have hi : ix (now + 1) x.2 = ix now x.2 := by unfold ix; rw [h2, e2]
        rw [if_neg h1, hi]
        constructor
        · rintro (⟨_, h3⟩ | ⟨⟨_, h3⟩, _⟩)
          · exact h3
          · exact absurd h3 ed
        · intro hq
          refine .inl ⟨fun ek => ?_, hq⟩
          injection hq with hq
          rw [ek, ix_sl] at hq
          exact ed hq.2
    · have c2 : cur now r x = some (ix now x.2) := by unfold cur; rw [if_neg (by omega)]
      rw [c1, c2]
      constructor
      · rintro (⟨_, h3⟩ | ⟨⟨h3, _⟩, _⟩)
        · exact h3
        · exact absurd h3 e2
      · intro hq
        refine .inl ⟨fun ek => ?_, hq⟩
        injection hq with hq
        rw [ek, ix_sl] at hq
        exact e2 hq.1
end
theorem filter_or {α : Type} (p q : α → Bool) : ∀ l : List α, (∀ x ∈ l, ¬ (p x = true ∧ q x = true)) → (l.filter p ++ l.filter q).Perm (l.filter fun x => p x || q x)
  | [], _ => List.Perm.refl _
  | x :: l, h => by
    have ih := filter_or p q l fun y hy => h y (by simp [hy])
    have hx := h x (by simp)
    by_cases hp : p x = true
    · have hq : q x = false := by simpa [hp] using hx
      rw [List.filter_cons_of_pos hp, List.filter_cons_of_neg (by simp [hq]), List.filter_cons_of_pos (by simp [hp])]
      exact ih.cons x
    · have hp' : p x = false := by simpa using hp
      by_cases hq : q x = true
      · rw [List.filter_cons_of_neg hp, List.filter_cons_of_pos hq, List.filter_cons_of_pos (by simp [hq])]
        exact List.perm_middle.trans (ih.cons x)
      · rw [List.filter_cons_of_neg hp, List.filter_cons_of_neg hq, List.filter_cons_of_neg (by simp [hp', hq])]
        exact ih

end Go.Proofs.Ytjipkgnkabocjaa
