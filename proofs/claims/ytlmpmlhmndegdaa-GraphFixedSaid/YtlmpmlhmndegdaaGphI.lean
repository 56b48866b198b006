/-
  PLAIN LAWS of chapter 11: which priorities count; GraphMore's and GraphFixed's reasons.
-/
import Derived.Test.YtlmpmlhmndegdaaGphH
import Derived.Test.YtlmpmlhmndegdaaPrioE
namespace Go.Proofs.Ytlmpmlhmndegdaa
open Go.RowKit

/-- Not less. -/
def pge (a b : P3) : Prop := 0 ≤ pcmp a.1 a.2.1 a.2.2 b.1 b.2.1 b.2.2
theorem pge_refl (a : P3) : pge a a := by unfold pge; rw [pcmp_self]; omega
theorem pge_trans {a b c : P3} (h : pge a b) (k : pge b c) : pge a c := (pcmp_trans _ _ _ _ _ _ _ _ _ h k).1
theorem step_ge (f p : P3) : pge (pmaxStep f p) f ∧ pge (pmaxStep f p) p := by
  unfold pmaxStep
  split
  · rename_i h
    exact ⟨by unfold pge; omega, pge_refl _⟩
  · rename_i h
    refine ⟨pge_refl _, ?_⟩
    unfold pge
    rw [pcmp_swap]
    omega
theorem step_or (f p : P3) : pmaxStep f p = f ∨ pmaxStep f p = p := by
  unfold pmaxStep
  split
  · exact .inr rfl
  · exact .inl rfl

theorem eff_base (base : List P3) (ch : Nat → List Int) (i : Nat) : ∀ j, pge (effAt base ch j i) (base.getD i (0, 0, 0))
  | 0 => pge_refl _
  | j + 1 => by
    rw [effAt]
    split
    · exact pge_trans (step_ge _ _).1 (eff_base base ch i j)
    · exact eff_base base ch i j
theorem eff_of (base : List P3) (ch : Nat → List Int) (i k : Nat) (h : (i : Int) ∈ ch k) : ∀ j, k < j → pge (effAt base ch j i) (base.getD k (0, 0, 0))
  | 0, hk => by omega
  | j + 1, hk => by
    rw [effAt]
    by_cases e : k = j
    · subst e
      rw [if_pos h]
      exact (step_ge _ _).2
    · have := eff_of base ch i k h j (by omega)
      split
      · exact pge_trans (step_ge _ _).1 this
      · exact this
theorem eff_from (base : List P3) (ch : Nat → List Int) (i : Nat) : ∀ j, effAt base ch j i = base.getD i (0, 0, 0) ∨ ∃ k, k < j ∧ (i : Int) ∈ ch k ∧ effAt base ch j i = base.getD k (0, 0, 0)
  | 0 => .inl rfl
  | j + 1 => by
    rw [effAt]
    have ih := eff_from base ch i j
    have lift : (effAt base ch j i = base.getD i (0, 0, 0) ∨ ∃ k, k < j ∧ (i : Int) ∈ ch k ∧ effAt base ch j i = base.getD k (0, 0, 0)) → (effAt base ch j i = base.getD i (0, 0, 0) ∨ ∃ k, k < j + 1 ∧ (i : Int) ∈ ch k ∧ effAt base ch j i = base.getD k (0, 0, 0)) := by
      rintro (h | ⟨k, h1, h2, h3⟩)
      · exact .inl h
      · exact .inr ⟨k, by omega, h2, h3⟩
    by_cases hm : (i : Int) ∈ ch j
    · rw [if_pos hm]
      rcases step_or (effAt base ch j i) (base.getD j (0, 0, 0)) with h | h
      · rw [h]; exact lift ih
      · rw [h]; exact .inr ⟨j, by omega, hm, rfl⟩
    · rw [if_neg hm]; exact lift ih
/-- Who is waited for counts as much. -/
theorem eff_along (base : List P3) (ws os : List Int) (i k : Nat) (hi : i < base.length) (hk : gon ws os (base.length : Int) (i : Int) = (k : Int)) :
    pge (effAt base (chs ws os base.length) base.length k) (effAt base (chs ws os base.length) base.length i) := by
  rcases eff_from base (chs ws os base.length) i base.length with h | ⟨j, h1, h2, h3⟩
  · rw [h]
    have := (gchain_shut ws os (base.length : Int) (i : Int)).1 (by omega)
    rw [hk] at this
    exact eff_of base _ k i this _ hi
  · rw [h3]
    have := (gchain_shut ws os (base.length : Int) (j : Int)).2 _ h2 (by omega)
    rw [hk] at this
    exact eff_of base _ k j this _ h1

theorem gon_set (ws os : List Int) (n : Int) (who : Nat) (m x : Int) (hx : x ≠ (who : Int)) : gon (ws.set who m) os n x = gon ws os n x := by
  unfold gon
  by_cases h : x < 0 ∨ n ≤ x ∨ (ws.length : Int) ≤ x
  · rw [if_pos (by simpa using h), if_pos h]
  · have e : (ws.set who m).getD x.toNat 0 = ws.getD x.toNat 0 := by
      rw [List.getD_eq_getElem?_getD, List.getD_eq_getElem?_getD, List.getElem?_set_ne (by omega)]
    rw [if_neg (by simpa using h), if_neg h, e]
theorem chain_more (ws os : List Int) (n : Int) (who : Nat) (m i : Int) (hw : gon ws os n (who : Int) < 0) : ∀ x ∈ gchain ws os n i, x ∈ gchain (ws.set who m) os n i := by
  have hs := gchain_shut (ws.set who m) os n i
  have step : ∀ y, gon ws os n y < 0 ∨ gon (ws.set who m) os n y = gon ws os n y := fun y => by
    by_cases e : y = (who : Int)
    · subst e; exact .inl hw
    · exact .inr (gon_set ws os n who m y e)
  obtain ⟨k', ⟨h, _⟩, _⟩ := gchain_ind (ws := ws) (os := os) (n := n) (i := i) (fun s k => (∀ x ∈ s, x ∈ gchain (ws.set who m) os n i) ∧ (k < 0 ∨ k ∈ gchain (ws.set who m) os n i)) ⟨by simp, by
      rcases step i with h | h
      · exact .inl h
      · by_cases h0 : gon ws os n i < 0
        · exact .inl h0
        · right
          have := hs.1 (by omega)
          rwa [h] at this⟩ fun s k h0 _ _ hq => by
    obtain ⟨q1, q2⟩ := hq
    have hk : k ∈ gchain (ws.set who m) os n i := by
      rcases q2 with q2 | q2
      · omega
      · exact q2
    refine ⟨fun x hx => ?_, ?_⟩
    · rcases List.mem_append.1 hx with hx | hx
      · exact q1 x hx
      · simp at hx; subst hx; exact hk
    · rcases step k with h | h
      · exact .inl h
      · by_cases h1 : gon ws os n k < 0
        · exact .inl h1
        · right
          have := hs.2 k hk (by omega)
          rwa [h] at this
  exact h
theorem eff_more (base : List P3) (ch ch' : Nat → List Int) (h : ∀ j x, x ∈ ch j → x ∈ ch' j) (i : Nat) : pge (effAt base ch' base.length i) (effAt base ch base.length i) := by
  rcases eff_from base ch i base.length with e | ⟨j, h1, h2, h3⟩
  · rw [e]; exact eff_base base ch' i _
  · rw [h3]; exact eff_of base ch' i j (h j _ h2) _ h1
theorem geff_get (base : List P3) (ch : Nat → List Int) (i : Nat) (hi : i < base.length) : (geff base ch)[i]'(by rw [geff_len]; exact hi) = effAt base ch base.length i := by simp [geff]
theorem base_get (base : List P3) (i : Nat) (hi : i < base.length) : base.getD i (0, 0, 0) = base[i] := by simp [hi]

/-- Two priorities held against each other. -/
theorem eql_prio (a b : P3) (w : World) : (binOp .eql 33 (.agg #[.int .i64 a.1, .int .i64 a.2.1, .int .i64 a.2.2]) (.agg #[.int .i64 b.1, .int .i64 b.2.1, .int .i64 b.2.2])).run Try.prog w = .ok (.bool (decide (a = b))) w := by
  obtain ⟨a1, a2, a3⟩ := a
  obtain ⟨b1, b2, b3⟩ := b
  by_cases h1 : a1 = b1
  · subst h1
    by_cases h2 : a2 = b2
    · subst h2
      by_cases h3 : a3 = b3
      · subst h3; go_simp
      · have h4 : (a3 == b3) = false := by simp [h3]
        go_simp
    · have h4 : (a2 == b2) = false := by simp [h2]
      go_simp
  · have h4 : (a1 == b1) = false := by simp [h1]
    go_simp

end Go.Proofs.Ytlmpmlhmndegdaa
