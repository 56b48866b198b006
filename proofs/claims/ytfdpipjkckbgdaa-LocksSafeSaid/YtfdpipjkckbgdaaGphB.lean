/-
  WALKS of package graph and the reference of chapter 11: Chain.
-/
import Derived.Test.YtfdpipjkckbgdaaGphA
namespace Go.Proofs.Ytfdpipjkckbgdaa
open Go.RowKit
attribute [local go_sem] depUpon Sp.ok

theorem nodup_le : ∀ (N : Nat) (l : List Int), l.Nodup → (∀ x ∈ l, 0 ≤ x ∧ x < (N : Int)) → l.length ≤ N
  | 0, l, _, h => by
    cases l with
    | nil => simp
    | cons a l => have := h a (by simp); omega
  | N + 1, l, hd, h => by
    by_cases hm : (N : Int) ∈ l
    · have h1 := nodup_le N (l.erase (N : Int)) (hd.erase _) fun x hx => by
        obtain ⟨h2, h3⟩ := (hd.mem_erase_iff).1 hx
        have := h x h3
        omega
      rw [List.length_erase_of_mem hm] at h1
      omega
    · have := nodup_le N l hd fun x hx => by
        have := h x hx
        have : x ≠ (N : Int) := fun e => hm (e ▸ hx)
        omega
      omega

def chainGo (f : Int → Int) : Nat → List Int → Int → List Int
  | 0, s, _ => s
  | u + 1, s, k => if 0 ≤ k ∧ k ∉ s then chainGo f u (s ++ [k]) (f k) else s
/-- For whom a thread waits, by however many. -/
def gchain (ws os : List Int) (n i : Int) : List Int := chainGo (gon ws os n) (n.toNat + 1) [] (gon ws os n i)
theorem chainGo_stop {f : Int → Int} {u : Nat} {s : List Int} {k : Int} (h : k < 0 ∨ k ∈ s) : chainGo f u s k = s := by
  cases u with
  | zero => rfl
  | succ u =>
    rw [chainGo, if_neg]
    intro h2
    rcases h with h | h
    · omega
    · exact h2.2 h
theorem chainGo_next {f : Int → Int} {u : Nat} {s : List Int} {k : Int} (h : 0 ≤ k) (h2 : k ∉ s) : chainGo f (u + 1) s k = chainGo f u (s ++ [k]) (f k) := by
  rw [chainGo, if_pos ⟨h, h2⟩]

/-- The state of the loop: s found, k next. -/
structure ChSt (ws os : List Int) (n i : Int) (s : List Int) (k : Int) (u : Nat) : Prop where
  eq : gchain ws os n i = chainGo (gon ws os n) u s k
  fuel : u + s.length = n.toNat + 1
  nodup : s.Nodup
  rng : ∀ x ∈ s, 0 ≤ x ∧ x < n
  kr : k = -1 ∨ (0 ≤ k ∧ k < n)
theorem ChSt.start (ws os : List Int) (n i : Int) : ChSt ws os n i [] (gon ws os n i) (n.toNat + 1) := ⟨rfl, by simp, List.nodup_nil, by simp, gon_rng ws os n i⟩
theorem ChSt.len {ws os : List Int} {n i k : Int} {s : List Int} {u : Nat} (h : ChSt ws os n i s k u) : s.length ≤ n.toNat :=
  nodup_le _ s h.nodup fun x hx => by have := h.rng x hx; omega
theorem ChSt.next {ws os : List Int} {n i k : Int} {s : List Int} {u : Nat} (h : ChSt ws os n i s k u) (h0 : 0 ≤ k) (h1 : k ∉ s) : ∃ v, u = v + 1 ∧ ChSt ws os n i (s ++ [k]) (gon ws os n k) v := by
  have hl := h.len
  have hf := h.fuel
  obtain ⟨v, rfl⟩ : ∃ v, u = v + 1 := ⟨u - 1, by omega⟩
  refine ⟨v, rfl, by rw [h.eq, chainGo_next h0 h1], by simp; omega, ?_, ?_, gon_rng _ _ _ _⟩
  · rw [List.nodup_append]
    refine ⟨h.nodup, by simp, fun a ha b hb => ?_⟩
    simp at hb; subst hb
    intro e; subst e; exact h1 ha
  · intro x hx
    rcases List.mem_append.1 hx with hx | hx
    · exact h.rng x hx
    · simp at hx; subst hx
      rcases h.kr with h2 | h2
      · omega
      · exact h2
theorem ChSt.stop {ws os : List Int} {n i k : Int} {s : List Int} {u : Nat} (h : ChSt ws os n i s k u) (h0 : k < 0 ∨ k ∈ s) : gchain ws os n i = s := by
  rw [h.eq, chainGo_stop h0]
/-- Any fact that the loop keeps holds of its end. -/
theorem ChSt.ind {ws os : List Int} {n i : Int} (Q : List Int → Int → Prop) (hstep : ∀ s k, 0 ≤ k → k < n → k ∉ s → Q s k → Q (s ++ [k]) (gon ws os n k)) :
    ∀ (u : Nat) (s : List Int) (k : Int), ChSt ws os n i s k u → Q s k → ∃ k', Q (gchain ws os n i) k' ∧ (k' < 0 ∨ k' ∈ gchain ws os n i)
  | 0, s, k, h, hq => by
    by_cases hc : k < 0 ∨ k ∈ s
    · rw [h.stop hc]; exact ⟨k, hq, hc⟩
    · obtain ⟨v, hv, _⟩ := h.next (Classical.byContradiction fun h0 => hc (.inl (by omega))) (fun h1 => hc (.inr h1))
      cases hv
  | u + 1, s, k, h, hq => by
    by_cases hc : k < 0 ∨ k ∈ s
    · rw [h.stop hc]; exact ⟨k, hq, hc⟩
    · have h0 : 0 ≤ k := Classical.byContradiction fun h0 => hc (.inl (by omega))
      have h1 : k ∉ s := fun h1 => hc (.inr h1)
      obtain ⟨v, hv, hst⟩ := h.next h0 h1
      obtain rfl : u = v := by omega
      refine ChSt.ind Q hstep u _ _ hst (hstep s k h0 ?_ h1 hq)
      have := h.kr
      omega
theorem gchain_ind {ws os : List Int} {n i : Int} (Q : List Int → Int → Prop) (h0 : Q [] (gon ws os n i)) (hstep : ∀ s k, 0 ≤ k → k < n → k ∉ s → Q s k → Q (s ++ [k]) (gon ws os n k)) :
    ∃ k', Q (gchain ws os n i) k' ∧ (k' < 0 ∨ k' ∈ gchain ws os n i) := ChSt.ind Q hstep _ _ _ (ChSt.start ws os n i) h0
theorem gchain_rng (ws os : List Int) (n i : Int) : ∀ x ∈ gchain ws os n i, 0 ≤ x ∧ x < n := by
  obtain ⟨k', h, _⟩ := gchain_ind (ws := ws) (os := os) (n := n) (i := i) (fun s _ => ∀ x ∈ s, 0 ≤ x ∧ x < n) (by simp) fun s k h0 h1 _ hq x hx => by
    rcases List.mem_append.1 hx with hx | hx
    · exact hq x hx
    · simp at hx; subst hx; exact ⟨h0, h1⟩
  exact h
theorem gchain_nodup (ws os : List Int) (n i : Int) : (gchain ws os n i).Nodup := by
  obtain ⟨k', h, _⟩ := gchain_ind (ws := ws) (os := os) (n := n) (i := i) (fun s _ => s.Nodup) List.nodup_nil fun s k h0 h1 hk hq => by
    rw [List.nodup_append]
    refine ⟨hq, by simp, fun a ha b hb => ?_⟩
    simp at hb; subst hb
    intro e; subst e; exact hk ha
  exact h
theorem gchain_len (ws os : List Int) (n i : Int) : (gchain ws os n i).length ≤ n.toNat := nodup_le _ _ (gchain_nodup ws os n i) fun x hx => by
  have := gchain_rng ws os n i x hx; omega
/-- Who is waited for is of the chain, and whom that waits for too. -/
theorem gchain_shut (ws os : List Int) (n i : Int) : (0 ≤ gon ws os n i → gon ws os n i ∈ gchain ws os n i) ∧ ∀ x ∈ gchain ws os n i, 0 ≤ gon ws os n x → gon ws os n x ∈ gchain ws os n i := by
  obtain ⟨k', ⟨h1, h2⟩, h3⟩ := gchain_ind (ws := ws) (os := os) (n := n) (i := i) (fun s k => (k = gon ws os n i ∨ gon ws os n i ∈ s) ∧ ∀ x ∈ s, gon ws os n x = k ∨ gon ws os n x ∈ s) ⟨.inl rfl, by simp⟩ fun s k h0 h1 _ hq => by
    obtain ⟨q1, q2⟩ := hq
    refine ⟨?_, fun x hx => ?_⟩
    · rcases q1 with q1 | q1
      · right; rw [← q1]; simp
      · right; simp [q1]
    · rcases List.mem_append.1 hx with hx | hx
      · rcases q2 x hx with q | q
        · right; rw [q]; simp
        · right; simp [q]
      · simp at hx; subst hx; exact .inl rfl
  refine ⟨fun h => ?_, fun x hx h => ?_⟩
  · rcases h1 with h1 | h1
    · rcases h3 with h3 | h3
      · omega
      · rwa [h1] at h3
    · exact h1
  · rcases h2 x hx with h2 | h2
    · rcases h3 with h3 | h3
      · omega
      · rwa [← h2] at h3
    · exact h2

end Go.Proofs.Ytfdpipjkckbgdaa
