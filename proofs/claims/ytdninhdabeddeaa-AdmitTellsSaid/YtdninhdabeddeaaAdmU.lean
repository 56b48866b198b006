/-
  PLAIN LAWS on what blocks a task: bounds; who counts for more is blocked by no less.
-/
import Derived.Test.YtdninhdabeddeaaAdmQ
namespace Go.Proofs.Ytdninhdabeddeaa
open Go.RowKit

theorem least_law' (ms : List (Int × Int)) : ∀ (n : Nat) (us : List Int), us.length = n → ((rleast ms us).2 = false → ∀ u ∈ us, (mget ms u).1 ≤ 0) ∧ ((rleast ms us).2 = true → ∀ u ∈ us, 0 < (mget ms u).1 → (rleast ms us).1 ≤ (mget ms u).1)
  | 0, us, h => by
    have : us = [] := List.eq_nil_of_length_eq_zero h
    subst this; simp
  | n + 1, us, h => by
    rcases List.eq_nil_or_concat us with rfl | ⟨l', x, rfl⟩
    · simp at h
    · rw [List.concat_eq_append] at h ⊢
      rw [rleast_snoc]
      obtain ⟨i1, i2⟩ := least_law' ms n l' (by simpa using h)
      generalize rleast ms l' = b at *
      obtain ⟨b, q⟩ := b
      simp only at i1 i2
      unfold rleastStep
      by_cases hc : 0 < (mget ms x).1 ∧ (q = false ∨ (mget ms x).1 < b)
      · rw [if_pos hc]
        refine ⟨(fun h => by cases h), fun _ u hu hpos => ?_⟩
        rcases List.mem_append.1 hu with hu | hu
        · cases q with
          | false => have := i1 rfl u hu; omega
          | true =>
            have := i2 rfl u hu hpos
            rcases hc.2 with h | h
            · cases h
            · show (mget ms x).1 ≤ _; omega
        · simp at hu; subst hu; exact Int.le_refl _
      · rw [if_neg hc]
        refine ⟨fun h u hu => ?_, fun h u hu hpos => ?_⟩
        · simp only at h; subst h
          rcases List.mem_append.1 hu with hu | hu
          · exact i1 rfl u hu
          · simp at hu; subst hu
            refine Int.not_lt.1 fun h => hc ⟨h, .inl rfl⟩
        · simp only at h; subst h
          rcases List.mem_append.1 hu with hu | hu
          · exact i2 rfl u hu hpos
          · simp at hu; subst hu
            exact Int.not_lt.1 fun h => hc ⟨hpos, .inr h⟩
theorem ok_limit' {ms : List (Int × Int)} (h : okM ms = true) {k : Nat} (hk : k < ms.length) : 1 ≤ ms[k].2 ∧ ms[k].2 ≤ 1000 := by
  unfold okM at h
  rw [Bool.and_eq_true] at h
  have := List.all_eq_true.1 h.2 ms[k] (List.getElem_mem hk)
  simp [goodM] at this
  omega
theorem ok_len' {ms : List (Int × Int)} (h : okM ms = true) : ms.length ≤ 6 := by
  unfold okM at h
  rw [Bool.and_eq_true] at h
  simpa using h.1
theorem least_at (ms : List (Int × Int)) : ∀ (n : Nat) (us : List Int), us.length = n → (rleast ms us).2 = true → ∃ u ∈ us, 0 < (mget ms u).1 ∧ (mget ms u).1 = (rleast ms us).1
  | 0, us, h => by
    have : us = [] := List.eq_nil_of_length_eq_zero h
    subst this; simp [rleast]
  | n + 1, us, h => by
    rcases List.eq_nil_or_concat us with rfl | ⟨l', x, rfl⟩
    · simp at h
    · rw [List.concat_eq_append] at h ⊢
      rw [rleast_snoc]
      have ih := least_at ms n l' (by simpa using h)
      unfold rleastStep
      split
      · rename_i hc
        exact fun _ => ⟨x, by simp, hc.1, rfl⟩
      · intro h2
        obtain ⟨u, hu, h3⟩ := ih h2
        exact ⟨u, List.mem_append_left _ hu, h3⟩
theorem least_sub {ms : List (Int × Int)} {us vs : List Int} (hs : ∀ u ∈ us, u ∈ vs) (h : (rleast ms us).2 = true) : (rleast ms vs).2 = true ∧ (rleast ms vs).1 ≤ (rleast ms us).1 := by
  obtain ⟨u, hu, h0, he⟩ := least_at ms _ us rfl h
  obtain ⟨l1, l2⟩ := least_law' ms _ vs rfl
  have hq : (rleast ms vs).2 = true := by
    cases hq : (rleast ms vs).2 with
    | true => rfl
    | false => have := l1 hq u (hs u hu); omega
  exact ⟨hq, by have := l2 hq u (hs u hu) h0; omega⟩

/-- The sum of the first limits. -/
def limT (ms : List (Int × Int)) : Nat → Int
  | 0 => 0
  | k + 1 => limT ms k + (ms.getD k (0, 0)).2
theorem limT_succ {ms : List (Int × Int)} {k : Nat} (hk : k < ms.length) : limT ms (k + 1) = limT ms k + ms[k].2 := by
  rw [limT, List.getD_eq_getElem?_getD, List.getElem?_eq_getElem hk]; rfl
theorem nsum2_small {a b : Int} (a0 : 0 ≤ a) (a1 : a ≤ 100000) (b0 : 0 ≤ b) (b1 : b ≤ 100000) : nsum [a, b] = a + b := by
  simp [nsum]; unfold clip; omega
theorem sum_facts {ms : List (Int × Int)} (hok : okM ms = true) {r r' : Int} (hr : r' ≤ r) : ∀ k, k ≤ ms.length → 0 ≤ rsum r (ms.take k) ∧ rsum r (ms.take k) ≤ rsum r' (ms.take k) ∧ rsum r' (ms.take k) ≤ limT ms k ∧ 0 ≤ limT ms k ∧ limT ms k ≤ 1000 * k
  | 0, _ => by simp [rsum, limT]
  | k + 1, hk => by
    have hk' : k < ms.length := by omega
    obtain ⟨h1, h2, h3, h4, h5⟩ := sum_facts hok hr k (by omega)
    obtain ⟨l1, l2⟩ := ok_limit' hok hk'
    have h6 := ok_len' hok
    rw [take_succ' ms k hk', rsum_snoc, rsum_snoc, limT_succ hk']
    generalize ms[k] = x at *
    unfold rsumStep
    by_cases c1 : r ≤ x.1
    · rw [if_pos c1, if_pos (by omega), nsum2_small (by omega) (by omega) (by omega) (by omega), nsum2_small (by omega) (by omega) (by omega) (by omega)]
      refine ⟨by omega, by omega, by omega, by omega, ?_⟩
      push_cast; omega
    · rw [if_neg c1]
      by_cases c2 : r' ≤ x.1
      · rw [if_pos c2, nsum2_small (by omega) (by omega) (by omega) (by omega)]
        refine ⟨by omega, by omega, by omega, by omega, ?_⟩
        push_cast; omega
      · rw [if_neg c2]
        refine ⟨by omega, by omega, by omega, by omega, ?_⟩
        push_cast; omega
theorem sum_all {ms : List (Int × Int)} (hok : okM ms = true) {r r' : Int} (hr : r' ≤ r) : 0 ≤ rsum r ms ∧ rsum r ms ≤ rsum r' ms ∧ rsum r' ms ≤ limT ms ms.length ∧ 0 ≤ limT ms ms.length ∧ limT ms ms.length ≤ 6000 := by
  have h := sum_facts hok hr ms.length (Nat.le_refl _)
  have h6 := ok_len' hok
  rw [List.take_length] at h
  obtain ⟨h1, h2, h3, h4, h5⟩ := h
  exact ⟨h1, h2, h3, h4, by omega⟩

theorem someT_in {f : TK → Bool} {ts : List TK} {j : Nat} (hj : j < ts.length) (hf : f ts[j] = true) : ∀ k, j < k → (j : Int) ∈ someT f ts k
  | k + 1, hk => by
    by_cases e : j = k
    · subst e
      rw [someT_yes hj hf]
      simp
    · have ih := someT_in hj hf k (by omega)
      rw [someT]
      split
      · split
        · exact List.mem_append_left _ ih
        · exact ih
      · exact ih
theorem someL_sub {f g : TK → Bool} {ts : List TK} (h : ∀ y ∈ ts, f y = true → g y = true) : ∀ z ∈ someL f ts, z ∈ someL g ts := by
  intro z hz
  obtain ⟨j, rfl, hj, hl, hf⟩ := someT_mem f ts z _ hz
  exact someT_in hl (h _ (List.getElem_mem hl) hf) _ hj
theorem usesOf_sub {ts : List TK} {L M : List Int} (h : ∀ z ∈ L, z ∈ M) : ∀ u ∈ usesOf ts L, u ∈ usesOf ts M := by
  intro u hu
  unfold usesOf at *
  obtain ⟨z, hz, hu⟩ := List.mem_flatMap.1 hu
  exact List.mem_flatMap.2 ⟨z, h z hz, hu⟩
theorem blkV_less {ms : List (Int × Int)} (hok : okM ms = true) {us vs : List Int} (h : ∀ u ∈ us, u ∈ vs) :
    (if (rleast ms us).2 = true then nsum [11, rsum (rleast ms us).1 ms] else 11) ≤ (if (rleast ms vs).2 = true then nsum [11, rsum (rleast ms vs).1 ms] else 11) := by
  by_cases h1 : (rleast ms us).2 = true
  · obtain ⟨h2, h3⟩ := least_sub h h1
    obtain ⟨a1, a2, a3, a4, a5⟩ := sum_all hok h3
    rw [if_pos h1, if_pos h2, nsum2_small (by omega) (by omega) (by omega) (by omega), nsum2_small (by omega) (by omega) (by omega) (by omega)]
    omega
  · rw [if_neg h1]
    split
    · have := sum_all hok (r := (rleast ms vs).1) (Int.le_refl _)
      obtain ⟨a1, a2, a3, a4, a5⟩ := this
      rw [nsum2_small (by omega) (by omega) (by omega) (by omega)]
      omega
    · omega
theorem blkV_mono {ts : List TK} {ms : List (Int × Int)} (hok : okM ms = true) {x z : TK} (h : ∀ y ∈ ts, cntB x y = true → cntB z y = true) : blkV ts ms x ≤ blkV ts ms z :=
  blkV_less hok (usesOf_sub (someL_sub h))
theorem blkV_bd {ts : List TK} {ms : List (Int × Int)} (hok : okM ms = true) (x : TK) : 11 ≤ blkV ts ms x ∧ blkV ts ms x ≤ 11 + limT ms ms.length := by
  unfold blkV
  obtain ⟨a1, a2, a3, a4, a5⟩ := sum_all hok (r := (rleast ms (blkL ts x)).1) (Int.le_refl _)
  split
  · rw [nsum2_small (by omega) (by omega) (by omega) (by omega)]
    omega
  · omega

end Go.Proofs.Ytdninhdabeddeaa
