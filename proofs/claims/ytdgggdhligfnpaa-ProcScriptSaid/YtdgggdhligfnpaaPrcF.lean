/-
  FAMILIES OF PROCESSES 0 to 9: the plain words and laws of ProcOnce and ProcOrphans.
-/
import Derived.Test.YtdgggdhligfnpaaPrcE
namespace Go.Proofs.Ytdgggdhligfnpaa
open Go.RowKit Go.Maps

theorem srt_ext : ∀ {L M : List PR}, Srt L → Srt M → (∀ z, z ∈ L ↔ z ∈ M) → L = M
  | [], [], _, _, _ => rfl
  | [], y :: m, _, _, h => by have := (h y).2 (by simp); simp at this
  | x :: l, [], _, _, h => by have := (h x).1 (by simp); simp at this
  | x :: l, y :: m, hl, hm, h => by
    have hl' := List.pairwise_cons.1 hl
    have hm' := List.pairwise_cons.1 hm
    have hxy : x = y := by
      rcases List.mem_cons.1 ((h x).1 (by simp)) with h1 | h1
      · exact h1
      · rcases List.mem_cons.1 ((h y).2 (by simp)) with h2 | h2
        · exact h2.symm
        · have a := hm'.1 x h1
          have b := hl'.1 y h2
          omega
    subst hxy
    congr 1
    refine srt_ext hl'.2 hm'.2 fun z => ?_
    constructor
    · intro hz
      rcases List.mem_cons.1 ((h z).1 (by simp [hz])) with h1 | h1
      · subst h1; have := hl'.1 z hz; omega
      · exact h1
    · intro hz
      rcases List.mem_cons.1 ((h z).2 (by simp [hz])) with h1 | h1
      · subst h1; have := hm'.1 z hz; omega
      · exact h1

/-- The processes j of 0 .. 9 that are there (s j), each as f says. -/
def fam (s : Nat → Bool) (f : Nat → PR) : List PR := ((List.range 10).filter s).map f
/-- Each bears its own number. -/
def Num (f : Nat → PR) : Prop := ∀ j, (f j).pid = (j : Int)
section
variable {s : Nat → Bool} {f : Nat → PR}
theorem fam_srt (hf : Num f) : Srt (fam s f) := by
  unfold fam Srt
  rw [List.pairwise_map]
  refine List.Pairwise.filter _ ?_
  refine (List.pairwise_lt_range).imp fun {a b} h => ?_
  rw [hf a, hf b]; omega
theorem fam_mem {z : PR} : z ∈ fam s f ↔ ∃ j, j < 10 ∧ s j = true ∧ z = f j := by
  unfold fam
  rw [List.mem_map]
  constructor
  · rintro ⟨j, hj, rfl⟩
    obtain ⟨h1, h2⟩ := List.mem_filter.1 hj
    exact ⟨j, List.mem_range.1 h1, h2, rfl⟩
  · rintro ⟨j, h1, h2, rfl⟩
    exact ⟨j, List.mem_filter.2 ⟨List.mem_range.2 h1, h2⟩, rfl⟩
theorem fam_len : (fam s f).length ≤ 10 := by
  unfold fam
  rw [List.length_map]
  have := List.length_filter_le s (List.range 10)
  simpa using this
theorem fam_get (hf : Num f) {i : Nat} (hi : i < 10) (h : s i = true) : pget (fam s f) (i : Int) = some (f i) := by
  have := pget_of (fam_srt (s := s) hf) (fam_mem.2 ⟨i, hi, h, rfl⟩)
  rwa [hf i] at this
theorem fam_none (hf : Num f) {i : Nat} (h : s i = false) : pget (fam s f) (i : Int) = none := by
  cases hq : pget (fam s f) (i : Int) with
  | none => rfl
  | some z =>
    obtain ⟨h1, h2⟩ := pget_some hq
    obtain ⟨j, _, hj, rfl⟩ := fam_mem.1 h1
    rw [hf j] at h2
    have : j = i := by omega
    subst this
    rw [h] at hj; cases hj
theorem fam_put (hf : Num f) {i : Nat} (hi : i < 10) (x : PR) (hx : x.pid = (i : Int)) : pput (fam s f) x = fam (fun j => s j || decide (j = i)) (fun j => if j = i then x else f j) := by
  have hf' : Num (fun j => if j = i then x else f j) := fun j => by
    by_cases e : j = i
    · simp only [e, if_true]; exact hx
    · simp only [e, if_false]; exact hf j
  refine srt_ext ((fam_srt hf).put x) (fam_srt hf') fun z => ?_
  rw [pput_mem, fam_mem, fam_mem, hx]
  constructor
  · rintro (rfl | ⟨⟨j, h1, h2, rfl⟩, h3⟩)
    · exact ⟨i, hi, by simp, by simp⟩
    · have hne : j ≠ i := fun e => h3 (by rw [hf j, e])
      exact ⟨j, h1, by simp [h2], by simp [hne]⟩
  · rintro ⟨j, h1, h2, rfl⟩
    by_cases e : j = i
    · left; simp [e]
    · right
      simp only [e, decide_false, Bool.or_false] at h2
      simp only [e, if_false]
      exact ⟨⟨j, h1, h2, rfl⟩, by rw [hf j]; omega⟩
theorem fam_del (hf : Num f) {i : Nat} : pdel (fam s f) (i : Int) = fam (fun j => s j && !decide (j = i)) f := by
  refine srt_ext ((fam_srt hf).del _) (fam_srt hf) fun z => ?_
  rw [pdel_mem, fam_mem, fam_mem]
  constructor
  · rintro ⟨⟨j, h1, h2, rfl⟩, h3⟩
    have hne : j ≠ i := fun e => h3 (by rw [hf j, e])
    exact ⟨j, h1, by simp [h2, hne], rfl⟩
  · rintro ⟨j, h1, h2, rfl⟩
    simp only [Bool.and_eq_true, Bool.not_eq_true', decide_eq_false_iff_not] at h2
    exact ⟨⟨j, h1, h2.1, rfl⟩, by rw [hf j]; omega⟩
theorem fam_congr {s' : Nat → Bool} {f' : Nat → PR} (hs : ∀ j, j < 10 → s j = s' j) (hf : ∀ j, j < 10 → s j = true → f j = f' j) : fam s f = fam s' f' := by
  unfold fam
  have e : (List.range 10).filter s = (List.range 10).filter s' := List.filter_congr fun j hj => hs j (List.mem_range.1 hj)
  rw [← e]
  refine List.map_congr_left fun j hj => ?_
  obtain ⟨h1, h2⟩ := List.mem_filter.1 hj
  exact hf j (List.mem_range.1 h1) h2
theorem fam_kids (hf : Num f) (k : Int) : kids (fam s f) k = ((List.range 10).filter (fun j => s j && decide ((f j).par = k))).map (fun j : Nat => (j : Int)) := by
  unfold kids fam
  rw [List.filter_map, List.map_map, List.filter_filter]
  have e1 : (List.range 10).filter (fun a => (fun r : PR => decide (r.par = k)) (f a) && s a) = (List.range 10).filter (fun j => s j && decide ((f j).par = k)) :=
    List.filter_congr fun j _ => Bool.and_comm _ _
  have e2 : (PR.pid ∘ f) = fun j : Nat => (j : Int) := by funext j; exact hf j
  rw [e2]
  exact congrArg _ e1
theorem fam_alive (hf : Num f) {i : Nat} (hi : i < 10) : aliveB (fam s f) (i : Int) = (s i && !(f i).dead) := by
  unfold aliveB
  cases h : s i
  · rw [fam_none hf h]; rfl
  · rw [fam_get hf hi h]; rfl
theorem fam_start (hf : Num f) {i : Nat} (hi : i < 10) (h : s i = false) (par : Int) (hp : par = -1 ∨ aliveB (fam s f) par = true) :
    startE (fam s f) (i : Int) par = 0 ∧ startL (fam s f) (i : Int) par = fam (fun j => s j || decide (j = i)) (fun j => if j = i then ⟨i, par, 0, false⟩ else f j) := by
  have e : startE (fam s f) (i : Int) par = 0 := by
    unfold startE
    rw [if_neg (by omega), fam_none hf h, if_neg (by simp)]
    rw [if_neg]
    rintro ⟨h1, h2⟩
    rcases hp with hp | hp
    · exact h1 hp
    · rw [hp] at h2; cases h2
  refine ⟨e, ?_⟩
  unfold startL
  rw [if_pos e]
  exact fam_put hf hi ⟨i, par, 0, false⟩ rfl
theorem fam_leave (hf : Num f) {i : Nat} (hi : i < 10) (h : s i = true) : leaveL (fam s f) (i : Int) = fam (fun j => s j && !(decide (j = i) && (f i).dead)) (fun j => if j = i then ⟨i, -1, (f i).code, (f i).dead⟩ else f j) := by
  have hoc : oCode (pget (fam s f) (i : Int)) = (f i).code := by rw [fam_get hf hi h]; rfl
  have hod : oDead (pget (fam s f) (i : Int)) = (f i).dead := by rw [fam_get hf hi h]; rfl
  unfold leaveL
  simp only [hoc, hod]
  have hf' : Num (fun j => if j = i then (⟨(i : Int), -1, (f i).code, (f i).dead⟩ : PR) else f j) := fun j => by
    by_cases e : j = i
    · simp only [e, if_true]
    · simp only [e, if_false]; exact hf j
  rw [fam_put hf hi ⟨i, -1, (f i).code, (f i).dead⟩ rfl]
  by_cases hd : (f i).dead = true
  · rw [if_pos hd, fam_del hf']
    refine fam_congr (fun j _ => ?_) (fun j _ _ => rfl)
    by_cases e : j = i
    · subst e; simp [hd]
    · simp [e]
  · rw [if_neg hd]
    refine fam_congr (fun j _ => ?_) (fun j _ _ => rfl)
    by_cases e : j = i
    · subst e; simp [h, hd]
    · simp [e]
/-- A process without children ends. -/
theorem fam_exit (hf : Num f) {i : Nat} (hi : i < 10) (h : s i = true) (hd : (f i).dead = false) (hk : ∀ j, j < 10 → s j = true → (f j).par ≠ (i : Int)) {code : Int} (c0 : 0 ≤ code) (c1 : code ≤ 255) :
    exitE (fam s f) (i : Int) code = 0 ∧ exitL (fam s f) (i : Int) code = if (f i).par = -1 then fam (fun j => s j && !decide (j = i)) f else fam s (fun j => if j = i then ⟨i, (f i).par, code, true⟩ else f j) := by
  have hal : aliveB (fam s f) (i : Int) = true := by rw [fam_alive hf hi, h, hd]; rfl
  have e : exitE (fam s f) (i : Int) code = 0 := by
    unfold exitE
    rw [if_neg (by rw [hal]; simp), if_neg (by omega)]
  have hkk : kidsA (fam s f) (i : Int) = [] := by
    unfold kidsA
    rw [if_pos hal, fam_kids hf]
    rw [List.filter_eq_nil_iff.2]
    · rfl
    · intro j hj hb
      simp only [Bool.and_eq_true, decide_eq_true_eq] at hb
      exact hk j (List.mem_range.1 hj) hb.1 hb.2
  refine ⟨e, ?_⟩
  unfold exitL
  rw [if_pos e, hkk]
  show exitM (fam s f) (i : Int) code = _
  have hop : oPar (pget (fam s f) (i : Int)) = (f i).par := by rw [fam_get hf hi h]; rfl
  unfold exitM
  simp only [hop]
  have hf2 : Num (fun j => if j = i then (⟨(i : Int), (f i).par, code, true⟩ : PR) else f j) := fun j => by
    by_cases e : j = i
    · simp only [e, if_true]
    · simp only [e, if_false]; exact hf j
  rw [fam_put hf hi ⟨i, (f i).par, code, true⟩ rfl]
  by_cases hp : (f i).par = -1
  · rw [if_pos hp, if_pos hp, fam_leave hf2 hi (by simp)]
    refine fam_congr (fun j _ => ?_) (fun j _ hj => ?_)
    · by_cases e : j = i
      · subst e; simp
      · simp [e]
    · by_cases e : j = i
      · subst e; simp at hj
      · simp [e]
  · rw [if_neg hp, if_neg hp]
    refine fam_congr (fun j _ => ?_) (fun j _ _ => rfl)
    by_cases e : j = i
    · subst e; simp [h]
    · simp [e]
theorem fam_exit_no (hf : Num f) {i : Nat} (hi : i < 10) (h : s i = false ∨ (f i).dead = true) (code : Int) : exitE (fam s f) (i : Int) code = 4 ∧ exitL (fam s f) (i : Int) code = fam s f := by
  have hal : aliveB (fam s f) (i : Int) = false := by
    rw [fam_alive hf hi]
    rcases h with h | h <;> simp [h]
  have e : exitE (fam s f) (i : Int) code = 4 := by unfold exitE; rw [if_pos hal]
  refine ⟨e, ?_⟩
  unfold exitL
  rw [if_neg (by rw [e]; omega)]
/-- The least dead child of a process that lives. -/
theorem fam_childZ (hf : Num f) {i : Nat} (hi : i < 10) (h : s i = true) (hd : (f i).dead = false) :
    childZ (fam s f) (i : Int) = ((List.range 10).find? (fun j => s j && decide ((f j).par = (i : Int)) && (f j).dead)).map (fun j : Nat => (j : Int)) := by
  have hal : aliveB (fam s f) (i : Int) = true := by rw [fam_alive hf hi, h, hd]; rfl
  unfold childZ kidsA
  rw [if_pos hal, fam_kids hf, List.find?_map, List.find?_filter]
  congr 1
  have key : ∀ l : List Nat, (∀ j ∈ l, j < 10) → l.find? (fun a => decide ((s a && decide ((f a).par = (i : Int))) = true ∧ ((fun z => oDead (pget (fam s f) z)) ∘ fun j : Nat => (j : Int)) a = true)) = l.find? (fun j => s j && decide ((f j).par = (i : Int)) && (f j).dead) := by
    intro l
    induction l with
    | nil => intro _; rfl
    | cons a l ih =>
      intro hl
      have ha := hl a (by simp)
      have e : decide ((s a && decide ((f a).par = (i : Int))) = true ∧ ((fun z => oDead (pget (fam s f) z)) ∘ fun j : Nat => (j : Int)) a = true) = (s a && decide ((f a).par = (i : Int)) && (f a).dead) := by
        cases hs : s a
        · simp
        · simp only [Function.comp, fam_get hf ha hs, oDead]
          simp
      rw [List.find?_cons, List.find?_cons, e, ih fun j hj => hl j (by simp [hj])]
  exact key (List.range 10) (fun j hj => List.mem_range.1 hj)
end

end Go.Proofs.Ytdgggdhligfnpaa
