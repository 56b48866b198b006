/-
  PLAIN LAWS of AdmitLess: fewer tasks, that ask for no more, respond no later.
-/
import Derived.Test.YtdninhdabeddeaaAdmW
import Derived.Test.YtdninhdabeddeaaDemE
namespace Go.Proofs.Ytdninhdabeddeaa
open Go.RowKit

theorem rwork_one_mono {s a b c : Int} (h : b ≤ c) : rwork s [(a, b)] ≤ rwork s [(a, c)] := by
  have := nsum2_mono (Int.le_refl 0) (nmul_mono' (Int.le_refl (nup s a)) h)
  simpa [rwork] using this
theorem rwork_cons_mono {s a b c : Int} {l m : List (Int × Int)} (h : b ≤ c) (hl : rwork s l ≤ rwork s m) : rwork s ((a, b) :: l) ≤ rwork s ((a, c) :: m) := by
  have h1 := rwork_one_mono (s := s) (a := a) h
  have e1 := rwork_app s [(a, b)] l
  have e2 := rwork_app s [(a, c)] m
  rw [List.singleton_append] at e1 e2
  rw [e1, e2]
  exact clip_mono (by omega)
theorem rwork_skip {s : Int} {q : Int × Int} {l m : List (Int × Int)} (hl : rwork s l ≤ rwork s m) : rwork s l ≤ rwork s (q :: m) := by
  have e2 := rwork_app s [q] m
  rw [List.singleton_append] at e2
  have h1 := rwork_lo s [q]
  have h2 := rwork_lo s l
  have h3 := rwork_hi s l
  rw [e2]; unfold clip; omega
theorem rwork_app_both {s : Int} {a b c d : List (Int × Int)} (h : rwork s a ≤ rwork s b) (k : rwork s c ≤ rwork s d) : rwork s (a ++ c) ≤ rwork s (b ++ d) := by
  rw [rwork_app, rwork_app]; exact clip_mono (by omega)
theorem eneed_app (s : Int) (es fs : List (Int × Int × Int)) : eneed s (es ++ fs) = clip (eneed s es + eneed s fs) := by
  rcases List.eq_nil_or_concat fs with rfl | ⟨fs', q, rfl⟩
  · simp [eneed]
    exact (clip_of _ (eneed_lo s es) (eneed_hi s es)).symm
  · rw [List.concat_eq_append, ← List.append_assoc, eneed_snoc, eneed_app s es fs', eneed_snoc]
    have h1 := eneed_lo s es
    have h2 := eneed_lo s fs'
    generalize ework s q = y
    simp [nsum]; unfold clip; omega
  termination_by fs.length
  decreasing_by subst_vars; simp
theorem eneed_cons_mono {s p d b c : Int} {l m : List (Int × Int × Int)} (h : b ≤ c) (hl : eneed s l ≤ eneed s m) : eneed s ((p, d, b) :: l) ≤ eneed s ((p, d, c) :: m) := by
  have h1 : eneed s [(p, d, b)] ≤ eneed s [(p, d, c)] := by
    have := nsum2_mono (Int.le_refl 0) (nmul_mono' h (Int.le_refl (ejobs s (p, d, b))))
    simpa [eneed, ework, ejobs] using this
  have e1 := eneed_app s [(p, d, b)] l
  have e2 := eneed_app s [(p, d, c)] m
  rw [List.singleton_append] at e1 e2
  rw [e1, e2]
  exact clip_mono (by omega)
theorem eneed_skip {s : Int} {q : Int × Int × Int} {l m : List (Int × Int × Int)} (hl : eneed s l ≤ eneed s m) : eneed s l ≤ eneed s (q :: m) := by
  have e2 := eneed_app s [q] m
  rw [List.singleton_append] at e2
  have h1 := eneed_lo s [q]
  have h2 := eneed_lo s l
  have h3 := eneed_hi s l
  rw [e2]; unfold clip; omega

/-- A task asks for no more than another one, and is like it else. -/
structure Le1 (y x : TK) : Prop where
  cls : y.cls = x.cls
  lvl : y.lvl = x.lvl
  per : y.per = x.per
  ddl : y.ddl = x.ddl
  line : y.line = x.line
  un : y.un = x.un
  us : y.us = x.us
  on : y.on = x.on
  b0 : 1 ≤ y.bud
  b1 : y.bud ≤ x.bud
inductive LeT : List TK → List TK → Prop
  | nil : LeT [] []
  | skip {l m : List TK} {x : TK} : LeT l m → LeT l (x :: m)
  | keep {l m : List TK} {y x : TK} : Le1 y x → LeT l m → LeT (y :: l) (x :: m)
theorem Le1.refl {x : TK} (h : 1 ≤ x.bud) : Le1 x x := ⟨rfl, rfl, rfl, rfl, rfl, rfl, rfl, rfl, h, Int.le_refl _⟩
theorem LeT.refl : ∀ {l : List TK}, (∀ x ∈ l, 1 ≤ x.bud) → LeT l l
  | [], _ => .nil
  | x :: l, h => .keep (Le1.refl (h x (by simp))) (LeT.refl fun y hy => h y (by simp [hy]))
theorem LeT.erase : ∀ {l : List TK} (k : Nat), (∀ x ∈ l, 1 ≤ x.bud) → LeT (l.take k ++ l.drop (k + 1)) l
  | [], k, _ => by simp; exact .nil
  | x :: l, 0, h => by
    show LeT l (x :: l)
    exact .skip (LeT.refl fun y hy => h y (by simp [hy]))
  | x :: l, k + 1, h => .keep (Le1.refl (h x (by simp))) (LeT.erase k fun y hy => h y (by simp [hy]))
/-- A task that asks for 1. -/
def one1 (x : TK) : TK := ⟨x.cls, x.lvl, x.per, x.ddl, 1, x.line, x.U, x.un, x.uc, x.us, x.O, x.on, x.oc, x.os⟩
theorem LeT.set1 : ∀ {l : List TK} (k : Nat) (hk : k < l.length), (∀ x ∈ l, 1 ≤ x.bud) → LeT (l.set k (one1 l[k])) l
  | x :: l, 0, _, h => .keep ⟨rfl, rfl, rfl, rfl, rfl, rfl, rfl, rfl, Int.le_refl _, h x (by simp)⟩ (LeT.refl fun y hy => h y (by simp [hy]))
  | x :: l, k + 1, hk, h => .keep (Le1.refl (h x (by simp))) (LeT.set1 k (by simpa using hk) fun y hy => h y (by simp [hy]))
theorem LeT.len {us ts : List TK} (h : LeT us ts) : us.length ≤ ts.length := by
  induction h with
  | nil => exact Nat.le_refl _
  | skip _ ih => simp; omega
  | keep _ _ ih => simp; omega
theorem LeT.mem {us ts : List TK} (h : LeT us ts) : ∀ y ∈ us, ∃ x ∈ ts, Le1 y x := by
  induction h with
  | nil => intro y hy; cases hy
  | skip _ ih => intro y hy; obtain ⟨x, hx, h⟩ := ih y hy; exact ⟨x, by simp [hx], h⟩
  | keep h1 _ ih =>
    intro y hy
    rcases List.mem_cons.1 hy with rfl | hy
    · exact ⟨_, by simp, h1⟩
    · obtain ⟨x, hx, h⟩ := ih y hy; exact ⟨x, by simp [hx], h⟩
theorem LeT.at_ {us ts : List TK} (h : LeT us ts) : ∀ (i : Nat) (hi : i < us.length), ∃ (j : Nat) (hj : j < ts.length), LeT (us.take i) (ts.take j) ∧ Le1 us[i] ts[j] ∧ LeT (us.drop (i + 1)) (ts.drop (j + 1)) := by
  induction h with
  | nil => intro i hi; simp at hi
  | @skip l m x _ ih =>
    intro i hi
    obtain ⟨j, hj, h1, h2, h3⟩ := ih i hi
    exact ⟨j + 1, by simpa using hj, .skip h1, h2, h3⟩
  | @keep l m y x h1 h ih =>
    intro i hi
    cases i with
    | zero => exact ⟨0, by simp, .nil, h1, h⟩
    | succ i =>
      obtain ⟨j, hj, g1, g2, g3⟩ := ih i (by simpa using hi)
      exact ⟨j + 1, by simpa using hj, .keep h1 g1, g2, g3⟩
theorem LeT.same {us ts : List TK} (h : LeT us ts) (hl : us.length = ts.length) (i : Nat) (hi : i < us.length) : LeT (us.take i) (ts.take i) ∧ Le1 us[i] (ts[i]'(by omega)) ∧ LeT (us.drop (i + 1)) (ts.drop (i + 1)) := by
  obtain ⟨j, hj, h1, h2, h3⟩ := h.at_ i hi
  have l1 := h1.len
  have l3 := h3.len
  simp only [List.length_take, List.length_drop] at l1 l3
  obtain rfl : i = j := by omega
  exact ⟨h1, h2, h3⟩

/-- Of some tasks, the parts of those that come ahead. -/
def plainP (f : TK → Bool) (l : List TK) : List (Int × Int) := l.flatMap fun y => if f y = true then [(y.per, y.bud)] else []
theorem plainP_app (f : TK → Bool) (l m : List TK) : plainP f (l ++ m) = plainP f l ++ plainP f m := by simp [plainP]
theorem plainP_yes {f : TK → Bool} {y : TK} (h : f y = true) : plainP f [y] = [(y.per, y.bud)] := by simp [plainP, h]
theorem plainP_no {f : TK → Bool} {y : TK} (h : f y = false) : plainP f [y] = [] := by simp [plainP, h]
theorem plainP_cons (f : TK → Bool) (y : TK) (l : List TK) : plainP f (y :: l) = plainP f [y] ++ plainP f l := by rw [← plainP_app]; rfl
theorem partT_form (f : TK → Bool) (ts : List TK) (i : Nat) : ∀ m, m ≤ ts.length → (m ≤ i → partT ts (i : Int) (someT f ts m) = plainP f (ts.take m)) ∧ (i < m → partT ts (i : Int) (someT f ts m) = plainP f (ts.take i) ++ plainP f ((ts.take m).drop (i + 1)))
  | 0, _ => ⟨fun _ => by simp [someT, partT, plainP], fun h => by omega⟩
  | m + 1, hm => by
    have hm' : m < ts.length := by omega
    obtain ⟨ih1, ih2⟩ := partT_form f ts i m (by omega)
    have ht := take_succ' ts m hm'
    refine ⟨fun h => ?_, fun h => ?_⟩
    · have hne : (m : Int) ≠ (i : Int) := by omega
      have hx := ih1 (by omega)
      rw [ht, plainP_app]
      cases hf : f ts[m]
      · rw [someT_no hm' hf, plainP_no hf, List.append_nil]; exact hx
      · rw [someT_yes hm' hf, partT_snoc ts (i : Int) _ hm' hne, plainP_yes hf, hx]
    · by_cases e : m = i
      · subst e
        have hx := ih1 (Nat.le_refl _)
        have hd : (ts.take (m + 1)).drop (m + 1) = [] := by rw [List.drop_eq_nil_iff, List.length_take]; omega
        rw [hd]
        cases hf : f ts[m]
        · rw [someT_no hm' hf, hx]; simp [plainP]
        · rw [someT_yes hm' hf, partT_same, hx]; simp [plainP]
      · have hx := ih2 (by omega)
        have hd : (ts.take (m + 1)).drop (i + 1) = (ts.take m).drop (i + 1) ++ [ts[m]] := by
          rw [ht, List.drop_append_of_le_length (by rw [List.length_take]; omega)]
        rw [hd, plainP_app]
        cases hf : f ts[m]
        · rw [someT_no hm' hf, plainP_no hf, List.append_nil]; exact hx
        · rw [someT_yes hm' hf, partT_snoc ts (i : Int) _ hm' (by omega), plainP_yes hf, hx, List.append_assoc]
theorem partsV_form {ts : List TK} {gs : List Int} {i : Nat} (hi : i < ts.length) (x : TK) : partsV ts gs (i : Int) x = gapP gs ++ (plainP (ahdB x) (ts.take i) ++ plainP (ahdB x) (ts.drop (i + 1))) := by
  have h := (partT_form (ahdB x) ts i ts.length (Nat.le_refl _)).2 hi
  rw [List.take_length] at h
  unfold partsV someL
  rw [h]

theorem LeT.work {us ts : List TK} (h : LeT us ts) {f g : TK → Bool} (hf : ∀ y x, Le1 y x → f y = g x) (s : Int) : rwork s (plainP f us) ≤ rwork s (plainP g ts) := by
  induction h with
  | nil => exact Int.le_refl _
  | @skip l m x _ ih =>
    rw [plainP_cons g x m]
    cases hx : g x
    · rw [plainP_no hx]; exact ih
    · rw [plainP_yes hx]; exact rwork_skip ih
  | @keep l m y x h1 _ ih =>
    rw [plainP_cons g x m, plainP_cons f y l]
    have he := hf y x h1
    cases hx : g x
    · rw [hx] at he
      rw [plainP_no hx, plainP_no he]; exact ih
    · rw [hx] at he
      rw [plainP_yes hx, plainP_yes he, h1.per]
      exact rwork_cons_mono h1.b1 ih
theorem earlL_cons (y : TK) (l : List TK) : earlL (y :: l) = (if y.cls = 1 then [(y.per, y.ddl, y.bud)] else []) ++ earlL l := by simp [earlL]
theorem LeT.need {us ts : List TK} (h : LeT us ts) (s : Int) : eneed s (earlL us) ≤ eneed s (earlL ts) := by
  induction h with
  | nil => exact Int.le_refl _
  | @skip l m x _ ih =>
    rw [earlL_cons x m]
    split
    · exact eneed_skip ih
    · exact ih
  | @keep l m y x h1 _ ih =>
    rw [earlL_cons x m, earlL_cons y l, h1.cls]
    split
    · rw [h1.per, h1.ddl]; exact eneed_cons_mono h1.b1 ih
    · exact ih
theorem LeT.all {us ts : List TK} (h : LeT us ts) (s : Int) : rwork s ((earlL us).map epc) ≤ rwork s ((earlL ts).map epc) := by
  induction h with
  | nil => exact Int.le_refl _
  | @skip l m x _ ih =>
    rw [earlL_cons x m]
    split
    · exact rwork_skip ih
    · exact ih
  | @keep l m y x h1 _ ih =>
    rw [earlL_cons x m, earlL_cons y l, h1.cls]
    split
    · rw [h1.per, h1.ddl]; exact rwork_cons_mono h1.b1 ih
    · exact ih
theorem LeT.line {us ts : List TK} (h : LeT us ts) (l : Int) : cntLine us l ≤ cntLine ts l := by
  induction h with
  | nil => exact Int.le_refl _
  | @skip l' m x _ ih =>
    unfold cntLine at ih ⊢
    rw [List.countP_cons]
    split <;> omega
  | @keep l' m y x h1 _ ih =>
    unfold cntLine at ih ⊢
    rw [List.countP_cons, List.countP_cons, h1.line]
    split <;> omega

theorem Le1.may {nm ng : Nat} {y x : TK} (h : Le1 y x) (hx : mayT nm ng x = true) : mayT nm ng y = true := by
  unfold mayT at hx ⊢
  simp only [Bool.and_eq_true] at hx ⊢
  obtain ⟨⟨⟨⟨a, b⟩, c⟩, d⟩, e⟩ := hx
  refine ⟨⟨⟨⟨?_, ?_⟩, ?_⟩, ?_⟩, ?_⟩
  · unfold clsB at a ⊢; rw [h.cls, h.lvl]; exact a
  · unfold spanB inB at b ⊢
    rw [h.per, h.ddl]
    simp only [Bool.and_eq_true, decide_eq_true_eq] at b ⊢
    have := h.b0
    have := h.b1
    omega
  · unfold usesB at c ⊢; rw [h.un, h.us]; exact c
  · rw [h.line]; exact d
  · rw [h.on]; exact e
theorem LeT.mayTs {nm ng : Nat} {us ts : List TK} (h : LeT us ts) (hm : mayTs nm ng ts ts.length = true) : mayTs nm ng us us.length = true := by
  unfold Go.Proofs.Ytdninhdabeddeaa.mayTs
  rw [List.all_eq_true]
  intro i hi
  have hi' : i < us.length := List.mem_range.1 hi
  obtain ⟨j, hj, h1, h2, _⟩ := h.at_ i hi'
  unfold Go.Proofs.Ytdninhdabeddeaa.mayTs at hm
  rw [List.all_eq_true] at hm
  have hx := hm j (List.mem_range.2 hj)
  rw [List.getElem?_eq_getElem hj] at hx
  rw [List.getElem?_eq_getElem hi']
  simp only [Bool.and_eq_true, Bool.not_eq_true', Bool.and_eq_false_iff, decide_eq_false_iff_not] at hx ⊢
  refine ⟨h2.may hx.1, ?_⟩
  rw [h2.line]
  rcases hx.2 with hx | hx
  · exact .inl hx
  · right
    have := h1.line ts[j].line
    omega
theorem cnt_same {y x y' x' : TK} (h : Le1 y x) (h' : Le1 y' x') : cntB y y' = cntB x x' := by unfold cntB; rw [h.cls, h.lvl, h'.cls, h'.lvl]
theorem ahd_same {y x y' x' : TK} (h : Le1 y x) (h' : Le1 y' x') : ahdB y y' = ahdB x x' := by unfold ahdB; rw [cnt_same h h', h'.cls]
theorem uses_mem {f : TK → Bool} {ts : List TK} {u : Int} : u ∈ usesOf ts (someL f ts) ↔ ∃ y ∈ ts, f y = true ∧ u ∈ y.us := by
  unfold usesOf
  rw [List.mem_flatMap]
  constructor
  · rintro ⟨z, hz, hu⟩
    obtain ⟨j, rfl, hj, hl, hf⟩ := someT_mem f ts z _ hz
    simp only [Int.toNat_natCast, List.getElem?_eq_getElem hl] at hu
    exact ⟨_, List.getElem_mem hl, hf, hu⟩
  · rintro ⟨y, hy, hf, hu⟩
    obtain ⟨j, hj, rfl⟩ := List.getElem_of_mem hy
    refine ⟨(j : Int), someT_in hj hf _ hj, ?_⟩
    simp only [Int.toNat_natCast, List.getElem?_eq_getElem hj]
    exact hu
theorem LeT.blk {us ts : List TK} (h : LeT us ts) {ms : List (Int × Int)} (hok : okM ms = true) {y x : TK} (h1 : Le1 y x) : blkV us ms y ≤ blkV ts ms x := by
  refine blkV_less hok fun u hu => ?_
  obtain ⟨y', hy', hc, hu⟩ := uses_mem.1 hu
  obtain ⟨x', hx', h2⟩ := h.mem y' hy'
  exact uses_mem.2 ⟨x', hx', by rw [← cnt_same h1 h2]; exact hc, by rw [← h2.us]; exact hu⟩
theorem rresp_less {own own' b b' : Int} {ps ps' : List (Int × Int)} {most : Int} (ho : own' ≤ own) (hb : b' ≤ b) (hp : ∀ s, rwork s ps' ≤ rwork s ps) {i : Nat} (h : rresp own b ps most = some i) : ∃ i', rresp own' b' ps' most = some i' ∧ i' ≤ i := by
  obtain ⟨k1, k2, _⟩ := leastOf_spec h
  have hn : ∀ s, rneed own' b' ps' s ≤ rneed own b ps s := fun s => nsum3_mono ho hb (hp s)
  cases hr' : rresp own' b' ps' most with
  | none =>
    have := leastOf_nil hr' i k1
    have := hn ((i : Int) + 1)
    omega
  | some i' =>
    obtain ⟨k4, k5, k6⟩ := leastOf_spec hr'
    refine ⟨i', rfl, ?_⟩
    rcases Nat.lt_or_ge i i' with h | h
    · have := k6 i h
      have := hn ((i : Int) + 1)
      omega
    · exact h
theorem resp_less {us ts : List TK} (h : LeT us ts) {ms : List (Int × Int)} {gs : List Int} (hok : okM ms = true) {i j : Nat} (hi : i < us.length) (hj : j < ts.length) (h1 : LeT (us.take i) (ts.take j)) (h2 : Le1 us[i] ts[j]) (h3 : LeT (us.drop (i + 1)) (ts.drop (j + 1)))
    (hr : (respV ts ms gs j ts[j]).2 = true) : (respV us ms gs i us[i]).2 = true ∧ (respV us ms gs i us[i]).1 ≤ (respV ts ms gs j ts[j]).1 := by
  have hb := h.blk hok h2
  have hp : ∀ s, rwork s (partsV us gs (i : Int) us[i]) ≤ rwork s (partsV ts gs (j : Int) ts[j]) := fun s => by
    rw [partsV_form hi, partsV_form hj]
    have hf : ∀ y x, Le1 y x → ahdB us[i] y = ahdB ts[j] x := fun y x h' => ahd_same h2 h'
    exact rwork_app_both (Int.le_refl _) (rwork_app_both (h1.work hf s) (h3.work hf s))
  unfold respV at hr ⊢
  rw [h2.cls, h2.ddl]
  generalize us[i] = y at *
  generalize ts[j] = x at *
  generalize partsV us gs (i : Int) y = P' at *
  generalize partsV ts gs (j : Int) x = P at *
  generalize blkV us ms y = b' at *
  generalize blkV ts ms x = b at *
  by_cases hc : x.cls = 2
  · rw [if_pos hc] at hr ⊢
    cases hq : rresp x.bud b P x.ddl with
    | none => rw [hq] at hr; cases hr
    | some k =>
      obtain ⟨k', e, hk⟩ := rresp_less h2.b1 hb hp hq
      rw [e, if_pos hc]
      refine ⟨rfl, ?_⟩
      show (k' : Int) + 1 ≤ (k : Int) + 1
      omega
  · rw [if_neg hc] at hr ⊢
    rw [if_neg hc]
    have hd : (dfits b P (earlL ts) 4096).2 = true := by
      cases hq : (dfits b P (earlL ts) 4096).2 with
      | true => rfl
      | false => rw [if_neg (by rw [hq]; simp)] at hr; cases hr
    have hd' : (dfits b' P' (earlL us) 4096).2 = true :=
      fits_less (fun s => need_less hb (rwork_app_both (hp s) (h.all s))) (fun s hs => bad_less hb (hp s) (h.need s) hs) hd
    rw [if_pos hd, if_pos hd']
    exact ⟨rfl, Int.le_refl _⟩
theorem okOf_less {gs : List Int} {dog : Int} {y x : TK} (h : Le1 y x) {a : Bool} (ha : a = true) {b : Bool} (hx : okOf gs dog x b = true) : okOf gs dog y a = true := by
  subst ha
  unfold okOf at hx ⊢
  simp only [Bool.and_eq_true] at hx ⊢
  rw [h.line, h.per, h.ddl]
  exact ⟨⟨trivial, hx.1.2⟩, hx.2⟩
theorem okTo_at {ts : List TK} {ms : List (Int × Int)} {gs : List Int} {dog : Int} {n : Nat} (h : okTo ts ms gs dog n = true) {j : Nat} (hj : j < ts.length) (hn : j < n) : okOf gs dog ts[j] (respV ts ms gs j ts[j]).2 = true := by
  unfold okTo at h
  rw [List.all_eq_true] at h
  have := h j (List.mem_range.2 hn)
  unfold okAt at this
  rwa [List.getElem?_eq_getElem hj] at this
theorem okOf_resp {gs : List Int} {dog : Int} {x : TK} {b : Bool} (h : okOf gs dog x b = true) : b = true := by
  unfold okOf at h
  simp only [Bool.and_eq_true] at h
  exact h.1.1
section
variable {nt nb nm ng nu : Nat} {ts us : List TK} {bs : List EF} {ms : List (Int × Int)} {gs : List Int} {fr dog : Int}
theorem adm_less (h : LeT us ts) (ht : ts.length = nt) (hu : us.length = nu) (ha : admB nt nb nm ng ts bs ms gs fr dog = true) : admB nu nb nm ng us bs ms gs fr dog = true := by
  subst ht; subst hu
  unfold admB at ha ⊢
  simp only [Bool.and_eq_true] at ha ⊢
  obtain ⟨hm, ho⟩ := ha
  obtain ⟨_, _, _, hok, hmt, _, _⟩ := may_conf hm
  have hl := h.len
  refine ⟨?_, ?_⟩
  · unfold mayC at hm ⊢
    simp only [Bool.and_eq_true, decide_eq_true_eq] at hm ⊢
    obtain ⟨⟨⟨⟨⟨⟨⟨⟨a, b⟩, c⟩, d⟩, e⟩, f⟩, g⟩, i⟩, j⟩ := hm
    exact ⟨⟨⟨⟨⟨⟨⟨⟨by omega, b⟩, c⟩, d⟩, e⟩, f⟩, h.mayTs g⟩, i⟩, j⟩
  · unfold okTo
    rw [List.all_eq_true]
    intro i hi
    have hi' : i < us.length := List.mem_range.1 hi
    obtain ⟨j, hj, h1, h2, h3⟩ := h.at_ i hi'
    have hx := okTo_at ho hj hj
    have hr := okOf_resp hx
    unfold okAt
    rw [List.getElem?_eq_getElem hi']
    exact okOf_less h2 (resp_less h hok hi' hj h1 h2 h3 hr).1 hx
theorem adm_resp (ha : admB nt nb nm ng ts bs ms gs fr dog = true) : admR nt nb nm ng ts bs ms gs fr dog = respTo ts ms gs nt := by
  unfold admR; rw [if_pos ha]
theorem respTo_at {n i : Nat} (hi : i < ts.length) (hn : i < n) : (respTo ts ms gs n)[i]? = some (respV ts ms gs i ts[i]).1 := by
  unfold respTo respAt
  simp [hn, hi]
theorem resp_in (ht : ts.length = nt) (ha : admB nt nb nm ng ts bs ms gs fr dog = true) (i : Nat) (hi : i < ts.length) : ts[i].bud ≤ (respV ts ms gs i ts[i]).1 ∧ (respV ts ms gs i ts[i]).1 ≤ ts[i].ddl := by
  subst ht
  unfold admB at ha
  simp only [Bool.and_eq_true] at ha
  obtain ⟨hm, ho⟩ := ha
  obtain ⟨_, _, _, hok, hmt, _, _⟩ := may_conf hm
  have hr := okOf_resp (okTo_at ho hi hi)
  have hmx := may_task hmt hi hi
  have hsp : 1 ≤ ts[i].bud ∧ ts[i].bud ≤ ts[i].ddl ∧ ts[i].ddl ≤ ts[i].per ∧ ts[i].per ≤ 1000000 := by
    unfold mayT at hmx
    simp only [Bool.and_eq_true] at hmx
    have := hmx.1.1.1.2
    unfold spanB inB at this
    simp only [Bool.and_eq_true, decide_eq_true_eq] at this
    omega
  have hb := (blkV_bd (ts := ts) hok ts[i]).1
  unfold respV at hr ⊢
  generalize ts[i] = x at *
  generalize partsV ts gs (i : Int) x = P at *
  generalize blkV ts ms x = b at *
  by_cases hc : x.cls = 2
  · rw [if_pos hc] at hr ⊢
    cases hq : rresp x.bud b P x.ddl with
    | none => rw [hq] at hr; cases hr
    | some k =>
      obtain ⟨k1, k2, _⟩ := leastOf_spec hq
      show x.bud ≤ (k : Int) + 1 ∧ (k : Int) + 1 ≤ x.ddl
      have hw := rwork_lo ((k : Int) + 1) P
      unfold rneed at k2
      unfold rmost clip at k1
      simp [nsum] at k2
      unfold clip at k2
      omega
  · rw [if_neg hc] at hr ⊢
    split
    · exact ⟨hsp.2.1, Int.le_refl _⟩
    · rename_i h; rw [if_neg h] at hr; cases hr
end

end Go.Proofs.Ytdninhdabeddeaa
