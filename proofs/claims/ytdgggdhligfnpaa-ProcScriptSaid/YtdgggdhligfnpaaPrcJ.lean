/-
  CHAPTER 25: what the reference's list becomes is what the map becomes (plain).
-/
import Derived.Test.YtdgggdhligfnpaaPrcI
import Derived.Test.YtdgggdhligfnpaaPrcF
namespace Go.Proofs.Ytdgggdhligfnpaa
open Go.RowKit Go.Maps

/-- Nobody is its own parent. -/
def NoSelf (L : List PR) : Prop := ∀ r ∈ L, r.par ≠ r.pid

def stp (x : PR) (s : List PR × Bool) (r : PR) : List PR × Bool := if s.2 = false ∧ x.pid < r.pid then (s.1 ++ [x] ++ [r], true) else (s.1 ++ [r], s.2)
def stF (x : PR) (l : List PR) : List PR × Bool := l.foldl (stp x) ([], false)
theorem stF_snoc (x : PR) (l : List PR) (r : PR) : stF x (l ++ [r]) = stp x (stF x l) r := by simp [stF]
theorem stp_true (x : PR) : ∀ (l acc : List PR), l.foldl (stp x) (acc, true) = (acc ++ l, true)
  | [], acc => by simp
  | r :: l, acc => by
    rw [List.foldl_cons, show stp x (acc, true) r = (acc ++ [r], true) by simp [stp], stp_true x l, List.append_assoc]; rfl
theorem stp_fin (x : PR) : ∀ (l acc : List PR), (if (l.foldl (stp x) (acc, false)).2 = true then (l.foldl (stp x) (acc, false)).1 else (l.foldl (stp x) (acc, false)).1 ++ [x]) = acc ++ pins x l
  | [], acc => by simp [pins]
  | r :: l, acc => by
    rw [List.foldl_cons]
    by_cases h : x.pid < r.pid
    · rw [show stp x (acc, false) r = (acc ++ [x] ++ [r], true) by simp [stp, h], stp_true]
      simp [pins, h]
    · rw [show stp x (acc, false) r = (acc ++ [r], false) by simp [stp, h], stp_fin x l]
      simp [pins, h]
theorem stF_fin (x : PR) (l : List PR) : (if (stF x l).2 = true then (stF x l).1 else (stF x l).1 ++ [x]) = pins x l := stp_fin x l []
theorem pdel_self {L : List PR} {k : Int} (h : pget L k = none) : pdel L k = L := by
  unfold pdel
  rw [List.filter_eq_self]
  intro r hr
  have := pget_none h r hr
  simp [this]
theorem start_fin {L : List PR} {k par : Int} (h : startE L k par = 0) : startL L k par = if (stF ⟨k, par, 0, false⟩ L).2 = true then (stF ⟨k, par, 0, false⟩ L).1 else (stF ⟨k, par, 0, false⟩ L).1 ++ [⟨k, par, 0, false⟩] := by
  rw [stF_fin]
  have hn : pget L k = none := by
    unfold startE at h
    split at h
    · cases h
    · split at h
      · cases h
      · rename_i hq
        simpa using hq
  unfold startL pput
  rw [if_pos h, pdel_self hn]
theorem start_none {L : List PR} {k par : Int} (h : ¬ startE L k par = 0) : startL L k par = L := by unfold startL; rw [if_neg h]
theorem NoSelf.start {L : List PR} (h : NoSelf L) (k par : Int) : NoSelf (startL L k par) := by
  by_cases he : startE L k par = 0
  · intro r hr
    unfold startL at hr
    rw [if_pos he] at hr
    rcases pput_mem.1 hr with rfl | ⟨hr, _⟩
    · show par ≠ k
      unfold startE at he
      split at he
      · cases he
      · rename_i hk
        split at he
        · cases he
        · rename_i hg
          split at he
          · cases he
          · rename_i hp
            intro e
            subst e
            refine hp ⟨by omega, ?_⟩
            unfold aliveB
            simp only [Bool.and_eq_false_iff]
            left
            simpa using hg
    · exact h r hr
  · rw [start_none he]; exact h

/-- What becomes of one process when k exits. -/
def exO (k c : Int) (r : PR) : Option PR := if r.par = k then (if r.dead = true then none else some ⟨r.pid, -1, r.code, false⟩) else if r.pid = k then (if r.par = -1 then none else some ⟨r.pid, r.par, c, true⟩) else some r
theorem exO_pid {k c : Int} {r z : PR} (h : exO k c r = some z) : z.pid = r.pid := by
  unfold exO at h
  split at h
  · split at h
    · cases h
    · injection h with h; subst h; rfl
  · split at h
    · split at h
      · cases h
      · injection h with h; subst h; rfl
    · injection h with h; subst h; rfl
theorem ex_srt {L : List PR} (h : Srt L) (k c : Int) : Srt (L.filterMap (exO k c)) := by
  refine List.Pairwise.filterMap _ (fun a a' hr b hb b' hb' => ?_) h
  rw [exO_pid (Option.mem_def.1 hb), exO_pid (Option.mem_def.1 hb')]; exact hr
theorem leave_mem {L : List PR} {j : Int} {r : PR} (hr : pget L j = some r) {z : PR} : z ∈ leaveL L j ↔ (z ∈ L ∧ z.pid ≠ j) ∨ (r.dead = false ∧ z = ⟨j, -1, r.code, false⟩) := by
  obtain ⟨rp, ra, rc, rd⟩ := r
  cases rd
  · have e : leaveL L j = pput L ⟨j, -1, rc, false⟩ := by unfold leaveL; rw [hr]; rfl
    rw [e, pput_mem]
    constructor
    · rintro (h | h)
      · exact .inr ⟨rfl, h⟩
      · exact .inl h
    · rintro (h | ⟨_, h⟩)
      · exact .inr h
      · exact .inl h
  · have e : leaveL L j = pdel (pput L ⟨j, -1, rc, true⟩) j := by unfold leaveL; rw [hr]; rfl
    rw [e, pdel_mem, pput_mem]
    constructor
    · rintro ⟨h | h, hne⟩
      · subst h; exact absurd rfl hne
      · exact .inl h
    · rintro (h | ⟨h, _⟩)
      · exact ⟨.inr h, h.2⟩
      · cases h
theorem leave_srt {L : List PR} (hs : Srt L) (j : Int) : Srt (leaveL L j) := by
  unfold leaveL
  split
  · exact (hs.put _).del _
  · exact hs.put _
theorem leaves_mem : ∀ (ks : List Int) {L : List PR}, Srt L → ks.Nodup → (∀ j ∈ ks, ∃ r ∈ L, r.pid = j) → ∀ {z : PR}, z ∈ leaves L ks ↔ (z ∈ L ∧ z.pid ∉ ks) ∨ ∃ r ∈ L, r.pid ∈ ks ∧ r.dead = false ∧ z = ⟨r.pid, -1, r.code, false⟩
  | [], L, _, _, _, z => by simp [leaves]
  | j :: ks, L, hs, hn, hin, z => by
    obtain ⟨hj, hn'⟩ := List.nodup_cons.1 hn
    obtain ⟨r, hr, rfl⟩ := hin j (by simp)
    have hg := pget_of hs hr
    have hm : ∀ z, z ∈ leaveL L r.pid ↔ (z ∈ L ∧ z.pid ≠ r.pid) ∨ (r.dead = false ∧ z = ⟨r.pid, -1, r.code, false⟩) := fun z => leave_mem hg
    have hin' : ∀ j ∈ ks, ∃ q ∈ leaveL L r.pid, q.pid = j := fun i hi => by
      obtain ⟨q, hq, rfl⟩ := hin i (by simp [hi])
      refine ⟨q, (hm q).2 (.inl ⟨hq, fun e => hj (by rw [← e]; exact hi)⟩), rfl⟩
    have e : leaves L (r.pid :: ks) = leaves (leaveL L r.pid) ks := rfl
    rw [e, leaves_mem ks (leave_srt hs _) hn' hin']
    simp only [hm]
    constructor
    · rintro (⟨(⟨h1, h2⟩ | ⟨h1, rfl⟩), h3⟩ | ⟨q, (⟨h1, h2⟩ | ⟨h1, rfl⟩), h3, h4, rfl⟩)
      · exact .inl ⟨h1, by simp [h2, h3]⟩
      · exact .inr ⟨r, hr, by simp, h1, rfl⟩
      · exact .inr ⟨q, h1, by simp [h3], h4, rfl⟩
      · exact absurd h3 hj
    · rintro (⟨h1, h2⟩ | ⟨q, h1, h2, h3, rfl⟩)
      · simp only [List.mem_cons, not_or] at h2
        exact .inl ⟨.inl ⟨h1, h2.1⟩, h2.2⟩
      · rcases List.mem_cons.1 h2 with h2 | h2
        · have : q = r := by
            have h5 := pget_of hs h1
            rw [h2, hg] at h5
            injection h5 with h5; exact h5.symm
          subst this
          exact .inl ⟨.inr ⟨h3, rfl⟩, hj⟩
        · exact .inr ⟨q, .inl ⟨h1, fun e => hj (by rw [← e]; exact h2)⟩, h2, h3, rfl⟩
theorem leaves_srt : ∀ (ks : List Int) {L : List PR}, Srt L → Srt (leaves L ks)
  | [], _, h => h
  | j :: ks, _, h => leaves_srt ks (leave_srt h j)
theorem exit_fin {L : List PR} (hs : Srt L) (hself : NoSelf L) {k c : Int} (h : exitE L k c = 0) : exitL L k c = L.filterMap (exO k c) := by
  have hal : aliveB L k = true := by
    unfold exitE at h
    cases ha : aliveB L k
    · rw [if_pos ha] at h; cases h
    · rfl
  unfold exitL
  rw [if_pos h]
  have hk : kidsA L k = kids L k := by unfold kidsA; rw [if_pos hal]
  rw [hk]
  obtain ⟨r0, hg0, hd0⟩ : ∃ r0, pget L k = some r0 ∧ r0.dead = false := by
    unfold aliveB at hal
    cases hg : pget L k with
    | none => rw [hg] at hal; cases hal
    | some r => rw [hg] at hal; exact ⟨r, rfl, by simpa [oDead] using hal⟩
  obtain ⟨hr0, rfl⟩ := pget_some hg0
  have same : ∀ {q}, q ∈ L → q.pid = r0.pid → q = r0 := fun {q} hq e => by
    have := pget_of hs hq
    rw [e, hg0] at this
    injection this with this; exact this.symm
  have hnd : (kids L r0.pid).Nodup := by
    unfold kids
    have h1 : (L.filter fun r => decide (r.par = r0.pid)).Pairwise fun x y => x.pid < y.pid := List.Pairwise.filter _ hs
    rw [List.nodup_iff_pairwise_ne, List.pairwise_map]
    exact h1.imp fun h => by omega
  have hkm : ∀ {j : Int}, j ∈ kids L r0.pid ↔ ∃ q ∈ L, q.par = r0.pid ∧ q.pid = j := fun {j} => by
    simp only [kids, List.mem_map, List.mem_filter, decide_eq_true_eq]
    constructor
    · rintro ⟨q, ⟨h1, h2⟩, rfl⟩; exact ⟨q, h1, h2, rfl⟩
    · rintro ⟨q, h1, h2, rfl⟩; exact ⟨q, ⟨h1, h2⟩, rfl⟩
  have hkq : ∀ {q}, q ∈ L → (q.pid ∈ kids L r0.pid ↔ q.par = r0.pid) := fun {q} hq => by
    rw [hkm]
    constructor
    · rintro ⟨q', h1, h2, h3⟩
      have h4 := pget_of hs h1
      have h5 := pget_of hs hq
      rw [h3, h5] at h4
      injection h4 with h4
      subst h4; exact h2
    · intro e; exact ⟨q, hq, e, rfl⟩
  have hM : ∀ z, z ∈ leaves L (kids L r0.pid) ↔ _ := fun z => leaves_mem (kids L r0.pid) hs hnd (fun j hj => by
    obtain ⟨q, h1, _, h3⟩ := hkm.1 hj
    exact ⟨q, h1, h3⟩)
  have hsM := leaves_srt (kids L r0.pid) hs
  have h0M : r0 ∈ leaves L (kids L r0.pid) := (hM r0).2 (.inl ⟨hr0, fun e => hself r0 hr0 ((hkq hr0).1 e)⟩)
  have hgM := pget_of hsM h0M
  have e1 : exitM (leaves L (kids L r0.pid)) r0.pid c = if r0.par = -1 then leaveL (pput (leaves L (kids L r0.pid)) ⟨r0.pid, r0.par, c, true⟩) r0.pid else pput (leaves L (kids L r0.pid)) ⟨r0.pid, r0.par, c, true⟩ := by
    unfold exitM
    rw [hgM]; rfl
  rw [e1]
  have hsP := hsM.put ⟨r0.pid, r0.par, c, true⟩
  have core : ∀ z, z ∈ (if r0.par = -1 then leaveL (pput (leaves L (kids L r0.pid)) ⟨r0.pid, r0.par, c, true⟩) r0.pid else pput (leaves L (kids L r0.pid)) ⟨r0.pid, r0.par, c, true⟩) ↔ (r0.par ≠ -1 ∧ z = ⟨r0.pid, r0.par, c, true⟩) ∨ (z ∈ leaves L (kids L r0.pid) ∧ z.pid ≠ r0.pid) := by
    intro z
    by_cases hp : r0.par = -1
    · rw [if_pos hp]
      have hgP : pget (pput (leaves L (kids L r0.pid)) ⟨r0.pid, r0.par, c, true⟩) r0.pid = some ⟨r0.pid, r0.par, c, true⟩ := pget_of hsP (pput_mem.2 (.inl rfl))
      rw [leave_mem hgP, pput_mem]
      constructor
      · rintro (⟨(h1 | h1), h2⟩ | ⟨h1, _⟩)
        · subst h1; exact absurd rfl h2
        · exact .inr h1
        · cases h1
      · rintro (⟨h1, _⟩ | h1)
        · exact absurd hp h1
        · exact .inl ⟨.inr h1, h1.2⟩
    · rw [if_neg hp, pput_mem]
      constructor
      · rintro (h1 | h1)
        · exact .inl ⟨hp, h1⟩
        · exact .inr h1
      · rintro (⟨_, h1⟩ | h1)
        · exact .inl h1
        · exact .inr h1
  refine srt_ext ?_ (ex_srt hs _ _) fun z => ?_
  · split
    · exact leave_srt hsP _
    · exact hsP
  rw [core, List.mem_filterMap]
  constructor
  · rintro (⟨hp, rfl⟩ | ⟨hz, hne⟩)
    · refine ⟨r0, hr0, ?_⟩
      unfold exO
      rw [if_neg (hself r0 hr0), if_pos rfl, if_neg hp]
    · rcases (hM z).1 hz with ⟨h1, h2⟩ | ⟨q, h1, h2, h3, rfl⟩
      · refine ⟨z, h1, ?_⟩
        unfold exO
        rw [if_neg (fun e => h2 ((hkq h1).2 e)), if_neg hne]
      · refine ⟨q, h1, ?_⟩
        unfold exO
        rw [if_pos ((hkq h1).1 h2), if_neg (by rw [h3]; simp)]
  · rintro ⟨q, hq, hz⟩
    unfold exO at hz
    split at hz
    · rename_i hp
      split at hz
      · cases hz
      · rename_i hd
        injection hz with hz
        subst hz
        right
        refine ⟨(hM _).2 (.inr ⟨q, hq, (hkq hq).2 hp, by simpa using hd, rfl⟩), fun e => ?_⟩
        have := same hq e
        subst this
        exact hself q hq hp
    · rename_i hp
      split at hz
      · rename_i he
        have := same hq he
        subst this
        split at hz
        · cases hz
        · rename_i hpp
          injection hz with hz
          exact .inl ⟨hpp, hz.symm⟩
      · rename_i he
        injection hz with hz
        subst hz
        exact .inr ⟨(hM _).2 (.inl ⟨hq, fun e => hp ((hkq hq).1 e)⟩), he⟩
theorem exit_none {L : List PR} {k c : Int} (h : ¬ exitE L k c = 0) : exitL L k c = L := by unfold exitL; rw [if_neg h]
theorem NoSelf.exit {L : List PR} (h : NoSelf L) (hs : Srt L) (h0 : ∀ r ∈ L, 0 ≤ r.pid) (k c : Int) : NoSelf (exitL L k c) := by
  by_cases he : exitE L k c = 0
  · rw [exit_fin hs h he]
    intro z hz
    obtain ⟨q, hq, hz⟩ := List.mem_filterMap.1 hz
    have h1 := h q hq
    have h2 := h0 q hq
    unfold exO at hz
    split at hz
    · split at hz
      · cases hz
      · injection hz with hz; subst hz; show (-1 : Int) ≠ q.pid; omega
    · split at hz
      · split at hz
        · cases hz
        · injection hz with hz; subst hz; exact h1
      · injection hz with hz; subst hz; exact h1
  · rw [exit_none he]; exact h

/-- A child's end. -/
def kdB (k : Int) (r : PR) : Bool := decide (r.par = k) && r.dead
theorem childZ_find {L : List PR} (hs : Srt L) {k : Int} (hal : aliveB L k = true) : childZ L k = (L.find? (kdB k)).map PR.pid := by
  unfold childZ kidsA kids
  rw [if_pos hal, List.find?_map, List.find?_filter]
  congr 1
  have : ∀ (l : List PR), (∀ r ∈ l, pget L r.pid = some r) → l.find? (fun a => decide (decide (a.par = k) = true ∧ ((fun z => oDead (pget L z)) ∘ PR.pid) a = true)) = l.find? (kdB k) := by
    intro l
    induction l with
    | nil => intro _; rfl
    | cons r l ih =>
      intro h
      have hr := h r (by simp)
      have hb : (decide (decide (r.par = k) = true ∧ ((fun z => oDead (pget L z)) ∘ PR.pid) r = true)) = kdB k r := by
        simp only [Function.comp, hr, oDead, kdB]
        cases r.dead <;> simp
      rw [List.find?_cons, List.find?_cons, hb, ih (fun q hq => h q (by simp [hq]))]
  exact this L fun r hr => pget_of hs hr
theorem pdel_at {L : List PR} (hs : Srt L) {i : Nat} (hi : i < L.length) : pdel L L[i].pid = L.take i ++ L.drop (i + 1) := by
  have e : L = L.take i ++ L[i] :: L.drop (i + 1) := by rw [← List.drop_eq_getElem_cons hi, List.take_append_drop]
  have hs' := hs
  unfold Srt at hs'
  rw [e, List.pairwise_append] at hs'
  obtain ⟨_, h2, h3⟩ := hs'
  have h2' := (List.pairwise_cons.1 h2).1
  generalize hx : L[i] = x at *
  clear hx
  generalize L.take i = T at *
  generalize L.drop (i + 1) = D at *
  unfold pdel
  rw [e, List.filter_append, List.filter_cons_of_neg (by simp)]
  congr 1
  · rw [List.filter_eq_self]
    intro r hr
    have := h3 r hr x (by simp)
    simp; omega
  · rw [List.filter_eq_self]
    intro r hr
    have := h2' r hr
    simp; omega
theorem child_yes {L : List PR} (hs : Srt L) {k : Int} (hal : aliveB L k = true) {i : Nat} (hi : i < L.length) (hno : ∀ r ∈ L.take i, kdB k r = false) (hy : kdB k L[i] = true) :
    childR L k = (L[i].pid, L[i].code, 0) ∧ childL L k = L.take i ++ L.drop (i + 1) := by
  have hf : L.find? (kdB k) = some L[i] := by
    rw [List.find?_eq_some_iff_append]
    refine ⟨hy, L.take i, L.drop (i + 1), by rw [← List.drop_eq_getElem_cons hi, List.take_append_drop], fun a ha => by simp [hno a ha]⟩
  have hz : childZ L k = some L[i].pid := by rw [childZ_find hs hal, hf]; rfl
  unfold childR childL
  rw [hz]
  simp only [pget_of hs (List.getElem_mem hi), oCode]
  exact ⟨trivial, pdel_at hs hi⟩
theorem child_no {L : List PR} (hs : Srt L) {k : Int} (hal : aliveB L k = true) (hno : ∀ r ∈ L, kdB k r = false) :
    childR L k = (0, 0, if L.any (fun r => decide (r.par = k)) = true then 17 else 18) ∧ childL L k = L := by
  have hf : L.find? (kdB k) = none := by rw [List.find?_eq_none]; intro r hr; simp [hno r hr]
  have hz : childZ L k = none := by rw [childZ_find hs hal, hf]; rfl
  unfold childR childL
  rw [hz]
  refine ⟨?_, rfl⟩
  simp only [childE, hal, Bool.true_eq_false, if_false]
  congr 2
  have : (kidsA L k).length = 0 ↔ ¬ L.any (fun r => decide (r.par = k)) = true := by
    unfold kidsA kids
    rw [if_pos hal, List.length_map, List.length_eq_zero_iff, List.filter_eq_nil_iff]
    simp
  by_cases hq : L.any (fun r => decide (r.par = k)) = true
  · rw [if_pos hq, if_neg (fun h => this.1 h hq)]
  · rw [if_neg hq, if_pos (this.2 hq)]
theorem child_gone {L : List PR} {k : Int} (hal : aliveB L k = false) : childR L k = (0, 0, 4) ∧ childL L k = L := by
  have hz : childZ L k = none := by unfold childZ kidsA; rw [hal]; rfl
  unfold childR childL
  rw [hz]
  simp [childE, hal]
theorem NoSelf.child {L : List PR} (h : NoSelf L) (k : Int) : NoSelf (childL L k) := by
  unfold childL
  split
  · intro r hr; exact h r (pdel_mem.1 hr).1
  · exact h

end Go.Proofs.Ytdgggdhligfnpaa
