/-
  REGIONS THAT DRAW THEIR ORDER, where a fact of all slots and the world together is kept beside (mine): two structs of the call's own that are made and filled in one statement ('x, y := a[i], a[k]').
-/
import Derived.Test.YtdninhdabeddeaaAppB
import Derived.Test.YtdninhdabeddeaaArr
namespace Go.Proofs.Ytdninhdabeddeaa
open Go.RowKit

section
variable (P : Program) (ops : Array Oper) (E : Nat → Act → Value → World → World → Prop) (C : World → Prop)
/-- What is asked of an operation's run: what it does, E, and what it leaves. -/
def uponJ (E : Value → World → World → Prop) (r : Sp) (w : World) : Result Next → Prop
  | .ok (.value v) w' => E v w w' ∧ r.ok v w'
  | .ok .skip w' => E undef w w' ∧ r.ok undef w'
  | _ => False
def oblJ (i : Nat) (o : Oper) (F : Kn) (s : Act) (r : Sp) : Prop :=
  ∀ a w, C w → (∀ t ∈ o.looksAt ops, fits F s a w t) →
    if Region.wanted o (yielded ops a.tmps) = true then uponJ (E i a) r w ((execOp a.eval o).run P w) else E i a undef w w ∧ r.ok undef w
def stableJ (r : Sp) : Prop := ∀ i a v w w' u, E i a v w w' → r.ok u w → r.ok u w'
def walkJ (Q : Kn → Act → Prop) : Nat → List Oper → Kn → Act → Prop
  | _, [], F, s => Q F s
  | k, o :: rest, F, s => ∃ r : Sp, stableJ E r ∧ oblJ P ops E C k o F s r ∧ walkJ Q (k + 1) rest (r.more F o.dst) (s.put o.dst r.shown)
end

section
variable {P : Program} {ops : Array Oper} {E : Nat → Act → Value → World → World → Prop} {C : World → Prop} {md : Region.Mode}
theorem choiceJ {Q : Kn → Act → Prop} : ∀ (l : List Oper) (k : Nat) (r0 : Nat → Sp) (F0 : Kn) (s0 : Act), (∀ j, j < l.length → l[j]? = ops[k + j]?) → (∀ i, stableJ E (r0 i)) →
    (∀ i, i < k → ∀ o, ops[i]? = some o → oblJ P ops E C i o (kn ops r0 F0 i) (sh ops r0 s0 i) (r0 i)) →
    walkJ P ops E C Q k l (kn ops r0 F0 k) (sh ops r0 s0 k) →
    ∃ r : Nat → Sp, (∀ i, stableJ E (r i)) ∧ (∀ i, i < k + l.length → ∀ o, ops[i]? = some o → oblJ P ops E C i o (kn ops r F0 i) (sh ops r s0 i) (r i)) ∧
      Q (kn ops r F0 (k + l.length)) (sh ops r s0 (k + l.length))
  | [], k, r0, F0, s0, _, hs, h0, h => ⟨r0, hs, by simpa using h0, by simpa [walkJ] using h⟩
  | o :: l, k, r0, F0, s0, hl, hs, h0, h => by
    obtain ⟨r, h1, h2, h3⟩ := h
    have hk : ops[k]? = some o := by simpa using (hl 0 (by simp)).symm
    have hd : dstOf ops k = o.dst := by simp [dstOf, hk]
    have same : ∀ (i : Nat), i ≤ k → kn ops (fun j => if j = k then r else r0 j) F0 i = kn ops r0 F0 i ∧ sh ops (fun j => if j = k then r else r0 j) s0 i = sh ops r0 s0 i := by
      intro i
      induction i with
      | zero => intro _; exact ⟨rfl, rfl⟩
      | succ i ih =>
        intro hi
        obtain ⟨e1, e2⟩ := ih (by omega)
        have hne : i ≠ k := by omega
        simp only [kn, sh, e1, e2, hne, if_false]
        exact ⟨trivial, trivial⟩
    have e := choiceJ (Q := Q) l (k + 1) (fun j => if j = k then r else r0 j) F0 s0 (fun j hj => by have := hl (j + 1) (by simp; omega); simpa [Nat.add_assoc, Nat.add_comm 1 j] using this) (fun i => by
      by_cases hik : i = k
      · simpa [hik] using h1
      · simpa [hik] using hs i) (by
      intro i hi o' ho'
      by_cases hik : i = k
      · subst hik
        have : o' = o := Option.some.inj (ho'.symm.trans hk)
        subst this
        rw [(same i (Nat.le_refl _)).1, (same i (Nat.le_refl _)).2]
        simpa using h2
      · rw [(same i (by omega)).1, (same i (by omega)).2]
        simpa [hik] using h0 i (by omega) o' ho') (by
      simp only [kn, sh, (same k (Nat.le_refl _)).1, (same k (Nat.le_refl _)).2, hd]
      simpa using h3)
    obtain ⟨r', e0, e1, e2⟩ := e
    have e3 : k + 1 + l.length = k + (o :: l).length := by simp; omega
    rw [e3] at e1 e2
    exact ⟨r', e0, e1, e2⟩

theorem wpOp_of_oblJ {J : Array Bool → Act → World → Prop} {n : Nat} {r : Nat → Sp} {s0 : Act} {listed : Array Bool} {a : Act} {w : World} (hB : depB ops md = true) (hself : selfB ops = true) (hin : dstsIn ops s0.tmps.size = true)
    (hst : ∀ i, stableJ E (r i)) (hr : ∀ i, i < n → ∀ o, ops[i]? = some o → oblJ P ops E C i o (kn ops r [] i) (sh ops r s0 i) (r i))
    (hJC : ∀ listed a w, J listed a w → C w) (hJ : ∀ i oi v listed a w w', ops[i]? = some oi → i < n → listed.size = ops.size → a.tmps.size = s0.tmps.size → listed.getD i true = false → (∀ e ∈ oi.after, Region.binds md e = true → listed.getD e.on false = true) → J listed a w → E i a v w w' → J (listed.setIfInBounds i true) (a.put oi.dst v) w')
    (m : Mid ops md (fun _ => True) r s0 listed a w) (hj : J listed a w) {i : Nat} (hi : i ∈ Region.ready md ops listed) (hin' : i < n) {K : Act → World → Prop} {Q : Exit → Act → World → Prop}
    (hK : ∀ a' w', Mid ops md (fun _ => True) r s0 (listed.setIfInBounds i true) a' w' → J (listed.setIfInBounds i true) a' w' → K a' w') : wpOp P ops Q i K a w := by
  obtain ⟨hun, oi, hoi, hall⟩ := mem_ready.1 hi
  have ho := hr i hin' oi hoi a w (hJC _ _ _ hj) (fun t ht => m.fits hB hself hin hoi hi t ht)
  have next : ∀ v w', E i a v w w' → (r i).ok v w' → K (a.put oi.dst v) w' := fun v w' hE hv =>
    hK _ _ (m.step hB hin hoi hi (fun j u hu => hst j i a v w w' u hE hu) trivial hv) (hJ i oi v listed a w w' hoi hin' m.size m.tsize hun hall hj hE)
  unfold wpOp
  simp only [hoi]
  split
  · rename_i hw
    rw [if_pos hw] at ho
    left
    unfold Oper.wp
    generalize (execOp a.eval oi).run P w = res at *
    cases res with
    | ok n w' =>
      cases n <;> simp only [uponJ] at ho <;> simp only [Oper.upon]
      case value v => exact next v w' ho.1 ho.2
      case skip => exact next undef w' ho.1 ho.2
    | halt x w' => simp only [uponJ] at ho
  · rename_i hw
    rw [if_neg hw] at ho
    exact next undef w ho.1 ho.2

theorem wpAny_of_head_J {J : Array Bool → Act → World → Prop} {n : Nat} {r : Nat → Sp} {s0 : Act} (hB : depB ops md = true) (hself : selfB ops = true) (hin : dstsIn ops s0.tmps.size = true) (hnle : n ≤ ops.size)
    (hst : ∀ i, stableJ E (r i)) (hr : ∀ i, i < n → ∀ o, ops[i]? = some o → oblJ P ops E C i o (kn ops r [] i) (sh ops r s0 i) (r i))
    (hJC : ∀ listed a w, J listed a w → C w) (hJ : ∀ i oi v listed a w w', ops[i]? = some oi → i < n → listed.size = ops.size → a.tmps.size = s0.tmps.size → listed.getD i true = false → (∀ e ∈ oi.after, Region.binds md e = true → listed.getD e.on false = true) → J listed a w → E i a v w w' → J (listed.setIfInBounds i true) (a.put oi.dst v) w') {Q : Exit → Act → World → Prop} {g : Nat}
    (hhead : ∀ listed, HeadInv md ops n listed → (∃ i, i < n ∧ listed.getD i true = false) → (∀ i ∈ Region.ready md ops listed, i < n) ∧ Region.ready md ops listed ≠ [])
    (hK : ∀ listed a w, Mid ops md (fun _ => True) r s0 listed a w → J listed a w → (∀ t, n ≤ t → t < ops.size → listed.getD t true = false) → (∀ i, i < n → listed.getD i false = true) → wpAny P md ops Q g listed a w) :
    ∀ (fuel : Nat) (listed : Array Bool) (a : Act) (w : World), Mid ops md (fun _ => True) r s0 listed a w → J listed a w → (∀ t, n ≤ t → t < ops.size → listed.getD t true = false) →
      ((List.range n).filter fun i => !listed.getD i true).length = fuel → wpAny P md ops Q (fuel + g) listed a w := by
  intro fuel
  induction fuel with
  | zero =>
    intro listed a w m hj ht hf
    have h1 := List.eq_nil_of_length_eq_zero hf
    rw [Nat.zero_add]
    refine hK listed a w m hj ht fun i hi => ?_
    cases hl : listed.getD i false with
    | true => rfl
    | false =>
      have h2 : i ∈ (List.range n).filter fun i => !listed.getD i true := List.mem_filter.2 ⟨List.mem_range.2 hi, by simpa using getD_in (by rw [m.size]; omega) hl⟩
      rw [h1] at h2; cases h2
  | succ fuel ih =>
    intro listed a w m hj ht hf
    have hinv : HeadInv md ops n listed := ⟨m.size, m.closed, ht⟩
    have hex : ∃ i, i < n ∧ listed.getD i true = false := by
      have h1 : (List.range n).filter (fun i => !listed.getD i true) ≠ [] := fun h => by rw [h] at hf; cases hf
      obtain ⟨i, hi⟩ := List.exists_mem_of_ne_nil _ h1
      obtain ⟨h2, h3⟩ := List.mem_filter.1 hi
      exact ⟨i, List.mem_range.1 h2, by simpa using h3⟩
    obtain ⟨h1, h2⟩ := hhead listed hinv hex
    rw [show fuel + 1 + g = (fuel + g) + 1 by omega]
    refine ⟨fun h0 => absurd h0 h2, fun i hi => ?_⟩
    have hilt := h1 i hi
    obtain ⟨hun, o, ho, _⟩ := mem_ready.1 hi
    refine wpOp_of_oblJ hB hself hin hst hr hJC hJ m hj hi hilt fun a' w' m' hj' => ?_
    have hf' : ((List.range n).filter fun j => !(listed.setIfInBounds i true).getD j true).length = fuel := by
      have hle := unlisted_lt (n := n) hilt (by rw [m.size]; omega) hun
      have key : ∀ (l : List Nat), l.Nodup → (l.filter fun j => !listed.getD j true).length ≤ (l.filter fun j => !(listed.setIfInBounds i true).getD j true).length + 1 := by
        intro l hnd
        clear ih hf hle
        induction l with
        | nil => simp
        | cons y l ihl =>
          have hnd' := List.nodup_cons.1 hnd
          by_cases hy : i = y
          · subst hy
            have heq : (l.filter fun j => !listed.getD j true) = (l.filter fun j => !(listed.setIfInBounds i true).getD j true) := by
              refine List.filter_congr fun x hx => ?_
              have : i ≠ x := fun e => hnd'.1 (by rw [e]; exact hx)
              rw [getD_set_ne true this]
            rw [List.filter_cons_of_pos (by simp [hun])]
            have hs : i < listed.size := by rw [m.size]; omega
            rw [List.filter_cons_of_neg (by simp [hs]), List.length_cons, heq]
            omega
          · have h4 := ihl hnd'.2
            by_cases hz : listed.getD y true = true
            · rw [List.filter_cons_of_neg (by rw [hz]; decide), List.filter_cons_of_neg (by rw [getD_set_ne true hy, hz]; decide)]; exact h4
            · have hz' : listed.getD y true = false := by simpa using hz
              rw [List.filter_cons_of_pos (by rw [hz']; rfl), List.filter_cons_of_pos (by rw [getD_set_ne true hy, hz']; rfl)]
              simp only [List.length_cons]; omega
      have := key _ (List.nodup_range (n := n))
      omega
    exact ih _ a' w' m' hj' (fun t h3 h4 => by rw [getD_set_ne true (by omega)]; exact ht t h3 h4) hf'

/-- A region whose last operations come in the text's order, behind all others; J is kept beside. -/
theorem wp_region_J_tail {J : Array Bool → Act → World → Prop} {id k : Nat} (n : Nat) {Q : Exit → Act → World → Prop} {a : Act} {w : World} {l : List Oper} (hm : P.follows .mixedOrders = true)
    (hB : (depB l.toArray .any && selfB l.toArray && dstsIn l.toArray k && Region.sinkB .any l.toArray n && Region.chainB .any l.toArray n && decide (n < l.length) && Region.seqB .any l.toArray (l.drop n).length n (headArr n l.toArray.size)) = true)
    (hn : a.tmps.size = k) (hj : J (Array.replicate l.toArray.size false) a w.drew)
    (hJC : ∀ listed a w, J listed a w → C w) (hJ : ∀ i oi v listed a' w w', l.toArray[i]? = some oi → i < n → listed.size = l.toArray.size → a'.tmps.size = a.tmps.size → listed.getD i true = false → (∀ e ∈ oi.after, Region.binds .any e = true → listed.getD e.on false = true) → J listed a' w → E i a' v w w' → J (listed.setIfInBounds i true) (a'.put oi.dst v) w')
    (h : walkJ P l.toArray E C (fun F s => ∀ a' w', J (headArr n l.toArray.size) a' w' → AtEnd F s a' w' → wpList P l.toArray Q (l.drop n) a' w') 0 (l.take n) [] a) (hs0 : stableJ E (.det undef)) : (Code.region id l.toArray true).wp P Q a w := by
  subst hn
  simp only [Bool.and_eq_true, decide_eq_true_eq] at hB
  obtain ⟨⟨⟨⟨⟨⟨hB, hself⟩, hin⟩, hsink⟩, hchain⟩, hnl⟩, hseq⟩ := hB
  have hz : l.toArray.size = l.length := by simp
  have htl : (l.take n).length = n := by simp; omega
  obtain ⟨r, h0, h1, h2⟩ := choiceJ (ops := l.toArray) (l.take n) 0 (fun _ => .det undef) [] a (fun j hj => by
    have hj' : j < n := by rw [htl] at hj; exact hj
    simp [hj']) (fun _ => hs0) (by omega) h
  rw [Nat.zero_add, htl] at h1 h2
  refine wp_region_any hm ?_
  have H := wpAny_of_head_J (md := .any) (n := n) (g := (l.drop n).length) (Q := Q) hB hself hin (by omega) h0 (fun i hi => h1 i (by omega)) hJC hJ (fun listed hi hex => ⟨fun j hj => by
      obtain ⟨i, hil, hun⟩ := hex
      rcases Nat.lt_or_ge j n with h3 | h3
      · exact h3
      · exact absurd hj (tail_waits hsink hchain (by omega) hi _ i rfl hil hun j h3), ready_exists hB hi (by omega) hex⟩)
    (fun listed a' w' m hj' ht hall => by
      have he : listed = headArr n l.toArray.size := by
        have := headArr_eq (n := n) (listed := listed) hall (fun t h3 h4 => ht t h3 (by rw [← m.size]; exact h4))
        rwa [m.size] at this
      refine wpAny_of_seq (md := .any) (Q' := Q) (l.drop n) n listed a' w' (fun j => by simp [List.getElem?_drop]) (by rw [he]; exact hseq) (h2 a' w' (he ▸ hj') (m.end_ hB hin hall ht)))
    n (Array.replicate l.toArray.size false) a w.drew (mid_start trivial) hj (fun t h3 h4 => getD_in (by simpa using h4) (getD_replicate_false _ _)) (count_start _ _ (by omega))
  have e : n + (l.drop n).length = l.toArray.size := by simp; omega
  rw [e] at H
  exact H
end

end Go.Proofs.Ytdninhdabeddeaa
