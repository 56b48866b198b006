/-
  REGIONS THAT DRAW THEIR ORDER, mine: each operation is shown once, in the order of the text, out of what it looks at alone; every order is served.
-/
import Derived.Test.YtfdpipjkckbgdaaOwn
import Derived.Orders
import Derived.StillTail
namespace Go.Proofs.Ytfdpipjkckbgdaa
open Go.RowKit

/-- What an operation leaves in its slot: this very value, or one of which this holds (in the world as it is then, and later). -/
inductive Sp where
  | det (v : Value)
  | var (V : Value → World → Prop)
def Sp.ok : Sp → Value → World → Prop
  | .det c, v, _ => v = c
  | .var V, v, w => V v w
def Sp.shown : Sp → Value
  | .det c => c
  | .var _ => undef
abbrev Kn := List (Tmp × (Value → World → Prop))
def Sp.more (F : Kn) : Option Tmp → Sp → Kn
  | some d, .var V => (d, V) :: F
  | _, _ => F

section
variable (P : Program) (ops : Array Oper) (S : World → World → Prop) (C : World → Prop)
/-- What is asked of an operation's run. -/
def depUpon (r : Sp) (w : World) : Result Next → Prop
  | .ok (.value v) w' => S w w' ∧ C w' ∧ r.ok v w'
  | .ok .skip w' => S w w' ∧ C w' ∧ r.ok undef w'
  | .ok (.enter f args) w' => Calls P f args w' fun e w'' => ∃ v, e = .returned v ∧ S w w'' ∧ C w'' ∧ r.ok v w''
  | _ => False
/-- The state a fits what is known, as far as slot t goes. -/
def fits (F : Kn) (s a : Act) (w : World) (t : Tmp) : Prop :=
  (∃ V v, (t, V) ∈ F ∧ a.tmps[t]? = some v ∧ V v w) ∨ ((∀ V, (t, V) ∉ F) ∧ a.tmps[t]? = s.tmps[t]?)
def obl (o : Oper) (F : Kn) (s : Act) (r : Sp) : Prop :=
  ∀ a w, C w → (∀ t ∈ o.looksAt ops, fits F s a w t) →
    if Region.wanted o (yielded ops a.tmps) = true then depUpon P S C r w ((execOp a.eval o).run P w) else r.ok undef w
def Sp.stable (r : Sp) : Prop := ∀ v w w', S w w' → r.ok v w → r.ok v w'
def depWalk (Q : Kn → Act → Prop) : List Oper → Kn → Act → Prop
  | [], F, s => Q F s
  | o :: rest, F, s => ∃ r : Sp, r.stable S ∧ obl P ops S C o F s r ∧ depWalk Q rest (r.more F o.dst) (s.put o.dst r.shown)

/-- The text's order keeps the edges, no two operations write one slot, and who writes what another one looks at waits for it or is waited for. -/
def depB (md : Region.Mode) : Bool :=
  Region.noSelect ops && (List.range ops.size).all fun i =>
    match ops[i]? with
    | none => false
    | some oi => (oi.after.all fun e => !Region.binds md e || decide (e.on < i)) &&
      (List.range ops.size).all fun j => match ops[j]? with
        | none => false
        | some oj => i == j || ((match oi.dst with | some d => oj.dst != some d | none => true) &&
            (match oj.dst with
             | some d => !(oi.looksAt ops).contains d || (decide (j < i) && Region.waitsFor md ops i j) || (decide (i < j) && Region.waitsFor md ops j i)
             | none => true))
def dstOf (i : Nat) : Option Tmp := (ops[i]?).bind (·.dst)
def selfB : Bool := ops.all fun o => match o.dst with | some d => !(o.looksAt ops).contains d | none => true
def dstsIn (n : Nat) : Bool := ops.all fun o => match o.dst with | some d => decide (d < n) | none => true
end

section
variable {P : Program} {ops : Array Oper} {S : World → World → Prop} {C : World → Prop} {md : Region.Mode}

/-- The known and the shown state behind the first k operations, for a choice of what each leaves. -/
def kn (ops : Array Oper) (r : Nat → Sp) (F0 : Kn) : Nat → Kn
  | 0 => F0
  | k + 1 => (r k).more (kn ops r F0 k) (dstOf ops k)
def sh (ops : Array Oper) (r : Nat → Sp) (s0 : Act) : Nat → Act
  | 0 => s0
  | k + 1 => (sh ops r s0 k).put (dstOf ops k) (r k).shown

theorem dep_choice {Q : Kn → Act → Prop} : ∀ (l : List Oper) (k : Nat) (r0 : Nat → Sp) (F0 : Kn) (s0 : Act), (∀ j, j < l.length → l[j]? = ops[k + j]?) → (∀ i, (r0 i).stable S) →
    (∀ i, i < k → ∀ o, ops[i]? = some o → obl P ops S C o (kn ops r0 F0 i) (sh ops r0 s0 i) (r0 i)) →
    depWalk P ops S C Q l (kn ops r0 F0 k) (sh ops r0 s0 k) →
    ∃ r : Nat → Sp, (∀ i, (r i).stable S) ∧ (∀ i, i < k + l.length → ∀ o, ops[i]? = some o → obl P ops S C o (kn ops r F0 i) (sh ops r s0 i) (r i)) ∧
      Q (kn ops r F0 (k + l.length)) (sh ops r s0 (k + l.length))
  | [], k, r0, F0, s0, _, hs, h0, h => ⟨r0, hs, by simpa using h0, by simpa [depWalk] using h⟩
  | o :: l, k, r0, F0, s0, hl, hs, h0, h => by
    obtain ⟨r, h1, h2, h3⟩ := h
    have hk : ops[k]? = some o := by simpa using (hl 0 (by simp)).symm
    have hd : dstOf ops k = o.dst := by simp [dstOf, hk]
    have same : ∀ (i : Nat), i ≤ k → kn ops (fun j => if j = k then r else r0 j) F0 i = kn ops r0 F0 i ∧ sh ops (fun j => if j = k then r else r0 j) s0 i = sh ops r0 s0 i := by
      intro i
      induction i with
      | zero => intro _; exact ⟨rfl, rfl⟩
      | succ i ih =>
        intro hi
        obtain ⟨e1, e2⟩ := ih (by omega)
        have hne : i ≠ k := by omega
        simp only [kn, sh, e1, e2, hne, if_false]
        exact ⟨trivial, trivial⟩
    have e := dep_choice (Q := Q) l (k + 1) (fun j => if j = k then r else r0 j) F0 s0 (fun j hj => by have := hl (j + 1) (by simp; omega); simpa [Nat.add_assoc, Nat.add_comm 1 j] using this) (fun i => by
      by_cases hik : i = k
      · simpa [hik] using h1
      · simpa [hik] using hs i) (by
      intro i hi o' ho'
      by_cases hik : i = k
      · subst hik
        have : o' = o := Option.some.inj (ho'.symm.trans hk)
        subst this
        rw [(same i (Nat.le_refl _)).1, (same i (Nat.le_refl _)).2]
        simpa using h2
      · rw [(same i (by omega)).1, (same i (by omega)).2]
        simpa [hik] using h0 i (by omega) o' ho') (by
      simp only [kn, sh, (same k (Nat.le_refl _)).1, (same k (Nat.le_refl _)).2, hd]
      simpa using h3)
    obtain ⟨r', e0, e1, e2⟩ := e
    have e3 : k + 1 + l.length = k + (o :: l).length := by simp; omega
    rw [e3] at e1 e2
    exact ⟨r', e0, e1, e2⟩

theorem depB_spec (h : depB ops md = true) {i : Nat} {oi : Oper} (hi : ops[i]? = some oi) :
    (∀ e ∈ oi.after, Region.binds md e = true → e.on < i) ∧
    ∀ j oj, ops[j]? = some oj → i ≠ j → (∀ d, oi.dst = some d → oj.dst ≠ some d) ∧
      ∀ d, oj.dst = some d → d ∈ oi.looksAt ops → (j < i ∧ Region.waitsFor md ops i j = true) ∨ (i < j ∧ Region.waitsFor md ops j i = true) := by
  simp only [depB, Bool.and_eq_true, List.all_eq_true, List.mem_range] at h
  have h1 := h.2 i (Array.getElem?_eq_some_iff.1 hi).1
  simp only [hi, Bool.and_eq_true, List.all_eq_true, List.mem_range] at h1
  refine ⟨fun e he hb => ?_, fun j oj hj hne => ?_⟩
  · have := Array.all_eq_true_iff_forall_mem.1 h1.1 e he
    simp [hb] at this
    exact this
  · have h2 := h1.2 j (Array.getElem?_eq_some_iff.1 hj).1
    simp only [hj, Bool.or_eq_true, beq_iff_eq, hne, false_or, Bool.and_eq_true] at h2
    refine ⟨fun d hd => ?_, fun d hd hm => ?_⟩
    · have := h2.1
      simp only [hd] at this
      simpa using this
    · have := h2.2
      simp only [hd, Bool.or_eq_true, Bool.and_eq_true, decide_eq_true_eq] at this
      rcases this with (h3 | h3) | h3
      · simp [hm] at h3
      · exact .inl h3
      · exact .inr h3

theorem more_mem {F : Kn} {r : Sp} {x : Option Tmp} {t : Tmp} {V : Value → World → Prop} : (t, V) ∈ r.more F x ↔ (x = some t ∧ r = .var V) ∨ (t, V) ∈ F := by
  cases x <;> cases r <;> simp [Sp.more]
  rename_i d U
  constructor
  · rintro (⟨rfl, rfl⟩ | h)
    · exact .inl ⟨rfl, rfl⟩
    · exact .inr h
  · rintro (⟨rfl, rfl⟩ | h)
    · exact .inl ⟨rfl, rfl⟩
    · exact .inr h
theorem kn_mem {r : Nat → Sp} {t : Tmp} {V : Value → World → Prop} : ∀ {k : Nat}, (t, V) ∈ kn ops r [] k ↔ ∃ i, i < k ∧ dstOf ops i = some t ∧ r i = .var V
  | 0 => by simp [kn]
  | k + 1 => by
    simp only [kn, more_mem, kn_mem (k := k)]
    constructor
    · rintro (⟨h1, h2⟩ | ⟨i, h1, h2, h3⟩)
      · exact ⟨k, by omega, h1, h2⟩
      · exact ⟨i, by omega, h2, h3⟩
    · rintro ⟨i, h1, h2, h3⟩
      by_cases hik : i = k
      · subst hik; exact .inl ⟨h2, h3⟩
      · exact .inr ⟨i, by omega, h2, h3⟩

theorem put_size (a : Act) (x : Option Tmp) (v : Value) : (a.put x v).tmps.size = a.tmps.size := by cases x <;> simp [Act.put]
theorem put_same (a : Act) (d : Tmp) (v : Value) (h : d < a.tmps.size) : (a.put (some d) v).tmps[d]? = some v := by simp [Act.put, h]
theorem put_other (a : Act) (x : Option Tmp) (v : Value) (t : Tmp) (h : x ≠ some t) : (a.put x v).tmps[t]? = a.tmps[t]? := by
  cases x with
  | none => rfl
  | some d =>
    have : d ≠ t := fun e => h (by rw [e])
    simp [Act.put, Array.getElem?_setIfInBounds_ne this]
theorem sh_size {r : Nat → Sp} {s0 : Act} : ∀ {k : Nat}, (sh ops r s0 k).tmps.size = s0.tmps.size
  | 0 => rfl
  | k + 1 => by rw [sh, put_size, sh_size]
theorem sh_other {r : Nat → Sp} {s0 : Act} {t : Tmp} : ∀ {k : Nat}, (∀ i, i < k → dstOf ops i ≠ some t) → (sh ops r s0 k).tmps[t]? = s0.tmps[t]?
  | 0, _ => rfl
  | k + 1, h => by rw [sh, put_other _ _ _ _ (h k (by omega)), sh_other (fun i hi => h i (by omega))]
theorem sh_at {r : Nat → Sp} {s0 : Act} {t : Tmp} {i : Nat} (hd : dstOf ops i = some t) (hin : t < s0.tmps.size) : ∀ {k : Nat}, i < k → (∀ j, i < j → j < k → dstOf ops j ≠ some t) → (sh ops r s0 k).tmps[t]? = some (r i).shown
  | 0, h, _ => by omega
  | k + 1, h, hno => by
    by_cases hik : i = k
    · subst hik
      rw [sh, hd, put_same _ _ _ (by rw [sh_size]; exact hin)]
    · rw [sh, put_other _ _ _ _ (hno k (by omega) (by omega)), sh_at hd hin (by omega) (fun j h1 h2 => hno j h1 (by omega))]

/-- The state in the midst of a region. -/
structure Mid (ops : Array Oper) (md : Region.Mode) (C : World → Prop) (r : Nat → Sp) (s0 : Act) (listed : Array Bool) (a : Act) (w : World) : Prop where
  size : listed.size = ops.size
  closed : ∀ j oj, ops[j]? = some oj → listed.getD j false = true → ∀ e ∈ oj.after, Region.binds md e = true → listed.getD e.on false = true
  world : C w
  tsize : a.tmps.size = s0.tmps.size
  defers : a.defers = s0.defers
  done : ∀ i d, dstOf ops i = some d → listed.getD i false = true → ∃ v, a.tmps[d]? = some v ∧ (r i).ok v w
  rest : ∀ t, (∀ i, dstOf ops i = some t → listed.getD i false = false) → a.tmps[t]? = s0.tmps[t]?

theorem dstOf_eq {i : Nat} {o : Oper} (h : ops[i]? = some o) : dstOf ops i = o.dst := by simp [dstOf, h]
theorem dstOf_some {i : Nat} {d : Tmp} (h : dstOf ops i = some d) : ∃ o, ops[i]? = some o ∧ o.dst = some d := by
  unfold dstOf at h
  cases ho : ops[i]? with
  | none => simp [ho] at h
  | some o => exact ⟨o, rfl, by simpa [ho] using h⟩
theorem dst_inj (hB : depB ops md = true) {i j : Nat} {d : Tmp} (hi : dstOf ops i = some d) (hj : dstOf ops j = some d) : i = j := by
  obtain ⟨oi, h1, h2⟩ := dstOf_some hi
  obtain ⟨oj, h3, h4⟩ := dstOf_some hj
  by_cases h : i = j
  · exact h
  · exact absurd h4 ((depB_spec hB h1).2 j oj h3 h |>.1 d h2)
theorem getD_false_of {listed : Array Bool} {i : Nat} (h : listed.getD i true = false) : listed.getD i false = false := getD_both h

theorem Mid.fits {r : Nat → Sp} {s0 : Act} {listed : Array Bool} {a : Act} {w : World} (hB : depB ops md = true) (hself : selfB ops = true) (hin : dstsIn ops s0.tmps.size = true) (m : Mid ops md C r s0 listed a w)
    {i : Nat} {oi : Oper} (hi : ops[i]? = some oi) (hr : i ∈ Region.ready md ops listed) (t : Tmp) (ht : t ∈ oi.looksAt ops) : fits (kn ops r [] i) (sh ops r s0 i) a w t := by
  obtain ⟨hun, oi', hoi', hall⟩ := mem_ready.1 hr
  have : oi' = oi := Option.some.inj (hoi'.symm.trans hi)
  subst this
  by_cases hw : ∃ j, dstOf ops j = some t
  · obtain ⟨j, hj⟩ := hw
    obtain ⟨oj, hoj, hdj⟩ := dstOf_some hj
    have hji : j ≠ i := by
      rintro rfl
      have : oj = oi' := Option.some.inj (hoj.symm.trans hi)
      subst this
      have h1 := Array.all_eq_true_iff_forall_mem.1 hself oj (Array.mem_of_getElem? hoj)
      simp [hdj, ht] at h1
    have hjn : t < s0.tmps.size := by
      have h1 := Array.all_eq_true_iff_forall_mem.1 hin oj (Array.mem_of_getElem? hoj)
      simpa [hdj] using h1
    rcases (depB_spec hB hi).2 j oj hoj (Ne.symm hji) |>.2 t hdj ht with ⟨h1, h2⟩ | ⟨h1, h2⟩
    · obtain ⟨o', ho', e, he, hb, hon⟩ := Region.waitsFor_spec h2
      have : o' = oi' := Option.some.inj (ho'.symm.trans hi)
      subst this
      have hl := hall e he hb
      rw [hon] at hl
      obtain ⟨v, hv, hok⟩ := m.done j t hj hl
      cases hrj : r j with
      | det c =>
        right
        refine ⟨fun V hV => ?_, ?_⟩
        · obtain ⟨j', _, h4, h5⟩ := kn_mem.1 hV
          have := dst_inj hB h4 hj
          subst this
          rw [hrj] at h5; cases h5
        · rw [sh_at hj hjn h1 (fun j' _ _ h4 => by have := dst_inj hB h4 hj; omega), hv, hrj]
          rw [hrj] at hok
          exact congrArg some hok
      | var V =>
        left
        refine ⟨V, v, kn_mem.2 ⟨j, h1, hj, hrj⟩, hv, ?_⟩
        rw [hrj] at hok; exact hok
    · right
      refine ⟨fun V hV => ?_, ?_⟩
      · obtain ⟨j', h3, h4, _⟩ := kn_mem.1 hV
        have := dst_inj hB h4 hj
        omega
      · obtain ⟨o', ho', e, he, hb, hon⟩ := Region.waitsFor_spec h2
        have hno : listed.getD j false = false := by
          cases hl : listed.getD j false with
          | false => rfl
          | true =>
            have h5 := m.closed j o' ho' hl e he hb
            rw [hon, getD_both hun] at h5
            cases h5
        rw [m.rest t (fun j' hj' => by have := dst_inj hB hj' hj; subst this; exact hno), sh_other (fun j' h3 h4 => by have := dst_inj hB h4 hj; omega)]
  · right
    refine ⟨fun V hV => ?_, ?_⟩
    · obtain ⟨j', _, h4, _⟩ := kn_mem.1 hV
      exact hw ⟨j', h4⟩
    · rw [m.rest t (fun j' hj' => absurd ⟨j', hj'⟩ hw), sh_other (fun j' _ h4 => hw ⟨j', h4⟩)]

theorem Mid.step {r : Nat → Sp} {s0 : Act} {listed : Array Bool} {a : Act} {w w' : World} {v : Value} (hB : depB ops md = true) (hin : dstsIn ops s0.tmps.size = true) (m : Mid ops md C r s0 listed a w)
    {i : Nat} {oi : Oper} (hi : ops[i]? = some oi) (hr : i ∈ Region.ready md ops listed) (hst : ∀ j u, (r j).ok u w → (r j).ok u w') (hC : C w') (hv : (r i).ok v w') :
    Mid ops md C r s0 (listed.setIfInBounds i true) (a.put oi.dst v) w' := by
  obtain ⟨hun, oi', hoi', hall⟩ := mem_ready.1 hr
  have : oi' = oi := Option.some.inj (hoi'.symm.trans hi)
  subst this
  have hilt : i < ops.size := (Array.getElem?_eq_some_iff.1 hi).1
  refine ⟨by simp [m.size], fun j oj hj hl e he hb => ?_, hC, by rw [put_size, m.tsize], by rw [← m.defers]; cases oi'.dst <;> rfl, fun j d hd hl => ?_, fun t ht => ?_⟩
  · by_cases hij : i = j
    · subst hij
      have : oj = oi' := Option.some.inj (hj.symm.trans hi)
      subst this
      exact getD_set_true (hall e he hb)
    · rw [getD_set_ne false hij] at hl
      exact getD_set_true (m.closed j oj hj hl e he hb)
  · by_cases hij : i = j
    · subst hij
      have hd' : oi'.dst = some d := by rw [← dstOf_eq hi]; exact hd
      have hdn : d < a.tmps.size := by
        have h1 := Array.all_eq_true_iff_forall_mem.1 hin oi' (Array.mem_of_getElem? hi)
        rw [m.tsize]
        simpa [hd'] using h1
      exact ⟨v, by rw [hd', put_same _ _ _ hdn], hv⟩
    · rw [getD_set_ne false hij] at hl
      obtain ⟨u, hu, hok⟩ := m.done j d hd hl
      refine ⟨u, ?_, hst j u hok⟩
      rw [put_other _ _ _ _ (fun h => hij (dst_inj hB (by rw [dstOf_eq hi]; exact h) hd))]
      exact hu
  · have h1 : oi'.dst ≠ some t := fun h => by
      have h2 := ht i (by rw [dstOf_eq hi]; exact h)
      have h3 : i < listed.size := by rw [m.size]; exact hilt
      simp [h3] at h2
    rw [put_other _ _ _ _ h1]
    refine m.rest t fun j hj => ?_
    have h2 := ht j hj
    by_cases hij : i = j
    · subst hij; exact getD_both hun
    · rwa [getD_set_ne false hij] at h2

theorem Mid.all {r : Nat → Sp} {s0 : Act} {listed : Array Bool} {a : Act} {w : World} (hB : depB ops md = true) (m : Mid ops md C r s0 listed a w) (h0 : Region.ready md ops listed = []) :
    ∀ (i : Nat), i < ops.size → listed.getD i false = true := by
  intro i
  induction i using Nat.strongRecOn with
  | _ i ih =>
    intro hi
    cases hl : listed.getD i false with
    | true => rfl
    | false =>
      have hr : i ∈ Region.ready md ops listed := mem_ready.2 ⟨getD_in (by rw [m.size]; exact hi) hl, ops[i], Array.getElem?_eq_getElem hi, fun e he hb => by
        have h1 := (depB_spec hB (Array.getElem?_eq_getElem hi)).1 e he hb
        exact ih e.on h1 (by omega)⟩
      rw [h0] at hr; cases hr

/-- The end of a region: the state a is the shown one but for the slots that are known in words alone. -/
def AtEnd (F : Kn) (s a : Act) (w : World) : Prop := a.tmps.size = s.tmps.size ∧ a.defers = s.defers ∧ ∀ t, fits F s a w t

theorem sh_defers {r : Nat → Sp} {s0 : Act} : ∀ {k : Nat}, (sh ops r s0 k).defers = s0.defers
  | 0 => rfl
  | k + 1 => by
    rw [sh]
    cases dstOf ops k <;> exact sh_defers (k := k)

theorem Mid.end_ {n : Nat} {r : Nat → Sp} {s0 : Act} {listed : Array Bool} {a : Act} {w : World} (hB : depB ops md = true) (hin : dstsIn ops s0.tmps.size = true) (m : Mid ops md C r s0 listed a w)
    (h : ∀ (i : Nat), i < n → listed.getD i false = true) (ht : ∀ t, n ≤ t → t < ops.size → listed.getD t true = false) : AtEnd (kn ops r [] n) (sh ops r s0 n) a w := by
  refine ⟨by rw [m.tsize, sh_size], by rw [m.defers, sh_defers], fun t => ?_⟩
  by_cases hw : ∃ j, j < n ∧ dstOf ops j = some t
  · obtain ⟨j, hjlt, hj⟩ := hw
    obtain ⟨oj, hoj, hdj⟩ := dstOf_some hj
    have hjn : t < s0.tmps.size := by
      have h1 := Array.all_eq_true_iff_forall_mem.1 hin oj (Array.mem_of_getElem? hoj)
      simpa [hdj] using h1
    obtain ⟨v, hv, hok⟩ := m.done j t hj (h j hjlt)
    cases hrj : r j with
    | det c =>
      right
      refine ⟨fun V hV => ?_, ?_⟩
      · obtain ⟨j', _, h4, h5⟩ := kn_mem.1 hV
        have := dst_inj hB h4 hj
        subst this
        rw [hrj] at h5; cases h5
      · rw [sh_at hj hjn hjlt (fun j' _ _ h4 => by have := dst_inj hB h4 hj; omega), hv, hrj]
        rw [hrj] at hok
        exact congrArg some hok
    | var V =>
      left
      refine ⟨V, v, kn_mem.2 ⟨j, hjlt, hj, hrj⟩, hv, ?_⟩
      rw [hrj] at hok; exact hok
  · right
    refine ⟨fun V hV => ?_, ?_⟩
    · obtain ⟨j', h3, h4, _⟩ := kn_mem.1 hV
      exact hw ⟨j', h3, h4⟩
    · rw [m.rest t (fun j' hj' => by
        rcases Nat.lt_or_ge j' n with h3 | h3
        · exact absurd ⟨j', h3, hj'⟩ hw
        · obtain ⟨oj, hoj, _⟩ := dstOf_some hj'
          exact getD_both (ht j' h3 (Array.getElem?_eq_some_iff.1 hoj).1)), sh_other (fun j' h3 h4 => hw ⟨j', h3, h4⟩)]

theorem wpOp_of_obl {n : Nat} {r : Nat → Sp} {s0 : Act} {listed : Array Bool} {a : Act} {w : World} (hB : depB ops md = true) (hself : selfB ops = true) (hin : dstsIn ops s0.tmps.size = true)
    (hst : ∀ i, (r i).stable S) (hr : ∀ i, i < n → ∀ o, ops[i]? = some o → obl P ops S C o (kn ops r [] i) (sh ops r s0 i) (r i)) (hrefl : ∀ w, S w w)
    (m : Mid ops md C r s0 listed a w) {i : Nat} (hi : i ∈ Region.ready md ops listed) (hin' : i < n) {K : Act → World → Prop} {Q : Exit → Act → World → Prop}
    (hK : ∀ a' w', Mid ops md C r s0 (listed.setIfInBounds i true) a' w' → K a' w') : wpOp P ops Q i K a w := by
  obtain ⟨hun, oi, hoi, hall⟩ := mem_ready.1 hi
  have ho := hr i hin' oi hoi a w m.world (fun t ht => m.fits hB hself hin hoi hi t ht)
  have next : ∀ v w', S w w' → C w' → (r i).ok v w' → K (a.put oi.dst v) w' := fun v w' hS hC hv =>
    hK _ _ (m.step hB hin hoi hi (fun j u hu => hst j u w w' hS hu) hC hv)
  unfold wpOp
  simp only [hoi]
  split
  · rename_i hw
    rw [if_pos hw] at ho
    left
    unfold Oper.wp
    generalize (execOp a.eval oi).run P w = res at *
    cases res with
    | ok n w' =>
      cases n <;> simp only [depUpon] at ho <;> simp only [Oper.upon]
      case value v => exact next v w' ho.1 ho.2.1 ho.2.2
      case skip => exact next undef w' ho.1 ho.2.1 ho.2.2
      case enter f args => exact ho.mono fun e w'' ⟨v, he, hS, hC, hv⟩ => by subst he; exact next v w'' hS hC hv
    | halt x w' => simp only [depUpon] at ho
  · rename_i hw
    rw [if_neg hw] at ho
    exact next undef w (hrefl w) m.world ho

theorem filter_lt {α : Type} (p q : α → Bool) : ∀ (l : List α), (∀ x ∈ l, q x = true → p x = true) → ∀ x, x ∈ l → p x = true → q x = false → (l.filter q).length < (l.filter p).length
  | [], _, x, hx, _, _ => by cases hx
  | y :: l, h, x, hx, hp, hq => by
    have hle : (l.filter q).length ≤ (l.filter p).length := by
      clear hx hp hq
      induction l with
      | nil => simp
      | cons z l ih =>
        have h1 := h z (by simp)
        have h2 := ih (fun a ha => h a (by
          rcases List.mem_cons.1 ha with rfl | ha
          · simp
          · simp [ha]))
        by_cases hz : q z = true
        · rw [List.filter_cons_of_pos hz, List.filter_cons_of_pos (h1 hz)]; simpa using h2
        · rw [List.filter_cons_of_neg hz]
          by_cases hz' : p z = true
          · rw [List.filter_cons_of_pos hz']; simp; omega
          · rw [List.filter_cons_of_neg hz']; exact h2
    rcases List.mem_cons.1 hx with rfl | hx
    · rw [List.filter_cons_of_neg (by simp [hq]), List.filter_cons_of_pos hp]; simp; omega
    · have h3 := filter_lt p q l (fun a ha => h a (by simp [ha])) x hx hp hq
      have h1 := h y (by simp)
      by_cases hz : q y = true
      · rw [List.filter_cons_of_pos hz, List.filter_cons_of_pos (h1 hz)]; simp; omega
      · rw [List.filter_cons_of_neg hz]
        by_cases hz' : p y = true
        · rw [List.filter_cons_of_pos hz']; simp; omega
        · rw [List.filter_cons_of_neg hz']; exact h3

theorem unlisted_lt {n : Nat} {listed : Array Bool} {i : Nat} (hi : i < n) (hs : i < listed.size) (hun : listed.getD i true = false) :
    ((List.range n).filter fun j => !(listed.setIfInBounds i true).getD j true).length < ((List.range n).filter fun j => !listed.getD j true).length := by
  refine filter_lt _ _ _ (fun x _ hx => ?_) i (List.mem_range.2 hi) (by simp [hun]) (by simp [hs])
  by_cases hxi : i = x
  · subst hxi; simp [hun]
  · rw [getD_set_ne true hxi] at hx; exact hx

/-- Whatever order: the head's operations (those below n) by what is asked of each, then K. -/
theorem wpAny_of_head_dep {n : Nat} {r : Nat → Sp} {s0 : Act} (hB : depB ops md = true) (hself : selfB ops = true) (hin : dstsIn ops s0.tmps.size = true) (hnle : n ≤ ops.size)
    (hst : ∀ i, (r i).stable S) (hr : ∀ i, i < n → ∀ o, ops[i]? = some o → obl P ops S C o (kn ops r [] i) (sh ops r s0 i) (r i)) (hrefl : ∀ w, S w w) {Q : Exit → Act → World → Prop} {g : Nat}
    (hhead : ∀ listed, HeadInv md ops n listed → (∃ i, i < n ∧ listed.getD i true = false) → (∀ i ∈ Region.ready md ops listed, i < n) ∧ Region.ready md ops listed ≠ [])
    (hK : ∀ listed a w, Mid ops md C r s0 listed a w → (∀ t, n ≤ t → t < ops.size → listed.getD t true = false) → (∀ i, i < n → listed.getD i false = true) → wpAny P md ops Q g listed a w) :
    ∀ (fuel : Nat) (listed : Array Bool) (a : Act) (w : World), Mid ops md C r s0 listed a w → (∀ t, n ≤ t → t < ops.size → listed.getD t true = false) →
      ((List.range n).filter fun i => !listed.getD i true).length = fuel → wpAny P md ops Q (fuel + g) listed a w := by
  intro fuel
  induction fuel with
  | zero =>
    intro listed a w m ht hf
    have h1 := List.eq_nil_of_length_eq_zero hf
    rw [Nat.zero_add]
    refine hK listed a w m ht fun i hi => ?_
    cases hl : listed.getD i false with
    | true => rfl
    | false =>
      have h2 : i ∈ (List.range n).filter fun i => !listed.getD i true := List.mem_filter.2 ⟨List.mem_range.2 hi, by simpa using getD_in (by rw [m.size]; omega) hl⟩
      rw [h1] at h2; cases h2
  | succ fuel ih =>
    intro listed a w m ht hf
    have hinv : HeadInv md ops n listed := ⟨m.size, m.closed, ht⟩
    have hex : ∃ i, i < n ∧ listed.getD i true = false := by
      have h1 : (List.range n).filter (fun i => !listed.getD i true) ≠ [] := fun h => by rw [h] at hf; cases hf
      obtain ⟨i, hi⟩ := List.exists_mem_of_ne_nil _ h1
      obtain ⟨h2, h3⟩ := List.mem_filter.1 hi
      exact ⟨i, List.mem_range.1 h2, by simpa using h3⟩
    obtain ⟨h1, h2⟩ := hhead listed hinv hex
    rw [show fuel + 1 + g = (fuel + g) + 1 by omega]
    refine ⟨fun h0 => absurd h0 h2, fun i hi => ?_⟩
    have hilt := h1 i hi
    obtain ⟨hun, o, ho, _⟩ := mem_ready.1 hi
    refine wpOp_of_obl hB hself hin hst hr hrefl m hi hilt fun a' w' m' => ?_
    have hle := unlisted_lt (n := n) hilt (by rw [m.size]; omega) hun
    have hf' : ((List.range n).filter fun j => !(listed.setIfInBounds i true).getD j true).length = fuel := by
      have hge : fuel ≤ ((List.range n).filter fun j => !(listed.setIfInBounds i true).getD j true).length := by
        have : ((List.range n).filter fun j => !listed.getD j true).length ≤ ((List.range n).filter fun j => !(listed.setIfInBounds i true).getD j true).length + 1 := by
          clear ih hf hle
          have key : ∀ (l : List Nat), l.Nodup → (l.filter fun j => !listed.getD j true).length ≤ (l.filter fun j => !(listed.setIfInBounds i true).getD j true).length + 1 := by
            intro l hnd
            induction l with
            | nil => simp
            | cons y l ihl =>
              have hnd' := List.nodup_cons.1 hnd
              by_cases hy : i = y
              · subst hy
                have heq : (l.filter fun j => !listed.getD j true) = (l.filter fun j => !(listed.setIfInBounds i true).getD j true) := by
                  refine List.filter_congr fun x hx => ?_
                  have : i ≠ x := fun e => hnd'.1 (by rw [e]; exact hx)
                  rw [getD_set_ne true this]
                rw [List.filter_cons_of_pos (by simp [hun])]
                have hs : i < listed.size := by rw [m.size]; omega
                rw [List.filter_cons_of_neg (by simp [hs]), List.length_cons, heq]
                omega
              · have h4 := ihl hnd'.2
                by_cases hz : listed.getD y true = true
                · rw [List.filter_cons_of_neg (by rw [hz]; decide), List.filter_cons_of_neg (by rw [getD_set_ne true hy, hz]; decide)]; exact h4
                · have hz' : listed.getD y true = false := by simpa using hz
                  rw [List.filter_cons_of_pos (by rw [hz']; rfl), List.filter_cons_of_pos (by rw [getD_set_ne true hy, hz']; rfl)]
                  simp only [List.length_cons]; omega
          exact key _ List.nodup_range
        omega
      omega
    exact ih _ a' w' m' (fun t h3 h4 => by rw [getD_set_ne true (by omega)]; exact ht t h3 h4) hf'

theorem mid_start {r : Nat → Sp} {s0 : Act} {w : World} (hC : C w) : Mid ops md C r s0 (Array.replicate ops.size false) s0 w :=
  ⟨by simp, fun j oj _ hl => (by rw [getD_replicate_false] at hl; cases hl), hC, rfl, rfl, fun i d _ hl => (by rw [getD_replicate_false] at hl; cases hl), fun _ _ => rfl⟩
theorem count_start (n m : Nat) (h : n ≤ m) : ((List.range n).filter fun i => !(Array.replicate m false).getD i true).length = n := by
  have : (List.range n).filter (fun i => !(Array.replicate m false).getD i true) = List.range n := by
    refine List.filter_eq_self.2 fun i hi => ?_
    have h1 := List.mem_range.1 hi
    have h2 : i < m := by omega
    simp [h2]
  rw [this]; simp
theorem ready_exists {n : Nat} {listed : Array Bool} (hB : depB ops md = true) (hi : HeadInv md ops n listed) (hn : n ≤ ops.size) (hex : ∃ i, i < n ∧ listed.getD i true = false) : Region.ready md ops listed ≠ [] := by
  obtain ⟨i, hil, hun⟩ := hex
  intro h0
  have : ∀ (i : Nat), i < n → listed.getD i false = true := by
    intro i
    induction i using Nat.strongRecOn with
    | _ i ih =>
      intro hi'
      cases hl : listed.getD i false with
      | true => rfl
      | false =>
        have hlt : i < ops.size := by omega
        have hr : i ∈ Region.ready md ops listed := mem_ready.2 ⟨getD_in (by rw [hi.size]; exact hlt) hl, _, Array.getElem?_eq_getElem hlt, fun e he hb => by
          have h1 := (depB_spec hB (Array.getElem?_eq_getElem hlt)).1 e he hb
          exact ih e.on h1 (by omega)⟩
        rw [h0] at hr; cases hr
  have h3 := this i hil
  rw [getD_both hun] at h3; cases h3

/-- A WHOLE REGION that draws its order. -/
theorem wp_region_dep {id n : Nat} {Q : Exit → Act → World → Prop} {a : Act} {w : World} {l : List Oper} (hm : P.follows .mixedOrders = true) (hB : (depB l.toArray .any && selfB l.toArray && dstsIn l.toArray n) = true)
    (hn : a.tmps.size = n) (hrefl : ∀ w, S w w) (hC : C w.drew)
    (h : depWalk P l.toArray S C (fun F s => ∀ a' w', C w' → AtEnd F s a' w' → Q .normal a' w') l [] a) : (Code.region id l.toArray true).wp P Q a w := by
  subst hn
  simp only [Bool.and_eq_true] at hB
  obtain ⟨⟨hB, hself⟩, hin⟩ := hB
  obtain ⟨r, h0, h1, h2⟩ := dep_choice (ops := l.toArray) l 0 (fun _ => .det undef) [] a (by simp) (fun _ _ _ _ _ h => h) (by omega) h
  rw [Nat.zero_add] at h1 h2
  refine wp_region_any hm ?_
  have hz : l.toArray.size = l.length := by simp
  have H := wpAny_of_head_dep (md := .any) (n := l.toArray.size) (g := 0) (Q := Q) hB hself hin (Nat.le_refl _) h0 (fun i hi => h1 i (by omega)) hrefl (fun listed hi hex => ⟨fun j hj => by
      obtain ⟨_, o, ho, _⟩ := mem_ready.1 hj
      exact (Array.getElem?_eq_some_iff.1 ho).1, ready_exists hB hi (Nat.le_refl _) hex⟩)
    (fun listed a' w' m ht hall => by
      have h0 : Region.ready .any l.toArray listed = [] := by
        refine List.eq_nil_iff_forall_not_mem.2 fun i hi => ?_
        obtain ⟨hun, o, ho, _⟩ := mem_ready.1 hi
        have h3 := hall i (Array.getElem?_eq_some_iff.1 ho).1
        rw [getD_both hun] at h3; cases h3
      exact wpAny_done h0 (h2 a' w' m.world (by have := m.end_ hB hin hall ht; rwa [hz] at this)) 0)
    _ (Array.replicate l.toArray.size false) a w.drew (mid_start hC) (fun t h3 h4 => by omega) (count_start _ _ (Nat.le_refl _))
  rw [Nat.add_zero] at H
  exact H

def headArr (n m : Nat) : Array Bool := Array.ofFn fun i : Fin m => decide (i.val < n)
theorem headArr_eq {n : Nat} {listed : Array Bool} (h1 : ∀ i, i < n → listed.getD i false = true) (h2 : ∀ t, n ≤ t → t < listed.size → listed.getD t true = false) : listed = headArr n listed.size := by
  refine Array.ext (by simp [headArr]) fun i hi _ => ?_
  simp only [headArr, Array.getElem_ofFn]
  by_cases hin : i < n
  · have := h1 i hin
    simp [hi] at this
    simp [this, hin]
  · have := h2 i (by omega) hi
    simp [hi] at this
    simp [this, hin]

/-- A REGION WHOSE LAST OPERATIONS (from n on) come in the text's order, behind all others. -/
theorem wp_region_dep_tail {id k : Nat} (n : Nat) {Q : Exit → Act → World → Prop} {a : Act} {w : World} {l : List Oper} (hm : P.follows .mixedOrders = true)
    (hB : (depB l.toArray .any && selfB l.toArray && dstsIn l.toArray k && Region.sinkB .any l.toArray n && Region.chainB .any l.toArray n && decide (n < l.length) && Region.seqB .any l.toArray (l.drop n).length n (headArr n l.toArray.size)) = true)
    (hn : a.tmps.size = k) (hrefl : ∀ w, S w w) (hC : C w.drew)
    (h : depWalk P l.toArray S C (fun F s => ∀ a' w', C w' → AtEnd F s a' w' → wpList P l.toArray Q (l.drop n) a' w') (l.take n) [] a) : (Code.region id l.toArray true).wp P Q a w := by
  subst hn
  simp only [Bool.and_eq_true, decide_eq_true_eq] at hB
  obtain ⟨⟨⟨⟨⟨⟨hB, hself⟩, hin⟩, hsink⟩, hchain⟩, hnl⟩, hseq⟩ := hB
  have hz : l.toArray.size = l.length := by simp
  have htl : (l.take n).length = n := by simp; omega
  obtain ⟨r, h0, h1, h2⟩ := dep_choice (ops := l.toArray) (l.take n) 0 (fun _ => .det undef) [] a (fun j hj => by
    have hj' : j < n := by rw [htl] at hj; exact hj
    simp [hj']) (fun _ _ _ _ _ h => h) (by omega) h
  rw [Nat.zero_add, htl] at h1 h2
  refine wp_region_any hm ?_
  have H := wpAny_of_head_dep (md := .any) (n := n) (g := (l.drop n).length) (Q := Q) hB hself hin (by omega) h0 (fun i hi => h1 i (by omega)) hrefl (fun listed hi hex => ⟨fun j hj => by
      obtain ⟨i, hil, hun⟩ := hex
      rcases Nat.lt_or_ge j n with h3 | h3
      · exact h3
      · exact absurd hj (tail_waits hsink hchain (by omega) hi _ i rfl hil hun j h3), ready_exists hB hi (by omega) hex⟩)
    (fun listed a' w' m ht hall => by
      have he : listed = headArr n l.toArray.size := by
        have := headArr_eq (n := n) (listed := listed) hall (fun t h3 h4 => ht t h3 (by rw [← m.size]; exact h4))
        rwa [m.size] at this
      refine wpAny_of_seq (md := .any) (Q' := Q) (l.drop n) n listed a' w' (fun j => by simp [List.getElem?_drop]) (by rw [he]; exact hseq) (h2 a' w' m.world (m.end_ hB hin hall ht)))
    n (Array.replicate l.toArray.size false) a w.drew (mid_start hC) (fun t h3 h4 => getD_in (by simpa using h4) (getD_replicate_false _ _)) (count_start _ _ (by omega))
  have e : n + (l.drop n).length = l.toArray.size := by simp; omega
  rw [e] at H
  exact H
end

/-! ### The steps of the walk -/
section
variable {P : Program} {ops : Array Oper} {S : World → World → Prop} {C : World → Prop} {Q : Kn → Act → Prop} {o : Oper} {rest : List Oper} {F : Kn} {s : Act}

def plainB (ops : Array Oper) (o : Oper) (ks : List Tmp) : Bool := (match o.op with | .select .. => false | _ => true) && (o.looksAt ops).all fun t => !ks.contains t
theorem plainB_spec {ks : List Tmp} (h : plainB ops o ks = true) : (∀ cs b, o.op ≠ .select cs b) ∧ ∀ t ∈ o.looksAt ops, t ∉ ks := by
  simp only [plainB, Bool.and_eq_true, List.all_eq_true] at h
  refine ⟨fun cs b e => by simp [e] at h, fun t ht => by simpa using h.2 t ht⟩

theorem eval_agree {a a' : Act} {o : Oper} (hs : ∀ cs b, o.op ≠ .select cs b) (h : ∀ t ∈ o.looksAt ops, a'.tmps[t]? = a.tmps[t]?) : execOp a'.eval o = execOp a.eval o ∧ Region.wanted o (yielded ops a'.tmps) = Region.wanted o (yielded ops a.tmps) := by
  refine ⟨execOp_congr o hs fun x hx => ?_, ?_⟩
  · cases x with
    | tmp t =>
      have h1 := h t (List.mem_append_left _ (List.mem_filterMap.2 ⟨.tmp t, by simpa using hx, rfl⟩))
      show a'.tmps.getD t undef = a.tmps.getD t undef
      rw [Array.getD_eq_getD_getElem?, Array.getD_eq_getD_getElem?, h1]
    | _ => rfl
  · unfold Region.wanted
    cases hg : o.guard with
    | none => rfl
    | some gw =>
      obtain ⟨g, want⟩ := gw
      have hy : yielded ops a'.tmps g = yielded ops a.tmps g := by
        unfold yielded
        cases ht : (ops[g]?).bind (·.dst) with
        | none => rfl
        | some t =>
          have h1 := h t (by simp [Oper.looksAt, hg, ht])
          simp only [Option.bind_some, h1]
      simp only [hy]

theorem fits_agree {ks : List Tmp} (h : ∀ t ∈ o.looksAt ops, t ∉ F.map (·.1)) {a : Act} {w : World} (hf : ∀ t ∈ o.looksAt ops, fits F s a w t) : ∀ t ∈ o.looksAt ops, a.tmps[t]? = s.tmps[t]? := by
  have _u := ks
  intro t ht
  rcases hf t ht with ⟨V, v, hm, _⟩ | ⟨_, h1⟩
  · exact absurd (List.mem_map.2 ⟨(t, V), hm, rfl⟩) (h t ht)
  · exact h1

theorem dep_nil (h : Q F s) : depWalk P ops S C Q [] F s := h

/-- An operation that looks at nothing that is known in words alone, and leaves a value. -/
theorem dep_det (hk : plainB ops o (F.map (·.1)) = true)
    (h : ∀ K : Act → Prop, (∀ a, depWalk P ops S C Q rest F a → K a) → if Region.wanted o (yielded ops s.tmps) = true then ∃ v, (∀ w, C w → depUpon P S C (.det v) w ((execOp s.eval o).run P w)) ∧ K (s.put o.dst v) else K (s.put o.dst undef)) :
    depWalk P ops S C Q (o :: rest) F s := by
  obtain ⟨h1, h2⟩ := plainB_spec hk
  have hh := h _ (fun _ h => h)
  have hmore : ∀ v, (Sp.det v).more F o.dst = F := fun v => by cases o.dst <;> rfl
  split at hh
  · rename_i hw
    obtain ⟨v, hv, hr⟩ := hh
    refine ⟨.det v, fun _ _ _ _ h => h, fun a w hC hf => ?_, by rw [hmore]; exact hr⟩
    obtain ⟨e1, e2⟩ := eval_agree h1 (fits_agree (ks := []) h2 hf)
    rw [e1, e2, if_pos hw]
    exact hv w hC
  · rename_i hw
    refine ⟨.det undef, fun _ _ _ _ h => h, fun a w hC hf => ?_, by rw [hmore]; exact hh⟩
    obtain ⟨e1, e2⟩ := eval_agree h1 (fits_agree (ks := []) h2 hf)
    rw [e2, if_neg hw]
    rfl

theorem put_agree {t : Tmp} {V : Value → World → Prop} (hV : ∀ V', (t, V') ∈ F → V' = V) (hm : (t, V) ∈ F) (ht : t < s.tmps.size) (h : ∀ x ∈ o.looksAt ops, x ≠ t → x ∉ F.map (·.1)) {a : Act} {w : World} (hf : ∀ t ∈ o.looksAt ops, fits F s a w t) (hl : t ∈ o.looksAt ops) :
    ∃ v, V v w ∧ ∀ x ∈ o.looksAt ops, a.tmps[x]? = (s.put (some t) v).tmps[x]? := by
  rcases hf t hl with ⟨V', v, hm', hv, hVv⟩ | ⟨hno, _⟩
  · have := hV V' hm'
    subst this
    refine ⟨v, hVv, fun x hx => ?_⟩
    by_cases hxt : x = t
    · subst hxt; rw [put_same _ _ _ ht]; exact hv
    · rw [put_other _ _ _ _ (fun e => hxt (by injection e with e; exact e.symm))]
      rcases hf x hx with ⟨V', v', hm', _⟩ | ⟨_, h1⟩
      · exact absurd (List.mem_map.2 ⟨(x, V'), hm', rfl⟩) (h x hx hxt)
      · exact h1
  · exact absurd hm (hno V)

def oneB (ops : Array Oper) (o : Oper) (t : Tmp) (ks : List Tmp) : Bool := (match o.op with | .select .. => false | _ => true) && (o.looksAt ops).contains t && (o.looksAt ops).all fun x => x == t || !ks.contains x
theorem oneB_spec {t : Tmp} {ks : List Tmp} (h : oneB ops o t ks = true) : (∀ cs b, o.op ≠ .select cs b) ∧ t ∈ o.looksAt ops ∧ ∀ x ∈ o.looksAt ops, x ≠ t → x ∉ ks := by
  simp only [oneB, Bool.and_eq_true, List.all_eq_true] at h
  refine ⟨fun cs b e => by simp [e] at h, by simpa using h.1.2, fun x hx hne => ?_⟩
  have := h.2 x hx
  simpa [hne] using this

/-- An operation that looks at one slot that is known in words, and leaves a value. -/
theorem dep_det1 (t : Tmp) (V : Value → World → Prop) (hk : oneB ops o t (F.map (·.1)) = true) (hV : ∀ V', (t, V') ∈ F → V' = V) (hm : (t, V) ∈ F) (ht : t < s.tmps.size)
    (h : ∀ K : Act → Prop, (∀ a, depWalk P ops S C Q rest F a → K a) → ∃ u, (∀ w v, C w → V v w → Region.wanted o (yielded ops (s.put (some t) v).tmps) = true ∧ depUpon P S C (.det u) w ((execOp (s.put (some t) v).eval o).run P w)) ∧ K (s.put o.dst u)) :
    depWalk P ops S C Q (o :: rest) F s := by
  obtain ⟨h1, hl, h2⟩ := oneB_spec hk
  obtain ⟨u, hu, hr⟩ := h _ (fun _ h => h)
  have hmore : ∀ v, (Sp.det v).more F o.dst = F := fun v => by cases o.dst <;> rfl
  refine ⟨.det u, fun _ _ _ _ h => h, fun a w hC hf => ?_, by rw [hmore]; exact hr⟩
  obtain ⟨v, hv, hag⟩ := put_agree hV hm ht h2 hf hl
  obtain ⟨e1, e2⟩ := eval_agree h1 hag
  obtain ⟨g1, g2⟩ := hu w v hC hv
  rw [e1, e2, if_pos g1]
  exact g2

/-- An operation that looks at nothing that is known in words alone, and leaves something of which V holds. -/
theorem dep_var (V : Value → World → Prop) (d : Tmp) (hd : o.dst = some d) (hk : plainB ops o (F.map (·.1)) = true) (hst : ∀ v w w', S w w' → V v w → V v w')
    (hw : Region.wanted o (yielded ops s.tmps) = true) (hv : ∀ w, C w → depUpon P S C (.var V) w ((execOp s.eval o).run P w))
    (h : depWalk P ops S C Q rest ((d, V) :: F) (s.put (some d) undef)) : depWalk P ops S C Q (o :: rest) F s := by
  obtain ⟨h1, h2⟩ := plainB_spec hk
  refine ⟨.var V, fun v w w' hS hV => hst v w w' hS hV, fun a w hC hf => ?_, by rw [hd]; exact h⟩
  obtain ⟨e1, e2⟩ := eval_agree h1 (fits_agree (ks := []) h2 hf)
  rw [e1, e2, if_pos hw]
  exact hv w hC
/-- The same, looking at one slot that is known in words. -/
theorem dep_var1 (t : Tmp) (U : Value → World → Prop) (V : Value → World → Prop) (d : Tmp) (hd : o.dst = some d) (hk : oneB ops o t (F.map (·.1)) = true) (hU : ∀ V', (t, V') ∈ F → V' = U) (hm : (t, U) ∈ F) (ht : t < s.tmps.size)
    (hst : ∀ v w w', S w w' → V v w → V v w')
    (hv : ∀ w v, C w → U v w → Region.wanted o (yielded ops (s.put (some t) v).tmps) = true ∧ depUpon P S C (.var V) w ((execOp (s.put (some t) v).eval o).run P w))
    (h : depWalk P ops S C Q rest ((d, V) :: F) (s.put (some d) undef)) : depWalk P ops S C Q (o :: rest) F s := by
  obtain ⟨h1, hl, h2⟩ := oneB_spec hk
  refine ⟨.var V, fun v w w' hS hV => hst v w w' hS hV, fun a w hC hf => ?_, by rw [hd]; exact h⟩
  obtain ⟨v, hv', hag⟩ := put_agree hU hm ht h2 hf hl
  obtain ⟨e1, e2⟩ := eval_agree h1 hag
  obtain ⟨g1, g2⟩ := hv w v hC hv'
  rw [e1, e2, if_pos g1]
  exact g2

theorem atEnd_nil {a : Act} {w : World} (h : AtEnd [] s a w) : a = s := by
  obtain ⟨h1, h2, h3⟩ := h
  have : a.tmps = s.tmps := Array.ext_getElem? fun t => by
    rcases h3 t with ⟨V, v, hm, _⟩ | ⟨_, h4⟩
    · cases hm
    · exact h4
  cases a; cases s; simp_all
theorem atEnd_cons {t : Tmp} {V : Value → World → Prop} {a : Act} {w : World} (h : AtEnd ((t, V) :: F) s a w) (hno : t ∉ F.map (·.1)) (ht : t < s.tmps.size) : ∃ v, V v w ∧ AtEnd F (s.put (some t) v) a w := by
  obtain ⟨h1, h2, h3⟩ := h
  have hno' : ∀ U, (t, U) ∉ F := fun U hU => hno (List.mem_map.2 ⟨_, hU, rfl⟩)
  rcases h3 t with ⟨V', v, hm, hv, hV⟩ | ⟨h4, _⟩
  · have : V' = V := by
      rcases List.mem_cons.1 hm with e | e
      · injection e
      · exact absurd e (hno' _)
    subst this
    refine ⟨v, hV, by rw [put_size]; exact h1, h2, fun x => ?_⟩
    by_cases hx : x = t
    · subst hx; exact .inr ⟨hno', by rw [put_same _ _ _ ht]; exact hv⟩
    · have hne : some t ≠ some x := fun e => hx (by injection e with e; exact e.symm)
      rcases h3 x with ⟨U, u, hm', hu, hU⟩ | ⟨h4, h5⟩
      · rcases List.mem_cons.1 hm' with e | e
        · injection e with e1 _; exact absurd e1 hx
        · exact .inl ⟨U, u, e, hu, hU⟩
      · exact .inr ⟨fun U hU => h4 U (List.mem_cons_of_mem _ hU), by rw [put_other _ _ _ _ hne]; exact h5⟩
  · exact absurd (List.mem_cons_self ..) (h4 V)
end

/-- The class of worlds in which nothing old has turned; a step that turns nothing that is there. -/
abbrev Ext (w w' : World) : Prop := Below w.heap.size w w'
theorem Ext.refl (w : World) : Ext w w := Below.refl _ _
theorem Ext.trans {a b c : World} (h : Ext a b) (k : Ext b c) : Ext a c := Below.trans h (Below.mono k h.size)
theorem Ext.alloc (w : World) (o : Obj) : Ext w (w.alloc o) := (Below.refl _ _).alloc (Nat.le_refl _) _
theorem Ext.drew (w : World) : Ext w w.drew := (Below.refl _ _).drew
theorem Ext.drewN (w : World) (n : Nat) : Ext w (w.drewN n) := below_drewN (Below.refl _ _) n

/-- A slice over a whole block of the call's own. -/
def SlAt (t : TypeId) (xs : List Value) (n c : Nat) (v : Value) (w : World) : Prop := ∃ g, v = .slice (some ⟨g, 0, none⟩) n c ∧ Own w g t xs
theorem SlAt.keep {t : TypeId} {xs : List Value} {n c : Nat} : ∀ (v : Value) (w w' : World), Ext w w' → SlAt t xs n c v w → SlAt t xs n c v w' := fun _ _ _ hS ⟨g, e, ho⟩ => ⟨g, e, ho.keep hS⟩
theorem SlAt.new (w : World) (t : TypeId) (xs : List Value) (n c : Nat) : SlAt t xs n c (.slice (some ⟨w.heap.size, 0, none⟩) n c) (w.alloc (.cells xs.toArray t)) := ⟨_, rfl, Own.new w t xs⟩

/-- A slice that reads as xs. -/
def RdSl (xs : List Value) (n : Nat) (v : Value) (w : World) : Prop := ∃ A c, v = .slice A n c ∧ Rd w A xs
theorem RdSl.keep {xs : List Value} {n : Nat} : ∀ (v : Value) (w w' : World), Ext w w' → RdSl xs n v w → RdSl xs n v w' := fun _ _ _ hS ⟨A, c, e, hr⟩ => ⟨A, c, e, hr.keep hS⟩
/-- An append's run, in a region that draws its order. -/
theorem dep_append {P : Program} {S : World → World → Prop} {C : World → Prop} {r : Sp} {w w' : World} {a : Act} {o : Oper} {s x : Operand} {t : TypeId} {v' : Value}
    (hop : o.op = Op.call { callee := Callee.builtin Builtin.append, args := #[s, x], argTypes := #[t, t] })
    (hrun : (Builtin.append_ #[t, t] o.type #[a.eval s, a.eval x]).run P w = .ok v' w') (h : S w w' ∧ C w' ∧ r.ok v' w') : depUpon P S C r w ((execOp a.eval o).run P w) := by
  simp only [execOp, hop, resolve, invoke, builtin, Sem.run_bind, Sem.run_pure, Result.andThen_ok, List.map_toArray, List.map_cons, List.map_nil, hrun]
  exact h

end Go.Proofs.Ytfdpipjkckbgdaa
