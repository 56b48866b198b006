/-
  TWO STRUCTS of the call's own that are made and filled in one statement ('x, y := a[i], a[k]'), whatever the order (mine).
-/
import Derived.Test.YtdninhdabeddeaaDepJ
namespace Go.Proofs.Ytdninhdabeddeaa
open Go.RowKit

def ptr (g : Nat) : Value := .pointer (some ⟨g, 0, none⟩)
/-- What each operation does: two make, one stores, all others read. -/
def twoE (ia ib is : Nat) (p : Tmp) (T : TypeId) (zs xs : List Value) (i : Nat) (a : Act) (v : Value) (w w' : World) : Prop :=
  if i = ia ∨ i = ib then v = ptr w.heap.size ∧ Own w' w.heap.size T zs ∧ Ext w w'
  else if i = is then ∃ g, a.tmps[p]? = some (ptr g) ∧ Own w' g T xs ∧ w.grownBy w' (some g) ∧ w'.heap.size = w.heap.size
  else w = w'
structure twoJ (w0 : World) (ia ib is : Nat) (p q : Tmp) (T : TypeId) (zs xs : List Value) (listed : Array Bool) (a : Act) (w : World) : Prop where
  ext : Ext w0 w
  one : listed.getD ia false = true → ∃ g, a.tmps[p]? = some (ptr g) ∧ w0.heap.size ≤ g ∧ Own w g T (if listed.getD is false = true then xs else zs)
  ord : listed.getD is false = true → listed.getD ia false = true
  two : listed.getD ib false = true → ∃ g, a.tmps[q]? = some (ptr g) ∧ w0.heap.size ≤ g ∧ Own w g T zs ∧ (listed.getD ia false = true → a.tmps[p]? ≠ some (ptr g))
def dstB (ops : Array Oper) (p : Tmp) (ia : Nat) : Bool := (List.range ops.size).all fun i => match ops[i]? with
  | some o => (o.dst == some p) == (i == ia)
  | none => true
theorem dstB_spec {ops : Array Oper} {p : Tmp} {ia : Nat} (h : dstB ops p ia = true) {i : Nat} {o : Oper} (hi : ops[i]? = some o) : (o.dst = some p ↔ i = ia) := by
  unfold dstB at h
  rw [List.all_eq_true] at h
  have := h i (List.mem_range.2 (Array.getElem?_eq_some_iff.1 hi).1)
  simp only [hi] at this
  by_cases h1 : o.dst = some p <;> by_cases h2 : i = ia <;> simp_all
def waitsB (ops : Array Oper) (is ia : Nat) : Bool := match ops[is]? with
  | some o => o.after.any fun e => Region.binds .any e && e.on == ia
  | none => false
theorem ptr_inj {g h : Nat} (e : ptr g = ptr h) : g = h := by
  unfold ptr at e; injection e with e; injection e with e; injection e
theorem two_step {w0 : World} {ops : Array Oper} {n ia ib is : Nat} {p q : Tmp} {T : TypeId} {zs xs : List Value} {a0 : Act} (hp : dstB ops p ia = true) (hq : dstB ops q ib = true) (hw : waitsB ops is ia = true) (hpq : p ≠ q) (hps : p < a0.tmps.size) (hqs : q < a0.tmps.size) (h1 : ia ≠ ib) (h2 : ia ≠ is) (h3 : ib ≠ is) (hia : ia < ops.size) (hib : ib < ops.size) (his : is < ops.size)
    (i : Nat) (oi : Oper) (v : Value) (listed : Array Bool) (a : Act) (w w' : World) (hoi : ops[i]? = some oi) (_ : i < n) (hls : listed.size = ops.size) (hts : a.tmps.size = a0.tmps.size) (hun : listed.getD i true = false) (hall : ∀ e ∈ oi.after, Region.binds .any e = true → listed.getD e.on false = true)
    (hJ : twoJ w0 ia ib is p q T zs xs listed a w) (hE : twoE ia ib is p T zs xs i a v w w') : twoJ w0 ia ib is p q T zs xs (listed.setIfInBounds i true) (a.put oi.dst v) w' := by
  have hdp := dstB_spec hp hoi
  have hdq := dstB_spec hq hoi
  obtain ⟨je, j1, jo, j2⟩ := hJ
  have hps' : p < a.tmps.size := by rw [hts]; exact hps
  have hqs' : q < a.tmps.size := by rw [hts]; exact hqs
  by_cases ea : i = ia
  · subst ea
    have hd := hdp.2 rfl
    unfold twoE at hE
    rw [if_pos (.inl rfl)] at hE
    obtain ⟨rfl, hO, hX⟩ := hE
    have hun' : listed.getD i false = false := getD_both hun
    have hns : listed.getD is false = false := by
      cases hl : listed.getD is false with
      | false => rfl
      | true => rw [jo hl] at hun'; cases hun'
    have hself : (listed.setIfInBounds i true).getD i false = true := by simp [hls, hia]
    rw [hd]
    refine ⟨Ext.trans je hX, fun _ => ⟨w.heap.size, put_same _ _ _ hps', je.size, ?_⟩, fun _ => hself, fun hl => ?_⟩
    · rw [getD_set_ne false h2, hns]; simpa using hO
    · rw [getD_set_ne false h1] at hl
      obtain ⟨g, e1, e2, e3, _⟩ := j2 hl
      refine ⟨g, by rw [put_other _ _ _ _ (fun e => hpq (by injection e)), e1], e2, e3.keep hX, fun _ => ?_⟩
      rw [put_same _ _ _ hps']
      intro e
      injection e with e
      have := ptr_inj e
      have := e3.lt
      omega
  by_cases eb : i = ib
  · subst eb
    have hd := hdq.2 rfl
    unfold twoE at hE
    rw [if_pos (.inr rfl)] at hE
    obtain ⟨rfl, hO, hX⟩ := hE
    rw [hd]
    refine ⟨Ext.trans je hX, fun hl => ?_, fun hl => ?_, fun _ => ⟨w.heap.size, put_same _ _ _ hqs', je.size, hO, fun hl => ?_⟩⟩
    · rw [getD_set_ne false (Ne.symm h1)] at hl
      obtain ⟨g, e1, e2, e3⟩ := j1 hl
      refine ⟨g, by rw [put_other _ _ _ _ (fun e => hpq (by injection e with e; exact e.symm)), e1], e2, ?_⟩
      rw [getD_set_ne false h3]
      exact e3.keep hX
    · rw [getD_set_ne false h3] at hl
      exact getD_set_true (jo hl)
    · rw [getD_set_ne false (Ne.symm h1)] at hl
      obtain ⟨g, e1, e2, e3⟩ := j1 hl
      rw [put_other _ _ _ _ (fun e => hpq (by injection e with e; exact e.symm)), e1]
      intro e
      injection e with e
      have := ptr_inj e
      have := e3.lt
      omega
  have np : oi.dst ≠ some p := fun e => ea (hdp.1 e)
  have nq : oi.dst ≠ some q := fun e => eb (hdq.1 e)
  by_cases es : i = is
  · subst es
    unfold twoE at hE
    rw [if_neg (by rintro (h | h) <;> omega), if_pos rfl] at hE
    obtain ⟨g, e1, hO, hG, _⟩ := hE
    have hla : listed.getD ia false = true := by
      unfold waitsB at hw
      rw [hoi] at hw
      obtain ⟨e, he, hb⟩ := Array.any_eq_true'.1 hw
      simp only [Bool.and_eq_true, beq_iff_eq] at hb
      rw [← hb.2]
      exact hall e he hb.1
    obtain ⟨g1, f1, f2, f3⟩ := j1 hla
    have hg : g1 = g := by rw [f1] at e1; injection e1 with e1; exact ptr_inj e1
    subst hg
    have hself : (listed.setIfInBounds i true).getD i false = true := by simp [hls, his]
    refine ⟨below_grown je hG je.size (fun k hk => by injection hk with hk; omega), fun _ => ⟨g1, by rw [put_other _ _ _ _ np, e1], f2, ?_⟩, fun _ => getD_set_true hla, fun hl => ?_⟩
    · rw [hself]; simpa using hO
    · rw [getD_set_ne false (Ne.symm h3)] at hl
      obtain ⟨g2, k1, k2, k3, k4⟩ := j2 hl
      have hne := k4 hla
      refine ⟨g2, by rw [put_other _ _ _ _ nq, k1], k2, k3.grown hG (fun e => ?_), fun _ => by rw [put_other _ _ _ _ np]; exact hne⟩
      injection e with e
      subst e
      exact hne e1
  · unfold twoE at hE
    rw [if_neg (by rintro (h | h) <;> omega), if_neg es] at hE
    subst hE
    refine ⟨je, fun hl => ?_, fun hl => ?_, fun hl => ?_⟩
    · rw [getD_set_ne false ea] at hl
      rw [put_other _ _ _ _ np, getD_set_ne false es]
      exact j1 hl
    · rw [getD_set_ne false es] at hl
      exact getD_set_true (jo hl)
    · rw [getD_set_ne false eb] at hl
      rw [put_other _ _ _ _ np, put_other _ _ _ _ nq]
      obtain ⟨g, e1, e2, e3, e4⟩ := j2 hl
      exact ⟨g, e1, e2, e3, fun h => by rw [getD_set_ne false ea] at h; exact e4 h⟩

def pairB (l : List Oper) (n k : Nat) : Bool :=
  depB l.toArray .any && selfB l.toArray && dstsIn l.toArray k && Region.sinkB .any l.toArray n && Region.chainB .any l.toArray n && decide (n < l.length) && Region.seqB .any l.toArray (l.drop n).length n (headArr n l.toArray.size)
def pairB' (l : List Oper) (n k ia ib is : Nat) (p q : Tmp) : Bool :=
  dstB l.toArray p ia && dstB l.toArray q ib && waitsB l.toArray is ia && decide (p ≠ q) && decide (p < k) && decide (q < k) && decide (ia ≠ ib) && decide (ia ≠ is) && decide (ib ≠ is) && decide (ia < n) && decide (ib < n) && decide (is < n)
/-- The region: x's and y's blocks, x filled; the tail (y's store) is left. -/
theorem wp_region_two {P : Program} {id k : Nat} (n ia ib is : Nat) (p q : Tmp) (T : TypeId) (zs xs : List Value) {Q : Exit → Act → World → Prop} {a : Act} {w : World} {l : List Oper} (hm : P.follows .mixedOrders = true)
    (hB : pairB l n k = true) (hB' : pairB' l n k ia ib is p q = true) (hn : a.tmps.size = k)
    (h : walkJ P l.toArray (twoE ia ib is p T zs xs) (Ext w) (fun F s => ∀ a' w' g1 g2, Ext w w' → a'.tmps[p]? = some (ptr g1) → a'.tmps[q]? = some (ptr g2) → g1 ≠ g2 → w.heap.size ≤ g1 → w.heap.size ≤ g2 → Own w' g1 T xs → Own w' g2 T zs → AtEnd F s a' w' → wpList P l.toArray Q (l.drop n) a' w') 0 (l.take n) [] a) :
    (Code.region id l.toArray true).wp P Q a w := by
  have hB0 := hB
  unfold pairB at hB
  unfold pairB' at hB'
  simp only [Bool.and_eq_true, decide_eq_true_eq] at hB'
  obtain ⟨⟨⟨⟨⟨⟨⟨⟨⟨⟨⟨b1, b2⟩, b3⟩, b4⟩, b5⟩, b6⟩, b7⟩, b8⟩, b9⟩, b10⟩, b11⟩, b12⟩ := hB'
  have hlen : n < l.length := by
    simp only [Bool.and_eq_true, decide_eq_true_eq] at hB
    exact hB.1.2
  have hz : l.toArray.size = l.length := by simp
  refine wp_region_J_tail (J := twoJ w ia ib is p q T zs xs) (E := twoE ia ib is p T zs xs) (C := Ext w) n hm hB hn ⟨Ext.drew _, fun h => ?_, fun h => ?_, fun h => ?_⟩ (fun _ _ _ j => j.ext) (fun i oi v listed a' w1 w2 hoi hin hls hts hun hall hJ hE =>
      two_step (a0 := a) (n := n) b1 b2 b3 b4 (by rw [hn]; exact b5) (by rw [hn]; exact b6) b7 b8 b9 (by omega) (by omega) (by omega) i oi v listed a' w1 w2 hoi hin hls hts hun hall hJ hE) ?_ (fun _ _ _ _ _ _ _ h => h)
  · rw [getD_replicate_false] at h; cases h
  · rw [getD_replicate_false] at h; cases h
  · rw [getD_replicate_false] at h; cases h
  · have mono : ∀ (l' : List Oper) (j : Nat) (F : Kn) (s : Act), walkJ P l.toArray (twoE ia ib is p T zs xs) (Ext w) (fun F s => ∀ a' w' g1 g2, Ext w w' → a'.tmps[p]? = some (ptr g1) → a'.tmps[q]? = some (ptr g2) → g1 ≠ g2 → w.heap.size ≤ g1 → w.heap.size ≤ g2 → Own w' g1 T xs → Own w' g2 T zs → AtEnd F s a' w' → wpList P l.toArray Q (l.drop n) a' w') j l' F s →
        walkJ P l.toArray (twoE ia ib is p T zs xs) (Ext w) (fun F s => ∀ a' w', twoJ w ia ib is p q T zs xs (headArr n l.toArray.size) a' w' → AtEnd F s a' w' → wpList P l.toArray Q (l.drop n) a' w') j l' F s := by
      intro l'
      induction l' with
      | nil =>
        intro j F s hq a' w' hJ hE
        have hd : ∀ i, i < n → (headArr n l.toArray.size).getD i false = true := fun i hi => by
          have h1 : i < l.toArray.size := by omega
          have h2 : i < (headArr n l.toArray.size).size := by simp [headArr]; simpa using h1
          rw [Array.getD_eq_getD_getElem?, Array.getElem?_eq_getElem h2]
          simp [headArr, hi]
        obtain ⟨g1, e1, e2, e3⟩ := hJ.one (hd ia b10)
        obtain ⟨g2, f1, f2, f3, f4⟩ := hJ.two (hd ib b11)
        rw [hd is b12] at e3
        have hne : g1 ≠ g2 := fun e => f4 (hd ia b10) (by rw [e1, e])
        exact hq a' w' g1 g2 hJ.ext e1 f1 hne e2 f2 (by simpa using e3) f3 hE
      | cons o l' ih =>
        intro j F s ⟨r, r1, r2, r3⟩
        exact ⟨r, r1, r2, ih _ _ _ r3⟩
    exact mono _ _ _ _ h

section
variable {P : Program} {ops : Array Oper} {C : World → Prop} {Q : Kn → Act → Prop} {o : Oper} {rest : List Oper} {F : Kn} {s : Act} {ia ib is k : Nat} {p : Tmp} {T : TypeId} {zs xs : List Value}
/-- An operation that reads. -/
def readsTo (v : Value) (w : World) : Result Next → Prop
  | .ok (.value v') w' => v' = v ∧ w = w'
  | .ok .skip w' => undef = v ∧ w = w'
  | _ => False
theorem two_read (hk : plainB ops o (F.map (·.1)) = true) (hi : (k != ia && k != ib && k != is) = true)
    (h : ∀ K : Act → Prop, (∀ a, walkJ P ops (twoE ia ib is p T zs xs) C Q (k + 1) rest F a → K a) → Region.wanted o (yielded ops s.tmps) = true ∧ ∃ v, (∀ w, C w → readsTo v w ((execOp s.eval o).run P w)) ∧ K (s.put o.dst v)) :
    walkJ P ops (twoE ia ib is p T zs xs) C Q k (o :: rest) F s := by
  obtain ⟨h1, h2⟩ := plainB_spec hk
  obtain ⟨hw, v, hv, hr⟩ := h _ (fun _ h => h)
  simp only [Bool.and_eq_true, bne_iff_ne] at hi
  have hmore : ∀ v, (Sp.det v).more F o.dst = F := fun v => by cases o.dst <;> rfl
  refine ⟨.det v, fun _ _ _ _ _ _ _ h => h, fun a w hC hf => ?_, by rw [hmore]; exact hr⟩
  obtain ⟨e1, e2⟩ := eval_agree h1 (fits_agree (ks := []) h2 hf)
  rw [e1, e2, if_pos hw]
  have hq := hv w hC
  have hE : ∀ u w', w = w' → twoE ia ib is p T zs xs k a u w w' := fun u w' e => by
    unfold twoE
    rw [if_neg (by rintro (h | h); exact hi.1.1 h; exact hi.1.2 h), if_neg hi.2]
    exact e
  generalize (execOp s.eval o).run P w = res at *
  cases res with
  | ok n w' =>
    cases n <;> simp only [readsTo] at hq
    case value v' => exact ⟨hE _ _ hq.2, hq.1⟩
    case skip => exact ⟨hE _ _ hq.2, hq.1⟩
  | halt x w' => simp only [readsTo] at hq
theorem two_load_rd (hk : plainB ops o (F.map (·.1)) = true) (hi : (k != ia && k != ib && k != is) = true) (ty : TypeId) (x : Operand) (hop : o.op = .load ty x)
    (b off : Nat) (hx : s.eval x = .pointer (some ⟨b, off, none⟩)) (cs : List Value) (hw : Region.wanted o (yielded ops s.tmps) = true)
    (hrun : ∀ w, C w → (Instr.loadAt ty (.pointer (some ⟨b, off, none⟩))).run P w = .ok (.agg cs.toArray) w)
    (h : walkJ P ops (twoE ia ib is p T zs xs) C Q (k + 1) rest F (s.put o.dst (.agg cs.toArray))) : walkJ P ops (twoE ia ib is p T zs xs) C Q k (o :: rest) F s := by
  refine two_read hk hi fun K hK => ⟨hw, _, fun w hC => ?_, hK _ h⟩
  have hr := hrun w hC
  simp only [execOp, hop, hx]
  simp [hr, Result.andThen]
  exact ⟨rfl, rfl⟩
/-- A pointer to a block of so many cells. -/
def PtW (T : TypeId) (m : Nat) (v : Value) (w : World) : Prop := ∃ g, v = ptr g ∧ ∃ ys : List Value, ys.length = m ∧ Own w g T ys
theorem PtW.keep (hl : xs.length = zs.length) : stableJ (twoE ia ib is p T zs xs) (.var (PtW T zs.length)) := by
  intro i a v w w' u hE ⟨g, e, ys, hy, hO⟩
  refine ⟨g, e, ?_⟩
  unfold twoE at hE
  split at hE
  · exact ⟨ys, hy, hO.keep hE.2.2⟩
  · split at hE
    · obtain ⟨g', _, h2, h3, _⟩ := hE
      by_cases hg : g = g'
      · subst hg; exact ⟨xs, hl, h2⟩
      · exact ⟨ys, hy, hO.grown h3 (fun e => hg (by injection e))⟩
    · subst hE; exact ⟨ys, hy, hO⟩
theorem two_alloc (hk : plainB ops o (F.map (·.1)) = true) (hi : (k == ia || k == ib) = true) (hg : o.guard = none) (hop : o.op = .alloc T) (z : Value) (hz : (P.info? T).map (·.zero) = some (some z)) (hzs : z.cells.toList = zs) (hl : xs.length = zs.length) (d : Tmp) (hd : o.dst = some d)
    (h : walkJ P ops (twoE ia ib is p T zs xs) C Q (k + 1) rest ((d, PtW T zs.length) :: F) (s.put (some d) undef)) : walkJ P ops (twoE ia ib is p T zs xs) C Q k (o :: rest) F s := by
  obtain ⟨h1, h2⟩ := plainB_spec hk
  refine ⟨.var (PtW T zs.length), PtW.keep hl, fun a w hC hf => ?_, by rw [hd]; exact h⟩
  have hrun : (Instr.alloc T true (.tuple #[])).run P w = .ok (.pointer (some ⟨w.heap.size, 0, none⟩)) (w.alloc (.cells z.cells T)) := by
    cases hq : P.info? T with
    | none => simp [hq] at hz
    | some i =>
      simp [hq] at hz
      simp [Instr.alloc, zeroValue, typeInfo, hq, hz, go_sem]
  rw [if_pos (by simp [Region.wanted, hg])]
  have hO : Own (w.alloc (.cells z.cells T)) w.heap.size T zs := by
    have := Own.new w T z.cells.toList
    rw [Array.toArray_toList] at this
    rw [← hzs]; exact this
  simp only [execOp, hop]
  simp [hrun, Result.andThen]
  refine ⟨?_, ?_⟩
  · unfold twoE
    rw [if_pos (by simpa using hi)]
    exact ⟨rfl, hO, (Below.refl _ _).alloc (Nat.le_refl _) _⟩
  · exact ⟨_, rfl, zs, rfl, hO⟩
theorem two_store (u : Tmp) (hk : oneB ops o p (F.map (·.1)) = true) (hi : (k == is && k != ia && k != ib) = true) (hg : o.guard = none) (hop : o.op = .store T (.tmp p) (.tmp u)) (hup : u ≠ p) (hV : ∀ V', (p, V') ∈ F → V' = PtW T zs.length) (hm : (p, PtW T zs.length) ∈ F) (hps : p < s.tmps.size)
    (n : Nat) (hsz : (P.info? T).map (·.size) = some n) (hx : s.eval (.tmp u) = .agg xs.toArray) (hn : xs.length = n) (hl : zs.length = n) (h1c : ∀ v ∈ xs, v.oneCell' = true) (hd : o.dst = none)
    (h : walkJ P ops (twoE ia ib is p T zs xs) C Q (k + 1) rest F s) : walkJ P ops (twoE ia ib is p T zs xs) C Q k (o :: rest) F s := by
  obtain ⟨h1, hlk, h2⟩ := oneB_spec hk
  simp only [Bool.and_eq_true, beq_iff_eq, bne_iff_ne] at hi
  refine ⟨.det undef, fun _ _ _ _ _ _ _ h => h, fun a w hC hf => ?_, by rw [hd]; exact h⟩
  obtain ⟨v, hv, hag⟩ := put_agree hV hm hps h2 hf hlk
  obtain ⟨g, rfl, ys, hy, hO⟩ := hv
  obtain ⟨e1, e2⟩ := eval_agree h1 hag
  have hap : a.tmps[p]? = some (ptr g) := by rw [hag p hlk, put_same _ _ _ hps]
  rw [if_pos (by simp [Region.wanted, hg]), e1]
  have ex : (s.put (some p) (ptr g)).eval (.tmp p) = .pointer (some ⟨g, 0, none⟩) := by
    show (s.put (some p) (ptr g)).tmps.getD p undef = _
    rw [Array.getD_eq_getD_getElem?, put_same _ _ _ hps]; rfl
  have eu : (s.put (some p) (ptr g)).eval (.tmp u) = .agg xs.toArray := by
    rw [← hx]
    show (s.put (some p) (ptr g)).tmps.getD u undef = s.tmps.getD u undef
    rw [Array.getD_eq_getD_getElem?, Array.getD_eq_getD_getElem?, put_other _ _ _ _ (fun e => hup (by injection e with e; exact e.symm))]
  have hrun := run_storeVar_row (P := P) w g T T ys.toArray xs.toArray hO (by simp [hsz, hn]) (by simp; omega) (by simpa using h1c)
  have hO' : Own (w.setRow g xs.toArray) g T xs := setRow_heap w g _ _ T _ hO
  have hG : w.grownBy (w.setRow g xs.toArray) (some g) := ⟨rfl, rfl, rfl, by simp [World.setRow], fun j _ hj => setRow_other w g j _ (fun q => hj (by rw [q]))⟩
  simp only [execOp, hop, ex, eu, Instr.storeAt, Instr.sureAddr, Sem.run_bind, Sem.run_pure, Result.andThen_ok, hrun]
  refine ⟨?_, rfl⟩
  unfold twoE
  rw [if_neg (by rintro (h | h) <;> omega), if_pos hi.1.1]
  exact ⟨g, hap, hO', hG, by simp [World.setRow]⟩
end

end Go.Proofs.Ytdninhdabeddeaa
