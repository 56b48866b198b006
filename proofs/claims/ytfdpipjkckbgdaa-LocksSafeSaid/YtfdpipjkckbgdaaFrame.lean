/-
  THE FRAME of a statement's proof, mine: how an argument that reads as data is opened; that all arguments read as they did where nothing old has turned.
-/
import Derived.Test.YtfdpipjkckbgdaaBase
import Derived.ProofKit
import Derived.OpenShut
import Derived.ChangeOld
import Derived.Deep.Slices
import Derived.Deep.Fields
namespace Go.Proofs.Ytfdpipjkckbgdaa
open Go.ChangeShapes Go.WideShapes Go.ChangeAt Go.RowKit

theorem own_ : ownKnob Try.prog.godebug = none := by kernel_rfl
theorem laidOut_ : laidOutB Try.prog = true := by kernel_rfl

theorem i64_of_wf {x : Int} (h : (Lit.int .i64 x).wf = true) : I64 x := by
  simp [Lit.wf, IntKind.min, IntKind.max, IntKind.signed, IntKind.bits] at h
  exact ⟨by omega, by omega⟩

theorem trodAll_keep {H : Type} {enc : TypeId × Value → H} {W W' : World} (hb : Below W.heap.size W W') :
    ∀ {ts : List TypeId} {vs : List Value} {ds : List (DataW H)} {p : List MemPlace},
      (∀ t ∈ ts, Try.prog.readableRec t = true ∧ t < Try.prog.types.size) →
      DataW.TrodAll enc Try.prog W 0 (fun _ => true) true ts vs ds p →
      DataW.TrodAll enc Try.prog W' 0 (fun b => decide (b < W.heap.size)) true ts vs ds p
  | [], [], [], _, _, h => h
  | t :: ts, v :: vs, d :: ds, _, ht, h => by
    obtain ⟨p, q, h1, h2, rfl⟩ := h
    have lt1 : ∀ x ∈ p, x.block < W.heap.size := by obtain ⟨m, hm⟩ := h1; exact DataW.trod_lt m _ _ _ hm
    obtain ⟨r1, r2⟩ := ht t (by simp)
    exact ⟨p, q, Below.trod laidOut_ r1 r2 h1 hb lt1, trodAll_keep hb (fun t' h' => ht t' (by simp [h'])) h2, rfl⟩
  | [], _ :: _, _, _, _, h => by cases h
  | [], [], _ :: _, _, _, h => by cases h
  | _ :: _, [], _, _, _, h => by cases h
  | _ :: _, _ :: _, [], _, _, h => by cases h

theorem bool_back {H : Type} {enc : TypeId × Value → H} {W : World} {base : Nat} {sp : Nat → Bool} {hd : Bool} :
    DataW.TrodAll enc Try.prog W base sp hd [ 4 ] [.bool true] [.lit (.bool true)] [] := trodAll_mk1 (shut_bool Try.underlying4 true)

section
variable {H : Type} {enc : TypeId × Value → H} {W : World} {base : Nat} {v : Value} {d : DataW H} {p : List MemPlace}

set_option maxRecDepth 100000 in
theorem open_i64 (hv : Value.okWide Try.prog W .any base 3 v) (h : DataW.Trod enc Try.prog W 0 (fun _ => true) true 3 v d p) : ∃ x, v = .int .i64 x ∧ I64 x := by
  obtain ⟨x, rfl, _, _, w⟩ := open_int Try.underlying3 hv h
  exact ⟨x, rfl, i64_of_wf w⟩

set_option maxRecDepth 100000 in
theorem open_u64 (hv : Value.okWide Try.prog W .any base 106 v) (h : DataW.Trod enc Try.prog W 0 (fun _ => true) true 106 v d p) : ∃ x : Nat, v = .int .u64 (x : Int) ∧ x < 18446744073709551616 := by
  obtain ⟨x, rfl, _, _, w⟩ := open_int Try.underlying106 hv h
  obtain ⟨h0, h1⟩ := bounds_u64 w
  exact ⟨x.toNat, by rw [Int.toNat_of_nonneg h0], by omega⟩

set_option maxRecDepth 100000 in
theorem open_b (hv : Value.okWide Try.prog W .any base 4 v) (h : DataW.Trod enc Try.prog W 0 (fun _ => true) true 4 v d p) : ∃ x, v = .bool x := by
  obtain ⟨x, rfl, _, _⟩ := open_bool Try.underlying4 hv h
  exact ⟨x, rfl⟩

theorem add_off {a : Addr} {w : World} {u : Value} (h0 : w.cell? (a.add 0) = some u) : ∃ b off, a = ⟨b, off, none⟩ ∧ ∀ i, a.add i = ⟨b, off + i, none⟩ := by
  obtain ⟨b, off, spot⟩ := a
  have hs : spot = none := World.cell?_spot (a := ⟨b, off, spot⟩) (by simpa [Addr.add] using h0)
  subst hs
  refine ⟨b, off, rfl, fun i => ?_⟩
  unfold Addr.add
  split
  · rename_i h; subst h; rfl
  · rfl

set_option maxRecDepth 100000 in
theorem open_rd_ints (hv : Value.okWide Try.prog W .any base 22 v) (h : DataW.Trod enc Try.prog W 0 (fun _ => true) true 22 v d p) :
    ∃ A n c zs, v = .slice A n c ∧ IntsArg W A n zs := by
  obtain ⟨a, len, cap, rfl⟩ := okWide_slice Try.underlying22 hv
  obtain ⟨fuel, hf⟩ := h
  rcases open_ints Try.underlying22 Try.underlying3 (by kernel_rfl) hf with ⟨hcs, _⟩ | ⟨x, l, c, zs, hcs, _, hl, hm, hz, _, hcell, hwz⟩
  · simp [Value.cells] at hcs
    obtain ⟨rfl, rfl, rfl⟩ := hcs
    exact ⟨_, _, _, [], rfl, rfl, by omega, Rd.nil _ _, by simp⟩
  · simp [Value.cells] at hcs
    obtain ⟨rfl, rfl, rfl⟩ := hcs
    simp at hz
    refine ⟨_, _, _, zs.take len, rfl, by simp; omega, by unfold maxLen at hm; omega, ?_, fun z hz' => i64_of_wf (hwz z (List.mem_of_mem_take hz'))⟩
    intro k u hk
    have hk' : k < len ∧ k < zs.length := by
      have := (List.getElem?_eq_some_iff.1 hk).1
      simp [ints] at this; omega
    rw [ints_get _ k (by simp; omega)] at hk
    injection hk with hk
    have h1 := hcell k hk'.2
    obtain ⟨b, off, rfl, h2⟩ := add_off (hcell 0 (by omega))
    refine ⟨b, off, rfl, ?_⟩
    rw [h2] at h1
    rw [h1, ← hk]
    simp [hk'.2]

end

theorem getD_lt {α : Type} (l : List α) (i : Nat) (x : α) (h : i < l.length) : l.getD i x = l[i] := by simp [h]
theorem getD_mem {α : Type} (l : List α) (i : Nat) (x : α) (h : i < l.length) : l.getD i x ∈ l := by rw [getD_lt l i x h]; exact List.getElem_mem _

/-- All fields of a struct are of type int, one cell each. -/
def allIntB (P : Program) (fs : Array Field) : Bool := (List.range fs.size).all fun i => match fs[i]? with
  | some f => f.offset == i && P.cellsOf f.type == 1 && (match P.underlying f.type with | some (.int .i64) => true | _ => false)
  | none => false
theorem allInt_of {P : Program} {fs : Array Field} (h : allIntB P fs = true) (i : Nat) (f : Field) (hi : fs[i]? = some f) : f.offset = i ∧ P.cellsOf f.type = 1 ∧ P.underlying f.type = some (.int .i64) := by
  have hlt : i < fs.size := (Array.getElem?_eq_some_iff.1 hi).1
  have := List.all_eq_true.1 h i (List.mem_range.2 hlt)
  simp only [hi, Bool.and_eq_true, beq_iff_eq] at this
  refine ⟨this.1.1, this.1.2, ?_⟩
  have h2 := this.2
  split at h2
  · assumption
  · cases h2

section
variable {H : Type} {enc : TypeId × Value → H} {P : Program} {W : World} {b0 : Nat} {sp : Nat → Bool} {hd : Bool}

theorem trod_ints {fuel : Nat} {e : TypeId} {fs : Array Field} {cs : List Value} {x : DataW H × List MemPlace} (hs : P.underlying e = some (.struct fs)) (hone : allIntB P fs = true) (hC : P.cellsOf e = fs.size)
    (h : DataW.trod enc P W b0 sp hd fuel e cs = some x) : ∃ zs : List Int, zs.length = fs.size ∧ cs = ints zs ∧ ∀ z ∈ zs, I64 z := by
  obtain ⟨xs, n, _, _, hlen, hxl, hf⟩ := DataW.trod_struct hs h
  have each : ∀ i (hi : i < cs.length), ∃ z : Int, cs[i] = .int .i64 z ∧ I64 z := by
    intro i hi
    have hi' : i < fs.size := by omega
    obtain ⟨h1, h2, h3⟩ := allInt_of hone i fs[i] (Array.getElem?_eq_getElem hi')
    have h4 := hf i fs[i] (Array.getElem?_eq_getElem hi')
    rw [h1, h2, List.drop_eq_getElem_cons hi, List.getElem?_eq_getElem (by omega), List.take_succ_cons, List.take_zero] at h4
    obtain ⟨z, hz, _, hw⟩ := DataW.trod_int h3 h4
    injection hz with hz _
    exact ⟨z, hz, i64_of_wf hw⟩
  refine ⟨(List.range cs.length).map fun i => if hi : i < cs.length then (each i hi).choose else 0, by simp; omega, ?_, ?_⟩
  · refine List.ext_getElem (by simp [ints]) fun i h1 h2 => ?_
    simp only [ints, List.getElem_map, List.getElem_range, h1, dite_true]
    exact (each i h1).choose_spec.1
  · intro z hz
    simp only [List.mem_map, List.mem_range] at hz
    obtain ⟨i, hi, rfl⟩ := hz
    simp only [hi, dite_true]
    exact (each i hi).choose_spec.2

/-- A slice of structs of integers: each element's numbers. -/
theorem open_rows {r : Reach} {base : Nat} {t e : TypeId} {fs : Array Field} {v : Value} {d : DataW H} {p : List MemPlace} (ht : P.underlying t = some (.slice e)) (hs : P.underlying e = some (.struct fs)) (hone : allIntB P fs = true) (hC : P.cellsOf e = fs.size) (hpos : 0 < fs.size)
    (hv : Value.okWide P W r base t v) (h : DataW.Trod enc P W 0 (fun _ => true) true t v d p) :
    ∃ A n c, v = .slice A n c ∧ n ≤ 9223372036854775807 ∧ ∃ L : Nat → List Int, ∀ i, i < n → (L i).length = fs.size ∧ (∀ z ∈ L i, I64 z) ∧ ∀ j (hj : j < (L i).length), ∃ b off, A = some ⟨b, off, none⟩ ∧ W.cell? ⟨b, off + (i * fs.size + j), none⟩ = some (.int .i64 (L i)[j]) := by
  obtain ⟨a, len, cap, rfl⟩ := okWide_slice ht hv
  obtain ⟨fuel, hf⟩ := h
  rcases Go.Deep.open_slice ht hf with ⟨hcs, _⟩ | ⟨a', len', cap', m, n, D, Pl, hcs, _, hl, hm, hmm, _, hi⟩
  · simp [Value.cells] at hcs
    obtain ⟨rfl, rfl, rfl⟩ := hcs
    exact ⟨_, _, _, rfl, by omega, fun _ => [], fun i hi => by omega⟩
  · simp [Value.cells] at hcs
    obtain ⟨rfl, rfl, rfl⟩ := hcs
    simp at hmm
    subst hmm
    have each : ∀ i, i < m → ∃ zs : List Int, zs.length = fs.size ∧ (∀ z ∈ zs, I64 z) ∧ ∀ j (hj : j < zs.length), W.cell? (a'.add (i * fs.size + j)) = some (.int .i64 zs[j]) := by
      intro i him
      obtain ⟨cs', hc, htr⟩ := hi i him
      rw [hC] at hc
      obtain ⟨_, hcl, hat⟩ := World.cells?_some hc
      obtain ⟨zs, hzl, rfl, hwf⟩ := trod_ints hs hone hC htr
      refine ⟨zs, hzl, hwf, fun j hj => ?_⟩
      have h1 := hat j (by omega)
      rw [Go.Deep.add_add] at h1
      rw [h1, ints_get zs j hj]
    refine ⟨_, _, _, rfl, by unfold maxLen at hm; omega, fun i => if hi : i < m then (each i hi).choose else [], fun i hin => ?_⟩
    have him : i < m := by omega
    simp only [him, dite_true]
    obtain ⟨g1, g2, g3⟩ := (each i him).choose_spec
    refine ⟨g1, g2, fun j hj => ?_⟩
    obtain ⟨f1, f2, f3⟩ := (each 0 (by omega)).choose_spec
    have h0 := f3 0 (by omega)
    simp only [Nat.zero_mul, Nat.add_zero] at h0
    obtain ⟨b, off, rfl, hadd⟩ := add_off h0
    exact ⟨b, off, rfl, by rw [← hadd]; exact g3 j hj⟩

theorem open_pairs {r : Reach} {base : Nat} {t e : TypeId} {fs : Array Field} {v : Value} {d : DataW H} {p : List MemPlace} (ht : P.underlying t = some (.slice e)) (hs : P.underlying e = some (.struct fs)) (hone : allIntB P fs = true) (hC : P.cellsOf e = fs.size) (h2 : fs.size = 2)
    (hv : Value.okWide P W r base t v) (h : DataW.Trod enc P W 0 (fun _ => true) true t v d p) : ∃ A n c ps, v = .slice A n c ∧ PairsArg W A n ps := by
  obtain ⟨A, n, c, rfl, hn, L, hL⟩ := open_rows ht hs hone hC (by omega) hv h
  rw [h2] at hL
  refine ⟨A, n, c, (List.range n).map fun i => ((L i).getD 0 0, (L i).getD 1 0), rfl, by simp, hn, ?_, ?_⟩
  · intro k u hk
    have hlt := (List.getElem?_eq_some_iff.1 hk).1
    rw [pairs_len] at hlt
    simp at hlt
    have hdiv : k = k / 2 * 2 + k % 2 := by omega
    have hi : k / 2 < n := by omega
    obtain ⟨g1, _, g3⟩ := hL (k / 2) hi
    obtain ⟨p1, p2⟩ := pairs_get ((List.range n).map fun i => ((L i).getD 0 0, (L i).getD 1 0)) (k / 2) (by simpa using hi)
    obtain ⟨b, off, rfl, hc⟩ := g3 (k % 2) (by omega)
    refine ⟨b, off, rfl, ?_⟩
    have hg : (L (k / 2))[k % 2] = (L (k / 2)).getD (k % 2) 0 := (getD_lt _ _ _ (by omega)).symm
    rw [← hdiv, hg] at hc
    rw [hc, ← hk]
    rcases Nat.mod_two_eq_zero_or_one k with h0 | h0
    · rw [h0, Nat.add_zero] at hdiv
      rw [← hdiv] at p1
      rw [p1]
      simp [h0]
    · rw [h0] at hdiv
      rw [← hdiv] at p2
      rw [p2]
      simp [h0]
  · intro p hp
    simp only [List.mem_map, List.mem_range] at hp
    obtain ⟨i, hi, rfl⟩ := hp
    obtain ⟨g1, g2, _⟩ := hL i hi
    exact ⟨g2 _ (getD_mem _ _ _ (by omega)), g2 _ (getD_mem _ _ _ (by omega))⟩
theorem open_trips {r : Reach} {base : Nat} {t e : TypeId} {fs : Array Field} {v : Value} {d : DataW H} {p : List MemPlace} (ht : P.underlying t = some (.slice e)) (hs : P.underlying e = some (.struct fs)) (hone : allIntB P fs = true) (hC : P.cellsOf e = fs.size) (h2 : fs.size = 3)
    (hv : Value.okWide P W r base t v) (h : DataW.Trod enc P W 0 (fun _ => true) true t v d p) : ∃ A n c ps, v = .slice A n c ∧ TripsArg W A n ps := by
  obtain ⟨A, n, c, rfl, hn, L, hL⟩ := open_rows ht hs hone hC (by omega) hv h
  rw [h2] at hL
  refine ⟨A, n, c, (List.range n).map fun i => ((L i).getD 0 0, (L i).getD 1 0, (L i).getD 2 0), rfl, by simp, hn, ?_, ?_⟩
  · intro k u hk
    have hlt := (List.getElem?_eq_some_iff.1 hk).1
    rw [trips_len] at hlt
    simp at hlt
    have hdiv : k = k / 3 * 3 + k % 3 := by omega
    have hi : k / 3 < n := by omega
    obtain ⟨g1, _, g3⟩ := hL (k / 3) hi
    obtain ⟨p1, p2, p3⟩ := trips_get ((List.range n).map fun i => ((L i).getD 0 0, (L i).getD 1 0, (L i).getD 2 0)) (k / 3) (by simpa using hi)
    obtain ⟨b, off, rfl, hc⟩ := g3 (k % 3) (by omega)
    refine ⟨b, off, rfl, ?_⟩
    have hg : (L (k / 3))[k % 3] = (L (k / 3)).getD (k % 3) 0 := (getD_lt _ _ _ (by omega)).symm
    rw [← hdiv, hg] at hc
    rw [hc, ← hk]
    have h3 : k % 3 = 0 ∨ k % 3 = 1 ∨ k % 3 = 2 := by omega
    rcases h3 with h0 | h0 | h0
    · rw [h0, Nat.add_zero] at hdiv
      rw [← hdiv] at p1
      rw [p1]
      simp [h0]
    · rw [h0] at hdiv
      rw [← hdiv] at p2
      rw [p2]
      simp [h0]
    · rw [h0] at hdiv
      rw [← hdiv] at p3
      rw [p3]
      simp [h0]
  · intro p hp
    simp only [List.mem_map, List.mem_range] at hp
    obtain ⟨i, hi, rfl⟩ := hp
    obtain ⟨g1, g2, _⟩ := hL i hi
    exact ⟨g2 _ (getD_mem _ _ _ (by omega)), g2 _ (getD_mem _ _ _ (by omega)), g2 _ (getD_mem _ _ _ (by omega))⟩

/-- A slice's length is not above its capacity. -/
theorem open_cap {t e : TypeId} {A : Option Addr} {n c : Nat} {d : DataW H} {p : List MemPlace} (ht : P.underlying t = some (.slice e)) (h : DataW.Trod enc P W 0 (fun _ => true) true t (.slice A n c) d p) : n ≤ c := by
  obtain ⟨fuel, hf⟩ := h
  rcases Go.Deep.open_slice ht hf with ⟨hcs, _⟩ | ⟨a', len', cap', m, k, D, Pl, hcs, _, hl, _⟩
  · simp [Value.cells] at hcs; omega
  · simp [Value.cells] at hcs; omega

/-- A struct of integers by value. -/
theorem open_struct {r : Reach} {base : Nat} {t : TypeId} {fs : Array Field} {v : Value} {d : DataW H} {p : List MemPlace} (hs : P.underlying t = some (.struct fs)) (hone : allIntB P fs = true) (hC : P.cellsOf t = fs.size)
    (hv : Value.okWide P W r base t v) (h : DataW.Trod enc P W 0 (fun _ => true) true t v d p) : ∃ zs : List Int, zs.length = fs.size ∧ v = .agg (ints zs).toArray ∧ ∀ z ∈ zs, I64 z := by
  obtain ⟨cs, rfl, _⟩ := okWide_struct hs hv
  obtain ⟨fuel, hf⟩ := h
  obtain ⟨zs, h1, h2, h3⟩ := trod_ints hs hone hC hf
  refine ⟨zs, h1, ?_, h3⟩
  simp [Value.cells] at h2
  rw [← h2]

end

section
variable {H : Type} {enc : TypeId × Value → H} {W : World} {base : Nat} {v : Value} {d : DataW H} {p : List MemPlace}

set_option maxRecDepth 100000 in
theorem open_rd_intsc (hv : Value.okWide Try.prog W .any base 22 v) (h : DataW.Trod enc Try.prog W 0 (fun _ => true) true 22 v d p) : ∃ A n c ps, v = .slice A n c ∧ IntsArg W A n ps ∧ n ≤ c := by
  obtain ⟨A, n, c, ps, rfl, g⟩ := open_rd_ints hv h
  exact ⟨A, n, c, ps, rfl, g, open_cap Try.underlying22 h⟩

set_option maxRecDepth 100000 in
theorem open_rd_mutexes (hv : Value.okWide Try.prog W .any base 30 v) (h : DataW.Trod enc Try.prog W 0 (fun _ => true) true 30 v d p) : ∃ A n c ps, v = .slice A n c ∧ PairsArg W A n ps :=
  open_pairs Try.underlying30 Try.underlying29 (by kernel_rfl) (by kernel_rfl) rfl hv h

set_option maxRecDepth 100000 in
theorem open_rd_mutexesc (hv : Value.okWide Try.prog W .any base 30 v) (h : DataW.Trod enc Try.prog W 0 (fun _ => true) true 30 v d p) : ∃ A n c ps, v = .slice A n c ∧ PairsArg W A n ps ∧ n ≤ c := by
  obtain ⟨A, n, c, ps, rfl, g⟩ := open_rd_mutexes hv h
  exact ⟨A, n, c, ps, rfl, g, open_cap Try.underlying30 h⟩

end

end Go.Proofs.Ytfdpipjkckbgdaa
