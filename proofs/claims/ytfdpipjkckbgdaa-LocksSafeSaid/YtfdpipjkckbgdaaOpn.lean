/-
  OPENERS for structs of mixed fields, mine: cells of such types are one cell each; a field's cells; a slice of structs as one flat list; a whole struct loaded out of cells that read so.
-/
import Derived.Test.YtfdpipjkckbgdaaFrame
import Derived.Test.YtfdpipjkckbgdaaArr
namespace Go.Proofs.Ytfdpipjkckbgdaa
open Go.ChangeShapes Go.WideShapes Go.ChangeAt Go.RowKit

/-- Types whose values are cells side by side, each one cell. -/
def leafB (P : Program) : Nat → TypeId → Bool
  | 0, _ => false
  | d + 1, t => match P.underlying t with
    | some (.int _) => true
    | some .bool => true
    | some .string => true
    | some (.slice _) => true
    | some (.struct fs) => (List.range (P.cellsOf t)).all fun j => fs.toList.any fun f => decide (f.offset ≤ j) && decide (j < f.offset + P.cellsOf f.type) && leafB P d f.type
    | _ => false

section
variable {H : Type} {enc : TypeId × Value → H} {P : Program} {W : World} {b0 : Nat} {sp : Nat → Bool} {hd : Bool}

theorem leaf_one : ∀ (d : Nat) (t : TypeId) (fuel : Nat) (cs : List Value) (x : DataW H × List MemPlace), leafB P d t = true → DataW.trod enc P W b0 sp hd fuel t cs = some x → ∀ u ∈ cs, u.oneCell' = true
  | 0, _, _, _, _, h, _ => by cases h
  | d + 1, t, fuel, cs, x, h, hx => by
    unfold leafB at h
    split at h
    · rename_i k hu
      obtain ⟨z, rfl, _⟩ := DataW.trod_int hu hx
      intro u hu'; simp at hu'; subst hu'; rfl
    · rename_i hu
      obtain ⟨z, rfl, _⟩ := DataW.trod_bool hu hx
      intro u hu'; simp at hu'; subst hu'; rfl
    · rename_i hu
      obtain ⟨z, rfl, _⟩ := DataW.trod_string hu hx
      intro u hu'; simp at hu'; subst hu'; rfl
    · rename_i e hu
      rcases DataW.trod_slice hu hx with ⟨rfl, _⟩ | ⟨a, l, c, _, _, _, _, rfl, _⟩
      · intro u hu'; simp at hu'; subst hu'; rfl
      · intro u hu'; simp at hu'; subst hu'; rfl
    · rename_i fs hu
      obtain ⟨xs, n, _, _, hlen, hxl, hf⟩ := DataW.trod_struct hu hx
      intro u hu'
      obtain ⟨j, hj, rfl⟩ := List.getElem_of_mem hu'
      have h1 := List.all_eq_true.1 h j (List.mem_range.2 (by omega))
      rw [List.any_eq_true] at h1
      obtain ⟨f, hfm, h2⟩ := h1
      simp only [Bool.and_eq_true, decide_eq_true_eq] at h2
      obtain ⟨⟨h3, h4⟩, h5⟩ := h2
      obtain ⟨i, hi, hfi⟩ := List.getElem_of_mem hfm
      have hi' : i < fs.size := by simpa using hi
      have hfi' : fs[i]? = some f := by rw [Array.getElem?_eq_getElem hi']; congr 1
      have h6 := hf i f hfi'
      rw [List.getElem?_eq_getElem (by omega)] at h6
      refine leaf_one d f.type n _ _ h5 h6 _ ?_
      rw [List.mem_iff_getElem?]
      exact ⟨j - f.offset, by rw [List.getElem?_take, if_pos (by omega), List.getElem?_drop, show f.offset + (j - f.offset) = j by omega]; exact List.getElem?_eq_getElem hj⟩
    · cases h

/-- A field's cells, read as its type says. -/
theorem field_trod {t : TypeId} {fs : Array Field} {fuel : Nat} {cs : List Value} {x : DataW H × List MemPlace} (hs : P.underlying t = some (.struct fs)) (h : DataW.trod enc P W b0 sp hd fuel t cs = some x) (i o k : Nat) (ft : TypeId)
    (hf : (fs[i]?).map (fun f => (f.offset, f.type)) = some (o, ft)) (hk : P.cellsOf ft = k) : ∃ n y, DataW.trod enc P W b0 sp hd n ft ((cs.drop o).take k) = some y := by
  obtain ⟨xs, n, _, _, hlen, hxl, hfs⟩ := DataW.trod_struct hs h
  cases hq : fs[i]? with
  | none => simp [hq] at hf
  | some f =>
    simp [hq] at hf
    obtain ⟨rfl, rfl⟩ := hf
    have h6 := hfs i f hq
    have hi : i < fs.size := (Array.getElem?_eq_some_iff.1 hq).1
    rw [List.getElem?_eq_getElem (by omega), hk] at h6
    exact ⟨n, _, h6⟩
theorem take_one {cs : List Value} {o : Nat} {v : Value} (h : (cs.drop o).take 1 = [v]) : cs[o]? = some v := by
  have : ((cs.drop o).take 1)[0]? = some v := by rw [h]; rfl
  rwa [List.getElem?_take, if_pos (by omega), List.getElem?_drop, Nat.add_zero] at this
theorem field_int {t : TypeId} {fs : Array Field} {fuel : Nat} {cs : List Value} {x : DataW H × List MemPlace} (hs : P.underlying t = some (.struct fs)) (h : DataW.trod enc P W b0 sp hd fuel t cs = some x) (i o : Nat) (ft : TypeId)
    (hf : (fs[i]?).map (fun f => (f.offset, f.type)) = some (o, ft)) (hk : P.cellsOf ft = 1) (hu : P.underlying ft = some (.int .i64)) : ∃ z, cs[o]? = some (.int .i64 z) ∧ I64 z := by
  obtain ⟨n, y, hy⟩ := field_trod hs h i o 1 ft hf hk
  obtain ⟨z, hz, _, hw⟩ := DataW.trod_int hu hy
  exact ⟨z, take_one hz, i64_of_wf hw⟩
theorem field_slice {t e : TypeId} {fs : Array Field} {fuel : Nat} {cs : List Value} {x : DataW H × List MemPlace} (hs : P.underlying t = some (.struct fs)) (h : DataW.trod enc P W b0 sp hd fuel t cs = some x) (i o : Nat) (ft : TypeId)
    (hf : (fs[i]?).map (fun f => (f.offset, f.type)) = some (o, ft)) (hk : P.cellsOf ft = 1) (hu : P.underlying ft = some (.slice e)) : ∃ n y A m c, DataW.trod enc P W b0 sp hd n ft [.slice A m c] = some y ∧ cs[o]? = some (.slice A m c) := by
  obtain ⟨n, y, hy⟩ := field_trod hs h i o 1 ft hf hk
  rcases DataW.trod_slice hu hy with ⟨hz, _⟩ | ⟨a, l, c, _, _, _, _, hz, _⟩
  · exact ⟨n, y, none, 0, 0, by rw [← hz]; exact hy, take_one hz⟩
  · exact ⟨n, y, some a, l, c, by rw [← hz]; exact hy, take_one hz⟩
theorem field_ints {t ft : TypeId} {fs gs : Array Field} {fuel : Nat} {cs : List Value} {x : DataW H × List MemPlace} (hs : P.underlying t = some (.struct fs)) (h : DataW.trod enc P W b0 sp hd fuel t cs = some x) (i o : Nat)
    (hf : (fs[i]?).map (fun f => (f.offset, f.type)) = some (o, ft)) (hu : P.underlying ft = some (.struct gs)) (hone : allIntB P gs = true) (hC : P.cellsOf ft = gs.size) : ∃ zs : List Int, zs.length = gs.size ∧ ∀ j (hj : j < zs.length), cs[o + j]? = some (.int .i64 zs[j]) := by
  obtain ⟨n, y, hy⟩ := field_trod hs h i o gs.size ft hf hC
  obtain ⟨zs, hl, hz, _⟩ := trod_ints hu hone hC hy
  refine ⟨zs, hl, fun j hj => ?_⟩
  have : ((cs.drop o).take gs.size)[j]? = some (.int .i64 zs[j]) := by rw [hz, ints_get zs j hj]
  rwa [List.getElem?_take, if_pos (by omega), List.getElem?_drop] at this

/-- A slice of structs: each element's cells, with what reads them. -/
theorem open_elems {fuel : Nat} {t e : TypeId} {A : Option Addr} {m c k : Nat} {x : DataW H × List MemPlace} (ht : P.underlying t = some (.slice e)) (hC : P.cellsOf e = k) (hpos : 0 < k)
    (h : DataW.trod enc P W 0 (fun _ => true) hd fuel t [.slice A m c] = some x) :
    m ≤ 9223372036854775807 ∧ m ≤ c ∧ ∃ L : Nat → List Value, ∀ i, i < m → (L i).length = k ∧ (∃ n y, DataW.trod enc P W 0 (fun _ => true) hd n e (L i) = some y) ∧ ∀ j v, (L i)[j]? = some v → ∃ b off, A = some ⟨b, off, none⟩ ∧ W.cell? ⟨b, off + (i * k + j), none⟩ = some v := by
  subst hC
  rcases Go.Deep.open_slice ht h with ⟨hcs, _⟩ | ⟨a', len', cap', m', n, D, Pl, hcs, _, hl, hm, hmm, _, hi⟩
  · simp at hcs
    obtain ⟨rfl, rfl, rfl⟩ := hcs
    exact ⟨by omega, by omega, fun _ => [], fun i hi => by omega⟩
  · simp at hcs
    obtain ⟨rfl, rfl, rfl⟩ := hcs
    simp at hmm
    subst hmm
    have each : ∀ i, i < m' → ∃ cs : List Value, cs.length = P.cellsOf e ∧ (∃ n y, DataW.trod enc P W 0 (fun _ => true) hd n e cs = some y) ∧ ∀ j v, cs[j]? = some v → W.cell? (a'.add (i * P.cellsOf e + j)) = some v := by
      intro i him
      obtain ⟨cs', hc, htr⟩ := hi i him
      obtain ⟨_, hcl, hat⟩ := World.cells?_some hc
      refine ⟨cs', hcl, ⟨_, _, htr⟩, fun j v hj => ?_⟩
      have hjl := (List.getElem?_eq_some_iff.1 hj).1
      have h1 := hat j (by omega)
      rw [Go.Deep.add_add] at h1
      rw [h1]; exact hj
    refine ⟨by unfold maxLen at hm; omega, hl, fun i => if hi : i < m' then (each i hi).choose else [], fun i hin => ?_⟩
    have him : i < m' := by omega
    simp only [him, dite_true]
    obtain ⟨g1, g2, g3⟩ := (each i him).choose_spec
    refine ⟨g1, g2, fun j v hj => ?_⟩
    obtain ⟨f1, _, f3⟩ := (each 0 (by omega)).choose_spec
    have h0 := f3 0 _ (List.getElem?_eq_getElem (by omega))
    simp only [Nat.zero_mul, Nat.add_zero] at h0
    obtain ⟨b, off, rfl, hadd⟩ := add_off h0
    exact ⟨b, off, rfl, by rw [← hadd]; exact g3 j v hj⟩
end

section
variable {H : Type} {enc : TypeId × Value → H} {W : World}
set_option maxRecDepth 100000 in
theorem ints_of_trod {fuel : Nat} {A : Option Addr} {m c : Nat} {x : DataW H × List MemPlace} (hf : DataW.trod enc Try.prog W 0 (fun _ => true) true fuel 22 [.slice A m c] = some x) : ∃ zs, IntsArg W A m zs ∧ m ≤ c := by
  rcases open_ints Try.underlying22 Try.underlying3 (by kernel_rfl) hf with ⟨hcs, _⟩ | ⟨x, l, c', zs, hcs, _, hl, hm, hz, _, hcell, hwz⟩
  · simp at hcs
    obtain ⟨rfl, rfl, rfl⟩ := hcs
    exact ⟨[], ⟨rfl, by omega, Rd.nil _ _, by simp⟩, by omega⟩
  · simp at hcs
    obtain ⟨rfl, rfl, rfl⟩ := hcs
    simp at hz
    refine ⟨zs.take m, ⟨by simp; omega, by unfold maxLen at hm; omega, ?_, fun z hz' => i64_of_wf (hwz z (List.mem_of_mem_take hz'))⟩, hl⟩
    intro k u hk
    have hk' : k < m ∧ k < zs.length := by
      have := (List.getElem?_eq_some_iff.1 hk).1
      simp [ints] at this; omega
    rw [ints_get _ k (by simp; omega)] at hk
    injection hk with hk
    have h1 := hcell k hk'.2
    obtain ⟨b, off, rfl, h2⟩ := add_off (hcell 0 (by omega))
    refine ⟨b, off, rfl, ?_⟩
    rw [h2] at h1
    rw [h1, ← hk]
    simp [hk'.2]
end

/-- Elements of k cells each, flat. -/
def flat (L : List (List Value)) : List Value := L.flatMap id
theorem flat_get {k : Nat} : ∀ (L : List (List Value)), (∀ x ∈ L, x.length = k) → ∀ (i j : Nat) (hi : i < L.length), j < k → (flat L)[i * k + j]? = L[i][j]?
  | [], _, i, _, hi, _ => by simp at hi
  | x :: L, h, i, j, hi, hj => by
    have hx := h x (by simp)
    have e : flat (x :: L) = x ++ flat L := by simp [flat]
    rw [e]
    rcases i with _ | i
    · rw [Nat.zero_mul, Nat.zero_add, List.getElem?_append_left (by omega)]; rfl
    · rw [Nat.succ_mul, show i * k + k + j = k + (i * k + j) by omega, ← hx, List.getElem?_append_right (by omega), hx]
      have := flat_get L (fun y hy => h y (by simp [hy])) i j (by simpa using hi) hj
      simpa using this
theorem flat_len {k : Nat} : ∀ (L : List (List Value)), (∀ x ∈ L, x.length = k) → (flat L).length = L.length * k
  | [], _ => by simp [flat]
  | x :: L, h => by
    have e : flat (x :: L) = x ++ flat L := by simp [flat]
    rw [e, List.length_append, h x (by simp), flat_len L (fun y hy => h y (by simp [hy])), List.length_cons, Nat.succ_mul]; omega
/-- An element's cells. -/
theorem Rd.elem {w : World} {A : Option Addr} {L : List (List Value)} {k : Nat} (h : Rd w A (flat L)) (hk : ∀ x ∈ L, x.length = k) (hpos : 0 < k) {i : Nat} (hi : i < L.length) :
    ∃ b off, A = some ⟨b, off, none⟩ ∧ ∀ j v, L[i][j]? = some v → w.cell? ⟨b, off + i * k + j, none⟩ = some v := by
  have hx := hk L[i] (List.getElem_mem hi)
  have h0 := flat_get L hk i 0 hi hpos
  have h00 : L[i][0]? = some _ := List.getElem?_eq_getElem (by omega : 0 < L[i].length)
  rw [h00] at h0
  obtain ⟨b, off, rfl, _⟩ := h _ _ h0
  refine ⟨b, off, rfl, fun j v hj => ?_⟩
  have hjl := (List.getElem?_eq_some_iff.1 hj).1
  obtain ⟨b', off', e', hc⟩ := h (i * k + j) v (by rw [flat_get L hk i j hi (by omega)]; exact hj)
  injection e' with e'; injection e' with e1 e2
  subst e1; subst e2
  rwa [Nat.add_assoc]

section
variable {P : Program} (w : World) {ops : Array Oper} {rest : List Oper} {o : Oper} {a : Act} {Q : Exit → Act → World → Prop}
/-- A whole struct or array out of cells that read so. -/
theorem wpl_load_rd (hg : o.guard = none) (ty : TypeId) (x : Operand) (hop : o.op = .load ty x) (hd : aggB (P.underlying ty) = true) (n : Nat) (hi : (P.info? ty).map (·.size) = some n)
    (b off : Nat) (hx : a.eval x = .pointer (some ⟨b, off, none⟩)) (cs : List Value) (hn : cs.length = n) (hc : ∀ j v, cs[j]? = some v → w.cell? ⟨b, off + j, none⟩ = some v)
    (h : wpList P ops Q rest (a.put o.dst (.agg cs.toArray)) w) : wpList P ops Q (o :: rest) a w := by
  refine wpList_plain hg fun K hK' => ?_
  obtain ⟨d, h1, h2⟩ := aggB_spec hd
  have hrun : (Instr.loadAt ty (.pointer (some ⟨b, off, none⟩))).run P w = .ok (.agg cs.toArray) w := by
    have hl := run_loadCells_list (P := P) w ⟨b, off, none⟩ cs (fun j v hv => by
      have hadd : (⟨b, off, none⟩ : Addr).add j = ⟨b, off + j, none⟩ := by unfold Addr.add; split <;> simp_all
      rw [hadd]; exact hc j v hv)
    cases hq : P.info? ty with
    | none => simp [hq] at hi
    | some i =>
      have hsz : i.size = n := by simpa [hq] using hi
      have hagg : (isAgg ty).run P w = .ok true w := by
        unfold isAgg
        cases d <;> first | (simp at h2; done) | simp [run_underlying h1, go_sem]
      have hs : (sizeOf ty).run P w = .ok cs.length w := by simp [sizeOf, typeInfo, hq, hsz, hn, go_sem]
      have hl' : (loadCellsFrom ⟨b, off, none⟩ 0 cs.length #[]).run P w = .ok cs.toArray w := by simpa [loadCells] using hl
      simp [Instr.loadAt, Instr.sureAddr, loadVar, hagg, hs, hl', go_sem]
  unfold Oper.wp
  simp only [execOp, hop, hx]
  simp [hrun, Result.andThen]
  exact hK' _ _ h
end

end Go.Proofs.Ytfdpipjkckbgdaa
