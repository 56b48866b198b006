/-
  WALKS of package frames: New, Take, Give.
-/
import Derived.Test.YtebkknkgkjblnaaFrmA
namespace Go.Proofs.Ytebkknkgkjblnaa
open Go.RowKit
attribute [local go_sem] depUpon Sp.ok

theorem setCell_same {w : World} {g : Nat} {t : TypeId} {xs : List Value} (h : Own w g t xs) {k : Nat} {v : Value} (hv : xs[k]? = some v) : w.setCell ⟨g, k, none⟩ v = w := by
  have e : xs.toArray.setIfInBounds k v = xs.toArray := by
    apply Array.ext_getElem?
    intro i
    rw [Array.getElem?_setIfInBounds]
    by_cases q : k = i
    · subst q
      rw [if_pos rfl]
      have hk := (List.getElem?_eq_some_iff.1 hv).1
      rw [if_pos (by simpa using hk)]
      simpa using hv.symm
    · rw [if_neg q]
  unfold World.setCell
  congr 1
  apply Array.ext_getElem?
  intro i
  simp only [Array.getElem?_modify]
  by_cases q : g = i
  · subst q
    unfold Own at h
    rw [if_pos rfl, h]
    simp [e]
  · rw [if_neg q]
theorem setCells_same {w : World} {g : Nat} {t : TypeId} {xs : List Value} (h : Own w g t xs) : ∀ (vs : List Value) (k : Nat), (∀ j v, vs[j]? = some v → xs[k + j]? = some v) → w.setCells g k vs = w
  | [], _, _ => rfl
  | v :: vs, k, hv => by
    have e := setCell_same h (k := k) (v := v) (hv 0 v rfl)
    show (w.setCell ⟨g, k, none⟩ v).setCells g (k + 1) vs = w
    rw [e]
    exact setCells_same h vs (k + 1) fun j u hu => by
      have := hv (j + 1) u (by simpa using hu)
      rwa [show k + (j + 1) = k + 1 + j by omega] at this
section
variable {P : Program} (w : World) {ops : Array Oper} {rest : List Oper} {o : Oper} {a : Act} {Q : Exit → Act → World → Prop}
/-- A store of what is there already. -/
theorem wpl_store_same (hg : o.guard = none) (ty : TypeId) (x y : Operand) (hop : o.op = .store ty x y) (n : Nat) (hi : (P.info? ty).map (·.size) = some n)
    (g k off : Nat) (hx : a.eval x = .pointer (some ⟨g, off, none⟩)) (hoff : off = k) (ys : List Value) (hy : a.eval y = .agg ys.toArray) (t : TypeId) (xs : List Value) (hO : Own w g t xs) (hn : ys.length = n)
    (hs : ∀ j v, ys[j]? = some v → xs[k + j]? = some v) (h1 : ∀ u ∈ ys, u.oneCell' = true)
    (hK : wpList P ops Q rest (a.put o.dst undef) w) : wpList P ops Q (o :: rest) a w := by
  subst hoff
  have hrun : (storeVar ty ⟨g, off, none⟩ (.agg ys.toArray)).run P w = .ok () w := by
    have := run_storeCells_cells (P := P) g off ys 0 w (fun j hj => by rw [Nat.add_zero, hO.cell, hs j _ (List.getElem?_eq_getElem hj)]; rfl) (fun j _ => hO.frozen _) h1
    rw [Nat.add_zero, setCells_same hO ys off hs] at this
    cases hq : P.info? ty with
    | none => simp [hq] at hi
    | some i =>
      have hz : ys.length = i.size := by simp [hq] at hi; omega
      simp [storeVar, sizeOf, typeInfo, hq, Value.cells, hz, this]
  refine wpList_plain hg fun K hK' => ?_
  unfold Oper.wp execOp
  simp only [hop, hx, hy, Instr.storeAt, Instr.sureAddr, Sem.run_bind, Sem.run_pure, Result.andThen_ok, hrun]
  exact hK' _ _ hK
end
set_option maxRecDepth 100000 in
theorem size_64 : (Try.prog.info? 125).map (·.size) = some 64 := by kernel_rfl
set_option maxRecDepth 1000000 in
theorem run_zero64 (w : World) : (Instr.build 125 #[]).run Try.prog w = .ok (.agg (List.replicate 64 (.int .u8 0)).toArray) w := by kernel_rfl
section
variable {P : Program} (w : World) {ops : Array Oper} {rest : List Oper} {o : Oper} {a : Act} {Q : Exit → Act → World → Prop}
theorem wpl_build0 (hg : o.guard = none) (t : TypeId) (hop : o.op = .build t #[]) (v : Value) (hrun : (Instr.build t #[]).run P w = .ok v w)
    (h : wpList P ops Q rest (a.put o.dst v) w) : wpList P ops Q (o :: rest) a w := by
  refine wpList_plain hg fun K hK' => ?_
  unfold Oper.wp
  simp only [execOp, hop]
  simp only [List.map_toArray, List.map_nil]
  simp only [Sem.run_bind, hrun, Result.andThen_ok]
  exact hK' _ _ h
end
theorem ints_set' (zs : List Int) (k : Nat) (v : Int) : (ints zs).set k (.int .i64 v) = ints (zs.set k v) := by simp [ints, List.map_set]
theorem FP.top_none {p : FP} (h : p.top = none) : p.fr = [] ∧ ¬ p.fs < p.n := by
  unfold FP.top at h
  cases hl : p.fr.getLast? with
  | none =>
    rw [hl] at h
    simp only at h
    split at h
    · cases h
    · rename_i q
      exact ⟨by simpa using hl, q⟩
  | some i => rw [hl] at h; cases h
theorem FP.top_some {p : FP} {i : Nat} (h : p.top = some i) : (p.fr = [] ∧ p.fs < p.n ∧ i = p.fs) ∨ (∃ l, p.fr = l ++ [i] ∧ p.fr ≠ []) := by
  unfold FP.top at h
  cases hl : p.fr.getLast? with
  | none =>
    rw [hl] at h
    simp only at h
    split at h
    · rename_i q
      injection h with h
      exact .inl ⟨by simpa using hl, q, h.symm⟩
    · cases h
  | some j =>
    rw [hl] at h
    simp only at h
    injection h with h
    subst h
    obtain ⟨l, e⟩ := List.getLast?_eq_some_iff.1 hl
    exact .inr ⟨l, e, by rw [e]; simp⟩
theorem FP.top_lt {p : FP} (hp : p.ok) {i : Nat} (h : p.top = some i) : i < p.n ∧ p.tk[i]? = some false := by
  have := hp.fsl
  rcases FP.top_some h with ⟨_, h2, rfl⟩ | ⟨l, h2, _⟩
  · exact ⟨h2, hp.ffs _ (Nat.le_refl _) h2⟩
  · have := hp.fri i (by rw [h2]; simp)
    exact ⟨by omega, this.2⟩
theorem FP.ok.take {p : FP} (hp : p.ok) {i : Nat} (h : p.top = some i) : (p.tkd i).ok := by
  obtain ⟨hi, hf⟩ := FP.top_lt hp h
  have hil : i < p.tk.length := by rw [hp.len]; exact hi
  have hv : p.tk[i] = false := (List.getElem?_eq_some_iff.1 hf).2
  have hc := cntT_set p.tk i hil true
  rw [hv] at hc
  simp only [Bool.false_eq_true, if_false, if_true, Nat.add_zero] at hc
  have hcnt := hp.cnt
  rcases FP.top_some h with ⟨h1, h2, rfl⟩ | ⟨l, h1, h2⟩
  · have e : p.tkd p.fs = { p with tk := p.tk.set p.fs true, fs := p.fs + 1 } := by unfold FP.tkd; rw [if_pos h1]
    rw [e]
    refine ⟨by simp [hp.len], hp.n64, h2, hp.nd, fun j hj => ?_, fun j q1 q2 => ?_, ?_⟩
    · rw [h1] at hj; cases hj
    · simp only at q1 ⊢
      rw [List.getElem?_set_ne (by omega)]
      exact hp.ffs j (by omega) q2
    · simp only; omega
  · have e : p.tkd i = { p with tk := p.tk.set i true, fr := p.fr.dropLast } := by unfold FP.tkd; rw [if_neg h2]
    have e2 : p.fr.dropLast = l := by rw [h1, List.dropLast_concat]
    have hnd := hp.nd
    rw [h1] at hnd
    have hil2 : i ∉ l := fun q => by
      have := List.nodup_append.1 hnd
      exact this.2.2 i q i (by simp) rfl
    rw [e]
    refine ⟨by simp [hp.len], hp.n64, hp.fsl, by simp only [e2]; exact (List.nodup_append.1 hnd).1, fun j hj => ?_, fun j q1 q2 => ?_, ?_⟩
    · simp only [e2] at hj
      have hji : j ≠ i := fun q => hil2 (q ▸ hj)
      have := hp.fri j (by rw [h1]; simp [hj])
      exact ⟨this.1, by simp only; rw [List.getElem?_set_ne (fun q => hji q.symm)]; exact this.2⟩
    · have hji : j ≠ i := fun q => by
        have := hp.fri i (by rw [h1]; simp)
        simp only at q1
        omega
      simp only
      rw [List.getElem?_set_ne (fun q => hji q.symm)]
      exact hp.ffs j q1 q2
    · have hl2 : p.fr.length = l.length + 1 := by rw [h1]; simp
      simp only [e2]; omega
theorem FP.ok.give {p : FP} (hp : p.ok) {i : Nat} (h : p.tk[i]? = some true) : (p.gvn i).ok := by
  have hil : i < p.tk.length := (List.getElem?_eq_some_iff.1 h).1
  have hv : p.tk[i] = true := (List.getElem?_eq_some_iff.1 h).2
  have hc := cntT_set p.tk i hil false
  rw [hv] at hc
  simp only [Bool.false_eq_true, if_false, if_true, Nat.add_zero] at hc
  have hcnt := hp.cnt
  have hin : i < p.n := by rw [← hp.len]; exact hil
  have hfs : i < p.fs := by
    rcases Nat.lt_or_ge i p.fs with q | q
    · exact q
    · have := hp.ffs i q hin
      rw [h] at this; cases this
  have hnf : i ∉ p.fr := fun q => by
    have := (hp.fri i q).2
    rw [h] at this; cases this
  refine ⟨by simp [FP.gvn, hp.len], hp.n64, hp.fsl, ?_, fun j hj => ?_, fun j q1 q2 => ?_, ?_⟩
  · show (p.fr ++ [i]).Nodup
    rw [List.nodup_append]
    exact ⟨hp.nd, by simp, fun a ha b hb q => by
      rw [List.mem_singleton] at hb
      subst hb; subst q
      exact hnf ha⟩
  · have hj' : j ∈ p.fr ++ [i] := hj
    rcases List.mem_append.1 hj' with hj' | hj'
    · have hji : j ≠ i := fun q => hnf (q ▸ hj')
      have := hp.fri j hj'
      exact ⟨this.1, by show (p.tk.set i false)[j]? = _; rw [List.getElem?_set_ne (fun q => hji q.symm)]; exact this.2⟩
    · rw [List.mem_singleton] at hj'
      subst hj'
      exact ⟨hfs, by show (p.tk.set j false)[j]? = _; rw [List.getElem?_set_self hil]⟩
  · have q1' : p.fs ≤ j := q1
    show (p.tk.set i false)[j]? = _
    rw [List.getElem?_set_ne (by omega)]
    exact hp.ffs j q1' q2
  · show cntT (p.tk.set i false) + (p.fr ++ [i]).length = p.fs
    rw [List.length_append, List.length_singleton]; omega

end Go.Proofs.Ytebkknkgkjblnaa
