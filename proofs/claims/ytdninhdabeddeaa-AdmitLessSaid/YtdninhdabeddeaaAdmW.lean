/-
  PLAIN LAWS of AdmitBest: what programs say is nowhere asked.
-/
import Derived.Test.YtdninhdabeddeaaAdmU
namespace Go.Proofs.Ytdninhdabeddeaa
open Go.RowKit

/-- A task but for its program. -/
def core (x : TK) : TK := ⟨x.cls, x.lvl, x.per, x.ddl, x.bud, x.line, x.U, x.un, x.uc, x.us, none, 0, 0, []⟩
theorem someT_core (f g : TK → Bool) (ts : List TK) (h : ∀ y, g (core y) = f y) : ∀ k, someT g (ts.map core) k = someT f ts k
  | 0 => rfl
  | k + 1 => by
    unfold someT
    rw [someT_core f g ts h k, List.getElem?_map]
    cases ts[k]? with
    | none => rfl
    | some x => simp only [Option.map_some, h]
theorem someL_core (f g : TK → Bool) (ts : List TK) (h : ∀ y, g (core y) = f y) : someL g (ts.map core) = someL f ts := by
  unfold someL
  rw [List.length_map]
  exact someT_core f g ts h _
theorem usesOf_core (ts : List TK) (L : List Int) : usesOf (ts.map core) L = usesOf ts L := by
  unfold usesOf
  congr 1
  funext z
  rw [List.getElem?_map]
  cases ts[z.toNat]? <;> rfl
theorem partT_core (ts : List TK) (i : Int) (L : List Int) : partT (ts.map core) i L = partT ts i L := by
  unfold partT
  congr 1
  funext z
  unfold partOf
  split
  · rfl
  · rw [List.getElem?_map]
    cases ts[z.toNat]? <;> rfl
theorem earlL_core : ∀ ts : List TK, earlL (ts.map core) = earlL ts
  | [] => rfl
  | x :: ts => by
    have ih := earlL_core ts
    unfold earlL at ih ⊢
    rw [List.map_cons, List.flatMap_cons, List.flatMap_cons, ih]
    rfl
theorem blkV_core (ts : List TK) (ms : List (Int × Int)) (x : TK) : blkV (ts.map core) ms (core x) = blkV ts ms x := by
  have e : blkL (ts.map core) (core x) = blkL ts x := by
    unfold blkL
    rw [someL_core (cntB x) (cntB (core x)) ts (fun _ => rfl), usesOf_core]
  unfold blkV
  rw [e]
theorem partsV_core (ts : List TK) (gs : List Int) (i : Int) (x : TK) : partsV (ts.map core) gs i (core x) = partsV ts gs i x := by
  unfold partsV
  rw [someL_core (ahdB x) (ahdB (core x)) ts (fun _ => rfl), partT_core]
theorem respV_core (ts : List TK) (ms : List (Int × Int)) (gs : List Int) (k : Nat) (x : TK) : respV (ts.map core) ms gs k (core x) = respV ts ms gs k x := by
  unfold respV
  rw [blkV_core, partsV_core, earlL_core]
  rfl
theorem respAt_core (ts : List TK) (ms : List (Int × Int)) (gs : List Int) (k : Nat) : respAt (ts.map core) ms gs k = respAt ts ms gs k := by
  unfold respAt
  rw [List.getElem?_map]
  cases ts[k]? with
  | none => rfl
  | some x => exact respV_core ts ms gs k x
theorem okAt_core (ts : List TK) (ms : List (Int × Int)) (gs : List Int) (dog : Int) (k : Nat) : okAt (ts.map core) ms gs dog k = okAt ts ms gs dog k := by
  unfold okAt
  rw [List.getElem?_map]
  cases ts[k]? with
  | none => rfl
  | some x =>
    simp only [Option.map_some]
    rw [respV_core]
    rfl
theorem okTo_core (ts : List TK) (ms : List (Int × Int)) (gs : List Int) (dog : Int) (k : Nat) : okTo (ts.map core) ms gs dog k = okTo ts ms gs dog k := by
  unfold okTo
  congr 1
  funext j
  exact okAt_core ts ms gs dog j
theorem respTo_core (ts : List TK) (ms : List (Int × Int)) (gs : List Int) (k : Nat) : respTo (ts.map core) ms gs k = respTo ts ms gs k := by
  unfold respTo
  congr 1
  funext j
  rw [respAt_core]
theorem cntLine_core (ts : List TK) (l : Int) : cntLine (ts.map core) l = cntLine ts l := by
  unfold cntLine
  rw [List.countP_map]
  rfl
theorem mayT_core {nm ng : Nat} {x y : TK} (e : core y = core x) (h : mayT nm ng x = true) (hy : y.on ≤ 40) : mayT nm ng y = true := by
  have hx : mayT nm ng x = (mayT nm ng (core x) && decide (x.on ≤ 40)) := by unfold mayT; rw [show decide ((core x).on ≤ 40) = true from rfl, Bool.and_true]; rfl
  have hy' : mayT nm ng y = (mayT nm ng (core y) && decide (y.on ≤ 40)) := by unfold mayT; rw [show decide ((core y).on ≤ 40) = true from rfl, Bool.and_true]; rfl
  rw [hy', e]
  rw [hx] at h
  simp only [Bool.and_eq_true] at h
  simp [h.1, hy]
theorem mayTs_core {nm ng m : Nat} {ts us : List TK} (hc : us.map core = ts.map core) (ho : ∀ x ∈ us, x.on ≤ 40) (h : mayTs nm ng ts m = true) : mayTs nm ng us m = true := by
  unfold mayTs at h ⊢
  rw [List.all_eq_true] at h ⊢
  intro i hi
  have hi' := h i hi
  have e : (us[i]?).map core = (ts[i]?).map core := by rw [← List.getElem?_map, ← List.getElem?_map, hc]
  cases hu : us[i]? with
  | none => rfl
  | some y =>
    rw [hu] at e
    cases ht : ts[i]? with
    | none => rw [ht] at e; cases e
    | some x =>
      rw [ht] at e hi'
      simp only [Option.map_some, Option.some.injEq] at e
      have hl : y.line = x.line := show (core y).line = (core x).line by rw [e]
      have hcl : cntLine (us.take i) x.line = cntLine (ts.take i) x.line := by
        rw [← cntLine_core (us.take i), ← cntLine_core (ts.take i), List.map_take, List.map_take, hc]
      simp only [Bool.and_eq_true] at hi' ⊢
      refine ⟨mayT_core e hi'.1 (ho y (List.mem_of_getElem? hu)), ?_⟩
      rw [hl, hcl]
      exact hi'.2
/-- What the statement says. -/
structure BestLaw (nt nb ne nm ng : Nat) (ts us : List TK) (bs es : List EF) (ms : List (Int × Int)) (gs : List Int) (fr dog : Int) : Prop where
  adm : admB nt ne nm ng us es ms gs fr dog = admB nt nb nm ng ts bs ms gs fr dog
  res : admR nt ne nm ng us es ms gs fr dog = admR nt nb nm ng ts bs ms gs fr dog
theorem best_law {nt nb ne nm ng : Nat} {ts us : List TK} {bs es : List EF} {ms : List (Int × Int)} {gs : List Int} {fr dog : Int} (h1 : mayC nt nb nm ng ts bs ms gs fr dog = true) (h2 : mayC nt ne nm ng ts es ms gs fr dog = true)
    (hc : us.map core = ts.map core) (ho : ∀ x ∈ us, x.on ≤ 40) : BestLaw nt nb ne nm ng ts us bs es ms gs fr dog := by
  have h3 : mayC nt ne nm ng us es ms gs fr dog = true := by
    unfold mayC at h2 ⊢
    simp only [Bool.and_eq_true] at h2 ⊢
    obtain ⟨⟨⟨⟨⟨⟨⟨⟨a, b⟩, c⟩, d⟩, e⟩, f⟩, g⟩, i⟩, j⟩ := h2
    exact ⟨⟨⟨⟨⟨⟨⟨⟨a, b⟩, c⟩, d⟩, e⟩, f⟩, mayTs_core hc ho g⟩, i⟩, j⟩
  have ha : admB nt ne nm ng us es ms gs fr dog = admB nt nb nm ng ts bs ms gs fr dog := by
    unfold admB
    rw [h1, h3, ← okTo_core us, hc, okTo_core]
  refine ⟨ha, ?_⟩
  unfold admR
  rw [ha, ← respTo_core us, hc, respTo_core]

end Go.Proofs.Ytdninhdabeddeaa
