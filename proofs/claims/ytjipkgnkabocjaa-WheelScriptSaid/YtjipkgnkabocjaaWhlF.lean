/-
  WHEEL: the timers as one list by rising numbers (plain).
-/
import Derived.Test.YtjipkgnkabocjaaWhlE
namespace Go.Proofs.Ytjipkgnkabocjaa
open Go.RowKit

abbrev TL := List (Int × Int)
def TS (L : TL) : Prop := L.Pairwise fun x y => x.1 < y.1
def tins (x : Int × Int) : TL → TL
  | [] => [x]
  | y :: r => if x.1 < y.1 then x :: y :: r else y :: tins x r
def tget (L : TL) (id : Int) : Option (Int × Int) := L.find? fun x => decide (x.1 = id)
theorem tins_perm (x : Int × Int) : ∀ L : TL, (tins x L).Perm (x :: L)
  | [] => List.Perm.refl _
  | y :: r => by
    unfold tins
    split
    · exact List.Perm.refl _
    · exact ((tins_perm x r).cons y).trans (List.Perm.swap x y r)
theorem TS.ins {x : Int × Int} : ∀ {L : TL}, TS L → (∀ r ∈ L, r.1 ≠ x.1) → TS (tins x L)
  | [], _, _ => List.pairwise_singleton _ _
  | y :: r, h, hn => by
    have h' := List.pairwise_cons.1 h
    unfold tins
    split
    · rename_i hlt
      refine List.pairwise_cons.2 ⟨fun z hz => ?_, h⟩
      rcases List.mem_cons.1 hz with rfl | hz
      · exact hlt
      · have := h'.1 z hz; omega
    · rename_i hlt
      have hne := hn y (by simp)
      refine List.pairwise_cons.2 ⟨fun z hz => ?_, TS.ins h'.2 fun q hq => hn q (by simp [hq])⟩
      rcases List.mem_cons.1 ((tins_perm x r).mem_iff.1 hz) with rfl | hz
      · omega
      · exact h'.1 z hz
theorem tget_some {L : TL} {id : Int} {x : Int × Int} (h : tget L id = some x) : x ∈ L ∧ x.1 = id := by
  have h1 := List.mem_of_find?_eq_some h
  have h2 := List.find?_some h
  exact ⟨h1, by simpa using h2⟩
theorem tget_none {L : TL} {id : Int} : tget L id = none ↔ ∀ x ∈ L, x.1 ≠ id := by
  unfold tget
  rw [List.find?_eq_none]
  constructor
  · intro h x hx e; exact h x hx (by simp [e])
  · intro h x hx e; exact h x hx (by simpa using e)
theorem TS.inj {L : TL} (h : TS L) {x y : Int × Int} (hx : x ∈ L) (hy : y ∈ L) (e : x.1 = y.1) : x = y := by
  induction L with
  | nil => cases hx
  | cons z r ih =>
    obtain ⟨h1, h2⟩ := List.pairwise_cons.1 h
    rcases List.mem_cons.1 hx with rfl | hx'
    · rcases List.mem_cons.1 hy with rfl | hy'
      · rfl
      · have := h1 y hy'; omega
    · rcases List.mem_cons.1 hy with rfl | hy'
      · have := h1 x hx'; omega
      · exact ih h2 hx' hy'
theorem tget_of {L : TL} (h : TS L) {x : Int × Int} (hx : x ∈ L) : tget L x.1 = some x := by
  cases ht : tget L x.1 with
  | none => exact absurd rfl (tget_none.1 ht x hx)
  | some y =>
    obtain ⟨h1, h2⟩ := tget_some ht
    rw [h.inj h1 hx h2]
def oI : Option (Int × Int) → Int
  | some x => x.1
  | none => 0
def oA : Option (Int × Int) → Int
  | some x => x.2
  | none => 0
/-- The slots hold these timers. -/
structure Fits (now : Int) (R : RW) (L : TL) : Prop where
  perm : ∀ k, k < 256 → (R k).Perm (L.filter fun x => decide (ix now x.2 = k))
  srt : TS L
  fut : ∀ x ∈ L, now < x.2 ∧ x.2 < 16777216
  lo : 0 ≤ now
  hi : now < 16777216
  len : L.length ≤ 64
theorem Fits.mem {now : Int} {R : RW} {L : TL} (h : Fits now R L) {k : Nat} (hk : k < 256) {x : Int × Int} : x ∈ R k ↔ x ∈ L ∧ ix now x.2 = k := by
  rw [(h.perm k hk).mem_iff, List.mem_filter]; simp
theorem Fits.rlen {now : Int} {R : RW} {L : TL} (h : Fits now R L) (k : Nat) (hk : k < 256) : (R k).length ≤ 64 := by
  rw [(h.perm k hk).length_eq]
  exact Nat.le_trans (List.length_filter_le _ _) h.len
def findE (L : TL) (id : Int) : Ending := .returned (.tuple #[.agg #[.int .i64 (oI (tget L id)), .int .i64 (oA (tget L id))], .bool (tget L id).isSome])
theorem find_fits {now : Int} {R : RW} {L : TL} (h : Fits now R L) {id : Int} {e : Ending} (he : FindP R id e) : e = findE L id := by
  unfold findE
  rcases he with ⟨rfl, hno⟩ | ⟨k, a, hk, hm, rfl⟩
  · have : tget L id = none := tget_none.2 fun x hx => hno (ix now x.2) (ix_hi _ _) x ((h.mem (ix_hi _ _)).2 ⟨hx, rfl⟩)
    rw [this]; rfl
  · have := tget_of h.srt ((h.mem hk).1 hm).1
    rw [show tget L id = some (id, a) from this]; rfl
theorem Fits.zero (now : Int) (h0 : 0 ≤ now) (h1 : now < 16777216) : Fits now R0 [] := ⟨fun k _ => List.Perm.refl _, List.Pairwise.nil, by simp, h0, h1, by simp⟩
/-- What Arm answers. -/
def armE (L : TL) (now id at_ : Int) : Int := if id < 0 ∨ at_ ≤ now ∨ 16777216 ≤ at_ then 2 else if (tget L id).isSome = true then 5 else if L.length = 64 then 3 else 0
def armL (L : TL) (now id at_ : Int) : TL := if armE L now id at_ = 0 then tins (id, at_) L else L
theorem Fits.arm {now : Int} {R : RW} {L : TL} (h : Fits now R L) {id at_ : Int} (hf : now < at_) (h2 : at_ < 16777216) (hn : tget L id = none) (hl : L.length < 64) :
    Fits now (updR R (ix now at_) (R (ix now at_) ++ [(id, at_)])) (tins (id, at_) L) := by
  have hp := tins_perm (id, at_) L
  refine ⟨fun k hk => ?_, h.srt.ins (tget_none.1 hn), fun x hx => ?_, h.lo, h.hi, by rw [hp.length_eq, List.length_cons]; omega⟩
  · refine List.Perm.trans ?_ (hp.filter _).symm
    unfold updR
    by_cases e : k = ix now at_
    · subst e
      rw [if_pos rfl, List.filter_cons_of_pos (by simp)]
      exact List.perm_append_comm.trans ((h.perm _ hk).cons _)
    · rw [if_neg e, List.filter_cons_of_neg (by simpa using fun q => e q.symm)]
      exact h.perm k hk
  · rcases List.mem_cons.1 (hp.mem_iff.1 hx) with rfl | hx
    · exact ⟨hf, h2⟩
    · exact h.fut x hx
/-- The wheel holds the timers L. -/
def WL (w : World) (B g : Nat) (now : Int) (F : FW) (L : TL) : Prop := ∃ R, WS w B g now (L.length : Int) F R ∧ Fits now R L ∧ B ≤ w.heap.size
theorem WL.keep {w w' : World} {B g : Nat} {now : Int} {F : FW} {L : TL} (h : WL w B g now F L) (hb : Ext w w') : WL w' B g now F L := by
  obtain ⟨R, h1, h2, h3⟩ := h
  exact ⟨R, h1.keep hb, h2, Nat.le_trans h3 hb.size⟩

end Go.Proofs.Ytjipkgnkabocjaa
