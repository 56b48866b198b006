/-
  SLAB: the plain words; what memory bears a slab.
-/
import Derived.Test.YtebkknkgkjblnaaFrmC
import Derived.Test.YtebkknkgkjblnaaMp
namespace Go.Proofs.Ytebkknkgkjblnaa
open Go.RowKit Go.Maps

/-- A sheet: its frame, its size, its slots that are taken. -/
structure Pc where
  f : Nat
  sz : Int
  sl : List Int
def one_ : Value := .int .i64 1
def sq (sl : List Int) : KV := sl.map fun i => (i, one_)
def LS (sl : List Int) : Prop := sl.Pairwise (· < ·)
def sdel (sl : List Int) (k : Int) : List Int := sl.filter fun i => !decide (i = k)
def sins (k : Int) : List Int → List Int
  | [] => [k]
  | y :: r => if k < y then k :: y :: r else y :: sins k r
theorem sq_len (sl : List Int) : (sq sl).length = sl.length := by simp [sq]
theorem sq_get (sl : List Int) (k : Int) : vget (sq sl) k = if k ∈ sl then some one_ else none := by
  by_cases h : k ∈ sl
  · rw [if_pos h]
    unfold vget sq
    cases hf : (sl.map fun i => (i, one_)).find? (fun r => decide (r.1 = k)) with
    | none =>
      have := List.find?_eq_none.1 hf (k, one_) (List.mem_map.2 ⟨k, h, rfl⟩)
      simp at this
    | some y =>
      obtain ⟨z, _, e⟩ := List.mem_map.1 (List.mem_of_find?_eq_some hf)
      rw [← e]; rfl
  · rw [if_neg h, vget_none]
    intro r hr e
    obtain ⟨z, hz, rfl⟩ := List.mem_map.1 hr
    exact h (e ▸ hz)
theorem sq_del (sl : List Int) (k : Int) : vdel (sq sl) k = sq (sdel sl k) := by
  unfold vdel sq sdel
  rw [List.filter_map]; rfl
theorem sq_ins (k : Int) : ∀ sl : List Int, vins (k, one_) (sq sl) = sq (sins k sl)
  | [] => rfl
  | y :: r => by
    show vins (k, one_) ((y, one_) :: sq r) = _
    unfold vins sins
    by_cases h : k < y
    · rw [if_pos h, if_pos h]; rfl
    · rw [if_neg h, if_neg h, sq_ins k r]; rfl
theorem sdel_no {sl : List Int} {k : Int} (h : k ∉ sl) : sdel sl k = sl := by
  unfold sdel
  rw [List.filter_eq_self]
  intro i hi
  simp only [Bool.not_eq_true', decide_eq_false_iff_not]
  exact fun e => h (e ▸ hi)
theorem sq_put {sl : List Int} {k : Int} (h : k ∉ sl) : vput (sq sl) k one_ = sq (sins k sl) := by
  unfold vput
  rw [sq_del, sdel_no h, sq_ins]
theorem sins_mem {k z : Int} : ∀ {sl : List Int}, z ∈ sins k sl ↔ z = k ∨ z ∈ sl
  | [] => by simp [sins]
  | y :: r => by
    unfold sins
    split
    · simp
    · simp only [List.mem_cons, sins_mem (sl := r)]
      constructor
      · rintro (h | h | h)
        · exact .inr (.inl h)
        · exact .inl h
        · exact .inr (.inr h)
      · rintro (h | h | h)
        · exact .inr (.inl h)
        · exact .inl h
        · exact .inr (.inr h)
theorem sins_len (k : Int) : ∀ sl : List Int, (sins k sl).length = sl.length + 1
  | [] => rfl
  | y :: r => by
    unfold sins
    split
    · simp
    · simp [sins_len k r]
theorem LS.ins {k : Int} : ∀ {sl : List Int}, LS sl → k ∉ sl → LS (sins k sl)
  | [], _, _ => List.pairwise_singleton _ _
  | y :: r, h, hn => by
    have h' := List.pairwise_cons.1 h
    have hy : k ≠ y := fun e => hn (by simp [e])
    unfold sins
    split
    · rename_i hlt
      refine List.pairwise_cons.2 ⟨fun z hz => ?_, h⟩
      rcases List.mem_cons.1 hz with rfl | hz
      · exact hlt
      · have := h'.1 z hz; omega
    · rename_i hlt
      refine List.pairwise_cons.2 ⟨fun z hz => ?_, LS.ins h'.2 fun q => hn (by simp [q])⟩
      rcases sins_mem.1 hz with rfl | hz
      · omega
      · exact h'.1 z hz
theorem LS.del {sl : List Int} (h : LS sl) (k : Int) : LS (sdel sl k) := List.Pairwise.filter _ h
theorem sdel_mem {sl : List Int} {k z : Int} : z ∈ sdel sl k ↔ z ∈ sl ∧ z ≠ k := by simp [sdel, List.mem_filter]
theorem sdel_len {k : Int} : ∀ {sl : List Int}, LS sl → k ∈ sl → (sdel sl k).length + 1 = sl.length
  | [], _, h => by cases h
  | y :: r, hs, h => by
    obtain ⟨h1, h2⟩ := List.pairwise_cons.1 hs
    unfold sdel
    by_cases e : y = k
    · subst e
      rw [List.filter_cons_of_neg (by simp)]
      have : r.filter (fun i => !decide (i = y)) = r := by
        rw [List.filter_eq_self]
        intro i hi
        have := h1 i hi
        simp; omega
      rw [this]; rfl
    · rw [List.filter_cons_of_pos (by simp [e])]
      have hk : k ∈ r := by
        rcases List.mem_cons.1 h with q | q
        · exact absurd q.symm e
        · exact q
      have := sdel_len h2 hk
      unfold sdel at this
      rw [List.length_cons, List.length_cons]; omega

/-- Where each frame's sheet lies: the sheet, its map. -/
abbrev AD := Nat → Nat × Nat
def pv_ (ad : AD) (f : Nat) : Value := .pointer (some ⟨(ad f).1, 0, none⟩)
def sm (ad : AD) (L : List Pc) : KV := L.map fun a => ((a.f : Int), pv_ ad a.f)
/-- How many pieces of a size a frame has. -/
def nsl (sz : Int) : Nat := if sz = 16 then 4 else if sz = 32 then 2 else 1
structure Pc.ok (n : Nat) (tk : List Bool) (a : Pc) : Prop where
  lt : a.f < n
  tk : tk[a.f]? = some true
  sz : a.sz = 16 ∨ a.sz = 32 ∨ a.sz = 64
  ls : LS a.sl
  ne : a.sl ≠ []
  sl : ∀ i ∈ a.sl, 0 ≤ i ∧ i < (nsl a.sz : Int)
/-- The sheets by rising frames. -/
structure SP (p : FP) (L : List Pc) : Prop where
  ok : ∀ a ∈ L, a.ok p.n p.tk
  srt : L.Pairwise fun a b => a.f < b.f
def SB (gs gm : Nat) (ad : AD) (L : List Pc) (i : Nat) : Prop := i = gs ∨ i = gm ∨ ∃ a ∈ L, i = (ad a.f).1 ∨ i = (ad a.f).2
/-- Memory that bears a slab (its frames apart). -/
structure SS (w : World) (B gs gm gf : Nat) (ad : AD) (L : List Pc) : Prop where
  own : Own w gs 110 [.func (.func 47) #[.pointer (some ⟨gf, 0, none⟩)] #[], .func (.func 48) #[.pointer (some ⟨gf, 0, none⟩)] #[], .map (some gm)]
  map : MS w gm (sm ad L)
  shs : ∀ a ∈ L, Own w (ad a.f).1 120 [.int .i64 a.sz, .map (some (ad a.f).2)] ∧ MS w (ad a.f).2 (sq a.sl)
  inj : ∀ a ∈ L, ∀ b ∈ L, a.f ≠ b.f → (ad a.f).1 ≠ (ad b.f).1 ∧ (ad a.f).2 ≠ (ad b.f).2
  ngm : ∀ a ∈ L, (ad a.f).2 ≠ gm
  lo : ∀ i, SB gs gm ad L i → B ≤ i
section
variable {w w' : World} {B gs gm gf gb gt c : Nat} {A : Option Addr} {ad : AD} {L : List Pc} {p : FP}
theorem SS.lt (h : SS w B gs gm gf ad L) : ∀ i, SB gs gm ad L i → i < w.heap.size := fun i hi => by
  rcases hi with rfl | rfl | ⟨a, ha, rfl | rfl⟩
  · exact h.own.lt
  · exact h.map.lt
  · exact (h.shs a ha).1.lt
  · exact (h.shs a ha).2.lt
theorem SS.other (h : SS w B gs gm gf ad L) {P P' : Nat → Prop} (a : Tr w w' P P') (hP : ∀ i, SB gs gm ad L i → ¬ P i) : SS w' B gs gm gf ad L :=
  ⟨a.own h.own (hP _ (.inl rfl)), h.map.block (a.block _ h.map.lt (hP _ (.inr (.inl rfl)))), fun x hx => ⟨a.own (h.shs x hx).1 (hP _ (.inr (.inr ⟨x, hx, .inl rfl⟩))), (h.shs x hx).2.block (a.block _ (h.shs x hx).2.lt (hP _ (.inr (.inr ⟨x, hx, .inr rfl⟩))))⟩, h.inj, h.ngm, h.lo⟩
theorem SS.keep (h : SS w B gs gm gf ad L) (hb : Ext w w') : SS w' B gs gm gf ad L :=
  ⟨h.own.keep hb, h.map.keep hb, fun x hx => ⟨(h.shs x hx).1.keep hb, (h.shs x hx).2.keep hb⟩, h.inj, h.ngm, h.lo⟩
/-- A slab and its frames have no block in common. -/
theorem SS.apart (h : SS w B gs gm gf ad L) (hf : FS w B gf gb gt A c p) : ∀ i, SB gs gm ad L i → ¬ FB gf gb gt A i := fun i hi hq => by
  have key : (∃ t xs, Own w i t xs ∧ t ≠ 98 ∧ t ≠ 125 ∧ t ≠ 3) ∨ (∃ K, MS w i K) := by
    rcases hi with rfl | rfl | ⟨a, ha, rfl | rfl⟩
    · exact .inl ⟨_, _, h.own, by decide, by decide, by decide⟩
    · exact .inr ⟨_, h.map⟩
    · exact .inl ⟨_, _, (h.shs a ha).1, by decide, by decide, by decide⟩
    · exact .inr ⟨_, (h.shs a ha).2⟩
  rcases key with ⟨t, xs, ho, t1, t2, t3⟩ | ⟨K, hm⟩
  · rcases hq with rfl | rfl | rfl | hq
    · exact own_ne ho hf.own t1 rfl
    · exact own_ne ho hf.byt t2 rfl
    · exact own_ne ho hf.tak t3 rfl
    · exact row_ne hf.row ho (fun e => t3 e.symm) i hq rfl
  · rcases hq with rfl | rfl | rfl | hq
    · exact hm.own_ne hf.own rfl
    · exact hm.own_ne hf.byt rfl
    · exact hm.own_ne hf.tak rfl
    · exact hm.row_ne hf.row hq
end
theorem sm_get {ad : AD} {L : List Pc} {a : Pc} (ha : a ∈ L) : vget (sm ad L) (a.f : Int) = some (pv_ ad a.f) := by
  unfold vget sm
  cases hf : (L.map fun a => ((a.f : Int), pv_ ad a.f)).find? (fun r => decide (r.1 = (a.f : Int))) with
  | none =>
    have := List.find?_eq_none.1 hf ((a.f : Int), pv_ ad a.f) (List.mem_map.2 ⟨a, ha, rfl⟩)
    simp at this
  | some y =>
    obtain ⟨z, hz, e⟩ := List.mem_map.1 (List.mem_of_find?_eq_some hf)
    have h2 := List.find?_some hf
    rw [← e] at h2 ⊢
    simp only [decide_eq_true_eq] at h2
    have : z.f = a.f := by omega
    simp [this]
theorem sm_none {ad : AD} {L : List Pc} {k : Int} (h : ∀ a ∈ L, (a.f : Int) ≠ k) : vget (sm ad L) k = none := by
  rw [vget_none]
  intro r hr e
  obtain ⟨a, ha, rfl⟩ := List.mem_map.1 hr
  exact h a ha e

end Go.Proofs.Ytebkknkgkjblnaa
