/-
  WALKS of package slab: Take.
-/
import Derived.Test.YtebkknkgkjblnaaSlbC
import Derived.Test.YtebkknkgkjblnaaMpB
namespace Go.Proofs.Ytebkknkgkjblnaa
open Go.RowKit Go.Maps
attribute [local go_sem] depUpon Sp.ok

theorem row_form {w : World} {base size n : Nat} {e : TypeId} {v : Value} {xs : List Value} (h : w.ownsRow base e size v n xs) : ∃ A c, v = .slice A n c ∧ Row w base e size A n c xs := by
  rcases h.2 with ⟨rfl, h0⟩ | ⟨g, cap, cur, rfl, rest⟩
  · subst h0
    exact ⟨none, 0, rfl, h⟩
  · exact ⟨_, _, rfl, h⟩
def Un (P Q : Nat → Prop) (i : Nat) : Prop := P i ∨ Q i
def fitS (c : Int) (a : Pc) : Option Nat := if a.sz = c then frS (nsl c) a.sl else none
/-- The first sheet of a class with a free slot. -/
def pickS (c : Int) : List Pc → Option (Pc × Nat)
  | [] => none
  | a :: r => match fitS c a with
    | some i => some (a, i)
    | none => pickS c r
theorem pickS_none {c : Int} : ∀ {L : List Pc}, (∀ a ∈ L, fitS c a = none) → pickS c L = none
  | [], _ => rfl
  | a :: r, h => by
    unfold pickS
    rw [h a (by simp)]
    exact pickS_none fun b hb => h b (by simp [hb])
theorem pickS_some {c : Int} {i : Nat} : ∀ {L : List Pc} {j : Nat} (hj : j < L.length), (∀ a ∈ L.take j, fitS c a = none) → fitS c L[j] = some i → pickS c L = some (L[j], i)
  | [], _, hj, _, _ => by cases hj
  | a :: r, 0, _, _, h => by
    unfold pickS
    have h' : fitS c a = some i := h
    rw [h']; rfl
  | a :: r, j + 1, hj, hn, h => by
    unfold pickS
    rw [hn a (by simp)]
    exact pickS_some (by simpa using hj) (fun b hb => hn b (by simp [hb])) h
theorem pickS_inv {c : Int} {a : Pc} {i : Nat} : ∀ {L : List Pc}, pickS c L = some (a, i) → a ∈ L ∧ fitS c a = some i
  | [], h => by cases h
  | b :: r, h => by
    unfold pickS at h
    cases hf : fitS c b with
    | some j =>
      rw [hf] at h
      simp only [Option.some.injEq, Prod.mk.injEq] at h
      obtain ⟨rfl, rfl⟩ := h
      exact ⟨by simp, hf⟩
    | none =>
      rw [hf] at h
      obtain ⟨h1, h2⟩ := pickS_inv (L := r) h
      exact ⟨by simp [h1], h2⟩
def updS (L : List Pc) (f : Nat) (sl : List Int) : List Pc := L.map fun a => if a.f = f then { a with sl := sl } else a
def insP (x : Pc) : List Pc → List Pc
  | [] => [x]
  | y :: r => if x.f < y.f then x :: y :: r else y :: insP x r
theorem insP_mem {x z : Pc} : ∀ {L : List Pc}, z ∈ insP x L ↔ z = x ∨ z ∈ L
  | [] => by simp [insP]
  | y :: r => by
    unfold insP
    split
    · simp
    · simp only [List.mem_cons, insP_mem (L := r)]
      constructor
      · rintro (h | h | h)
        · exact .inr (.inl h)
        · exact .inl h
        · exact .inr (.inr h)
      · rintro (h | h | h)
        · exact .inr (.inl h)
        · exact .inl h
        · exact .inr (.inr h)
theorem frS_spec {K i : Nat} {sl : List Int} (h : frS K sl = some i) : i < K ∧ (i : Int) ∉ sl := by
  unfold frS at h
  have h1 := List.mem_of_find?_eq_some h
  have h2 := List.find?_some h
  exact ⟨List.mem_range.1 h1, by simpa using h2⟩
theorem updS_mem {p : FP} {L : List Pc} (h : SP p L) {a : Pc} (ha : a ∈ L) {sl : List Int} {z : Pc} (hz : z ∈ updS L a.f sl) : z = { a with sl := sl } ∨ (z ∈ L ∧ z.f ≠ a.f) := by
  obtain ⟨x, hx, rfl⟩ := List.mem_map.1 hz
  by_cases e : x.f = a.f
  · rw [if_pos e, h.inj hx ha e]; exact .inl rfl
  · rw [if_neg e]; exact .inr ⟨hx, e⟩
theorem updS_f (L : List Pc) (f : Nat) (sl : List Int) : (updS L f sl).map Pc.f = L.map Pc.f := by
  unfold updS
  rw [List.map_map]
  exact List.map_congr_left fun a _ => by
    simp only [Function.comp]
    split <;> rfl
theorem SP.hit {p : FP} {L : List Pc} (h : SP p L) {a : Pc} (ha : a ∈ L) {c : Int} {i : Nat} (hf : fitS c a = some i) : SP p (updS L a.f (sins (i : Int) a.sl)) ∧ a.sz = c ∧ (i : Int) ∉ a.sl ∧ i < 4 := by
  unfold fitS at hf
  split at hf
  · rename_i hc
    subst hc
    obtain ⟨h1, h2⟩ := frS_spec hf
    have hn4 : nsl a.sz ≤ 4 := by unfold nsl; split <;> (try split) <;> omega
    refine ⟨⟨fun z hz => ?_, ?_⟩, rfl, h2, by omega⟩
    · rcases updS_mem h ha hz with rfl | ⟨hz', _⟩
      · have ok := h.ok a ha
        refine ⟨ok.lt, ok.tk, ok.sz, ok.ls.ins h2, fun q => ?_, fun j hj => ?_⟩
        · have := sins_len (i : Int) a.sl
          have q' : sins (i : Int) a.sl = [] := q
          rw [q'] at this
          simp at this
        · rcases sins_mem.1 hj with rfl | hj
          · exact ⟨by omega, by show (i : Int) < (nsl a.sz : Int); omega⟩
          · exact ok.sl j hj
      · exact h.ok z hz'
    · have := List.pairwise_map.2 h.srt
      rw [← updS_f L a.f (sins (i : Int) a.sl)] at this
      exact List.pairwise_map.1 this
  · cases hf
theorem insP_srt {x : Pc} : ∀ {L : List Pc}, (L.Pairwise fun a b => a.f < b.f) → (∀ a ∈ L, a.f ≠ x.f) → (insP x L).Pairwise fun a b => a.f < b.f
  | [], _, _ => List.pairwise_singleton _ _
  | y :: r, h, hn => by
    have h' := List.pairwise_cons.1 h
    unfold insP
    split
    · rename_i hlt
      refine List.pairwise_cons.2 ⟨fun z hz => ?_, h⟩
      rcases List.mem_cons.1 hz with rfl | hz
      · exact hlt
      · have := h'.1 z hz; omega
    · rename_i hlt
      have hne := hn y (by simp)
      refine List.pairwise_cons.2 ⟨fun z hz => ?_, insP_srt h'.2 fun q hq => hn q (by simp [hq])⟩
      rcases insP_mem.1 hz with rfl | hz
      · omega
      · exact h'.1 z hz
theorem SP.fresh {p : FP} {L : List Pc} (h : SP p L) {f : Nat} (ht : p.tk[f]? = some false) : ∀ a ∈ L, a.f ≠ f := fun a ha e => by
  have := (h.ok a ha).tk
  rw [e, ht] at this
  cases this
theorem SP.add {p : FP} {L : List Pc} (h : SP p L) (hp : p.ok) {f : Nat} (ht : p.top = some f) {c : Int} (hc : c = 16 ∨ c = 32 ∨ c = 64) : SP (p.tkd f) (insP ⟨f, c, [0]⟩ L) := by
  obtain ⟨h1, h2⟩ := FP.top_lt hp ht
  have htk : (p.tkd f).tk = p.tk.set f true := by unfold FP.tkd; split <;> rfl
  have hn : (p.tkd f).n = p.n := by unfold FP.tkd; split <;> rfl
  have hfr := h.fresh h2
  refine ⟨fun a ha => ?_, insP_srt h.srt hfr⟩
  rw [htk, hn]
  rcases insP_mem.1 ha with rfl | ha
  · refine ⟨h1, by rw [List.getElem?_set_self (by rw [hp.len]; exact h1)], hc, List.pairwise_singleton _ _, by simp, fun i hi => ?_⟩
    have hi' : i ∈ [(0 : Int)] := hi
    rw [List.mem_singleton] at hi'
    subst hi'
    refine ⟨by omega, ?_⟩
    have : 1 ≤ nsl c := by unfold nsl; split <;> (try split) <;> omega
    show (0 : Int) < (nsl c : Int)
    omega
  · have ok := h.ok a ha
    exact ⟨ok.lt, by rw [List.getElem?_set_ne (fun e => hfr a ha e.symm)]; exact ok.tk, ok.sz, ok.ls, ok.ne, ok.sl⟩
/-- What Take answers and leaves. -/
def takeV (p : FP) (L : List Pc) (size : Int) : Int × Int × Int × Int :=
  if cls size = 0 then (0, 0, 0, 2) else match pickS (cls size) L with
    | some (a, i) => ((a.f : Int), (i : Int), cls size, 0)
    | none => match p.top with
      | some f => ((f : Int), 0, cls size, 0)
      | none => (0, 0, 0, 3)
def takeL (p : FP) (L : List Pc) (size : Int) : FP × List Pc :=
  if cls size = 0 then (p, L) else match pickS (cls size) L with
    | some (a, i) => (p, updS L a.f (sins (i : Int) a.sl))
    | none => match p.top with
      | some f => (p.tkd f, insP ⟨f, cls size, [0]⟩ L)
      | none => (p, L)
theorem Tr.step {w0 w w' : World} {P P' : Nat → Prop} (a : Tr w0 w P P') {row : Option Nat} (hg : w.grownBy w' row) (hr : ∀ g, row = some g → P g ∨ w0.heap.size ≤ g) : Tr w0 w' P P' := by
  refine ⟨Below.trans a.base ⟨hg.os, hg.tape, hg.output, hg.size, fun i hi => by omega⟩, fun i hi hP => ?_, a.fr⟩
  rw [hg.block i (Nat.lt_of_lt_of_le hi a.base.size) (fun q => ?_), a.block i hi hP]
  rcases hr i q.symm with q | q
  · exact hP q
  · omega
theorem Tr.stepE {w0 w w' : World} {P P' : Nat → Prop} (a : Tr w0 w P P') (h : Ext w w') : Tr w0 w' P P' := a.step (row := none) ⟨h.os, h.tape, h.output, h.size, fun i hi _ => h.block i hi⟩ (fun g q => by cases q)
theorem Tr.to {w w' : World} {P P' Q' : Nat → Prop} (a : Tr w w' P P') (h : ∀ i, Q' i → P' i ∨ P i ∨ w.heap.size ≤ i) : Tr w w' P Q' := a.mono (fun _ q => q) h
section
variable {w w' : World} {B gs gm gf : Nat} {ad : AD} {L : List Pc} {p : FP}
theorem SB_upd (hp : SP p L) {a : Pc} (ha : a ∈ L) {sl : List Int} {i : Nat} (hi : SB gs gm ad (updS L a.f sl) i) : SB gs gm ad L i := by
  rcases hi with q | q | ⟨x, hx, q⟩
  · exact .inl q
  · exact .inr (.inl q)
  · rcases updS_mem hp ha hx with rfl | ⟨hx', _⟩
    · exact .inr (.inr ⟨a, ha, q⟩)
    · exact .inr (.inr ⟨x, hx', q⟩)
/-- A slot of a sheet is written. -/
theorem SS.slots (h : SS w B gs gm gf ad L) (hp : SP p L) {a : Pc} (ha : a ∈ L) {sl : List Int} (hm : MS w' (ad a.f).2 (sq sl)) (hg : w.grownBy w' (some (ad a.f).2)) :
    SS w' B gs gm gf ad (updS L a.f sl) ∧ Tr w w' (SB gs gm ad L) (SB gs gm ad (updS L a.f sl)) := by
  have hne : ∀ x ∈ L, x.f ≠ a.f → (ad x.f).2 ≠ (ad a.f).2 := fun x hx e => (h.inj x hx a ha e).2
  have hsm : sm ad (updS L a.f sl) = sm ad L := by
    unfold sm updS
    rw [List.map_map]
    exact List.map_congr_left fun x _ => by
      simp only [Function.comp]
      split <;> rfl
  have hM := (h.shs a ha).2
  have hSB : ∀ i, SB gs gm ad (updS L a.f sl) i → SB gs gm ad L i := fun i hi => by
    rcases hi with q | q | ⟨x, hx, q⟩
    · exact .inl q
    · exact .inr (.inl q)
    · rcases updS_mem hp ha hx with rfl | ⟨hx', _⟩
      · exact .inr (.inr ⟨a, ha, q⟩)
      · exact .inr (.inr ⟨x, hx', q⟩)
  refine ⟨⟨h.own.grown hg (fun q => hM.own_ne h.own (by injection q with q; exact q.symm)), ?_, fun x hx => ?_, fun x hx y hy e => ?_, fun x hx => ?_, fun i hi => h.lo i (hSB i hi)⟩, ?_⟩
  · rw [hsm]
    exact h.map.grown hg (fun q => h.ngm a ha (by injection q with q; exact q.symm))
  · rcases updS_mem hp ha hx with rfl | ⟨hx', hxf⟩
    · exact ⟨(h.shs a ha).1.grown hg (fun q => hM.own_ne (h.shs a ha).1 (by injection q with q; exact q.symm)), hm⟩
    · exact ⟨(h.shs x hx').1.grown hg (fun q => hM.own_ne (h.shs x hx').1 (by injection q with q; exact q.symm)), (h.shs x hx').2.grown hg (fun q => hne x hx' hxf (by injection q))⟩
  · have hx' : ∃ x' ∈ L, x'.f = x.f := by
      rcases updS_mem hp ha hx with rfl | ⟨q, _⟩
      · exact ⟨a, ha, rfl⟩
      · exact ⟨x, q, rfl⟩
    have hy' : ∃ y' ∈ L, y'.f = y.f := by
      rcases updS_mem hp ha hy with rfl | ⟨q, _⟩
      · exact ⟨a, ha, rfl⟩
      · exact ⟨y, q, rfl⟩
    obtain ⟨x', q1, q2⟩ := hx'
    obtain ⟨y', q3, q4⟩ := hy'
    rw [← q2, ← q4]
    exact h.inj x' q1 y' q3 (by omega)
  · rcases updS_mem hp ha hx with rfl | ⟨q, _⟩
    · exact h.ngm a ha
    · exact h.ngm x q
  · exact (Tr.grown hg (fun g q => .inl (by injection q with q; rw [← q]; exact .inr (.inr ⟨a, ha, .inr rfl⟩)))).mono (fun _ q => q) (fun i hi => .inr (.inl (hSB i hi)))
theorem sm_ins {ad : AD} {x : Pc} {gx gq : Nat} : ∀ {L : List Pc}, (∀ a ∈ L, a.f ≠ x.f) → sm (fun j => if j = x.f then (gx, gq) else ad j) (insP x L) = vins ((x.f : Int), .pointer (some ⟨gx, 0, none⟩)) (sm ad L)
  | [], _ => by simp [sm, insP, vins, pv_]
  | y :: r, h => by
    have hy := h y (by simp)
    have ih := sm_ins (ad := ad) (x := x) (gx := gx) (gq := gq) (L := r) fun a ha => h a (by simp [ha])
    show sm _ (insP x (y :: r)) = vins _ (((y.f : Int), pv_ ad y.f) :: sm ad r)
    unfold insP vins
    by_cases e : x.f < y.f
    · have e' : (x.f : Int) < (y.f : Int) := by omega
      rw [if_pos e, if_pos e']
      have hcong : (y :: r).map (fun a => ((a.f : Int), pv_ (fun j => if j = x.f then (gx, gq) else ad j) a.f)) = (y :: r).map fun a => ((a.f : Int), pv_ ad a.f) := List.map_congr_left fun a ha => by
        have := h a ha
        simp [pv_, this]
      show (((x.f : Int), pv_ _ x.f) :: (y :: r).map _) = _
      rw [hcong]
      simp [pv_, sm]
    · have e' : ¬ (x.f : Int) < (y.f : Int) := by omega
      rw [if_neg e, if_neg e', ← ih]
      simp [sm, pv_, hy]
/-- A new sheet. -/
theorem SS.add (h : SS w B gs gm gf ad L) {x : Pc} (hx : ∀ a ∈ L, a.f ≠ x.f) {gx gq : Nat} (hmap : MS w' gm (vput (sm ad L) (x.f : Int) (.pointer (some ⟨gx, 0, none⟩)))) (hg : w.grownBy w' (some gm))
    (ho : Own w' gx 120 [.int .i64 x.sz, .map (some gq)]) (hq : MS w' gq (sq x.sl)) {m : Nat} (hlt : ∀ i, SB gs gm ad L i → i < m) (l1 : m ≤ gx) (l2 : m ≤ gq) (hB : B ≤ m) :
    SS w' B gs gm gf (fun j => if j = x.f then (gx, gq) else ad j) (insP x L) ∧ ∀ i, SB gs gm (fun j => if j = x.f then (gx, gq) else ad j) (insP x L) i → SB gs gm ad L i ∨ m ≤ i := by
  have hvp : vput (sm ad L) (x.f : Int) (.pointer (some ⟨gx, 0, none⟩)) = sm (fun j => if j = x.f then (gx, gq) else ad j) (insP x L) := by
    rw [sm_ins hx]
    unfold vput
    congr 1
    unfold vdel
    rw [List.filter_eq_self]
    intro r hr
    obtain ⟨a, ha, rfl⟩ := List.mem_map.1 hr
    have := hx a ha
    simp; omega
  have hold : ∀ a ∈ L, (if a.f = x.f then (gx, gq) else ad a.f) = ad a.f := fun a ha => if_neg (hx a ha)
  have hnm : ∀ a ∈ L, (ad a.f).1 ≠ gm := fun a ha q => h.map.own_ne (h.shs a ha).1 q.symm
  have hSB : ∀ i, SB gs gm (fun j => if j = x.f then (gx, gq) else ad j) (insP x L) i → SB gs gm ad L i ∨ m ≤ i := fun i hi => by
    rcases hi with q | q | ⟨z, hz, q⟩
    · exact .inl (.inl q)
    · exact .inl (.inr (.inl q))
    · rcases insP_mem.1 hz with rfl | hz
      · simp only [if_true] at q
        rcases q with q | q <;> (right; omega)
      · simp only [hold z hz] at q
        exact .inl (.inr (.inr ⟨z, hz, q⟩))
  refine ⟨⟨h.own.grown hg (fun q => h.map.own_ne h.own (by injection q with q; exact q.symm)), by rw [← hvp]; exact hmap, fun z hz => ?_, fun z hz y hy e => ?_, fun z hz => ?_, fun i hi => ?_⟩, hSB⟩
  · rcases insP_mem.1 hz with rfl | hz
    · simp only [if_true]
      exact ⟨ho, hq⟩
    · simp only [hold z hz]
      exact ⟨(h.shs z hz).1.grown hg (fun q => hnm z hz (by injection q)), (h.shs z hz).2.grown hg (fun q => h.ngm z hz (by injection q))⟩
  · rcases insP_mem.1 hz with rfl | hz'
    · rcases insP_mem.1 hy with rfl | hy'
      · exact absurd rfl e
      · simp only [if_true, hold y hy']
        have a1 := hlt _ (.inr (.inr ⟨y, hy', .inl rfl⟩))
        have a2 := hlt _ (.inr (.inr ⟨y, hy', .inr rfl⟩))
        omega
    · rcases insP_mem.1 hy with rfl | hy'
      · simp only [if_true, hold z hz']
        have a1 := hlt _ (.inr (.inr ⟨z, hz', .inl rfl⟩))
        have a2 := hlt _ (.inr (.inr ⟨z, hz', .inr rfl⟩))
        omega
      · simp only [hold z hz', hold y hy']
        exact h.inj z hz' y hy' e
  · rcases insP_mem.1 hz with rfl | hz
    · simp only [if_true]
      have := hlt gm (.inr (.inl rfl))
      omega
    · simp only [hold z hz]
      exact h.ngm z hz
  · rcases hSB i hi with q | q
    · exact h.lo i q
    · omega
end

end Go.Proofs.Ytebkknkgkjblnaa
