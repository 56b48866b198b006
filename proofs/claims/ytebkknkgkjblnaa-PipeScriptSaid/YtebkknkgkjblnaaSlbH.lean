/-
  SLAB: what Take and Give do to the pieces that are taken (plain).
-/
import Derived.Test.YtebkknkgkjblnaaSlbG
namespace Go.Proofs.Ytebkknkgkjblnaa
open Go.RowKit Go.Maps

abbrev X3 := Int × Int × Int
def has3 (L : List Pc) (x : X3) : Prop := ∃ a ∈ L, (a.f : Int) = x.1 ∧ a.sz = x.2.2 ∧ x.2.1 ∈ a.sl
theorem has3_iff {L : List Pc} {x : X3} : hasB L x.1 x.2.1 x.2.2 = true ↔ has3 L x := by
  constructor
  · intro h; exact hasB_inv h
  · rintro ⟨a, ha, h1, h2, h3⟩
    unfold hasB
    rw [List.any_eq_true]
    exact ⟨a, ha, by simp [h1, h2, h3]⟩
theorem updS_self {L : List Pc} {a : Pc} (ha : a ∈ L) (sl : List Int) : { a with sl := sl } ∈ updS L a.f sl := List.mem_map.2 ⟨a, ha, by rw [if_pos rfl]⟩
theorem updS_old {L : List Pc} {z : Pc} {f : Nat} (hz : z ∈ L) (hf : z.f ≠ f) (sl : List Int) : z ∈ updS L f sl := List.mem_map.2 ⟨z, hz, by rw [if_neg hf]⟩
theorem has3_upd {p : FP} {L : List Pc} (h : SP p L) {a : Pc} (ha : a ∈ L) (sl : List Int) (x : X3) : has3 (updS L a.f sl) x ↔ ((a.f : Int) = x.1 ∧ a.sz = x.2.2 ∧ x.2.1 ∈ sl) ∨ (has3 L x ∧ (a.f : Int) ≠ x.1) := by
  constructor
  · rintro ⟨z, hz, h1, h2, h3⟩
    rcases updS_mem h ha hz with rfl | ⟨hz', hne⟩
    · exact .inl ⟨h1, h2, h3⟩
    · exact .inr ⟨⟨z, hz', h1, h2, h3⟩, by omega⟩
  · rintro (⟨h1, h2, h3⟩ | ⟨⟨z, hz, h1, h2, h3⟩, hne⟩)
    · exact ⟨_, updS_self ha sl, h1, h2, h3⟩
    · exact ⟨z, updS_old hz (by omega) sl, h1, h2, h3⟩
theorem has3_at {p : FP} {L : List Pc} (h : SP p L) {a : Pc} (ha : a ∈ L) {x : X3} (hx : (a.f : Int) = x.1) : has3 L x ↔ a.sz = x.2.2 ∧ x.2.1 ∈ a.sl := by
  constructor
  · rintro ⟨z, hz, h1, h2, h3⟩
    have := h.inj hz ha (by omega)
    subst this
    exact ⟨h2, h3⟩
  · rintro ⟨h2, h3⟩; exact ⟨a, ha, hx, h2, h3⟩
theorem totL_cons (a : Pc) (L : List Pc) : totL (a :: L) = a.sl.length + totL L := by simp [totL]
theorem totL_upd {a : Pc} {sl : List Int} : ∀ {L : List Pc}, (L.Pairwise fun a b => a.f < b.f) → a ∈ L → totL (updS L a.f sl) + a.sl.length = totL L + sl.length
  | [], _, ha => by cases ha
  | b :: r, hs, ha => by
    obtain ⟨h1, h2⟩ := List.pairwise_cons.1 hs
    have key : updS (b :: r) a.f sl = (if b.f = a.f then { b with sl := sl } else b) :: updS r a.f sl := rfl
    rw [key, totL_cons, totL_cons]
    rcases List.mem_cons.1 ha with rfl | ha'
    · rw [if_pos rfl]
      have : updS r a.f sl = r := by
        unfold updS
        have : r.map (fun x => if x.f = a.f then { x with sl := sl } else x) = r.map id := List.map_congr_left fun x hx => by
          have := h1 x hx
          rw [if_neg (by omega)]; rfl
        rw [this, List.map_id]
      rw [this]
      show sl.length + totL r + a.sl.length = _
      omega
    · have := h1 a ha'
      rw [if_neg (by omega)]
      have := totL_upd (sl := sl) h2 ha'
      omega
theorem totL_ins (x : Pc) : ∀ L : List Pc, totL (insP x L) = x.sl.length + totL L
  | [] => by simp [insP, totL]
  | y :: r => by
    unfold insP
    split
    · rw [totL_cons]
    · rw [totL_cons, totL_cons, totL_ins x r]; omega
theorem totL_del {a : Pc} : ∀ {L : List Pc}, (L.Pairwise fun a b => a.f < b.f) → a ∈ L → totL (delP L a.f) + a.sl.length = totL L
  | [], _, ha => by cases ha
  | b :: r, hs, ha => by
    obtain ⟨h1, h2⟩ := List.pairwise_cons.1 hs
    unfold delP
    rcases List.mem_cons.1 ha with rfl | ha'
    · rw [List.filter_cons_of_neg (by simp), List.filter_eq_self.2 fun x hx => by have := h1 x hx; simp; omega, totL_cons]; omega
    · have := h1 a ha'
      rw [List.filter_cons_of_pos (by simp; omega), totL_cons, totL_cons]
      have := totL_del h2 ha'
      unfold delP at this
      omega
/-- A frame that is taken is cut. -/
def FU (p : FP) (L : List Pc) : Prop := ∀ j, p.tk[j]? = some true → ∃ a ∈ L, a.f = j
theorem FU.zero (n : Nat) : FU (p0 n) [] := fun j hj => by
  have hj' : (List.replicate n false)[j]? = some true := hj
  rw [List.getElem?_replicate] at hj'
  split at hj' <;> cases hj'
theorem nsl_mul {c : Int} (h : c = 16 ∨ c = 32 ∨ c = 64) : (nsl c : Int) * c = 64 := by rcases h with rfl | rfl | rfl <;> rfl
theorem cls_le {s : Int} (h : cls s ≠ 0) : s ≤ cls s := by
  unfold cls at *
  split at h
  · exact absurd rfl h
  · rename_i h1
    split at h
    · rename_i h2; rw [if_neg h1, if_pos h2]; exact h2
    · rename_i h2
      split at h
      · rename_i h3; rw [if_neg h1, if_neg h2, if_pos h3]; exact h3
      · rename_i h3
        split at h
        · rename_i h4; rw [if_neg h1, if_neg h2, if_neg h3, if_pos h4]; exact h4
        · exact absurd rfl h
/-- What a piece that was taken just now is. -/
structure Took (p : FP) (L : List Pc) (size : Int) (x : X3) (p' : FP) (L' : List Pc) : Prop where
  big : size ≤ x.2.2
  slot : 0 ≤ x.2.1 ∧ x.2.1 ≤ 64
  sz : x.2.2 = 16 ∨ x.2.2 = 32 ∨ x.2.2 = 64
  fits : x.2.1 * x.2.2 + x.2.2 ≤ 64
  known : p'.known x.1 = 0
  f0 : 0 ≤ x.1 ∧ x.1 ≤ 64
  apart : ∀ y, has3 L y → y.1 = x.1 → y.2.2 = x.2.2 ∧ y.2.1 ≠ x.2.1
  has : ∀ y, has3 L' y ↔ has3 L y ∨ y = x
  tot : totL L' = totL L + 1
  fu : FU p L → FU p' L'
theorem tkd_n (p : FP) (f : Nat) : (p.tkd f).n = p.n := by unfold FP.tkd; split <;> rfl
theorem tkd_tk (p : FP) (f : Nat) : (p.tkd f).tk = p.tk.set f true := by unfold FP.tkd; split <;> rfl
theorem take_spec {p : FP} {L : List Pc} (h : SP p L) (hp : p.ok) {size : Int} (he : (takeV p L size).2.2.2 = 0) :
    Took p L size ((takeV p L size).1, (takeV p L size).2.1, (takeV p L size).2.2.1) (takeL p L size).1 (takeL p L size).2 := by
  have hn64 := hp.n64
  unfold takeV takeL at *
  by_cases hc : cls size = 0
  · rw [if_pos hc] at he
    exact absurd he (by decide)
  rw [if_neg hc] at he
  rw [if_neg hc, if_neg hc]
  have hcl := cls_of hc
  have hle := cls_le hc
  generalize cls size = c at *
  have hmul := nsl_mul hcl
  have hc16 : 16 ≤ c ∧ c ≤ 64 := by rcases hcl with rfl | rfl | rfl <;> omega
  cases hk : pickS c L with
  | some q =>
    obtain ⟨a, i⟩ := q
    obtain ⟨ha, hf⟩ := pickS_inv hk
    obtain ⟨_, hsz, hni, hi4⟩ := h.hit ha hf
    have hok := h.ok a ha
    have hlt := hok.lt
    have hin : i < nsl c := by
      unfold fitS at hf
      rw [if_pos hsz] at hf
      exact (frS_spec hf).1
    simp only
    refine ⟨hle, ⟨by show (0 : Int) ≤ (i : Int); omega, by show (i : Int) ≤ 64; omega⟩, hcl, ?_, ?_, ⟨by show (0 : Int) ≤ (a.f : Int); omega, by show (a.f : Int) ≤ 64; omega⟩, fun y hy e => ?_, fun y => ?_, ?_, fun hfu j hj => ?_⟩
    · show (i : Int) * c + c ≤ 64
      have : ((i : Int) + 1) * c ≤ (nsl c : Int) * c := Int.mul_le_mul_of_nonneg_right (by omega) (by omega)
      rw [Int.add_mul] at this
      omega
    · unfold FP.known
      rw [if_neg (by omega), Int.toNat_natCast, if_pos hok.tk]
    · obtain ⟨q1, q2⟩ := (has3_at h ha (x := y) e.symm).1 hy
      exact ⟨by rw [← q1]; exact hsz, fun e2 => hni (by have e2' : y.2.1 = (i : Int) := e2; rw [e2'] at q2; exact q2)⟩
    · rw [has3_upd h ha]
      constructor
      · rintro (⟨q1, q2, q3⟩ | ⟨q, _⟩)
        · rcases sins_mem.1 q3 with q3 | q3
          · right
            obtain ⟨y1, y2, y3⟩ := y
            simp only at q1 q2 q3
            rw [← q1, ← q2, q3, hsz]
          · exact .inl ((has3_at h ha q1).2 ⟨q2, q3⟩)
        · exact .inl q
      · rintro (q | rfl)
        · by_cases e : (a.f : Int) = y.1
          · obtain ⟨q1, q2⟩ := (has3_at h ha e).1 q
            exact .inl ⟨e, q1, sins_mem.2 (.inr q2)⟩
          · exact .inr ⟨q, e⟩
        · exact .inl ⟨rfl, hsz, sins_mem.2 (.inl rfl)⟩
    · have := totL_upd (sl := sins (i : Int) a.sl) h.srt ha
      rw [sins_len] at this
      omega
    · obtain ⟨z, hz, e⟩ := hfu j hj
      by_cases q : z.f = a.f
      · exact ⟨_, updS_self ha _, by rw [← e, q]⟩
      · exact ⟨z, updS_old hz q _, e⟩
  | none =>
    cases ht : p.top with
    | none =>
      rw [hk] at he
      simp only [ht] at he
      exact absurd he (by decide)
    | some f =>
      obtain ⟨hfl, hft⟩ := FP.top_lt hp ht
      have hfr := h.fresh hft
      simp only
      refine ⟨hle, ⟨by show (0 : Int) ≤ 0; omega, by show (0 : Int) ≤ 64; omega⟩, hcl, by show (0 : Int) * c + c ≤ 64; omega, ?_, ⟨by show (0 : Int) ≤ (f : Int); omega, by show (f : Int) ≤ 64; omega⟩, fun y hy e => ?_, fun y => ?_, ?_, fun hfu j hj => ?_⟩
      · unfold FP.known
        rw [tkd_n, tkd_tk, if_neg (by omega), Int.toNat_natCast, if_pos (by rw [List.getElem?_set_self (by rw [hp.len]; exact hfl)])]
      · obtain ⟨z, hz, q1, _, _⟩ := hy
        exact absurd (show z.f = f by have e' : y.1 = (f : Int) := e; omega) (hfr z hz)
      · constructor
        · rintro ⟨z, hz, q1, q2, q3⟩
          rcases insP_mem.1 hz with rfl | hz
          · right
            have q3' : y.2.1 ∈ [(0 : Int)] := q3
            rw [List.mem_singleton] at q3'
            obtain ⟨y1, y2, y3⟩ := y
            simp only at q1 q2 q3'
            rw [← q1, ← q2, q3']
          · exact .inl ⟨z, hz, q1, q2, q3⟩
        · rintro (⟨z, hz, q⟩ | rfl)
          · exact ⟨z, insP_mem.2 (.inr hz), q⟩
          · exact ⟨_, insP_mem.2 (.inl rfl), rfl, rfl, by simp⟩
      · rw [totL_ins]
        show 1 + totL L = _
        omega
      · rw [tkd_tk] at hj
        by_cases q : j = f
        · exact ⟨_, insP_mem.2 (.inl rfl), q.symm⟩
        · rw [List.getElem?_set_ne (fun e => q e.symm)] at hj
          obtain ⟨z, hz, e⟩ := hfu j hj
          exact ⟨z, insP_mem.2 (.inr hz), e⟩
/-- An answer that is none changes nothing. -/
theorem take_no {p : FP} {L : List Pc} {size : Int} (he : (takeV p L size).2.2.2 ≠ 0) : takeL p L size = (p, L) := by
  unfold takeV takeL at *
  by_cases hc : cls size = 0
  · rw [if_pos hc]
  rw [if_neg hc] at he ⊢
  cases hk : pickS (cls size) L with
  | some q =>
    rw [hk] at he
    exact absurd rfl he
  | none =>
    rw [hk] at he
    cases ht : p.top with
    | none => rfl
    | some f =>
      simp only [ht] at he
      exact absurd rfl he
structure Gave (p : FP) (L : List Pc) (x : X3) (p' : FP) (L' : List Pc) : Prop where
  has : ∀ y, has3 L' y ↔ has3 L y ∧ y ≠ x
  tot : totL L' + 1 = totL L
  fu : FU p L → FU p' L'
theorem give_spec {p : FP} {L : List Pc} (h : SP p L) {x : X3} (hx : has3 L x) : giveE L x.1 x.2.1 x.2.2 = 0 ∧ Gave p L x (giveL p L x.1 x.2.1 x.2.2).1 (giveL p L x.1 x.2.1 x.2.2).2 := by
  have hb := has3_iff.2 hx
  refine ⟨by unfold giveE; rw [if_pos hb], ?_⟩
  obtain ⟨a, ha, h1, h2, h3⟩ := hx
  have hok := h.ok a ha
  have hdl := sdel_len hok.ls h3
  have hL : giveL p L x.1 x.2.1 x.2.2 = if sdel a.sl x.2.1 = [] then (p.gvn a.f, delP L a.f) else (p, updS L a.f (sdel a.sl x.2.1)) := by
    unfold giveL
    rw [if_pos hb, ← h1, slOf_of h ha, Int.toNat_natCast]
  rw [hL]
  by_cases he : sdel a.sl x.2.1 = []
  · rw [if_pos he]
    have hone : ∀ j ∈ a.sl, j = x.2.1 := fun j hj => by
      refine Classical.byContradiction fun q => ?_
      have : j ∈ sdel a.sl x.2.1 := sdel_mem.2 ⟨hj, q⟩
      rw [he] at this
      cases this
    refine ⟨fun y => ?_, ?_, fun hfu j hj => ?_⟩
    · constructor
      · rintro ⟨z, hz, q1, q2, q3⟩
        obtain ⟨hz1, hz2⟩ := delP_mem.1 hz
        exact ⟨⟨z, hz1, q1, q2, q3⟩, fun e => hz2 (by rw [e] at q1; omega)⟩
      · rintro ⟨⟨z, hz, q1, q2, q3⟩, hne⟩
        refine ⟨z, delP_mem.2 ⟨hz, fun e => hne ?_⟩, q1, q2, q3⟩
        have := h.inj hz ha e
        subst this
        have := hone _ q3
        obtain ⟨y1, y2, y3⟩ := y
        obtain ⟨x1, x2, x3⟩ := x
        simp only at q1 q2 this h1 h2
        rw [← q1, ← q2, this, ← h1, ← h2]
    · have := totL_del h.srt ha
      rw [he] at hdl
      simp only [List.length_nil] at hdl
      show totL (delP L a.f) + 1 = _
      omega
    · have hj' : (p.tk.set a.f false)[j]? = some true := hj
      by_cases q : j = a.f
      · subst q
        have hl : a.f < p.tk.length := (List.getElem?_eq_some_iff.1 hok.tk).1
        rw [List.getElem?_set_self hl] at hj'
        cases hj'
      · rw [List.getElem?_set_ne (fun e => q e.symm)] at hj'
        obtain ⟨z, hz, e⟩ := hfu j hj'
        exact ⟨z, delP_mem.2 ⟨hz, by omega⟩, e⟩
  · rw [if_neg he]
    refine ⟨fun y => ?_, ?_, fun hfu j hj => ?_⟩
    · show has3 (updS L a.f (sdel a.sl x.2.1)) y ↔ _
      rw [has3_upd h ha]
      constructor
      · rintro (⟨q1, q2, q3⟩ | ⟨q, hne⟩)
        · obtain ⟨r1, r2⟩ := sdel_mem.1 q3
          exact ⟨(has3_at h ha q1).2 ⟨q2, r1⟩, fun e => r2 (by rw [e])⟩
        · exact ⟨q, fun e => hne (by rw [e]; exact h1)⟩
      · rintro ⟨q, hne⟩
        by_cases e : (a.f : Int) = y.1
        · obtain ⟨r1, r2⟩ := (has3_at h ha e).1 q
          refine .inl ⟨e, r1, sdel_mem.2 ⟨r2, fun e2 => hne ?_⟩⟩
          obtain ⟨y1, y2, y3⟩ := y
          obtain ⟨x1, x2, x3⟩ := x
          simp only at e e2 r1 h1 h2
          rw [← e, ← h1, e2, ← r1, ← h2]
        · exact .inr ⟨q, e⟩
    · have := totL_upd (sl := sdel a.sl x.2.1) h.srt ha
      show totL (updS L a.f (sdel a.sl x.2.1)) + 1 = _
      omega
    · obtain ⟨z, hz, e⟩ := hfu j hj
      by_cases q : z.f = a.f
      · exact ⟨_, updS_self ha _, by rw [← e, q]⟩
      · exact ⟨z, updS_old hz q _, e⟩
theorem tot_zero {p : FP} {L : List Pc} (h : SP p L) (ht : totL L = 0) : L = [] := by
  cases L with
  | nil => rfl
  | cons a r =>
    have h1 := (h.ok a (by simp)).ne
    rw [totL_cons] at ht
    have : a.sl.length = 0 := by omega
    exact absurd (List.eq_nil_of_length_eq_zero this) h1
theorem free_all {p : FP} (hp : p.ok) (hf : FU p []) : (p.fr.length : Int) + (p.n : Int) - (p.fs : Int) = (p.n : Int) := by
  have hc : cntT p.tk = 0 := by
    unfold cntT
    rw [List.filter_eq_nil_iff.2 fun b hb => ?_]; rfl
    intro e
    obtain ⟨j, hj, rfl⟩ := List.getElem_of_mem hb
    have e' : p.tk[j] = true := e
    obtain ⟨a, ha, _⟩ := hf j (by rw [List.getElem?_eq_getElem hj, e'])
    cases ha
  have := hp.cnt
  omega

end Go.Proofs.Ytebkknkgkjblnaa
