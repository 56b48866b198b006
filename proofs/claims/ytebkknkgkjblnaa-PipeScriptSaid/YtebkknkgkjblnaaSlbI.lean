/-
  SLAB: what SlabApart keeps (plain); the opener of its acts.
-/
import Derived.Test.YtebkknkgkjblnaaSlbH
namespace Go.Proofs.Ytebkknkgkjblnaa
open Go.ChangeShapes Go.WideShapes Go.ChangeAt Go.RowKit Go.Maps

/-- Of all pieces that are out, each is in the list once. -/
structure Inv (p : FP) (L : List Pc) (nw : List X3) : Prop where
  nd : nw.Nodup
  has : ∀ x ∈ nw, has3 L x
  tot : nw.length = totL L
  fu : FU p L
theorem Inv.zero : Inv (p0 4) [] [] := ⟨List.nodup_nil, by simp, rfl, FU.zero 4⟩
theorem Inv.take {p p' : FP} {L L' : List Pc} {nw : List X3} {size : Int} {x : X3} (h : Inv p L nw) (t : Took p L size x p' L') : Inv p' L' (nw ++ [x]) := by
  refine ⟨?_, fun y hy => ?_, by rw [List.length_append, h.tot, t.tot]; rfl, t.fu h.fu⟩
  · refine List.pairwise_append.2 ⟨h.nd, List.pairwise_singleton .., fun a ha b hb e => ?_⟩
    rw [List.mem_singleton] at hb
    subst hb
    exact (t.apart a (h.has a ha) (by rw [e])).2 (by rw [e])
  · rcases List.mem_append.1 hy with hy | hy
    · exact (t.has y).2 (.inl (h.has y hy))
    · exact (t.has y).2 (.inr (List.mem_singleton.1 hy))
theorem split_at {nw : List X3} {k : Nat} (hk : k < nw.length) : nw = nw.take k ++ nw[k] :: nw.drop (k + 1) := by
  rw [← List.drop_eq_getElem_cons hk, List.take_append_drop]
theorem Inv.give {p : FP} {L : List Pc} {nw : List X3} (h : Inv p L nw) (hs : SP p L) {k : Nat} (hk : k < nw.length) :
    giveE L nw[k].1 nw[k].2.1 nw[k].2.2 = 0 ∧ Inv (giveL p L nw[k].1 nw[k].2.1 nw[k].2.2).1 (giveL p L nw[k].1 nw[k].2.1 nw[k].2.2).2 (nw.take k ++ nw.drop (k + 1)) := by
  obtain ⟨g1, g2⟩ := give_spec hs (h.has _ (List.getElem_mem hk))
  have hd := h.nd
  rw [split_at hk] at hd
  obtain ⟨d1, d2, d3⟩ := List.pairwise_append.1 hd
  obtain ⟨d4, d5⟩ := List.pairwise_cons.1 d2
  refine ⟨g1, List.pairwise_append.2 ⟨d1, d5, fun a ha b hb => d3 a ha b (List.mem_cons_of_mem _ hb)⟩, fun y hy => (g2.has y).2 ?_, ?_, g2.fu h.fu⟩
  · rcases List.mem_append.1 hy with hy | hy
    · exact ⟨h.has y (List.mem_of_mem_take hy), fun e => d3 y hy _ (List.mem_cons_self ..) e⟩
    · exact ⟨h.has y (List.mem_of_mem_drop hy), fun e => d4 y hy e.symm⟩
  · have := g2.tot
    have := h.tot
    rw [List.length_append, List.length_take, List.length_drop]
    omega
theorem take_n (p : FP) (L : List Pc) (size : Int) : (takeL p L size).1.n = p.n := by
  unfold takeL
  split
  · rfl
  · cases pickS (cls size) L with
    | some q => rfl
    | none =>
      cases p.top with
      | none => rfl
      | some f => exact tkd_n p f
theorem give_n (p : FP) (L : List Pc) (f i s : Int) : (giveL p L f i s).1.n = p.n := by
  unfold giveL
  split
  · split <;> rfl
  · rfl
theorem Inv.end_ {p : FP} {L : List Pc} (h : Inv p L []) (hs : SP p L) (hp : p.ok) : totL L = 0 ∧ (p.fr.length : Int) + (p.n : Int) - (p.fs : Int) = (p.n : Int) := by
  have h0 : totL L = 0 := h.tot.symm
  have : L = [] := tot_zero hs h0
  subst this
  exact ⟨h0, free_all hp h.fu⟩
theorem trips_drop (ps : List X3) (m : Nat) : trips (ps.drop m) = (trips ps).drop (m * 3) := by
  have e : trips ps = trips (ps.take m) ++ trips (ps.drop m) := by rw [trips_app, List.take_append_drop]
  rcases Nat.le_total m ps.length with h | h
  · have hl : (trips (ps.take m)).length = m * 3 := by rw [trips_len, List.length_take]; omega
    rw [e, ← hl, List.drop_left]
  · rw [List.drop_eq_nil_of_le h, List.drop_eq_nil_of_le (by rw [trips_len]; omega)]; rfl
theorem trips_take (ps : List X3) (m : Nat) : trips (ps.take m) = (trips ps).take (m * 3) := by
  have e : trips ps = trips (ps.take m) ++ trips (ps.drop m) := by rw [trips_app, List.take_append_drop]
  rcases Nat.le_total m ps.length with h | h
  · have hl : (trips (ps.take m)).length = m * 3 := by rw [trips_len, List.length_take]; omega
    rw [e, ← hl, List.take_left]
  · rw [List.take_of_length_le h, List.take_of_length_le (by rw [trips_len]; omega)]
theorem Rd.dropAt5 {w : World} {b off : Nat} {xs : List Value} (h : Rd w (some ⟨b, off, none⟩) xs) (m : Nat) : Rd w (some ⟨b, off + m, none⟩) (xs.drop m) := fun k v hk => by
  rw [List.getElem?_drop] at hk
  obtain ⟨b', o', e, hc⟩ := h (m + k) v hk
  injection e with e; injection e with e1 e2
  subst e1; subst e2
  exact ⟨b, off + m, rfl, by rw [Nat.add_assoc]; exact hc⟩
theorem has3_i64 {p : FP} {L : List Pc} (h : SP p L) (hp : p.ok) {x : X3} (hx : has3 L x) : I64 x.1 ∧ I64 x.2.1 := by
  obtain ⟨a, ha, h1, h2, h3⟩ := hx
  have hok := h.ok a ha
  have h4 := hok.lt
  have h5 := hp.n64
  have h6 := hok.sl _ h3
  have h7 : (nsl a.sz : Int) ≤ 4 := by rcases hok.sz with e | e | e <;> rw [e] <;> decide
  exact ⟨⟨by omega, by omega⟩, ⟨by omega, by omega⟩⟩
theorem info_ref : (Try.prog.info? 84).map (fun i => (i.zero, i.size, i.bytes)) = some (some (.agg #[.int .i64 0, .int .i64 0, .int .i64 0]), 3, 24) := by kernel_rfl

end Go.Proofs.Ytebkknkgkjblnaa
