/-
  SLAB: what SlabApart keeps (plain); the opener of its acts.
-/
import Derived.Test.YtkdhinemianndaaSlbH
namespace Go.Proofs.Ytkdhinemianndaa
open Go.ChangeShapes Go.WideShapes Go.ChangeAt Go.RowKit Go.Maps

/-- Of all pieces that are out, each is in the list once. -/
structure Inv (p : FP) (L : List Pc) (nw : List X3) : Prop where
  nd : nw.Nodup
  has : ∀ x ∈ nw, has3 L x
  tot : nw.length = totL L
  fu : FU p L
theorem Inv.zero : Inv (p0 4) [] [] := ⟨List.nodup_nil, by simp, rfl, FU.zero 4⟩
theorem Inv.take {p p' : FP} {L L' : List Pc} {nw : List X3} {size : Int} {x : X3} (h : Inv p L nw) (t : Took p L size x p' L') : Inv p' L' (nw ++ [x]) := by
  refine ⟨?_, fun y hy => ?_, by rw [List.length_append, h.tot, t.tot]; rfl, t.fu h.fu⟩
  · refine List.pairwise_append.2 ⟨h.nd, List.pairwise_singleton .., fun a ha b hb e => ?_⟩
    rw [List.mem_singleton] at hb
    subst hb
    exact (t.apart a (h.has a ha) (by rw [e])).2 (by rw [e])
  · rcases List.mem_append.1 hy with hy | hy
    · exact (t.has y).2 (.inl (h.has y hy))
    · exact (t.has y).2 (.inr (List.mem_singleton.1 hy))
theorem split_at {nw : List X3} {k : Nat} (hk : k < nw.length) : nw = nw.take k ++ nw[k] :: nw.drop (k + 1) := by
  rw [← List.drop_eq_getElem_cons hk, List.take_append_drop]
theorem Inv.give {p : FP} {L : List Pc} {nw : List X3} (h : Inv p L nw) (hs : SP p L) {k : Nat} (hk : k < nw.length) :
    giveE L nw[k].1 nw[k].2.1 nw[k].2.2 = 0 ∧ Inv (giveL p L nw[k].1 nw[k].2.1 nw[k].2.2).1 (giveL p L nw[k].1 nw[k].2.1 nw[k].2.2).2 (nw.take k ++ nw.drop (k + 1)) := by
  obtain ⟨g1, g2⟩ := give_spec hs (h.has _ (List.getElem_mem hk))
  have hd := h.nd
  rw [split_at hk] at hd
  obtain ⟨d1, d2, d3⟩ := List.pairwise_append.1 hd
  obtain ⟨d4, d5⟩ := List.pairwise_cons.1 d2
  refine ⟨g1, List.pairwise_append.2 ⟨d1, d5, fun a ha b hb => d3 a ha b (List.mem_cons_of_mem _ hb)⟩, fun y hy => (g2.has y).2 ?_, ?_, g2.fu h.fu⟩
  · rcases List.mem_append.1 hy with hy | hy
    · exact ⟨h.has y (List.mem_of_mem_take hy), fun e => d3 y hy _ (List.mem_cons_self ..) e⟩
    · exact ⟨h.has y (List.mem_of_mem_drop hy), fun e => d4 y hy e.symm⟩
  · have := g2.tot
    have := h.tot
    rw [List.length_append, List.length_take, List.length_drop]
    omega
theorem take_n (p : FP) (L : List Pc) (size : Int) : (takeL p L size).1.n = p.n := by
  unfold takeL
  split
  · rfl
  · cases pickS (cls size) L with
    | some q => rfl
    | none =>
      cases p.top with
      | none => rfl
      | some f => exact tkd_n p f
theorem give_n (p : FP) (L : List Pc) (f i s : Int) : (giveL p L f i s).1.n = p.n := by
  unfold giveL
  split
  · split <;> rfl
  · rfl
theorem Inv.end_ {p : FP} {L : List Pc} (h : Inv p L []) (hs : SP p L) (hp : p.ok) : totL L = 0 ∧ (p.fr.length : Int) + (p.n : Int) - (p.fs : Int) = (p.n : Int) := by
  have h0 : totL L = 0 := h.tot.symm
  have : L = [] := tot_zero hs h0
  subst this
  exact ⟨h0, free_all hp h.fu⟩
theorem trips_drop (ps : List X3) (m : Nat) : trips (ps.drop m) = (trips ps).drop (m * 3) := by
  have e : trips ps = trips (ps.take m) ++ trips (ps.drop m) := by rw [trips_app, List.take_append_drop]
  rcases Nat.le_total m ps.length with h | h
  · have hl : (trips (ps.take m)).length = m * 3 := by rw [trips_len, List.length_take]; omega
    rw [e, ← hl, List.drop_left]
  · rw [List.drop_eq_nil_of_le h, List.drop_eq_nil_of_le (by rw [trips_len]; omega)]; rfl
theorem trips_take (ps : List X3) (m : Nat) : trips (ps.take m) = (trips ps).take (m * 3) := by
  have e : trips ps = trips (ps.take m) ++ trips (ps.drop m) := by rw [trips_app, List.take_append_drop]
  rcases Nat.le_total m ps.length with h | h
  · have hl : (trips (ps.take m)).length = m * 3 := by rw [trips_len, List.length_take]; omega
    rw [e, ← hl, List.take_left]
  · rw [List.take_of_length_le h, List.take_of_length_le (by rw [trips_len]; omega)]
theorem Rd.dropAt {w : World} {b off : Nat} {xs : List Value} (h : Rd w (some ⟨b, off, none⟩) xs) (m : Nat) : Rd w (some ⟨b, off + m, none⟩) (xs.drop m) := fun k v hk => by
  rw [List.getElem?_drop] at hk
  obtain ⟨b', o', e, hc⟩ := h (m + k) v hk
  injection e with e; injection e with e1 e2
  subst e1; subst e2
  exact ⟨b, off + m, rfl, by rw [Nat.add_assoc]; exact hc⟩
theorem has3_i64 {p : FP} {L : List Pc} (h : SP p L) (hp : p.ok) {x : X3} (hx : has3 L x) : I64 x.1 ∧ I64 x.2.1 := by
  obtain ⟨a, ha, h1, h2, h3⟩ := hx
  have hok := h.ok a ha
  have h4 := hok.lt
  have h5 := hp.n64
  have h6 := hok.sl _ h3
  have h7 : (nsl a.sz : Int) ≤ 4 := by rcases hok.sz with e | e | e <;> rw [e] <;> decide
  exact ⟨⟨by omega, by omega⟩, ⟨by omega, by omega⟩⟩
theorem info_ref : (Try.prog.info? 23).map (fun i => (i.zero, i.size, i.bytes)) = some (some (.agg #[.int .i64 0, .int .i64 0, .int .i64 0]), 3, 24) := by kernel_rfl

/-- An act of chapter 5. -/
structure A5 where
  g : Bool
  r : Bool
  s : Int
  k : Int
  a : Int
  b : Int
  c : Int
def A5.cs (x : A5) : List Value := [.bool x.g, .bool x.r, .int .i64 x.s, .int .i64 x.k, .int .i64 x.a, .int .i64 x.b, .int .i64 x.c]
structure Acts5 (w : World) (A : Option Addr) (n : Nat) (X : Nat → A5) : Prop where
  max : n ≤ 9223372036854775807
  at_ : ∀ i, i < n → (I64 (X i).s ∧ I64 (X i).k ∧ I64 (X i).a ∧ I64 (X i).b ∧ I64 (X i).c) ∧ ∃ b off, A = some ⟨b, off, none⟩ ∧ ∀ j v, (X i).cs[j]? = some v → w.cell? ⟨b, off + (i * 7 + j), none⟩ = some v
section
variable {H : Type} {enc : TypeId × Value → H} {P : Program} {W : World} {b0 : Nat} {sp : Nat → Bool} {hd : Bool}
theorem field_bool {t : TypeId} {fs : Array Field} {fuel : Nat} {cs : List Value} {x : DataW H × List MemPlace} (hs : P.underlying t = some (.struct fs)) (h : DataW.trod enc P W b0 sp hd fuel t cs = some x) (i o : Nat) (ft : TypeId)
    (hf : (fs[i]?).map (fun f => (f.offset, f.type)) = some (o, ft)) (hk : P.cellsOf ft = 1) (hu : P.underlying ft = some .bool) : ∃ z, cs[o]? = some (.bool z) := by
  obtain ⟨n, y, hy⟩ := field_trod hs h i o 1 ft hf hk
  obtain ⟨z, hz, _⟩ := DataW.trod_bool hu hy
  exact ⟨z, take_one hz⟩
theorem field_trip {t ft : TypeId} {fs gs : Array Field} {fuel : Nat} {cs : List Value} {x : DataW H × List MemPlace} (hs : P.underlying t = some (.struct fs)) (h : DataW.trod enc P W b0 sp hd fuel t cs = some x) (i o : Nat)
    (hf : (fs[i]?).map (fun f => (f.offset, f.type)) = some (o, ft)) (hu : P.underlying ft = some (.struct gs)) (hone : allIntB P gs = true) (hC : P.cellsOf ft = gs.size) (h3 : gs.size = 3) :
    ∃ a b c, (I64 a ∧ I64 b ∧ I64 c) ∧ cs[o]? = some (.int .i64 a) ∧ cs[o + 1]? = some (.int .i64 b) ∧ cs[o + 2]? = some (.int .i64 c) := by
  obtain ⟨n, y, hy⟩ := field_trod hs h i o gs.size ft hf hC
  obtain ⟨zs, hl, hz, hi⟩ := trod_ints hu hone hC hy
  rw [h3] at hl
  have hg : ∀ j (hj : j < zs.length), cs[o + j]? = some (.int .i64 zs[j]) := fun j hj => by
    have : ((cs.drop o).take gs.size)[j]? = some (.int .i64 zs[j]) := by rw [hz, ints_get zs j hj]
    rwa [List.getElem?_take, if_pos (by omega), List.getElem?_drop] at this
  obtain ⟨a, b, c, rfl⟩ : ∃ a b c, zs = [a, b, c] := by
    match zs, hl with
    | [a, b, c], _ => exact ⟨a, b, c, rfl⟩
  exact ⟨a, b, c, ⟨hi a (by simp), hi b (by simp), hi c (by simp)⟩, hg 0 (by simp), hg 1 (by simp), hg 2 (by simp)⟩
end
section
variable {H : Type} {enc : TypeId × Value → H} {W : World} {base : Nat} {v : Value} {d : DataW H} {p : List MemPlace}
set_option maxRecDepth 100000 in
theorem act_of {fuel : Nat} {cs : List Value} {x : DataW H × List MemPlace} {hd : Bool} (h : DataW.trod enc Try.prog W 0 (fun _ => true) hd fuel 47 cs = some x) : ∃ y : A5, y.cs = cs ∧ (I64 y.s ∧ I64 y.k ∧ I64 y.a ∧ I64 y.b ∧ I64 y.c) := by
  have hu := Try.underlying47
  obtain ⟨g, h0⟩ := field_bool hu h 0 0 4 (by kernel_rfl) (by kernel_rfl) Try.underlying4
  obtain ⟨r, h1⟩ := field_bool hu h 1 1 4 (by kernel_rfl) (by kernel_rfl) Try.underlying4
  obtain ⟨s, h2, i2⟩ := field_int hu h 2 2 3 (by kernel_rfl) (by kernel_rfl) Try.underlying3
  obtain ⟨k, h3, i3⟩ := field_int hu h 3 3 3 (by kernel_rfl) (by kernel_rfl) Try.underlying3
  obtain ⟨a, b, c, ⟨i4, i5, i6⟩, h4, h5, h6⟩ := field_trip hu h 4 4 (by kernel_rfl) Try.underlying23 (by kernel_rfl) (by kernel_rfl) (by kernel_rfl)
  have hlen : cs.length = 7 := by
    obtain ⟨_, _, _, _, hl, _⟩ := DataW.trod_struct hu h
    have : Try.prog.cellsOf 47 = 7 := by kernel_rfl
    omega
  refine ⟨⟨g, r, s, k, a, b, c⟩, ?_, i2, i3, i4, i5, i6⟩
  refine List.ext_getElem? fun j => ?_
  match j with
  | 0 => exact h0.symm
  | 1 => exact h1.symm
  | 2 => exact h2.symm
  | 3 => exact h3.symm
  | 4 => exact h4.symm
  | 5 => exact h5.symm
  | 6 => exact h6.symm
  | j + 7 => rw [List.getElem?_eq_none (show cs.length ≤ j + 7 by omega), List.getElem?_eq_none (show 7 ≤ j + 7 by omega)]
set_option maxRecDepth 100000 in
theorem open_acts5 (hv : Value.okWide Try.prog W .any base 33 v) (h : DataW.Trod enc Try.prog W 0 (fun _ => true) true 33 v d p) : ∃ A n c X, v = .slice A n c ∧ Acts5 W A n X := by
  obtain ⟨A, n, c, rfl⟩ := okWide_slice Try.underlying33 hv
  obtain ⟨fuel, hf⟩ := h
  simp only [Value.cells] at hf
  obtain ⟨hmax, _, L, hL⟩ := open_elems Try.underlying33 (by kernel_rfl : Try.prog.cellsOf 47 = 7) (by omega) hf
  have hth : ∀ i, ∃ y : A5, i < n → y.cs = L i ∧ (I64 y.s ∧ I64 y.k ∧ I64 y.a ∧ I64 y.b ∧ I64 y.c) := fun i => by
    by_cases hi : i < n
    · obtain ⟨_, ⟨m, y, hy⟩, _⟩ := hL i hi
      obtain ⟨z, hz⟩ := act_of hy
      exact ⟨z, fun _ => hz⟩
    · exact ⟨⟨false, false, 0, 0, 0, 0, 0⟩, fun h => absurd h hi⟩
  obtain ⟨X, hX⟩ := Classical.axiomOfChoice hth
  refine ⟨A, n, c, X, rfl, hmax, fun i hi => ⟨(hX i hi).2, ?_⟩⟩
  obtain ⟨hlen, _, hr⟩ := hL i hi
  obtain ⟨b, off, rfl, _⟩ := hr 0 _ (List.getElem?_eq_getElem (by omega))
  refine ⟨b, off, rfl, fun j v hj => ?_⟩
  rw [(hX i hi).1] at hj
  obtain ⟨b', off', e, hc⟩ := hr j v hj
  injection e with e; injection e with e1 e2
  subst e1; subst e2
  exact hc
end

end Go.Proofs.Ytkdhinemianndaa
