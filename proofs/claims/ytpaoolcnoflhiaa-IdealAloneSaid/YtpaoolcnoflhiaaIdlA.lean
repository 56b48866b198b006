/-
  WALKS of package ideal: what a view is; Waits, Effective.
-/
import Derived.Test.YtpaoolcnoflhiaaOpn
import Derived.Test.YtpaoolcnoflhiaaGphG
namespace Go.Proofs.Ytpaoolcnoflhiaa
open Go.ChangeShapes Go.WideShapes Go.ChangeAt Go.RowKit
attribute [local go_sem] depUpon Sp.ok

/-- A thread: its cells; its base, its state, its mutex, how many it holds. -/
structure TH where
  cs : List Value
  b : P3
  st : Int
  on : Int
  hn : Nat
structure TH.Ok (x : TH) : Prop where
  len : x.cs.length = 21
  one : ∀ u ∈ x.cs, u.oneCell' = true
  b0 : x.cs[2]? = some (.int .i64 x.b.1)
  b1 : x.cs[3]? = some (.int .i64 x.b.2.1)
  b2 : x.cs[4]? = some (.int .i64 x.b.2.2)
  s : x.cs[5]? = some (.int .i64 x.st)
  o : x.cs[6]? = some (.int .i64 x.on)
  h : ∃ H c, x.cs[20]? = some (.slice H x.hn c)
/-- A view that came in: its threads, its mutexes' owners. -/
structure ViewArg (w : World) (A : Option Addr) (n : Nat) (ths : List TH) (B : Option Addr) (nb : Nat) (os : List Int) : Prop where
  len : ths.length = n
  max : n ≤ 9223372036854775807
  ok : ∀ x ∈ ths, x.Ok
  rd : Rd w A (flat (ths.map (·.cs)))
  own : IntsArg w B nb os
theorem ViewArg.keep {w w' : World} {A B : Option Addr} {n nb : Nat} {ths : List TH} {os : List Int} (h : ViewArg w A n ths B nb os) (hb : Ext w w') : ViewArg w' A n ths B nb os :=
  ⟨h.len, h.max, h.ok, h.rd.keep hb, h.own.len, h.own.max, h.own.rd.keep hb, h.own.wf⟩

section
variable {H : Type} {enc : TypeId × Value → H} {W : World} {base : Nat} {v : Value} {d : DataW H} {p : List MemPlace}
set_option maxRecDepth 100000 in
theorem th_of {fuel : Nat} {cs : List Value} {x : DataW H × List MemPlace} {hd : Bool} (h : DataW.trod enc Try.prog W 0 (fun _ => true) hd fuel 44 cs = some x) : ∃ y : TH, y.cs = cs ∧ y.Ok := by
  have hu := Try.underlying44
  obtain ⟨zs, hz, hb⟩ := field_ints hu h 2 2 (by kernel_rfl) Try.underlying38 (by kernel_rfl) (by kernel_rfl)
  obtain ⟨st, hst, _⟩ := field_int hu h 3 5 3 (by kernel_rfl) (by kernel_rfl) Try.underlying3
  obtain ⟨on, hon, _⟩ := field_int hu h 4 6 3 (by kernel_rfl) (by kernel_rfl) Try.underlying3
  obtain ⟨_, _, A, m, c, _, hh⟩ := field_slice hu h 16 20 42 (by kernel_rfl) (by kernel_rfl) Try.underlying42
  have hone := leaf_one 4 44 _ _ _ (by kernel_rfl) h
  have hlen : cs.length = 21 := by
    obtain ⟨_, _, _, _, hl, _⟩ := DataW.trod_struct hu h
    have : Try.prog.cellsOf 44 = 21 := by kernel_rfl
    omega
  match zs, hz with
  | [a, b, c'], _ => exact ⟨⟨cs, (a, b, c'), st, on, m⟩, rfl, hlen, hone, hb 0 (by simp), hb 1 (by simp), hb 2 (by simp), hst, hon, A, c, hh⟩

set_option maxRecDepth 100000 in
theorem open_view (hv : Value.okWide Try.prog W .any base 26 v) (h : DataW.Trod enc Try.prog W 0 (fun _ => true) true 26 v d p) :
    ∃ tick A n c ths B nb cb os P np cp F nf cf, v = .agg #[.int .i64 tick, .slice A n c, .slice B nb cb, .slice P np cp, .slice F nf cf] ∧ ViewArg W A n ths B nb os := by
  have hu := Try.underlying26
  obtain ⟨cs, rfl, _⟩ := okWide_struct hu hv
  obtain ⟨fuel, hf⟩ := h
  simp only [Value.cells] at hf
  obtain ⟨tick, h0, _⟩ := field_int hu hf 0 0 3 (by kernel_rfl) (by kernel_rfl) Try.underlying3
  obtain ⟨n1, y1, A, n, c, t1, h1⟩ := field_slice hu hf 1 1 22 (by kernel_rfl) (by kernel_rfl) Try.underlying22
  obtain ⟨n2, y2, B, nb, cb, t2, h2⟩ := field_slice hu hf 2 2 23 (by kernel_rfl) (by kernel_rfl) Try.underlying23
  obtain ⟨n3, y3, P, np, cp, _, h3⟩ := field_slice hu hf 3 3 24 (by kernel_rfl) (by kernel_rfl) Try.underlying24
  obtain ⟨n4, y4, F, nf, cf, _, h4⟩ := field_slice hu hf 4 4 23 (by kernel_rfl) (by kernel_rfl) Try.underlying23
  have hlen : cs.size = 5 := by
    obtain ⟨_, _, _, _, hl, _⟩ := DataW.trod_struct hu hf
    have : Try.prog.cellsOf 26 = 5 := by kernel_rfl
    simpa [this] using hl
  obtain ⟨hmax, hcap, L, hL⟩ := open_elems Try.underlying22 (by kernel_rfl : Try.prog.cellsOf 44 = 21) (by omega) t1
  obtain ⟨os, hos, _⟩ := ints_of_trod t2
  have each : ∀ i, i < n → ∃ y : TH, y.cs = L i ∧ y.Ok := fun i hi => by
    obtain ⟨_, ⟨m, y, hy⟩, _⟩ := hL i hi
    exact th_of hy
  have hth : ∀ i, ∃ y : TH, i < n → y.cs = L i ∧ y.Ok := fun i => by
    by_cases hi : i < n
    · obtain ⟨y, hy⟩ := each i hi; exact ⟨y, fun _ => hy⟩
    · exact ⟨⟨[], (0, 0, 0), 0, 0, 0⟩, fun h => absurd h hi⟩
  obtain ⟨T, hT⟩ := Classical.axiomOfChoice hth
  have hcl : cs = #[.int .i64 tick, .slice A n c, .slice B nb cb, .slice P np cp, .slice F nf cf] := by
    have e : cs.toList = [.int .i64 tick, .slice A n c, .slice B nb cb, .slice P np cp, .slice F nf cf] := by
      refine List.ext_getElem? fun k => ?_
      match k with
      | 0 => exact h0
      | 1 => exact h1
      | 2 => exact h2
      | 3 => exact h3
      | 4 => exact h4
      | k + 5 => rw [List.getElem?_eq_none (by simp [hlen]), List.getElem?_eq_none (by simp)]
    have := congrArg List.toArray e
    rwa [Array.toArray_toList] at this
  refine ⟨tick, A, n, c, (List.range n).map T, B, nb, cb, os, P, np, cp, F, nf, cf, by rw [hcl], by simp, hmax, ?_, ?_, hos⟩
  · intro x hx
    simp only [List.mem_map, List.mem_range] at hx
    obtain ⟨i, hi, rfl⟩ := hx
    exact (hT i hi).2
  · intro k u hk
    have hflat : ∀ x ∈ ((List.range n).map T).map (·.cs), x.length = 21 := by
      intro x hx
      simp only [List.mem_map, List.mem_range] at hx
      obtain ⟨y, ⟨i, hi, rfl⟩, rfl⟩ := hx
      exact (hT i hi).2.len
    have hlt := (List.getElem?_eq_some_iff.1 hk).1
    rw [flat_len _ hflat] at hlt
    simp at hlt
    have hi : k / 21 < n := by omega
    have hdiv : k / 21 * 21 + k % 21 = k := by omega
    have hg := flat_get _ hflat (k / 21) (k % 21) (by simpa using hi) (by omega)
    rw [hdiv, hk] at hg
    simp only [List.getElem_map, List.getElem_range] at hg
    obtain ⟨_, _, hr⟩ := hL (k / 21) hi
    rw [(hT (k / 21) hi).1] at hg
    have := hr (k % 21) u hg.symm
    rwa [hdiv] at this
end

end Go.Proofs.Ytpaoolcnoflhiaa
