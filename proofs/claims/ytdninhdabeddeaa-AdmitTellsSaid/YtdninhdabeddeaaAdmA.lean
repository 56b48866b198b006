/-
  WALKS of package admit: what a configuration is; its opener.
-/
import Derived.Test.YtdninhdabeddeaaOpn
import Derived.Test.YtdninhdabeddeaaDep
namespace Go.Proofs.Ytdninhdabeddeaa
open Go.ChangeShapes Go.WideShapes Go.ChangeAt Go.RowKit

theorem choose_map {α β : Type} (f : β → α) (Q : β → Prop) : ∀ L : List α, (∀ x ∈ L, ∃ y, f y = x ∧ Q y) → ∃ T : List β, T.map f = L ∧ ∀ y ∈ T, Q y
  | [], _ => ⟨[], rfl, by simp⟩
  | x :: L, h => by
    obtain ⟨y, hy, hq⟩ := h x (by simp)
    obtain ⟨T, hT, hTq⟩ := choose_map f Q L (fun z hz => h z (by simp [hz]))
    exact ⟨y :: T, by simp [hy, hT], by intro z hz; rcases List.mem_cons.1 hz with rfl | hz; exact hq; exact hTq z hz⟩

/-- A program's steps: 9 cells each, two of them texts. -/
def OpOk (x : List Value) : Prop := x.length = 9 ∧ ∃ s u, x[7]? = some (.string s) ∧ x[8]? = some (.string u)
structure OpsArg (w : World) (A : Option Addr) (n : Nat) (L : List (List Value)) : Prop where
  len : L.length = n
  max : n ≤ 9223372036854775807
  ok : ∀ x ∈ L, OpOk x
  rd : Rd w A (flat L)
theorem OpsArg.keep {w w' : World} {A : Option Addr} {n : Nat} {L : List (List Value)} (h : OpsArg w A n L) (hb : Ext w w') : OpsArg w' A n L := ⟨h.len, h.max, h.ok, h.rd.keep hb⟩
theorem IntsArg.keep {w w' : World} {A : Option Addr} {n : Nat} {zs : List Int} (h : IntsArg w A n zs) (hb : Ext w w') : IntsArg w' A n zs := ⟨h.len, h.max, h.rd.keep hb, h.wf⟩
theorem PairsArg.keep {w w' : World} {A : Option Addr} {n : Nat} {ps : List (Int × Int)} (h : PairsArg w A n ps) (hb : Ext w w') : PairsArg w' A n ps := ⟨h.len, h.max, h.rd.keep hb, h.wf⟩

/-- A task that is declared. -/
structure TK where
  cls : Int
  lvl : Int
  per : Int
  ddl : Int
  bud : Int
  line : Int
  U : Option Addr
  un : Nat
  uc : Nat
  us : List Int
  O : Option Addr
  on : Nat
  oc : Nat
  os : List (List Value)
def TK.cs (x : TK) : List Value := [.int .i64 x.cls, .int .i64 x.lvl, .int .i64 x.per, .int .i64 x.ddl, .int .i64 x.bud, .int .i64 x.line, .slice x.U x.un x.uc, .slice x.O x.on x.oc]
structure TK.Ok (w : World) (x : TK) : Prop where
  wf : I64 x.cls ∧ I64 x.lvl ∧ I64 x.per ∧ I64 x.ddl ∧ I64 x.bud ∧ I64 x.line
  us : IntsArg w x.U x.un x.us
  uc : x.un ≤ x.uc
  os : OpsArg w x.O x.on x.os
theorem TK.Ok.keep {w w' : World} {x : TK} (h : x.Ok w) (hb : Ext w w') : x.Ok w' := ⟨h.wf, h.us.keep hb, h.uc, h.os.keep hb⟩
/-- A thread of best effort that is declared. -/
structure EF where
  lvl : Int
  O : Option Addr
  on : Nat
  oc : Nat
  os : List (List Value)
def EF.cs (x : EF) : List Value := [.int .i64 x.lvl, .slice x.O x.on x.oc]
structure EF.Ok (w : World) (x : EF) : Prop where
  wf : I64 x.lvl
  os : OpsArg w x.O x.on x.os
theorem EF.Ok.keep {w w' : World} {x : EF} (h : x.Ok w) (hb : Ext w w') : x.Ok w' := ⟨h.wf, h.os.keep hb⟩
structure TasksArg (w : World) (A : Option Addr) (n : Nat) (ts : List TK) : Prop where
  len : ts.length = n
  max : n ≤ 9223372036854775807
  ok : ∀ x ∈ ts, x.Ok w
  rd : Rd w A (flat (ts.map TK.cs))
theorem TasksArg.keep {w w' : World} {A : Option Addr} {n : Nat} {ts : List TK} (h : TasksArg w A n ts) (hb : Ext w w') : TasksArg w' A n ts := ⟨h.len, h.max, fun x hx => (h.ok x hx).keep hb, h.rd.keep hb⟩
structure BestArg (w : World) (A : Option Addr) (n : Nat) (bs : List EF) : Prop where
  len : bs.length = n
  max : n ≤ 9223372036854775807
  ok : ∀ x ∈ bs, x.Ok w
  rd : Rd w A (flat (bs.map EF.cs))
theorem BestArg.keep {w w' : World} {A : Option Addr} {n : Nat} {bs : List EF} (h : BestArg w A n bs) (hb : Ext w w') : BestArg w' A n bs := ⟨h.len, h.max, fun x hx => (h.ok x hx).keep hb, h.rd.keep hb⟩
/-- A configuration that came in. -/
structure ConfArg (w : World) (A : Option Addr) (nt : Nat) (ts : List TK) (B : Option Addr) (nb : Nat) (bs : List EF) (M : Option Addr) (nm : Nat) (ms : List (Int × Int)) (G : Option Addr) (ng : Nat) (gs : List Int) (fr dog : Int) : Prop where
  tasks : TasksArg w A nt ts
  best : BestArg w B nb bs
  mtx : PairsArg w M nm ms
  gaps : IntsArg w G ng gs
  fr : I64 fr
  dog : I64 dog
theorem ConfArg.keep {w w' : World} {A B M G : Option Addr} {nt nb nm ng : Nat} {ts : List TK} {bs : List EF} {ms : List (Int × Int)} {gs : List Int} {fr dog : Int} (h : ConfArg w A nt ts B nb bs M nm ms G ng gs fr dog) (hb : Ext w w') : ConfArg w' A nt ts B nb bs M nm ms G ng gs fr dog :=
  ⟨h.tasks.keep hb, h.best.keep hb, h.mtx.keep hb, h.gaps.keep hb, h.fr, h.dog⟩

section
variable {H : Type} {enc : TypeId × Value → H} {W : World} {base : Nat} {v : Value} {d : DataW H} {p : List MemPlace}
/-- A slice of elements of which each is so. -/
theorem open_list {P : Program} {fuel : Nat} {t e : TypeId} {A : Option Addr} {m c k : Nat} {x : DataW H × List MemPlace} {hd : Bool} (Q : List Value → Prop) (hQ : ∀ n cs y, DataW.trod enc P W 0 (fun _ => true) hd n e cs = some y → Q cs)
    (ht : P.underlying t = some (.slice e)) (hC : P.cellsOf e = k) (hpos : 0 < k) (h : DataW.trod enc P W 0 (fun _ => true) hd fuel t [.slice A m c] = some x) :
    m ≤ 9223372036854775807 ∧ m ≤ c ∧ ∃ L : List (List Value), L.length = m ∧ (∀ x ∈ L, x.length = k ∧ Q x) ∧ Rd W A (flat L) := by
  obtain ⟨hmax, hcap, L, hL⟩ := open_elems ht hC hpos h
  have hall : ∀ x ∈ (List.range m).map L, x.length = k ∧ Q x := by
    intro x hx
    simp only [List.mem_map, List.mem_range] at hx
    obtain ⟨i, hi, rfl⟩ := hx
    obtain ⟨h1, ⟨n, y, hy⟩, _⟩ := hL i hi
    exact ⟨h1, hQ n _ y hy⟩
  refine ⟨hmax, hcap, (List.range m).map L, by simp, hall, ?_⟩
  intro j u hj
  have hlen := fun x hx => (hall x hx).1
  have hlt := (List.getElem?_eq_some_iff.1 hj).1
  rw [flat_len _ hlen] at hlt
  simp only [List.length_map, List.length_range] at hlt
  have hi : j / k < m := Nat.div_lt_of_lt_mul (by rw [Nat.mul_comm]; exact hlt)
  have hmod : j % k < k := Nat.mod_lt _ hpos
  have hdiv : j / k * k + j % k = j := by rw [Nat.mul_comm]; exact Nat.div_add_mod j k
  have hg := flat_get _ hlen (j / k) (j % k) (by simpa using hi) hmod
  rw [hdiv, hj] at hg
  simp only [List.getElem_map, List.getElem_range] at hg
  obtain ⟨_, _, hr⟩ := hL (j / k) hi
  have := hr (j % k) u hg.symm
  rwa [hdiv] at this
theorem field_str {P : Program} {t : TypeId} {fs : Array Field} {fuel : Nat} {cs : List Value} {x : DataW H × List MemPlace} {b0 : Nat} {sp : Nat → Bool} {hd : Bool} (hs : P.underlying t = some (.struct fs)) (h : DataW.trod enc P W b0 sp hd fuel t cs = some x) (i o : Nat) (ft : TypeId)
    (hf : (fs[i]?).map (fun f => (f.offset, f.type)) = some (o, ft)) (hk : P.cellsOf ft = 1) (hu : P.underlying ft = some .string) : ∃ s, cs[o]? = some (.string s) := by
  obtain ⟨n, y, hy⟩ := field_trod hs h i o 1 ft hf hk
  obtain ⟨z, hz, _⟩ := DataW.trod_string hu hy
  exact ⟨z, take_one hz⟩

set_option maxRecDepth 100000 in
theorem op_of {fuel : Nat} {cs : List Value} {x : DataW H × List MemPlace} {hd : Bool} (h : DataW.trod enc Try.prog W 0 (fun _ => true) hd fuel 52 cs = some x) : OpOk cs := by
  have hu := Try.underlying52
  have hc := Try.underlying50
  have hlen : cs.length = 9 := by
    obtain ⟨_, _, _, _, hl, _⟩ := DataW.trod_struct hu h
    have : Try.prog.cellsOf 52 = 9 := by kernel_rfl
    omega
  obtain ⟨n, y, hy⟩ := field_trod hu h 4 4 5 50 (by kernel_rfl) (by kernel_rfl)
  obtain ⟨s, hs⟩ := field_str hc hy 3 3 9 (by kernel_rfl) (by kernel_rfl) Try.underlying9
  obtain ⟨u, hu'⟩ := field_str hc hy 4 4 9 (by kernel_rfl) (by kernel_rfl) Try.underlying9
  rw [List.getElem?_take, if_pos (by omega), List.getElem?_drop] at hs hu'
  exact ⟨hlen, s, u, hs, hu'⟩
set_option maxRecDepth 100000 in
theorem ops_of {fuel : Nat} {A : Option Addr} {m c : Nat} {x : DataW H × List MemPlace} {hd : Bool} (h : DataW.trod enc Try.prog W 0 (fun _ => true) hd fuel 45 [.slice A m c] = some x) : ∃ L, OpsArg W A m L := by
  obtain ⟨h1, _, L, h2, h3, h4⟩ := open_list OpOk (fun _ _ _ h => op_of h) Try.underlying45 (by kernel_rfl : Try.prog.cellsOf 52 = 9) (by omega) h
  exact ⟨L, h2, h1, fun x hx => (h3 x hx).2, h4⟩
set_option maxRecDepth 100000 in
theorem task_of {fuel : Nat} {cs : List Value} {x : DataW H × List MemPlace} (h : DataW.trod enc Try.prog W 0 (fun _ => true) true fuel 47 cs = some x) : ∃ y : TK, y.cs = cs ∧ y.Ok W := by
  have hu := Try.underlying47
  have hlen : cs.length = 8 := by
    obtain ⟨_, _, _, _, hl, _⟩ := DataW.trod_struct hu h
    have : Try.prog.cellsOf 47 = 8 := by kernel_rfl
    omega
  obtain ⟨a, ha, wa⟩ := field_int hu h 0 0 3 (by kernel_rfl) (by kernel_rfl) Try.underlying3
  obtain ⟨b, hb, wb⟩ := field_int hu h 1 1 3 (by kernel_rfl) (by kernel_rfl) Try.underlying3
  obtain ⟨c, hc, wc⟩ := field_int hu h 2 2 3 (by kernel_rfl) (by kernel_rfl) Try.underlying3
  obtain ⟨d, hd, wd⟩ := field_int hu h 3 3 3 (by kernel_rfl) (by kernel_rfl) Try.underlying3
  obtain ⟨e, he, we⟩ := field_int hu h 4 4 3 (by kernel_rfl) (by kernel_rfl) Try.underlying3
  obtain ⟨f, hf, wf⟩ := field_int hu h 5 5 3 (by kernel_rfl) (by kernel_rfl) Try.underlying3
  obtain ⟨_, _, U, un, uc, tU, hU⟩ := field_slice hu h 6 6 25 (by kernel_rfl) (by kernel_rfl) Try.underlying25
  obtain ⟨_, _, O, on, oc, tO, hO⟩ := field_slice hu h 7 7 45 (by kernel_rfl) (by kernel_rfl) Try.underlying45
  obtain ⟨us, hus, huc⟩ := ints_of_trod tU
  obtain ⟨os, hos⟩ := ops_of tO
  refine ⟨⟨a, b, c, d, e, f, U, un, uc, us, O, on, oc, os⟩, List.ext_getElem? fun k => ?_, ⟨wa, wb, wc, wd, we, wf⟩, hus, huc, hos⟩
  match k with
  | 0 => exact ha.symm
  | 1 => exact hb.symm
  | 2 => exact hc.symm
  | 3 => exact hd.symm
  | 4 => exact he.symm
  | 5 => exact hf.symm
  | 6 => exact hU.symm
  | 7 => exact hO.symm
  | k + 8 => rw [List.getElem?_eq_none (by simp [TK.cs]), List.getElem?_eq_none (by omega)]
set_option maxRecDepth 100000 in
theorem effort_of {fuel : Nat} {cs : List Value} {x : DataW H × List MemPlace} {hd : Bool} (h : DataW.trod enc Try.prog W 0 (fun _ => true) hd fuel 60 cs = some x) : ∃ y : EF, y.cs = cs ∧ y.Ok W := by
  have hu := Try.underlying60
  have hlen : cs.length = 2 := by
    obtain ⟨_, _, _, _, hl, _⟩ := DataW.trod_struct hu h
    have : Try.prog.cellsOf 60 = 2 := by kernel_rfl
    omega
  obtain ⟨a, ha, wa⟩ := field_int hu h 0 0 3 (by kernel_rfl) (by kernel_rfl) Try.underlying3
  obtain ⟨_, _, O, on, oc, tO, hO⟩ := field_slice hu h 1 1 45 (by kernel_rfl) (by kernel_rfl) Try.underlying45
  obtain ⟨os, hos⟩ := ops_of tO
  refine ⟨⟨a, O, on, oc, os⟩, List.ext_getElem? fun k => ?_, wa, hos⟩
  match k with
  | 0 => exact ha.symm
  | 1 => exact hO.symm
  | k + 2 => rw [List.getElem?_eq_none (by simp [EF.cs]), List.getElem?_eq_none (by omega)]
set_option maxRecDepth 100000 in
theorem mutex_of {fuel : Nat} {cs : List Value} {x : DataW H × List MemPlace} {hd : Bool} (h : DataW.trod enc Try.prog W 0 (fun _ => true) hd fuel 55 cs = some x) : ∃ y : Int × Int, [.int .i64 y.1, .int .i64 y.2] = cs ∧ I64 y.1 ∧ I64 y.2 := by
  have hu := Try.underlying55
  have hlen : cs.length = 2 := by
    obtain ⟨_, _, _, _, hl, _⟩ := DataW.trod_struct hu h
    have : Try.prog.cellsOf 55 = 2 := by kernel_rfl
    omega
  obtain ⟨a, ha, wa⟩ := field_int hu h 0 0 3 (by kernel_rfl) (by kernel_rfl) Try.underlying3
  obtain ⟨b, hb, wb⟩ := field_int hu h 1 1 3 (by kernel_rfl) (by kernel_rfl) Try.underlying3
  refine ⟨(a, b), List.ext_getElem? fun k => ?_, wa, wb⟩
  match k with
  | 0 => exact ha.symm
  | 1 => exact hb.symm
  | k + 2 => rw [List.getElem?_eq_none (by simp), List.getElem?_eq_none (by omega)]

set_option maxRecDepth 100000 in
theorem open_conf (hv : Value.okWide Try.prog W .any base 27 v) (h : DataW.Trod enc Try.prog W 0 (fun _ => true) true 27 v d p) :
    ∃ A nt ct ts B nb cb bs M nm cm ms G ng cg gs fr dog, v = .agg #[.slice A nt ct, .slice B nb cb, .slice M nm cm, .slice G ng cg, .int .i64 fr, .int .i64 dog] ∧ ConfArg W A nt ts B nb bs M nm ms G ng gs fr dog ∧ (nt ≤ ct ∧ nb ≤ cb ∧ nm ≤ cm ∧ ng ≤ cg) := by
  have hu := Try.underlying27
  obtain ⟨cs, rfl, _⟩ := okWide_struct hu hv
  obtain ⟨fuel, hf⟩ := h
  simp only [Value.cells] at hf
  obtain ⟨_, _, A, nt, ct, tA, h0⟩ := field_slice hu hf 0 0 22 (by kernel_rfl) (by kernel_rfl) Try.underlying22
  obtain ⟨_, _, B, nb, cb, tB, h1⟩ := field_slice hu hf 1 1 23 (by kernel_rfl) (by kernel_rfl) Try.underlying23
  obtain ⟨_, _, M, nm, cm, tM, h2⟩ := field_slice hu hf 2 2 24 (by kernel_rfl) (by kernel_rfl) Try.underlying24
  obtain ⟨_, _, G, ng, cg, tG, h3⟩ := field_slice hu hf 3 3 25 (by kernel_rfl) (by kernel_rfl) Try.underlying25
  obtain ⟨fr, h4, wf⟩ := field_int hu hf 4 4 3 (by kernel_rfl) (by kernel_rfl) Try.underlying3
  obtain ⟨dog, h5, wd⟩ := field_int hu hf 5 5 3 (by kernel_rfl) (by kernel_rfl) Try.underlying3
  have hlen : cs.size = 6 := by
    obtain ⟨_, _, _, _, hl, _⟩ := DataW.trod_struct hu hf
    have : Try.prog.cellsOf 27 = 6 := by kernel_rfl
    simpa [this] using hl
  obtain ⟨a1, a2, LA, a3, a4, a5⟩ := open_list (fun cs => ∃ y : TK, y.cs = cs ∧ y.Ok W) (fun _ _ _ h => task_of h) Try.underlying22 (by kernel_rfl : Try.prog.cellsOf 47 = 8) (by omega) tA
  obtain ⟨b1, b2, LB, b3, b4, b5⟩ := open_list (fun cs => ∃ y : EF, y.cs = cs ∧ y.Ok W) (fun _ _ _ h => effort_of h) Try.underlying23 (by kernel_rfl : Try.prog.cellsOf 60 = 2) (by omega) tB
  obtain ⟨m1, m2, LM, m3, m4, m5⟩ := open_list (fun cs => ∃ y : Int × Int, [Value.int .i64 y.1, Value.int .i64 y.2] = cs ∧ I64 y.1 ∧ I64 y.2) (fun _ _ _ h => mutex_of h) Try.underlying24 (by kernel_rfl : Try.prog.cellsOf 55 = 2) (by omega) tM
  obtain ⟨gs, g1, g2⟩ := ints_of_trod tG
  obtain ⟨ts, rfl, hts⟩ := choose_map TK.cs (TK.Ok W) LA (fun x hx => (a4 x hx).2)
  obtain ⟨bs, rfl, hbs⟩ := choose_map EF.cs (EF.Ok W) LB (fun x hx => (b4 x hx).2)
  obtain ⟨ms, rfl, hms⟩ := choose_map (fun y : Int × Int => [Value.int .i64 y.1, Value.int .i64 y.2]) (fun y => I64 y.1 ∧ I64 y.2) LM (fun x hx => (m4 x hx).2)
  have hcl : cs = #[.slice A nt ct, .slice B nb cb, .slice M nm cm, .slice G ng cg, .int .i64 fr, .int .i64 dog] := by
    have e : cs.toList = [.slice A nt ct, .slice B nb cb, .slice M nm cm, .slice G ng cg, .int .i64 fr, .int .i64 dog] := by
      refine List.ext_getElem? fun k => ?_
      match k with
      | 0 => exact h0
      | 1 => exact h1
      | 2 => exact h2
      | 3 => exact h3
      | 4 => exact h4
      | 5 => exact h5
      | k + 6 => rw [List.getElem?_eq_none (by simp [hlen]), List.getElem?_eq_none (by simp)]
    have := congrArg List.toArray e
    rwa [Array.toArray_toList] at this
  have hp : flat (ms.map fun y : Int × Int => [Value.int .i64 y.1, Value.int .i64 y.2]) = pairs ms := by unfold flat pairs; rw [List.flatMap_map]; rfl
  rw [hp] at m5
  exact ⟨A, nt, ct, ts, B, nb, cb, bs, M, nm, cm, ms, G, ng, cg, gs, fr, dog, by rw [hcl], ⟨⟨by simpa using a3, a1, hts, a5⟩, ⟨by simpa using b3, b1, hbs, b5⟩, ⟨by simpa using m3, m1, m5, hms⟩, g1, wf, wd⟩, a2, b2, m2, g2⟩
end

end Go.Proofs.Ytdninhdabeddeaa
