/-
  PROCESSES: the plain words, and what a map of processes reads as.
-/
import Derived.Test.YtdgggdhligfnpaaKeys
import Derived.Test.YtdgggdhligfnpaaOver
import Derived.Test.YtdgggdhligfnpaaArr
import Derived.Test.YtdgggdhligfnpaaAppB
import Derived.Maps.OwnSet
namespace Go.Proofs.Ytdgggdhligfnpaa
open Go.RowKit Go.Maps

/-- A process: its number, its parent, its code; is it dead? -/
structure PR where
  pid : Int
  par : Int
  code : Int
  dead : Bool
def pval (a c : Int) (d : Bool) : Value := .agg #[.int .i64 a, .int .i64 c, .bool d]
def penc (a c : Int) (d : Bool) : DataW Unit := .agg [.lit (.int .i64 a), .lit (.int .i64 c), .lit (.bool d)]
/-- What a process reads as. -/
def prd (v : Value) : Option (DataW Unit × List MemPlace) := match v with
  | .agg xs => match xs.toList with
    | [.int .i64 a, .int .i64 c, .bool d] => some (penc a c d, [])
    | _ => none
  | _ => none
theorem prd_mk (a c : Int) (d : Bool) : prd (pval a c d) = some (penc a c d, []) := rfl
theorem prd_inv {v : Value} {x : DataW Unit} {ps : List MemPlace} (h : prd v = some (x, ps)) : ∃ a c d, v = pval a c d ∧ x = penc a c d := by
  unfold prd at h
  split at h
  · rename_i xs
    split at h
    · rename_i a c d hx
      injection h with h
      injection h with h1 h2
      refine ⟨a, c, d, ?_, h1.symm⟩
      unfold pval
      rw [← Array.toArray_toList (xs := xs), hx]
    · cases h
  · cases h
theorem penc_inj {a c a' c' : Int} {d d' : Bool} (h : penc a c d = penc a' c' d') : a = a' ∧ c = c' ∧ d = d' := by
  unfold penc at h
  injection h with h
  simp only [List.cons.injEq, DataW.lit.injEq, Lit.int.injEq, Lit.bool.injEq, true_and, and_true] at h
  exact h
def pent (r : PR) : Lit × DataW Unit := (.int .i64 r.pid, penc r.par r.code r.dead)
def dmap (L : List PR) : DataW Unit := .map (L.map pent)
def Srt (L : List PR) : Prop := L.Pairwise fun x y => x.pid < y.pid
def pdel (L : List PR) (k : Int) : List PR := L.filter fun r => !decide (r.pid = k)
def pins (x : PR) : List PR → List PR
  | [] => [x]
  | y :: r => if x.pid < y.pid then x :: y :: r else y :: pins x r
def pput (L : List PR) (x : PR) : List PR := pins x (pdel L x.pid)
def pget (L : List PR) (k : Int) : Option PR := L.find? fun r => decide (r.pid = k)
def oPar : Option PR → Int
  | some r => r.par
  | none => 0
def oCode : Option PR → Int
  | some r => r.code
  | none => 0
def oDead : Option PR → Bool
  | some r => r.dead
  | none => false
def pvalO (o : Option PR) : Value := .agg #[.int .i64 (oPar o), .int .i64 (oCode o), .bool (oDead o)]
def pencO : Option PR → DataW Unit
  | some r => penc r.par r.code r.dead
  | none => penc 0 0 false
theorem same_pid (r : PR) (k : Int) : (pent r).1.sameKey (.int .i64 k) = decide (r.pid = k) := by simp [pent, Lit.sameKey]
theorem filter_pid (L : List PR) (k : Int) : (L.map pent).filter (fun p => !p.1.sameKey (.int .i64 k)) = (pdel L k).map pent := by
  unfold pdel
  rw [List.filter_map]
  congr 1
  refine List.filter_congr fun r _ => ?_
  simp only [Function.comp, same_pid]
theorem insert_pid (x : PR) : ∀ L : List PR, DataW.insert (pent x) (L.map pent) = (pins x L).map pent
  | [] => rfl
  | y :: r => by
    rw [List.map_cons]
    unfold DataW.insert pins
    have e : (pent x).1.before (pent y).1 = decide (x.pid < y.pid) := rfl
    by_cases h : x.pid < y.pid
    · rw [if_pos (by rw [e]; simpa using h), if_pos h]; rfl
    · rw [if_neg (by rw [e]; simpa using h), if_neg h, insert_pid x r]; rfl
theorem dmap_put (L : List PR) (x : PR) : (dmap L).put (.int .i64 x.pid) (penc x.par x.code x.dead) = dmap (pput L x) := by
  show DataW.map (DataW.insert (pent x) ((L.map pent).filter fun p => !p.1.sameKey (.int .i64 x.pid))) = _
  rw [filter_pid, insert_pid]; rfl
theorem dmap_del (L : List PR) (k : Int) : (dmap L).del (.int .i64 k) = dmap (pdel L k) := by
  show DataW.map ((L.map pent).filter fun p => !p.1.sameKey (.int .i64 k)) = _
  rw [filter_pid]; rfl
theorem dmap_at (L : List PR) (k : Int) : (dmap L).atKey (.int .i64 k) (penc 0 0 false) = pencO (pget L k) := by
  simp only [DataW.atKey, dmap]
  rw [List.find?_map]
  have e : ((fun p : Lit × DataW Unit => p.1.sameKey (.int .i64 k)) ∘ pent) = fun r => decide (r.pid = k) := by funext r; exact same_pid r k
  rw [e]
  unfold pget
  cases L.find? (fun r => decide (r.pid = k)) <;> rfl
theorem dmap_has (L : List PR) (k : Int) : has (dmap L) (.int .i64 k) = (pget L k).isSome := by
  show (L.map pent).any (fun p => p.1.sameKey (.int .i64 k)) = _
  unfold pget
  rw [List.any_map, Bool.eq_iff_iff, List.any_eq_true, List.find?_isSome]
  constructor
  · rintro ⟨x, hx, h⟩
    exact ⟨x, hx, by rw [← same_pid]; exact h⟩
  · rintro ⟨x, hx, h⟩
    exact ⟨x, hx, by rw [← same_pid] at h; exact h⟩
theorem dmap_size (L : List PR) : size (dmap L) = L.length := by simp [dmap, size]
theorem dmap_keys (L : List PR) : intKeys (dmap L) = L.map PR.pid := by
  show (L.map pent).map (fun p => Go.intOf p.1) = _
  rw [List.map_map]; rfl

theorem Srt.del {L : List PR} (h : Srt L) (k : Int) : Srt (pdel L k) := List.Pairwise.filter _ h
theorem pins_mem {x z : PR} : ∀ {L : List PR}, z ∈ pins x L ↔ z = x ∨ z ∈ L
  | [] => by simp [pins]
  | y :: r => by
    unfold pins
    split
    · simp
    · simp only [List.mem_cons, pins_mem (L := r)]
      constructor
      · rintro (h | h | h)
        · exact .inr (.inl h)
        · exact .inl h
        · exact .inr (.inr h)
      · rintro (h | h | h)
        · exact .inr (.inl h)
        · exact .inl h
        · exact .inr (.inr h)
theorem Srt.ins {x : PR} : ∀ {L : List PR}, Srt L → (∀ r ∈ L, r.pid ≠ x.pid) → Srt (pins x L)
  | [], _, _ => List.pairwise_singleton _ _
  | y :: r, h, hn => by
    have h' := List.pairwise_cons.1 h
    unfold pins
    split
    · rename_i hlt
      refine List.pairwise_cons.2 ⟨fun z hz => ?_, h⟩
      rcases List.mem_cons.1 hz with rfl | hz
      · exact hlt
      · have := h'.1 z hz; omega
    · rename_i hlt
      have hne := hn y (by simp)
      refine List.pairwise_cons.2 ⟨fun z hz => ?_, Srt.ins h'.2 fun q hq => hn q (by simp [hq])⟩
      rcases pins_mem.1 hz with rfl | hz
      · omega
      · exact h'.1 z hz
theorem pdel_mem {L : List PR} {k : Int} {z : PR} : z ∈ pdel L k ↔ z ∈ L ∧ z.pid ≠ k := by simp [pdel, List.mem_filter]
theorem pput_mem {L : List PR} {x z : PR} : z ∈ pput L x ↔ z = x ∨ (z ∈ L ∧ z.pid ≠ x.pid) := by unfold pput; rw [pins_mem, pdel_mem]
theorem Srt.put {L : List PR} (h : Srt L) (x : PR) : Srt (pput L x) := (h.del x.pid).ins fun _ hr => (pdel_mem.1 hr).2
theorem pget_some {L : List PR} {k : Int} {r : PR} (h : pget L k = some r) : r ∈ L ∧ r.pid = k := by
  have h1 := List.mem_of_find?_eq_some h
  have h2 := List.find?_some h
  exact ⟨h1, by simpa using h2⟩
theorem pget_of {L : List PR} (hs : Srt L) {r : PR} (h : r ∈ L) : pget L r.pid = some r := by
  cases hq : pget L r.pid with
  | none =>
    have := List.find?_eq_none.1 hq r h
    simp at this
  | some z =>
    obtain ⟨h1, h2⟩ := pget_some hq
    have inj : ∀ {L : List PR}, Srt L → ∀ {x y : PR}, x ∈ L → y ∈ L → x.pid = y.pid → x = y := by
      intro L
      induction L with
      | nil => intro _ x y hx; cases hx
      | cons a l ih =>
        intro hs x y hx hy he
        have hp := List.pairwise_cons.1 hs
        rcases List.mem_cons.1 hx with h1 | h1
        · rcases List.mem_cons.1 hy with h2 | h2
          · rw [h1, h2]
          · have := hp.1 y h2; rw [h1] at he; omega
        · rcases List.mem_cons.1 hy with h2 | h2
          · have := hp.1 x h1; rw [h2] at he; omega
          · exact ih hp.2 h1 h2 he
    rw [inj hs h1 h h2]
theorem pget_none {L : List PR} {k : Int} (h : pget L k = none) : ∀ r ∈ L, r.pid ≠ k := fun r hr he => by
  have := List.find?_eq_none.1 h r hr
  simp [he] at this
theorem sorted_pids {L : List PR} (hs : Srt L) {ss : List Int} (h : ss.Perm (L.map PR.pid)) : ss.mergeSort (fun x y => decide (x ≤ y)) = L.map PR.pid := by
  have e := mergeSort_of_perm_i h
  have hp : (L.map PR.pid).Pairwise (fun a b => leI a b = true) := by
    refine List.pairwise_map.2 (hs.imp fun {x y} h => ?_)
    simp only [leI, decide_eq_true_eq]; omega
  have e2 := List.mergeSort_of_pairwise hp
  exact e.trans e2

/-- The processes that a call has made. -/
structure PS (w : World) (g gm : Nat) (L : List PR) : Prop where
  own : Own w g 54 [.map (some gm)]
  map : w.ownsMap Try.prog 3 prd gm L.length (dmap L)
  srt : Srt L
  wf : ∀ r ∈ L, I64 r.pid
  ne : g ≠ gm
theorem map_keep' {H : Type} {P : Program} {k : TypeId} {R : Value → Option (DataW H × List MemPlace)} {w w' : World} {b n : Nat} {D : DataW H} (h : w.ownsMap P k R b n D) (hb : Ext w w') : w'.ownsMap P k R b n D := by
  obtain ⟨es, clock, h1, h2⟩ := h
  exact ⟨es, clock, (hb.block b (Array.getElem?_eq_some_iff.1 h1).1).trans h1, h2⟩
theorem PS.keep {w w' : World} {g gm : Nat} {L : List PR} (h : PS w g gm L) (hb : Ext w w') : PS w' g gm L := ⟨h.own.keep hb, map_keep' h.map hb, h.srt, h.wf, h.ne⟩
theorem PS.cell {w : World} {g gm : Nat} {L : List PR} (h : PS w g gm L) : w.cell? ⟨g, 0, none⟩ = some (.map (some gm)) := h.own.cell 0
theorem tight {w : World} {P : Program} {k : TypeId} {R : Value → Option (DataW Unit × List MemPlace)} {b n : Nat} {L : List PR} (h : w.ownsMap P k R b n (dmap L)) : w.ownsMap P k R b L.length (dmap L) := by
  obtain ⟨es, clock, h1, h2, _, h4⟩ := h
  refine ⟨es, clock, h1, h2, ?_, h4⟩
  have e : size (dmap L) = es.size := by
    rw [h4]
    simp [size, length_sorted]
  rw [dmap_size] at e
  omega
theorem keyed_int' : Keyed Try.prog 3 := int_keyed Try.underlying3
theorem zero_prc (w : World) : (zeroValue 56).run Try.prog w = .ok (pval 0 0 false) w := by kernel_rfl
theorem wf_i64' {x : Int} (h : I64 x) : (Lit.int .i64 x).wf = true := by
  obtain ⟨h0, h1⟩ := h
  simp [Lit.wf, IntKind.min, IntKind.max, IntKind.signed, IntKind.bits]
  omega
theorem PS.look_ok {w : World} {g gm : Nat} {L : List PR} (h : PS w g gm L) {k : Int} (hk : I64 k) : (Instr.lookup 52 (.map (some gm)) (.int .i64 k) true).run Try.prog w = .ok (.tuple #[.agg #[.int .i64 (oPar (pget L k)), .int .i64 (oCode (pget L k)), .bool (oDead (pget L k))], .bool (pget L k).isSome]) w := by
  obtain ⟨v, ps, hrun, hv⟩ := h.map.look_ok keyed_int' Try.underlying52 (zero_prc w) (prd_mk 0 0 false) (keyOf_int_mk Try.underlying3 (wf_i64' hk))
  rw [dmap_at] at hv
  rw [dmap_has] at hrun
  obtain ⟨a, c, d, rfl, he⟩ := prd_inv hv
  have hval : pval a c d = pvalO (pget L k) := by
    cases hq : pget L k with
    | none => rw [hq] at he; obtain ⟨rfl, rfl, rfl⟩ := penc_inj he; rfl
    | some r => rw [hq] at he; obtain ⟨rfl, rfl, rfl⟩ := penc_inj he; rfl
  rw [hval] at hrun; exact hrun
theorem PS.look {w : World} {g gm : Nat} {L : List PR} (h : PS w g gm L) {k : Int} (hk : I64 k) : (Instr.lookup 52 (.map (some gm)) (.int .i64 k) false).run Try.prog w = .ok (.agg #[.int .i64 (oPar (pget L k)), .int .i64 (oCode (pget L k)), .bool (oDead (pget L k))]) w := by
  obtain ⟨v, ps, hrun, hv⟩ := h.map.lookup keyed_int' Try.underlying52 (zero_prc w) (prd_mk 0 0 false) (keyOf_int_mk Try.underlying3 (wf_i64' hk))
  rw [dmap_at] at hv
  obtain ⟨a, c, d, rfl, he⟩ := prd_inv hv
  have hval : pval a c d = pvalO (pget L k) := by
    cases hq : pget L k with
    | none => rw [hq] at he; obtain ⟨rfl, rfl, rfl⟩ := penc_inj he; rfl
    | some r => rw [hq] at he; obtain ⟨rfl, rfl, rfl⟩ := penc_inj he; rfl
  rw [hval] at hrun; exact hrun

end Go.Proofs.Ytdgggdhligfnpaa
