/-
  A MAP OF INTEGERS TO WHATEVER VALUES, AS A LIST BY RISING KEYS (mine): its words; look-up, store, delete; 'for k, v := range m'.
-/
import Derived.Test.YtfdpipjkckbgdaaKeys
import Derived.Test.YtfdpipjkckbgdaaOver
import Derived.Test.YtfdpipjkckbgdaaArr
import Derived.Test.YtfdpipjkckbgdaaAppB
import Derived.Maps.OwnSet
import Derived.Maps.RangeWalk
namespace Go.Proofs.Ytfdpipjkckbgdaa
open Go.RowKit Go.Maps

abbrev KV := List (Int × Value)
/-- What a value reads as: itself. -/
def vrd (v : Value) : Option (DataW Value × List MemPlace) := some (.held v, [])
theorem vrd_inv {v : Value} {y : DataW Value × List MemPlace} (h : vrd v = some y) : y = (.held v, []) := by unfold vrd at h; injection h with h; exact h.symm
def vent (r : Int × Value) : Lit × DataW Value := (.int .i64 r.1, .held r.2)
def vmap (L : KV) : DataW Value := .map (L.map vent)
def KS (L : KV) : Prop := L.Pairwise fun x y => x.1 < y.1
def vdel (L : KV) (k : Int) : KV := L.filter fun r => !decide (r.1 = k)
def vins (x : Int × Value) : KV → KV
  | [] => [x]
  | y :: r => if x.1 < y.1 then x :: y :: r else y :: vins x r
def vput (L : KV) (k : Int) (v : Value) : KV := vins (k, v) (vdel L k)
def vget (L : KV) (k : Int) : Option Value := (L.find? fun r => decide (r.1 = k)).map Prod.snd
theorem same_key (r : Int × Value) (k : Int) : (vent r).1.sameKey (.int .i64 k) = decide (r.1 = k) := by simp [vent, Lit.sameKey]
theorem filter_key (L : KV) (k : Int) : (L.map vent).filter (fun p => !p.1.sameKey (.int .i64 k)) = (vdel L k).map vent := by
  unfold vdel
  rw [List.filter_map]
  congr 1
  refine List.filter_congr fun r _ => ?_
  simp only [Function.comp, same_key]
theorem insert_key (x : Int × Value) : ∀ L : KV, DataW.insert (vent x) (L.map vent) = (vins x L).map vent
  | [] => rfl
  | y :: r => by
    rw [List.map_cons]
    unfold DataW.insert vins
    have e : (vent x).1.before (vent y).1 = decide (x.1 < y.1) := rfl
    by_cases h : x.1 < y.1
    · rw [if_pos (by rw [e]; simpa using h), if_pos h]; rfl
    · rw [if_neg (by rw [e]; simpa using h), if_neg h, insert_key x r]; rfl
theorem vmap_put (L : KV) (k : Int) (v : Value) : (vmap L).put (.int .i64 k) (.held v) = vmap (vput L k v) := by
  show DataW.map (DataW.insert (vent (k, v)) ((L.map vent).filter fun p => !p.1.sameKey (.int .i64 k))) = _
  rw [filter_key, insert_key]; rfl
theorem vmap_del (L : KV) (k : Int) : (vmap L).del (.int .i64 k) = vmap (vdel L k) := by
  show DataW.map ((L.map vent).filter fun p => !p.1.sameKey (.int .i64 k)) = _
  rw [filter_key]; rfl
theorem vmap_at (L : KV) (k : Int) (z : Value) : (vmap L).atKey (.int .i64 k) (.held z) = .held ((vget L k).getD z) := by
  simp only [DataW.atKey, vmap]
  rw [List.find?_map]
  have e : ((fun p : Lit × DataW Value => p.1.sameKey (.int .i64 k)) ∘ vent) = fun r => decide (r.1 = k) := by funext r; exact same_key r k
  rw [e]
  unfold vget
  cases L.find? (fun r => decide (r.1 = k)) <;> rfl
theorem vmap_has (L : KV) (k : Int) : has (vmap L) (.int .i64 k) = (vget L k).isSome := by
  show (L.map vent).any (fun p => p.1.sameKey (.int .i64 k)) = _
  unfold vget
  rw [List.any_map, Option.isSome_map, Bool.eq_iff_iff, List.any_eq_true, List.find?_isSome]
  constructor
  · rintro ⟨x, hx, h⟩
    exact ⟨x, hx, by rw [← same_key]; exact h⟩
  · rintro ⟨x, hx, h⟩
    exact ⟨x, hx, by rw [← same_key] at h; exact h⟩
theorem vmap_size (L : KV) : size (vmap L) = L.length := by simp [vmap, size]
theorem vmap_keys (L : KV) : intKeys (vmap L) = L.map Prod.fst := by
  show (L.map vent).map (fun p => Go.intOf p.1) = _
  rw [List.map_map]; rfl
theorem KS.del {L : KV} (h : KS L) (k : Int) : KS (vdel L k) := List.Pairwise.filter _ h
theorem vins_mem {x z : Int × Value} : ∀ {L : KV}, z ∈ vins x L ↔ z = x ∨ z ∈ L
  | [] => by simp [vins]
  | y :: r => by
    unfold vins
    split
    · simp
    · simp only [List.mem_cons, vins_mem (L := r)]
      constructor
      · rintro (h | h | h)
        · exact .inr (.inl h)
        · exact .inl h
        · exact .inr (.inr h)
      · rintro (h | h | h)
        · exact .inr (.inl h)
        · exact .inl h
        · exact .inr (.inr h)
theorem KS.ins {x : Int × Value} : ∀ {L : KV}, KS L → (∀ r ∈ L, r.1 ≠ x.1) → KS (vins x L)
  | [], _, _ => List.pairwise_singleton _ _
  | y :: r, h, hn => by
    have h' := List.pairwise_cons.1 h
    unfold vins
    split
    · rename_i hlt
      refine List.pairwise_cons.2 ⟨fun z hz => ?_, h⟩
      rcases List.mem_cons.1 hz with rfl | hz
      · exact hlt
      · have := h'.1 z hz; omega
    · rename_i hlt
      have hne := hn y (by simp)
      refine List.pairwise_cons.2 ⟨fun z hz => ?_, KS.ins h'.2 fun q hq => hn q (by simp [hq])⟩
      rcases vins_mem.1 hz with rfl | hz
      · omega
      · exact h'.1 z hz
theorem vdel_mem {L : KV} {k : Int} {z : Int × Value} : z ∈ vdel L k ↔ z ∈ L ∧ z.1 ≠ k := by simp [vdel, List.mem_filter]
theorem vput_mem {L : KV} {k : Int} {v : Value} {z : Int × Value} : z ∈ vput L k v ↔ z = (k, v) ∨ (z ∈ L ∧ z.1 ≠ k) := by unfold vput; rw [vins_mem, vdel_mem]
theorem KS.put {L : KV} (h : KS L) (k : Int) (v : Value) : KS (vput L k v) := (h.del k).ins fun _ hr => (vdel_mem.1 hr).2
theorem KS.inj {L : KV} (h : KS L) {x y : Int × Value} (hx : x ∈ L) (hy : y ∈ L) (e : x.1 = y.1) : x = y := by
  induction L with
  | nil => cases hx
  | cons z r ih =>
    obtain ⟨h1, h2⟩ := List.pairwise_cons.1 h
    rcases List.mem_cons.1 hx with rfl | hx'
    · rcases List.mem_cons.1 hy with rfl | hy'
      · rfl
      · have := h1 y hy'; omega
    · rcases List.mem_cons.1 hy with rfl | hy'
      · have := h1 x hx'; omega
      · exact ih h2 hx' hy'
theorem vget_some {L : KV} {k : Int} {v : Value} (h : vget L k = some v) : (k, v) ∈ L := by
  unfold vget at h
  rw [Option.map_eq_some_iff] at h
  obtain ⟨⟨a, b⟩, h1, h2⟩ := h
  have h3 := List.find?_some h1
  have h4 := List.mem_of_find?_eq_some h1
  simp only [decide_eq_true_eq] at h3
  simp only at h2
  subst h2; subst h3
  exact h4
theorem vget_of {L : KV} (h : KS L) {x : Int × Value} (hx : x ∈ L) : vget L x.1 = some x.2 := by
  unfold vget
  cases hf : L.find? (fun r => decide (r.1 = x.1)) with
  | none =>
    have := List.find?_eq_none.1 hf x hx
    simp at this
  | some y =>
    have h3 := List.find?_some hf
    have h4 := List.mem_of_find?_eq_some hf
    simp only [decide_eq_true_eq] at h3
    rw [h.inj h4 hx h3]; rfl
theorem vget_none {L : KV} {k : Int} : vget L k = none ↔ ∀ r ∈ L, r.1 ≠ k := by
  unfold vget
  rw [Option.map_eq_none_iff, List.find?_eq_none]
  constructor
  · intro h r hr e; exact h r hr (by simp [e])
  · intro h r hr e; exact h r hr (by simpa using e)
theorem sorted_keys {L : KV} (hs : KS L) {ss : List Int} (h : ss.Perm (L.map Prod.fst)) : ss.mergeSort (fun x y => decide (x ≤ y)) = L.map Prod.fst := by
  have e := mergeSort_of_perm_i h
  have hp : (L.map Prod.fst).Pairwise (fun a b => leI a b = true) := by
    refine List.pairwise_map.2 (hs.imp fun {x y} h => ?_)
    simp only [leI, decide_eq_true_eq]; omega
  have e2 := List.mergeSort_of_pairwise hp
  exact e.trans e2

/-- Block gm is the map L. -/
structure MS (w : World) (gm : Nat) (L : KV) : Prop where
  map : w.ownsMap Try.prog 3 vrd gm L.length (vmap L)
  srt : KS L
  wf : ∀ r ∈ L, I64 r.1
theorem vtight {w : World} {b n : Nat} {L : KV} (h : w.ownsMap Try.prog 3 vrd b n (vmap L)) : w.ownsMap Try.prog 3 vrd b L.length (vmap L) := by
  obtain ⟨es, clock, h1, h2, _, h4⟩ := h
  refine ⟨es, clock, h1, h2, ?_, h4⟩
  have e : size (vmap L) = es.size := by
    rw [h4]
    simp [size, length_sorted]
  rw [vmap_size] at e
  omega
theorem keyedI : Keyed Try.prog 3 := int_keyed Try.underlying3
theorem wfI {x : Int} (h : I64 x) : (Lit.int .i64 x).wf = true := by
  obtain ⟨h0, h1⟩ := h
  simp [Lit.wf, IntKind.min, IntKind.max, IntKind.signed, IntKind.bits]
  omega
section
variable {w w' : World} {gm : Nat} {L : KV}
theorem MS.lt (h : MS w gm L) : gm < w.heap.size := by
  obtain ⟨es, clock, h1, _⟩ := h.map
  exact (Array.getElem?_eq_some_iff.1 h1).1
theorem MS.grown (h : MS w gm L) {row : Option Nat} (hg : w.grownBy w' row) (hne : some gm ≠ row) : MS w' gm L := by
  obtain ⟨es, clock, h1, h2⟩ := h.map
  exact ⟨⟨es, clock, (hg.block gm (Array.getElem?_eq_some_iff.1 h1).1 hne).trans h1, h2⟩, h.srt, h.wf⟩
theorem MS.keep (h : MS w gm L) (hb : Ext w w') : MS w' gm L := h.grown (row := none) ⟨hb.os, hb.tape, hb.output, hb.size, fun i hi _ => hb.block i hi⟩ (by simp)
theorem MS.block (h : MS w gm L) (hb : w'.heap[gm]? = w.heap[gm]?) : MS w' gm L := by
  obtain ⟨es, clock, h1, h2⟩ := h.map
  exact ⟨⟨es, clock, hb.trans h1, h2⟩, h.srt, h.wf⟩
/-- A map is no row of cells. -/
theorem MS.own_ne (h : MS w gm L) {g : Nat} {t : TypeId} {xs : List Value} (ho : Own w g t xs) : gm ≠ g := by
  obtain ⟨es, clock, h1, _⟩ := h.map
  intro e
  subst e
  have := h1.symm.trans ho
  cases this
theorem MS.row_ne (h : MS w gm L) {B n c size : Nat} {e : TypeId} {A : Option Addr} {xs : List Value} (hr : Row w B e size A n c xs) : blk A ≠ some gm := by
  obtain ⟨es, clock, h1, _⟩ := h.map
  intro q
  rcases hr.2 with ⟨hv, _⟩ | ⟨g', cap, cur, hv, _, hc, _⟩
  · injection hv with e1 e2 e3
    subst e1; cases q
  · injection hv with e1 e2 e3
    subst e1
    have : g' = gm := by simpa [blk] using q
    subst this
    have := h1.symm.trans hc
    cases this
theorem MS.put {n : Nat} (h : MS w gm L) {k : Int} (hk : I64 k) (v : Value) (hm : w'.ownsMap Try.prog 3 vrd gm n ((vmap L).put (.int .i64 k) (.held v))) : MS w' gm (vput L k v) :=
  ⟨by rw [vmap_put] at hm; exact vtight hm, h.srt.put k v, fun r hr => by
    rcases vput_mem.1 hr with rfl | ⟨hr, _⟩
    · exact hk
    · exact h.wf r hr⟩
theorem MS.del {n : Nat} (h : MS w gm L) (k : Int) (hm : w'.ownsMap Try.prog 3 vrd gm n ((vmap L).del (.int .i64 k))) : MS w' gm (vdel L k) :=
  ⟨by rw [vmap_del] at hm; exact vtight hm, h.srt.del k, fun r hr => h.wf r (vdel_mem.1 hr).1⟩
theorem MS.look (h : MS w gm L) {t e : TypeId} (ht : Try.prog.underlying t = some (.map 3 e)) {z : Value} (hz : (zeroValue e).run Try.prog w = .ok z w) {k : Int} (hk : I64 k) :
    (Instr.lookup t (.map (some gm)) (.int .i64 k) false).run Try.prog w = .ok ((vget L k).getD z) w := by
  obtain ⟨v, ps, hrun, hv⟩ := h.map.lookup keyedI ht hz (zd := .held z) (zp := []) rfl (keyOf_int_mk Try.underlying3 (wfI hk))
  rw [vmap_at] at hv
  have e := DataW.held.inj (Prod.mk.inj (vrd_inv hv)).1
  rw [e]; exact hrun
theorem MS.look_ok (h : MS w gm L) {t e : TypeId} (ht : Try.prog.underlying t = some (.map 3 e)) {z : Value} (hz : (zeroValue e).run Try.prog w = .ok z w) {k : Int} (hk : I64 k) :
    (Instr.lookup t (.map (some gm)) (.int .i64 k) true).run Try.prog w = .ok (.tuple #[(vget L k).getD z, .bool (vget L k).isSome]) w := by
  obtain ⟨v, ps, hrun, hv⟩ := h.map.look_ok keyedI ht hz (zd := .held z) (zp := []) rfl (keyOf_int_mk Try.underlying3 (wfI hk))
  rw [vmap_at] at hv
  rw [vmap_has] at hrun
  have e := DataW.held.inj (Prod.mk.inj (vrd_inv hv)).1
  rw [e]; exact hrun
theorem MS.len (h : MS w gm L) {t e : TypeId} (ht : Try.prog.underlying t = some (.map 3 e)) (ty : TypeId) : (Builtin.len_ #[t] ty #[.map (some gm)]).run Try.prog w = .ok (.int .i64 (L.length : Int)) w := by
  have := h.map.len ht ty
  rwa [vmap_size] at this
end
/-- A new map. -/
theorem MS.made (w : World) : MS (w.alloc (.map #[] 0)) w.heap.size [] := ⟨World.ownsMap_made w Try.prog 3 vrd, List.Pairwise.nil, by simp⟩

/-- 'for k, v := range m' under way: T is still to come. -/
structure MR (w : World) (gm r : Nat) (L T : KV) : Prop where
  rng : ∃ cnt, w.ranges Try.prog 3 vrd gm r L.length (vmap L) (has (vmap T)) cnt
  srt : KS L
  sub : ∀ x ∈ T, x ∈ L
  nd : T.Pairwise fun x y => x.1 ≠ y.1
theorem MR.grown {w w' : World} {gm r : Nat} {L T : KV} (h : MR w gm r L T) {row : Option Nat} (hg : w.grownBy w' row) (h1 : some gm ≠ row) (h2 : some r ≠ row) : MR w' gm r L T := by
  obtain ⟨cnt, hr⟩ := h.rng
  exact ⟨⟨cnt, hr.kept hg h1 h2⟩, h.srt, h.sub, h.nd⟩
theorem MR.keep {w w' : World} {gm r : Nat} {L T : KV} (h : MR w gm r L T) (hb : Ext w w') : MR w' gm r L T := h.grown (row := none) ⟨hb.os, hb.tape, hb.output, hb.size, fun i hi _ => hb.block i hi⟩ (by simp) (by simp)
theorem MR.ms {w : World} {gm r : Nat} {L T : KV} (h : MR w gm r L T) : w.ownsMap Try.prog 3 vrd gm L.length (vmap L) := by
  obtain ⟨cnt, hr⟩ := h.rng
  exact hr.owns
theorem MR.lt {w : World} {gm r : Nat} {L T : KV} (h : MR w gm r L T) : r < w.heap.size := by
  obtain ⟨cnt, hr⟩ := h.rng
  exact hr.lt
theorem has_key {T : KV} {z : Lit} (h : has (vmap T) z = true) : ∃ x ∈ T, z = .int .i64 x.1 := by
  have h' : (T.map vent).any (fun p => p.1.sameKey z) = true := h
  rw [List.any_map, List.any_eq_true] at h'
  obtain ⟨x, hx, h2⟩ := h'
  exact ⟨x, hx, (WideAt.sameKey_eq h2).symm⟩
section
variable (w : World) {ops : Array Oper} {rest : List Oper} {o : Oper} {a : Act} {Q : Exit → Act → World → Prop}
set_option maxRecDepth 100000 in
theorem wpl_range_kv (hg : o.guard = none) (m : Operand) (t : TypeId) (hop : o.op = Op.range t m) (e : TypeId) (ht : Try.prog.underlying t = some (.map 3 e)) (gm : Nat) (L : KV) (hm : a.eval m = .map (some gm)) (h : MS w gm L)
    (hK : ∀ w', MR w' gm w.heap.size L L → Ext w w' → wpList Try.prog ops Q rest (a.put o.dst (.pointer (some ⟨w.heap.size, 0, none⟩))) w') :
    wpList Try.prog ops Q (o :: rest) a w :=
  @wpList_range_own Value Try.prog w ops rest o a Q hg m t hop 3 e keyedI ht vrd gm L.length (vmap L) hm h.map fun w' r1 r2 _ =>
    hK w' ⟨⟨_, r1⟩, h.srt, fun x hx => hx, h.srt.imp fun q => by omega⟩ ⟨r2.os, r2.tape, r2.output, r2.size, fun i hi => r2.block i hi (by simp)⟩
set_option maxRecDepth 100000 in
theorem wpl_next_kv (hg : o.guard = none) (it : Operand) (hop : o.op = Op.next it false) (gm r : Nat) (L S T : KV) (hit : a.eval it = .pointer (some ⟨r, 0, none⟩)) (h : MR w gm r L T) (hp : (S ++ T).Perm L)
    (hDone : S.Perm L → wpList Try.prog ops Q rest (a.put o.dst (.tuple #[.bool false])) w)
    (hMore : ∀ (x : Int) (v : Value) (T' : KV) (w' : World), (x, v) ∈ L → I64 x → ((S ++ [(x, v)]) ++ T').Perm L → MR w' gm r L T' → w'.rangeLeft gm r < w.rangeLeft gm r → w.grownBy w' (some r) → w'.heap.size = w.heap.size →
      (Instr.entry (.pointer (some ⟨r, 0, none⟩))).run Try.prog w' = .ok (.tuple #[.int .i64 x, v]) w' → wpList Try.prog ops Q rest (a.put o.dst (.tuple #[.bool true, .int .i64 x, v])) w') :
    wpList Try.prog ops Q (o :: rest) a w := by
  obtain ⟨cnt, hrg0⟩ := h.rng
  refine wpList_next_ranges w hg it hop 3 keyedI vrd (fun x : Int => Value.int .i64 x) (fun v : Value => v) (fun key kl hkey => by obtain ⟨x, rfl, _⟩ := Maps.keyOf_int_inv Try.underlying3 hkey; exact ⟨x, rfl⟩) (fun v y _ => ⟨v, rfl⟩)
    gm r L.length (vmap L) _ _ hit hrg0 (fun _ h0 => ?_) (fun x v kl y w' cnt' hkey hlk hv hat hrg hlt hgr hsz hen => ?_)
  · have : T = [] := List.eq_nil_iff_forall_not_mem.2 fun p hp' => by
      have h1 := h0 (.int .i64 p.1)
      have h2 : has (vmap T) (.int .i64 p.1) = true := by
        show (T.map vent).any (fun q => q.1.sameKey (.int .i64 p.1)) = true
        rw [List.any_map, List.any_eq_true]
        exact ⟨p, hp', by simp [same_key]⟩
      rw [h2] at h1
      cases h1
    subst this
    rw [List.append_nil] at hp
    exact hDone hp
  · obtain ⟨x', ex, rfl, hwx⟩ := Maps.keyOf_int_inv Try.underlying3 hkey
    injection ex with _ ex
    subst ex
    obtain ⟨p, hpT, hpe⟩ := has_key hlk
    injection hpe with _ hpe
    have hy := vrd_inv hv
    have hval := hat (.held v)
    rw [vmap_at, hy] at hval
    have hgp := vget_of h.srt (h.sub p hpT)
    rw [← hpe] at hgp
    rw [hgp] at hval
    simp only [Option.getD_some] at hval
    have hval := DataW.held.inj hval
    have hpx : p = (x, v) := by rw [← hval, hpe]
    subst hpx
    have hfilt : ((x, v) :: T.filter fun q => !decide (q.1 = x)).Perm T := by
      have key : ∀ T : KV, (T.Pairwise fun a b => a.1 ≠ b.1) → (x, v) ∈ T → ((x, v) :: T.filter fun q => !decide (q.1 = x)).Perm T := by
        intro T
        induction T with
        | nil => intro _ hm; cases hm
        | cons q T ih =>
          intro hnd hm
          obtain ⟨n1, n2⟩ := List.pairwise_cons.1 hnd
          rcases List.mem_cons.1 hm with rfl | hm'
          · rw [List.filter_cons_of_neg (by simp), List.filter_eq_self.2 fun z hz => by have := n1 z hz; simp only at this; simp; exact fun e => this e.symm]
          · have hqx : q.1 ≠ x := n1 (x, v) hm'
            rw [List.filter_cons_of_pos (by simp [hqx])]
            exact (List.Perm.swap _ _ _).trans ((ih n2 hm').cons q)
      exact key T h.nd hpT
    have hI : I64 x := by
      simp [Lit.wf, IntKind.min, IntKind.max, IntKind.signed, IntKind.bits] at hwx
      unfold I64; omega
    have hleft : (fun z : Lit => has (vmap T) z && !z.sameKey (.int .i64 x)) = has (vmap (T.filter fun q => !decide (q.1 = x))) := by
      funext z
      show ((T.map vent).any (fun p => p.1.sameKey z) && !z.sameKey (.int .i64 x)) = ((T.filter fun q => !decide (q.1 = x)).map vent).any (fun p => p.1.sameKey z)
      rw [List.any_map, List.any_map, Bool.eq_iff_iff, Bool.and_eq_true, List.any_eq_true, List.any_eq_true]
      constructor
      · rintro ⟨⟨q, hq, h2⟩, h3⟩
        refine ⟨q, List.mem_filter.2 ⟨hq, ?_⟩, h2⟩
        have e := WideAt.sameKey_eq h2
        rw [← e] at h3
        have e2 : (vent q).1.sameKey (.int .i64 x) = decide (q.1 = x) := same_key q x
        rw [e2] at h3
        exact h3
      · rintro ⟨q, hq, h2⟩
        obtain ⟨hq1, hq2⟩ := List.mem_filter.1 hq
        have e := WideAt.sameKey_eq h2
        have e2 : (vent q).1.sameKey (.int .i64 x) = decide (q.1 = x) := same_key q x
        exact ⟨⟨q, hq1, h2⟩, by rw [← e, e2]; exact hq2⟩
    rw [hleft] at hrg
    refine hMore x v (T.filter fun q => !decide (q.1 = x)) w' (h.sub _ hpT) hI ?_ ⟨⟨cnt', hrg⟩, h.srt, fun z hz => h.sub z (List.mem_filter.1 hz).1, h.nd.filter _⟩ (by rw [hrg.left_eq, hrg0.left_eq]; exact hlt) hgr hsz hen
    refine List.Perm.trans ?_ hp
    rw [List.append_assoc]
    exact (hfilt.append_left S)
end

end Go.Proofs.Ytfdpipjkckbgdaa
