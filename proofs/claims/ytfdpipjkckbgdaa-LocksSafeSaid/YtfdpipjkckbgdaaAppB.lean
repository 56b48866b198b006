/-
  APPEND in a region that draws its order, mine: onto a slice of the call's own whose room is not known; what stays as it was.
-/
import Derived.Test.YtfdpipjkckbgdaaApp
import Derived.Test.YtfdpipjkckbgdaaDep
namespace Go.Proofs.Ytfdpipjkckbgdaa
open Go.RowKit

section
variable {P : Program} {ops : Array Oper} {S : World → World → Prop} {C : World → Prop} {Q : Kn → Act → Prop} {o : Oper} {rest : List Oper} {F : Kn} {s : Act}
def twoB (ops : Array Oper) (o : Oper) (t u : Tmp) (ks : List Tmp) : Bool := (match o.op with | .select .. => false | _ => true) && (o.looksAt ops).contains t && (o.looksAt ops).contains u && (t != u) && (o.looksAt ops).all fun x => x == t || x == u || !ks.contains x
theorem twoB_spec {t u : Tmp} {ks : List Tmp} (h : twoB ops o t u ks = true) : (∀ cs b, o.op ≠ .select cs b) ∧ t ∈ o.looksAt ops ∧ u ∈ o.looksAt ops ∧ t ≠ u ∧ ∀ x ∈ o.looksAt ops, x ≠ t → x ≠ u → x ∉ ks := by
  simp only [twoB, Bool.and_eq_true, List.all_eq_true] at h
  refine ⟨fun cs b e => by simp [e] at h, by simpa using h.1.1.1.2, by simpa using h.1.1.2, by simpa using h.1.2, fun x hx hne hne' => ?_⟩
  have := h.2 x hx
  simpa [hne, hne'] using this
theorem fits_word {t : Tmp} {V : Value → World → Prop} {a : Act} {w : World} (hV : ∀ V', (t, V') ∈ F → V' = V) (hm : (t, V) ∈ F) (hf : fits F s a w t) : ∃ v, a.tmps[t]? = some v ∧ V v w := by
  rcases hf with ⟨V', v, hm', hv, hVv⟩ | ⟨hno, _⟩
  · have := hV V' hm'
    subst this
    exact ⟨v, hv, hVv⟩
  · exact absurd hm (hno V)
/-- An operation that looks at two slots that are known in words, and leaves something of which V holds. -/
theorem dep_var2 (t u : Tmp) (U1 U2 : Value → World → Prop) (V : Value → World → Prop) (d : Tmp) (hd : o.dst = some d) (hk : twoB ops o t u (F.map (·.1)) = true) (hU1 : ∀ V', (t, V') ∈ F → V' = U1) (hm1 : (t, U1) ∈ F)
    (hU2 : ∀ V', (u, V') ∈ F → V' = U2) (hm2 : (u, U2) ∈ F) (ht : t < s.tmps.size) (hu : u < s.tmps.size)
    (hst : ∀ v w w', S w w' → V v w → V v w')
    (hv : ∀ w v1 v2, C w → U1 v1 w → U2 v2 w → Region.wanted o (yielded ops ((s.put (some t) v1).put (some u) v2).tmps) = true ∧ depUpon P S C (.var V) w ((execOp ((s.put (some t) v1).put (some u) v2).eval o).run P w))
    (h : depWalk P ops S C Q rest ((d, V) :: F) (s.put (some d) undef)) : depWalk P ops S C Q (o :: rest) F s := by
  obtain ⟨h1, hl1, hl2, hne, h2⟩ := twoB_spec hk
  refine ⟨.var V, fun v w w' hS hV => hst v w w' hS hV, fun a w hC hf => ?_, by rw [hd]; exact h⟩
  obtain ⟨v1, g1, k1⟩ := fits_word hU1 hm1 (hf t hl1)
  obtain ⟨v2, g2, k2⟩ := fits_word hU2 hm2 (hf u hl2)
  have hag : ∀ x ∈ o.looksAt ops, a.tmps[x]? = ((s.put (some t) v1).put (some u) v2).tmps[x]? := by
    intro x hx
    by_cases hxu : x = u
    · subst hxu; rw [put_same _ _ _ (by rw [put_size]; exact hu)]; exact g2
    · rw [put_other _ _ _ _ (fun e => hxu (by injection e with e; exact e.symm))]
      by_cases hxt : x = t
      · subst hxt; rw [put_same _ _ _ ht]; exact g1
      · rw [put_other _ _ _ _ (fun e => hxt (by injection e with e; exact e.symm))]
        rcases hf x hx with ⟨V', v', hm', _⟩ | ⟨_, h1⟩
        · exact absurd (List.mem_map.2 ⟨(x, V'), hm', rfl⟩) (h2 x hx hxt hxu)
        · exact h1
  obtain ⟨e1, e2⟩ := eval_agree h1 hag
  obtain ⟨q1, q2⟩ := hv w v1 v2 hC k1 k2
  rw [e1, e2, if_pos q1]
  exact q2
end

section
variable {P : Program} (w : World)
theorem append_row (t ty e : TypeId) (i : TypeInfo) (z : Value) (size bytes : Nat) (h1 : P.underlying t = some (.slice e)) (h2 : P.info? e = some i) (h3 : i.zero = some z)
    (h4 : i.size = size) (h5 : i.bytes = bytes) (h6 : z.cells.size = size) (hpos : 0 < size)
    (base : Nat) (A : Option Addr) (n c : Nat) (xs : List Value) (hown : Row w base e size A n c xs)
    (B : Option Addr) (m d : Nat) (news : List Value) (hn : news.length = m * size) (hm : 0 < m) (hr : Rd w B news) (h1c : ∀ u ∈ news, u.oneCell' = true)
    (b1 : (n + m) * bytes ≤ 140737488355328) (b2 : n + m ≤ 140737488355328) (hbase : base ≤ w.heap.size) :
    ∃ A' c' w', (Builtin.append_ #[t, t] ty #[.slice A n c, .slice B m d]).run P w = .ok (.slice A' (n + m) c') w' ∧ Row w' base e size A' (n + m) c' (xs ++ news) ∧ Below base w w' ∧
      (∀ g t' ys, (A = none ∨ ys.length ≤ n * size) → Own w g t' ys → Own w' g t' ys) ∧
      (∀ A2 c2, Row w base e size A2 n c2 xs → Row w' base e size A2 n c2 xs) ∧
      (∀ A2 c2, Row w base e size A2 (n + m) c2 (xs ++ news) → Row w' base e size A2 (n + m) c2 (xs ++ news)) := by
  have hpos' : 0 < news.length := by rw [hn]; exact Nat.mul_pos hm hpos
  obtain ⟨b, off, rfl, _⟩ := hr 0 news[0] (List.getElem?_eq_getElem hpos')
  have hcells : ∀ j u, news[j]? = some u → w.cell? ((⟨b, off, none⟩ : Addr).add j) = some u := by
    intro j u hu
    obtain ⟨b', off', e', hc⟩ := hr j u hu
    injection e' with e'; injection e' with e1 e2
    subst e1; subst e2
    have : (⟨b, off, none⟩ : Addr).add j = ⟨b, off + j, none⟩ := by unfold Addr.add; split <;> simp_all
    rw [this]; exact hc
  rcases hown.2 with ⟨hv, hn0⟩ | ⟨g, cap, cur, hv, hbg, hcur, hncap, hmax, hsz, htake⟩
  · injection hv with e1 e2 e3
    subst e1
    obtain ⟨A', c', w', hrun, r1, r2, r3⟩ := run_append (P := P) w t ty e i z size bytes h1 h2 h3 h4 h5 h6 hpos base none n c xs hown (some ⟨b, off, none⟩) m d news hn hr h1c b1 b2 hbase
    have hb : Below w.heap.size w w' := (Below.refl _ _).grown r2 (Nat.le_refl _) (fun k hk => by cases hk)
    exact ⟨A', c', w', hrun, r1, hb.mono hbase, fun g t' ys _ h => h.keep hb, fun _ _ h => h.keep hb, fun _ _ h => h.keep hb⟩
  · injection hv with e1 e2 e3
    subst e1; subst e3
    by_cases hroom : n + m ≤ c
    · subst h4
      have hlen : n * i.size + news.length ≤ cur.size := by
        rw [hsz, hn, ← Nat.add_mul]; exact Nat.mul_le_mul_right _ hroom
      have hrun := run_append_room (P := P) w t ty e i h1 h2 g n c cur hcur ⟨b, off, none⟩ m d news hn hcells h1c hroom hlen
      have hxl : xs.length = n * i.size := hown.1
      have hln : (n + m) * i.size = xs.length + news.length := by rw [hxl, hn, Nat.add_mul]
      rw [htake] at hrun
      generalize hcn : (xs ++ news ++ cur.toList.drop (n * i.size + news.length)).toArray = cur' at hrun
      have k1 : cur'.size = cur.size := by rw [← hcn]; simp; omega
      have k2 : cur'.toList.take (n * i.size) = xs := by rw [← hcn, ← hxl]; simp
      have k3 : cur'.toList.take ((n + m) * i.size) = xs ++ news := by rw [← hcn, hln, ← List.length_append]; exact List.take_left
      have hset := setRow_heap w g cur cur' e (0, 0) hcur
      have hfar : ∀ j, j ≠ g → (w.setRow g cur').heap[j]? = w.heap[j]? := fun j hj => setRow_other w g j _ hj
      have hgrow : w.grownBy (w.setRow g cur') (some g) := ⟨rfl, rfl, rfl, by simp [World.setRow], fun j _ hj => hfar j (fun q => hj (by rw [q]))⟩
      have big : n * i.size < cur.size := by have : 0 < news.length := hpos'; omega
      have keep : ∀ (k : Nat) (ys : List Value), cur'.toList.take (k * i.size) = ys → ∀ A2 c2, Row w base e i.size A2 k c2 ys → Row (w.setRow g cur') base e i.size A2 k c2 ys := by
        intro k ys hys A2 c2 hrow
        by_cases hb2 : blk A2 = some g
        · rcases hrow.2 with hnil | ⟨g2, cap2, cur2, hv2, hb3, hc3, hk3, hm3, hs3, ht3⟩
          · exact ⟨hrow.1, .inl hnil⟩
          · injection hv2 with q1 q2 q3
            subst q1; subst q3
            have : g2 = g := by simpa [blk] using hb2
            subst this
            have hcc : cur2 = cur := by
              have := hc3.symm.trans hcur
              injection this with this; injection this
            subst hcc
            exact ⟨hrow.1, .inr ⟨g2, c2, cur', rfl, hb3, hset, hk3, hm3, by rw [k1]; exact hs3, hys⟩⟩
        · exact Row.grown hrow hgrow (.inr hb2)
      refine ⟨some ⟨g, 0, none⟩, c, _, hrun, ?_, ?_, ?_, keep n xs k2, keep (n + m) (xs ++ news) k3⟩
      · exact ⟨by rw [List.length_append, hln], .inr ⟨g, c, cur', rfl, hbg, hset, hroom, hmax, by rw [k1]; exact hsz, k3⟩⟩
      · exact (Below.refl _ _).grown hgrow hbase (fun k hk => by injection hk with hk; omega)
      · intro g2 t' ys hs hO
        by_cases hg2 : g2 = g
        · subst hg2
          rcases hs with hs | hs
          · cases hs
          · exfalso
            have := (show w.heap[g2]? = some (.cells ys.toArray t' (0, 0)) from hO).symm.trans hcur
            injection this with this; injection this with e1 _
            have : ys.length = cur.size := by rw [← e1]; simp
            omega
        · exact (hfar g2 hg2).trans hO
    · have hxr : Rd w (some ⟨g, 0, none⟩) xs := hown.rd
      have hxc : ∀ j u, xs[j]? = some u → w.cell? ((⟨g, 0, none⟩ : Addr).add j) = some u := by
        intro j u hu
        obtain ⟨b', off', e', hc⟩ := hxr j u hu
        injection e' with e'; injection e' with e1 e2
        subst e1; subst e2
        have : (⟨g, 0, none⟩ : Addr).add j = ⟨g, 0 + j, none⟩ := by unfold Addr.add; split <;> simp_all
        rw [this]; exact hc
      obtain ⟨v', w', hrun, hown', hg⟩ := run_append_arg_grows (P := P) w t ty e i z size bytes h1 h2 h3 h4 h5 h6 hpos ⟨g, 0, none⟩ n c xs hown.1 hxc ⟨b, off, none⟩ m d news hn hcells (by omega) (by unfold maxLen; omega) b1
      have hform : ∃ A' c', v' = .slice A' (n + m) c' := by
        rcases hown'.2 with ⟨rfl, h0⟩ | ⟨g, cap, cur, rfl, _⟩
        · omega
        · exact ⟨_, _, rfl⟩
      obtain ⟨A', c', rfl⟩ := hform
      have hb : Below w.heap.size w w' := (Below.refl _ _).grown hg (Nat.le_refl _) (fun k hk => by cases hk)
      exact ⟨A', c', w', hrun, Row.mono hown' hbase, hb.mono hbase, fun g t' ys _ h => h.keep hb, fun _ _ h => h.keep hb, fun _ _ h => h.keep hb⟩
end

end Go.Proofs.Ytfdpipjkckbgdaa
