/-
  WALKS of chapter 5's reference: Class, at, Has, Len.
-/
import Derived.Test.YtebkknkgkjblnaaSlbL
namespace Go.Proofs.Ytebkknkgkjblnaa
open Go.RowKit
attribute [local go_sem] depUpon Sp.ok

/-- A frame that is cut, as the reference holds it. -/
def cutV (a : Pc) : List Value := [.int .i64 (a.f : Int), .int .i64 a.sz, .bool (decide ((0 : Int) ∈ a.sl)), .bool (decide ((1 : Int) ∈ a.sl)), .bool (decide ((2 : Int) ∈ a.sl)), .bool (decide ((3 : Int) ∈ a.sl))]
def cuts (L : List Pc) : List Value := L.flatMap cutV
theorem cuts_len : ∀ L : List Pc, (cuts L).length = L.length * 6
  | [] => rfl
  | a :: r => by
    have := cuts_len r
    unfold cuts at *
    rw [List.flatMap_cons, List.length_append, this, List.length_cons]
    show 6 + _ = _
    omega
theorem cuts_app (L M : List Pc) : cuts L ++ cuts M = cuts (L ++ M) := by simp [cuts]
theorem cuts_one (L : List Pc) : ∀ u ∈ cuts L, u.oneCell' = true := by
  intro u hu
  obtain ⟨a, _, h⟩ := List.mem_flatMap.1 hu
  unfold cutV at h
  simp only [List.mem_cons, List.not_mem_nil, or_false] at h
  rcases h with rfl | rfl | rfl | rfl | rfl | rfl <;> rfl
theorem cuts_take (L : List Pc) (m : Nat) : cuts (L.take m) = (cuts L).take (m * 6) := by
  have e : cuts L = cuts (L.take m) ++ cuts (L.drop m) := by rw [cuts_app, List.take_append_drop]
  rcases Nat.le_total m L.length with h | h
  · have hl : (cuts (L.take m)).length = m * 6 := by rw [cuts_len, List.length_take]; omega
    rw [e, ← hl, List.take_left]
  · rw [List.take_of_length_le h, List.take_of_length_le (by rw [cuts_len]; omega)]
theorem cuts_drop (L : List Pc) (m : Nat) : cuts (L.drop m) = (cuts L).drop (m * 6) := by
  have e : cuts L = cuts (L.take m) ++ cuts (L.drop m) := by rw [cuts_app, List.take_append_drop]
  rcases Nat.le_total m L.length with h | h
  · have hl : (cuts (L.take m)).length = m * 6 := by rw [cuts_len, List.length_take]; omega
    rw [e, ← hl, List.drop_left]
  · rw [List.drop_eq_nil_of_le h, List.drop_eq_nil_of_le (by rw [cuts_len]; omega)]; rfl
theorem cuts_get {L : List Pc} {i : Nat} (hi : i < L.length) {j : Nat} (hj : j < 6) : (cuts L)[i * 6 + j]? = (cutV L[i])[j]? := by
  have h1 : ((cuts L).drop (i * 6))[j]? = (cutV L[i])[j]? := by
    rw [← cuts_drop, List.drop_eq_getElem_cons hi]
    unfold cuts
    rw [List.flatMap_cons, List.getElem?_append_left (show j < (cutV L[i]).length from hj)]
  rwa [List.getElem?_drop] at h1
theorem cutV_slot (a : Pc) {k : Nat} (hk : k < 4) : (cutV a)[2 + k]? = some (.bool (decide ((k : Int) ∈ a.sl))) := by
  match k, hk with
  | 0, _ => rfl
  | 1, _ => rfl
  | 2, _ => rfl
  | 3, _ => rfl

/-- Memory that bears the reference's slab (its frames apart). -/
structure RS (w : World) (B gs gr : Nat) (S : Option Addr) (c : Nat) (L : List Pc) : Prop where
  own : Own w gs 56 [.pointer (some ⟨gr, 0, none⟩), .slice S L.length c]
  row : Row w B 124 6 S L.length c (cuts L)
  lo : B ≤ gs
def RSB (gs : Nat) (S : Option Addr) (i : Nat) : Prop := i = gs ∨ blk S = some i
section
variable {w w' : World} {B gs gr c : Nat} {S : Option Addr} {L : List Pc}
theorem RS.keep (h : RS w B gs gr S c L) (hb : Ext w w') : RS w' B gs gr S c L := ⟨h.own.keep hb, h.row.keep hb, h.lo⟩
theorem RS.other (h : RS w B gs gr S c L) {P P' : Nat → Prop} (a : Tr w w' P P') (hP : ∀ i, RSB gs S i → ¬ P i) : RS w' B gs gr S c L := ⟨a.own h.own (hP _ (.inl rfl)), a.row h.row (fun i hi => hP i (.inr hi)), h.lo⟩
theorem RS.lt (h : RS w B gs gr S c L) : ∀ i, RSB gs S i → i < w.heap.size := fun i hi => by
  rcases hi with rfl | hi
  · exact h.own.lt
  · exact (h.row.at_ i hi).2
theorem RS.ge (h : RS w B gs gr S c L) : ∀ i, RSB gs S i → B ≤ i := fun i hi => by
  rcases hi with rfl | hi
  · exact h.lo
  · exact (h.row.at_ i hi).1
theorem RS.l_ (h : RS w B gs gr S c L) : w.cell? ⟨gs, 1, none⟩ = some (.slice S L.length c) := h.own.cell 1
theorem RS.f_ (h : RS w B gs gr S c L) : w.cell? ⟨gs, 0, none⟩ = some (.pointer (some ⟨gr, 0, none⟩)) := h.own.cell 0
/-- A cut's cells. -/
theorem RS.cut (h : RS w B gs gr S c L) {i : Nat} (hi : i < L.length) : ∃ g, S = some ⟨g, 0, none⟩ ∧ w.cell? ⟨g, i * 6, none⟩ = some (.int .i64 (L[i].f : Int)) ∧ w.cell? ⟨g, i * 6 + 1, none⟩ = some (.int .i64 L[i].sz) ∧
    ∀ k, k < 4 → w.cell? ⟨g, i * 6 + 2 + k, none⟩ = some (.bool (decide ((k : Int) ∈ L[i].sl))) := by
  obtain ⟨g, rfl⟩ := h.row.addr (by omega)
  have hg : ∀ j v, j < 6 → (cutV L[i])[j]? = some v → w.cell? ⟨g, i * 6 + j, none⟩ = some v := fun j v hj hv => by
    obtain ⟨b', o', e, hc⟩ := h.row.rd (i * 6 + j) v (by rw [cuts_get hi hj]; exact hv)
    injection e with e; injection e with e1 e2
    subst e1; subst e2
    rwa [Nat.zero_add] at hc
  refine ⟨g, rfl, hg 0 _ (by omega) rfl, hg 1 _ (by omega) rfl, fun k hk => ?_⟩
  have := hg (2 + k) _ (by omega) (cutV_slot L[i] hk)
  rwa [← Nat.add_assoc] at this
end

theorem r5_class (s : Int) (w : World) : Calls Try.prog 55 #[.int .i64 s] w fun e w' => e = .returned (.int .i64 (cls s)) ∧ w = w' := by
  have HC := Lib.hid (show cls s = if s < 1 then 0 else if s ≤ 16 then 16 else if s ≤ 32 then 32 else if s ≤ 64 then 64 else 0 from rfl)
  by_cases h1 : s < 1
  · have HE := Lib.hid (show cls s = 0 by rw [HC.out, if_pos h1])
    have t1 : decide (s < 1) = true := by simp [h1]
    clear h1
    go_enter Try.func55, Try.ntmps55
    go_wp2
    go_ret
    exact ⟨by rw [HE.out]; rfl, rfl⟩
  have t1 : decide (s < 1) = false := by simp [h1]
  have t1' : 1 ≤ s := by omega
  by_cases h2 : 64 < s
  · have HE := Lib.hid (show cls s = 0 by rw [HC.out, if_neg h1, if_neg (by omega), if_neg (by omega), if_neg (by omega)])
    have t2 : decide (64 < s) = true := by simp [h2]
    clear h1
    go_enter Try.func55, Try.ntmps55
    go_wp2
    go_ret
    exact ⟨by rw [HE.out]; rfl, rfl⟩
  have t2 : decide (64 < s) = false := by simp [h2]
  have t2' : s ≤ 64 := by omega
  by_cases h3 : s ≤ 16
  · have HE := Lib.hid (show cls s = 16 by rw [HC.out, if_neg h1, if_pos h3])
    clear h1 h2
    go_enter Try.func55, Try.ntmps55
    go_wp2
    go_ret
    exact ⟨by rw [HE.out]; rfl, rfl⟩
  have t3 : decide (s ≤ 16) = false := by simp [h3]
  have t3' : 16 < s := by omega
  by_cases h4 : s ≤ 32
  · have HE := Lib.hid (show cls s = 32 by rw [HC.out, if_neg h1, if_neg h3, if_pos h4])
    clear h1 h2 h3
    go_enter Try.func55, Try.ntmps55
    go_wp2
    go_ret
    exact ⟨by rw [HE.out]; rfl, rfl⟩
  have t4 : decide (s ≤ 32) = false := by simp [h4]
  have t4' : 32 < s := by omega
  have HE := Lib.hid (show cls s = 64 by rw [HC.out, if_neg h1, if_neg h3, if_neg h4, if_pos t2'])
  clear h1 h2 h3 h4
  go_enter Try.func55, Try.ntmps55
  go_wp2
  go_ret
  exact ⟨by rw [HE.out]; rfl, rfl⟩

def mtB (f i s : Int) (a : Pc) : Bool := decide ((a.f : Int) = f ∧ a.sz = s ∧ i ∈ a.sl)
/-- Where a piece's frame stands in the list; -1. -/
def atR (L : List Pc) (f i s : Int) : Int := if L.findIdx (mtB f i s) < L.length then (L.findIdx (mtB f i s) : Nat) else -1
theorem atR_none {L : List Pc} {f i s : Int} (h : ∀ a ∈ L, mtB f i s a = false) : atR L f i s = -1 := by
  unfold atR
  rw [if_neg]
  intro hl
  have := List.findIdx_getElem (w := hl)
  rw [h _ (List.getElem_mem _)] at this
  cases this
theorem atR_some {L : List Pc} {f i s : Int} {j : Nat} (hj : j < L.length) (h : ∀ a ∈ L.take j, mtB f i s a = false) (hk : mtB f i s L[j] = true) : atR L f i s = (j : Int) := by
  have e : L.findIdx (mtB f i s) = j := by
    refine (List.findIdx_eq hj).2 ⟨hk, fun k hk => ?_⟩
    exact h L[k] (List.mem_take_iff_getElem.2 ⟨k, by omega, rfl⟩)
  unfold atR
  rw [e, if_pos hj]
theorem atR_get {L : List Pc} {f i s : Int} : (hasB L f i s = false ∧ atR L f i s = -1) ∨ ∃ (j : Nat) (hj : j < L.length), hasB L f i s = true ∧ atR L f i s = (j : Int) ∧ (L[j].f : Int) = f ∧ L[j].sz = s ∧ i ∈ L[j].sl := by
  cases hb : hasB L f i s with
  | false =>
    left
    refine ⟨rfl, atR_none fun a ha => ?_⟩
    have := List.any_eq_false.1 hb a ha
    simpa [mtB] using this
  | true =>
    right
    have hf : L.findIdx (mtB f i s) < L.length := by
      rw [List.findIdx_lt_length]
      obtain ⟨a, ha, h⟩ := List.any_eq_true.1 hb
      exact ⟨a, ha, h⟩
    have hk := List.findIdx_getElem (w := hf)
    refine ⟨_, hf, rfl, by unfold atR; rw [if_pos hf], ?_⟩
    simpa [mtB] using hk

set_option maxRecDepth 100000 in
set_option maxHeartbeats 4000000 in
theorem r5_at (B gs gr c : Nat) (S : Option Addr) (p : FP) (L : List Pc) (f i s : Int) (w : World) (h : RS w B gs gr S c L) (hp : SP p L) (hn : p.n ≤ 64) :
    Calls Try.prog 57 #[.pointer (some ⟨gs, 0, none⟩), .agg #[.int .i64 f, .int .i64 i, .int .i64 s]] w fun e w' => e = .returned (.int .i64 (atR L f i s)) ∧ Ext w w' := by
  have bX := Ext.alloc w (.cells #[.int .i64 f, .int .i64 i, .int .i64 s] 58)
  have oX := Own.new w 58 [.int .i64 f, .int .i64 i, .int .i64 s]
  have HS := Lib.hid (h.keep bX)
  have v1 := HS.out.l_
  have HY := Lib.hid (fun j hj => @atR_some L f i s j hj)
  have HZ := Lib.hid (@atR_none L f i s)
  have hll := hp.len
  have HP := Lib.hid hp
  generalize atR L f i s = z at *
  clear h hp
  go_enter Try.func57, Try.ntmps57
  go_upto_region 1 with fail
  generalize w.alloc (.cells #[.int .i64 f, .int .i64 i, .int .i64 s] 58) = w1 at *
  have x0 := oX.cell 0
  have x1 := oX.cell 1
  have x2 := oX.cell 2
  simp only [List.getElem?_cons_zero, List.getElem?_cons_succ] at x0 x1 x2
  clear oX
  generalize w.heap.size = gx at *
  go_wp2
  go_loopw [5] (fun q wr => ∃ j : Nat, q = .int .i64 (j : Int) ∧ j ≤ L.length ∧ (∀ r ∈ L.take j, mtB f i s r = false) ∧ Ext w1 wr) (fun q _ => L.length - (intOf q).toNat)
  case atStart => exact ⟨0, rfl, by omega, by simp, Ext.refl _⟩
  case round =>
    obtain ⟨j, rfl, hj, hno, qr⟩ := hrel
    have HSR := Lib.hid (HS.out.keep qr)
    replace v1 := HSR.out.l_
    replace x0 := cell_keep qr x0
    replace x1 := cell_keep qr x1
    replace x2 := cell_keep qr x2
    by_cases hlt : j < L.length
    · obtain ⟨g, hS, d0, d1, d2⟩ := HSR.out.cut hlt
      rw [hS] at v1
      have hle := Row.le' HS.out.row
      have j0' : (0 : Int) ≤ (j : Int) := by omega
      have j1' : (j : Int) < (L.length : Int) := by omega
      have HYY := Lib.hid (HY.out j hlt hno)
      have HNO := Lib.hid (fun (hx : mtB f i s L[j] = false) => show ∀ r ∈ L.take (j + 1), mtB f i s r = false from fun r hr => by
        rw [List.take_succ_eq_append_getElem hlt, List.mem_append, List.mem_singleton] at hr
        rcases hr with hr | rfl
        · exact hno r hr
        · exact hx)
      have HOK := Lib.hid (HP.out.ok L[j] (List.getElem_mem hlt))
      have hmt : mtB f i s L[j] = decide ((L[j].f : Int) = f ∧ L[j].sz = s ∧ i ∈ L[j].sl) := rfl
      generalize mtB f i s L[j] = mv at *
      generalize L[j] = a at *
      clear hno hS
      have hrange := HOK.out.sl i
      have hszs := HOK.out.sz
      obtain ⟨af, az, al⟩ := a
      simp only at d0 d1 d2 hmt hrange hszs
      by_cases hf : (af : Int) = f
      · subst hf
        by_cases hz : az = s
        · subst hz
          by_cases hi0 : i < 0
          · have t0 : decide (0 ≤ i) = false := decide_eq_false (by omega)
            have HM := Lib.hid (show mv = false by rw [hmt]; exact decide_eq_false fun q => by have := hrange q.2.2; omega)
            clear hmt hrange d2 hi0
            go_upto_region 4 with fail
            go_quiet (fail)
            go_wp2
            go_round
            case rel => exact ⟨j + 1, by go_num, by omega, HNO.out HM.out, Ext.trans qr (Ext.drewN _ _)⟩
            case measure => simp [intOf]; omega
          · obtain ⟨k, rfl⟩ : ∃ k : Nat, i = (k : Int) := ⟨i.toNat, by omega⟩
            have t0 : decide (0 ≤ (k : Int)) = true := decide_eq_true (by omega)
            have t00 : 0 ≤ (k : Int) := by omega
            have HHM := Lib.hid hmt
            clear hmt hi0
            rcases hszs with rfl | rfl | rfl
            · by_cases hk : k < 4
              · have k1' : (k : Int) < 4 := by omega
                have d3 := d2 k (by omega)
                have HM := Lib.hid (show mv = decide ((k : Int) ∈ al) by rw [HHM.out]; simp)
                generalize decide ((k : Int) ∈ al) = bb at *
                clear d2 hrange
                cases bb
                · go_upto_region 4 with fail
                  go_quiet (fail)
                  go_wp2
                  go_round
                  case rel => exact ⟨j + 1, by go_num, by omega, HNO.out HM.out, Ext.trans qr (Ext.drewN _ _)⟩
                  case measure => simp [intOf]; omega
                · have HE := Lib.hid (HYY.out HM.out)
                  go_upto_region 4 with fail
                  go_quiet (fail)
                  go_wp2
                  go_ret
                  exact ⟨by rw [HE.out]; rfl, Ext.trans bX (Ext.trans qr (Ext.drewN _ _))⟩
              · have t1 : decide ((k : Int) < 4) = false := decide_eq_false (by omega)
                have HM := Lib.hid (show mv = false by rw [HHM.out]; exact decide_eq_false fun q => by have h1 := (hrange q.2.2).2; rw [show (nsl 16 : Int) = 4 from rfl] at h1; omega)
                clear d2 hrange hk
                go_upto_region 4 with fail
                go_quiet (fail)
                go_wp2
                go_round
                case rel => exact ⟨j + 1, by go_num, by omega, HNO.out HM.out, Ext.trans qr (Ext.drewN _ _)⟩
                case measure => simp [intOf]; omega
            · by_cases hk : k < 2
              · have k1' : (k : Int) < 2 := by omega
                have d3 := d2 k (by omega)
                have HM := Lib.hid (show mv = decide ((k : Int) ∈ al) by rw [HHM.out]; simp)
                generalize decide ((k : Int) ∈ al) = bb at *
                clear d2 hrange
                cases bb
                · go_upto_region 4 with fail
                  go_quiet (fail)
                  go_wp2
                  go_round
                  case rel => exact ⟨j + 1, by go_num, by omega, HNO.out HM.out, Ext.trans qr (Ext.drewN _ _)⟩
                  case measure => simp [intOf]; omega
                · have HE := Lib.hid (HYY.out HM.out)
                  go_upto_region 4 with fail
                  go_quiet (fail)
                  go_wp2
                  go_ret
                  exact ⟨by rw [HE.out]; rfl, Ext.trans bX (Ext.trans qr (Ext.drewN _ _))⟩
              · have t1 : decide ((k : Int) < 2) = false := decide_eq_false (by omega)
                have HM := Lib.hid (show mv = false by rw [HHM.out]; exact decide_eq_false fun q => by have h1 := (hrange q.2.2).2; rw [show (nsl 32 : Int) = 2 from rfl] at h1; omega)
                clear d2 hrange hk
                go_upto_region 4 with fail
                go_quiet (fail)
                go_wp2
                go_round
                case rel => exact ⟨j + 1, by go_num, by omega, HNO.out HM.out, Ext.trans qr (Ext.drewN _ _)⟩
                case measure => simp [intOf]; omega
            · by_cases hk : k < 1
              · have k1' : (k : Int) < 1 := by omega
                have d3 := d2 k (by omega)
                have HM := Lib.hid (show mv = decide ((k : Int) ∈ al) by rw [HHM.out]; simp)
                generalize decide ((k : Int) ∈ al) = bb at *
                clear d2 hrange
                cases bb
                · go_upto_region 4 with fail
                  go_quiet (fail)
                  go_wp2
                  go_round
                  case rel => exact ⟨j + 1, by go_num, by omega, HNO.out HM.out, Ext.trans qr (Ext.drewN _ _)⟩
                  case measure => simp [intOf]; omega
                · have HE := Lib.hid (HYY.out HM.out)
                  go_upto_region 4 with fail
                  go_quiet (fail)
                  go_wp2
                  go_ret
                  exact ⟨by rw [HE.out]; rfl, Ext.trans bX (Ext.trans qr (Ext.drewN _ _))⟩
              · have t1 : decide ((k : Int) < 1) = false := decide_eq_false (by omega)
                have HM := Lib.hid (show mv = false by rw [HHM.out]; exact decide_eq_false fun q => by have h1 := (hrange q.2.2).2; rw [show (nsl 64 : Int) = 1 from rfl] at h1; omega)
                clear d2 hrange hk
                go_upto_region 4 with fail
                go_quiet (fail)
                go_wp2
                go_round
                case rel => exact ⟨j + 1, by go_num, by omega, HNO.out HM.out, Ext.trans qr (Ext.drewN _ _)⟩
                case measure => simp [intOf]; omega
        · have tz : (az == s) = false := by simp [hz]
          have HM := Lib.hid (show mv = false by rw [hmt]; exact decide_eq_false fun q => hz q.2.1)
          clear hmt hrange d2 hz
          go_upto_region 4 with fail
          go_quiet (fail)
          go_wp2
          go_round
          case rel => exact ⟨j + 1, by go_num, by omega, HNO.out HM.out, Ext.trans qr (Ext.drewN _ _)⟩
          case measure => simp [intOf]; omega
      · have tf : ((af : Int) == f) = false := by simp [hf]
        have HM := Lib.hid (show mv = false by rw [hmt]; exact decide_eq_false fun q => hf q.1)
        clear hmt hrange d1 d2 hf
        go_upto_region 4 with fail
        go_quiet (fail)
        go_wp2
        go_round
        case rel => exact ⟨j + 1, by go_num, by omega, HNO.out HM.out, Ext.trans qr (Ext.drewN _ _)⟩
        case measure => simp [intOf]; omega
    · obtain rfl : j = L.length := by omega
      have HE := Lib.hid (HZ.out (fun a ha => hno a (by rwa [List.take_of_length_le (Nat.le_refl _)])))
      clear hno
      go_wp2
      go_ret
      exact ⟨by rw [HE.out]; rfl, Ext.trans bX qr⟩

end Go.Proofs.Ytebkknkgkjblnaa
