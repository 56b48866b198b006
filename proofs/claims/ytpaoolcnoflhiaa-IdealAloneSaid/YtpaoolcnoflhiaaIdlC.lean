/-
  WALKS of package ideal: most, First.
-/
import Derived.Test.YtpaoolcnoflhiaaIdlB
import Derived.Test.YtpaoolcnoflhiaaPrioE
namespace Go.Proofs.Ytpaoolcnoflhiaa
open Go.RowKit
attribute [local go_sem] depUpon Sp.ok

def pc (p q : P3) : Int := pcmp p.1 p.2.1 p.2.2 q.1 q.2.1 q.2.2
def stOf (ths : List TH) (k : Nat) : Int := ((ths[k]?).map (·.st)).getD 0
def ibetter (ths : List TH) (eff : List P3) (k : Nat) (b : Int) : Prop := stOf ths k = 1 ∧ (b < 0 ∨ 0 < pc (eff.getD k (0, 0, 0)) (eff.getD b.toNat (0, 0, 0)))
instance (ths : List TH) (eff : List P3) (k : Nat) (b : Int) : Decidable (ibetter ths eff k b) := by unfold ibetter; infer_instance
/-- The first Ready one of the first k that no other one of them is ahead of. -/
def ibest (ths : List TH) (eff : List P3) : Nat → Int
  | 0 => -1
  | k + 1 => if ibetter ths eff k (ibest ths eff k) then k else ibest ths eff k
theorem ibest_rng (ths : List TH) (eff : List P3) : ∀ k, -1 ≤ ibest ths eff k ∧ ibest ths eff k < k
  | 0 => by simp [ibest]
  | k + 1 => by
    have := ibest_rng ths eff k
    unfold ibest
    split <;> omega
def ifirst (ths : List TH) (os : List Int) : Int := ibest ths (ieff ths os) ths.length
theorem ieff_len (ths : List TH) (os : List Int) : (ieff ths os).length = ths.length := by simp [ieff, geff]

set_option maxRecDepth 100000 in
set_option maxHeartbeats 4000000 in
theorem i_most (tick : Int) (A : Option Addr) (n c : Nat) (B : Option Addr) (nb cb : Nat) (P : Option Addr) (np cp : Nat) (F : Option Addr) (nf cf : Nat) (ths : List TH) (os : List Int) (w : World) (h : ViewArg w A n ths B nb os) (hn : n ≤ 60000) :
    Calls Try.prog 13 #[.agg #[.int .i64 tick, .slice A n c, .slice B nb cb, .slice P np cp, .slice F nf cf], .func (.func 11) #[] #[]] w fun e w' => e = .returned (.tuple #[.int .i64 (ifirst ths os), .bool (decide (0 ≤ ifirst ths os))]) ∧ Below w.heap.size w w' := by
  have HV := Lib.hid h
  have HL := Lib.hid h.len
  have oV := (Own.new w 26 [.int .i64 tick, .slice A n c, .slice B nb cb, .slice P np cp, .slice F nf cf])
  rw [show ifirst ths os = ibest ths (ieff ths os) ths.length from rfl]
  have HM := Lib.hid (fun w' h' => i_effective tick A n c B nb cb P np cp F nf cf ths os w' h' hn)
  have HEL := Lib.hid (ieff_len ths os)
  clear h
  generalize ieff ths os = eff at *
  go_enter Try.func13, Try.ntmps13
  go_wp2_with fail
  refine (HM.out _ (HV.out.keep (Ext.alloc _ _))).mono ?_
  rintro e w1 ⟨S, c', rfl, hr, hb⟩
  have oV1 := oV.keep hb
  have hb1 : Ext w w1 := Ext.trans (Ext.alloc _ _) hb
  have HE := Lib.hid hr
  have h1 := oV1.cell 1
  simp only [List.getElem?_cons_zero, List.getElem?_cons_succ] at h1
  clear oV oV1 hb hr
  go_wp2
  go_loopw [7, 15] (fun v q wr => ∃ (k : Nat) (b : Int), v = .int .i64 b ∧ q = .int .i64 k ∧ k ≤ n ∧ Hid (b = ibest ths eff k) ∧ Ext w1 wr) (fun _ q _ => n - (intOf q).toNat)
  case atStart => exact ⟨0, -1, rfl, rfl, by omega, Lib.hid rfl, Ext.refl _⟩
  case round =>
    obtain ⟨k, bst, rfl, rfl, hk, HB, q2⟩ := hrel
    clear h1
    by_cases hlt : k < n
    · have hkl : k < ths.length := by rw [HL.out]; exact hlt
      obtain ⟨b, off, rfl, he⟩ := (HV.out.keep (Ext.trans hb1 q2)).thread hkl
      have hX := Lib.hid (HV.out.ok _ (List.getElem_mem hkl))
      have hsv : stOf ths k = ths[k].st := by simp [stOf, hkl]
      have HS := Lib.hid hsv
      have hrg := ibest_rng ths eff k
      rw [← HB.out] at hrg
      have hnx : ibest ths eff (k + 1) = if ibetter ths eff k bst then (k : Int) else bst := by rw [HB.out]; rfl
      have HN := Lib.hid hnx
      have i0' : (0 : Int) ≤ (k : Int) := by omega
      have i1' : (k : Int) < (n : Int) := by omega
      clear hsv hnx
      generalize hXX : ths[k]'hkl = x at *
      clear hXX hkl
      obtain ⟨cs, bs, st, on, hh⟩ := x
      have hs : stOf ths k = st := HS.out
      by_cases hst : st = 1
      · have t0 : (st == 1) = true := by simp [hst]
        by_cases hneg : bst < 0
        · obtain rfl : bst = -1 := by omega
          have HB2 : Hid ((k : Int) = ibest ths eff (k + 1)) := Lib.hid (by rw [HN.out, if_pos ⟨by rw [hs, hst], .inl (by omega)⟩])
          clear hst hs hneg
          go_wp2_with (first
            | (refine wpl_load_rd _ rfl 44 _ rfl (by kernel_rfl) 21 size_thread b (off + k * 21) rfl cs hX.out.len he ?_)
            | (refine wpl_alloc_own _ rfl 44 rfl zth zero_thread ?_; intro w2 o2 bb s2)
            | (refine wpl_store_own _ rfl 44 _ _ rfl 21 size_thread _ rfl cs rfl _ _ o2 hX.out.len rfl hX.out.one ?_; intro w3 o3 g3 s3; clear s3; have d5 := o3.cell 5; rw [show cs[5]? = _ from hX.out.s] at d5; have e3' : Ext wr w3 := below_of_grown bb g3 (Nat.le_refl _) bb.size; have e3 := below_of_grown (Ext.trans q2 bb) g3 q2.size (Ext.trans q2 bb).size))
          refine wp_region_dep (S := Ext) (C := Ext (w3)) (by kernel_rfl) (by kernel_rfl) rfl Ext.refl (Ext.drew _) ?_
          repeat (refine dep_det (by rfl) (fun K hK => ?_); go_simp; first
            | ((with_reducible refine hK _ ?_); clear hK K)
            | (rw [if_neg (by decide)]; (with_reducible refine hK _ ?_); clear hK K)
            | (refine ⟨_, fun w1 hw1 => ⟨Ext.refl w1, hw1, rfl⟩, hK _ ?_⟩; clear hK K)
            | (apply Exists.intro; refine ⟨fun w1 hw1 => ?_, hK _ ?_⟩
               first
                 | (have c_d5 := cell_keep hw1 d5; go_simp; first | exact ⟨Ext.refl _, hw1, rfl⟩ | exact ⟨Ext.refl _, rfl⟩)
               clear hK K))
          refine dep_nil ?_
          intro a' w' hC hE
          obtain rfl := atEnd_nil hE
          clear hE
          clear g3
          have e4 := Ext.trans e3 hC
          go_wp2
          go_roundw
          case rel => exact ⟨k + 1, _, rfl, by go_num, by omega, HB2, e4⟩
          case measure => simp [intOf]; omega
        · obtain ⟨m, rfl⟩ : ∃ m : Nat, bst = (m : Int) := ⟨bst.toNat, by omega⟩
          have j1 : (m : Int) < (n : Int) := by omega
          have j0 : (0 : Int) ≤ (m : Int) := by omega
          have tn : ((m : Int) < 0) = False := by simp
          have hke : k < eff.length := by rw [HEL.out, HL.out]; omega
          have hme : m < eff.length := by rw [HEL.out, HL.out]; omega
          obtain ⟨eb, eo, rfl, k0, k1, k2⟩ := (HE.out.keep q2).trip hke
          obtain ⟨_, _, eS, m0, m1, m2⟩ := (HE.out.keep q2).trip hme
          injection eS with eS; injection eS with e1 e2
          subst e1; subst e2
          have hg1 : eff.getD k (0, 0, 0) = eff[k] := by simp [hke]
          have hg2 : eff.getD (m : Int).toNat (0, 0, 0) = eff[m] := by simp [hme]
          have hbt : ibetter ths eff k (m : Int) ↔ 0 < pc eff[k] eff[m] := by
            unfold ibetter; rw [hg1, hg2, hs]
            constructor
            · rintro ⟨_, h | h⟩
              · omega
              · exact h
            · exact fun h => ⟨hst, .inr h⟩
          clear hg1 hg2
          generalize hKK : eff[k]'hke = p at *
          generalize hMM : eff[m]'hme = q at *
          clear hKK hMM hke hme
          obtain ⟨p1, p2, p3⟩ := p
          obtain ⟨r1, r2, r3⟩ := q
          simp only at k0 k1 k2 m0 m1 m2
          by_cases hpos : 0 < pcmp p1 p2 p3 r1 r2 r3
          · have HB2 : Hid ((k : Int) = ibest ths eff (k + 1)) := Lib.hid (by rw [HN.out, if_pos (hbt.2 hpos)])
            clear hst hs hneg hbt HS
            go_wp2_with (first
              | (refine wpl_load_rd _ rfl 44 _ rfl (by kernel_rfl) 21 size_thread b (off + k * 21) rfl cs hX.out.len he ?_)
              | (refine wpl_alloc_own _ rfl 44 rfl zth zero_thread ?_; intro w2 o2 bb s2)
              | (refine wpl_store_own _ rfl 44 _ _ rfl 21 size_thread _ rfl cs rfl _ _ o2 hX.out.len rfl hX.out.one ?_; intro w3 o3 g3 s3; clear s3; have d5 := o3.cell 5; rw [show cs[5]? = _ from hX.out.s] at d5; have e3' : Ext wr w3 := below_of_grown bb g3 (Nat.le_refl _) bb.size; have e3 := below_of_grown (Ext.trans q2 bb) g3 q2.size (Ext.trans q2 bb).size))
            refine wp_region_dep (S := Ext) (C := Ext (w3)) (by kernel_rfl) (by kernel_rfl) rfl Ext.refl (Ext.drew _) ?_
            have f0 := cell_keep e3' k0; have f1 := cell_keep e3' k1; have f2 := cell_keep e3' k2; have f3 := cell_keep e3' m0; have f4 := cell_keep e3' m1; have f5 := cell_keep e3' m2
            repeat (refine dep_det (by rfl) (fun K hK => ?_); go_simp; first
              | ((with_reducible refine hK _ ?_); clear hK K)
              | (rw [if_neg (by decide)]; (with_reducible refine hK _ ?_); clear hK K)
              | (refine ⟨_, fun w1 hw1 => ⟨Ext.refl w1, hw1, rfl⟩, hK _ ?_⟩; clear hK K)
              | (apply Exists.intro; refine ⟨fun w1 hw1 => ?_, hK _ ?_⟩
                 first
                   | (go_at_call 11; refine (prio_compare _ _ _ _ _ _ _).mono ?_; rintro e w' ⟨rfl, hb'⟩; exact ⟨_, rfl, hb', Ext.trans hw1 hb', rfl⟩)
                   | (have c_d5 := cell_keep hw1 d5; have c_f0 := cell_keep hw1 f0; have c_f1 := cell_keep hw1 f1; have c_f2 := cell_keep hw1 f2; have c_f3 := cell_keep hw1 f3; have c_f4 := cell_keep hw1 f4; have c_f5 := cell_keep hw1 f5; go_simp; first | exact ⟨Ext.refl _, hw1, rfl⟩ | exact ⟨Ext.refl _, rfl⟩)
                 clear hK K))
            refine dep_nil ?_
            intro a' w' hC hE
            obtain rfl := atEnd_nil hE
            clear hE
            clear g3
            have e4 := Ext.trans e3 hC
            go_wp2
            go_roundw
            case rel => exact ⟨k + 1, _, rfl, by go_num, by omega, HB2, e4⟩
            case measure => simp [intOf]; omega
          · have HB2 : Hid ((m : Int) = ibest ths eff (k + 1)) := Lib.hid (by rw [HN.out, if_neg (fun h => hpos (hbt.1 h))])
            clear hst hs hneg hbt HS
            go_wp2_with (first
              | (refine wpl_load_rd _ rfl 44 _ rfl (by kernel_rfl) 21 size_thread b (off + k * 21) rfl cs hX.out.len he ?_)
              | (refine wpl_alloc_own _ rfl 44 rfl zth zero_thread ?_; intro w2 o2 bb s2)
              | (refine wpl_store_own _ rfl 44 _ _ rfl 21 size_thread _ rfl cs rfl _ _ o2 hX.out.len rfl hX.out.one ?_; intro w3 o3 g3 s3; clear s3; have d5 := o3.cell 5; rw [show cs[5]? = _ from hX.out.s] at d5; have e3' : Ext wr w3 := below_of_grown bb g3 (Nat.le_refl _) bb.size; have e3 := below_of_grown (Ext.trans q2 bb) g3 q2.size (Ext.trans q2 bb).size))
            refine wp_region_dep (S := Ext) (C := Ext (w3)) (by kernel_rfl) (by kernel_rfl) rfl Ext.refl (Ext.drew _) ?_
            have f0 := cell_keep e3' k0; have f1 := cell_keep e3' k1; have f2 := cell_keep e3' k2; have f3 := cell_keep e3' m0; have f4 := cell_keep e3' m1; have f5 := cell_keep e3' m2
            repeat (refine dep_det (by rfl) (fun K hK => ?_); go_simp; first
              | ((with_reducible refine hK _ ?_); clear hK K)
              | (rw [if_neg (by decide)]; (with_reducible refine hK _ ?_); clear hK K)
              | (refine ⟨_, fun w1 hw1 => ⟨Ext.refl w1, hw1, rfl⟩, hK _ ?_⟩; clear hK K)
              | (apply Exists.intro; refine ⟨fun w1 hw1 => ?_, hK _ ?_⟩
                 first
                   | (go_at_call 11; refine (prio_compare _ _ _ _ _ _ _).mono ?_; rintro e w' ⟨rfl, hb'⟩; exact ⟨_, rfl, hb', Ext.trans hw1 hb', rfl⟩)
                   | (have c_d5 := cell_keep hw1 d5; have c_f0 := cell_keep hw1 f0; have c_f1 := cell_keep hw1 f1; have c_f2 := cell_keep hw1 f2; have c_f3 := cell_keep hw1 f3; have c_f4 := cell_keep hw1 f4; have c_f5 := cell_keep hw1 f5; go_simp; first | exact ⟨Ext.refl _, hw1, rfl⟩ | exact ⟨Ext.refl _, rfl⟩)
                 clear hK K))
            refine dep_nil ?_
            intro a' w' hC hE
            obtain rfl := atEnd_nil hE
            clear hE
            clear g3
            have e4 := Ext.trans e3 hC
            go_wp2
            go_roundw
            case rel => exact ⟨k + 1, _, rfl, by go_num, by omega, HB2, e4⟩
            case measure => simp [intOf]; omega
      · have t0 : (st == 1) = false := by simp [hst]
        have HB2 : Hid (bst = ibest ths eff (k + 1)) := Lib.hid (by rw [HN.out, if_neg (fun h => hst (hs ▸ h.1))])
        clear hst hs
        go_wp2_with (first
          | (refine wpl_load_rd _ rfl 44 _ rfl (by kernel_rfl) 21 size_thread b (off + k * 21) rfl cs hX.out.len he ?_)
          | (refine wpl_alloc_own _ rfl 44 rfl zth zero_thread ?_; intro w2 o2 bb s2)
          | (refine wpl_store_own _ rfl 44 _ _ rfl 21 size_thread _ rfl cs rfl _ _ o2 hX.out.len rfl hX.out.one ?_; intro w3 o3 g3 s3; clear s3; have d5 := o3.cell 5; rw [show cs[5]? = _ from hX.out.s] at d5; have e3' : Ext wr w3 := below_of_grown bb g3 (Nat.le_refl _) bb.size; have e3 := below_of_grown (Ext.trans q2 bb) g3 q2.size (Ext.trans q2 bb).size))
        refine wp_region_dep (S := Ext) (C := Ext (w3)) (by kernel_rfl) (by kernel_rfl) rfl Ext.refl (Ext.drew _) ?_
        repeat (refine dep_det (by rfl) (fun K hK => ?_); go_simp; first
          | ((with_reducible refine hK _ ?_); clear hK K)
          | (rw [if_neg (by decide)]; (with_reducible refine hK _ ?_); clear hK K)
          | (refine ⟨_, fun w1 hw1 => ⟨Ext.refl w1, hw1, rfl⟩, hK _ ?_⟩; clear hK K)
          | (apply Exists.intro; refine ⟨fun w1 hw1 => ?_, hK _ ?_⟩
             first
               | (have c_d5 := cell_keep hw1 d5; go_simp; first | exact ⟨Ext.refl _, hw1, rfl⟩ | exact ⟨Ext.refl _, rfl⟩)
             clear hK K))
        refine dep_nil ?_
        intro a' w' hC hE
        obtain rfl := atEnd_nil hE
        clear hE
        clear g3
        have e4 := Ext.trans e3 hC
        go_wp2
        go_roundw
        case rel => exact ⟨k + 1, _, rfl, by go_num, by omega, HB2, e4⟩
        case measure => simp [intOf]; omega
    · obtain rfl : k = n := by omega
      have HF : Hid (ibest ths eff ths.length = bst) := Lib.hid (by rw [HB.out, HL.out])
      go_wp2
      go_ret2
      exact ⟨by rw [HF.out]; rfl, Ext.trans hb1 q2⟩

set_option maxRecDepth 100000 in
set_option maxHeartbeats 2000000 in
theorem i_first (tick : Int) (A : Option Addr) (n c : Nat) (B : Option Addr) (nb cb : Nat) (P : Option Addr) (np cp : Nat) (F : Option Addr) (nf cf : Nat) (ths : List TH) (os : List Int) (w : World) (h : ViewArg w A n ths B nb os) (hn : n ≤ 60000) :
    Calls Try.prog 7 #[.agg #[.int .i64 tick, .slice A n c, .slice B nb cb, .slice P np cp, .slice F nf cf]] w fun e w' => e = .returned (.tuple #[.int .i64 (ifirst ths os), .bool (decide (0 ≤ ifirst ths os))]) ∧ Below w.heap.size w w' := by
  have HV := Lib.hid h
  clear h
  generalize hF : ifirst ths os = k
  have HM := Lib.hid (fun w' h' => hF ▸ i_most tick A n c B nb cb P np cp F nf cf ths os w' h' hn)
  clear hF
  go_enter Try.func7, Try.ntmps7
  go_wp2_with fail
  refine (HM.out _ (HV.out.keep (Ext.alloc _ _))).mono ?_
  rintro e w1 ⟨rfl, hb⟩
  have hb1 : Ext w w1 := Ext.trans (Ext.alloc _ _) hb
  clear hb
  go_wp2
  go_ret2
  exact ⟨rfl, hb1⟩

end Go.Proofs.Ytpaoolcnoflhiaa
