/-
  WALKS of package admit: Parts.
-/
import Derived.Test.YtdninhdabeddeaaAdmN
import Derived.Test.YtdninhdabeddeaaAppG
namespace Go.Proofs.Ytdninhdabeddeaa
open Go.RowKit
attribute [local go_sem] depUpon Sp.ok

theorem info_part' : (Try.prog.info? 36).map (fun i => (i.zero, i.size, i.bytes)) = some (some (.agg #[.int .i64 0, .int .i64 0]), 2, 16) := by kernel_rfl
theorem rd_prt (w : World) (a b : Int) : Rd (w.alloc (.cells #[.int .i64 a, .int .i64 b] 36)) (some ⟨w.heap.size, 0, none⟩) (pairs [(a, b)]) := (Own.new w 36 (pairs [(a, b)])).rd0
/-- What comes ahead: the lines, and tasks. -/
def gapP (gs : List Int) : List (Int × Int) := gs.map fun g => (g, 2)
def partOf (ts : List TK) (i : Int) (z : Int) : List (Int × Int) := if z = i then [] else match ts[z.toNat]? with
  | some y => [(y.per, y.bud)]
  | none => []
def partT (ts : List TK) (i : Int) (L : List Int) : List (Int × Int) := L.flatMap (partOf ts i)
def partsV (ts : List TK) (gs : List Int) (i : Int) (x : TK) : List (Int × Int) := gapP gs ++ partT ts i (someL (ahdB x) ts)
theorem gapP_snoc (l : List Int) (g : Int) : gapP (l ++ [g]) = gapP l ++ [(g, 2)] := by simp [gapP]
theorem gapP_len (l : List Int) : (gapP l).length = l.length := by simp [gapP]
theorem partT_same (ts : List TK) (i : Int) (L : List Int) : partT ts i (L ++ [i]) = partT ts i L := by simp [partT, partOf]
theorem partT_snoc (ts : List TK) (i : Int) (L : List Int) {k : Nat} (hk : k < ts.length) (hne : (k : Int) ≠ i) : partT ts i (L ++ [(k : Int)]) = partT ts i L ++ [(ts[k].per, ts[k].bud)] := by
  simp [partT, partOf, hne, hk]
theorem partT_len (ts : List TK) (i : Int) : ∀ L, (partT ts i L).length ≤ L.length
  | [] => by simp [partT]
  | z :: L => by
    have ih := partT_len ts i L
    have e : partT ts i (z :: L) = partOf ts i z ++ partT ts i L := rfl
    have : (partOf ts i z).length ≤ 1 := by
      unfold partOf
      split
      · simp
      · split <;> simp
    rw [e, List.length_append, List.length_cons]
    omega
theorem some_in' {f : TK → Bool} {ts : List TK} {j : Nat} (hj : j < (someL f ts).length) : ∃ k : Nat, (someL f ts)[j] = (k : Int) ∧ ∃ h : k < ts.length, f ts[k] = true := by
  obtain ⟨k, e, _, h⟩ := someT_mem f ts _ ts.length (List.getElem_mem hj)
  exact ⟨k, e, h⟩

set_option maxRecDepth 100000 in
set_option maxHeartbeats 1000000 in
theorem a_parts_no (A : Option Addr) (nt ct : Nat) (ts : List TK) (B : Option Addr) (nb cb : Nat) (bs : List EF) (M : Option Addr) (nm cm : Nat) (ms : List (Int × Int)) (G : Option Addr) (ng cg : Nat) (gs : List Int) (fr dog : Int) (i : Int) (w : World) (h : ConfArg w A nt ts B nb bs M nm ms G ng gs fr dog) (hno : ¬ (0 ≤ i ∧ i < (nt : Int) ∧ mayC nt nb nm ng ts bs ms gs fr dog = true)) (h12 : nm ≤ 65536) :
    Calls Try.prog 14 #[.agg #[.slice A nt ct, .slice B nb cb, .slice M nm cm, .slice G ng cg, .int .i64 fr, .int .i64 dog], .int .i64 i] w fun e w' => e = .returned (.slice none 0 0) ∧ Below w.heap.size w w' := by
  have HT := Lib.hid (fun w' (h' : Ext w w') => a_task_no A nt ct ts B nb cb bs M nm cm ms G ng cg gs fr dog i w' (h.keep h') hno h12)
  have oV := Own.new w 27 [.slice A nt ct, .slice B nb cb, .slice M nm cm, .slice G ng cg, .int .i64 fr, .int .i64 dog]
  have bV : Ext w (w.alloc (.cells #[.slice A nt ct, .slice B nb cb, .slice M nm cm, .slice G ng cg, .int .i64 fr, .int .i64 dog] 27)) := Ext.alloc _ _
  clear h hno h12
  go_enter Try.func14, Try.ntmps14
  go_wp2_with (refine wpl_load_own _ rfl 27 _ rfl (by kernel_rfl) 6 size_conf _ rfl _ _ oV rfl ?_)
  refine (HT.out _ bV).mono ?_
  rintro e w3 ⟨rfl, b3⟩
  replace bV := Ext.trans bV b3
  go_wp2_with (first
    | (refine wpl_alloc_own _ rfl 47 rfl ztk zero_task ?_; intro w2 o2 b2 s2; clear s2)
    | (refine wpl_store_own _ rfl 47 _ _ rfl 8 size_task _ rfl [.int .i64 0, .int .i64 0, .int .i64 0, .int .i64 0, .int .i64 0, .int .i64 0, .slice none 0 0, .slice none 0 0] rfl _ _ o2 rfl rfl (by simp [Value.oneCell']) ?_; intro w4 o4 g4 s4; clear s4))
  go_ret
  exact ⟨rfl, below_of_grown (Ext.trans bV b2) g4 bV.size (Ext.trans bV b2).size⟩

set_option maxRecDepth 100000 in
set_option maxHeartbeats 4000000 in
theorem a_parts_yes (A : Option Addr) (nt ct : Nat) (ts : List TK) (B : Option Addr) (nb cb : Nat) (bs : List EF) (M : Option Addr) (nm cm : Nat) (ms : List (Int × Int)) (G : Option Addr) (ng cg : Nat) (gs : List Int) (fr dog : Int) (k : Nat) (x : TK) (w : World) (h : ConfArg w A nt ts B nb bs M nm ms G ng gs fr dog) (hk : k < ts.length) (hx : ts[k] = x) (hm : mayC nt nb nm ng ts bs ms gs fr dog = true) (h12 : nm ≤ 65536) :
    Calls Try.prog 14 #[.agg #[.slice A nt ct, .slice B nb cb, .slice M nm cm, .slice G ng cg, .int .i64 fr, .int .i64 dog], .int .i64 (k : Int)] w fun e w' => ∃ S c', e = .returned (.slice S (partsV ts gs (k : Int) x).length c') ∧ Rd w' S (pairs (partsV ts gs (k : Int) x)) ∧ Below w.heap.size w w' := by
  obtain ⟨n8, _, n4, hok, hmt, _, _⟩ := may_conf hm
  have HT := Lib.hid (fun w' (h' : Ext w w') => a_task_yes A nt ct ts B nb cb bs M nm cm ms G ng cg gs fr dog k x w' (h.keep h') hk hx hm h12)
  have HS := Lib.hid (fun w' (h' : Ext w w') => a_some_ahead A nt ct ts B nb cb bs M nm cm ms G ng cg gs fr dog x w' (h.keep h') (by omega))
  have HC := Lib.hid h.tasks
  have HG := Lib.hid h.gaps
  have hTL := h.tasks.len
  have hGL := h.gaps.len
  have HV := Lib.hid (show partsV ts gs (k : Int) x = gapP gs ++ partT ts (k : Int) (someL (ahdB x) ts) from rfl)
  have HSI := Lib.hid (fun j hj => some_in' (f := ahdB x) (ts := ts) (j := j) hj)
  have hLn : (someL (ahdB x) ts).length ≤ 8 := by
    have := someT_len (ahdB x) ts ts.length
    unfold someL
    omega
  have oV := Own.new w 27 [.slice A nt ct, .slice B nb cb, .slice M nm cm, .slice G ng cg, .int .i64 fr, .int .i64 dog]
  have bV : Ext w (w.alloc (.cells #[.slice A nt ct, .slice B nb cb, .slice M nm cm, .slice G ng cg, .int .i64 fr, .int .i64 dog] 27)) := Ext.alloc _ _
  obtain ⟨i0, hi, hz0, hz1, hz2⟩ := info_parts info_part'
  have HI := Lib.hid hi
  have hmf : ∀ (fn : Fn) (first cap : Array Value) (w : World), (Instr.makeFunc fn first cap).run Try.prog w = .ok (.func fn first cap) w := fun _ _ _ _ => rfl
  clear h hm h12 hx hk hok hmt hi n8
  go_enter Try.func14, Try.ntmps14
  go_wp2_with (refine wpl_load_own _ rfl 27 _ rfl (by kernel_rfl) 6 size_conf _ rfl _ _ oV rfl ?_)
  refine (HT.out _ bV).mono ?_
  rintro e w3 ⟨rfl, b3⟩
  replace bV := Ext.trans bV b3
  replace oV := oV.keep b3
  go_wp2_with (first
    | (refine wpl_alloc_own _ rfl 47 rfl ztk zero_task ?_; intro w2 o2 b2 s2; clear s2)
    | (refine wpl_store_own _ rfl 47 _ _ rfl 8 size_task _ rfl [.int .i64 x.cls, .int .i64 x.lvl, .int .i64 x.per, .int .i64 x.ddl, .int .i64 x.bud, .int .i64 x.line, .slice x.U x.un x.uc, .slice x.O x.on x.oc] rfl _ _ o2 rfl rfl (TK.one x) ?_; intro w4 o4 g4 s4; clear s4; have e4 := below_of_grown b2 g4 (Nat.le_refl _) b2.size; have oV4 := oV.keep e4; have v3 : w4.cell? ⟨w.heap.size, 3, none⟩ = some (.slice G ng cg) := oV4.cell 3))
  have bw4 := Ext.trans bV e4
  clear e4 bV b3 b2 g4 oV
  go_loopw [7, 23] (fun v q wr => ∃ (j : Nat) (R : Option Addr) (c1 : Nat), v = .slice R j c1 ∧ q = .int .i64 j ∧ j ≤ ng ∧ Row wr w4.heap.size 36 2 R j c1 (pairs (gapP (gs.take j))) ∧ Ext w4 wr) (fun _ q _ => ng - (intOf q).toNat)
  case atStart => exact ⟨0, none, 0, rfl, rfl, by omega, Row.nil _ _ _ _, Ext.refl _⟩
  case round =>
    obtain ⟨j, R, c1, rfl, rfl, hj, q1, q2⟩ := hrel
    clear v3
    by_cases hlt : j < ng
    · have hjl : j < gs.length := by omega
      obtain ⟨bs', ofs, rfl, hcS⟩ := (HG.out.rd.keep (Ext.trans bw4 q2)).int hjl
      have hsn := gapP_snoc (gs.take j) gs[j]
      rw [← take_succ' gs j hjl] at hsn
      generalize gs[j] = g at *
      have HAP := Lib.hid (show pairs (gapP (gs.take j)) ++ pairs [(g, 2)] = pairs (gapP (gs.take (j + 1))) by rw [hsn]; exact pairs_app _ _)
      have j0' : (0 : Int) ≤ (j : Int) := by omega
      have j1' : (j : Int) < (ng : Int) := by omega
      clear hsn
      go_wp2_with (at_builtin; have r7 := (q1.alloc (.cells #[.int .i64 g, .int .i64 2] 36)); refine wpl_append _ rfl (.tmp 27) (.tmp 30) 31 rfl 36 i0 _ 2 16 Try.underlying31 HI.out hz0 hz1 hz2 rfl (by omega) w4.heap.size R j c1 _ rfl r7 _ 1 1 (pairs [(g, 2)]) rfl rfl (rd_prt _ _ _) (pairs_one _) (j + 1) _ rfl HAP.out (by omega) (by omega) (by simp; have := q2.size; omega) ?_; intro A2 c2 w6 o6 g6 k6)
      have e6 := below_grown (Ext.trans q2 (Ext.alloc _ (.cells #[.int .i64 g, .int .i64 2] 36))) g6 (by simp; have := q2.size; omega) (fun g' hg' => (q1.at_ g' hg').1)
      go_roundw
      case rel => exact ⟨j + 1, A2, c2, rfl, by go_num, by omega, o6, e6⟩
      case measure => simp [intOf]; omega
    · obtain rfl : ng = j := by omega
      rw [List.take_of_length_le (by omega)] at q1
      obtain ⟨wo, rfl⟩ : ∃ wo : World, wo = wr := ⟨_, rfl⟩
      have oVo := oV4.keep q2
      have o4o := o4.keep q2
      go_wp2_with (first
        | (refine wpl_load_own _ rfl 27 _ rfl (by kernel_rfl) 6 size_conf _ rfl _ _ oVo rfl ?_)
        | (refine wpl_load_own _ rfl 47 _ rfl (by kernel_rfl) 8 size_task _ rfl _ _ o4o rfl ?_))
      refine (HS.out _ (Ext.trans bw4 q2)).mono ?_
      rintro e w5 ⟨S, c', rfl, rS, b5⟩
      have rL := rS.rd
      have hSlo := rS.at_
      have r5 := q1.keep b5
      have e5 := Ext.trans q2 b5
      have hRlo := q1.at_
      have HAPN := Lib.hid (show gapP gs ++ partT ts (k : Int) ((someL (ahdB x) ts).take 0) = gapP gs by simp [partT])
      have hng : (gapP gs).length = ng := by rw [gapP_len]; omega
      have hbs : ∀ g, blk R = some g → blk S ≠ some g := fun g h1 h2 => by have := (hRlo g h1).2; have := (hSlo g h2).1; omega
      clear rS oVo o4o hRlo q1
      generalize someL (ahdB x) ts = L at *
      go_wp2
      go_loopw [7, 39] (fun v q wr => ∃ (j : Nat) (R : Option Addr) (c1 : Nat), v = .slice R (gapP gs ++ partT ts (k : Int) (L.take j)).length c1 ∧ q = .int .i64 j ∧ j ≤ L.length ∧ Row wr w4.heap.size 36 2 R (gapP gs ++ partT ts (k : Int) (L.take j)).length c1 (pairs (gapP gs ++ partT ts (k : Int) (L.take j))) ∧ Ext w4 wr ∧ w5.heap.size ≤ wr.heap.size ∧ Rd wr S (ints L) ∧ (∀ g, blk R = some g → blk S ≠ some g)) (fun _ q _ => L.length - (intOf q).toNat)
      case atStart => exact ⟨0, R, c1, by rw [HAPN.out, hng], rfl, by omega, by rw [HAPN.out, hng]; exact r5, e5, Nat.le_refl _, rL, hbs⟩
      case round =>
        obtain ⟨j, R, c1, rfl, rfl, hj, q1, q2, q3, q4, q5⟩ := hrel
        clear rL r5 e5 hbs
        by_cases hlt : j < L.length
        · obtain ⟨bs', ofs, rfl, hcS⟩ := q4.int hlt
          obtain ⟨kk, hkk, hkl, _⟩ := HSI.out j hlt
          have htk := take_succ' L j hlt
          rw [hkk] at hcS htk
          have j0' : (0 : Int) ≤ (j : Int) := by omega
          have i0' : (0 : Int) ≤ (kk : Int) := by omega
          have i1' : (kk : Int) < (nt : Int) := by omega
          have hkn : kk < nt := by omega
          have hpl := partT_len ts (k : Int) (L.take (j + 1))
          rw [List.length_take] at hpl
          by_cases hkk2 : (kk : Int) = (k : Int)
          · have HE := Lib.hid (show partT ts (k : Int) (L.take (j + 1)) = partT ts (k : Int) (L.take j) by rw [htk, hkk2]; exact partT_same _ _ _)
            have tne : ((kk : Int) != (k : Int)) = false := by rw [hkk2]; simp
            clear hkk htk hkk2
            go_wp2
            go_roundw
            case rel => exact ⟨j + 1, R, c1, by rw [HE.out], by go_num, by omega, by rw [HE.out]; exact q1, q2, q3, q4, q5⟩
            case measure => simp [intOf]; omega
          · have tne : ((kk : Int) != (k : Int)) = true := by simp; omega
            have hE := partT_snoc ts (k : Int) (L.take j) hkl hkk2
            rw [← htk] at hE
            have v0 : w4.cell? ⟨w.heap.size, 0, none⟩ = some (.slice A nt ct) := oV4.cell 0
            obtain ⟨b0, off, rfl, he⟩ := flat_at (k := 8) (HC.out.keep bw4).rd (fun _ _ => rfl) (by omega) hkl
            have c2 := he 2 _ rfl
            have c4 := he 4 _ rfl
            generalize ts[kk].per = yp at *
            generalize ts[kk].bud = yb at *
            generalize hP1 : partT ts (k : Int) (L.take (j + 1)) = P1 at *
            have HP1 := Lib.hid hP1
            generalize hP0 : gapP gs ++ partT ts (k : Int) (L.take j) = P0 at *
            have hP2 : gapP gs ++ P1 = P0 ++ [(yp, yb)] := by rw [hE, ← List.append_assoc, hP0]
            have HP2 := Lib.hid hP2
            have HAP := Lib.hid (show pairs P0 ++ pairs [(yp, yb)] = pairs (P0 ++ [(yp, yb)]) from pairs_app _ _)
            have hPl : P0.length ≤ 12 := by rw [← hP0, List.length_append, hng]; have := partT_len ts (k : Int) (L.take j); rw [List.length_take] at this; omega
            have b_w : w.heap.size < w4.heap.size := World.block_lt_of_cell? w4 _ v0
            have b_0 : b0 < w4.heap.size := World.block_lt_of_cell? w4 _ c2
            have v0' := cell_keep q2 v0
            have c2' := cell_keep q2 c2
            have c4' := cell_keep q2 c4
            have hlo := fun g h => (q1.at_ g h).1
            have HLO := Lib.hid hlo
            have HQ1 := Lib.hid q1
            clear hkk htk hkk2 he hE hP1 hP2 hP0 v0 c2 c4 hlo q1
            go_wp2
            refine wp_region_dep (S := Gw (blk R) w4.heap.size 2 P0.length 36 (pairs (P0 ++ [(yp, yb)]))) (C := Gc wr R c1 w4.heap.size 2 P0.length 36 (pairs P0)) (by kernel_rfl) (by kernel_rfl) rfl Gw.refl (Gc.start HQ1.out) ?_
            repeat (refine dep_det (by rfl) (fun K hK => ?_); go_simp; first
              | ((with_reducible refine hK _ ?_); clear hK K)
              | (refine ⟨_, fun w1 hw1 => ⟨Gw.refl w1, hw1, rfl⟩, hK _ ?_⟩; clear hK K)
              | (apply Exists.intro; refine ⟨fun w1 hw1 => ?_, hK _ ?_⟩
                 · have c_1 := hw1.cell HLO.out b_w v0'
                   have c_2 := hw1.cell HLO.out b_0 c2'
                   have c_3 := hw1.cell HLO.out b_0 c4'
                   go_simp
                   first | exact ⟨Gw.refl _, hw1, rfl⟩ | exact ⟨Gw.refl _, rfl⟩
                 clear hK K))
            refine dep_var (SlG 36 (pairs [(yp, yb)]) (blk R)) 60 rfl (by rfl) SlG.keep (by go_simp) (fun w1 hw1 => ?_) ?_
            · go_simp
              exact ⟨Gw.ext (Ext.alloc _ _), hw1.ext (Ext.alloc _ _), SlG.new hw1⟩
            refine dep_var1 60 (SlG 36 (pairs [(yp, yb)]) (blk R)) (GrV w4.heap.size 2 P0.length 36 (pairs (P0 ++ [(yp, yb)])) (blk R) wr.heap.size) 61 rfl (by rfl) (by intro V' h; simpa using h) (List.mem_cons_self ..) (by first | (simp; done) | simp [Act.put]) GrV.keep (fun w1 v hw1 hV => ?_) ?_
            · refine ⟨by go_simp, ?_⟩
              obtain ⟨A', c', w', hrun, p1, p2, p3⟩ := grow_run (P := Try.prog) w1 31 31 36 i0 _ 2 16 Try.underlying31 HI.out hz0 hz1 hz2 rfl (by omega) wr w4.heap.size R P0.length c1 (pairs P0) hw1 (pairs [(yp, yb)]) rfl (pairs_one _) _ HAP.out v hV (by omega) (by omega) (by have := hw1.grown.size; have := q2.size; omega)
              exact dep_append rfl hrun ⟨p1, p2, p3⟩
            refine dep_var1 61 (GrV w4.heap.size 2 P0.length 36 (pairs (P0 ++ [(yp, yb)])) (blk R) wr.heap.size) (GrV w4.heap.size 2 P0.length 36 (pairs (P0 ++ [(yp, yb)])) (blk R) wr.heap.size) 7 rfl (by rfl) (by intro V' h; simpa using h) (List.mem_cons_self ..) (by first | (simp; done) | simp [Act.put]) GrV.keep (fun w1 v hw1 hV => ?_) ?_
            · go_simp
              first | exact Gw.refl _ | exact ⟨Gw.refl _, hw1, hV⟩ | exact ⟨Gw.refl _, hV⟩
            refine dep_nil ?_
            intro a' w' hC hE
            obtain ⟨v, ⟨A1, d1, rfl, p1, p1'⟩, hE⟩ := atEnd_cons hE (by simp) (by first | (simp; done) | simp [Act.put])
            obtain ⟨v, ⟨A2, d2, rfl, p2, _⟩, hE⟩ := atEnd_cons hE (by simp) (by first | (simp; done) | simp [Act.put])
            obtain ⟨v, ⟨g3, rfl, _⟩, hE⟩ := atEnd_cons hE (by simp) (by first | (simp; done) | simp [Act.put])
            obtain rfl := atEnd_nil hE
            clear hE
            have e6 := below_grown q2 hC.grown q2.size HLO.out
            have q4' := Rd.far q4 hC.grown (fun a ha => by subst_vars; intro q; have := q5 _ q.symm; simp_all [blk])
            have q5' : ∀ g, blk A1 = some g → blk (some ⟨bs', ofs, none⟩) ≠ some g := fun g hg => by
              rcases p1' with h | ⟨hh, h1, h2⟩
              · exact q5 g (by rw [← h]; exact hg)
              · rw [h1] at hg
                injection hg with hg
                intro q
                have hbl : bs' < wr.heap.size := World.block_lt_of_cell? wr _ hcS
                simp [blk] at q
                omega
            have hsz := hC.grown.size
            clear hC
            go_wp2
            go_roundw
            case rel => exact ⟨j + 1, A1, d1, by rw [HP1.out, HP2.out]; simp, by go_num, by omega, by rw [HP1.out, HP2.out]; simpa using p1, e6, by omega, q4', q5'⟩
            case measure => simp [intOf]; omega
        · obtain rfl : L.length = j := by omega
          rw [List.take_length] at q1 ⊢
          have hf := HV.out
          rw [← hf] at q1 ⊢
          have HR := Lib.hid q1.rd
          go_wp2
          go_ret
          exact ⟨R, c1, rfl, HR.out, Ext.trans bw4 q2⟩

end Go.Proofs.Ytdninhdabeddeaa
