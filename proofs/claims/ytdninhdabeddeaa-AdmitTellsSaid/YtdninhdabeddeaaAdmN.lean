/-
  WALKS of package admit: Blocking.
-/
import Derived.Test.YtdninhdabeddeaaAdmM
namespace Go.Proofs.Ytdninhdabeddeaa
open Go.RowKit
attribute [local go_sem] depUpon Sp.ok

/-- The mutexes that some tasks use. -/
def usesOf (ts : List TK) (L : List Int) : List Int := L.flatMap fun z => match ts[z.toNat]? with
  | some y => y.us
  | none => []
theorem usesOf_snoc {ts : List TK} (L : List Int) {k : Nat} (hk : k < ts.length) : usesOf ts (L ++ [(k : Int)]) = usesOf ts L ++ ts[k].us := by
  simp [usesOf, hk]
theorem usesOf_len {ts : List TK} (h : ∀ y ∈ ts, y.us.length ≤ 6) : ∀ L : List Int, (usesOf ts L).length ≤ 6 * L.length
  | [] => by simp [usesOf]
  | z :: L => by
    have ih := usesOf_len h L
    have e : usesOf ts (z :: L) = (match ts[z.toNat]? with
      | some y => y.us
      | none => []) ++ usesOf ts L := rfl
    rw [e, List.length_append, List.length_cons]
    have : (match ts[z.toNat]? with
      | some y => y.us
      | none => []).length ≤ 6 := by
      split
      · rename_i y hy
        exact h y (List.mem_of_getElem? hy)
      · simp
    omega
/-- How long others may hold x up. -/
def blkL (ts : List TK) (x : TK) : List Int := usesOf ts (someL (cntB x) ts)
def blkV (ts : List TK) (ms : List (Int × Int)) (x : TK) : Int := if (rleast ms (blkL ts x)).2 = true then nsum [11, rsum (rleast ms (blkL ts x)).1 ms] else 11
theorem blkV_rng (ts : List TK) (ms : List (Int × Int)) (x : TK) : 0 ≤ blkV ts ms x ∧ blkV ts ms x ≤ 1099511627776 := by
  unfold blkV
  split
  · exact ⟨nsum_lo _, nsum_hi _⟩
  · omega
theorem rd_two (w : World) (a b : Int) : Rd (w.alloc (.cells #[.int .i64 a, .int .i64 b] 3)) (some ⟨w.heap.size, 0, none⟩) (ints [a, b]) := (Own.new w 3 (ints [a, b])).rd0
theorem some_in {f : TK → Bool} {ts : List TK} {j : Nat} (hj : j < (someL f ts).length) : ∃ k : Nat, (someL f ts)[j] = (k : Int) ∧ ∃ h : k < ts.length, f ts[k] = true := by
  obtain ⟨k, e, _, h⟩ := someT_mem f ts _ ts.length (List.getElem_mem hj)
  exact ⟨k, e, h⟩

set_option maxRecDepth 100000 in
set_option maxHeartbeats 1000000 in
theorem a_block_no (A : Option Addr) (nt ct : Nat) (ts : List TK) (B : Option Addr) (nb cb : Nat) (bs : List EF) (M : Option Addr) (nm cm : Nat) (ms : List (Int × Int)) (G : Option Addr) (ng cg : Nat) (gs : List Int) (fr dog : Int) (i : Int) (w : World) (h : ConfArg w A nt ts B nb bs M nm ms G ng gs fr dog) (hno : ¬ (0 ≤ i ∧ i < (nt : Int) ∧ mayC nt nb nm ng ts bs ms gs fr dog = true)) (h12 : nm ≤ 65536) :
    Calls Try.prog 12 #[.agg #[.slice A nt ct, .slice B nb cb, .slice M nm cm, .slice G ng cg, .int .i64 fr, .int .i64 dog], .int .i64 i] w fun e w' => e = .returned (.int .i64 0) ∧ Below w.heap.size w w' := by
  have HT := Lib.hid (fun w' (h' : Ext w w') => a_task_no A nt ct ts B nb cb bs M nm cm ms G ng cg gs fr dog i w' (h.keep h') hno h12)
  have oV := Own.new w 27 [.slice A nt ct, .slice B nb cb, .slice M nm cm, .slice G ng cg, .int .i64 fr, .int .i64 dog]
  have bV : Ext w (w.alloc (.cells #[.slice A nt ct, .slice B nb cb, .slice M nm cm, .slice G ng cg, .int .i64 fr, .int .i64 dog] 27)) := Ext.alloc _ _
  clear h hno h12
  go_enter Try.func12, Try.ntmps12
  go_wp2_with (refine wpl_load_own _ rfl 27 _ rfl (by kernel_rfl) 6 size_conf _ rfl _ _ oV rfl ?_)
  refine (HT.out _ bV).mono ?_
  rintro e w3 ⟨rfl, b3⟩
  replace bV := Ext.trans bV b3
  go_wp2_with (first
    | (refine wpl_alloc_own _ rfl 47 rfl ztk zero_task ?_; intro w2 o2 b2 s2; clear s2)
    | (refine wpl_store_own _ rfl 47 _ _ rfl 8 size_task _ rfl [.int .i64 0, .int .i64 0, .int .i64 0, .int .i64 0, .int .i64 0, .int .i64 0, .slice none 0 0, .slice none 0 0] rfl _ _ o2 rfl rfl (by simp [Value.oneCell']) ?_; intro w4 o4 g4 s4; clear s4))
  go_ret
  exact ⟨rfl, below_of_grown (Ext.trans bV b2) g4 bV.size (Ext.trans bV b2).size⟩

set_option maxRecDepth 100000 in
set_option maxHeartbeats 4000000 in
theorem a_block_yes (A : Option Addr) (nt ct : Nat) (ts : List TK) (B : Option Addr) (nb cb : Nat) (bs : List EF) (M : Option Addr) (nm cm : Nat) (ms : List (Int × Int)) (G : Option Addr) (ng cg : Nat) (gs : List Int) (fr dog : Int) (k : Nat) (x : TK) (w : World) (h : ConfArg w A nt ts B nb bs M nm ms G ng gs fr dog) (hk : k < ts.length) (hx : ts[k] = x) (hm : mayC nt nb nm ng ts bs ms gs fr dog = true) (h12 : nm ≤ 65536) :
    Calls Try.prog 12 #[.agg #[.slice A nt ct, .slice B nb cb, .slice M nm cm, .slice G ng cg, .int .i64 fr, .int .i64 dog], .int .i64 (k : Int)] w fun e w' => e = .returned (.int .i64 (blkV ts ms x)) ∧ Below w.heap.size w w' := by
  obtain ⟨n8, _, _, hok, hmt, _, _⟩ := may_conf hm
  have hun : ∀ y ∈ ts, y.us.length ≤ 6 := fun y hy => by
    obtain ⟨j, hj, rfl⟩ := List.getElem_of_mem hy
    rw [(h.tasks.ok _ (List.getElem_mem hj)).us.len]
    exact mayT_un (may_task hmt hj (by have := h.tasks.len; omega))
  have HT := Lib.hid (fun w' (h' : Ext w w') => a_task_yes A nt ct ts B nb cb bs M nm cm ms G ng cg gs fr dog k x w' (h.keep h') hk hx hm h12)
  have HS := Lib.hid (fun w' (h' : Ext w w') => a_some_blocks A nt ct ts B nb cb bs M nm cm ms G ng cg gs fr dog x w' (h.keep h') (by omega))
  have HN := Lib.hid (fun w' (h' : Ext w w') => t_new M nm cm ms w' h12 (h.mtx.rd.keep h') h.mtx.len hok)
  have HC := Lib.hid h.tasks
  have HB := Lib.hid (show blkV ts ms x = if (rleast ms (usesOf ts (someL (cntB x) ts))).2 = true then nsum [11, rsum (rleast ms (usesOf ts (someL (cntB x) ts))).1 ms] else 11 from rfl)
  have hTL := h.tasks.len
  have HOK := Lib.hid h.tasks.ok
  have HSI := Lib.hid (fun j hj => some_in (f := cntB x) (ts := ts) (j := j) hj)
  have hLn : (someL (cntB x) ts).length ≤ 8 := by
    have := someT_len (cntB x) ts ts.length
    have := h.tasks.len
    unfold someL
    omega
  have HUL := Lib.hid (fun L => usesOf_len hun L)
  have oV := Own.new w 27 [.slice A nt ct, .slice B nb cb, .slice M nm cm, .slice G ng cg, .int .i64 fr, .int .i64 dog]
  have bV : Ext w (w.alloc (.cells #[.slice A nt ct, .slice B nb cb, .slice M nm cm, .slice G ng cg, .int .i64 fr, .int .i64 dog] 27)) := Ext.alloc _ _
  obtain ⟨i0, hi, hz0, hz1, hz2⟩ := info_parts info_int
  have HI := Lib.hid hi
  have hmf : ∀ (fn : Fn) (first cap : Array Value) (w : World), (Instr.makeFunc fn first cap).run Try.prog w = .ok (.func fn first cap) w := fun _ _ _ _ => rfl
  clear h hm h12 hx hk hun hok hmt hi n8
  go_enter Try.func12, Try.ntmps12
  go_wp2_with (refine wpl_load_own _ rfl 27 _ rfl (by kernel_rfl) 6 size_conf _ rfl _ _ oV rfl ?_)
  refine (HT.out _ bV).mono ?_
  rintro e w3 ⟨rfl, b3⟩
  replace bV := Ext.trans bV b3
  replace oV := oV.keep b3
  go_wp2_with (first
    | (refine wpl_alloc_own _ rfl 47 rfl ztk zero_task ?_; intro w2 o2 b2 s2; clear s2)
    | (refine wpl_store_own _ rfl 47 _ _ rfl 8 size_task _ rfl [.int .i64 x.cls, .int .i64 x.lvl, .int .i64 x.per, .int .i64 x.ddl, .int .i64 x.bud, .int .i64 x.line, .slice x.U x.un x.uc, .slice x.O x.on x.oc] rfl _ _ o2 rfl rfl (TK.one x) ?_; intro w4 o4 g4 s4; clear s4; have e4 := below_of_grown b2 g4 (Nat.le_refl _) b2.size; have oV4 := oV.keep e4)
    | (refine wpl_load_own _ rfl 27 _ rfl (by kernel_rfl) 6 size_conf _ rfl _ _ oV4 rfl ?_)
    | (refine wpl_load_own _ rfl 47 _ rfl (by kernel_rfl) 8 size_task _ rfl _ _ o4 rfl ?_))
  refine (HS.out _ (Ext.trans bV e4)).mono ?_
  rintro e w5 ⟨S, c', rfl, rS, b5⟩
  have e5 := Ext.trans (Ext.trans bV e4) b5
  have rL := rS.rd
  have oV5 := oV4.keep b5
  clear rS oV oV4 b5 e4 g4 o4 o2 b2 b3 bV
  generalize someL (cntB x) ts = L at *
  go_wp2
  go_loopw [7, 28] (fun v q wr => ∃ (j : Nat) (R : Option Addr) (c1 : Nat), v = .slice R (usesOf ts (L.take j)).length c1 ∧ q = .int .i64 j ∧ j ≤ L.length ∧ Row wr w5.heap.size 3 1 R (usesOf ts (L.take j)).length c1 (ints (usesOf ts (L.take j))) ∧ Ext w5 wr) (fun _ q _ => L.length - (intOf q).toNat)
  case atStart => exact ⟨0, none, 0, rfl, rfl, by omega, Row.nil _ _ _ _, Ext.refl _⟩
  case round =>
    obtain ⟨j, R, c1, rfl, rfl, hj, q1, q2⟩ := hrel
    by_cases hlt : j < L.length
    · obtain ⟨bs', ofs, rfl, hcS⟩ := (rL.keep q2).int hlt
      obtain ⟨kk, hkk, hkl, _⟩ := HSI.out j hlt
      have hy := HOK.out _ (List.getElem_mem hkl)
      have hsn := usesOf_snoc (ts := ts) (L.take j) hkl
      have htk := take_succ' L j hlt
      rw [hkk] at hcS htk
      rw [← htk] at hsn
      have hl1 := HUL.out (L.take (j + 1))
      rw [List.length_take] at hl1
      have v0 : wr.cell? ⟨w.heap.size, 0, none⟩ = some (.slice A nt ct) := (oV5.keep q2).cell 0
      obtain ⟨b0, off, rfl, he⟩ := flat_at (k := 8) (HC.out.keep (Ext.trans e5 q2)).rd (fun _ _ => rfl) (by omega) hkl
      have c6 := he 6 _ rfl
      have hyr := hy.us.rd.keep (Ext.trans e5 q2)
      have hyl := hy.us.len
      have hkn : kk < nt := by omega
      have i0' : (0 : Int) ≤ (kk : Int) := by omega
      have i1' : (kk : Int) < (nt : Int) := by omega
      have j0' : (0 : Int) ≤ (j : Int) := by omega
      clear he hy hkk htk
      generalize ts[kk].us = us at *
      generalize ts[kk].U = U at *
      generalize ts[kk].un = un at *
      generalize ts[kk].uc = uc at *
      generalize hU1 : usesOf ts (L.take (j + 1)) = U1 at *
      generalize usesOf ts (L.take j) = U0 at *
      have HU1 := Lib.hid hU1
      have HSN := Lib.hid hsn.symm
      have hlen : U0.length + un = U1.length := by rw [hsn, List.length_append, hyl]
      have HLEN := Lib.hid hlen
      have HUN := Lib.hid (show (ints us).length = un * 1 by simp [ints, hyl])
      have HAP := Lib.hid (show ints U0 ++ ints us = ints U1 by rw [hsn]; exact ints_app' _ _)
      have hb48 : U1.length ≤ 48 := by omega
      clear hU1 hsn hlen hyl hl1
      go_wp2_with (at_builtin; refine wpl_append _ rfl (.tmp 32) (.tmp 38) 25 rfl 3 i0 _ 1 8 Try.underlying25 HI.out hz0 hz1 hz2 rfl (by omega) w5.heap.size R U0.length c1 _ rfl q1 U un uc (ints us) rfl HUN.out hyr (ints_one _) U1.length _ HLEN.out HAP.out (by omega) (by omega) q2.size ?_; intro A2 c2 w6 o6 g6 k6)
      have e6 := below_grown q2 g6 q2.size (fun g' hg' => (q1.at_ g' hg').1)
      go_roundw
      case rel => exact ⟨j + 1, A2, c2, by rw [HU1.out], by go_num, by omega, by rw [HU1.out]; exact o6, e6⟩
      case measure => simp [intOf]; omega
    · obtain rfl : L.length = j := by omega
      rw [List.take_length] at q1 ⊢
      have hl1 := HUL.out L
      generalize usesOf ts L = U at *
      have e7 := Ext.trans e5 q2
      have v2 : wr.cell? ⟨w.heap.size, 2, none⟩ = some (.slice M nm cm) := (oV5.keep q2).cell 2
      have rU := q1.rd
      clear rL oV5 q1 q2 e5
      go_wp2_with fail
      refine (HN.out _ e7).mono ?_
      rintro e w8 ⟨g, rfl, hT, b8⟩
      have rU8 := rU.keep b8
      have e8 := Ext.trans e7 b8
      have HTB := Lib.hid hT
      have HRU := Lib.hid rU8
      have hLe := fun w' (h' : Ext w8 w') => t_least (.pointer (some ⟨g, 0, none⟩)) ms R U.length c1 U w' (HTB.out.keep h') (by omega) (HRU.out.keep h') rfl
      generalize rleast ms U = rl at *
      obtain ⟨r, b⟩ := rl
      have HLE := Lib.hid hLe
      clear hLe rU rU8 hT v2
      cases b
      · go_wp2_with ((with_reducible go_at_call 36); (with_reducible refine (HLE.out _ (Ext.refl _)).mono ?_); rintro e w9 ⟨rfl, b9⟩)
        go_ret
        exact ⟨by rw [HB.out]; rfl, Ext.trans e8 b9⟩
      · have HSM := Lib.hid (fun w' (h' : Ext w8 w') => t_sum (.pointer (some ⟨g, 0, none⟩)) ms r w' (HTB.out.keep h'))
        generalize hrs : rsum r ms = rs at *
        have HRS := Lib.hid hrs
        clear hrs
        go_wp2_with (first | ((with_reducible go_at_call 36); (with_reducible refine (HLE.out _ (Ext.refl _)).mono ?_); rintro e w9 ⟨rfl, b9⟩) | ((with_reducible go_at_call 38); (with_reducible refine (HSM.out _ b9).mono ?_); rintro e w10 ⟨rfl, b10⟩) | ((with_reducible go_at_call 37); (with_reducible refine (num_add _ 2 _ [11, rs] _ (by omega) (rd_two _ _ _) rfl).mono ?_); rintro e w' ⟨rfl, rfl⟩))
        go_ret
        have hb : blkV ts ms x = nsum [11, rs] := by rw [HB.out, ← HRS.out]; rfl
        exact ⟨by rw [hb]; rfl, Ext.trans (Ext.trans (Ext.trans e8 b9) b10) (Ext.alloc _ _)⟩

end Go.Proofs.Ytdninhdabeddeaa
