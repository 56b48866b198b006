/-
  WALKS of package proc: Exit, Child.
-/
import Derived.Test.YtdgggdhligfnpaaPrcC
namespace Go.Proofs.Ytdgggdhligfnpaa
open Go.RowKit Go.Maps
attribute [local go_sem] depUpon Sp.ok

theorem pins_len (x : PR) : ∀ L : List PR, (pins x L).length = L.length + 1
  | [] => rfl
  | y :: r => by
    unfold pins
    split
    · rfl
    · simp [pins_len x r]
theorem pdel_len (L : List PR) (k : Int) : (pdel L k).length ≤ L.length := List.length_filter_le _ _
theorem pput_len (L : List PR) (x : PR) : (pput L x).length ≤ L.length + 1 := by
  unfold pput
  rw [pins_len]
  have := pdel_len L x.pid
  omega
theorem leaveL_len (L : List PR) (k : Int) : (leaveL L k).length ≤ L.length + 1 := by
  unfold leaveL
  split
  · have h1 := pdel_len (pput L ⟨k, -1, oCode (pget L k), oDead (pget L k)⟩) k
    have h2 := pput_len L ⟨k, -1, oCode (pget L k), oDead (pget L k)⟩
    omega
  · exact pput_len _ _
/-- What is left behind when some processes are left. -/
def leaves (L : List PR) (ks : List Int) : List PR := ks.foldl leaveL L
theorem leaves_snoc (L : List PR) (ks : List Int) (k : Int) : leaves L (ks ++ [k]) = leaveL (leaves L ks) k := by simp [leaves]
theorem leaves_len (L : List PR) : ∀ (n : Nat) (ks : List Int), ks.length = n → (leaves L ks).length ≤ L.length + n
  | 0, ks, h => by
    have : ks = [] := List.eq_nil_of_length_eq_zero h
    subst this; simp [leaves]
  | n + 1, ks, h => by
    rcases List.eq_nil_or_concat ks with rfl | ⟨l, x, rfl⟩
    · simp at h
    · rw [List.concat_eq_append] at h ⊢
      rw [leaves_snoc]
      have ih := leaves_len L n l (by simpa using h)
      have := leaveL_len (leaves L l) x
      omega
def exitE (L : List PR) (k code : Int) : Int := if aliveB L k = false then 4 else if code < 0 ∨ 255 < code then 19 else 0
def exitM (L1 : List PR) (k code : Int) : List PR := if oPar (pget L1 k) = -1 then leaveL (pput L1 ⟨k, oPar (pget L1 k), code, true⟩) k else pput L1 ⟨k, oPar (pget L1 k), code, true⟩
def exitL (L : List PR) (k code : Int) : List PR := if exitE L k code = 0 then exitM (leaves L (kidsA L k)) k code else L
theorem kids_wf {L : List PR} (h : ∀ r ∈ L, I64 r.pid) (k : Int) : ∀ z ∈ kidsA L k, I64 z := by
  intro z hz
  unfold kidsA kids at hz
  split at hz
  · obtain ⟨r, hr, rfl⟩ := List.mem_map.1 hz
    exact h r (List.mem_filter.1 hr).1
  · cases hz

set_option maxRecDepth 100000 in
set_option maxHeartbeats 8000000 in
theorem p_exit (g gm : Nat) (L : List PR) (k code : Int) (w : World) (h : PS w g gm L) (hk : I64 k) (hn : L.length ≤ 30000) :
    Calls Try.prog 10 #[.pointer (some ⟨g, 0, none⟩), .int .i64 k, .int .i64 code] w fun e w' => e = .returned (.int .i64 (exitE L k code)) ∧ PT w w' g gm (exitL L k code) := by
  have HAL := Lib.hid (p_alive g gm L k w h hk)
  have HQ := Lib.hid (show exitE L k code = if aliveB L k = false then 4 else if code < 0 ∨ 255 < code then 19 else 0 from rfl)
  have HL := Lib.hid (show exitL L k code = if exitE L k code = 0 then exitM (leaves L (kidsA L k)) k code else L from rfl)
  have HKD := Lib.hid (fun w' (h' : Ext w w') => p_children g gm L k w' (h.keep h') hk (by omega))
  have hmf : ∀ (fn : Fn) (first cap : Array Value) (w : World), (Instr.makeFunc fn first cap).run Try.prog w = .ok (.func fn first cap) w := fun _ _ _ _ => rfl
  have HKW := Lib.hid (kids_wf h.wf k)
  have HK := Lib.hid hk
  have hkl : (kidsA L k).length ≤ L.length := by
    unfold kidsA
    split
    · exact kids_len L k
    · simp
  have HH := Lib.hid h
  have hmlt := h.map.lt
  have hglt := (Own.lt h.own)
  have HLV := Lib.hid (fun (L' : List PR) (z : Int) w' (h' : PS w' g gm L') (hz : I64 z) (hl : L'.length ≤ 65536) => p_leave g gm L' z w' h' hz hl)
  cases hal : aliveB L k
  · rw [hal] at HAL
    have HE := Lib.hid (show exitE L k code = 4 by rw [HQ.out, if_pos hal])
    have HL2 := Lib.hid (by rw [HL.out, HE.out]; rfl : exitL L k code = L)
    clear h hal hk
    go_enter Try.func10, Try.ntmps10
    go_wp2_with ((with_reducible go_at_call 20); (with_reducible refine (HAL.out).mono ?_); rintro e w1 ⟨rfl, b1⟩)
    go_ret
    exact ⟨by rw [HE.out]; rfl, by rw [HL2.out]; exact PT.of HH.out b1⟩
  have he : exitE L k code = if code < 0 ∨ 255 < code then 19 else 0 := by rw [HQ.out, if_neg (by rw [hal]; simp)]
  rw [hal] at HAL
  clear h hal hk
  by_cases hc0 : code < 0
  · have HE := Lib.hid (show exitE L k code = 19 by rw [he, if_pos (.inl hc0)])
    have HL2 := Lib.hid (by rw [HL.out, HE.out]; rfl : exitL L k code = L)
    clear he
    go_enter Try.func10, Try.ntmps10
    go_wp2_with ((with_reducible go_at_call 20); (with_reducible refine (HAL.out).mono ?_); rintro e w1 ⟨rfl, b1⟩)
    go_ret
    exact ⟨by rw [HE.out]; rfl, by rw [HL2.out]; exact PT.of HH.out b1⟩
  by_cases hc1 : 255 < code
  · have HE := Lib.hid (show exitE L k code = 19 by rw [he, if_pos (.inr hc1)])
    have HL2 := Lib.hid (by rw [HL.out, HE.out]; rfl : exitL L k code = L)
    clear he
    go_enter Try.func10, Try.ntmps10
    go_wp2_with ((with_reducible go_at_call 20); (with_reducible refine (HAL.out).mono ?_); rintro e w1 ⟨rfl, b1⟩)
    go_ret
    exact ⟨by rw [HE.out]; rfl, by rw [HL2.out]; exact PT.of HH.out b1⟩
  have HE := Lib.hid (show exitE L k code = 0 by rw [he, if_neg (by omega)])
  have HL2 := Lib.hid (by rw [HL.out, HE.out]; rfl : exitL L k code = exitM (leaves L (kidsA L k)) k code)
  generalize kidsA L k = K at *
  clear he HL HQ
  go_enter Try.func10, Try.ntmps10
  go_wp2_with ((with_reducible go_at_call 20); (with_reducible refine (HAL.out).mono ?_); rintro e w1 ⟨rfl, b1⟩)
  refine (HKD.out _ b1).mono ?_
  rintro e w2 ⟨S, c', rfl, rS, b2⟩
  have e2 := Ext.trans b1 b2
  have hP2 := HH.out.keep e2
  have hSne : blk S = none ∨ blk S ≠ some gm := .inr fun q => by have h1 := (rS.at_ _ q).1; have := b1.size; omega
  clear b2 HKD HAL
  go_wp2
  go_loopw [32] (fun q wr => ∃ j : Nat, j ≤ K.length ∧ q = .int .i64 j ∧ PS wr g gm (leaves L (K.take j)) ∧ w2.grownBy wr (some gm)) (fun q _ => K.length - (intOf q).toNat)
  case atStart => exact ⟨0, by omega, rfl, hP2, World.grownBy.refl _ _⟩
  case round =>
    obtain ⟨j, hj, rfl, hP, hg⟩ := hrel
    have hlj := leaves_len L j (K.take j) (by rw [List.length_take]; omega)
    by_cases hlt : j < K.length
    · obtain ⟨bs, os, rfl, hcS⟩ := (rS.grown hg hSne).rd.int hlt
      have hzw := HKW.out _ (List.getElem_mem hlt)
      have hsn := leaves_snoc L (K.take j) K[j]
      rw [← take_succ' K j hlt] at hsn
      have hlv := HLV.out (leaves L (K.take j)) K[j] wr hP hzw (by omega)
      generalize K[j] = z at *
      rw [← hsn] at hlv
      have HLE := Lib.hid hlv
      have j0' : (0 : Int) ≤ (j : Int) := by omega
      have j1' : (j : Int) < (K.length : Int) := by omega
      clear hlv hsn
      go_wp2_with ((with_reducible go_at_call 25); (with_reducible refine HLE.out.mono ?_); rintro e w3 ⟨rfl, p3⟩)
      go_roundw
      case rel => exact ⟨j + 1, by omega, by go_num, p3.st, World.grownBy.trans hg p3.grown⟩
      case measure => simp [intOf]; omega
    · obtain rfl : K.length = j := by omega
      rw [List.take_length] at hP hlj
      have HM := Lib.hid (show exitM (leaves L K) k code = if oPar (pget (leaves L K) k) = -1 then leaveL (pput (leaves L K) ⟨k, oPar (pget (leaves L K) k), code, true⟩) k else pput (leaves L K) ⟨k, oPar (pget (leaves L K) k), code, true⟩ from rfl)
      generalize leaves L K = L1 at *
      have hrun := hP.look HK.out
      have hc := hP.cell
      generalize oPar (pget L1 k) = a at *
      generalize oCode (pget L1 k) = c at *
      generalize oDead (pget L1 k) = d at *
      have hml := hP.map.lt
      have hgw : w.grownBy wr (some gm) := World.grownBy.trans ⟨e2.os, e2.tape, e2.output, e2.size, fun i hi _ => e2.block i hi⟩ hg
      have HP := Lib.hid hP
      clear rS hP hP2 e2 b1 hg
      go_wp2_with (first | (refine wpl_alloc_own _ rfl 56 rfl (pval 0 0 false) zero_proc ?_; intro w2 o2 b2 s2; clear s2) | (refine wpl_store_own _ rfl 56 _ _ rfl 3 size_proc _ rfl [.int .i64 a, .int .i64 c, .bool d] rfl _ _ o2 rfl rfl (by simp [Value.oneCell']) ?_; intro w3 o3 g3 s3; clear s3; have b3 := below_of_grown b2 g3 (Nat.le_refl _) b2.size; have x0 := o3.cell 0; have x1 := o3.cell 1; have x2 := o3.cell 2; simp only [List.getElem?_cons_zero, List.getElem?_cons_succ] at x0 x1 x2; have f1 := o3.frozen 1; have f2 := o3.frozen 2))
      have oN : Own ((w3.setCell ⟨wr.heap.size, 2, none⟩ (.bool true)).setCell ⟨wr.heap.size, 1, none⟩ (.int .i64 code)) wr.heap.size 56 [.int .i64 a, .int .i64 code, .bool true] := (o3.set 2 (.bool true)).set 1 (.int .i64 code)
      have bN : Ext wr ((w3.setCell ⟨wr.heap.size, 2, none⟩ (.bool true)).setCell ⟨wr.heap.size, 1, none⟩ (.int .i64 code)) := (b3.setCell (p := ⟨wr.heap.size, 2, none⟩) (Nat.le_refl _) _).setCell (p := ⟨wr.heap.size, 1, none⟩) (Nat.le_refl _) _
      clear x0 x1 x2 f1 f2 o3 o2 g3 b2 b3
      generalize (w3.setCell ⟨wr.heap.size, 2, none⟩ (.bool true)).setCell ⟨wr.heap.size, 1, none⟩ (.int .i64 code) = w4 at *
      have hP4 := HP.out.keep bN
      have hc4 := hP4.cell
      have HN := Lib.hid oN
      refine wp_region_dep_tail 6 (S := Ext) (C := Ext (w4)) (by kernel_rfl) (by kernel_rfl) rfl Ext.refl (Ext.drew _) ?_
      simp only [List.take_succ_cons, List.take_zero]
      repeat (refine dep_det (by rfl) (fun K hK => ?_); go_simp; first
        | ((with_reducible refine hK _ ?_); clear hK K)
        | (rw [if_neg (by decide)]; (with_reducible refine hK _ ?_); clear hK K)
        | (refine ⟨_, fun w1 hw1 => ⟨Ext.refl w1, hw1, rfl⟩, hK _ ?_⟩; clear hK K)
        | (apply Exists.intro; refine ⟨fun w1 hw1 => ?_, hK _ ?_⟩
           first
             | (have c_hc4 := cell_keep hw1 hc4; go_simp; first | exact ⟨Ext.refl _, hw1, rfl⟩ | exact ⟨Ext.refl _, rfl⟩)
           clear hK K))
      refine dep_load_rd' (by rfl) 56 _ rfl (by kernel_rfl) 3 size_proc wr.heap.size 0 (by rfl) [.int .i64 a, .int .i64 code, .bool true] rfl (by go_simp) Ext.refl (fun w1 hw1 j v hv => by rw [Nat.zero_add, (HN.out.keep hw1).cell j]; exact hv) ?_
      refine dep_nil ?_
      intro a' w' hC hE
      obtain rfl := atEnd_nil hE
      clear hE
      simp only [List.drop_succ_cons, List.drop_zero]
      have hP5 := hP4.keep hC
      have oX := oN.keep hC
      have b5 := Ext.trans bN hC
      have hgx : wr.grownBy w' (some gm) := ⟨b5.os, b5.tape, b5.output, b5.size, fun i hi _ => b5.block i hi⟩
      clear hc4 hP4 oN HN hc
      by_cases ha : a = -1
      · have ta : (a == -1) = true := by simp [ha]
        have HL3 := Lib.hid (show exitL L k code = leaveL (pput L1 ⟨k, a, code, true⟩) k by rw [HL2.out, HM.out, if_pos ha])
        clear ha
        go_wp2_with (first
          | (at_mapUpdate; refine wpList_mapUpdate_own _ rfl _ _ _ 52 rfl 3 56 keyed_int' Try.underlying52 prd gm L1.length (dmap L1) rfl hP5.map (by unfold maxLen; omega) (.int .i64 k) (pval a code true) (.int .i64 k) rfl rfl (keyOf_int_mk Try.underlying3 (wf_i64' HK.out)) (penc a code true) [] rfl ?_; intro w4' m4 g4; have hPS := hP5.put ⟨k, a, code, true⟩ HK.out m4 g4; have oY := oX.grown g4 (fun q => by injection q with q; omega); have y0 : w4'.cell? ⟨wr.heap.size, 0, none⟩ = some (.int .i64 a) := oY.cell 0)
          | ((with_reducible go_at_call 25); (with_reducible refine (HLV.out _ k _ hPS HK.out (by have := pput_len L1 ⟨k, a, code, true⟩; omega)).mono ?_); rintro e w8 ⟨rfl, p8⟩))
        go_ret
        exact ⟨by rw [HE.out]; rfl, by rw [HL3.out]; exact ⟨p8.st, World.grownBy.trans (World.grownBy.trans (World.grownBy.trans hgw hgx) g4) p8.grown⟩⟩
      · have ta : (a == -1) = false := by simp [ha]
        have HL3 := Lib.hid (show exitL L k code = pput L1 ⟨k, a, code, true⟩ by rw [HL2.out, HM.out, if_neg ha])
        clear ha
        go_wp2_with (at_mapUpdate; refine wpList_mapUpdate_own _ rfl _ _ _ 52 rfl 3 56 keyed_int' Try.underlying52 prd gm L1.length (dmap L1) rfl hP5.map (by unfold maxLen; omega) (.int .i64 k) (pval a code true) (.int .i64 k) rfl rfl (keyOf_int_mk Try.underlying3 (wf_i64' HK.out)) (penc a code true) [] rfl ?_; intro w4' m4 g4; have hPS := hP5.put ⟨k, a, code, true⟩ HK.out m4 g4; have oY := oX.grown g4 (fun q => by injection q with q; omega); have y0 : w4'.cell? ⟨wr.heap.size, 0, none⟩ = some (.int .i64 a) := oY.cell 0)
        go_ret
        exact ⟨by rw [HE.out]; rfl, by rw [HL3.out]; exact ⟨hPS, World.grownBy.trans (World.grownBy.trans hgw hgx) g4⟩⟩
theorem p_exit_nil (k code : Int) (w : World) : Calls Try.prog 10 #[.pointer none, .int .i64 k, .int .i64 code] w fun e w' => e = .returned (.int .i64 1) ∧ w = w' := by
  go_enter Try.func10, Try.ntmps10
  go_wp2
  go_ret
  exact ⟨rfl, rfl⟩

theorem child_fn (gb g gm : Nat) (L : List PR) (z : Int) (w : World) (h : PS w g gm L) (hc : w.cell? ⟨gb, 0, none⟩ = some (.pointer (some ⟨g, 0, none⟩))) (hz : I64 z) :
    Calls Try.prog 27 #[.int .i64 z, .pointer (some ⟨gb, 0, none⟩)] w fun e w' => e = .returned (.bool (oDead (pget L z))) ∧ w = w' := by
  have hrun := h.look hz
  have hcg := h.cell
  generalize oPar (pget L z) = a at *
  generalize oCode (pget L z) = c at *
  generalize oDead (pget L z) = d at *
  have hf := field_p2 a c d
  clear h hz
  go_enter Try.func27, Try.ntmps27
  go_wp2
  go_ret
  exact ⟨rfl, rfl⟩

def IdxD (L : List PR) (ks : List Int) (w : World) (e : Ending) (w' : World) : Prop := ∃ i : Int, e = .returned (.int .i64 i) ∧ Below w.heap.size w w' ∧ ((i = -1 ∧ ks.find? (fun z => oDead (pget L z)) = none) ∨ ∃ (k : Nat) (hk : k < ks.length), i = (k : Int) ∧ ks.find? (fun z => oDead (pget L z)) = some ks[k])
theorem find_take_yes {f : Int → Bool} {ks : List Int} {k : Nat} (hk : k < ks.length) (h : (ks.take k).find? f = none) (hf : f ks[k] = true) : ks.find? f = some ks[k] := by
  conv => lhs; rw [← List.take_append_drop k ks]
  rw [List.find?_append, h, List.drop_eq_getElem_cons hk, List.find?_cons_of_pos hf]
  rfl
set_option maxRecDepth 100000 in
set_option maxHeartbeats 1000000 in
theorem child_index (gb g gm : Nat) (L : List PR) (A : Option Addr) (n c : Nat) (hs : List Int) (w : World) (h : PS w g gm L) (hc : w.cell? ⟨gb, 0, none⟩ = some (.pointer (some ⟨g, 0, none⟩))) (hw : ∀ z ∈ hs, I64 z) (hn : n ≤ 65536) (hr : Rd w A (ints hs)) (hl : hs.length = n) :
    Calls Try.prog 26 #[.slice A n c, .func (.func 27) #[] #[.pointer (some ⟨gb, 0, none⟩)]] w (IdxD L hs w) := by
  subst hl
  have HC := Lib.hid hc
  have HP := Lib.hid h
  have HW := Lib.hid hw
  clear hc h hw
  go_enter Try.func26, Try.ntmps26
  go_wp2
  go_loopw [8] (fun i wr => ∃ k : Nat, k ≤ hs.length ∧ i = .int .i64 k ∧ Hid ((hs.take k).find? (fun z => oDead (pget L z)) = none) ∧ Below w.heap.size w wr) (fun i _ => hs.length - (intOf i).toNat)
  case atStart => exact ⟨0, Nat.zero_le _, rfl, Lib.hid rfl, Below.refl _ _⟩
  case round =>
    obtain ⟨k, hk, rfl, HA, hb⟩ := hrel
    by_cases hlt : k < hs.length
    · obtain ⟨b, off, rfl, h1⟩ := (hr.keep hb).int hlt
      have c1 := child_fn gb g gm L hs[k] wr (HP.out.keep hb) (cell_keep hb HC.out) (HW.out _ (List.getElem_mem hlt))
      have hyes := fun h => find_take_yes hlt HA.out h
      have hno : oDead (pget L hs[k]) = false → (hs.take (k + 1)).find? (fun z => oDead (pget L z)) = none := fun h => by
        rw [take_succ' hs k hlt, List.find?_append, HA.out]
        simp [h]
      generalize hxx : hs[k] = x at *
      have HX := Lib.hid hxx
      clear hxx
      cases hg : oDead (pget L x)
      · have HE := Lib.hid (hno hg)
        rw [hg] at c1
        have C1 := Lib.hid c1
        clear c1 hg hyes hno
        go_wp2_with ((with_reducible go_at_call 27); (with_reducible refine (C1.out).mono ?_); rintro e w' ⟨rfl, rfl⟩)
        go_roundw
        case rel => exact ⟨k + 1, by omega, by go_num, HE, hb⟩
        case measure => simp [intOf]; omega
      · have HE := Lib.hid (hyes hg)
        rw [hg] at c1
        have C1 := Lib.hid c1
        clear c1 hg hyes hno
        go_wp2_with ((with_reducible go_at_call 27); (with_reducible refine (C1.out).mono ?_); rintro e w' ⟨rfl, rfl⟩)
        go_ret
        exact ⟨k, rfl, hb, .inr ⟨k, hlt, rfl, by rw [HX.out]; exact HE.out⟩⟩
    · go_wp2
      go_ret
      exact ⟨-1, rfl, hb, .inl ⟨rfl, by have := HA.out; rwa [List.take_of_length_le (by omega)] at this⟩⟩

def childZ (L : List PR) (k : Int) : Option Int := (kidsA L k).find? fun z => oDead (pget L z)
def childE (L : List PR) (k : Int) : Int := if aliveB L k = false then 4 else if (kidsA L k).length = 0 then 18 else 17
def childR (L : List PR) (k : Int) : Int × Int × Int := match childZ L k with
  | some z => (z, oCode (pget L z), 0)
  | none => (0, 0, childE L k)
def childL (L : List PR) (k : Int) : List PR := match childZ L k with
  | some z => pdel L z
  | none => L

set_option maxRecDepth 100000 in
set_option maxHeartbeats 8000000 in
theorem p_child (g gm : Nat) (L : List PR) (k : Int) (w : World) (h : PS w g gm L) (hk : I64 k) (hn : L.length ≤ 30000) :
    Calls Try.prog 11 #[.pointer (some ⟨g, 0, none⟩), .int .i64 k] w fun e w' => e = .returned (.tuple #[.int .i64 (childR L k).1, .int .i64 (childR L k).2.1, .int .i64 (childR L k).2.2]) ∧ PT w w' g gm (childL L k) := by
  have bB : Ext w (w.alloc (.cells #[.pointer (some ⟨g, 0, none⟩)] 23)) := Ext.alloc _ _
  have oB := Own.new w 23 [.pointer (some ⟨g, 0, none⟩)]
  have HAL := Lib.hid (p_alive g gm L k _ (h.keep bB) hk)
  have HKD := Lib.hid (fun w' (h' : Ext w w') => p_children g gm L k w' (h.keep h') hk (by omega))
  have hmf : ∀ (fn : Fn) (first cap : Array Value) (w : World), (Instr.makeFunc fn first cap).run Try.prog w = .ok (.func fn first cap) w := fun _ _ _ _ => rfl
  have HKW := Lib.hid (kids_wf h.wf k)
  have HH := Lib.hid h
  have hR : childR L k = match childZ L k with
    | some z => (z, oCode (pget L z), 0)
    | none => (0, 0, childE L k) := rfl
  have hL : childL L k = match childZ L k with
    | some z => pdel L z
    | none => L := rfl
  have hZ : childZ L k = (kidsA L k).find? fun z => oDead (pget L z) := rfl
  have hkl : (kidsA L k).length ≤ L.length := by
    unfold kidsA
    split
    · exact kids_len L k
    · simp
  cases hal : aliveB L k
  · rw [hal] at HAL
    have hK : kidsA L k = [] := by unfold kidsA; rw [if_neg (by rw [hal]; simp)]
    have hz : childZ L k = none := by rw [hZ, hK]; rfl
    have HR := Lib.hid (show childR L k = (0, 0, 4) by rw [hR, hz]; unfold childE; rw [if_pos hal])
    have HL := Lib.hid (show childL L k = L by rw [hL, hz])
    clear h hal hk hK hz hR hL hZ oB
    go_enter Try.func11, Try.ntmps11
    go_wp2_with ((with_reducible go_at_call 20); (with_reducible refine (HAL.out).mono ?_); rintro e w1 ⟨rfl, b1⟩)
    go_ret3
    exact ⟨by rw [HR.out]; rfl, by rw [HL.out]; exact PT.of HH.out (Ext.trans bB b1)⟩
  have hE : childE L k = if (kidsA L k).length = 0 then 18 else 17 := by unfold childE; rw [if_neg (by rw [hal]; simp)]
  rw [hal] at HAL
  have HK := Lib.hid hk
  generalize kidsA L k = K at *
  have HIX := Lib.hid (fun S c' w' (h' : Ext w w') (hc : w'.cell? ⟨w.heap.size, 0, none⟩ = some (.pointer (some ⟨g, 0, none⟩))) (hr : Rd w' S (ints K)) => child_index w.heap.size g gm L S K.length c' K w' (HH.out.keep h') hc HKW.out (by omega) hr rfl)
  have HKLU := Lib.hid (fun z w' (h' : Ext w w') (hz : I64 z) => (HH.out.keep h').look hz)
  clear h hal hk
  go_enter Try.func11, Try.ntmps11
  go_wp2_with ((with_reducible go_at_call 20); (with_reducible refine HAL.out.mono ?_); rintro e w1 ⟨rfl, b1⟩; have hcb := (oB.keep b1).cell 0; simp only [List.getElem?_cons_zero] at hcb)
  have e1 := Ext.trans bB b1
  refine (HKD.out _ e1).mono ?_
  rintro e w2 ⟨S, c', rfl, rS, b2⟩
  have e2 := Ext.trans e1 b2
  have oB2 := (oB.keep b1).keep b2
  have hcb2 : w2.cell? ⟨w.heap.size, 0, none⟩ = some (.pointer (some ⟨g, 0, none⟩)) := oB2.cell 0
  have rd2 := rS.rd
  have hSlo : ∀ g', blk S = some g' → w.heap.size ≤ g' := fun g' hg' => Nat.le_trans e1.size (rS.at_ g' hg').1
  clear b1 b2 e1 rS hcb HAL HKD oB bB
  by_cases h0 : K.length = 0
  · have t0 : ((K.length : Int) == 0) = true := by simp [h0]
    have hK : K = [] := List.eq_nil_of_length_eq_zero h0
    have hz : childZ L k = none := by rw [hZ, hK]; rfl
    have HR := Lib.hid (show childR L k = (0, 0, 18) by rw [hR, hz, hE, if_pos h0])
    have HL := Lib.hid (show childL L k = L by rw [hL, hz])
    clear h0 hK hz hR hL hZ hE
    go_wp2
    go_ret3
    exact ⟨by rw [HR.out]; rfl, by rw [HL.out]; exact PT.of HH.out e2⟩
  have t0 : ((K.length : Int) == 0) = false := by simp; exact fun h => h0 (by rw [h]; rfl)
  rw [if_neg h0] at hE
  clear h0
  go_wp2_with fail
  refine (HIX.out S c' _ e2 hcb2 rd2).mono ?_
  rintro e w3 ⟨i, rfl, b3, hi⟩
  have e3 := Ext.trans e2 b3
  have hcb3 := cell_keep b3 hcb2
  have rd3 := rd2.keep b3
  clear hcb2 rd2 e2 b3 oB2 HIX
  rcases hi with ⟨rfl, hf⟩ | ⟨j, hj, rfl, hf⟩
  · have hz : childZ L k = none := by rw [hZ, hf]
    have HR := Lib.hid (show childR L k = (0, 0, 17) by rw [hR, hz, hE])
    have HL := Lib.hid (show childL L k = L by rw [hL, hz])
    clear hf hz hR hL hZ hE
    go_wp2
    go_ret3
    exact ⟨by rw [HR.out]; rfl, by rw [HL.out]; exact PT.of HH.out e3⟩
  · have hz : childZ L k = some K[j] := by rw [hZ, hf]
    have hR2 : childR L k = (K[j], oCode (pget L K[j]), 0) := by rw [hR, hz]
    have hL2 : childL L k = pdel L K[j] := by rw [hL, hz]
    obtain ⟨bs, os, rfl, hcS⟩ := rd3.int hj
    have hzw := HKW.out _ (List.getElem_mem hj)
    have hbs := hSlo bs rfl
    have hlk := fun w' (h' : Ext w w') => HKLU.out K[j] w' h' hzw
    generalize K[j] = z at *
    have HR := Lib.hid hR2
    have HL := Lib.hid hL2
    have hps := HH.out.keep e3
    have hcg := hps.cell
    generalize oPar (pget L z) = a at *
    generalize oCode (pget L z) = c at *
    generalize oDead (pget L z) = d at *
    have hfd := field_p1 a c d
    have HLK := Lib.hid hlk
    have HZW := Lib.hid hzw
    have j0' : (0 : Int) ≤ (j : Int) := by omega
    have j1' : (j : Int) < (K.length : Int) := by omega
    have j2' : ¬ (j : Int) < 0 := by omega
    clear hz hR hL hZ hE hf hR2 hL2 hlk hzw rd3
    obtain ⟨wq, rfl⟩ : ∃ wq : World, wq = w3 := ⟨_, rfl⟩
    go_wp2
    refine wp_region_dep (S := Ext) (C := Ext (wq)) (by kernel_rfl) (by kernel_rfl) rfl Ext.refl (Ext.drew _) ?_
    repeat (refine dep_det (by rfl) (fun K hK => ?_); go_simp; first
      | ((with_reducible refine hK _ ?_); clear hK K)
      | (rw [if_neg (by decide)]; (with_reducible refine hK _ ?_); clear hK K)
      | (refine ⟨_, fun w1 hw1 => ⟨Ext.refl w1, hw1, rfl⟩, hK _ ?_⟩; clear hK K)
      | (apply Exists.intro; refine ⟨fun w1 hw1 => ?_, hK _ ?_⟩
         first
           | (have c_1 := cell_keep hw1 hcb3; have c_2 := cell_keep hw1 hcg; have c_3 := cell_keep hw1 hcS; have c_4 := HLK.out w1 (Ext.trans e3 hw1); go_simp; first | exact ⟨Ext.refl _, hw1, rfl⟩ | exact ⟨Ext.refl _, rfl⟩)
         clear hK K))
    refine dep_nil ?_
    intro a' w' hC hE
    obtain rfl := atEnd_nil hE
    clear hE
    have hcb4 := cell_keep hC hcb3
    have hcg4 := cell_keep hC hcg
    have hcS4 := cell_keep hC hcS
    have e4 := Ext.trans e3 hC
    obtain ⟨wp, rfl⟩ : ∃ wp : World, wp = w' := ⟨_, rfl⟩
    clear hcb3 hcg hcS e3 hC hps
    go_wp2
    refine wp_region_dep_tail 8 (S := Ext) (C := Ext (wp)) (by kernel_rfl) (by kernel_rfl) rfl Ext.refl (Ext.drew _) ?_
    simp only [List.take_succ_cons, List.take_zero]
    repeat (refine dep_det (by rfl) (fun K hK => ?_); go_simp; first
      | ((with_reducible refine hK _ ?_); clear hK K)
      | (rw [if_neg (by decide)]; (with_reducible refine hK _ ?_); clear hK K)
      | (refine ⟨_, fun w1 hw1 => ⟨Ext.refl w1, hw1, rfl⟩, hK _ ?_⟩; clear hK K)
      | (apply Exists.intro; refine ⟨fun w1 hw1 => ?_, hK _ ?_⟩
         first
           | (have c_hcb4 := cell_keep hw1 hcb4; have c_hcg4 := cell_keep hw1 hcg4; have c_hcS4 := cell_keep hw1 hcS4; go_simp; first | exact ⟨Ext.refl _, hw1, rfl⟩ | exact ⟨Ext.refl _, rfl⟩)
         clear hK K))
    refine dep_nil ?_
    intro a' w' hC hE
    obtain rfl := atEnd_nil hE
    clear hE
    simp only [List.drop_succ_cons, List.drop_zero]
    have hcS5 := cell_keep hC hcS4
    have e5 := Ext.trans e4 hC
    have hlt5 := World.block_lt_of_cell? _ _ hcS4
    have hps := HH.out.keep e5
    have hmltw := HH.out.map.lt
    clear hcb4 hcg4 hcS4 e4
    go_wp2_with (at_delete; refine wpList_delete_own _ rfl _ _ 52 3 rfl 56 keyed_int' Try.underlying52 prd gm L.length (dmap L) rfl (hps).map (.int .i64 z) (.int .i64 z) rfl (keyOf_int_mk Try.underlying3 (wf_i64' HZW.out)) ?_; intro w6 m6 t6; have hcS6 := t6.grown.cell hcS5 (fun q => by injection q with q; have q2 : bs = gm := q; omega))
    go_ret3
    exact ⟨by rw [HR.out]; rfl, by rw [HL.out]; exact ⟨hps.del z m6 t6.grown, World.grownBy.trans ⟨e5.os, e5.tape, e5.output, e5.size, fun i hi _ => e5.block i hi⟩ t6.grown⟩⟩
theorem p_child_nil (k : Int) (w : World) : Calls Try.prog 11 #[.pointer none, .int .i64 k] w fun e w' => e = .returned (.tuple #[.int .i64 0, .int .i64 0, .int .i64 1]) ∧ Below w.heap.size w w' := by
  have bB : Ext w (w.alloc (.cells #[.pointer none] 23)) := Ext.alloc _ _
  go_enter Try.func11, Try.ntmps11
  go_wp2
  go_ret3
  exact ⟨rfl, bB⟩

end Go.Proofs.Ytdgggdhligfnpaa
