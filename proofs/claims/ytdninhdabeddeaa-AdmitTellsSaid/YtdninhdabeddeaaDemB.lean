/-
  WALKS of package demand: Busy and Fits; slices.Clone of parts.
-/
import Derived.Test.YtdninhdabeddeaaDemA
import Derived.Test.YtdninhdabeddeaaApp
namespace Go.Proofs.Ytdninhdabeddeaa
open Go.RowKit
attribute [local go_sem] depUpon Sp.ok

theorem nsum_zero (l : List Int) : nsum (0 :: l) = nsum l := by simp [nsum]; rfl
theorem busy_need (block : Int) (ps : List (Int × Int)) (x : Int) : nsum [block, rwork x ps] = rneed 0 block ps x := by
  unfold rneed; rw [nsum_zero]

set_option maxRecDepth 100000 in
set_option maxHeartbeats 1000000 in
theorem d_busy (block : Int) (A : Option Addr) (n c : Nat) (ps : List (Int × Int)) (most : Int) (w : World) (hn : n ≤ 4611686018427387904) (hr : Rd w A (pairs ps)) (hl : ps.length = n) :
    Calls Try.prog 64 #[.int .i64 block, .slice A n c, .int .i64 most] w fun e w' =>
      e = .returned (.tuple #[.int .i64 (respOf (rresp 0 block ps most)), .bool (rresp 0 block ps most).isSome]) ∧ Below w.heap.size w w' := by
  have m0 := clip_lo most
  have m1 := clip_hi most
  have r0 : 0 ≤ rmost most := by unfold rmost; omega
  have r1 : rmost most ≤ 4096 := by unfold rmost; omega
  have hm : rmost most = min (clip most) 4096 := rfl
  have HM := Lib.hid hm
  clear hm
  go_enter Try.func64, Try.ntmps64
  go_wp2_with (go_at_call 57; refine (num_clip _ _).mono ?_; rintro e w' ⟨rfl, rfl⟩)
  all_goals
    have q1 : rmost most ≤ clip most := by rw [HM.out]; omega
    first
      | (have q4 : 4096 ≤ rmost most := by rw [HM.out]; omega)
      | (have q4 : clip most ≤ rmost most := by rw [HM.out]; omega)
    go_loopw [8] (fun s wr => ∃ x : Int, 1 ≤ x ∧ x ≤ 1099511627776 ∧ s = .int .i64 x ∧ Hid (Short (rneed 0 block ps) x) ∧ Below w.heap.size w wr) (fun s _ => (rmost most + 1 - intOf s).toNat)
    case atStart => exact ⟨1, by omega, by omega, rfl, fun t h1 h2 => by omega, Below.refl _ _⟩
    case round =>
      obtain ⟨x, x0, x1, rfl, hs, hb⟩ := hrel
      by_cases hle : x ≤ rmost most
      · have n0 := rneed_lo 0 block ps x
        have n1 := rneed_hi 0 block ps x
        by_cases hlt : rneed 0 block ps x ≤ x
        · have HY := Lib.hid (rresp_yes x0 hle hlt hs.out)
          have HN := Lib.hid (busy_need block ps x)
          go_wp2_with (first | (go_at_call 62; refine (rta_work _ _ _ _ ps _ hn (hr.keep hb) hl).mono ?_; rintro e w1 ⟨rfl, b1⟩) | (go_at_call 37; refine (num_add _ 2 _ [block, rwork x ps] _ (by omega) (rd2i w1 _ _) rfl).mono ?_; rw [HN.out]; rintro e w' ⟨rfl, rfl⟩))
          go_ret2
          refine ⟨?_, hb.trans ((Ext.trans b1 (Ext.alloc _ _)).mono hb.size)⟩
          rw [HY.out]
          exact ret_resp (by simp [respOf]; omega) rfl
        · have HS := Lib.hid (short_next (fun s t h => rneed_mono 0 block ps h) hs.out)
          have HN := Lib.hid (busy_need block ps x)
          go_wp2_with (first | (go_at_call 62; refine (rta_work _ _ _ _ ps _ hn (hr.keep hb) hl).mono ?_; rintro e w1 ⟨rfl, b1⟩) | (go_at_call 37; refine (num_add _ 2 _ [block, rwork x ps] _ (by omega) (rd2i w1 _ _) rfl).mono ?_; rw [HN.out]; rintro e w' ⟨rfl, rfl⟩))
          go_roundw
          case rel => exact ⟨_, by omega, by omega, rfl, HS.out, hb.trans ((Ext.trans b1 (Ext.alloc _ _)).mono hb.size)⟩
          case measure => simp [intOf]; omega
      · have HY := Lib.hid (rresp_no (Int.not_le.1 hle) hs.out)
        go_wp2
        go_ret2
        refine ⟨?_, hb⟩
        rw [HY.out]
        exact ret_resp rfl rfl

set_option maxRecDepth 100000 in
set_option maxHeartbeats 1000000 in
theorem clone_parts (A : Option Addr) (n c : Nat) (ps : List (Int × Int)) (w : World) (hn : n ≤ 65536) (hr : Rd w A (pairs ps)) (hl : ps.length = n) :
    Calls Try.prog 63 #[.slice A n c] w fun e w' => ∃ A' c', e = .returned (.slice A' n c') ∧ Row w' w.heap.size 36 2 A' n c' (pairs ps) ∧ Below w.heap.size w w' := by
  subst hl
  obtain ⟨ip, hi, hz0, hz1, hz2⟩ := info_parts info_part
  cases A with
  | none =>
    have h0 : ps = [] := by
      cases ps with
      | nil => rfl
      | cons p ps => obtain ⟨b, off, h, _⟩ := hr.pair (k := 0) (by simp); cases h
    subst h0
    have hq : ∀ w, (binOp .eql 31 (.slice none 0 c) (.slice none 0 0)).run Try.prog w = .ok (.bool true) w := fun w => Lib.run_eql_slice_nil (P := Try.prog) w 31 36 none 0 c 0 0 Try.underlying31
    go_enter Try.func63, Try.ntmps63
    go_wp2
    go_ret
    exact ⟨none, 0, rfl, Row.nil _ _ _ _, Below.refl _ _⟩
  | some a =>
    have LP := Lib.hid (by rw [pairs_len]; omega : (pairs ps).length = ps.length * 2)
    have hrow : Row (w.alloc (.cells #[] 36)) w.heap.size 36 2 (some ⟨w.heap.size, 0, none⟩) 0 0 [] := Row.ofOwn (Own.new w 36 []) (Nat.le_refl _) rfl (by omega)
    have hrA : Rd (w.alloc (.cells #[] 36)) (some a) (pairs ps) := hr.keep (Ext.alloc _ _)
    have HI := Lib.hid hi
    clear hi
    have hq : ∀ w, (binOp .eql 31 (.slice (some a) ps.length c) (.slice none 0 0)).run Try.prog w = .ok (.bool false) w := fun w => Lib.run_eql_slice_nil (P := Try.prog) w 31 36 (some a) ps.length c 0 0 Try.underlying31
    go_enter Try.func63, Try.ntmps63
    go_wp2_with (at_builtin; refine wpl_append _ rfl (.tmp 5) (.tmp 6) 31 rfl 36 ip _ 2 16 Try.underlying31 HI.out hz0 hz1 hz2 rfl (by omega) w.heap.size _ 0 0 [] rfl hrow (some a) ps.length c (pairs ps) rfl LP.out hrA (pairs_one ps) ps.length (pairs ps) (by omega) rfl (by omega) (by omega) (by simp) ?_; intro A2 c2 w2 o2 g2 e2)
    have b2 := below_grown (Ext.alloc w (.cells #[] 36)) g2 (by simp) (by simp [blk])
    go_ret
    exact ⟨A2, c2, rfl, o2, b2⟩

/-- All parts of a test: a job counts by its period and cost. -/
def epc (e : Int × Int × Int) : Int × Int := (e.1, e.2.2)
def dall (ps : List (Int × Int)) (es : List (Int × Int × Int)) : List (Int × Int) := ps ++ es.map epc
/-- A span that is too short. -/
def dbad (block : Int) (ps : List (Int × Int)) (es : List (Int × Int × Int)) (s : Int) : Bool := decide (0 < eneed s es) && decide (s < nsum [block, rwork s ps, eneed s es])
def dfits (block : Int) (ps : List (Int × Int)) (es : List (Int × Int × Int)) (most : Int) : Int × Bool :=
  match rresp 0 block (dall ps es) most with
  | none => (0, false)
  | some i => match (List.range (i + 1)).find? fun (j : Nat) => dbad block ps es ((j : Int) + 1) with
    | some j => ((j : Int) + 1, false)
    | none => ((i : Int) + 1, true)
section
variable {block : Int} {ps : List (Int × Int)} {es : List (Int × Int × Int)} {most : Int}
theorem dfits_no (h : rresp 0 block (dall ps es) most = none) : dfits block ps es most = (0, false) := by
  unfold dfits; rw [h]
theorem dfits_bad {i : Nat} (h : rresp 0 block (dall ps es) most = some i) {x : Int} (h1 : 1 ≤ x) (h2 : x ≤ (i : Int) + 1) (hb : dbad block ps es x = true) (hlt : ∀ t : Int, 1 ≤ t → t < x → dbad block ps es t = false) :
    dfits block ps es most = (x, false) := by
  have hf : ((List.range (i + 1)).find? fun (j : Nat) => dbad block ps es ((j : Int) + 1)) = some (x - 1).toNat := by
    rw [List.find?_range_eq_some]
    refine ⟨?_, List.mem_range.2 (by omega), fun j hj => ?_⟩
    · rw [show (((x - 1).toNat : Nat) : Int) + 1 = x by omega]; exact hb
    · rw [hlt _ (by omega) (by omega)]; rfl
  unfold dfits
  rw [h]
  simp only [hf]
  rw [show (((x - 1).toNat : Nat) : Int) + 1 = x by omega]
theorem dfits_ok {i : Nat} (h : rresp 0 block (dall ps es) most = some i) (hlt : ∀ t : Int, 1 ≤ t → t ≤ (i : Int) + 1 → dbad block ps es t = false) :
    dfits block ps es most = ((i : Int) + 1, true) := by
  have hf : ((List.range (i + 1)).find? fun (j : Nat) => dbad block ps es ((j : Int) + 1)) = none := by
    rw [List.find?_range_eq_none]
    intro j hj
    rw [hlt _ (by omega) (by omega)]; rfl
  unfold dfits
  rw [h]
  simp only [hf]
end

theorem resp_small {own block : Int} {ps : List (Int × Int)} {most : Int} {i : Nat} (h : rresp own block ps most = some i) : (i : Int) + 1 ≤ 4096 := by
  have := (leastOf_spec h).1
  have h1 := clip_lo most
  have h2 : rmost most ≤ 4096 := by unfold rmost; omega
  omega
theorem ret_fits {r s : Int × Bool} (h : r = s) : Ending.returned (.tuple #[.int .i64 s.1, .bool s.2]) = .returned (.tuple #[.int .i64 r.1, .bool r.2]) := by rw [h]

set_option maxRecDepth 100000 in
set_option maxHeartbeats 2000000 in
theorem d_fits (block : Int) (A : Option Addr) (n c : Nat) (ps : List (Int × Int)) (B : Option Addr) (m d : Nat) (es : List (Int × Int × Int)) (most : Int) (w : World) (hn : n ≤ 65536) (hr : Rd w A (pairs ps)) (hl : ps.length = n) (hm : m ≤ 65536) (hs : Rd w B (trips es)) (hk : es.length = m) :
    Calls Try.prog 45 #[.int .i64 block, .slice A n c, .slice B m d, .int .i64 most] w fun e w' =>
      e = .returned (.tuple #[.int .i64 (dfits block ps es most).1, .bool (dfits block ps es most).2]) ∧ Below w.heap.size w w' := by
  subst hk
  obtain ⟨ip, hi, hz0, hz1, hz2⟩ := info_parts info_part
  have HI := Lib.hid hi
  have HL := Lib.hid hl
  clear hi hl
  go_enter Try.func45, Try.ntmps45
  go_wp2_with fail
  refine (clone_parts A n c ps w hn hr HL.out).mono ?_
  rintro e w1 ⟨A1, c1, rfl, r1, b1⟩
  go_wp2_with fail
  go_loopw [10, 21] (fun v i wr => ∃ (k : Nat) (A' : Option Addr) (c' : Nat), k ≤ es.length ∧ i = .int .i64 k ∧ v = .slice A' (n + k) c' ∧ Row wr w.heap.size 36 2 A' (n + k) c' (pairs (ps ++ (es.take k).map epc)) ∧ Below w.heap.size w wr) (fun _ i _ => es.length - (intOf i).toNat)
  case atStart => exact ⟨0, A1, c1, Nat.zero_le _, rfl, rfl, by simpa using r1, b1⟩
  case round =>
    obtain ⟨k, A', c', hk, rfl, rfl, hown, hb⟩ := hrel
    clear r1 b1
    by_cases hlt : k < es.length
    · obtain ⟨b, off, rfl, h1, h2, h3⟩ := (hs.keep hb).trip hlt
      have HT := Lib.hid (take_succ' es k hlt)
      have i0 : (0 : Int) ≤ (k : Int) := by omega
      have i1 : (k : Int) < (es.length : Int) := by omega
      have o1 := Own.new wr 86 [.int .i64 es[k].1, .int .i64 es[k].2.1, .int .i64 es[k].2.2]
      have hc0 := o1.cell 0
      have hc2 := o1.cell 2
      simp only [List.getElem?_cons_zero, List.getElem?_cons_succ] at hc0 hc2
      clear o1
      have r2 := (hown.alloc (.cells #[.int .i64 es[k].1, .int .i64 es[k].2.1, .int .i64 es[k].2.2] 86)).alloc (.cells #[.int .i64 es[k].1, .int .i64 es[k].2.2] 36)
      have bC := hb.trans ((Ext.trans (Ext.alloc wr (.cells #[.int .i64 es[k].1, .int .i64 es[k].2.1, .int .i64 es[k].2.2] 86)) (Ext.alloc _ (.cells #[.int .i64 es[k].1, .int .i64 es[k].2.2] 36))).mono hb.size)
      have o3 : Rd ((wr.alloc (.cells #[.int .i64 es[k].1, .int .i64 es[k].2.1, .int .i64 es[k].2.2] 86)).alloc (.cells #[.int .i64 es[k].1, .int .i64 es[k].2.2] 36)) (some ⟨wr.heap.size + 1, 0, none⟩) (pairs [(es[k].1, es[k].2.2)]) := by
        have h := (Own.new (wr.alloc (.cells #[.int .i64 es[k].1, .int .i64 es[k].2.1, .int .i64 es[k].2.2] 86)) 36 (pairs [(es[k].1, es[k].2.2)])).rd0
        have e : (wr.alloc (.cells #[.int .i64 es[k].1, .int .i64 es[k].2.1, .int .i64 es[k].2.2] 86)).heap.size = wr.heap.size + 1 := by simp
        rw [e] at h; exact h
      have HA : Hid (pairs (ps ++ (es.take k).map epc) ++ pairs [(es[k].1, es[k].2.2)] = pairs (ps ++ (es.take (k + 1)).map epc)) := Lib.hid (by rw [HT.out, pairs_app, List.map_append, List.append_assoc]; rfl)
      go_wp2_with (at_builtin; go_loud (refine wpl_append _ rfl (.tmp 25) (.tmp 31) 31 rfl 36 ip _ 2 16 Try.underlying31 HI.out hz0 hz1 hz2 rfl (by omega) w.heap.size A' (n + k) c' _ rfl r2 _ 1 1 (pairs [(es[k].1, es[k].2.2)]) rfl rfl o3 (pairs_one _) (n + (k + 1)) (pairs (ps ++ (es.take (k + 1)).map epc)) (by omega) HA.out (by omega) (by omega) bC.size ?_; intro A2 c2 w2 o2 g2 e2))
      have b2 := below_grown bC g2 bC.size (fun g' hg' => (r2.at_ g' hg').1)
      go_roundw
      case rel => exact ⟨k + 1, A2, c2, by omega, by go_num, rfl, o2, b2⟩
      case measure => simp [intOf]; omega
    · obtain rfl : k = es.length := by omega
      have hall : Rd wr A' (pairs (dall ps es)) := by have := hown.rd; rwa [List.take_length] at this
      have hlen : (dall ps es).length = n + es.length := by simp [dall, HL.out]
      have HBL := Lib.hid hlen
      clear hown hlt hlen
      go_wp2_with fail
      refine (d_busy block A' (n + es.length) c' (dall ps es) most wr (by omega) hall HBL.out).mono ?_
      rintro e w3 ⟨rfl, b3⟩
      have k3 : Ext w w3 := Ext.trans hb b3
      cases hres : rresp 0 block (dall ps es) most with
      | none =>
        have HN := Lib.hid (dfits_no hres)
        clear hres
        go_wp2
        go_ret2
        exact ⟨ret_fits HN.out, k3⟩
      | some i =>
        have hi4 := resp_small hres
        have HR := Lib.hid hres
        have hro : respOf (some i) = (i : Int) + 1 := rfl
        rw [hro]
        clear hres hro
        go_wp2
        go_loopw [15] (fun s wr => ∃ x : Int, 1 ≤ x ∧ x ≤ (i : Int) + 2 ∧ s = .int .i64 x ∧ Hid (∀ t : Int, 1 ≤ t → t < x → dbad block ps es t = false) ∧ Below w.heap.size w wr) (fun s _ => (4098 - intOf s).toNat)
        case atStart => exact ⟨1, by omega, by omega, rfl, Lib.hid (fun t h1 h2 => by omega), k3⟩
        case round =>
          obtain ⟨x, x0, x1, rfl, hs2, hb2⟩ := hrel
          clear k3 hb b3 hall
          have hrS := hs.keep hb2
          have hrP := hr.keep hb2
          by_cases hle : x ≤ (i : Int) + 1
          · have n0 := eneed_lo x es
            have n1 := eneed_hi x es
            have hbx : dbad block ps es x = (decide (0 < eneed x es) && decide (x < nsum [block, rwork x ps, eneed x es])) := rfl
            have HB := Lib.hid hbx
            clear hbx
            have HNX : Hid (∀ h : dbad block ps es x = false, ∀ t : Int, 1 ≤ t → t < x + 1 → dbad block ps es t = false) := Lib.hid fun h t h1 h2 => by
              rcases Int.lt_or_le t x with h3 | h3
              · exact hs2.out t h1 h3
              · obtain rfl : t = x := by omega
                exact h
            by_cases hz : eneed x es ≤ 0
            · have HF := Lib.hid (HNX.out (by rw [HB.out]; simp; omega))
              go_wp2_with ((with_reducible go_at_call 65); refine (d_need x B es.length d es _ (by omega) hrS rfl).mono ?_; rintro e w4 ⟨rfl, b4⟩)
              go_roundw
              case rel => exact ⟨x + 1, by omega, by omega, rfl, HF, Ext.trans hb2 b4⟩
              case measure => simp [intOf]; omega
            · by_cases hgt : x < nsum [block, rwork x ps, eneed x es]
              · have HD := Lib.hid (dfits_bad HR.out x0 hle (by rw [HB.out]; simp; omega) hs2.out)
                go_wp2_with (first
                  | ((with_reducible go_at_call 65); refine (d_need x B es.length d es _ (by omega) hrS rfl).mono ?_; rintro e w4 ⟨rfl, b4⟩)
                  | ((with_reducible go_at_call 62); refine (rta_work x A n c ps _ (by omega) (hrP.keep b4) HL.out).mono ?_; rintro e w5 ⟨rfl, b5⟩)
                  | (go_at_call 37; refine (num_add _ 3 _ [block, rwork x ps, eneed x es] _ (by omega) (rd3i _ _ _ _) rfl).mono ?_; rintro e w' ⟨rfl, rfl⟩))
                go_ret2
                exact ⟨ret_fits HD.out, Ext.trans hb2 (Ext.trans b4 (Ext.trans b5 (Ext.alloc _ _)))⟩
              · have HF := Lib.hid (HNX.out (by rw [HB.out]; simp; omega))
                go_wp2_with (first
                  | ((with_reducible go_at_call 65); refine (d_need x B es.length d es _ (by omega) hrS rfl).mono ?_; rintro e w4 ⟨rfl, b4⟩)
                  | ((with_reducible go_at_call 62); refine (rta_work x A n c ps _ (by omega) (hrP.keep b4) HL.out).mono ?_; rintro e w5 ⟨rfl, b5⟩)
                  | (go_at_call 37; refine (num_add _ 3 _ [block, rwork x ps, eneed x es] _ (by omega) (rd3i _ _ _ _) rfl).mono ?_; rintro e w' ⟨rfl, rfl⟩))
                go_roundw
                case rel => exact ⟨x + 1, by omega, by omega, rfl, HF, Ext.trans hb2 (Ext.trans b4 (Ext.trans b5 (Ext.alloc _ _)))⟩
                case measure => simp [intOf]; omega
          · have HD := Lib.hid (dfits_ok HR.out fun t h1 h2 => hs2.out t h1 (by omega))
            go_wp2
            go_ret2
            exact ⟨ret_fits HD.out, hb2⟩

theorem rd_part1 (w : World) (a b : Int) : Rd (w.alloc (.cells #[.int .i64 a, .int .i64 b] 36)) (some ⟨w.heap.size, 0, none⟩) (pairs [(a, b)]) := (Own.new w 36 (pairs [(a, b)])).rd0
theorem rd_early1 (w : World) (a b c : Int) : Rd (w.alloc (.cells #[.int .i64 a, .int .i64 b, .int .i64 c] 86)) (some ⟨w.heap.size, 0, none⟩) (trips [(a, b, c)]) := (Own.new w 86 (trips [(a, b, c)])).rd0
theorem rd_early1' (w : World) (o : Obj) (a b c : Int) : Rd ((w.alloc o).alloc (.cells #[.int .i64 a, .int .i64 b, .int .i64 c] 86)) (some ⟨w.heap.size + 1, 0, none⟩) (trips [(a, b, c)]) := by
  have h := rd_early1 (w.alloc o) a b c
  rwa [show (w.alloc o).heap.size = w.heap.size + 1 by simp] at h

end Go.Proofs.Ytdninhdabeddeaa
