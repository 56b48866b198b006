/-
  THE FRAME of a statement's proof, mine: how an argument that reads as data is opened; that all arguments read as they did where nothing old has turned.
-/
import Derived.Test.YteeoagkblbifjaaBase
import Derived.ProofKit
import Derived.OpenShut
import Derived.ChangeOld
namespace Go.Proofs.Yteeoagkblbifjaa
open Go.ChangeShapes Go.WideShapes Go.ChangeAt Go.RowKit

theorem own_ : ownKnob Try.prog.godebug = none := by kernel_rfl
theorem laidOut_ : laidOutB Try.prog = true := by kernel_rfl

theorem i64_of_wf {x : Int} (h : (Lit.int .i64 x).wf = true) : I64 x := by
  simp [Lit.wf, IntKind.min, IntKind.max, IntKind.signed, IntKind.bits] at h
  exact ⟨by omega, by omega⟩

theorem trodAll_keep {H : Type} {enc : TypeId × Value → H} {W W' : World} (hb : Below W.heap.size W W') :
    ∀ {ts : List TypeId} {vs : List Value} {ds : List (DataW H)} {p : List MemPlace},
      (∀ t ∈ ts, Try.prog.readableRec t = true ∧ t < Try.prog.types.size) →
      DataW.TrodAll enc Try.prog W 0 (fun _ => true) true ts vs ds p →
      DataW.TrodAll enc Try.prog W' 0 (fun b => decide (b < W.heap.size)) true ts vs ds p
  | [], [], [], _, _, h => h
  | t :: ts, v :: vs, d :: ds, _, ht, h => by
    obtain ⟨p, q, h1, h2, rfl⟩ := h
    have lt1 : ∀ x ∈ p, x.block < W.heap.size := by obtain ⟨m, hm⟩ := h1; exact DataW.trod_lt m _ _ _ hm
    obtain ⟨r1, r2⟩ := ht t (by simp)
    exact ⟨p, q, Below.trod laidOut_ r1 r2 h1 hb lt1, trodAll_keep hb (fun t' h' => ht t' (by simp [h'])) h2, rfl⟩
  | [], _ :: _, _, _, _, h => by cases h
  | [], [], _ :: _, _, _, h => by cases h
  | _ :: _, [], _, _, _, h => by cases h
  | _ :: _, _ :: _, [], _, _, h => by cases h

theorem bool_back {H : Type} {enc : TypeId × Value → H} {W : World} {base : Nat} {sp : Nat → Bool} {hd : Bool} :
    DataW.TrodAll enc Try.prog W base sp hd [ 4 ] [.bool true] [.lit (.bool true)] [] := trodAll_mk1 (shut_bool Try.underlying4 true)

section
variable {H : Type} {enc : TypeId × Value → H} {W : World} {base : Nat} {v : Value} {d : DataW H} {p : List MemPlace}
theorem open_i64 (hv : Value.okWide Try.prog W .any base 3 v) (h : DataW.Trod enc Try.prog W 0 (fun _ => true) true 3 v d p) : ∃ x, v = .int .i64 x ∧ I64 x := by
  obtain ⟨x, rfl, _, _, w⟩ := open_int Try.underlying3 hv h
  exact ⟨x, rfl, i64_of_wf w⟩

theorem open_b (hv : Value.okWide Try.prog W .any base 4 v) (h : DataW.Trod enc Try.prog W 0 (fun _ => true) true 4 v d p) : ∃ x, v = .bool x := by
  obtain ⟨x, rfl, _, _⟩ := open_bool Try.underlying4 hv h
  exact ⟨x, rfl⟩

theorem add_off {a : Addr} {w : World} {u : Value} (h0 : w.cell? (a.add 0) = some u) : ∃ b off, a = ⟨b, off, none⟩ ∧ ∀ i, a.add i = ⟨b, off + i, none⟩ := by
  obtain ⟨b, off, spot⟩ := a
  have hs : spot = none := World.cell?_spot (a := ⟨b, off, spot⟩) (by simpa [Addr.add] using h0)
  subst hs
  refine ⟨b, off, rfl, fun i => ?_⟩
  unfold Addr.add
  split
  · rename_i h; subst h; rfl
  · rfl

theorem open_rd_ints (hv : Value.okWide Try.prog W .any base 22 v) (h : DataW.Trod enc Try.prog W 0 (fun _ => true) true 22 v d p) :
    ∃ A n c zs, v = .slice A n c ∧ IntsArg W A n zs := by
  obtain ⟨a, len, cap, rfl⟩ := okWide_slice Try.underlying22 hv
  obtain ⟨fuel, hf⟩ := h
  rcases open_ints Try.underlying22 Try.underlying3 (by kernel_rfl) hf with ⟨hcs, _⟩ | ⟨x, l, c, zs, hcs, _, hl, hm, hz, _, hcell, hwz⟩
  · simp [Value.cells] at hcs
    obtain ⟨rfl, rfl, rfl⟩ := hcs
    exact ⟨_, _, _, [], rfl, rfl, by omega, Rd.nil _ _, by simp⟩
  · simp [Value.cells] at hcs
    obtain ⟨rfl, rfl, rfl⟩ := hcs
    simp at hz
    refine ⟨_, _, _, zs.take len, rfl, by simp; omega, by unfold maxLen at hm; omega, ?_, fun z hz' => i64_of_wf (hwz z (List.mem_of_mem_take hz'))⟩
    intro k u hk
    have hk' : k < len ∧ k < zs.length := by
      have := (List.getElem?_eq_some_iff.1 hk).1
      simp [ints] at this; omega
    rw [ints_get _ k (by simp; omega)] at hk
    injection hk with hk
    have h1 := hcell k hk'.2
    obtain ⟨b, off, rfl, h2⟩ := add_off (hcell 0 (by omega))
    refine ⟨b, off, rfl, ?_⟩
    rw [h2] at h1
    rw [h1, ← hk]
    simp [hk'.2]
end

end Go.Proofs.Yteeoagkblbifjaa
