/-
  A config that comes in by value, opened: six numbers that fit their kinds. Conditions: none.
-/
import Derived.Test.YtckgckdmadfkdaaRows
import Derived.WalkKit
import Derived.ProofKit
import Derived.OpenShut
namespace Go.Proofs.Ytckgckdmadfkdaa
open Go.ChangeShapes Go.WideShapes Go.ChangeAt Go.RowKit

theorem array6 {α : Type} {cs : Array α} (h : cs.size = 6) : ∃ c0 c1 c2 c3 c4 c5, cs = #[c0, c1, c2, c3, c4, c5] := by
  obtain ⟨l⟩ := cs
  match l, h with
  | [c0, c1, c2, c3, c4, c5], _ => exact ⟨c0, c1, c2, c3, c4, c5, rfl⟩

theorem cells24 : Try.prog.cellsOf 24 = 6 := by kernel_rfl
theorem cells3 : Try.prog.cellsOf 3 = 1 := by kernel_rfl
theorem cells22 : Try.prog.cellsOf 22 = 1 := by kernel_rfl

theorem open_cfg {H : Type} {enc : TypeId × Value → H} {w : World} {base : Nat} {spare : Nat → Bool} {held : Bool} {r : Reach} {b0 : Nat} {v : Value} {d : DataW H} {ps : List MemPlace}
    (hv : Value.okWide Try.prog w r b0 24 v) (h : DataW.Trod enc Try.prog w base spare held 24 v d ps) :
    ∃ a p s q t e : Int, v = .agg #[.int .i64 a, .int .i64 p, .int .i64 s, .int .i64 q, .int .i64 t, .int .u64 e] ∧ (Lit.int .i64 a).wf = true ∧ (Lit.int .i64 p).wf = true ∧ (Lit.int .i64 s).wf = true ∧
      (Lit.int .i64 q).wf = true ∧ (Lit.int .i64 t).wf = true ∧ (Lit.int .u64 e).wf = true := by
  obtain ⟨cs, rfl, hsz⟩ := okWide_struct Try.underlying24 hv
  obtain ⟨c0, c1, c2, c3, c4, c5, rfl⟩ := array6 (hsz.trans cells24)
  obtain ⟨fuel, hf⟩ := h
  obtain ⟨xs, n, _, _, _, hl, hi⟩ := DataW.trod_struct Try.underlying24 hf
  match xs, hl with
  | [y0, y1, y2, y3, y4, y5], _ =>
    have h0 := hi 0 _ rfl
    have h1 := hi 1 _ rfl
    have h2 := hi 2 _ rfl
    have h3 := hi 3 _ rfl
    have h4 := hi 4 _ rfl
    have h5 := hi 5 _ rfl
    simp [cells3, cells22, Value.cells] at h0 h1 h2 h3 h4 h5
    obtain ⟨a, e0, _, w0⟩ := DataW.trod_int Try.underlying3 h0
    obtain ⟨p, e1, _, w1⟩ := DataW.trod_int Try.underlying3 h1
    obtain ⟨s, e2, _, w2⟩ := DataW.trod_int Try.underlying3 h2
    obtain ⟨q, e3, _, w3⟩ := DataW.trod_int Try.underlying3 h3
    obtain ⟨t, e4, _, w4⟩ := DataW.trod_int Try.underlying3 h4
    obtain ⟨e, e5, _, w5⟩ := DataW.trod_int Try.underlying22 h5
    simp at e0 e1 e2 e3 e4 e5
    subst e0 e1 e2 e3 e4 e5
    exact ⟨a, p, s, q, t, e, rfl, w0, w1, w2, w3, w4, w5⟩
end Go.Proofs.Ytckgckdmadfkdaa
