/-
  Rows of names that come in, opened. Conditions: none.
-/
import Derived.Test.YtncbgcfjjlhgpaaInn
import Derived.Test.YtncbgcfjjlhgpaaLives2
namespace Go.Proofs.Ytncbgcfjjlhgpaa
open Go.RowKit Go.ChangeShapes Go.WideShapes

section
variable {H : Type} {enc : TypeId × Value → H} {W : World} {held : Bool} {fuel : Nat} {cs : List Value} {x : DataW H × List MemPlace}
instance : Inhabited Dr := ⟨⟨.int .i64 0, []⟩⟩
theorem open_dr (h : DataW.trod enc Try.prog W 0 (fun _ => true) held fuel 42 cs = some x) : ∃ d : Dr, cs = drV d ∧ DrOk W d := by
  obtain ⟨a, n, c, es, e1, l1, s1, _⟩ := open_elems (Q := fun _ => True) (z := 2) idC (fun _ => rfl) (by decide) Try.underlying42 (by kernel_rfl) (fun h => open_id h) h
  subst l1
  exact ⟨⟨.slice a es.length c, es⟩, e1, a, c, rfl, s1⟩
theorem open_drs {v : Value} {d : DataW H} {ps : List MemPlace} (hv : Value.okWide Try.prog W .any 0 23 v) (h : DataW.Trod enc Try.prog W 0 (fun _ => true) held 23 v d ps) : ∃ (a : Option Addr) (n c : Nat) (ds : List Dr), v = .slice a n c ∧ ds.length = n ∧ Sl W (.slice a n c) n 1 (ds.flatMap drV) ∧ ∀ d ∈ ds, DrOk W d := by
  obtain ⟨fuel, h⟩ := h
  obtain ⟨a, n, c, ds, e1, l1, s1, q1⟩ := open_elems (z := 1) drV (fun _ => rfl) (by decide) Try.underlying23 (by kernel_rfl) (fun h => open_dr h) h
  obtain ⟨a', n', c', rfl⟩ := okWide_slice Try.underlying23 hv
  cases (show [Value.slice a' n' c'] = [_] from e1)
  exact ⟨a, n, c, ds, rfl, l1, s1, q1⟩
end
end Go.Proofs.Ytncbgcfjjlhgpaa
