/-
  A row of changes that comes in, opened. Conditions: none.
-/
import Derived.Test.YtgdmkiobidnhnaaInn
import Derived.Test.YtgdmkiobidnhnaaSt3
namespace Go.Proofs.Ytgdmkiobidnhnaa
open Go.RowKit Go.ChangeShapes Go.WideShapes

set_option maxRecDepth 4000
section
variable {H : Type} {enc : TypeId × Value → H} {W : World} {held : Bool} {fuel : Nat} {cs : List Value} {x : DataW H × List MemPlace}
theorem open_ch (h : DataW.trod enc Try.prog W 0 (fun _ => true) held fuel 69 cs = some x) : ∃ c : ByteArray × (Bool × ByteArray), cs = [.string c.1, .bool c.2.1, .string c.2.2] ∧ True := by
  obtain ⟨hl, n, hf⟩ := open_fields (k := 3) Try.underlying69 (by kernel_rfl) h
  match cs, hl with
  | [c0, c1, c2], _ =>
    obtain ⟨_, h0⟩ := hf 0 _ rfl
    obtain ⟨_, h1⟩ := hf 1 _ rfl
    obtain ⟨_, h2⟩ := hf 2 _ rfl
    obtain ⟨a, ha, _⟩ := DataW.trod_string Try.underlying9 h0
    obtain ⟨b, hb, _⟩ := DataW.trod_bool Try.underlying4 h1
    obtain ⟨c, hc, _⟩ := DataW.trod_string Try.underlying9 h2
    cases (show [c0] = [_] from ha)
    cases (show [c1] = [_] from hb)
    cases (show [c2] = [_] from hc)
    exact ⟨(a, (b, c)), rfl, trivial⟩
theorem open_chs {v : Value} {d : DataW H} {ps : List MemPlace} (hv : Value.okWide Try.prog W .any 0 64 v) (h : DataW.Trod enc Try.prog W 0 (fun _ => true) held 64 v d ps) : ∃ a n c l, v = .slice a n c ∧ l.length = n ∧ Sl W (.slice a n c) n 3 (chL l) := by
  obtain ⟨fuel, h⟩ := h
  obtain ⟨a, n, c, es, e1, l1, s1, _⟩ := open_elems (Q := fun _ => True) (z := 3) (fun c : ByteArray × (Bool × ByteArray) => [Value.string c.1, .bool c.2.1, .string c.2.2]) (fun _ => rfl) (by decide) Try.underlying64 (by kernel_rfl) (fun h => open_ch h) h
  obtain ⟨a', n', c', rfl⟩ := okWide_slice Try.underlying64 hv
  cases (show [Value.slice a' n' c'] = [_] from e1)
  exact ⟨a, n, c, es, rfl, l1, s1⟩
end
end Go.Proofs.Ytgdmkiobidnhnaa
