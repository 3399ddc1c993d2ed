/-
  An operation that comes in by value, opened. Conditions: none.
-/
import Derived.Test.YtgdmkiobidnhnaaInn
import Derived.Test.YtgdmkiobidnhnaaStep
namespace Go.Proofs.Ytgdmkiobidnhnaa
open Go.RowKit Go.ChangeShapes Go.WideShapes

set_option maxRecDepth 4000
section
variable {H : Type} {enc : TypeId × Value → H} {W : World} {held : Bool} {fuel : Nat} {cs : List Value} {x : DataW H × List MemPlace}
theorem open_guard (h : DataW.trod enc Try.prog W 0 (fun _ => true) held fuel 56 cs = some x) : ∃ g : Gd, cs = gdV g ∧ True := by
  obtain ⟨hl, n, hf⟩ := open_fields (k := 3) Try.underlying56 (by kernel_rfl) h
  match cs, hl with
  | [c0, c1, c2], _ =>
    obtain ⟨_, h0⟩ := hf 0 _ rfl
    obtain ⟨_, h1⟩ := hf 1 _ rfl
    obtain ⟨_, h2⟩ := hf 2 _ rfl
    obtain ⟨a, ha, _⟩ := DataW.trod_int Try.underlying3 h0
    obtain ⟨b, hb, _⟩ := DataW.trod_string Try.underlying9 h1
    obtain ⟨c, hc, _⟩ := DataW.trod_string Try.underlying9 h2
    cases (show [c0] = [_] from ha)
    cases (show [c1] = [_] from hb)
    cases (show [c2] = [_] from hc)
    exact ⟨⟨a, b, c⟩, rfl, trivial⟩
theorem open_step (h : DataW.trod enc Try.prog W 0 (fun _ => true) held fuel 58 cs = some x) : ∃ g : Sp, cs = spV g ∧ True := by
  obtain ⟨hl, n, hf⟩ := open_fields (k := 5) Try.underlying58 (by kernel_rfl) h
  match cs, hl with
  | [c0, c1, c2, c3, c4], _ =>
    obtain ⟨_, h0⟩ := hf 0 _ rfl
    obtain ⟨_, h1⟩ := hf 1 _ rfl
    obtain ⟨_, h2⟩ := hf 2 _ rfl
    obtain ⟨_, h3⟩ := hf 3 _ rfl
    obtain ⟨_, h4⟩ := hf 4 _ rfl
    obtain ⟨a, ha, _⟩ := DataW.trod_int Try.underlying3 h0
    obtain ⟨b, hb, _⟩ := DataW.trod_string Try.underlying9 h1
    obtain ⟨c, hc, _⟩ := DataW.trod_string Try.underlying9 h2
    obtain ⟨d, hd, _⟩ := DataW.trod_string Try.underlying9 h3
    obtain ⟨e, he, _⟩ := DataW.trod_int Try.underlying2 h4
    cases (show [c0] = [_] from ha)
    cases (show [c1] = [_] from hb)
    cases (show [c2] = [_] from hc)
    cases (show [c3] = [_] from hd)
    cases (show [c4] = [_] from he)
    exact ⟨⟨a, b, c, d, e⟩, rfl, trivial⟩
instance : Inhabited Gd := ⟨⟨0, default, default⟩⟩
instance : Inhabited Sp := ⟨⟨0, default, default, default, 0⟩⟩
theorem array2 {α : Type} {cs : Array α} (h : cs.size = 2) : ∃ c0 c1, cs = #[c0, c1] := by
  obtain ⟨l⟩ := cs
  match l, h with
  | [c0, c1], _ => exact ⟨c0, c1, rfl⟩
theorem cells52 : Try.prog.cellsOf 52 = 2 := by kernel_rfl
theorem cells49 : Try.prog.cellsOf 49 = 1 := by kernel_rfl
theorem cells50 : Try.prog.cellsOf 50 = 1 := by kernel_rfl
theorem open_opr {v : Value} {d : DataW H} {ps : List MemPlace} (hv : Value.okWide Try.prog W .any 0 52 v) (h : DataW.Trod enc Try.prog W 0 (fun _ => true) held 52 v d ps) :
    ∃ ga gn gc sa sn sc gs ss, v = .agg #[.slice ga gn gc, .slice sa sn sc] ∧ Lie W ga gn gc sa sn sc gs ss := by
  obtain ⟨cs, rfl, hsz⟩ := okWide_struct Try.underlying52 hv
  obtain ⟨c0, c1, rfl⟩ := array2 (hsz.trans cells52)
  obtain ⟨fuel, hf⟩ := h
  obtain ⟨hl, n, hf⟩ := open_fields (k := 2) Try.underlying52 (by kernel_rfl) hf
  obtain ⟨_, h0⟩ := hf 0 _ rfl
  obtain ⟨_, h1⟩ := hf 1 _ rfl
  obtain ⟨a, m, c, gs, e1, l1, s1, _⟩ := open_elems (Q := fun _ => True) (z := 3) gdV (fun _ => rfl) (by decide) Try.underlying49 (by kernel_rfl) (fun h => open_guard h) h0
  obtain ⟨a', m', c', ss, e2, l2, s2, _⟩ := open_elems (Q := fun _ => True) (z := 5) spV (fun _ => rfl) (by decide) Try.underlying50 (by kernel_rfl) (fun h => open_step h) h1
  simp [cells49, cells50, Value.cells] at e1 e2
  subst e1 e2
  exact ⟨a, m, c, a', m', c', gs, ss, rfl, ⟨s1, l1, s2, l2⟩⟩
end
end Go.Proofs.Ytgdmkiobidnhnaa
