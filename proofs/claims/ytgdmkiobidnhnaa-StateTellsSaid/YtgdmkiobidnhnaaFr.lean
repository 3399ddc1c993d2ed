/-
  A region that draws its order, whose operations read old cells or call functions that keep all old memory: one walk of its text serves every order. Conditions: none.
-/
import Derived.WalkKit
import Derived.WalkSpells
import Derived.WalkLawsBesides
import Derived.RegionTactic
import Derived.Deep.Quiet
import Derived.Deep.QuietTactic
import Derived.BigQuiet
import Derived.Lib.Hide
namespace Go.Proofs.Ytgdmkiobidnhnaa
open Go.RowKit

/-- All that was in memory stays as it was. -/
def Fr (W w : World) : Prop := Below W.heap.size W w
theorem Fr.refl (W : World) : Fr W W := Below.refl _ _
theorem Fr.below {W w : World} (h : Fr W w) : Below W.heap.size W w := h
theorem Fr.trans {a b c : World} (h : Fr a b) (k : Fr b c) : Fr a c := Below.trans h (k.below.mono h.below.size)
theorem Fr.alloc {a w : World} (h : Fr a w) (o : Obj) : Fr a (w.alloc o) := Below.alloc h h.below.size o
theorem Fr.drewN {a w : World} (h : Fr a w) (n : Nat) : Fr a (w.drewN n) := below_drewN h n
theorem Fr.size {a w : World} (h : Fr a w) : a.heap.size ≤ w.heap.size := h.below.size
theorem Fr.heap {a w : World} (h : Fr a w) {k : Nat} (hk : k < a.heap.size) : w.heap[k]? = a.heap[k]? := h.below.block k hk
theorem Fr.cell {a w : World} (h : Fr a w) {p : Addr} (hp : p.block < a.heap.size) : w.cell? p = a.cell? p := h.below.cell hp
theorem Fr.cell' {a w : World} (h : Fr a w) {p : Addr} {v : Value} (hv : a.cell? p = some v) : w.cell? p = some v := by
  rcases Nat.lt_or_ge p.block a.heap.size with hl | hl
  · rw [h.cell hl, hv]
  · simp [World.cell?, Array.getElem?_eq_none hl] at hv
theorem Fr.below_of {B : Nat} {a w : World} (h : Fr a w) (hB : B ≤ a.heap.size) : Below B a w := h.below.mono hB

section
variable {P : Program} {ops : Array Oper} {C : World → Prop}
theorem wpQuiet_val {Q : Act → Prop} {a : Act} {o : Oper} {rest : List Oper} (hw : Region.wanted o (yielded ops a.tmps) = true)
    (h : ∃ v, (∀ w, C w → (execOp a.eval o).run P w = .ok (.value v) w) ∧ wpQuiet P ops C Q rest (a.put o.dst v)) : wpQuiet P ops C Q (o :: rest) a := by
  obtain ⟨v, h1, h2⟩ := h
  unfold wpQuiet
  rw [if_pos hw]
  refine ⟨v, fun w hC => ?_, h2⟩
  unfold Oper.quietAt
  rw [h1 w hC]
  exact ⟨rfl, rfl⟩
theorem wpQuiet_enter {Q : Act → Prop} {a : Act} {o : Oper} {rest : List Oper} (hw : Region.wanted o (yielded ops a.tmps) = true)
    (h : ∃ f args v, (∀ w, C w → (execOp a.eval o).run P w = .ok (.enter f args) w) ∧ (∀ w, C w → Calls P f args w fun e w' => e = .returned v ∧ C w') ∧ wpQuiet P ops C Q rest (a.put o.dst v)) : wpQuiet P ops C Q (o :: rest) a := by
  obtain ⟨f, args, v, h1, h3, h2⟩ := h
  unfold wpQuiet
  rw [if_pos hw]
  refine ⟨v, fun w hC => ?_, h2⟩
  unfold Oper.quietAt
  rw [h1 w hC]
  exact ⟨rfl, h3 w hC⟩
theorem wpQuiet_pass {Q : Act → Prop} {a : Act} {o : Oper} {rest : List Oper} (hw : Region.wanted o (yielded ops a.tmps) = false)
    (h : wpQuiet P ops C Q rest (a.put o.dst undef)) : wpQuiet P ops C Q (o :: rest) a := by
  unfold wpQuiet
  rw [if_neg (by rw [hw]; decide)]
  exact h
/-- The region whose operations are written out, at a class of worlds. -/
theorem wp_region_class {id : Nat} {Q : Exit → Act → World → Prop} {a : Act} {w : World} {l : List Oper} (C : World → Prop) (hm : P.follows .mixedOrders = true) (hB : Region.lexB .any l.toArray = true) (hC : C { w with drawn := w.drawn + 1 })
    (h : wpQuiet P l.toArray C (fun a' => ∀ w', C w' → Q .normal a' w') l a) : (Code.region id l.toArray true).wp P Q a w :=
  wp_region_quiet (C := C) hm hB hC (by simpa using h)
end
theorem qFr {P : Program} {f : FuncId} {args : Array Value} {W w : World} {v : Value} (hw : Fr W w) (h : Calls P f args w fun e w' => e = .returned v ∧ Fr w w') : Calls P f args w fun e w' => e = .returned v ∧ Fr W w' :=
  h.mono fun _ _ ⟨he, hf⟩ => ⟨he, hw.trans hf⟩
theorem qEq {P : Program} {f : FuncId} {args : Array Value} {W w : World} {v : Value} (hw : Fr W w) (h : Calls P f args w fun e w' => e = .returned v ∧ w = w') : Calls P f args w fun e w' => e = .returned v ∧ Fr W w' :=
  h.mono fun _ _ ⟨he, hf⟩ => ⟨he, hf ▸ hw⟩
theorem Fr.draw (w : World) : Fr w { w with drawn := w.drawn + 1 } := ⟨rfl, rfl, rfl, Nat.le_refl _, fun _ _ => rfl⟩
end Go.Proofs.Ytgdmkiobidnhnaa
