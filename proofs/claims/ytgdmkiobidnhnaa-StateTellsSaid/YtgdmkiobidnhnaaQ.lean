/-
  A region that draws its order, behind a wrapper that no unfolding sees through: for regions with many guarded operations. Conditions: none.
-/
import Derived.Test.YtgdmkiobidnhnaaFr
namespace Go.Proofs.Ytgdmkiobidnhnaa
open Go.RowKit

section
variable {P : Program} {ops : Array Oper} {C : World → Prop}
/-- What a region's operations, one behind another, leave. -/
structure WQ (P : Program) (ops : Array Oper) (C : World → Prop) (Q : Act → Prop) (l : List Oper) (a : Act) : Prop where
  out : wpQuiet P ops C Q l a
theorem WQ.val {Q : Act → Prop} {a : Act} {o : Oper} {rest : List Oper} (hw : Region.wanted o (yielded ops a.tmps) = true)
    (h : ∃ v, (∀ w, C w → (execOp a.eval o).run P w = .ok (.value v) w) ∧ WQ P ops C Q rest (a.put o.dst v)) : WQ P ops C Q (o :: rest) a :=
  have ⟨v, h1, h2⟩ := h; ⟨wpQuiet_val hw ⟨v, h1, h2.out⟩⟩
theorem WQ.enter {Q : Act → Prop} {a : Act} {o : Oper} {rest : List Oper} (hw : Region.wanted o (yielded ops a.tmps) = true)
    (h : ∃ f args v, (∀ w, C w → (execOp a.eval o).run P w = .ok (.enter f args) w) ∧ (∀ w, C w → Calls P f args w fun e w' => e = .returned v ∧ C w') ∧ WQ P ops C Q rest (a.put o.dst v)) : WQ P ops C Q (o :: rest) a :=
  have ⟨f, args, v, h1, h2, h3⟩ := h; ⟨wpQuiet_enter hw ⟨f, args, v, h1, h2, h3.out⟩⟩
theorem WQ.pass {Q : Act → Prop} {a : Act} {o : Oper} {rest : List Oper} (hw : Region.wanted o (yielded ops a.tmps) = false) (h : WQ P ops C Q rest (a.put o.dst undef)) : WQ P ops C Q (o :: rest) a :=
  ⟨wpQuiet_pass hw h.out⟩
theorem WQ.nil {Q : Act → Prop} {a : Act} (h : Q a) : WQ P ops C Q [] a := ⟨wpQuiet_nil h⟩
theorem wp_region_classW {id : Nat} {Q : Exit → Act → World → Prop} {a : Act} {w : World} {l : List Oper} (C : World → Prop) (hm : P.follows .mixedOrders = true) (hB : Region.lexB .any l.toArray = true) (hC : C { w with drawn := w.drawn + 1 })
    (h : WQ P l.toArray C (fun a' => ∀ w', C w' → Q .normal a' w') l a) : (Code.region id l.toArray true).wp P Q a w :=
  wp_region_class C hm hB hC h.out
end
end Go.Proofs.Ytgdmkiobidnhnaa
