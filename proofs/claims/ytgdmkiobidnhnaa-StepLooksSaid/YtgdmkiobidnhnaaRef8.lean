/-
  Which guards and steps may be: the document's answer, the same. Conditions: none.
-/
import Derived.Test.YtgdmkiobidnhnaaParts
namespace Go.Proofs.Ytgdmkiobidnhnaa
open Go.RowKit

set_option maxRecDepth 20000 in
set_option maxHeartbeats 4000000 in
theorem rgd_walk (g : Gd) (w : World) : Calls Try.prog 36 #[gdA g] w fun e w' => e = .returned (.bool (okGd g)) ∧ Fr w w' := by
  obtain ⟨k, key, val⟩ := g
  have f1 := (Fr.refl w).alloc (.cells #[.int .i64 k, .string key, .string val] 56)
  obtain ⟨r, hr⟩ : ∃ r, okGd ⟨k, key, val⟩ = r := ⟨_, rfl⟩
  rw [hr]
  unfold okGd nul at hr
  dsimp only at hr
  unfold gdA
  dsimp only
  have HH := Go.Lib.hid hr
  clear hr
  go_enter Try.func36, Try.ntmps36
  go_wp2_with fail
  all_goals
    go_ret
    refine ⟨?_, (Fr.refl w).alloc _⟩
    rw [← HH.out]
    clear HH f1
    show Ending.returned (Value.bool _) = Ending.returned (Value.bool _)
    refine congrArg (fun b => Ending.returned (Value.bool b)) ?_
    generalize val.toList.isEmpty = e
    rw [Bool.eq_iff_iff]
    cases e <;> simp <;> omega
set_option maxRecDepth 20000 in
set_option maxHeartbeats 8000000 in
theorem rsp_walk (s : Sp) (w : World) : Calls Try.prog 37 #[spA s] w fun e w' => e = .returned (.bool (okSp s)) ∧ Fr w w' := by
  obtain ⟨k, key, val, old, n⟩ := s
  have f1 := (Fr.refl w).alloc (.cells #[.int .i64 k, .string key, .string val, .string old, .int .i64 n] 58)
  obtain ⟨r, hr⟩ : ∃ r, okSp ⟨k, key, val, old, n⟩ = r := ⟨_, rfl⟩
  rw [hr]
  unfold okSp nul at hr
  dsimp only at hr
  unfold spA
  dsimp only
  have HH := Go.Lib.hid hr
  clear hr
  go_enter Try.func37, Try.ntmps37
  go_wp2_with fail
  all_goals
    go_ret
    refine ⟨?_, (Fr.refl w).alloc _⟩
    rw [← HH.out]
    clear HH f1
    show Ending.returned (Value.bool _) = Ending.returned (Value.bool _)
    refine congrArg (fun b => Ending.returned (Value.bool b)) ?_
    rw [Bool.eq_iff_iff]
    by_cases q1 : val.toList = [] <;> by_cases q2 : old.toList = [] <;> simp_all <;> omega
end Go.Proofs.Ytgdmkiobidnhnaa
