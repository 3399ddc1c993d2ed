/-
  The chapter's example holds: awake answers true. Conditions: none.
-/
import Derived.Test.YtckgckdmadfkdaaOpen
namespace Go.Proofs.Ytckgckdmadfkdaa
open Go.RowKit

theorem rightA : RightC 2 1 1 0 0 := ⟨by omega, by omega, by omega, by omega, by omega, by omega, by omega, by omega, by omega, by omega⟩
theorem rightZ : ¬ RightC 0 0 0 0 0 := fun h => by have := h.a1; omega

theorem awake_size (w : World) : Calls Try.prog 7 #[.agg #[.int .i64 2, .int .i64 1, .int .i64 1, .int .i64 0, .int .i64 0, .int .u64 0]] w fun e w' => e = .returned (.int .i64 8) ∧ Fr w w' := size_yes 2 1 1 0 0 0 rightA w
theorem awake_key (w : World) : Calls Try.prog 11 #[.agg #[.int .i64 2, .int .i64 1, .int .i64 1, .int .i64 0, .int .i64 0, .int .u64 0], .int .i64 0] w fun e w' => e = .returned (.int .i64 6) ∧ Fr w w' := key_in 2 1 1 0 0 0 0 rightA (by omega) (by omega) w

set_option maxHeartbeats 1000000 in
theorem awake_any (w : World) : Calls Try.prog 8 #[] w fun e w' => e = .returned (.bool true) ∧ Fr w w' := by
  have hs := awake_size
  have hk := awake_key
  have ho := open_no 0 0 0 0 0 0 rightZ
  go_enter Try.func8, Try.ntmps8
  go_wp2_with fail
  refine (open_yes 2 1 1 0 0 0 rightA _).mono ?_
  rintro e w1 ⟨b, rfl, f1, m, hm, hb⟩
  have f0 := ((Fr.refl w).alloc _).trans f1
  have c0 : ∀ o, o < 6 → ∀ w', Fr w1 w' → _ := fun o ho w' hw' => cfg_cells 2 1 1 0 0 0 w o ho w' (f1.trans hw')
  have d0 : ∀ o, o < 9 → ∀ w', Fr w1 w' → w'.cell? ⟨b, o, none⟩ = #[Value.int .i64 2, .int .i64 1, .int .i64 1, .int .i64 0, .int .i64 0, .int .u64 0, .pointer (some ⟨m, 0, none⟩), .int .i64 0, .slice none 0 0][o]? := by
    intro o _ w' hw'
    simp [World.cell?, hw'.lt hb]
  have hi : ∀ w', Fr w1 w' → _ := fun w' hw' => issued_any m w' (hm.fr hw')
  clear hm hb f1
  generalize w.heap.size = B at *
  go_wp2_with fail
  refine wp_region_class (Fr w1) (by kernel_rfl) (by kernel_rfl) (Fr.draw _) ?_
  repeat (first
    | (refine wpQuiet_val rfl ?_
       apply Exists.intro
       refine ⟨?_, ?_⟩
       focus (intro w' hw'; go_simp; (try go_bits); with_reducible rfl)
       simp only [Act.put, List.setIfInBounds_toArray, List.set_cons_zero, List.set_cons_succ])
    | (refine wpQuiet_pass rfl ?_
       simp only [Act.put, List.setIfInBounds_toArray, List.set_cons_zero, List.set_cons_succ])
    | (refine wpQuiet_enter rfl ?_
       apply Exists.intro
       apply Exists.intro
       apply Exists.intro
       refine ⟨?_, ?_, ?_⟩
       focus (intro w' hw'; go_simp; exact ⟨rfl, rfl⟩)
       focus (intro w' hw'; with_reducible first | exact qFr hw' (hs w') | exact qFr hw' (hk w') | exact qFr hw' (ho w') | exact qEq hw' (hi w' hw'))
       simp only [Act.put, List.setIfInBounds_toArray, List.set_cons_zero, List.set_cons_succ]))
  refine wpQuiet_nil ?_
  intro w' hw'
  go_wp2
  go_ret
  exact ⟨rfl, f0.trans hw'⟩
end Go.Proofs.Ytckgckdmadfkdaa
