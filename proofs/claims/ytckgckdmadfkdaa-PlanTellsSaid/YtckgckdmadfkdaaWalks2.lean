/-
  The walks of Pin, Ring, Key and Head: where a thing stands. Conditions: none but that the numbers fit their kinds, or that the config may be.
-/
import Derived.Test.YtckgckdmadfkdaaWalks1
namespace Go.Proofs.Ytckgckdmadfkdaa
open Go.RowKit

set_option maxHeartbeats 400000 in
theorem pin_in (a p s q t e i : Int) (h : RightC a p s q t) (h1 : 0 ≤ i) (h2 : i < p) (w : World) :
    Calls Try.prog 9 #[.agg #[.int .i64 a, .int .i64 p, .int .i64 s, .int .i64 q, .int .i64 t, .int .u64 e], .int .i64 i] w fun e w' => e = .returned (.int .i64 (3 + i)) ∧ Fr w w' := by
  have hr := right_yes a p s q t e h
  obtain ⟨a1, a2, p1, p2, s1, s2, q1, q2, t1, t2⟩ := h
  have hw0 := within_yes i 0 (p - 1) h1 (by omega)
  go_enter Try.func9, Try.ntmps9
  go_wp2_with fail
  refine (hr _).mono ?_
  rintro e w1 ⟨rfl, f1⟩
  have c0 : ∀ o, o < 6 → ∀ w', Fr w1 w' → _ := fun o ho w' hw' => cfg_cells a p s q t _ w o ho w' (f1.trans hw')
  have c1 := c0 1 (by omega) w1 (Fr.refl _)
  have f0 := ((Fr.refl w).alloc _).trans f1
  clear c0
  go_wp2_with fail
  refine (hw0 _).mono ?_
  rintro e w' ⟨rfl, rfl⟩
  go_wp2
  go_ret
  exact ⟨rfl, f0⟩

set_option maxHeartbeats 400000 in
theorem pin_out (a p s q t e i : Int) (h : RightC a p s q t) (h1 : ¬ (0 ≤ i ∧ i < p)) (w : World) :
    Calls Try.prog 9 #[.agg #[.int .i64 a, .int .i64 p, .int .i64 s, .int .i64 q, .int .i64 t, .int .u64 e], .int .i64 i] w fun e w' => e = .returned (.int .i64 (-1)) ∧ Fr w w' := by
  have hr := right_yes a p s q t e h
  obtain ⟨a1, a2, p1, p2, s1, s2, q1, q2, t1, t2⟩ := h
  have hw0 := within_no i 0 (p - 1) (fun hh => h1 ⟨hh.1, by omega⟩)
  clear h1
  go_enter Try.func9, Try.ntmps9
  go_wp2_with fail
  refine (hr _).mono ?_
  rintro e w1 ⟨rfl, f1⟩
  have c0 : ∀ o, o < 6 → ∀ w', Fr w1 w' → _ := fun o ho w' hw' => cfg_cells a p s q t _ w o ho w' (f1.trans hw')
  have c1 := c0 1 (by omega) w1 (Fr.refl _)
  have f0 := ((Fr.refl w).alloc _).trans f1
  clear c0
  go_wp2_with fail
  refine (hw0 _).mono ?_
  rintro e w' ⟨rfl, rfl⟩
  go_wp2
  go_ret
  exact ⟨rfl, f0⟩

set_option maxHeartbeats 400000 in
theorem pin_no (a p s q t e i : Int) (h : ¬ RightC a p s q t) (w : World) :
    Calls Try.prog 9 #[.agg #[.int .i64 a, .int .i64 p, .int .i64 s, .int .i64 q, .int .i64 t, .int .u64 e], .int .i64 i] w fun e w' => e = .returned (.int .i64 (-1)) ∧ Fr w w' := by
  have hr := right_no a p s q t e h
  go_enter Try.func9, Try.ntmps9
  go_wp2_with fail
  refine (hr _).mono ?_
  rintro e w1 ⟨rfl, f1⟩
  go_wp2
  go_ret
  exact ⟨rfl, ((Fr.refl w).alloc _).trans f1⟩

set_option maxHeartbeats 400000 in
theorem ringT_in (a p s q t e i : Int) (h : RightC a p s q t) (h1 : 0 ≤ i) (w : World) :
    Calls Try.prog 10 #[.agg #[.int .i64 a, .int .i64 p, .int .i64 s, .int .i64 q, .int .i64 t, .int .u64 e], .int .i64 i] w fun e w' => e = .returned (.int .i64 (3 + p + i % a)) ∧ Fr w w' := by
  have hr := right_yes a p s q t e h
  obtain ⟨a1, a2, p1, p2, s1, s2, q1, q2, t1, t2⟩ := h
  have hg := ring_any a p s q t e p1 p2
  have hz : ¬ a = 0 := by omega
  have hm1 := Int.emod_nonneg i (show a ≠ 0 by omega)
  have hm2 := Int.emod_lt_of_pos i (show 0 < a by omega)
  go_enter Try.func10, Try.ntmps10
  go_wp2_with fail
  refine (hr _).mono ?_
  rintro e w1 ⟨rfl, f1⟩
  have c0 : ∀ o, o < 6 → ∀ w', Fr w1 w' → _ := fun o ho w' hw' => cfg_cells a p s q t _ w o ho w' (f1.trans hw')
  have f0 := ((Fr.refl w).alloc _).trans f1
  go_wp2_with fail
  refine wp_region_class (Fr w1) (by kernel_rfl) (by kernel_rfl) (Fr.draw _) ?_
  repeat (first
    | (refine wpQuiet_val rfl ?_
       apply Exists.intro
       refine ⟨?_, ?_⟩
       focus (intro w' hw'; go_simp; (try go_bits); with_reducible rfl)
       simp only [Act.put, List.setIfInBounds_toArray, List.set_cons_zero, List.set_cons_succ])
    | (refine wpQuiet_pass rfl ?_
       simp only [Act.put, List.setIfInBounds_toArray, List.set_cons_zero, List.set_cons_succ])
    | (refine wpQuiet_enter rfl ?_
       apply Exists.intro
       apply Exists.intro
       apply Exists.intro
       refine ⟨?_, ?_, ?_⟩
       focus (intro w' hw'; go_simp; exact ⟨rfl, rfl⟩)
       focus (intro w' hw'; with_reducible first | exact qFr hw' (hg w'))
       simp only [Act.put, List.setIfInBounds_toArray, List.set_cons_zero, List.set_cons_succ]))
  refine wpQuiet_nil ?_
  intro w' hw'
  go_wp2
  go_ret
  exact ⟨rfl, f0.trans hw'⟩

set_option maxHeartbeats 400000 in
theorem ringT_neg (a p s q t e i : Int) (h : RightC a p s q t) (h1 : i < 0) (w : World) :
    Calls Try.prog 10 #[.agg #[.int .i64 a, .int .i64 p, .int .i64 s, .int .i64 q, .int .i64 t, .int .u64 e], .int .i64 i] w fun e w' => e = .returned (.int .i64 (-1)) ∧ Fr w w' := by
  have hr := right_yes a p s q t e h
  go_enter Try.func10, Try.ntmps10
  go_wp2_with fail
  refine (hr _).mono ?_
  rintro e w1 ⟨rfl, f1⟩
  go_wp2
  go_ret
  exact ⟨rfl, ((Fr.refl w).alloc _).trans f1⟩

set_option maxHeartbeats 400000 in
theorem ringT_no (a p s q t e i : Int) (h : ¬ RightC a p s q t) (w : World) :
    Calls Try.prog 10 #[.agg #[.int .i64 a, .int .i64 p, .int .i64 s, .int .i64 q, .int .i64 t, .int .u64 e], .int .i64 i] w fun e w' => e = .returned (.int .i64 (-1)) ∧ Fr w w' := by
  have hr := right_no a p s q t e h
  go_enter Try.func10, Try.ntmps10
  go_wp2_with fail
  refine (hr _).mono ?_
  rintro e w1 ⟨rfl, f1⟩
  go_wp2
  go_ret
  exact ⟨rfl, ((Fr.refl w).alloc _).trans f1⟩

set_option maxHeartbeats 400000 in
theorem key_in (a p s q t e i : Int) (h : RightC a p s q t) (h1 : 0 ≤ i) (h2 : i < s) (w : World) :
    Calls Try.prog 11 #[.agg #[.int .i64 a, .int .i64 p, .int .i64 s, .int .i64 q, .int .i64 t, .int .u64 e], .int .i64 i] w fun e w' => e = .returned (.int .i64 (3 + p + a + 2 * i)) ∧ Fr w w' := by
  have hr := right_yes a p s q t e h
  obtain ⟨a1, a2, p1, p2, s1, s2, q1, q2, t1, t2⟩ := h
  have hs := shelves_any a p s q t e p1 p2 a1 a2
  have hw0 := within_yes i 0 (s - 1) h1 (by omega)
  go_enter Try.func11, Try.ntmps11
  go_wp2_with fail
  refine (hr _).mono ?_
  rintro e w1 ⟨rfl, f1⟩
  have c0 : ∀ o, o < 6 → ∀ w', Fr w1 w' → _ := fun o ho w' hw' => cfg_cells a p s q t _ w o ho w' (f1.trans hw')
  have f0 := ((Fr.refl w).alloc _).trans f1
  have x0 := c0 0 (by omega) w1 (Fr.refl _)
  have x1 := c0 1 (by omega) w1 (Fr.refl _)
  have x2 := c0 2 (by omega) w1 (Fr.refl _)
  have x3 := c0 3 (by omega) w1 (Fr.refl _)
  have x4 := c0 4 (by omega) w1 (Fr.refl _)
  have x5 := c0 5 (by omega) w1 (Fr.refl _)
  clear c0
  go_wp2_with fail
  refine (hw0 _).mono ?_
  rintro e w' ⟨rfl, rfl⟩
  go_wp2_with fail
  refine (hs _).mono ?_
  rintro e w' ⟨rfl, f2⟩
  go_wp2
  go_ret
  exact ⟨rfl, f0.trans f2⟩

set_option maxHeartbeats 400000 in
theorem key_out (a p s q t e i : Int) (h : RightC a p s q t) (h1 : ¬ (0 ≤ i ∧ i < s)) (w : World) :
    Calls Try.prog 11 #[.agg #[.int .i64 a, .int .i64 p, .int .i64 s, .int .i64 q, .int .i64 t, .int .u64 e], .int .i64 i] w fun e w' => e = .returned (.int .i64 (-1)) ∧ Fr w w' := by
  have hr := right_yes a p s q t e h
  obtain ⟨a1, a2, p1, p2, s1, s2, q1, q2, t1, t2⟩ := h
  have hw0 := within_no i 0 (s - 1) (fun hh => h1 ⟨hh.1, by omega⟩)
  clear h1
  go_enter Try.func11, Try.ntmps11
  go_wp2_with fail
  refine (hr _).mono ?_
  rintro e w1 ⟨rfl, f1⟩
  have c0 : ∀ o, o < 6 → ∀ w', Fr w1 w' → _ := fun o ho w' hw' => cfg_cells a p s q t _ w o ho w' (f1.trans hw')
  have c1 := c0 2 (by omega) w1 (Fr.refl _)
  have f0 := ((Fr.refl w).alloc _).trans f1
  clear c0
  go_wp2_with fail
  refine (hw0 _).mono ?_
  rintro e w' ⟨rfl, rfl⟩
  go_wp2
  go_ret
  exact ⟨rfl, f0⟩

set_option maxHeartbeats 400000 in
theorem key_no (a p s q t e i : Int) (h : ¬ RightC a p s q t) (w : World) :
    Calls Try.prog 11 #[.agg #[.int .i64 a, .int .i64 p, .int .i64 s, .int .i64 q, .int .i64 t, .int .u64 e], .int .i64 i] w fun e w' => e = .returned (.int .i64 (-1)) ∧ Fr w w' := by
  have hr := right_no a p s q t e h
  go_enter Try.func11, Try.ntmps11
  go_wp2_with fail
  refine (hr _).mono ?_
  rintro e w1 ⟨rfl, f1⟩
  go_wp2
  go_ret
  exact ⟨rfl, ((Fr.refl w).alloc _).trans f1⟩

set_option maxHeartbeats 400000 in
theorem head_in (a p s q t e i : Int) (h : RightC a p s q t) (h1 : 0 ≤ i) (h2 : i < s) (w : World) :
    Calls Try.prog 12 #[.agg #[.int .i64 a, .int .i64 p, .int .i64 s, .int .i64 q, .int .i64 t, .int .u64 e], .int .i64 i] w fun e w' => e = .returned (.int .i64 (3 + p + a + 2 * i + 1)) ∧ Fr w w' := by
  have hk := key_in a p s q t e i h h1 h2
  obtain ⟨a1, a2, p1, p2, s1, s2, q1, q2, t1, t2⟩ := h
  go_enter Try.func12, Try.ntmps12
  go_wp2_with fail
  refine (hk _).mono ?_
  rintro e w1 ⟨rfl, f1⟩
  go_wp2
  go_ret
  exact ⟨rfl, ((Fr.refl w).alloc _).trans f1⟩

set_option maxHeartbeats 400000 in
theorem head_neg (a p s q t e i : Int) (hk : ∀ w, Calls Try.prog 11 #[.agg #[.int .i64 a, .int .i64 p, .int .i64 s, .int .i64 q, .int .i64 t, .int .u64 e], .int .i64 i] w fun e w' => e = .returned (.int .i64 (-1)) ∧ Fr w w') (w : World) :
    Calls Try.prog 12 #[.agg #[.int .i64 a, .int .i64 p, .int .i64 s, .int .i64 q, .int .i64 t, .int .u64 e], .int .i64 i] w fun e w' => e = .returned (.int .i64 (-1)) ∧ Fr w w' := by
  go_enter Try.func12, Try.ntmps12
  go_wp2_with fail
  refine (hk _).mono ?_
  rintro e w1 ⟨rfl, f1⟩
  go_wp2
  go_ret
  exact ⟨rfl, ((Fr.refl w).alloc _).trans f1⟩
end Go.Proofs.Ytckgckdmadfkdaa
