/-
  The walk of PlanBack: what stands in a cell is told of it. Conditions: none but that the numbers fit their kinds.
-/
import Derived.Test.YtckgckdmadfkdaaAwake
namespace Go.Proofs.Ytckgckdmadfkdaa
open Go.RowKit

theorem tup_eq {x : ByteArray} {a b : Int} (h : a = b) : Ending.returned (.tuple #[.string x, .int .i64 a]) = .returned (.tuple #[.string x, .int .i64 b]) := by rw [h]

theorem pin_at (a p s q t e j : Int) (h : RightC a p s q t) (h1 : 0 ≤ j) (h2 : j < p) (w : World) :
    Calls Try.prog 18 #[.agg #[.int .i64 a, .int .i64 p, .int .i64 s, .int .i64 q, .int .i64 t, .int .u64 e], .int .i64 (3 + j)] w fun e w' => e = .returned (.tuple #[.string { data := #[112, 105, 110] }, .int .i64 j]) ∧ Fr w w' :=
  (where_pin a p s q t e (3 + j) h (by omega) (by omega) w).mono fun _ _ ⟨he, hf⟩ => ⟨he.trans (tup_eq (by omega)), hf⟩
theorem ring_at (a p s q t e j : Int) (h : RightC a p s q t) (h1 : 0 ≤ j) (h2 : j < a) (w : World) :
    Calls Try.prog 18 #[.agg #[.int .i64 a, .int .i64 p, .int .i64 s, .int .i64 q, .int .i64 t, .int .u64 e], .int .i64 (3 + p + j)] w fun e w' => e = .returned (.tuple #[.string { data := #[114, 105, 110, 103] }, .int .i64 j]) ∧ Fr w w' :=
  (where_ring a p s q t e (3 + p + j) h (by omega) (by omega) w).mono fun _ _ ⟨he, hf⟩ => ⟨he.trans (tup_eq (by omega)), hf⟩
theorem key_at (a p s q t e j : Int) (h : RightC a p s q t) (h1 : 0 ≤ j) (h2 : j < s) (w : World) :
    Calls Try.prog 18 #[.agg #[.int .i64 a, .int .i64 p, .int .i64 s, .int .i64 q, .int .i64 t, .int .u64 e], .int .i64 (3 + p + a + 2 * j)] w fun e w' => e = .returned (.tuple #[.string { data := #[107, 101, 121] }, .int .i64 j]) ∧ Fr w w' :=
  (where_key a p s q t e (3 + p + a + 2 * j) h (by omega) (by omega) (by omega) w).mono fun _ _ ⟨he, hf⟩ => ⟨he.trans (tup_eq (by omega)), hf⟩
theorem head_at (a p s q t e j : Int) (h : RightC a p s q t) (h1 : 0 ≤ j) (h2 : j < s) (w : World) :
    Calls Try.prog 18 #[.agg #[.int .i64 a, .int .i64 p, .int .i64 s, .int .i64 q, .int .i64 t, .int .u64 e], .int .i64 (3 + p + a + 2 * j + 1)] w fun e w' => e = .returned (.tuple #[.string { data := #[104, 101, 97, 100] }, .int .i64 j]) ∧ Fr w w' :=
  (where_head a p s q t e (3 + p + a + 2 * j + 1) h (by omega) (by omega) (by omega) w).mono fun _ _ ⟨he, hf⟩ => ⟨he.trans (tup_eq (by omega)), hf⟩

set_option maxRecDepth 100000 in
set_option maxHeartbeats 1000000 in
theorem back_no (a p s q t e i x : Int) (h : ¬ RightC a p s q t) (i1 : 0 ≤ i) (i2 : i ≤ 255) (w : World) :
    Calls Try.prog 5 #[.agg #[.int .i64 a, .int .i64 p, .int .i64 s, .int .i64 q, .int .i64 t, .int .u64 e], .int .u8 i, .int .u32 x] w fun e w' => e = .returned (.bool true) ∧ Fr w w' := by
  have hr := right_no a p s q t e h
  have hw := where_no a p s q t e i h (by omega) (by omega)
  have ha := awake_any
  clear h
  go_enter Try.func5, Try.ntmps5
  go_wp2_with fail
  refine (hr _).mono ?_
  rintro e w1 ⟨rfl, f1⟩
  have c0 : ∀ o, o < 6 → ∀ w', Fr w1 w' → _ := fun o ho w' hw' => cfg_cells a p s q t _ w o ho w' (f1.trans hw')
  have f0 := ((Fr.refl w).alloc _).trans f1
  have r1 := Fr.refl w1
  clear f1
  go_wp2_with fail
  refine (hw _).mono ?_
  rintro e w2 ⟨rfl, f2⟩
  clear c0
  go_wp2_with fail
  refine (ha _).mono ?_
  rintro e w3 ⟨rfl, f3⟩
  go_wp2
  go_ret
  exact ⟨rfl, (f0.trans f2).trans f3⟩

set_option maxRecDepth 100000 in
set_option maxHeartbeats 2000000 in
theorem back_yes (a p s q t e i x : Int) (h : RightC a p s q t) (i1 : 0 ≤ i) (i2 : i ≤ 255) (x1 : 0 ≤ x) (x2 : x ≤ 4294967295) (w : World) :
    Calls Try.prog 5 #[.agg #[.int .i64 a, .int .i64 p, .int .i64 s, .int .i64 q, .int .i64 t, .int .u64 e], .int .u8 i, .int .u32 x] w fun e w' => e = .returned (.bool true) ∧ Fr w w' := by
  have hr := right_yes a p s q t e h
  have ha := awake_any
  obtain ⟨p0, pl, ph⟩ : ∃ j, i % p = j ∧ (0 ≤ j ∧ j < p) := ⟨_, rfl, Int.emod_nonneg _ (by have := h.p1; omega), Int.emod_lt_of_pos _ (by have := h.p1; omega)⟩
  obtain ⟨s0, sl, sh⟩ : ∃ j, i % s = j ∧ (0 ≤ j ∧ j < s) := ⟨_, rfl, Int.emod_nonneg _ (by have := h.s1; omega), Int.emod_lt_of_pos _ (by have := h.s1; omega)⟩
  obtain ⟨x0, xl, xh⟩ : ∃ j, x % a = j ∧ (0 ≤ j ∧ j < a) := ⟨_, rfl, Int.emod_nonneg _ (by have := h.a1; omega), Int.emod_lt_of_pos _ (by have := h.a1; omega)⟩
  have zp : ¬ p = 0 := by have := h.p1; omega
  have zs : ¬ s = 0 := by have := h.s1; omega
  have za : ¬ a = 0 := by have := h.a1; omega
  have k1 := pin_in a p s q t e p0 h ph.1 ph.2
  have k2 := pin_at a p s q t e p0 h ph.1 ph.2
  have k3 := ringT_in a p s q t e x h x1
  rw [xl] at k3
  have k4 := ring_at a p s q t e x0 h xh.1 xh.2
  have k5 := key_in a p s q t e s0 h sh.1 sh.2
  have k6 := key_at a p s q t e s0 h sh.1 sh.2
  have k7 := head_in a p s q t e s0 h sh.1 sh.2
  have k8 := head_at a p s q t e s0 h sh.1 sh.2
  obtain ⟨a1, a2, p1, p2, s1, s2, q1, q2, t1, t2⟩ := h
  obtain ⟨ph1, ph2⟩ := ph
  obtain ⟨sh1, sh2⟩ := sh
  obtain ⟨xh1, xh2⟩ := xh
  go_enter Try.func5, Try.ntmps5
  go_wp2_with fail
  refine (hr _).mono ?_
  rintro e w1 ⟨rfl, f1⟩
  have c0 : ∀ o, o < 6 → ∀ w', Fr w1 w' → _ := fun o ho w' hw' => cfg_cells a p s q t _ w o ho w' (f1.trans hw')
  have f0 := ((Fr.refl w).alloc _).trans f1
  clear f1
  generalize w.heap.size = B at *
  go_wp2_with fail
  refine wp_region_class (Fr w1) (by kernel_rfl) (by kernel_rfl) (Fr.draw _) ?_
  repeat (first
    | (refine wpQuiet_val rfl ?_
       apply Exists.intro
       refine ⟨?_, ?_⟩
       focus (intro w' hw'; go_simp; (try go_bits); with_reducible rfl)
       simp only [Act.put, List.setIfInBounds_toArray, List.set_cons_zero, List.set_cons_succ])
    | (refine wpQuiet_pass rfl ?_
       simp only [Act.put, List.setIfInBounds_toArray, List.set_cons_zero, List.set_cons_succ]))
  refine wpQuiet_nil ?_
  intro w2 f2
  have c1 : ∀ o, o < 6 → ∀ w', Fr w2 w' → _ := fun o ho w' hw' => c0 o ho w' (f2.trans hw')
  clear c0
  go_wp2_with fail
  refine wp_region_class (Fr w2) (by kernel_rfl) (by kernel_rfl) (Fr.draw _) ?_
  repeat (first
    | (refine wpQuiet_val rfl ?_
       apply Exists.intro
       refine ⟨?_, ?_⟩
       focus (intro w' hw'; go_simp; (try go_bits); with_reducible rfl)
       simp only [Act.put, List.setIfInBounds_toArray, List.set_cons_zero, List.set_cons_succ])
    | (refine wpQuiet_pass rfl ?_
       simp only [Act.put, List.setIfInBounds_toArray, List.set_cons_zero, List.set_cons_succ])
    | (refine wpQuiet_enter rfl ?_
       apply Exists.intro
       apply Exists.intro
       apply Exists.intro
       refine ⟨?_, ?_, ?_⟩
       focus (intro w' hw'; go_simp; exact ⟨rfl, rfl⟩)
       focus (intro w' hw'; with_reducible first | exact qFr hw' (k1 w') | exact qFr hw' (k2 w'))
       simp only [Act.put, List.setIfInBounds_toArray, List.set_cons_zero, List.set_cons_succ]))
  refine wpQuiet_nil ?_
  intro w3 f3
  have c2 : ∀ o, o < 6 → ∀ w', Fr w3 w' → _ := fun o ho w' hw' => c1 o ho w' (f3.trans hw')
  clear c1
  go_wp2_with fail
  refine wp_region_class (Fr w3) (by kernel_rfl) (by kernel_rfl) (Fr.draw _) ?_
  repeat (first
    | (refine wpQuiet_val rfl ?_
       apply Exists.intro
       refine ⟨?_, ?_⟩
       focus (intro w' hw'; go_simp; (try go_bits); with_reducible rfl)
       simp only [Act.put, List.setIfInBounds_toArray, List.set_cons_zero, List.set_cons_succ])
    | (refine wpQuiet_pass rfl ?_
       simp only [Act.put, List.setIfInBounds_toArray, List.set_cons_zero, List.set_cons_succ])
    | (refine wpQuiet_enter rfl ?_
       apply Exists.intro
       apply Exists.intro
       apply Exists.intro
       refine ⟨?_, ?_, ?_⟩
       focus (intro w' hw'; go_simp; exact ⟨rfl, rfl⟩)
       focus (intro w' hw'; with_reducible first | exact qFr hw' (k3 w') | exact qFr hw' (k4 w'))
       simp only [Act.put, List.setIfInBounds_toArray, List.set_cons_zero, List.set_cons_succ]))
  refine wpQuiet_nil ?_
  intro w4 f4
  have c3 : ∀ o, o < 6 → ∀ w', Fr w4 w' → _ := fun o ho w' hw' => c2 o ho w' (f4.trans hw')
  clear c2
  go_wp2_with fail
  refine wp_region_class (Fr w4) (by kernel_rfl) (by kernel_rfl) (Fr.draw _) ?_
  repeat (first
    | (refine wpQuiet_val rfl ?_
       apply Exists.intro
       refine ⟨?_, ?_⟩
       focus (intro w' hw'; go_simp; (try go_bits); with_reducible rfl)
       simp only [Act.put, List.setIfInBounds_toArray, List.set_cons_zero, List.set_cons_succ])
    | (refine wpQuiet_pass rfl ?_
       simp only [Act.put, List.setIfInBounds_toArray, List.set_cons_zero, List.set_cons_succ])
    | (refine wpQuiet_enter rfl ?_
       apply Exists.intro
       apply Exists.intro
       apply Exists.intro
       refine ⟨?_, ?_, ?_⟩
       focus (intro w' hw'; go_simp; exact ⟨rfl, rfl⟩)
       focus (intro w' hw'; with_reducible first | exact qFr hw' (k5 w') | exact qFr hw' (k6 w'))
       simp only [Act.put, List.setIfInBounds_toArray, List.set_cons_zero, List.set_cons_succ]))
  refine wpQuiet_nil ?_
  intro w5 f5
  have c4 : ∀ o, o < 6 → ∀ w', Fr w5 w' → _ := fun o ho w' hw' => c3 o ho w' (f5.trans hw')
  clear c3
  go_wp2_with fail
  refine wp_region_class (Fr w5) (by kernel_rfl) (by kernel_rfl) (Fr.draw _) ?_
  repeat (first
    | (refine wpQuiet_val rfl ?_
       apply Exists.intro
       refine ⟨?_, ?_⟩
       focus (intro w' hw'; go_simp; (try go_bits); with_reducible rfl)
       simp only [Act.put, List.setIfInBounds_toArray, List.set_cons_zero, List.set_cons_succ])
    | (refine wpQuiet_pass rfl ?_
       simp only [Act.put, List.setIfInBounds_toArray, List.set_cons_zero, List.set_cons_succ])
    | (refine wpQuiet_enter rfl ?_
       apply Exists.intro
       apply Exists.intro
       apply Exists.intro
       refine ⟨?_, ?_, ?_⟩
       focus (intro w' hw'; go_simp; exact ⟨rfl, rfl⟩)
       focus (intro w' hw'; with_reducible first | exact qFr hw' (k7 w') | exact qFr hw' (k8 w'))
       simp only [Act.put, List.setIfInBounds_toArray, List.set_cons_zero, List.set_cons_succ]))
  refine wpQuiet_nil ?_
  intro w6 f6
  have c5 : ∀ o, o < 6 → ∀ w', Fr w6 w' → _ := fun o ho w' hw' => c4 o ho w' (f6.trans hw')
  clear c4
  go_wp2_with fail
  refine wp_region_class (Fr w6) (by kernel_rfl) (by kernel_rfl) (Fr.draw _) ?_
  repeat (first
    | (refine wpQuiet_val rfl ?_
       apply Exists.intro
       refine ⟨?_, ?_⟩
       focus (intro w' hw'; go_simp; (try go_bits); with_reducible rfl)
       simp only [Act.put, List.setIfInBounds_toArray, List.set_cons_zero, List.set_cons_succ])
    | (refine wpQuiet_pass rfl ?_
       simp only [Act.put, List.setIfInBounds_toArray, List.set_cons_zero, List.set_cons_succ])
    | (refine wpQuiet_enter rfl ?_
       apply Exists.intro
       apply Exists.intro
       apply Exists.intro
       refine ⟨?_, ?_, ?_⟩
       focus (intro w' hw'; go_simp; exact ⟨rfl, rfl⟩)
       focus (intro w' hw'; with_reducible first | exact qFr hw' (k5 w') | exact qFr hw' (k7 w') | exact qFr hw' (ha w'))
       simp only [Act.put, List.setIfInBounds_toArray, List.set_cons_zero, List.set_cons_succ]))
  refine wpQuiet_nil ?_
  intro w7 f7
  go_wp2
  go_ret
  exact ⟨rfl, (((((f0.trans f2).trans f3).trans f4).trans f5).trans f6).trans f7⟩

theorem planBack.walk (a p s q t e i x : Int) (w1 : (Lit.int .u8 i).wf = true) (w2 : (Lit.int .u32 x).wf = true) (w : World) :
    Calls Try.prog 5 #[.agg #[.int .i64 a, .int .i64 p, .int .i64 s, .int .i64 q, .int .i64 t, .int .u64 e], .int .u8 i, .int .u32 x] w fun e w' => e = .returned (.bool true) ∧ Below w.heap.size w w' := by
  have hi : 0 ≤ i ∧ i ≤ 255 := by simpa [Lit.wf, IntKind.min, IntKind.max, IntKind.signed, IntKind.bits] using w1
  have hx : 0 ≤ x ∧ x ≤ 4294967295 := by simpa [Lit.wf, IntKind.min, IntKind.max, IntKind.signed, IntKind.bits] using w2
  by_cases h : RightC a p s q t
  · exact back_yes a p s q t e i x h hi.1 hi.2 hx.1 hx.2 w
  · exact back_no a p s q t e i x h hi.1 hi.2 w
end Go.Proofs.Ytckgckdmadfkdaa
