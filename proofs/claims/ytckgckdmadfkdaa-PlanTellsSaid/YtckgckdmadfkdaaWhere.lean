/-
  The walks of Where: what a cell is. Conditions: the config may be, or it may not; the cell fits its kind.
-/
import Derived.Test.YtckgckdmadfkdaaWalks2
namespace Go.Proofs.Ytckgckdmadfkdaa
open Go.RowKit


theorem where_cfg (a p s q t e : Int) (w w1 : World) (f1 : Fr ((w.alloc (Obj.cells #[Value.int .i64 a, .int .i64 p, .int .i64 s, .int .i64 q, .int .i64 t, .int .u64 e] 24)).alloc (.cells #[Value.string { data := #[101, 112, 111, 99, 104] }, Value.string { data := #[113, 117, 101, 117, 101] }, Value.string { data := #[100, 114, 97, 105, 110, 101, 100] }, Value.string { data := #[112, 105, 110] }, Value.string { data := #[114, 105, 110, 103] }, Value.string { data := #[107, 101, 121] }, Value.string { data := #[104, 101, 97, 100] }] 49)) w1) : ∀ o, o < 6 → ∀ w', Fr w1 w' → w'.cell? ⟨w.heap.size, o, none⟩ = #[Value.int .i64 a, .int .i64 p, .int .i64 s, .int .i64 q, .int .i64 t, .int .u64 e][o]? := by
  intro o ho w' hw'
  rw [(f1.trans hw').cell (by simp; omega), World.cell?_alloc_lt _ _ _ (by simp)]
  simp
theorem where_names (a p s q t e : Int) (w w1 : World) (f1 : Fr ((w.alloc (Obj.cells #[Value.int .i64 a, .int .i64 p, .int .i64 s, .int .i64 q, .int .i64 t, .int .u64 e] 24)).alloc (.cells #[Value.string { data := #[101, 112, 111, 99, 104] }, Value.string { data := #[113, 117, 101, 117, 101] }, Value.string { data := #[100, 114, 97, 105, 110, 101, 100] }, Value.string { data := #[112, 105, 110] }, Value.string { data := #[114, 105, 110, 103] }, Value.string { data := #[107, 101, 121] }, Value.string { data := #[104, 101, 97, 100] }] 49)) w1) : ∀ o, o < 7 → ∀ w', Fr w1 w' → w'.cell? ⟨w.heap.size + 1, o, none⟩ = #[Value.string { data := #[101, 112, 111, 99, 104] }, Value.string { data := #[113, 117, 101, 117, 101] }, Value.string { data := #[100, 114, 97, 105, 110, 101, 100] }, Value.string { data := #[112, 105, 110] }, Value.string { data := #[114, 105, 110, 103] }, Value.string { data := #[107, 101, 121] }, Value.string { data := #[104, 101, 97, 100] }][o]? := by
  intro o ho w' hw'
  rw [(f1.trans hw').cell (by simp)]
  have e1 : w.heap.size + 1 = (w.alloc (Obj.cells #[Value.int .i64 a, .int .i64 p, .int .i64 s, .int .i64 q, .int .i64 t, .int .u64 e] 24)).heap.size := by simp
  rw [e1]
  simp

set_option maxHeartbeats 400000 in
theorem where_no (a p s q t e i : Int) (h : ¬ RightC a p s q t) (h1 : -9223372036854775808 ≤ i) (h2 : i ≤ 9223372036854775807) (w : World) :
    Calls Try.prog 18 #[.agg #[.int .i64 a, .int .i64 p, .int .i64 s, .int .i64 q, .int .i64 t, .int .u64 e], .int .i64 i] w fun e w' => e = .returned (.tuple #[.string { data := #[] }, .int .i64 0]) ∧ Fr w w' := by
  have hr := size_no a p s q t e h
  have hw0 := within_no i 0 (-1) (by omega)
  go_enter Try.func18, Try.ntmps18
  go_wp2_with fail
  refine (hr _).mono ?_
  rintro e w1 ⟨rfl, f1⟩
  go_wp2_with fail
  refine (hw0 _).mono ?_
  rintro e w' ⟨rfl, rfl⟩
  go_wp2
  go_ret2
  exact ⟨rfl, ((((Fr.refl w).alloc _).alloc _).trans f1)⟩

set_option maxHeartbeats 400000 in
theorem where_out (a p s q t e i : Int) (h : RightC a p s q t) (ho : ¬ (0 ≤ i ∧ i ≤ 3 + p + a + 2 * s - 1)) (w : World) :
    Calls Try.prog 18 #[.agg #[.int .i64 a, .int .i64 p, .int .i64 s, .int .i64 q, .int .i64 t, .int .u64 e], .int .i64 i] w fun e w' => e = .returned (.tuple #[.string { data := #[] }, .int .i64 0]) ∧ Fr w w' := by
  have hr := size_yes a p s q t e h
  obtain ⟨a1, a2, p1, p2, s1, s2, q1, q2, t1, t2⟩ := h
  have hw0 := within_no i 0 (3 + p + a + 2 * s - 1) ho
  clear ho
  go_enter Try.func18, Try.ntmps18
  go_wp2_with fail
  refine (hr _).mono ?_
  rintro e w1 ⟨rfl, f1⟩
  go_wp2_with fail
  refine (hw0 _).mono ?_
  rintro e w' ⟨rfl, rfl⟩
  go_wp2
  go_ret2
  exact ⟨rfl, ((((Fr.refl w).alloc _).alloc _).trans f1)⟩

set_option maxHeartbeats 400000 in
theorem where_epoch (a p s q t e : Int) (h : RightC a p s q t) (w : World) :
    Calls Try.prog 18 #[.agg #[.int .i64 a, .int .i64 p, .int .i64 s, .int .i64 q, .int .i64 t, .int .u64 e], .int .i64 0] w fun e w' => e = .returned (.tuple #[.string { data := #[101, 112, 111, 99, 104] }, .int .i64 0]) ∧ Fr w w' := by
  have hr := size_yes a p s q t e h
  obtain ⟨a1, a2, p1, p2, s1, s2, q1, q2, t1, t2⟩ := h
  have hw0 := within_yes 0 0 (3 + p + a + 2 * s - 1) (by omega) (by omega)
  have hg := ring_any a p s q t e p1 p2
  have hs := shelves_any a p s q t e p1 p2 a1 a2
  go_enter Try.func18, Try.ntmps18
  go_wp2_with fail
  refine (hr _).mono ?_
  rintro e w1 ⟨rfl, f1⟩
  have c0 := where_cfg a p s q t _ w w1 f1
  have n0 := where_names a p s q t _ w w1 f1
  have f0 := (((Fr.refl w).alloc _).alloc _).trans f1
  have r1 := Fr.refl w1
  clear f1
  generalize w.heap.size = B at *
  go_wp2_with fail
  refine (hw0 _).mono ?_
  rintro e w' ⟨rfl, rfl⟩
  have x := n0 0 (by omega) w1 (Fr.refl _)
  simp only [List.getElem?_toArray, List.getElem?_cons_zero] at x
  clear n0 c0
  go_wp2
  go_ret2
  exact ⟨rfl, f0⟩

set_option maxHeartbeats 400000 in
theorem where_queue (a p s q t e : Int) (h : RightC a p s q t) (w : World) :
    Calls Try.prog 18 #[.agg #[.int .i64 a, .int .i64 p, .int .i64 s, .int .i64 q, .int .i64 t, .int .u64 e], .int .i64 1] w fun e w' => e = .returned (.tuple #[.string { data := #[113, 117, 101, 117, 101] }, .int .i64 0]) ∧ Fr w w' := by
  have hr := size_yes a p s q t e h
  obtain ⟨a1, a2, p1, p2, s1, s2, q1, q2, t1, t2⟩ := h
  have hw0 := within_yes 1 0 (3 + p + a + 2 * s - 1) (by omega) (by omega)
  have hg := ring_any a p s q t e p1 p2
  have hs := shelves_any a p s q t e p1 p2 a1 a2
  go_enter Try.func18, Try.ntmps18
  go_wp2_with fail
  refine (hr _).mono ?_
  rintro e w1 ⟨rfl, f1⟩
  have c0 := where_cfg a p s q t _ w w1 f1
  have n0 := where_names a p s q t _ w w1 f1
  have f0 := (((Fr.refl w).alloc _).alloc _).trans f1
  have r1 := Fr.refl w1
  clear f1
  generalize w.heap.size = B at *
  go_wp2_with fail
  refine (hw0 _).mono ?_
  rintro e w' ⟨rfl, rfl⟩
  have x := n0 1 (by omega) w1 (Fr.refl _)
  simp only [List.getElem?_toArray, List.getElem?_cons_succ, List.getElem?_cons_zero] at x
  clear n0 c0
  go_wp2
  go_ret2
  exact ⟨rfl, f0⟩

set_option maxHeartbeats 400000 in
theorem where_drained (a p s q t e : Int) (h : RightC a p s q t) (w : World) :
    Calls Try.prog 18 #[.agg #[.int .i64 a, .int .i64 p, .int .i64 s, .int .i64 q, .int .i64 t, .int .u64 e], .int .i64 2] w fun e w' => e = .returned (.tuple #[.string { data := #[100, 114, 97, 105, 110, 101, 100] }, .int .i64 0]) ∧ Fr w w' := by
  have hr := size_yes a p s q t e h
  obtain ⟨a1, a2, p1, p2, s1, s2, q1, q2, t1, t2⟩ := h
  have hw0 := within_yes 2 0 (3 + p + a + 2 * s - 1) (by omega) (by omega)
  have hg := ring_any a p s q t e p1 p2
  have hs := shelves_any a p s q t e p1 p2 a1 a2
  go_enter Try.func18, Try.ntmps18
  go_wp2_with fail
  refine (hr _).mono ?_
  rintro e w1 ⟨rfl, f1⟩
  have c0 := where_cfg a p s q t _ w w1 f1
  have n0 := where_names a p s q t _ w w1 f1
  have f0 := (((Fr.refl w).alloc _).alloc _).trans f1
  have r1 := Fr.refl w1
  clear f1
  generalize w.heap.size = B at *
  go_wp2_with fail
  refine (hw0 _).mono ?_
  rintro e w' ⟨rfl, rfl⟩
  have x := n0 2 (by omega) w1 (Fr.refl _)
  simp only [List.getElem?_toArray, List.getElem?_cons_succ, List.getElem?_cons_zero] at x
  clear n0 c0
  go_wp2
  go_ret2
  exact ⟨rfl, f0⟩

set_option maxHeartbeats 400000 in
theorem where_pin (a p s q t e i : Int) (h : RightC a p s q t) (h1 : 3 ≤ i) (h2 : i < 3 + p) (w : World) :
    Calls Try.prog 18 #[.agg #[.int .i64 a, .int .i64 p, .int .i64 s, .int .i64 q, .int .i64 t, .int .u64 e], .int .i64 i] w fun e w' => e = .returned (.tuple #[.string { data := #[112, 105, 110] }, .int .i64 (i - 3)]) ∧ Fr w w' := by
  have hr := size_yes a p s q t e h
  obtain ⟨a1, a2, p1, p2, s1, s2, q1, q2, t1, t2⟩ := h
  have hw0 := within_yes i 0 (3 + p + a + 2 * s - 1) (by omega) (by omega)
  have hg := ring_any a p s q t e p1 p2
  have hs := shelves_any a p s q t e p1 p2 a1 a2
  go_enter Try.func18, Try.ntmps18
  go_wp2_with fail
  refine (hr _).mono ?_
  rintro e w1 ⟨rfl, f1⟩
  have c0 := where_cfg a p s q t _ w w1 f1
  have n0 := where_names a p s q t _ w w1 f1
  have f0 := (((Fr.refl w).alloc _).alloc _).trans f1
  have r1 := Fr.refl w1
  clear f1
  generalize w.heap.size = B at *
  go_wp2_with fail
  refine (hw0 _).mono ?_
  rintro e w' ⟨rfl, rfl⟩
  go_wp2_with fail
  refine (hg _).mono ?_
  rintro e w2 ⟨rfl, f2⟩
  have x := n0 3 (by omega) w2 f2
  simp only [List.getElem?_toArray, List.getElem?_cons_succ, List.getElem?_cons_zero] at x
  clear n0 c0
  go_wp2
  go_ret2
  exact ⟨rfl, f0.trans f2⟩

set_option maxHeartbeats 400000 in
theorem where_ring (a p s q t e i : Int) (h : RightC a p s q t) (h1 : 3 + p ≤ i) (h2 : i < 3 + p + a) (w : World) :
    Calls Try.prog 18 #[.agg #[.int .i64 a, .int .i64 p, .int .i64 s, .int .i64 q, .int .i64 t, .int .u64 e], .int .i64 i] w fun e w' => e = .returned (.tuple #[.string { data := #[114, 105, 110, 103] }, .int .i64 (i - (3 + p))]) ∧ Fr w w' := by
  have hr := size_yes a p s q t e h
  obtain ⟨a1, a2, p1, p2, s1, s2, q1, q2, t1, t2⟩ := h
  have hw0 := within_yes i 0 (3 + p + a + 2 * s - 1) (by omega) (by omega)
  have hg := ring_any a p s q t e p1 p2
  have hs := shelves_any a p s q t e p1 p2 a1 a2
  go_enter Try.func18, Try.ntmps18
  go_wp2_with fail
  refine (hr _).mono ?_
  rintro e w1 ⟨rfl, f1⟩
  have c0 := where_cfg a p s q t _ w w1 f1
  have n0 := where_names a p s q t _ w w1 f1
  have f0 := (((Fr.refl w).alloc _).alloc _).trans f1
  have r1 := Fr.refl w1
  clear f1
  generalize w.heap.size = B at *
  go_wp2_with fail
  refine (hw0 _).mono ?_
  rintro e w' ⟨rfl, rfl⟩
  go_wp2_with fail
  refine (hg _).mono ?_
  rintro e w2 ⟨rfl, f2⟩
  have r2 := Fr.refl w2
  have c1 : ∀ o, o < 6 → ∀ w', Fr w2 w' → _ := fun o ho w' hw' => c0 o ho w' (f2.trans hw')
  have n1 : ∀ o, o < 7 → ∀ w', Fr w2 w' → _ := fun o ho w' hw' => n0 o ho w' (f2.trans hw')
  clear n0
  have f3 := f0.trans f2
  clear f0
  go_wp2_with fail
  refine (hs _).mono ?_
  rintro e w3 ⟨rfl, f4⟩
  have r3 := Fr.refl w3
  have c2 : ∀ o, o < 6 → ∀ w', Fr w3 w' → _ := fun o ho w' hw' => c1 o ho w' (f4.trans hw')
  have n2 : ∀ o, o < 7 → ∀ w', Fr w3 w' → _ := fun o ho w' hw' => n1 o ho w' (f4.trans hw')
  have f5 := f3.trans f4
  clear n1 c1 c0 f3 f4 f2
  go_wp2_with fail
  refine wp_region_class (Fr w3) (by kernel_rfl) (by kernel_rfl) (Fr.draw _) ?_
  repeat (first
    | (refine wpQuiet_val rfl ?_
       apply Exists.intro
       refine ⟨?_, ?_⟩
       focus (intro w' hw'; go_simp; (try go_bits); with_reducible rfl)
       simp only [Act.put, List.setIfInBounds_toArray, List.set_cons_zero, List.set_cons_succ])
    | (refine wpQuiet_pass rfl ?_
       simp only [Act.put, List.setIfInBounds_toArray, List.set_cons_zero, List.set_cons_succ])
    | (refine wpQuiet_enter rfl ?_
       apply Exists.intro
       apply Exists.intro
       apply Exists.intro
       refine ⟨?_, ?_, ?_⟩
       focus (intro w' hw'; go_simp; exact ⟨rfl, rfl⟩)
       focus (intro w' hw'; with_reducible first | exact qFr hw' (hg w'))
       simp only [Act.put, List.setIfInBounds_toArray, List.set_cons_zero, List.set_cons_succ]))
  refine wpQuiet_nil ?_
  intro w' hw'
  go_wp2
  go_ret2
  exact ⟨rfl, f5.trans hw'⟩
end Go.Proofs.Ytckgckdmadfkdaa
