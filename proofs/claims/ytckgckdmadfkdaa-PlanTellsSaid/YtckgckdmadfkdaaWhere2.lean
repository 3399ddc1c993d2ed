/-
  The walks of Where, the cells of the shelves: keys and heads. Conditions: the config may be.
-/
import Derived.Test.YtckgckdmadfkdaaWhere
namespace Go.Proofs.Ytckgckdmadfkdaa
open Go.RowKit

set_option maxHeartbeats 400000 in
theorem where_key (a p s q t e i : Int) (h : RightC a p s q t) (h1 : 3 + p + a ≤ i) (h2 : i < 3 + p + a + 2 * s) (hm : (i - (3 + p + a)) % 2 = 0) (w : World) :
    Calls Try.prog 18 #[.agg #[.int .i64 a, .int .i64 p, .int .i64 s, .int .i64 q, .int .i64 t, .int .u64 e], .int .i64 i] w fun e w' => e = .returned (.tuple #[.string { data := #[107, 101, 121] }, .int .i64 ((i - (3 + p + a)) / 2)]) ∧ Fr w w' := by
  have hr := size_yes a p s q t e h
  obtain ⟨a1, a2, p1, p2, s1, s2, q1, q2, t1, t2⟩ := h
  have hw0 := within_yes i 0 (3 + p + a + 2 * s - 1) (by omega) (by omega)
  have hg := ring_any a p s q t e p1 p2
  have hs := shelves_any a p s q t e p1 p2 a1 a2
  go_enter Try.func18, Try.ntmps18
  go_wp2_with fail
  refine (hr _).mono ?_
  rintro e w1 ⟨rfl, f1⟩
  have c0 := where_cfg a p s q t _ w w1 f1
  have n0 := where_names a p s q t _ w w1 f1
  have f0 := (((Fr.refl w).alloc _).alloc _).trans f1
  have r1 := Fr.refl w1
  clear f1
  generalize w.heap.size = B at *
  go_wp2_with fail
  refine (hw0 _).mono ?_
  rintro e w' ⟨rfl, rfl⟩
  go_wp2_with fail
  refine (hg _).mono ?_
  rintro e w2 ⟨rfl, f2⟩
  have r2 := Fr.refl w2
  have c1 : ∀ o, o < 6 → ∀ w', Fr w2 w' → _ := fun o ho w' hw' => c0 o ho w' (f2.trans hw')
  have n1 : ∀ o, o < 7 → ∀ w', Fr w2 w' → _ := fun o ho w' hw' => n0 o ho w' (f2.trans hw')
  clear n0
  have f3 := f0.trans f2
  clear f0
  go_wp2_with fail
  refine (hs _).mono ?_
  rintro e w3 ⟨rfl, f4⟩
  have r3 := Fr.refl w3
  have c2 : ∀ o, o < 6 → ∀ w', Fr w3 w' → _ := fun o ho w' hw' => c1 o ho w' (f4.trans hw')
  have n2 : ∀ o, o < 7 → ∀ w', Fr w3 w' → _ := fun o ho w' hw' => n1 o ho w' (f4.trans hw')
  have f5 := f3.trans f4
  clear n1 c1 c0 f3 f4 f2
  go_wp2_with fail
  refine (hs _).mono ?_
  rintro e w4 ⟨rfl, f6⟩
  have x := n2 5 (by omega) w4 f6
  simp only [List.getElem?_toArray, List.getElem?_cons_succ, List.getElem?_cons_zero] at x
  have f7 := f5.trans f6
  clear n2 c2 f5 f6
  go_wp2
  go_ret2
  exact ⟨rfl, f7⟩

set_option maxHeartbeats 400000 in
theorem where_head (a p s q t e i : Int) (h : RightC a p s q t) (h1 : 3 + p + a ≤ i) (h2 : i < 3 + p + a + 2 * s) (hm : (i - (3 + p + a)) % 2 = 1) (w : World) :
    Calls Try.prog 18 #[.agg #[.int .i64 a, .int .i64 p, .int .i64 s, .int .i64 q, .int .i64 t, .int .u64 e], .int .i64 i] w fun e w' => e = .returned (.tuple #[.string { data := #[104, 101, 97, 100] }, .int .i64 ((i - (3 + p + a)) / 2)]) ∧ Fr w w' := by
  have hr := size_yes a p s q t e h
  obtain ⟨a1, a2, p1, p2, s1, s2, q1, q2, t1, t2⟩ := h
  have hw0 := within_yes i 0 (3 + p + a + 2 * s - 1) (by omega) (by omega)
  have hg := ring_any a p s q t e p1 p2
  have hs := shelves_any a p s q t e p1 p2 a1 a2
  go_enter Try.func18, Try.ntmps18
  go_wp2_with fail
  refine (hr _).mono ?_
  rintro e w1 ⟨rfl, f1⟩
  have c0 := where_cfg a p s q t _ w w1 f1
  have n0 := where_names a p s q t _ w w1 f1
  have f0 := (((Fr.refl w).alloc _).alloc _).trans f1
  have r1 := Fr.refl w1
  clear f1
  generalize w.heap.size = B at *
  go_wp2_with fail
  refine (hw0 _).mono ?_
  rintro e w' ⟨rfl, rfl⟩
  go_wp2_with fail
  refine (hg _).mono ?_
  rintro e w2 ⟨rfl, f2⟩
  have r2 := Fr.refl w2
  have c1 : ∀ o, o < 6 → ∀ w', Fr w2 w' → _ := fun o ho w' hw' => c0 o ho w' (f2.trans hw')
  have n1 : ∀ o, o < 7 → ∀ w', Fr w2 w' → _ := fun o ho w' hw' => n0 o ho w' (f2.trans hw')
  clear n0
  have f3 := f0.trans f2
  clear f0
  go_wp2_with fail
  refine (hs _).mono ?_
  rintro e w3 ⟨rfl, f4⟩
  have r3 := Fr.refl w3
  have c2 : ∀ o, o < 6 → ∀ w', Fr w3 w' → _ := fun o ho w' hw' => c1 o ho w' (f4.trans hw')
  have n2 : ∀ o, o < 7 → ∀ w', Fr w3 w' → _ := fun o ho w' hw' => n1 o ho w' (f4.trans hw')
  have f5 := f3.trans f4
  clear n1 c1 c0 f3 f4 f2
  go_wp2_with fail
  refine (hs _).mono ?_
  rintro e w4 ⟨rfl, f6⟩
  have x := n2 6 (by omega) w4 f6
  simp only [List.getElem?_toArray, List.getElem?_cons_succ, List.getElem?_cons_zero] at x
  have f7 := f5.trans f6
  clear n2 c2 f5 f6
  go_wp2
  go_ret2
  exact ⟨rfl, f7⟩

end Go.Proofs.Ytckgckdmadfkdaa
