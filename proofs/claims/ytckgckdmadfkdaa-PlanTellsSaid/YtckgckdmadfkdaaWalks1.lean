/-
  The walks of plan's small functions: within, Right, ring, shelves, Size. Conditions: none but that the numbers fit their kinds, or that the config may be.
-/
import Derived.Test.YtckgckdmadfkdaaRows
import Derived.Test.YtckgckdmadfkdaaFr
namespace Go.Proofs.Ytckgckdmadfkdaa
open Go.RowKit

theorem ret_int {k : IntKind} {a b : Int} (h : a = b) : Ending.returned (.int k a) = .returned (.int k b) := by rw [h]
theorem ret_bool {a b : Bool} (h : a = b) : Ending.returned (.bool a) = .returned (.bool b) := by rw [h]

theorem within_yes (n lo hi : Int) (h1 : lo ≤ n) (h2 : n ≤ hi) (w : World) : Calls Try.prog 19 #[.int .i64 n, .int .i64 lo, .int .i64 hi] w fun e w' => e = .returned (.bool true) ∧ w = w' := by
  go_enter Try.func19, Try.ntmps19
  go_wp2
  go_ret
  exact ⟨ret_bool (by simp), rfl⟩
theorem within_no (n lo hi : Int) (h : ¬ (lo ≤ n ∧ n ≤ hi)) (w : World) : Calls Try.prog 19 #[.int .i64 n, .int .i64 lo, .int .i64 hi] w fun e w' => e = .returned (.bool false) ∧ w = w' := by
  by_cases h1 : lo ≤ n
  · have h2 : ¬ n ≤ hi := fun h2 => h ⟨h1, h2⟩
    clear h
    go_enter Try.func19, Try.ntmps19
    go_wp2
    go_ret
    exact ⟨ret_bool (by simp), rfl⟩
  · clear h
    go_enter Try.func19, Try.ntmps19
    go_wp2
    go_ret
    exact ⟨ret_bool (by simp), rfl⟩

/-- A config that may be. -/
structure RightC (a p s q t : Int) : Prop where
  a1 : 1 ≤ a
  a2 : a ≤ 32
  p1 : 1 ≤ p
  p2 : p ≤ 8
  s1 : 1 ≤ s
  s2 : s ≤ 64
  q1 : 0 ≤ q
  q2 : q ≤ 64
  t1 : 0 ≤ t
  t2 : t ≤ 8

set_option maxHeartbeats 400000 in
theorem right_yes (a p s q t e : Int) (h : RightC a p s q t) (w : World) :
    Calls Try.prog 6 #[.agg #[.int .i64 a, .int .i64 p, .int .i64 s, .int .i64 q, .int .i64 t, .int .u64 e]] w fun e w' => e = .returned (.bool true) ∧ Fr w w' := by
  obtain ⟨a1, a2, p1, p2, s1, s2, q1, q2, t1, t2⟩ := h
  go_enter Try.func6, Try.ntmps6
  go_wp2_with fail
  refine (within_yes a 1 32 a1 a2 _).mono ?_; rintro e w' ⟨rfl, rfl⟩
  go_wp2_with fail
  refine (within_yes p 1 8 p1 p2 _).mono ?_; rintro e w' ⟨rfl, rfl⟩
  go_wp2_with fail
  refine (within_yes s 1 64 s1 s2 _).mono ?_; rintro e w' ⟨rfl, rfl⟩
  go_wp2_with fail
  refine (within_yes q 0 64 q1 q2 _).mono ?_; rintro e w' ⟨rfl, rfl⟩
  go_wp2_with fail
  refine (within_yes t 0 8 t1 t2 _).mono ?_; rintro e w' ⟨rfl, rfl⟩
  go_wp2_with fail
  go_ret
  exact ⟨rfl, (Fr.refl _).alloc _⟩

set_option maxHeartbeats 1000000 in
theorem right_no (a p s q t e : Int) (h : ¬ RightC a p s q t) (w : World) :
    Calls Try.prog 6 #[.agg #[.int .i64 a, .int .i64 p, .int .i64 s, .int .i64 q, .int .i64 t, .int .u64 e]] w fun e w' => e = .returned (.bool false) ∧ Fr w w' := by
  by_cases ha : 1 ≤ a ∧ a ≤ 32
  · obtain ⟨a1, a2⟩ := ha
    by_cases hp : 1 ≤ p ∧ p ≤ 8
    · obtain ⟨p1, p2⟩ := hp
      by_cases hs : 1 ≤ s ∧ s ≤ 64
      · obtain ⟨s1, s2⟩ := hs
        by_cases hq : 0 ≤ q ∧ q ≤ 64
        · obtain ⟨q1, q2⟩ := hq
          have ht : ¬ (0 ≤ t ∧ t ≤ 8) := fun ht => h ⟨a1, a2, p1, p2, s1, s2, q1, q2, ht.1, ht.2⟩
          clear h
          go_enter Try.func6, Try.ntmps6
          go_wp2_with fail
          refine (within_yes a 1 32 a1 a2 _).mono ?_; rintro e w' ⟨rfl, rfl⟩
          go_wp2_with fail
          refine (within_yes p 1 8 p1 p2 _).mono ?_; rintro e w' ⟨rfl, rfl⟩
          go_wp2_with fail
          refine (within_yes s 1 64 s1 s2 _).mono ?_; rintro e w' ⟨rfl, rfl⟩
          go_wp2_with fail
          refine (within_yes q 0 64 q1 q2 _).mono ?_; rintro e w' ⟨rfl, rfl⟩
          go_wp2_with fail
          refine (within_no t 0 8 ht _).mono ?_; rintro e w' ⟨rfl, rfl⟩
          go_wp2_with fail
          go_ret
          exact ⟨rfl, (Fr.refl _).alloc _⟩
        · clear h
          go_enter Try.func6, Try.ntmps6
          go_wp2_with fail
          refine (within_yes a 1 32 a1 a2 _).mono ?_; rintro e w' ⟨rfl, rfl⟩
          go_wp2_with fail
          refine (within_yes p 1 8 p1 p2 _).mono ?_; rintro e w' ⟨rfl, rfl⟩
          go_wp2_with fail
          refine (within_yes s 1 64 s1 s2 _).mono ?_; rintro e w' ⟨rfl, rfl⟩
          go_wp2_with fail
          refine (within_no q 0 64 hq _).mono ?_; rintro e w' ⟨rfl, rfl⟩
          go_wp2_with fail
          go_ret
          exact ⟨rfl, (Fr.refl _).alloc _⟩
      · clear h
        go_enter Try.func6, Try.ntmps6
        go_wp2_with fail
        refine (within_yes a 1 32 a1 a2 _).mono ?_; rintro e w' ⟨rfl, rfl⟩
        go_wp2_with fail
        refine (within_yes p 1 8 p1 p2 _).mono ?_; rintro e w' ⟨rfl, rfl⟩
        go_wp2_with fail
        refine (within_no s 1 64 hs _).mono ?_; rintro e w' ⟨rfl, rfl⟩
        go_wp2_with fail
        go_ret
        exact ⟨rfl, (Fr.refl _).alloc _⟩
    · clear h
      go_enter Try.func6, Try.ntmps6
      go_wp2_with fail
      refine (within_yes a 1 32 a1 a2 _).mono ?_; rintro e w' ⟨rfl, rfl⟩
      go_wp2_with fail
      refine (within_no p 1 8 hp _).mono ?_; rintro e w' ⟨rfl, rfl⟩
      go_wp2_with fail
      go_ret
      exact ⟨rfl, (Fr.refl _).alloc _⟩
  · clear h
    go_enter Try.func6, Try.ntmps6
    go_wp2_with fail
    refine (within_no a 1 32 ha _).mono ?_; rintro e w' ⟨rfl, rfl⟩
    go_wp2_with fail
    go_ret
    exact ⟨rfl, (Fr.refl _).alloc _⟩

set_option maxHeartbeats 400000 in
theorem ring_any (a p s q t e : Int) (h1 : 1 ≤ p) (h2 : p ≤ 8) (w : World) :
    Calls Try.prog 22 #[.agg #[.int .i64 a, .int .i64 p, .int .i64 s, .int .i64 q, .int .i64 t, .int .u64 e]] w fun e w' => e = .returned (.int .i64 (3 + p)) ∧ Fr w w' := by
  go_enter Try.func22, Try.ntmps22
  go_wp2
  go_ret
  exact ⟨rfl, (Fr.refl _).alloc _⟩

/-- A config's cells, wherever all that was there stays. -/
theorem cfg_cells (a p s q t e : Int) (w : World) : ∀ o, o < 6 → ∀ w', Fr (w.alloc (.cells #[.int .i64 a, .int .i64 p, .int .i64 s, .int .i64 q, .int .i64 t, .int .u64 e] 24)) w' →
    w'.cell? ⟨w.heap.size, o, none⟩ = #[Value.int .i64 a, .int .i64 p, .int .i64 s, .int .i64 q, .int .i64 t, .int .u64 e][o]? := by
  intro o ho w' hw'
  rw [hw'.cell (by simp)]
  simp

set_option maxHeartbeats 400000 in
theorem shelves_any (a p s q t e : Int) (h1 : 1 ≤ p) (h2 : p ≤ 8) (h3 : 1 ≤ a) (h4 : a ≤ 32) (w : World) :
    Calls Try.prog 20 #[.agg #[.int .i64 a, .int .i64 p, .int .i64 s, .int .i64 q, .int .i64 t, .int .u64 e]] w fun e w' => e = .returned (.int .i64 (3 + p + a)) ∧ Fr w w' := by
  have hr := ring_any a p s q t e h1 h2
  go_enter Try.func20, Try.ntmps20
  go_wp2_with fail
  have c0 := cfg_cells a p s q t e w
  have f0 := (Fr.refl w).alloc (.cells #[.int .i64 a, .int .i64 p, .int .i64 s, .int .i64 q, .int .i64 t, .int .u64 e] 24)
  generalize w.alloc (.cells #[.int .i64 a, .int .i64 p, .int .i64 s, .int .i64 q, .int .i64 t, .int .u64 e] 24) = W at *
  refine wp_region_class (Fr W) (by kernel_rfl) (by kernel_rfl) (Fr.draw _) ?_
  repeat (first
    | (refine wpQuiet_val rfl ?_
       apply Exists.intro
       refine ⟨?_, ?_⟩
       focus (intro w' hw'; go_simp; (try go_bits); with_reducible rfl)
       simp only [Act.put, List.setIfInBounds_toArray, List.set_cons_zero, List.set_cons_succ])
    | (refine wpQuiet_pass rfl ?_
       simp only [Act.put, List.setIfInBounds_toArray, List.set_cons_zero, List.set_cons_succ])
    | (refine wpQuiet_enter rfl ?_
       apply Exists.intro
       apply Exists.intro
       apply Exists.intro
       refine ⟨?_, ?_, ?_⟩
       focus (intro w' hw'; go_simp; exact ⟨rfl, rfl⟩)
       focus (intro w' hw'; with_reducible first | exact qFr hw' (hr w'))
       simp only [Act.put, List.setIfInBounds_toArray, List.set_cons_zero, List.set_cons_succ]))
  refine wpQuiet_nil ?_
  intro w' hw'
  go_wp2
  go_ret
  exact ⟨rfl, f0.trans hw'⟩

set_option maxHeartbeats 400000 in
theorem size_yes (a p s q t e : Int) (h : RightC a p s q t) (w : World) :
    Calls Try.prog 7 #[.agg #[.int .i64 a, .int .i64 p, .int .i64 s, .int .i64 q, .int .i64 t, .int .u64 e]] w fun e w' => e = .returned (.int .i64 (3 + p + a + 2 * s)) ∧ Fr w w' := by
  have hr := right_yes a p s q t e h
  obtain ⟨a1, a2, p1, p2, s1, s2, q1, q2, t1, t2⟩ := h
  have hs := shelves_any a p s q t e p1 p2 a1 a2
  go_enter Try.func7, Try.ntmps7
  go_wp2_with fail
  refine (hr _).mono ?_
  rintro e w1 ⟨rfl, f1⟩
  have c0 : ∀ o, o < 6 → ∀ w', Fr w1 w' → _ := fun o ho w' hw' => cfg_cells a p s q t _ w o ho w' (f1.trans hw')
  have f0 := ((Fr.refl w).alloc _).trans f1
  go_wp2_with fail
  refine wp_region_class (Fr w1) (by kernel_rfl) (by kernel_rfl) (Fr.draw _) ?_
  repeat (first
    | (refine wpQuiet_val rfl ?_
       apply Exists.intro
       refine ⟨?_, ?_⟩
       focus (intro w' hw'; go_simp; (try go_bits); with_reducible rfl)
       simp only [Act.put, List.setIfInBounds_toArray, List.set_cons_zero, List.set_cons_succ])
    | (refine wpQuiet_pass rfl ?_
       simp only [Act.put, List.setIfInBounds_toArray, List.set_cons_zero, List.set_cons_succ])
    | (refine wpQuiet_enter rfl ?_
       apply Exists.intro
       apply Exists.intro
       apply Exists.intro
       refine ⟨?_, ?_, ?_⟩
       focus (intro w' hw'; go_simp; exact ⟨rfl, rfl⟩)
       focus (intro w' hw'; with_reducible first | exact qFr hw' (hs w'))
       simp only [Act.put, List.setIfInBounds_toArray, List.set_cons_zero, List.set_cons_succ]))
  refine wpQuiet_nil ?_
  intro w' hw'
  go_wp2
  go_ret
  exact ⟨rfl, f0.trans hw'⟩

set_option maxHeartbeats 400000 in
theorem size_no (a p s q t e : Int) (h : ¬ RightC a p s q t) (w : World) :
    Calls Try.prog 7 #[.agg #[.int .i64 a, .int .i64 p, .int .i64 s, .int .i64 q, .int .i64 t, .int .u64 e]] w fun e w' => e = .returned (.int .i64 0) ∧ Fr w w' := by
  have hr := right_no a p s q t e h
  go_enter Try.func7, Try.ntmps7
  go_wp2_with fail
  refine (hr _).mono ?_
  rintro e w1 ⟨rfl, f1⟩
  go_wp2
  go_ret
  exact ⟨rfl, ((Fr.refl w).alloc _).trans f1⟩

end Go.Proofs.Ytckgckdmadfkdaa
