/-
  The program and the document tell the same cell of each thing, and the same thing of each cell. Conditions: the config may be.
-/
import Derived.Test.YtckgckdmadfkdaaAt
namespace Go.Proofs.Ytckgckdmadfkdaa
open Go.RowKit

/-- The seven kinds of cells. -/
theorem cellOf_cases (p a s k : Nat) (hk : k < 3 + p + a + 2 * s) : (k = 0 ∧ cellOf p a k = (({ data := #[101, 112, 111, 99, 104] } : ByteArray), 0)) ∨ (k = 1 ∧ cellOf p a k = (({ data := #[113, 117, 101, 117, 101] } : ByteArray), 0)) ∨ (k = 2 ∧ cellOf p a k = (({ data := #[100, 114, 97, 105, 110, 101, 100] } : ByteArray), 0)) ∨
    (∃ j, j < p ∧ k = 3 + j ∧ cellOf p a k = (({ data := #[112, 105, 110] } : ByteArray), j)) ∨ (∃ j, j < a ∧ k = 3 + p + j ∧ cellOf p a k = (({ data := #[114, 105, 110, 103] } : ByteArray), j)) ∨ (∃ j, j < s ∧ k = 3 + p + a + 2 * j ∧ cellOf p a k = (({ data := #[107, 101, 121] } : ByteArray), j)) ∨
    (∃ j, j < s ∧ k = 3 + p + a + 2 * j + 1 ∧ cellOf p a k = (({ data := #[104, 101, 97, 100] } : ByteArray), j)) := by
  by_cases h0 : k = 0
  · exact .inl ⟨h0, by unfold cellOf; rw [if_pos h0]⟩
  · by_cases h1 : k = 1
    · exact .inr (.inl ⟨h1, by unfold cellOf; rw [if_neg h0, if_pos h1]⟩)
    · by_cases h2 : k = 2
      · exact .inr (.inr (.inl ⟨h2, by unfold cellOf; rw [if_neg h0, if_neg h1, if_pos h2]⟩))
      · by_cases h3 : k < 3 + p
        · obtain ⟨j, rfl⟩ : ∃ j, k = 3 + j := ⟨k - 3, by omega⟩
          exact .inr (.inr (.inr (.inl ⟨j, by omega, rfl, cellOf_pin p a j (by omega)⟩)))
        · by_cases h4 : k < 3 + p + a
          · obtain ⟨j, rfl⟩ : ∃ j, k = 3 + p + j := ⟨k - 3 - p, by omega⟩
            exact .inr (.inr (.inr (.inr (.inl ⟨j, by omega, rfl, cellOf_ring p a j (by omega)⟩))))
          · by_cases h5 : (k - 3 - p - a) % 2 = 0
            · obtain ⟨j, rfl⟩ : ∃ j, k = 3 + p + a + 2 * j := ⟨(k - 3 - p - a) / 2, by omega⟩
              exact .inr (.inr (.inr (.inr (.inr (.inl ⟨j, by omega, rfl, cellOf_key p a j⟩)))))
            · obtain ⟨j, rfl⟩ : ∃ j, k = 3 + p + a + 2 * j + 1 := ⟨(k - 3 - p - a) / 2, by omega⟩
              exact .inr (.inr (.inr (.inr (.inr (.inr ⟨j, by omega, rfl, cellOf_head p a j⟩)))))

theorem where_cell (a p s : Nat) (q t e : Int) (k : Nat) (h : RightC a p s q t) (hk : k < 3 + p + a + 2 * s) (w : World) :
    Calls Try.prog 18 #[.agg #[.int .i64 (a : Nat), .int .i64 (p : Nat), .int .i64 (s : Nat), .int .i64 q, .int .i64 t, .int .u64 e], .int .i64 k] w fun e w' => e = .returned (.tuple #[.string (cellOf p a k).1, .int .i64 ((cellOf p a k).2 : Nat)]) ∧ Fr w w' := by
  rcases cellOf_cases p a s k hk with ⟨rfl, hc⟩ | ⟨rfl, hc⟩ | ⟨rfl, hc⟩ | ⟨j, hj, rfl, hc⟩ | ⟨j, hj, rfl, hc⟩ | ⟨j, hj, rfl, hc⟩ | ⟨j, hj, rfl, hc⟩
  · rw [hc]; exact where_epoch a p s q t e h w
  · rw [hc]; exact where_queue a p s q t e h w
  · rw [hc]; exact where_drained a p s q t e h w
  · rw [hc]
    exact (where_pin a p s q t e (3 + j : Nat) h (by omega) (by omega) w).mono fun _ _ ⟨he, hf⟩ => ⟨he.trans (by congr 3; simp; omega), hf⟩
  · rw [hc]
    exact (where_ring a p s q t e (3 + p + j : Nat) h (by omega) (by omega) w).mono fun _ _ ⟨he, hf⟩ => ⟨he.trans (by congr 3; simp; omega), hf⟩
  · rw [hc]
    exact (where_key a p s q t e (3 + p + a + 2 * j : Nat) h (by omega) (by omega) (by omega) w).mono fun _ _ ⟨he, hf⟩ => ⟨he.trans (by congr 3; simp; omega), hf⟩
  · rw [hc]
    exact (where_head a p s q t e (3 + p + a + 2 * j + 1 : Nat) h (by omega) (by omega) (by omega) w).mono fun _ _ ⟨he, hf⟩ => ⟨he.trans (by congr 3; simp; omega), hf⟩

theorem pin_same (a p s : Nat) (q t e i : Int) (h : RightC a p s q t) : ∃ X : Int, (∀ w, Calls Try.prog 9 #[.agg #[.int .i64 (a : Nat), .int .i64 (p : Nat), .int .i64 (s : Nat), .int .i64 q, .int .i64 t, .int .u64 e], .int .i64 i] w fun e w' => e = .returned (.int .i64 X) ∧ Fr w w') ∧
    (∀ w, Calls Try.prog 16 #[.agg #[.int .i64 (a : Nat), .int .i64 (p : Nat), .int .i64 (s : Nat), .int .i64 q, .int .i64 t, .int .u64 e], .string ({ data := #[112, 105, 110] } : ByteArray), .int .i64 i] w fun e w' => e = .returned (.int .i64 X) ∧ Fr w w') := by
  by_cases hi : 0 ≤ i ∧ i < p
  · obtain ⟨j, rfl⟩ : ∃ j : Nat, i = j := ⟨i.toNat, by omega⟩
    refine ⟨((3 + j : Nat) : Int), fun w => (pin_in a p s q t e j h (by omega) (by omega) w).mono fun _ _ ⟨he, hf⟩ => ⟨he.trans (ret_int (by omega)), hf⟩, fun w => ?_⟩
    refine at_found a p s q t e ({ data := #[112, 105, 110] } : ByteArray) j (3 + j) h (by omega) (cellOf_pin p a j (by omega)) (fun k hk hc => ?_) w
    rcases cellOf_cases p a s k (by omega) with ⟨_, h1⟩ | ⟨_, h1⟩ | ⟨_, h1⟩ | ⟨j', _, h0, h1⟩ | ⟨j', _, h0, h1⟩ | ⟨j', _, h0, h1⟩ | ⟨j', _, h0, h1⟩ <;> rw [h1] at hc <;> simp at hc <;> omega
  · refine ⟨-1, pin_out a p s q t e i h hi, at_none a p s q t e ({ data := #[112, 105, 110] } : ByteArray) i h fun k hk hc => ?_⟩
    rcases cellOf_cases p a s k hk with ⟨_, h1⟩ | ⟨_, h1⟩ | ⟨_, h1⟩ | ⟨j', _, h0, h1⟩ | ⟨j', _, h0, h1⟩ | ⟨j', _, h0, h1⟩ | ⟨j', _, h0, h1⟩ <;> rw [h1] at hc <;> simp at hc <;> omega
theorem key_same (a p s : Nat) (q t e i : Int) (h : RightC a p s q t) : ∃ X : Int, (∀ w, Calls Try.prog 11 #[.agg #[.int .i64 (a : Nat), .int .i64 (p : Nat), .int .i64 (s : Nat), .int .i64 q, .int .i64 t, .int .u64 e], .int .i64 i] w fun e w' => e = .returned (.int .i64 X) ∧ Fr w w') ∧
    (∀ w, Calls Try.prog 16 #[.agg #[.int .i64 (a : Nat), .int .i64 (p : Nat), .int .i64 (s : Nat), .int .i64 q, .int .i64 t, .int .u64 e], .string ({ data := #[107, 101, 121] } : ByteArray), .int .i64 i] w fun e w' => e = .returned (.int .i64 X) ∧ Fr w w') := by
  by_cases hi : 0 ≤ i ∧ i < s
  · obtain ⟨j, rfl⟩ : ∃ j : Nat, i = j := ⟨i.toNat, by omega⟩
    refine ⟨((3 + p + a + 2 * j : Nat) : Int), fun w => (key_in a p s q t e j h (by omega) (by omega) w).mono fun _ _ ⟨he, hf⟩ => ⟨he.trans (ret_int (by omega)), hf⟩, fun w => ?_⟩
    refine at_found a p s q t e ({ data := #[107, 101, 121] } : ByteArray) j (3 + p + a + 2 * j) h (by omega) (cellOf_key p a j) (fun k hk hc => ?_) w
    rcases cellOf_cases p a s k (by omega) with ⟨_, h1⟩ | ⟨_, h1⟩ | ⟨_, h1⟩ | ⟨j', _, h0, h1⟩ | ⟨j', _, h0, h1⟩ | ⟨j', _, h0, h1⟩ | ⟨j', _, h0, h1⟩ <;> rw [h1] at hc <;> simp at hc <;> omega
  · refine ⟨-1, key_out a p s q t e i h hi, at_none a p s q t e ({ data := #[107, 101, 121] } : ByteArray) i h fun k hk hc => ?_⟩
    rcases cellOf_cases p a s k hk with ⟨_, h1⟩ | ⟨_, h1⟩ | ⟨_, h1⟩ | ⟨j', _, h0, h1⟩ | ⟨j', _, h0, h1⟩ | ⟨j', _, h0, h1⟩ | ⟨j', _, h0, h1⟩ <;> rw [h1] at hc <;> simp at hc <;> omega
theorem head_same (a p s : Nat) (q t e i : Int) (h : RightC a p s q t) : ∃ X : Int, (∀ w, Calls Try.prog 12 #[.agg #[.int .i64 (a : Nat), .int .i64 (p : Nat), .int .i64 (s : Nat), .int .i64 q, .int .i64 t, .int .u64 e], .int .i64 i] w fun e w' => e = .returned (.int .i64 X) ∧ Fr w w') ∧
    (∀ w, Calls Try.prog 16 #[.agg #[.int .i64 (a : Nat), .int .i64 (p : Nat), .int .i64 (s : Nat), .int .i64 q, .int .i64 t, .int .u64 e], .string ({ data := #[104, 101, 97, 100] } : ByteArray), .int .i64 i] w fun e w' => e = .returned (.int .i64 X) ∧ Fr w w') := by
  by_cases hi : 0 ≤ i ∧ i < s
  · obtain ⟨j, rfl⟩ : ∃ j : Nat, i = j := ⟨i.toNat, by omega⟩
    refine ⟨((3 + p + a + 2 * j + 1 : Nat) : Int), fun w => (head_in a p s q t e j h (by omega) (by omega) w).mono fun _ _ ⟨he, hf⟩ => ⟨he.trans (ret_int (by omega)), hf⟩, fun w => ?_⟩
    refine at_found a p s q t e ({ data := #[104, 101, 97, 100] } : ByteArray) j (3 + p + a + 2 * j + 1) h (by omega) (cellOf_head p a j) (fun k hk hc => ?_) w
    rcases cellOf_cases p a s k (by omega) with ⟨_, h1⟩ | ⟨_, h1⟩ | ⟨_, h1⟩ | ⟨j', _, h0, h1⟩ | ⟨j', _, h0, h1⟩ | ⟨j', _, h0, h1⟩ | ⟨j', _, h0, h1⟩ <;> rw [h1] at hc <;> simp at hc <;> omega
  · refine ⟨-1, head_neg a p s q t e i (key_out a p s q t e i h hi), at_none a p s q t e ({ data := #[104, 101, 97, 100] } : ByteArray) i h fun k hk hc => ?_⟩
    rcases cellOf_cases p a s k hk with ⟨_, h1⟩ | ⟨_, h1⟩ | ⟨_, h1⟩ | ⟨j', _, h0, h1⟩ | ⟨j', _, h0, h1⟩ | ⟨j', _, h0, h1⟩ | ⟨j', _, h0, h1⟩ <;> rw [h1] at hc <;> simp at hc <;> omega

set_option maxHeartbeats 400000 in
theorem refRing_in (a p s : Nat) (q t e i : Int) (h : RightC a p s q t) (h1 : 0 ≤ i) (w : World) :
    Calls Try.prog 17 #[.agg #[.int .i64 (a : Nat), .int .i64 (p : Nat), .int .i64 (s : Nat), .int .i64 q, .int .i64 t, .int .u64 e], .int .i64 i] w fun e w' => e = .returned (.int .i64 (3 + p + i % a)) ∧ Fr w w' := by
  have hr := refRight_yes a p s q t e h
  have ha : ∀ w, Calls Try.prog 16 #[.agg #[.int .i64 (a : Nat), .int .i64 (p : Nat), .int .i64 (s : Nat), .int .i64 q, .int .i64 t, .int .u64 e], .string ({ data := #[114, 105, 110, 103] } : ByteArray), .int .i64 (i % a)] w fun e w' => e = .returned (.int .i64 (3 + p + i % a)) ∧ Fr w w' := by
    intro w
    have hm1 := Int.emod_nonneg i (show (a : Int) ≠ 0 by have := h.a1; omega)
    have hm2 := Int.emod_lt_of_pos i (show (0 : Int) < a by have := h.a1; omega)
    generalize i % (a : Int) = r at *
    obtain ⟨j, rfl⟩ : ∃ j : Nat, r = j := ⟨r.toNat, by omega⟩
    refine (at_found a p s q t e ({ data := #[114, 105, 110, 103] } : ByteArray) j (3 + p + j) h (by omega) (cellOf_ring p a j (by omega)) (fun k hk hc => ?_) w).mono fun _ _ ⟨he, hf⟩ => ⟨he.trans (ret_int (by omega)), hf⟩
    rcases cellOf_cases p a s k (by omega) with ⟨_, h1⟩ | ⟨_, h1⟩ | ⟨_, h1⟩ | ⟨j', _, h0, h1⟩ | ⟨j', _, h0, h1⟩ | ⟨j', _, h0, h1⟩ | ⟨j', _, h0, h1⟩ <;> rw [h1] at hc <;> simp at hc <;> omega
  have hz : ¬ a = 0 := by have := h.a1; omega
  obtain ⟨a1, a2, p1, p2, s1, s2, q1, q2, t1, t2⟩ := h
  go_enter Try.func17, Try.ntmps17
  go_wp2_with fail
  refine (hr _).mono ?_
  rintro e w1 ⟨rfl, f1⟩
  have c0 : ∀ o, o < 6 → ∀ w', Fr w1 w' → _ := fun o ho w' hw' => cfg_cells a p s q t _ w o ho w' (f1.trans hw')
  have f0 := ((Fr.refl w).alloc _).trans f1
  go_wp2_with fail
  refine wp_region_class (Fr w1) (by kernel_rfl) (by kernel_rfl) (Fr.draw _) ?_
  repeat (first
    | (refine wpQuiet_val rfl ?_
       apply Exists.intro
       refine ⟨?_, ?_⟩
       focus (intro w' hw'; go_simp; (try go_bits); with_reducible rfl)
       simp only [Act.put, List.setIfInBounds_toArray, List.set_cons_zero, List.set_cons_succ])
    | (refine wpQuiet_pass rfl ?_
       simp only [Act.put, List.setIfInBounds_toArray, List.set_cons_zero, List.set_cons_succ])
    | (refine wpQuiet_enter rfl ?_
       apply Exists.intro
       apply Exists.intro
       apply Exists.intro
       refine ⟨?_, ?_, ?_⟩
       focus (intro w' hw'; go_simp; exact ⟨rfl, rfl⟩)
       focus (intro w' hw'; with_reducible first | exact qFr hw' (ha w'))
       simp only [Act.put, List.setIfInBounds_toArray, List.set_cons_zero, List.set_cons_succ]))
  refine wpQuiet_nil ?_
  intro w' hw'
  go_wp2
  go_ret
  exact ⟨rfl, f0.trans hw'⟩

set_option maxHeartbeats 400000 in
theorem refRing_neg (a p s q t e i : Int) (h : RightC a p s q t) (h1 : i < 0) (w : World) :
    Calls Try.prog 17 #[.agg #[.int .i64 a, .int .i64 p, .int .i64 s, .int .i64 q, .int .i64 t, .int .u64 e], .int .i64 i] w fun e w' => e = .returned (.int .i64 (-1)) ∧ Fr w w' := by
  have hr := refRight_yes a p s q t e h
  clear h
  go_enter Try.func17, Try.ntmps17
  go_wp2_with fail
  refine (hr _).mono ?_
  rintro e w1 ⟨rfl, f1⟩
  go_wp2
  go_ret
  exact ⟨rfl, ((Fr.refl w).alloc _).trans f1⟩

set_option maxHeartbeats 400000 in
theorem refRing_no (a p s q t e i : Int) (h : ¬ RightC a p s q t) (w : World) :
    Calls Try.prog 17 #[.agg #[.int .i64 a, .int .i64 p, .int .i64 s, .int .i64 q, .int .i64 t, .int .u64 e], .int .i64 i] w fun e w' => e = .returned (.int .i64 (-1)) ∧ Fr w w' := by
  have hr := refRight_no a p s q t e h
  clear h
  go_enter Try.func17, Try.ntmps17
  go_wp2_with fail
  refine (hr _).mono ?_
  rintro e w1 ⟨rfl, f1⟩
  go_wp2
  go_ret
  exact ⟨rfl, ((Fr.refl w).alloc _).trans f1⟩

theorem ring_same (a p s : Nat) (q t e i : Int) (h : RightC a p s q t) : ∃ X : Int, (∀ w, Calls Try.prog 10 #[.agg #[.int .i64 (a : Nat), .int .i64 (p : Nat), .int .i64 (s : Nat), .int .i64 q, .int .i64 t, .int .u64 e], .int .i64 i] w fun e w' => e = .returned (.int .i64 X) ∧ Fr w w') ∧
    (∀ w, Calls Try.prog 17 #[.agg #[.int .i64 (a : Nat), .int .i64 (p : Nat), .int .i64 (s : Nat), .int .i64 q, .int .i64 t, .int .u64 e], .int .i64 i] w fun e w' => e = .returned (.int .i64 X) ∧ Fr w w') := by
  by_cases hi : 0 ≤ i
  · exact ⟨_, ringT_in a p s q t e i h hi, refRing_in a p s q t e i h hi⟩
  · exact ⟨_, ringT_neg a p s q t e i h (by omega), refRing_neg a p s q t e i h (by omega)⟩
end Go.Proofs.Ytckgckdmadfkdaa
