/-
  The walk of PlanTells: which configs may be, and where everything stands in the control block, is as the document says. Conditions: none but that the numbers fit their kinds.
-/
import Derived.Test.YtckgckdmadfkdaaAt2
import Derived.Deep.RegionHeld3
namespace Go.Proofs.Ytckgckdmadfkdaa
open Go.RowKit

set_option maxRecDepth 100000 in
set_option maxHeartbeats 2000000 in
theorem tells_no (a p s q t e i : Int) (h : ¬ RightC a p s q t) (i1 : -9223372036854775808 ≤ i) (i2 : i ≤ 9223372036854775807) (w : World) :
    Calls Try.prog 4 #[.agg #[.int .i64 a, .int .i64 p, .int .i64 s, .int .i64 q, .int .i64 t, .int .u64 e], .int .i64 i] w fun e w' => e = .returned (.bool true) ∧ Fr w w' := by
  have h6 := right_no a p s q t e h
  have h13 := refRight_no a p s q t e h
  have h7 := size_no a p s q t e h
  have h14 := cells_no a p s q t e h
  have h15 := open_no a p s q t e h
  have h9 := pin_no a p s q t e i h
  have h10 := ringT_no a p s q t e i h
  have h17 := refRing_no a p s q t e i h
  have h11 := key_no a p s q t e i h
  have h12 := head_neg a p s q t e i h11
  have h16 := fun nm => at_no a p s q t e nm i h
  have h18 := where_no a p s q t e i h i1 i2
  have h8 := awake_any
  clear h
  go_enter Try.func4, Try.ntmps4
  go_wp2_with fail
  have c0 := cfg_cells a p s q t e w
  have f0 := (Fr.refl w).alloc (Obj.cells #[Value.int .i64 a, .int .i64 p, .int .i64 s, .int .i64 q, .int .i64 t, .int .u64 e] 24)
  generalize w.alloc (Obj.cells #[Value.int .i64 a, .int .i64 p, .int .i64 s, .int .i64 q, .int .i64 t, .int .u64 e] 24) = W at *
  generalize w.heap.size = B at *
  refine wp_region_class (Fr W) (by kernel_rfl) (by kernel_rfl) (Fr.draw _) ?_
  repeat (first
    | (refine wpQuiet_val rfl ?_
       apply Exists.intro
       refine ⟨?_, ?_⟩
       focus (intro w' hw'; go_simp; (try go_bits); with_reducible rfl)
       simp only [Act.put, List.setIfInBounds_toArray, List.set_cons_zero, List.set_cons_succ])
    | (refine wpQuiet_pass rfl ?_
       simp only [Act.put, List.setIfInBounds_toArray, List.set_cons_zero, List.set_cons_succ])
    | (refine wpQuiet_enter rfl ?_
       apply Exists.intro
       apply Exists.intro
       apply Exists.intro
       refine ⟨?_, ?_, ?_⟩
       focus (intro w' hw'; go_simp; exact ⟨rfl, rfl⟩)
       focus (intro w' hw'; with_reducible first | exact qFr hw' (h6 w') | exact qFr hw' (h13 w') | exact qFr hw' (h7 w') | exact qFr hw' (h14 w') | exact qFr hw' (h15 w'))
       simp only [Act.put, List.setIfInBounds_toArray, List.set_cons_zero, List.set_cons_succ]))
  refine wpQuiet_nil ?_
  intro w1 f1
  have c1 : ∀ o, o < 6 → ∀ w', Fr w1 w' → _ := fun o ho w' hw' => c0 o ho w' (f1.trans hw')
  clear c0
  go_wp2_with fail
  refine wp_region_class (Fr w1) (by kernel_rfl) (by kernel_rfl) (Fr.draw _) ?_
  repeat (first
    | (refine wpQuiet_val rfl ?_
       apply Exists.intro
       refine ⟨?_, ?_⟩
       focus (intro w' hw'; go_simp; (try go_bits); with_reducible rfl)
       simp only [Act.put, List.setIfInBounds_toArray, List.set_cons_zero, List.set_cons_succ])
    | (refine wpQuiet_pass rfl ?_
       simp only [Act.put, List.setIfInBounds_toArray, List.set_cons_zero, List.set_cons_succ])
    | (refine wpQuiet_enter rfl ?_
       apply Exists.intro
       apply Exists.intro
       apply Exists.intro
       refine ⟨?_, ?_, ?_⟩
       focus (intro w' hw'; go_simp; exact ⟨rfl, rfl⟩)
       focus (intro w' hw'; with_reducible first | exact qFr hw' (h9 w') | exact qFr hw' (h16 _ w') | exact qFr hw' (h10 w') | exact qFr hw' (h17 w') | exact qFr hw' (h11 w') | exact qFr hw' (h12 w'))
       simp only [Act.put, List.setIfInBounds_toArray, List.set_cons_zero, List.set_cons_succ]))
  refine wpQuiet_nil ?_
  intro w2 f2
  have c2 : ∀ o, o < 6 → ∀ w', Fr w2 w' → _ := fun o ho w' hw' => c1 o ho w' (f2.trans hw')
  have r2 := Fr.refl w2
  clear c1
  go_wp2_with fail
  refine (h18 _).mono ?_
  rintro e w3 ⟨rfl, f3⟩
  have c3 : ∀ o, o < 6 → ∀ w', Fr w3 w' → _ := fun o ho w' hw' => c2 o ho w' (f3.trans hw')
  have r3 := Fr.refl w3
  have f5 := ((f0.trans f1).trans f2).trans f3
  clear c2 f0 f1 f2 f3
  go_wp2_with fail
  refine (h14 _).mono ?_
  rintro e w4 ⟨rfl, f4⟩
  have f6 := f5.trans f4
  clear c3 f4 f5
  by_cases hneg : i < 0
  · go_wp2_with fail
    refine (h8 _).mono ?_
    rintro e w5 ⟨rfl, f7⟩
    go_wp2
    go_ret
    exact ⟨rfl, f6.trans f7⟩
  · go_wp2_with fail
    refine (h8 _).mono ?_
    rintro e w5 ⟨rfl, f7⟩
    go_wp2
    go_ret
    exact ⟨rfl, f6.trans f7⟩

set_option maxRecDepth 100000 in
set_option maxHeartbeats 4000000 in
theorem tells_yes (a p s : Nat) (q t e i : Int) (h : RightC a p s q t) (i1 : -9223372036854775808 ≤ i) (i2 : i ≤ 9223372036854775807) (w : World) :
    Calls Try.prog 4 #[.agg #[.int .i64 (a : Nat), .int .i64 (p : Nat), .int .i64 (s : Nat), .int .i64 q, .int .i64 t, .int .u64 e], .int .i64 i] w fun e w' => e = .returned (.bool true) ∧ Fr w w' := by
  have h6 := right_yes a p s q t e h
  have h13 := refRight_yes a p s q t e h
  have h7 := size_yes a p s q t e h
  have h14 := cells_yes a p s q t e h
  have h15 := open_yes a p s q t e h
  obtain ⟨X1, h9, hA⟩ := pin_same a p s q t e i h
  obtain ⟨X2, h10, h17⟩ := ring_same a p s q t e i h
  obtain ⟨X3, h11, hB⟩ := key_same a p s q t e i h
  obtain ⟨X4, h12, hC⟩ := head_same a p s q t e i h
  have h8 := awake_any
  have hR := Lib.hid h
  obtain ⟨a1, a2, p1, p2, s1, s2, q1, q2, t1, t2⟩ := h
  go_enter Try.func4, Try.ntmps4
  go_wp2_with fail
  have c0 := cfg_cells a p s q t e w
  have f0 := (Fr.refl w).alloc (.cells #[Value.int .i64 a, .int .i64 p, .int .i64 s, .int .i64 q, .int .i64 t, .int .u64 e] 24)
  generalize w.alloc (.cells #[Value.int .i64 a, .int .i64 p, .int .i64 s, .int .i64 q, .int .i64 t, .int .u64 e] 24) = W at *
  generalize w.heap.size = B at *
  go_region_held3 (fun w' => Fr W w') (first | assumption | exact Fr.drew (Fr.refl _) | exact Fr.alloc (by assumption) _) (first | (go_at_call 6; refine (h6 _).mono ?_; rintro e wn ⟨rfl, hf⟩; have hfW : Fr W wn := (by first | exact Fr.trans (Fr.drew (Fr.refl W)) hf | exact Fr.trans (by assumption) hf); clear hf) | (go_at_call 13; refine (h13 _).mono ?_; rintro e wn ⟨rfl, hf⟩; have hfW : Fr W wn := (by first | exact Fr.trans (Fr.drew (Fr.refl W)) hf | exact Fr.trans (by assumption) hf); clear hf) | (go_at_call 7; refine (h7 _).mono ?_; rintro e wn ⟨rfl, hf⟩; have hfW : Fr W wn := (by first | exact Fr.trans (Fr.drew (Fr.refl W)) hf | exact Fr.trans (by assumption) hf); clear hf) | (go_at_call 14; refine (h14 _).mono ?_; rintro e wn ⟨g, cap, rfl, _, hf⟩; have hfW : Fr W wn := (by first | exact Fr.trans (Fr.drew (Fr.refl W)) hf | exact Fr.trans (by assumption) hf); clear hf) | (go_at_call 15; refine (h15 _).mono ?_; rintro e wn ⟨b, rfl, hf, _⟩; have hfW : Fr W wn := (by first | exact Fr.trans (Fr.drew (Fr.refl W)) hf | exact Fr.trans (by assumption) hf); clear hf))
  go_wp2_with fail
  refine wp_region_class (Fr W) (by kernel_rfl) (by kernel_rfl) (Fr.drewN (by assumption) 1) ?_
  repeat (first
    | (refine wpQuiet_val rfl ?_
       apply Exists.intro
       refine ⟨?_, ?_⟩
       focus (intro w' hw'; go_simp; (try go_bits); with_reducible rfl)
       simp only [Act.put, List.setIfInBounds_toArray, List.set_cons_zero, List.set_cons_succ])
    | (refine wpQuiet_pass rfl ?_
       simp only [Act.put, List.setIfInBounds_toArray, List.set_cons_zero, List.set_cons_succ])
    | (refine wpQuiet_enter rfl ?_
       apply Exists.intro
       apply Exists.intro
       apply Exists.intro
       refine ⟨?_, ?_, ?_⟩
       focus (intro w' hw'; go_simp; exact ⟨rfl, rfl⟩)
       focus (intro w' hw'; with_reducible first | exact qFr hw' (h9 w') | exact qFr hw' (h10 w') | exact qFr hw' (h17 w') | exact qFr hw' (h11 w') | exact qFr hw' (h12 w') | exact qFr hw' (hA w') | exact qFr hw' (hB w') | exact qFr hw' (hC w'))
       simp only [Act.put, List.setIfInBounds_toArray, List.set_cons_zero, List.set_cons_succ]))
  refine wpQuiet_nil ?_
  intro w2 f2
  have f5 := f0.trans f2
  clear h9 h10 h17 h11 h12 hA hB hC h6 h13 h7 h15
  by_cases hin : 0 ≤ i ∧ i < ((3 + p + a + 2 * s : Nat) : Int)
  · obtain ⟨k, rfl⟩ : ∃ k : Nat, i = k := ⟨i.toNat, by omega⟩
    have hk : k < 3 + p + a + 2 * s := by omega
    have h18 := where_cell a p s q t e k hR.out hk
    clear hin
    go_wp2_with fail
    refine (h18 _).mono ?_
    rintro e w3 ⟨rfl, f3⟩
    have f6 := f5.trans f3
    have g2 := f2.trans f3
    clear f3 f2 f5
    go_wp2_with fail
    refine (h14 _).mono ?_
    rintro e w4 ⟨g, cap, rfl, hrow, f4⟩
    have f7 := f6.trans f4
    have d1 : w4.cell? ⟨g, k * 2, none⟩ = some (.string (cellOf p a k).1) := by rw [Nat.mul_comm, hrow.cellAt (2 * k) (by omega), cellsL_name p a _ k hk]
    have d2 : w4.cell? ⟨g, k * 2 + 1, none⟩ = some (.int .i64 ((cellOf p a k).2 : Nat)) := by rw [Nat.mul_comm, hrow.cellAt (2 * k + 1) (by omega), cellsL_num p a _ k hk]
    generalize cellOf p a k = c at *
    obtain ⟨x, y⟩ := c
    dsimp only at d1 d2
    obtain ⟨n, hn⟩ : ∃ n : Nat, n = 3 + p + a + 2 * s := ⟨_, rfl⟩
    rw [← hn] at hk ⊢
    have hn4 : n ≤ 171 := by omega
    clear hn hrow f4 f6 c0 g2
    go_wp2_with fail
    refine (h8 _).mono ?_
    rintro e w5 ⟨rfl, f8⟩
    go_wp2
    go_ret
    exact ⟨rfl, f7.trans f8⟩
  · have h18 := where_out a p s q t e i hR.out (by omega)
    go_wp2_with fail
    refine (h18 _).mono ?_
    rintro e w3 ⟨rfl, f3⟩
    have f6 := f5.trans f3
    have g2 := f2.trans f3
    clear f3 f2 f5
    go_wp2_with fail
    refine (h14 _).mono ?_
    rintro e w4 ⟨g, cap, rfl, hrow, f4⟩
    have f7 := f6.trans f4
    clear hrow f4 f6 c0 g2
    by_cases hneg : i < 0
    · go_wp2_with fail
      refine (h8 _).mono ?_
      rintro e w5 ⟨rfl, f8⟩
      go_wp2
      go_ret
      exact ⟨rfl, f7.trans f8⟩
    · have hge : ((3 + p + a + 2 * s : Nat) : Int) ≤ i := by omega
      clear hin
      go_wp2_with fail
      refine (h8 _).mono ?_
      rintro e w5 ⟨rfl, f8⟩
      go_wp2
      go_ret
      exact ⟨rfl, f7.trans f8⟩

theorem planTells.walk (a p s q t e i : Int) (w1 : (Lit.int .i64 i).wf = true) (w : World) :
    Calls Try.prog 4 #[.agg #[.int .i64 a, .int .i64 p, .int .i64 s, .int .i64 q, .int .i64 t, .int .u64 e], .int .i64 i] w fun e w' => e = .returned (.bool true) ∧ Below w.heap.size w w' := by
  have hi : -9223372036854775808 ≤ i ∧ i ≤ 9223372036854775807 := by simpa [Lit.wf, IntKind.min, IntKind.max, IntKind.signed, IntKind.bits] using w1
  by_cases h : RightC a p s q t
  · obtain ⟨an, rfl⟩ : ∃ n : Nat, a = n := ⟨a.toNat, by have := h.a1; omega⟩
    obtain ⟨pn, rfl⟩ : ∃ n : Nat, p = n := ⟨p.toNat, by have := h.p1; omega⟩
    obtain ⟨sn, rfl⟩ : ∃ n : Nat, s = n := ⟨s.toNat, by have := h.s1; omega⟩
    exact tells_yes an pn sn q t e i h hi.1 hi.2 w
  · exact tells_no a p s q t e i h hi.1 hi.2 w
end Go.Proofs.Ytckgckdmadfkdaa
