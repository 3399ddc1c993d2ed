/-
  The walk of PlanApart: no two things stand in one cell, and each cell is some thing's. Conditions: none but that the numbers fit their kinds.
-/
import Derived.Test.YtckgckdmadfkdaaApart1
import Derived.Deep.RegionHeld3
namespace Go.Proofs.Ytckgckdmadfkdaa
open Go.RowKit

set_option maxHeartbeats 400000 in
theorem apart_no (a p s q t e : Int) (h : ¬ RightC a p s q t) (w : World) :
    Calls Try.prog 3 #[.agg #[.int .i64 a, .int .i64 p, .int .i64 s, .int .i64 q, .int .i64 t, .int .u64 e]] w fun e w' => e = .returned (.bool true) ∧ Fr w w' := by
  have hr := right_no a p s q t e h
  have hs := size_no a p s q t e h
  have ha := awake_any
  clear h
  go_enter Try.func3, Try.ntmps3
  go_wp2_with fail
  refine (hr _).mono ?_
  rintro e w1 ⟨rfl, f1⟩
  have c0 : ∀ o, o < 6 → ∀ w', Fr w1 w' → _ := fun o ho w' hw' => cfg_cells a p s q t _ w o ho w' (f1.trans hw')
  have f0 := ((Fr.refl w).alloc _).trans f1
  have r1 := Fr.refl w1
  clear f1
  go_wp2_with fail
  refine (hs _).mono ?_
  rintro e w2 ⟨rfl, f2⟩
  clear c0
  go_wp2_with fail
  refine (ha _).mono ?_
  rintro e w3 ⟨rfl, f3⟩
  go_wp2
  go_ret
  exact ⟨rfl, (f0.trans f2).trans f3⟩

set_option maxRecDepth 100000 in
set_option maxHeartbeats 2000000 in
theorem apart_yes (a p s : Nat) (q t e : Int) (h : RightC a p s q t) (w : World) :
    Calls Try.prog 3 #[.agg #[.int .i64 (a : Nat), .int .i64 (p : Nat), .int .i64 (s : Nat), .int .i64 q, .int .i64 t, .int .u64 e]] w fun e w' => e = .returned (.bool true) ∧ Below w.heap.size w w' := by
  have hr := right_yes a p s q t e h
  have hs := size_yes a p s q t e h
  have ha := awake_any
  have hp : ∀ k : Nat, k < p → ∀ w, Calls Try.prog 9 #[.agg #[.int .i64 (a : Nat), .int .i64 (p : Nat), .int .i64 (s : Nat), .int .i64 q, .int .i64 t, .int .u64 e], .int .i64 k] w fun e w' => e = .returned (.int .i64 ((3 + k : Nat) : Int)) ∧ Fr w w' := fun k hk w =>
    (pin_in a p s q t e k h (by omega) (by omega) w).mono fun _ _ ⟨he, hf⟩ => ⟨he.trans (ret_int (by omega)), hf⟩
  have hg : ∀ k : Nat, k < a → ∀ w, Calls Try.prog 10 #[.agg #[.int .i64 (a : Nat), .int .i64 (p : Nat), .int .i64 (s : Nat), .int .i64 q, .int .i64 t, .int .u64 e], .int .i64 k] w fun e w' => e = .returned (.int .i64 ((3 + p + k : Nat) : Int)) ∧ Fr w w' := fun k hk w =>
    (ringT_in a p s q t e k h (by omega) w).mono fun _ _ ⟨he, hf⟩ => ⟨he.trans (ret_int (by rw [Int.emod_eq_of_lt (by omega) (by omega)]; omega)), hf⟩
  have hk : ∀ k : Nat, k < s → ∀ w, Calls Try.prog 11 #[.agg #[.int .i64 (a : Nat), .int .i64 (p : Nat), .int .i64 (s : Nat), .int .i64 q, .int .i64 t, .int .u64 e], .int .i64 k] w fun e w' => e = .returned (.int .i64 ((3 + p + a + 2 * k : Nat) : Int)) ∧ Fr w w' := fun k hk w =>
    (key_in a p s q t e k h (by omega) (by omega) w).mono fun _ _ ⟨he, hf⟩ => ⟨he.trans (ret_int (by omega)), hf⟩
  have hh : ∀ k : Nat, k < s → ∀ w, Calls Try.prog 12 #[.agg #[.int .i64 (a : Nat), .int .i64 (p : Nat), .int .i64 (s : Nat), .int .i64 q, .int .i64 t, .int .u64 e], .int .i64 k] w fun e w' => e = .returned (.int .i64 ((3 + p + a + 2 * k + 1 : Nat) : Int)) ∧ Fr w w' := fun k hk w =>
    (head_in a p s q t e k h (by omega) (by omega) w).mono fun _ _ ⟨he, hf⟩ => ⟨he.trans (ret_int (by omega)), hf⟩
  obtain ⟨a1, a2, p1, p2, s1, s2, q1, q2, t1, t2⟩ := h
  obtain ⟨i0, hi, hz0, hz1, hz2⟩ := info_parts info3
  have hmk := mk300
  go_enter Try.func3, Try.ntmps3
  go_wp2_with fail
  refine (hr _).mono ?_
  rintro e w1 ⟨rfl, f1⟩
  have c0 := cfg_below a p s q t _ w _ f1
  have g1 : w.heap.size + 1 ≤ w1.heap.size := by have := f1.size; simpa using this
  have f2 : Fr w w1 := ((Fr.refl w).alloc _).trans f1
  have r1 := Below.refl (w.heap.size + 1) w1
  go_wp2_with fail
  refine (hs _).mono ?_
  rintro e w2 ⟨rfl, f3⟩
  clear hs hr f1 r1
  go_wp2_with fail
  clear hmk
  have hst : St w.heap.size w2.heap.size w1 (.slice (some ⟨w2.heap.size + 1, 0, none⟩) 3 3) 3 0 ((w2.alloc (.cells (madeCells #[Value.int .i64 0] 300) 3)).alloc (.cells #[Value.int .i64 0, .int .i64 1, .int .i64 2] 3)) := by
    have e1 : w2.heap.size + 1 = (w2.alloc (.cells (madeCells #[Value.int .i64 0] 300) 3)).heap.size := by simp
    have hz := Nat.le_trans g1 f3.size
    refine ⟨?_, ?_, by simp [Value.ownBlock], (((f3.below_of g1).alloc hz _).alloc (by simp; omega) _), by simp; omega⟩
    · rw [e1]
      exact World.ownsRow_lit _ _ 3 (by simp; omega) (by decide) rfl
    · refine World.ownsRow.alloc ?_ _
      rw [← counts_zero]
      exact World.ownsRow_lit _ _ 300 hz (by decide) (by simp [madeCells])
  generalize (w2.alloc (.cells (madeCells #[Value.int .i64 0] 300) 3)).alloc (.cells #[Value.int .i64 0, .int .i64 1, .int .i64 2] 3) = W3 at *
  clear f3
  generalize w2.heap.size = g0 at *
  have hB : w.heap.size = w.heap.size := rfl
  generalize hBB : w.heap.size = B at *
  clear hB
  go_loopw [5, 6] (fun v i wr => ∃ k g cap : Nat, k ≤ p ∧ i = .int .i64 k ∧ v = .slice (some ⟨g, 0, none⟩) (3 + k) cap ∧ St B g0 w1 v (3 + k) 0 wr) (fun _ i _ => p - (intOf i).toNat)
  case atStart => exact ⟨0, _, _, Nat.zero_le _, rfl, rfl, hst⟩
  case round =>
    obtain ⟨k, g, cap, hk', rfl, rfl, hst1⟩ := hrel
    have hb := hst1.below
    by_cases hlt : k < p
    · have hpk := hp k hlt
      go_wp2_with fail
      refine (hpk _).mono ?_
      rintro e w4 ⟨rfl, hf⟩
      have hst2 := hst1.fr hf
      clear hst1 hb hf
      go_wp2_with (at_builtin; go_must (refine wpList_append_lies _ rfl _ _ 28 rfl (B + 1) 3 i0 (.int .i64 0) 1 8 Try.underlying28 hi hz0 hz1 hz2 rfl (by decide) _ _ _ rfl (hst2.row.alloc _) ⟨w4.heap.size, 0, none⟩ 1 1 [.int .i64 ((3 + k : Nat) : Int)] rfl rfl (cell_one_new _ _ _) (by simp [Value.oneCell']) (by omega) (by unfold maxLen; omega) (by omega) (by have := hst2.size; simp; omega) _ rfl ?_); intro g' cap' w5 hown hgrow hat hlt5)
      go_roundw
      case rel => exact ⟨k + 1, g', cap', by omega, by go_num, rfl, (hst2.fr ((Fr.refl _).alloc _)).append hown (by rw [← iota_succ]) hgrow rfl hat⟩
      case measure => simp [intOf]; omega
    · obtain rfl : p = k := by omega
      go_wp2_with fail
      clear hb hp
      go_loopw [5, 7] (fun v i wr => ∃ k g cap : Nat, k ≤ a ∧ i = .int .i64 k ∧ v = .slice (some ⟨g, 0, none⟩) (3 + p + k) cap ∧ St B g0 w1 v (3 + p + k) 0 wr) (fun _ i _ => a - (intOf i).toNat)
      case atStart => exact ⟨0, _, _, Nat.zero_le _, rfl, rfl, hst1⟩
      case round =>
        obtain ⟨k, g, cap, hk', rfl, rfl, hst1⟩ := hrel
        have hb := hst1.below
        by_cases hlt : k < a
        · have hpk := hg k hlt
          go_wp2_with fail
          refine (hpk _).mono ?_
          rintro e w4 ⟨rfl, hf⟩
          have hst2 := hst1.fr hf
          clear hst1 hb hf
          go_wp2_with (at_builtin; go_must (refine wpList_append_lies _ rfl _ _ 28 rfl (B + 1) 3 i0 (.int .i64 0) 1 8 Try.underlying28 hi hz0 hz1 hz2 rfl (by decide) _ _ _ rfl (hst2.row.alloc _) ⟨w4.heap.size, 0, none⟩ 1 1 [.int .i64 ((3 + p + k : Nat) : Int)] rfl rfl (cell_one_new _ _ _) (by simp [Value.oneCell']) (by omega) (by unfold maxLen; omega) (by omega) (by have := hst2.size; simp; omega) _ rfl ?_); intro g' cap' w5 hown hgrow hat hlt5)
          go_roundw
          case rel => exact ⟨k + 1, g', cap', by omega, by go_num, rfl, (hst2.fr ((Fr.refl _).alloc _)).append hown (by rw [← iota_succ]) hgrow rfl hat⟩
          case measure => simp [intOf]; omega
        · obtain rfl : a = k := by omega
          go_wp2_with fail
          clear hb hg
          go_loopw [5, 8] (fun v i wr => ∃ k g cap : Nat, k ≤ s ∧ i = .int .i64 k ∧ v = .slice (some ⟨g, 0, none⟩) (3 + p + a + 2 * k) cap ∧ St B g0 w1 v (3 + p + a + 2 * k) 0 wr) (fun _ i _ => s - (intOf i).toNat)
          case atStart => exact ⟨0, _, _, Nat.zero_le _, rfl, rfl, hst1⟩
          case round =>
            obtain ⟨k, g, cap, hk', rfl, rfl, hst1⟩ := hrel
            have hb := hst1.below
            by_cases hlt : k < s
            · have hkk := hk k hlt
              have hhk := hh k hlt
              have hsz := hst1.size
              go_wp2_with fail
              go_region_held3 (fun w' => Below (B + 1) w1 w') (first | assumption | exact Below.drew (by assumption) | exact Below.alloc (by assumption) (by first | assumption | omega) _) (first | (go_at_call 11; refine (hkk _).mono ?_; rintro e w4 ⟨rfl, hf4⟩; have hst2 := hst1.fr (Fr.trans (Fr.drew (Fr.refl wr)) hf4); have hb4 := hst2.below; have hz4 := hst2.size) | (go_at_call 12; refine (hhk _).mono ?_; rintro e w5 ⟨rfl, hf5⟩; have hst3 := hst2.fr hf5; have hb5 := hst3.below; have hz5 := hst3.size) | (refine step_append_lies _ rfl _ _ 28 rfl (B + 1) 3 i0 (.int .i64 0) 1 8 Try.underlying28 hi hz0 hz1 hz2 rfl (by decide) _ _ _ rfl (hst3.row.alloc _) ⟨w5.heap.size, 0, none⟩ 2 2 [.int .i64 ((3 + p + a + 2 * k : Nat) : Int), .int .i64 ((3 + p + a + 2 * k + 1 : Nat) : Int)] rfl rfl (cells_two_new _ _ _ _) (by simp [Value.oneCell']) (by omega) (by unfold maxLen; omega) (by omega) (by simp; omega) _ rfl ?_; intro g' cap' w6 hown hgrow hat hlt6; have hst4 := (hst3.fr ((Fr.refl _).alloc _)).append hown (iota_two _) hgrow rfl hat; have hb6 := hst4.below))
              all_goals
                go_wp2_with fail
                go_roundw
                case rel => exact ⟨k + 1, g', cap', by omega, by go_num, rfl, hst4⟩
                case measure => simp [intOf]; omega
            · obtain rfl : s = k := by omega
              go_wp2_with fail
              clear hb hk hh c0
              obtain ⟨n, hn⟩ : ∃ n : Nat, n = 3 + p + a + 2 * s := ⟨_, rfl⟩
              have hn3 : (3 + (p : Int) + (a : Int) + 2 * (s : Int)) = (n : Int) := by omega
              have hn4 : n ≤ 171 := by omega
              rw [hn3]
              rw [← hn] at hst1 ⊢
              clear hn hn3
              go_loopw [9] (fun i wr => ∃ k : Nat, k ≤ n ∧ i = .int .i64 k ∧ St B g0 w1 (.slice (some ⟨g, 0, none⟩) n cap) n k wr) (fun i _ => n - (intOf i).toNat)
              case atStart => exact ⟨0, Nat.zero_le _, rfl, hst1⟩
              case round =>
                obtain ⟨k, hk, rfl, hst⟩ := hrel
                clear hst1
                by_cases hkn : k < n
                · have hne : g ≠ g0 := fun hh => hst.apart (by rw [hh]; rfl)
                  have hl : wr.cell? ⟨g, k, none⟩ = some (.int .i64 (k : Int)) := by rw [hst.row.cellAt k (by omega), iota_get n k hkn]
                  have hs0 : wr.cell? ⟨g0, k, none⟩ = some (.int .i64 0) := by rw [hst.seen.cellAt k (by omega), counts_get k k (by omega)]; simp
                  have hf := hst.seen.frozenAt k
                  have hc1 : (wr.setCell ⟨g0, k, none⟩ (.int .i64 1)).cell? ⟨g0, k, none⟩ = some (.int .i64 1) := World.cell?_setCell_same' _ _ _ (by rw [hs0]; rfl)
                  have hc2 : (wr.setCell ⟨g0, k, none⟩ (.int .i64 1)).cell? ⟨g, k, none⟩ = some (.int .i64 (k : Int)) := (World.cell?_setCell_other _ _ _ _ (by simp only [ne_eq, Addr.mk.injEq, not_and]; omega)).trans hl
                  have hst5 := hst.count
                  clear hst
                  go_wp2_with fail
                  go_roundw
                  case rel => exact ⟨k + 1, by omega, by go_num, hst5⟩
                  case measure => simp [intOf]; omega
                · obtain rfl : n = k := by omega
                  go_wp2_with fail
                  refine (ha _).mono ?_
                  rintro e w7 ⟨rfl, f7⟩
                  go_wp2
                  go_ret
                  exact ⟨rfl, f2.below.trans ((hst.below.mono (by omega)).trans (f7.below_of (Nat.le_trans (by omega) hst.size)))⟩

theorem planApart.walk (a p s q t e : Int) (w : World) :
    Calls Try.prog 3 #[.agg #[.int .i64 a, .int .i64 p, .int .i64 s, .int .i64 q, .int .i64 t, .int .u64 e]] w fun e w' => e = .returned (.bool true) ∧ Below w.heap.size w w' := by
  by_cases h : RightC a p s q t
  · obtain ⟨an, rfl⟩ : ∃ n : Nat, a = n := ⟨a.toNat, by have := h.a1; omega⟩
    obtain ⟨pn, rfl⟩ : ∃ n : Nat, p = n := ⟨p.toNat, by have := h.p1; omega⟩
    obtain ⟨sn, rfl⟩ : ∃ n : Nat, s = n := ⟨s.toNat, by have := h.s1; omega⟩
    exact apart_yes an pn sn q t e h w
  · exact apart_no a p s q t e h w
end Go.Proofs.Ytckgckdmadfkdaa
