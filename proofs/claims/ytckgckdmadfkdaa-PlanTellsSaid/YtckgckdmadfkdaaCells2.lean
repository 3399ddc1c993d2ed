/-
  The walk of the document's Cells. Conditions: none but that the numbers fit their kinds.
-/
import Derived.Test.YtckgckdmadfkdaaCells
import Derived.Test.YtckgckdmadfkdaaRefRight
namespace Go.Proofs.Ytckgckdmadfkdaa
open Go.RowKit

set_option maxHeartbeats 400000 in
theorem cells_no (a p s q t e : Int) (h : ¬ RightC a p s q t) (w : World) :
    Calls Try.prog 14 #[.agg #[.int .i64 a, .int .i64 p, .int .i64 s, .int .i64 q, .int .i64 t, .int .u64 e]] w fun e w' => e = .returned (.slice none 0 0) ∧ Fr w w' := by
  have hr := refRight_no a p s q t e h
  clear h
  go_enter Try.func14, Try.ntmps14
  go_wp2_with fail
  refine (hr _).mono ?_
  rintro e w1 ⟨rfl, f1⟩
  go_wp2
  go_ret
  exact ⟨rfl, ((Fr.refl w).alloc _).trans f1⟩

def CellsPost (a p s : Nat) (W : World) (e : Ending) (w' : World) : Prop :=
  ∃ g cap : Nat, e = .returned (.slice (some ⟨g, 0, none⟩) (3 + p + a + 2 * s) cap) ∧ w'.ownsRow (W.heap.size + 1) 38 2 (.slice (some ⟨g, 0, none⟩) (3 + p + a + 2 * s) cap) (3 + p + a + 2 * s) (cellsL p a (3 + p + a + 2 * s)) ∧ Fr W w'

set_option maxRecDepth 100000 in
set_option maxHeartbeats 2000000 in
theorem cells_yes (a p s : Nat) (q t e : Int) (h : RightC a p s q t) (w : World) : Calls Try.prog 14 #[.agg #[.int .i64 (a : Nat), .int .i64 (p : Nat), .int .i64 (s : Nat), .int .i64 q, .int .i64 t, .int .u64 e]] w (CellsPost a p s w) := by
  have hr := refRight_yes a p s q t e h
  obtain ⟨a1, a2, p1, p2, s1, s2, q1, q2, t1, t2⟩ := h
  obtain ⟨i0, hi, hz0, hz1, hz2⟩ := info_parts info38
  go_enter Try.func14, Try.ntmps14
  go_wp2_with fail
  refine (hr _).mono ?_
  rintro e w1 ⟨rfl, f1⟩
  have c0 := cfg_below a p s q t _ w _ f1
  have g1 : w.heap.size + 1 ≤ w1.heap.size := by have := f1.size; simpa using this
  have f2 : Fr w w1 := ((Fr.refl w).alloc _).trans f1
  clear hr f1
  go_wp2_with fail
  have hst : Ce p a w.heap.size w1 (.slice (some ⟨w1.heap.size, 0, none⟩) 3 3) 3 (w1.alloc (.cells #[Value.string { data := #[101, 112, 111, 99, 104] }, .int .i64 0, .string { data := #[113, 117, 101, 117, 101] }, .int .i64 0, .string { data := #[100, 114, 97, 105, 110, 101, 100] }, .int .i64 0] 38)) :=
    ⟨World.ownsRow_lit _ _ 3 g1 (by decide) rfl, (Below.refl _ _).alloc g1 _, by simp; omega⟩
  generalize w1.alloc (.cells #[Value.string { data := #[101, 112, 111, 99, 104] }, .int .i64 0, .string { data := #[113, 117, 101, 117, 101] }, .int .i64 0, .string { data := #[100, 114, 97, 105, 110, 101, 100] }, .int .i64 0] 38) = W3 at *
  generalize hBB : w.heap.size = B at *
  go_loopw [3, 4] (fun v i wr => ∃ k g cap : Nat, k ≤ p ∧ i = .int .i64 k ∧ v = .slice (some ⟨g, 0, none⟩) (3 + k) cap ∧ Ce p a B w1 v (3 + k) wr) (fun _ i _ => p - (intOf i).toNat)
  case atStart => exact ⟨0, _, _, Nat.zero_le _, rfl, rfl, hst⟩
  case round =>
    obtain ⟨k, g, cap, hk', rfl, rfl, hst1⟩ := hrel
    have hb := hst1.below
    by_cases hlt : k < p
    · have hcell := Lib.hid (cellOf_pin p a k hlt)
      go_wp2_with (at_builtin; go_must (refine wpList_append_lies _ rfl _ _ 30 rfl (B + 1) 38 i0 _ 2 24 Try.underlying30 hi hz0 hz1 hz2 rfl (by decide) _ _ _ rfl (hst1.row.alloc _) ⟨wr.heap.size, 0, none⟩ 1 1 [.string { data := #[112, 105, 110] }, .int .i64 (k : Int)] rfl rfl (cells_two_new _ _ _ _) (by simp [Value.oneCell']) (by omega) (by unfold maxLen; omega) (by omega) (by have := hst1.size; simp; omega) _ rfl ?_); intro g' cap' w5 hown hgrow hat hlt5)
      go_roundw
      case rel => exact ⟨k + 1, g', cap', by omega, by go_num, rfl, (hst1.alloc _).append hown (by rw [cellsL_succ, hcell.out]) hgrow⟩
      case measure => simp [intOf]; omega
    · obtain rfl : p = k := by omega
      go_wp2_with fail
      clear hb
      go_loopw [3, 5] (fun v i wr => ∃ k g cap : Nat, k ≤ a ∧ i = .int .i64 k ∧ v = .slice (some ⟨g, 0, none⟩) (3 + p + k) cap ∧ Ce p a B w1 v (3 + p + k) wr) (fun _ i _ => a - (intOf i).toNat)
      case atStart => exact ⟨0, _, _, Nat.zero_le _, rfl, rfl, hst1⟩
      case round =>
        obtain ⟨k, g, cap, hk', rfl, rfl, hst1⟩ := hrel
        have hb := hst1.below
        by_cases hlt : k < a
        · have hcell := Lib.hid (cellOf_ring p a k hlt)
          go_wp2_with (at_builtin; go_must (refine wpList_append_lies _ rfl _ _ 30 rfl (B + 1) 38 i0 _ 2 24 Try.underlying30 hi hz0 hz1 hz2 rfl (by decide) _ _ _ rfl (hst1.row.alloc _) ⟨wr.heap.size, 0, none⟩ 1 1 [.string { data := #[114, 105, 110, 103] }, .int .i64 (k : Int)] rfl rfl (cells_two_new _ _ _ _) (by simp [Value.oneCell']) (by omega) (by unfold maxLen; omega) (by omega) (by have := hst1.size; simp; omega) _ rfl ?_); intro g' cap' w5 hown hgrow hat hlt5)
          go_roundw
          case rel => exact ⟨k + 1, g', cap', by omega, by go_num, rfl, (hst1.alloc _).append hown (by rw [cellsL_succ, hcell.out]) hgrow⟩
          case measure => simp [intOf]; omega
        · obtain rfl : a = k := by omega
          go_wp2_with fail
          clear hb
          go_loopw [3, 6] (fun v i wr => ∃ k g cap : Nat, k ≤ s ∧ i = .int .i64 k ∧ v = .slice (some ⟨g, 0, none⟩) (3 + p + a + 2 * k) cap ∧ Ce p a B w1 v (3 + p + a + 2 * k) wr) (fun _ i _ => s - (intOf i).toNat)
          case atStart => exact ⟨0, _, _, Nat.zero_le _, rfl, rfl, hst1⟩
          case round =>
            obtain ⟨k, g, cap, hk', rfl, rfl, hst1⟩ := hrel
            have hb := hst1.below
            by_cases hlt : k < s
            · have hcell := Lib.hid (cellOf_key p a k)
              have hcell2 := Lib.hid (cellOf_head p a k)
              go_wp2_with (at_builtin; go_must (refine wpList_append_lies _ rfl _ _ 30 rfl (B + 1) 38 i0 _ 2 24 Try.underlying30 hi hz0 hz1 hz2 rfl (by decide) _ _ _ rfl (hst1.row.alloc _) ⟨wr.heap.size, 0, none⟩ 2 2 [.string { data := #[107, 101, 121] }, .int .i64 (k : Int), .string { data := #[104, 101, 97, 100] }, .int .i64 (k : Int)] rfl rfl (cells_four_new _ _ _ _ _ _) (by simp [Value.oneCell']) (by omega) (by unfold maxLen; omega) (by omega) (by have := hst1.size; simp; omega) _ rfl ?_); intro g' cap' w5 hown hgrow hat hlt5)
              go_roundw
              case rel => exact ⟨k + 1, g', cap', by omega, by go_num, rfl, (hst1.alloc _).append hown (by rw [cellsL_succ (n := 3 + p + a + 2 * k + 1), cellsL_succ, hcell.out, hcell2.out, List.append_assoc]; rfl) hgrow⟩
              case measure => simp [intOf]; omega
            · obtain rfl : s = k := by omega
              go_wp2_with fail
              go_ret
              exact ⟨g, cap, rfl, by rw [hBB]; exact hst1.row, f2.below.trans (hst1.below.mono (by omega))⟩
end Go.Proofs.Ytckgckdmadfkdaa
