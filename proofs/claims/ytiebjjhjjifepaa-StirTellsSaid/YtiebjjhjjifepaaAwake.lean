/-
  The chapter's example holds: awake answers true. Conditions: none.
-/
import Derived.Test.YtiebjjhjjifepaaWay
namespace Go.Proofs.Ytiebjjhjjifepaa
open Go.RowKit Go.Shelf

theorem way_any (n : Nat) (hn : n < 18446744073709551616) (width : Int) (hw : -9223372036854775808 ≤ width ∧ width ≤ 9223372036854775807) (most : Nat) (hm : most ≤ 300) (w : World) :
    Calls Try.prog 15 #[.int .u64 n, .int .i64 width, .int .i64 most] w fun e W' =>
      ∃ v, e = .returned v ∧ W'.ownsRow w.heap.size 3 1 v (gathered n width most).length ((gathered n width most).map (Value.int .i64)) ∧ Below w.heap.size w W' :=
  callsIn_wide.1 (way_in 6 (by omega) n hn width hw most hm w)

theorem gathered_533 : gathered 5 3 9 = [2, 0, 1] := by decide

theorem way_533 (w : World) : Calls Try.prog 15 #[.int .u64 5, .int .i64 3, .int .i64 9] w fun e W' =>
    ∃ g cap, e = .returned (.slice (some ⟨g, 0, none⟩) 3 cap) ∧ W'.cell? ⟨g, 0, none⟩ = some (.int .i64 2) ∧ W'.cell? ⟨g, 1, none⟩ = some (.int .i64 0) ∧ W'.cell? ⟨g, 2, none⟩ = some (.int .i64 1) ∧ Below w.heap.size w W' := by
  refine (way_any 5 (by omega) 3 ⟨by omega, by omega⟩ 9 (by omega) w).mono ?_
  rintro e W' ⟨v, rfl, hrow, hB⟩
  rw [gathered_533] at hrow
  obtain ⟨g, cap, rfl⟩ := ownsRow_succ hrow
  exact ⟨g, cap, rfl, hrow.cellAt 0 (by decide), hrow.cellAt 1 (by decide), hrow.cellAt 2 (by decide), hB⟩

theorem sum_nil : sumF 0 [] = 14695981039346656037 := by decide

theorem sum_awake (w : World) : Calls Try.prog 7 #[.int .u64 0, .string { data := #[] }] w fun e w' => e = .returned (.int .u64 14695981039346656037) ∧ w = w' := by
  refine (sum_any 0 (by omega) { data := #[] } (Nat.zero_le _) w).mono ?_
  rintro e w' ⟨rfl, rfl⟩
  exact ⟨ret_int (by rw [sum_nil]; rfl), rfl⟩

set_option maxHeartbeats 400000 in
theorem awake_any (w : World) : Calls Try.prog 6 #[] w fun e w' => e = .returned (.bool true) ∧ Below w.heap.size w w' := by
  go_enter Try.func6, Try.ntmps6
  go_wp2_with fail
  refine (way_533 _).mono ?_
  rintro e w1 ⟨g, cap, rfl, h0, h1, h2, hB⟩
  go_wp2_with (go_at_call 7; refine (sum_awake _).mono ?_; rintro e w' ⟨rfl, rfl⟩)
  go_ret
  exact ⟨rfl, hB⟩
end Go.Proofs.Ytiebjjhjjifepaa
