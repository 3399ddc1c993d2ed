/-
  The walk of StirTells: each text has the number that is said, and each place of its way, at any width. Conditions: none but that the values fit their kinds.
-/
import Derived.Test.YtiebjjhjjifepaaWayLaw
namespace Go.Proofs.Ytiebjjhjjifepaa
open Go.RowKit Go.Shelf

theorem way_l (n : Nat) (hn : n < 18446744073709551616) (width : Int) (hw : -9223372036854775808 ≤ width ∧ width ≤ 9223372036854775807) (w : World) :
    Calls Try.prog 15 #[.int .u64 n, .int .i64 width, .int .i64 200] w fun e W' =>
      ∃ v L, e = .returned v ∧ W'.ownsRow w.heap.size 3 1 v L ((places n width L).map (Value.int .i64)) ∧ Below w.heap.size w W' ∧ (∀ k : Nat, k < L → (k : Int) < width) ∧
        ((width ≤ 0 ∧ L = 0) ∨ (0 < width ∧ width < 200 ∧ ((L : Int) != width) = false) ∨ (200 ≤ width ∧ L = 200)) := by
  refine (way_any n hn width hw 200 (by omega) w).mono ?_
  rintro e W' ⟨v, rfl, hrow, hB⟩
  unfold gathered at hrow
  rw [places_length] at hrow
  refine ⟨v, _, rfl, hrow, hB, fun k hk => by omega, ?_⟩
  rcases Int.lt_or_le 0 width with h1 | h1
  · rcases Int.lt_or_le width 200 with h2 | h2
    · exact .inr (.inl ⟨h1, h2, by simp; omega⟩)
    · exact .inr (.inr ⟨h2, by omega⟩)
  · exact .inl ⟨h1, by omega⟩

set_option maxRecDepth 100000 in
set_option maxHeartbeats 1000000 in
theorem tells_walk (n : Nat) (hn : n < 18446744073709551616) (s : ByteArray) (hs : s.size ≤ 9223372036854775807) (width i : Int) (hw : -9223372036854775808 ≤ width ∧ width ≤ 9223372036854775807) (hi : -9223372036854775808 ≤ i ∧ i ≤ 9223372036854775807) (w : World) :
    Calls Try.prog 4 #[.string s, .int .u64 n, .agg #[.int .i64 width, .int .i64 i]] w fun e w' => e = .returned (.bool true) ∧ Below w.heap.size w w' := by
  by_cases h : 2000 < s.size
  · go_enter Try.func4, Try.ntmps4
    go_wp2_with fail
    refine (awake_any _).mono ?_
    rintro e w' ⟨rfl, hB⟩
    go_wp2
    go_ret
    exact ⟨rfl, ((Below.refl _ w).alloc (Nat.le_refl _) _).trans (hB.mono (by simp))⟩
  · obtain ⟨c, hc, hc2⟩ : ∃ c : Nat, i % 256 = c ∧ c < 256 := ⟨(i % 256).toNat, by omega, by omega⟩
    have m8 : ∀ wx, Calls Try.prog 8 #[.int .u64 n, .int .u8 (i % 256)] wx fun e w' => e = .returned (.int .u64 (more n c : Nat)) ∧ wx = w' := by rw [hc]; exact more_any n c hn hc2
    have m10 : ∀ wx, Calls Try.prog 10 #[.int .u64 n, .int .u8 (i % 256)] wx fun e w' => e = .returned (.int .u64 (more n c : Nat)) ∧ wx = w' := by rw [hc]; exact refMore_any n c hn hc2
    clear hc hc2
    go_enter Try.func4, Try.ntmps4
    go_wp2_with fail
    go_quiet (fail)
    go_wp2_with fail
    refine (sum_any n hn s hs _).mono ?_
    rintro e w' ⟨rfl, rfl⟩
    go_wp2_with fail
    refine (refSum_any n hn s hs _).mono ?_
    rintro e w' ⟨rfl, rfl⟩
    go_wp2_with fail
    refine (m8 _).mono ?_
    rintro e w' ⟨rfl, rfl⟩
    go_wp2_with fail
    refine (m10 _).mono ?_
    rintro e w' ⟨rfl, rfl⟩
    go_wp2_with fail
    refine (start_any n hn width hw _).mono ?_
    rintro e w' ⟨rfl, rfl⟩
    go_wp2_with fail
    refine (refStart_any n hn width hw _).mono ?_
    rintro e w' ⟨rfl, rfl⟩
    go_wp2_with fail
    refine (place_any n hn width i hw hi _).mono ?_
    rintro e w' ⟨rfl, rfl⟩
    go_wp2_with fail
    refine (refPlace_any n hn width i hw hi _).mono ?_
    rintro e w' ⟨rfl, rfl⟩
    go_wp2_with fail
    refine (way_l n hn width hw _).mono ?_
    rintro e w1 ⟨v, L, rfl, hrow, hB, hlt, hcase⟩
    obtain ⟨a, cap, rfl⟩ := form0 hrow
    replace hrow : w1.ownsRow (w.heap.size + 1) 3 1 (.slice a L cap) L ((places n width L).map (Value.int .i64)) := by simpa using hrow
    replace hB : Below w.heap.size w w1 := (below_drewN ((Below.refl _ w).alloc (Nat.le_refl _) _) nq).trans (hB.mono (by simp))
    rcases hcase with ⟨hw1, rfl⟩ | ⟨hw1, hw2, hw3⟩ | ⟨hw1, hw2⟩
    · clear hlt
      go_wp2_with fail
      go_loopw [10] (fun i wr => i = .int .i64 0 ∧ Below w.heap.size w wr) (fun _ _ => 0)
      case atStart => exact ⟨rfl, hB⟩
      case round =>
        obtain ⟨rfl, hBr⟩ := hrel
        go_wp2_with (go_at_call 6; refine (awake_any _).mono ?_; rintro e w' ⟨rfl, hB3⟩)
        go_ret
        exact ⟨rfl, hBr.trans (hB3.mono hBr.size)⟩
    all_goals
      go_wp2_with fail
      go_loopw [10] (fun i wr => ∃ k : Nat, k ≤ L ∧ i = .int .i64 k ∧ wr.ownsRow (w.heap.size + 1) 3 1 (.slice a L cap) L ((places n width L).map (Value.int .i64)) ∧ Below w.heap.size w wr)
        (fun i _ => L - (intOf i).toNat)
      case atStart => exact ⟨0, Nat.zero_le _, rfl, hrow, hB⟩
      case round =>
        obtain ⟨k, hk, rfl, hr, hBr⟩ := hrel
        by_cases hkl : k < L
        · obtain ⟨g, cap', hv⟩ := Joins.ownsRow_form hr (by omega)
          obtain ⟨rfl, rfl⟩ : a = some ⟨g, 0, none⟩ ∧ cap = cap' := by injection hv with h1 h2 h3; exact ⟨h1, h3⟩
          have hl : wr.cell? ⟨g, k, none⟩ = some (.int .i64 (cur n width k)) := by rw [hr.cellAt k (by omega)]; simp [places_get n width L k hkl]
          have hkw := hlt k hkl
          have hpl : ∀ wx, Calls Try.prog 14 #[.int .u64 n, .int .i64 width, .int .i64 k] wx fun e w' => e = .returned (.int .i64 (cur n width k)) ∧ w' = wx := by
            intro wx
            refine (refPlace_any n hn width k hw ⟨by omega, by omega⟩ wx).mono ?_
            rintro e w' ⟨rfl, rfl⟩
            exact ⟨ret_int (place_cur n hkw), rfl⟩
          have hk0 : (k : Int) < (L : Int) := by omega
          clear hv
          go_wp2_with fail
          go_quiet ((go_at_call 14; exact Calls.quiet_of_same (hpl _)))
          go_wp2_with fail
          go_roundw
          case rel => exact ⟨k + 1, by omega, by go_num, hr, below_drewN hBr _⟩
          case measure => simp [intOf]; omega
        · obtain rfl : k = L := by omega
          go_wp2_with (go_at_call 6; refine (awake_any _).mono ?_; rintro e w' ⟨rfl, hB3⟩)
          go_ret
          exact ⟨rfl, hBr.trans (hB3.mono hBr.size)⟩
end Go.Proofs.Ytiebjjhjjifepaa
