/-
  The walks of a place of a way, the program's and the document's. Conditions: the numbers fit their kinds.
-/
import Derived.Test.YtiebjjhjjifepaaWalks1
namespace Go.Proofs.Ytiebjjhjjifepaa
open Go.RowKit

set_option maxHeartbeats 400000 in
theorem place_any (n : Nat) (hn : n < 18446744073709551616) (width i : Int) (hw : -9223372036854775808 ≤ width ∧ width ≤ 9223372036854775807) (hi : -9223372036854775808 ≤ i ∧ i ≤ 9223372036854775807) (w : World) :
    Calls Try.prog 13 #[.int .u64 n, .int .i64 width, .int .i64 i] w fun e w' => e = .returned (.int .i64 (place n width i)) ∧ w = w' := by
  obtain ⟨h1, h2⟩ := hw
  obtain ⟨h3, h4⟩ := hi
  by_cases a : i < 0
  · have hs := place_out n (width := width) (.inl a)
    rw [hs]
    clear hs
    go_enter Try.func13, Try.ntmps13
    go_wp2
    go_ret
    exact ⟨rfl, rfl⟩
  · by_cases b : width ≤ i
    · have hs := place_out n (width := width) (.inr b)
      rw [hs]
      clear hs
      go_enter Try.func13, Try.ntmps13
      go_wp2
      go_ret
      exact ⟨rfl, rfl⟩
    · have hb := start_bd n width
      have hb1 := hb.1
      have hb2 := hb.2 (by omega)
      clear hb
      by_cases c : start n width + i < width
      · have hs := place_low n (show 0 ≤ i by omega) (show i < width by omega) c
        rw [hs]
        clear hs
        go_enter Try.func13, Try.ntmps13
        go_wp2_with (go_at_call 11; refine (start_any n hn _ ⟨by omega, by omega⟩ _).mono ?_; rintro e w' ⟨rfl, rfl⟩)
        go_ret
        exact ⟨ret_int (by omega), rfl⟩
      · have hs := place_high n (show 0 ≤ i by omega) (show i < width by omega) (by omega)
        have hr := rest_eq (i - (width - start n width)) width (by omega) (by omega)
        rw [hs]
        clear hs
        have e : (i - (width - start n width)) % width = start n width + i - width := by
          rw [Int.emod_eq_of_lt (by omega) (by omega)]; omega
        have E := Lib.hid e
        clear e hr
        go_enter Try.func13, Try.ntmps13
        go_wp2_with (first | (go_at_call 11; refine (start_any n hn _ ⟨by omega, by omega⟩ _).mono ?_; rintro e w' ⟨rfl, rfl⟩) | (go_at_call 17; refine (rest_any _ _ ⟨by omega, by omega⟩ ⟨by omega, by omega⟩ _).mono ?_; rintro e w' ⟨rfl, rfl⟩))
        go_ret
        exact ⟨ret_int E.out, rfl⟩

set_option maxHeartbeats 400000 in
theorem refPlace_any (n : Nat) (hn : n < 18446744073709551616) (width i : Int) (hw : -9223372036854775808 ≤ width ∧ width ≤ 9223372036854775807) (hi : -9223372036854775808 ≤ i ∧ i ≤ 9223372036854775807) (w : World) :
    Calls Try.prog 14 #[.int .u64 n, .int .i64 width, .int .i64 i] w fun e w' => e = .returned (.int .i64 (place n width i)) ∧ w = w' := by
  obtain ⟨h1, h2⟩ := hw
  obtain ⟨h3, h4⟩ := hi
  by_cases a : i < 0
  · have hs := place_out n (width := width) (.inl a)
    rw [hs]
    clear hs
    go_enter Try.func14, Try.ntmps14
    go_wp2
    go_ret
    exact ⟨rfl, rfl⟩
  · by_cases b : width ≤ i
    · have hs := place_out n (width := width) (.inr b)
      rw [hs]
      clear hs
      go_enter Try.func14, Try.ntmps14
      go_wp2
      go_ret
      exact ⟨rfl, rfl⟩
    · have hb := start_bd n width
      have hb1 := hb.1
      have hb2 := hb.2 (by omega)
      have hp := place_bd n (show 0 ≤ i by omega) (show i < width by omega)
      have hs := place_in n (show 0 ≤ i by omega) (show i < width by omega)
      rw [hs] at hp ⊢
      obtain ⟨hp1, hp2⟩ := hp
      clear hb hs
      go_enter Try.func14, Try.ntmps14
      go_wp2_with (go_at_call 12; refine (refStart_any n hn _ ⟨by omega, by omega⟩ _).mono ?_; rintro e w' ⟨rfl, rfl⟩)
      go_ret
      exact ⟨rfl, rfl⟩

end Go.Proofs.Ytiebjjhjjifepaa
