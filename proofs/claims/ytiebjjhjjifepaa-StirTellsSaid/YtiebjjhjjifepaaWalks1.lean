/-
  The walks of the functions that only compute: a number with a byte more, a text's number, where a way begins, a place of a way; the program's and the document's. Conditions: the numbers fit their kinds.
-/
import Derived.Test.YtiebjjhjjifepaaRows
import Derived.Test.YtiebjjhjjifepaaPlain
import Derived.WalkLawsBesides
import Derived.Lib.Hide
namespace Go.Proofs.Ytiebjjhjjifepaa
open Go.RowKit

theorem ret_int {k : IntKind} {a b : Int} (h : a = b) : Ending.returned (.int k a) = .returned (.int k b) := by rw [h]

set_option maxHeartbeats 400000 in
theorem more_any (n c : Nat) (hn : n < 18446744073709551616) (hc : c < 256) (w : World) :
    Calls Try.prog 8 #[.int .u64 n, .int .u8 c] w fun e w' => e = .returned (.int .u64 (more n c : Nat)) ∧ w = w' := by
  go_enter Try.func8, Try.ntmps8
  go_wp2
  go_ret
  exact ⟨ret_int (more_val n c hn hc), rfl⟩

set_option maxHeartbeats 400000 in
theorem refMore_any (n c : Nat) (hn : n < 18446744073709551616) (hc : c < 256) (w : World) :
    Calls Try.prog 10 #[.int .u64 n, .int .u8 c] w fun e w' => e = .returned (.int .u64 (more n c : Nat)) ∧ w = w' := by
  go_enter Try.func10, Try.ntmps10
  go_wp2
  go_ret
  exact ⟨ret_int (more_val' n c hn hc), rfl⟩

theorem take_snoc (s : ByteArray) (k : Nat) (h : k < s.size) : s.data.toList.take (k + 1) = s.data.toList.take k ++ [s[k]] := by
  rw [List.take_succ_eq_append_getElem (by simpa using h)]; rfl

theorem seed_val (n : Nat) (hn : n < 18446744073709551616) : bits .xor .u64 (n : Int) 14695981039346656037 = ((n ^^^ 14695981039346656037 : Nat) : Int) :=
  bits_xor_u64_nat n 14695981039346656037 hn (by omega)

set_option maxHeartbeats 400000 in
theorem sum_any (n : Nat) (hn : n < 18446744073709551616) (s : ByteArray) (hs : s.size ≤ 9223372036854775807) (w : World) :
    Calls Try.prog 7 #[.int .u64 n, .string s] w fun e w' => e = .returned (.int .u64 (sumF n s.data.toList : Nat)) ∧ w = w' := by
  go_enter Try.func7, Try.ntmps7
  go_wp2
  go_loop [5, 11] (fun x i => ∃ k : Nat, k ≤ s.size ∧ i = .int .i64 k ∧ x = .int .u64 (sumF n (s.data.toList.take k) : Nat)) (fun _ i => s.size - (intOf i).toNat)
  case atStart => exact ⟨0, Nat.zero_le _, rfl, by rw [seed_val n hn]; rfl⟩
  case round =>
    obtain ⟨k, hk, rfl, rfl⟩ := hrel
    have hl := sumF_lt n (s.data.toList.take k) hn
    by_cases hlt : k < s.size
    · have hb : s[k].toNat < 256 := UInt8.toNat_lt _
      have HS := Lib.hid (show sumF n (s.data.toList.take (k + 1)) = more (sumF n (s.data.toList.take k)) s[k].toNat by rw [take_snoc s k hlt, sumF_snoc])
      go_wp2_with (go_at_call 8; refine (more_any _ _ hl hb _).mono ?_; rintro e w' ⟨rfl, rfl⟩)
      go_round
      case rel => exact ⟨k + 1, by omega, by go_num, by rw [HS.out]⟩
      case measure => simp [intOf]; omega
    · go_wp2
      go_ret
      exact ⟨ret_int (by rw [List.take_of_length_le (by simp; omega)]), rfl⟩

set_option maxHeartbeats 400000 in
theorem refSum_any (n : Nat) (hn : n < 18446744073709551616) (s : ByteArray) (hs : s.size ≤ 9223372036854775807) (w : World) :
    Calls Try.prog 9 #[.int .u64 n, .string s] w fun e w' => e = .returned (.int .u64 (sumF n s.data.toList : Nat)) ∧ w = w' := by
  go_enter Try.func9, Try.ntmps9
  go_wp2
  go_loop [5, 6] (fun x i => ∃ k : Nat, k ≤ s.size ∧ i = .int .i64 k ∧ x = .int .u64 (sumF n (s.data.toList.take k) : Nat)) (fun _ i => s.size - (intOf i).toNat)
  case atStart => exact ⟨0, Nat.zero_le _, rfl, by rw [seed_val n hn]; rfl⟩
  case round =>
    obtain ⟨k, hk, rfl, rfl⟩ := hrel
    have hl := sumF_lt n (s.data.toList.take k) hn
    by_cases hlt : k < s.size
    · have hb : s[k].toNat < 256 := UInt8.toNat_lt _
      have HS := Lib.hid (show sumF n (s.data.toList.take (k + 1)) = more (sumF n (s.data.toList.take k)) s[k].toNat by rw [take_snoc s k hlt, sumF_snoc])
      go_wp2_with (go_at_call 10; refine (refMore_any _ _ hl hb _).mono ?_; rintro e w' ⟨rfl, rfl⟩)
      go_round
      case rel => exact ⟨k + 1, by omega, by go_num, by rw [HS.out]⟩
      case measure => simp [intOf]; omega
    · go_wp2
      go_ret
      exact ⟨ret_int (by rw [List.take_of_length_le (by simp; omega)]), rfl⟩

theorem rest_eq (n m : Int) (hn : 0 ≤ n) (hm : 1 ≤ m) : 0 ≤ n / m * m ∧ n / m * m ≤ n ∧ n - n / m * m = n % m := by
  have h1 := Int.ediv_mul_add_emod n m
  have h2 := Int.emod_nonneg n (show m ≠ 0 by omega)
  have h3 := Int.mul_nonneg (Int.ediv_nonneg hn (show 0 ≤ m by omega)) (show 0 ≤ m by omega)
  omega

set_option maxHeartbeats 400000 in
theorem rest64_any (n m : Int) (hn : 0 ≤ n ∧ n ≤ 18446744073709551615) (hm : 1 ≤ m ∧ m ≤ 18446744073709551615) (w : World) :
    Calls Try.prog 16 #[.int .u64 n, .int .u64 m] w fun e w' => e = .returned (.int .u64 (n % m)) ∧ w = w' := by
  obtain ⟨h1, h2⟩ := hn
  obtain ⟨h3, h4⟩ := hm
  go_enter Try.func16, Try.ntmps16
  go_wp2
  go_ret
  refine ⟨ret_int ?_, rfl⟩
  have h := rest_eq n m h1 h3
  rw [IntWalk.u64_in (n / m * m) (by omega), IntWalk.u64_in _ (by omega)]
  exact h.2.2

set_option maxHeartbeats 400000 in
theorem rest_any (n m : Int) (hn : 0 ≤ n ∧ n ≤ 9223372036854775807) (hm : 1 ≤ m ∧ m ≤ 9223372036854775807) (w : World) :
    Calls Try.prog 17 #[.int .i64 n, .int .i64 m] w fun e w' => e = .returned (.int .i64 (n % m)) ∧ w = w' := by
  obtain ⟨h1, h2⟩ := hn
  obtain ⟨h3, h4⟩ := hm
  go_enter Try.func17, Try.ntmps17
  go_wp2
  go_ret
  refine ⟨ret_int ?_, rfl⟩
  have h := rest_eq n m h1 h3
  rw [IntWalk.wrap64_in (n / m * m) (by omega), IntWalk.wrap64_in _ (by omega)]
  exact h.2.2

set_option maxHeartbeats 400000 in
theorem start_any (n : Nat) (hn : n < 18446744073709551616) (width : Int) (hw : -9223372036854775808 ≤ width ∧ width ≤ 9223372036854775807) (w : World) :
    Calls Try.prog 11 #[.int .u64 n, .int .i64 width] w fun e w' => e = .returned (.int .i64 (start n width)) ∧ w = w' := by
  obtain ⟨h1, h2⟩ := hw
  by_cases h : width < 1
  · have hs := start_neg n h
    go_enter Try.func11, Try.ntmps11
    go_wp2
    go_ret
    exact ⟨ret_int hs.symm, rfl⟩
  · have hs := start_pos n h
    have hb := start_bd n width
    rw [hs] at hb
    have hb1 := hb.1
    have hb2 := hb.2 (by omega)
    clear hb
    rw [hs]
    have h3 : 1 ≤ width := by omega
    clear hs h
    go_enter Try.func11, Try.ntmps11
    go_wp2_with (go_at_call 16; refine (rest64_any _ _ ⟨by omega, by omega⟩ ⟨by omega, by omega⟩ _).mono ?_; rintro e w' ⟨rfl, rfl⟩)
    go_ret
    exact ⟨rfl, rfl⟩

set_option maxHeartbeats 400000 in
theorem refStart_any (n : Nat) (hn : n < 18446744073709551616) (width : Int) (hw : -9223372036854775808 ≤ width ∧ width ≤ 9223372036854775807) (w : World) :
    Calls Try.prog 12 #[.int .u64 n, .int .i64 width] w fun e w' => e = .returned (.int .i64 (start n width)) ∧ w = w' := by
  obtain ⟨h1, h2⟩ := hw
  by_cases h : width < 1
  · have hs := start_neg n h
    go_enter Try.func12, Try.ntmps12
    go_wp2
    go_ret
    exact ⟨ret_int hs.symm, rfl⟩
  · have hs := start_pos n h
    have hb := start_bd n width
    rw [hs] at hb
    have hb1 := hb.1
    have hb2 := hb.2 (by omega)
    clear hb
    rw [hs]
    have h3 : 1 ≤ width := by omega
    clear hs h
    go_enter Try.func12, Try.ntmps12
    go_wp2
    go_ret
    exact ⟨rfl, rfl⟩

end Go.Proofs.Ytiebjjhjjifepaa
