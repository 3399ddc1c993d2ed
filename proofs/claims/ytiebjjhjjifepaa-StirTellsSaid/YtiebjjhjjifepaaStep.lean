/-
  The walk of StirStep: a text with one byte more goes on from the number of the text ahead. Conditions: none but that the values fit their kinds.
-/
import Derived.Test.YtiebjjhjjifepaaAwake
namespace Go.Proofs.Ytiebjjhjjifepaa
open Go.RowKit Go.Shelf

theorem conv1 (c : Nat) (w : World) : (convert 25 9 (.slice (some ⟨w.heap.size, 0, none⟩) 1 1)).run Try.prog (w.alloc (.cells #[.int .u8 c] 5)) = .ok (.string ⟨#[UInt8.ofNat c]⟩) (w.alloc (.cells #[.int .u8 c] 5)) :=
  run_convert_bytes_arg (P := Try.prog) (w.alloc (.cells #[.int .u8 c] 5)) 25 5 Try.underlying25 Try.underlying5 w.heap.size 0 1 1 [(c : Int)] rfl (fun i hi => by
    obtain rfl : i = 0 := by omega
    simp) 9 Try.underlying9

theorem sum_more (n c : Nat) (hn : n < 18446744073709551616) (hc : c < 256) (s : ByteArray) (hs : s.size ≤ 2000) (w : World) :
    Calls Try.prog 7 #[.int .u64 n, .string (s ++ { data := #[UInt8.ofNat c] })] w fun e w' => e = .returned (.int .u64 (more (sumF n s.data.toList) c : Nat)) ∧ w = w' := by
  refine (sum_any n hn _ (by rw [ByteArray.size_append]; show s.size + 1 ≤ _; omega) w).mono ?_
  rintro e w' ⟨rfl, rfl⟩
  refine ⟨ret_int ?_, rfl⟩
  have e : (s ++ ({ data := #[UInt8.ofNat c] } : ByteArray)).data.toList = s.data.toList ++ [UInt8.ofNat c] := by simp
  rw [e, sumF_snoc]
  have : (UInt8.ofNat c).toNat = c := by simp; omega
  rw [this]

set_option maxHeartbeats 400000 in
theorem step_walk (n c : Nat) (hn : n < 18446744073709551616) (hc : c < 256) (s : ByteArray) (hs : s.size ≤ 9223372036854775807) (w : World) :
    Calls Try.prog 3 #[.int .u64 n, .string s, .int .u8 c] w fun e w' => e = .returned (.bool true) ∧ Below w.heap.size w w' := by
  by_cases h : 2000 < s.size
  · go_enter Try.func3, Try.ntmps3
    go_wp2_with fail
    refine (awake_any _).mono ?_
    rintro e w' ⟨rfl, hB⟩
    go_wp2
    go_ret
    exact ⟨rfl, hB⟩
  · go_enter Try.func3, Try.ntmps3
    go_wp2_with (simp only [conv1])
    refine (sum_more n c hn hc s (by omega) _).mono ?_
    rintro e w' ⟨rfl, rfl⟩
    go_wp2_with fail
    refine (sum_any n hn s hs _).mono ?_
    rintro e w' ⟨rfl, rfl⟩
    go_wp2_with fail
    refine (more_any _ c (sumF_lt n _ hn) hc _).mono ?_
    rintro e w' ⟨rfl, rfl⟩
    go_wp2_with fail
    refine (awake_any _).mono ?_
    rintro e w' ⟨rfl, hB⟩
    go_wp2
    go_ret
    exact ⟨rfl, ((Below.refl _ w).alloc (Nat.le_refl _) _).trans (hB.mono (by simp))⟩

theorem u64_nat {a : Int} (h : (Lit.int .u64 a).wf = true) : ∃ n : Nat, a = n ∧ n < 18446744073709551616 := by
  have hx : 0 ≤ a ∧ a ≤ 18446744073709551615 := by simpa [Lit.wf, IntKind.min, IntKind.max, IntKind.signed, IntKind.bits] using h
  exact ⟨a.toNat, by omega, by omega⟩
theorem u8_nat {a : Int} (h : (Lit.int .u8 a).wf = true) : ∃ n : Nat, a = n ∧ n < 256 := by
  have hx : 0 ≤ a ∧ a ≤ 255 := by simpa [Lit.wf, IntKind.min, IntKind.max, IntKind.signed, IntKind.bits] using h
  exact ⟨a.toNat, by omega, by omega⟩
theorem i64_bd {a : Int} (h : (Lit.int .i64 a).wf = true) : -9223372036854775808 ≤ a ∧ a ≤ 9223372036854775807 := by
  simpa [Lit.wf, IntKind.min, IntKind.max, IntKind.signed, IntKind.bits] using h

theorem stirStep.walk (a0 : Int) (a1 : ByteArray) (a2 : Int) (w0 : (Lit.int .u64 a0).wf = true) (w1 : a1.size ≤ maxLen) (w2 : (Lit.int .u8 a2).wf = true) (w : World) :
    Calls Try.prog 3 #[.int .u64 a0, .string a1, .int .u8 a2] w fun e w' => e = .returned (.bool true) ∧ Below w.heap.size w w' := by
  obtain ⟨n, rfl, hn⟩ := u64_nat w0
  obtain ⟨c, rfl, hc⟩ := u8_nat w2
  exact step_walk n c hn hc a1 w1 w
end Go.Proofs.Ytiebjjhjjifepaa
