/-
  The walks of the document's At and Ring: the cell of a thing. Conditions: none but that the numbers fit their kinds.
-/
import Derived.Test.YtckgckdmadfkdaaCells2
namespace Go.Proofs.Ytckgckdmadfkdaa
open Go.RowKit

set_option maxHeartbeats 400000 in
theorem at_no (a p s q t e : Int) (nm : ByteArray) (i : Int) (h : ¬ RightC a p s q t) (w : World) :
    Calls Try.prog 16 #[.agg #[.int .i64 a, .int .i64 p, .int .i64 s, .int .i64 q, .int .i64 t, .int .u64 e], .string nm, .int .i64 i] w fun e w' => e = .returned (.int .i64 (-1)) ∧ Fr w w' := by
  have hr := cells_no a p s q t e h
  clear h
  go_enter Try.func16, Try.ntmps16
  go_wp2_with fail
  refine (hr _).mono ?_
  rintro e w1 ⟨rfl, f1⟩
  have f2 : Fr w w1 := ((Fr.refl w).alloc _).trans f1
  clear f1 hr
  go_wp2_with fail
  go_loop [8] (fun i => i = .int .i64 0) (fun _ => 0)
  case atStart => rfl
  case round =>
    subst hrel
    go_wp2
    go_ret
    exact ⟨rfl, f2⟩

theorem bytes_eq {x y : ByteArray} (h : x.toList = y.toList) : x = y := by
  rw [ByteArray.toList_eq, ByteArray.toList_eq] at h
  cases x; cases y
  simp only [ByteArray.mk.injEq]
  exact Array.toList_inj.1 h

set_option maxHeartbeats 1000000 in
theorem at_found (a p s : Nat) (q t e : Int) (nm : ByteArray) (i m : Nat) (h : RightC a p s q t) (hm : m < 3 + p + a + 2 * s) (h1 : cellOf p a m = (nm, i)) (h2 : ∀ j, j < m → cellOf p a j ≠ (nm, i)) (w : World) :
    Calls Try.prog 16 #[.agg #[.int .i64 (a : Nat), .int .i64 (p : Nat), .int .i64 (s : Nat), .int .i64 q, .int .i64 t, .int .u64 e], .string nm, .int .i64 i] w fun e w' => e = .returned (.int .i64 m) ∧ Fr w w' := by
  have hr := cells_yes a p s q t e h
  have h2' := Lib.hid h2
  have h1' := Lib.hid h1
  obtain ⟨a1, a2, p1, p2, s1, s2, q1, q2, t1, t2⟩ := h
  clear h2 h1
  go_enter Try.func16, Try.ntmps16
  go_wp2_with fail
  refine (hr _).mono ?_
  rintro e w1 ⟨g, cap, rfl, hrow, f1⟩
  have f2 : Fr w w1 := ((Fr.refl w).alloc _).trans f1
  clear f1 hr
  obtain ⟨n, hn⟩ : ∃ n : Nat, n = 3 + p + a + 2 * s := ⟨_, rfl⟩
  have hn4 : n ≤ 171 := by omega
  rw [← hn] at hrow hm ⊢
  clear hn
  go_wp2_with fail
  go_loop [8] (fun x => ∃ k : Nat, k ≤ m ∧ x = .int .i64 k) (fun x => m - (intOf x).toNat)
  case atStart => exact ⟨0, Nat.zero_le _, rfl⟩
  case round =>
    obtain ⟨k, hk, rfl⟩ := hrel
    have hkn : k < n := by omega
    have c1 : w1.cell? ⟨g, k * 2, none⟩ = some (.string (cellOf p a k).1) := by rw [Nat.mul_comm, hrow.cellAt (2 * k) (by omega), cellsL_name p a n k hkn]
    have c2 : w1.cell? ⟨g, k * 2 + 1, none⟩ = some (.int .i64 ((cellOf p a k).2 : Nat)) := by rw [Nat.mul_comm, hrow.cellAt (2 * k + 1) (by omega), cellsL_num p a n k hkn]
    generalize hc : cellOf p a k = c at *
    obtain ⟨x, y⟩ := c
    have HC := Lib.hid hc
    clear hc
    dsimp only at c1 c2
    go_wp2
    · have e1 : x.toList = nm.toList := by assumption
      have e2 : ((y : Int) == (i : Int)) = true := by assumption
      have e3 : (x, y) = (nm, i) := by
        have e5 : (y : Int) = (i : Int) := by simpa using e2
        have e6 : y = i := by omega
        rw [bytes_eq e1, e6]
      have e4 : k = m := by
        rcases Nat.lt_or_ge k m with hl | hl
        · exact absurd (HC.out.trans e3) (h2'.out k hl)
        · omega
      go_ret
      exact ⟨ret_int (by rw [e4]), f2⟩
    · have e2 : ((y : Int) == (i : Int)) = false := by assumption
      have e4 : k < m := by
        rcases Nat.lt_or_ge k m with hl | hl
        · exact hl
        · have e5 : k = m := by omega
          rw [e5] at HC
          have e6 := HC.out.symm.trans h1'.out
          simp only [Prod.mk.injEq] at e6
          simp [e6.2] at e2
      exact ⟨⟨k + 1, by omega, by go_num⟩, by simp [intOf]; omega⟩
    · have e1 : ¬ x.toList = nm.toList := by assumption
      have e4 : k < m := by
        rcases Nat.lt_or_ge k m with hl | hl
        · exact hl
        · have e5 : k = m := by omega
          rw [e5] at HC
          have e6 := HC.out.symm.trans h1'.out
          simp only [Prod.mk.injEq] at e6
          exact absurd (by rw [e6.1]) e1
      exact ⟨⟨k + 1, by omega, by go_num⟩, by simp [intOf]; omega⟩

set_option maxHeartbeats 1000000 in
theorem at_none (a p s : Nat) (q t e : Int) (nm : ByteArray) (i : Int) (h : RightC a p s q t) (h2 : ∀ j, j < 3 + p + a + 2 * s → ¬ ((cellOf p a j).1 = nm ∧ ((cellOf p a j).2 : Int) = i)) (w : World) :
    Calls Try.prog 16 #[.agg #[.int .i64 (a : Nat), .int .i64 (p : Nat), .int .i64 (s : Nat), .int .i64 q, .int .i64 t, .int .u64 e], .string nm, .int .i64 i] w fun e w' => e = .returned (.int .i64 (-1)) ∧ Fr w w' := by
  have hr := cells_yes a p s q t e h
  obtain ⟨a1, a2, p1, p2, s1, s2, q1, q2, t1, t2⟩ := h
  obtain ⟨n, hn⟩ : ∃ n : Nat, n = 3 + p + a + 2 * s := ⟨_, rfl⟩
  have hn4 : n ≤ 171 := by omega
  rw [← hn] at h2
  have h2' := Lib.hid h2
  have hn' := Lib.hid hn
  clear h2 hn
  go_enter Try.func16, Try.ntmps16
  go_wp2_with fail
  refine (hr _).mono ?_
  rintro e w1 ⟨g, cap, rfl, hrow, f1⟩
  have f2 : Fr w w1 := ((Fr.refl w).alloc _).trans f1
  clear f1 hr
  rw [← hn'.out] at hrow ⊢
  clear hn'
  go_wp2_with fail
  go_loop [8] (fun x => ∃ k : Nat, k ≤ n ∧ x = .int .i64 k) (fun x => n - (intOf x).toNat)
  case atStart => exact ⟨0, Nat.zero_le _, rfl⟩
  case round =>
    obtain ⟨k, hk, rfl⟩ := hrel
    by_cases hkn : k < n
    · have c1 : w1.cell? ⟨g, k * 2, none⟩ = some (.string (cellOf p a k).1) := by rw [Nat.mul_comm, hrow.cellAt (2 * k) (by omega), cellsL_name p a n k hkn]
      have c2 : w1.cell? ⟨g, k * 2 + 1, none⟩ = some (.int .i64 ((cellOf p a k).2 : Nat)) := by rw [Nat.mul_comm, hrow.cellAt (2 * k + 1) (by omega), cellsL_num p a n k hkn]
      have HN := Lib.hid (h2'.out k hkn)
      generalize cellOf p a k = c at *
      obtain ⟨x, y⟩ := c
      dsimp only at c1 c2 HN
      go_wp2
      · have e1 : x.toList = nm.toList := by assumption
        have e2 : ((y : Int) == i) = true := by assumption
        exact absurd ⟨bytes_eq e1, by simpa using e2⟩ HN.out
      · exact ⟨⟨k + 1, by omega, by go_num⟩, by simp [intOf]; omega⟩
      · exact ⟨⟨k + 1, by omega, by go_num⟩, by simp [intOf]; omega⟩
    · obtain rfl : n = k := by omega
      go_wp2
      go_ret
      exact ⟨rfl, f2⟩
end Go.Proofs.Ytckgckdmadfkdaa
