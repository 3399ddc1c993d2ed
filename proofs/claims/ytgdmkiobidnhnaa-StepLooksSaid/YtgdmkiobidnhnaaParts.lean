/-
  Which guards and steps may be: the program's answer. Conditions: none.
-/
import Derived.Test.YtgdmkiobidnhnaaGs
namespace Go.Proofs.Ytgdmkiobidnhnaa
open Go.RowKit

def gdA (g : Gd) : Value := .agg #[.int .i64 g.k, .string g.key, .string g.val]
def spA (s : Sp) : Value := .agg #[.int .i64 s.k, .string s.key, .string s.val, .string s.old, .int .i64 s.n]
/-- A text is empty. -/
def nul (b : ByteArray) : Bool := b.toList.isEmpty
def okGd (g : Gd) : Bool := decide (g.key.size ≤ 16) && decide (g.val.size ≤ 32) && (((g.k == 1 || g.k == 2) && nul g.val) || g.k == 3)
def okSp (s : Sp) : Bool := decide (s.key.size ≤ 16) && decide (s.val.size ≤ 32) && decide (s.old.size ≤ 32) &&
  ((s.k == 4 && s.n == 0) || (s.k == 1 && nul s.old && s.n == 0) || (s.k == 3 && nul s.val && nul s.old) || (s.k == 2 && nul s.val && nul s.old && s.n == 0))
set_option maxRecDepth 20000 in
set_option maxHeartbeats 4000000 in
theorem gd_walk (g : Gd) (w : World) : Calls Try.prog 32 #[gdA g] w fun e w' => e = .returned (.bool (okGd g)) ∧ Fr w w' := by
  obtain ⟨k, key, val⟩ := g
  have f1 := (Fr.refl w).alloc (.cells #[.int .i64 k, .string key, .string val] 56)
  obtain ⟨r, hr⟩ : ∃ r, okGd ⟨k, key, val⟩ = r := ⟨_, rfl⟩
  rw [hr]
  unfold okGd nul at hr
  dsimp only at hr
  unfold gdA
  dsimp only
  by_cases h1 : 16 < key.size
  · have hr2 : r = false := by rw [← hr]; simp; omega
    have HH := Go.Lib.hid hr2; clear hr hr2; go_enter Try.func32, Try.ntmps32; go_wp2_with fail; go_ret; exact ⟨by rw [HH.out]; rfl, f1⟩
  · have d1 : decide (key.size ≤ 16) = true := by simp; omega
    by_cases h2 : 32 < val.size
    · have hr2 : r = false := by rw [← hr]; simp; omega
      have HH := Go.Lib.hid hr2; clear hr hr2; go_enter Try.func32, Try.ntmps32; go_wp2_with fail; go_ret; exact ⟨by rw [HH.out]; rfl, f1⟩
    · have d2 : decide (val.size ≤ 32) = true := by simp; omega
      rw [d1, d2] at hr
      clear d1 d2
      by_cases h3 : k = 1
      · subst h3
        have hr2 : r = val.toList.isEmpty := by rw [← hr]; simp
        have HH := Go.Lib.hid hr2; clear hr hr2; go_enter Try.func32, Try.ntmps32; go_wp2_with fail; go_ret; exact ⟨by rw [HH.out]; rfl, f1⟩
      · by_cases h4 : k = 2
        · subst h4
          have hr2 : r = val.toList.isEmpty := by rw [← hr]; simp
          have HH := Go.Lib.hid hr2; clear hr hr2; go_enter Try.func32, Try.ntmps32; go_wp2_with fail; go_ret; exact ⟨by rw [HH.out]; rfl, f1⟩
        · have hk1 : (k == 1) = false := by simp [h3]
          have hk2 : (k == 2) = false := by simp [h4]
          have hr2 : r = (k == 3) := by rw [← hr]; simp [hk1, hk2]
          have HH := Go.Lib.hid hr2; clear hr hr2; go_enter Try.func32, Try.ntmps32; go_wp2_with fail; go_ret; exact ⟨by rw [HH.out]; rfl, f1⟩
set_option maxRecDepth 20000 in
set_option maxHeartbeats 4000000 in
theorem sp_walk (s : Sp) (w : World) : Calls Try.prog 33 #[spA s] w fun e w' => e = .returned (.bool (okSp s)) ∧ Fr w w' := by
  obtain ⟨k, key, val, old, n⟩ := s
  have f1 := (Fr.refl w).alloc (.cells #[.int .i64 k, .string key, .string val, .string old, .int .i64 n] 58)
  obtain ⟨r, hr⟩ : ∃ r, okSp ⟨k, key, val, old, n⟩ = r := ⟨_, rfl⟩
  rw [hr]
  unfold okSp nul at hr
  dsimp only at hr
  unfold spA
  dsimp only
  by_cases h1 : 16 < key.size
  · have hr2 : r = false := by rw [← hr]; simp; omega
    have HH := Go.Lib.hid hr2; clear hr hr2; go_enter Try.func33, Try.ntmps33; go_wp2_with fail; go_ret; exact ⟨by rw [HH.out]; rfl, f1⟩
  · have d1 : decide (key.size ≤ 16) = true := by simp; omega
    by_cases h2 : 32 < max val.size old.size
    · have hr2 : r = false := by rw [← hr]; simp; omega
      have hm : (32 : Int) < max (val.size : Int) (old.size : Int) := by omega
      clear h2
      have HH := Go.Lib.hid hr2; clear hr hr2; go_enter Try.func33, Try.ntmps33; go_wp2_with fail; go_ret; exact ⟨by rw [HH.out]; rfl, f1⟩
    · have d2 : decide (val.size ≤ 32) = true := by simp; omega
      have d3 : decide (old.size ≤ 32) = true := by simp; omega
      rw [d1, d2, d3] at hr
      have hm : ¬ (32 : Int) < max (val.size : Int) (old.size : Int) := by omega
      clear d1 d2 d3 h2
      by_cases h3 : k = 4
      · subst h3
        have hr2 : r = (n == 0) := by rw [← hr]; simp
        have HH := Go.Lib.hid hr2; clear hr hr2; go_enter Try.func33, Try.ntmps33; go_wp2_with fail; all_goals (go_ret; refine ⟨?_, (((Fr.refl w).alloc _).alloc _)⟩; rw [HH.out]; simp [*]; done)
      · by_cases h4 : k = 1
        · subst h4
          have hr2 : r = (old.toList.isEmpty && n == 0) := by rw [← hr]; simp
          have HH := Go.Lib.hid hr2; clear hr hr2; go_enter Try.func33, Try.ntmps33; go_wp2_with fail; all_goals (go_ret; refine ⟨?_, (((Fr.refl w).alloc _).alloc _)⟩; rw [HH.out]; simp [*]; done)
        · by_cases h5 : k = 3
          · subst h5
            have hr2 : r = (val.toList.isEmpty && old.toList.isEmpty) := by rw [← hr]; simp
            have HH := Go.Lib.hid hr2; clear hr hr2; go_enter Try.func33, Try.ntmps33; go_wp2_with fail; all_goals (go_ret; refine ⟨?_, (((Fr.refl w).alloc _).alloc _)⟩; rw [HH.out]; simp [*]; done)
          · by_cases h6 : k = 2
            · subst h6
              have hr2 : r = (val.toList.isEmpty && old.toList.isEmpty && n == 0) := by rw [← hr]; simp
              have HH := Go.Lib.hid hr2; clear hr hr2; go_enter Try.func33, Try.ntmps33; go_wp2_with fail; all_goals (go_ret; refine ⟨?_, (((Fr.refl w).alloc _).alloc _)⟩; rw [HH.out]; simp [*]; done)
            · have k1 : (k == 1) = false := by simp [h4]
              have k2 : (k == 2) = false := by simp [h6]
              have k3 : (k == 3) = false := by simp [h5]
              have k4 : (k == 4) = false := by simp [h3]
              have hr2 : r = false := by rw [← hr]; simp [k1, k2, k3, k4]
              have HH := Go.Lib.hid hr2; clear hr hr2; go_enter Try.func33, Try.ntmps33; go_wp2_with fail; go_ret; exact ⟨by rw [HH.out]; rfl, (((Fr.refl w).alloc _).alloc _)⟩
end Go.Proofs.Ytgdmkiobidnhnaa
