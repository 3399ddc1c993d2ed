/-
  The walk of the document's Right. Conditions: none but that the numbers fit their kinds.
-/
import Derived.Test.YtckgckdmadfkdaaApart1
namespace Go.Proofs.Ytckgckdmadfkdaa
open Go.RowKit

set_option maxHeartbeats 1000000 in
theorem refRight_yes (a p s q t e : Int) (h : RightC a p s q t) (w : World) :
    Calls Try.prog 13 #[.agg #[.int .i64 a, .int .i64 p, .int .i64 s, .int .i64 q, .int .i64 t, .int .u64 e]] w fun e w' => e = .returned (.bool true) ∧ Fr w w' := by
  obtain ⟨a1, a2, p1, p2, s1, s2, q1, q2, t1, t2⟩ := h
  go_enter Try.func13, Try.ntmps13
  go_wp2
  go_ret
  refine ⟨ret_bool ?_, (Fr.refl _).alloc _⟩
  simp

set_option maxHeartbeats 400000 in
theorem refRight_no (a p s q t e : Int) (h : ¬ RightC a p s q t) (w : World) :
    Calls Try.prog 13 #[.agg #[.int .i64 a, .int .i64 p, .int .i64 s, .int .i64 q, .int .i64 t, .int .u64 e]] w fun e w' => e = .returned (.bool false) ∧ Fr w w' := by
  by_cases h1 : 1 ≤ a
  · by_cases h2 : a ≤ 32
    · by_cases h3 : 1 ≤ p
      · by_cases h4 : p ≤ 8
        · by_cases h5 : 1 ≤ s
          · by_cases h6 : s ≤ 64
            · by_cases h7 : 0 ≤ q
              · by_cases h8 : q ≤ 64
                · by_cases h9 : 0 ≤ t
                  · by_cases h10 : t ≤ 8
                    · exact absurd ⟨h1, h2, h3, h4, h5, h6, h7, h8, h9, h10⟩ h
                    · clear h
                      go_enter Try.func13, Try.ntmps13
                      go_wp2
                      go_ret
                      exact ⟨ret_bool (by simp), (Fr.refl _).alloc _⟩
                  · clear h
                    go_enter Try.func13, Try.ntmps13
                    go_wp2
                    go_ret
                    exact ⟨ret_bool (by simp), (Fr.refl _).alloc _⟩
                · clear h
                  go_enter Try.func13, Try.ntmps13
                  go_wp2
                  go_ret
                  exact ⟨ret_bool (by simp), (Fr.refl _).alloc _⟩
              · clear h
                go_enter Try.func13, Try.ntmps13
                go_wp2
                go_ret
                exact ⟨ret_bool (by simp), (Fr.refl _).alloc _⟩
            · clear h
              go_enter Try.func13, Try.ntmps13
              go_wp2
              go_ret
              exact ⟨ret_bool (by simp), (Fr.refl _).alloc _⟩
          · clear h
            go_enter Try.func13, Try.ntmps13
            go_wp2
            go_ret
            exact ⟨ret_bool (by simp), (Fr.refl _).alloc _⟩
        · clear h
          go_enter Try.func13, Try.ntmps13
          go_wp2
          go_ret
          exact ⟨ret_bool (by simp), (Fr.refl _).alloc _⟩
      · clear h
        go_enter Try.func13, Try.ntmps13
        go_wp2
        go_ret
        exact ⟨ret_bool (by simp), (Fr.refl _).alloc _⟩
    · clear h
      go_enter Try.func13, Try.ntmps13
      go_wp2
      go_ret
      exact ⟨ret_bool (by simp), (Fr.refl _).alloc _⟩
  · clear h
    go_enter Try.func13, Try.ntmps13
    go_wp2
    go_ret
    exact ⟨ret_bool (by simp), (Fr.refl _).alloc _⟩

end Go.Proofs.Ytckgckdmadfkdaa
