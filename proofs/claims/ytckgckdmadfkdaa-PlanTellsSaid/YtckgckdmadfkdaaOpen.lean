/-
  The walks of Open and of what it makes: a set without names, a row without entries, a model. Conditions: none but that the numbers fit their kinds.
-/
import Derived.Test.YtckgckdmadfkdaaWhere2
import Derived.Deep.RegionWith
import Derived.Deep.RegionHeld3
namespace Go.Proofs.Ytckgckdmadfkdaa
open Go.RowKit

theorem Fr.drew {a w : World} (h : Fr a w) : Fr a w.drew := h.drewN 1

set_option maxHeartbeats 400000 in
theorem of_nil (w : World) : Calls Try.prog 25 #[.slice none 0 0] w fun e w' => e = .returned (.pointer (some ⟨w.heap.size, 0, none⟩)) ∧ Fr w w' := by
  go_enter Try.func25, Try.ntmps25
  go_wp2
  go_loop [10] (fun i => i = .int .i64 0) (fun _ => 0)
  case atStart => rfl
  case round =>
    subst hrel
    go_wp2
    go_ret
    exact ⟨rfl, (Fr.refl w).alloc _⟩

set_option maxHeartbeats 400000 in
theorem pnew_any (n : Int) (w : World) : Calls Try.prog 26 #[.int .i64 n] w fun e w' => e = .returned (.pointer (some ⟨w.heap.size + 1, 0, none⟩)) ∧ Fr w w' := by
  have hmm := @run_makeMap Try.prog
  rcases (show n ≤ 0 ∨ (0 < n ∧ n < 32) ∨ 32 ≤ n by omega) with h | ⟨h1, h2⟩ | h
  all_goals
    go_enter Try.func26, Try.ntmps26
    go_wp2
    all_goals
      go_ret
      exact ⟨rfl, ((Fr.refl w).alloc _).alloc _⟩

/-- The block of a model that was just made: it has names, and has issued none. -/
def Fresh (m : Nat) (w : World) : Prop := ∃ (cs : Array Value) (n : Nat), w.heap[m]? = some (.cells cs 56 (0, 0)) ∧ cs[7]? = some (.pointer (some ⟨n, 0, none⟩)) ∧ cs[10]? = some (.int .i64 0)
theorem fresh_new (W : World) (cs : Array Value) (n m : Nat) (hm : m = W.heap.size) (h7 : cs[7]? = some (.pointer (some ⟨n, 0, none⟩))) (h10 : cs[10]? = some (.int .i64 0)) : Fresh m (W.alloc (.cells cs 56)) := by
  subst hm
  exact ⟨cs, n, heap_alloc_new _ _, h7, h10⟩
def NewPost (W : World) (e : Ending) (w' : World) : Prop := ∃ m : Nat, e = .returned (.pointer (some ⟨m, 0, none⟩)) ∧ Fr W w' ∧ Fresh m w'

set_option maxHeartbeats 1000000 in
theorem mnew_any (a p s q t e : Int) (w : World) : Calls Try.prog 23 #[.agg #[.int .i64 a, .int .i64 p, .int .i64 s, .int .i64 q, .int .i64 t, .int .u64 e]] w (NewPost w) := by
  have hmm := @run_makeMap Try.prog
  have ho := of_nil
  have hp := pnew_any
  go_enter Try.func23, Try.ntmps23
  go_wp2_with fail
  have c0 := cfg_cells a p s q t e w
  have f0 := (Fr.refl w).alloc (Obj.cells #[Value.int .i64 a, .int .i64 p, .int .i64 s, .int .i64 q, .int .i64 t, .int .u64 e] 24)
  generalize w.alloc (Obj.cells #[Value.int .i64 a, .int .i64 p, .int .i64 s, .int .i64 q, .int .i64 t, .int .u64 e] 24) = W at *
  generalize w.heap.size = B at *
  go_region_held3 (fun w' => Fr W w') (first | assumption | exact Fr.drew (Fr.refl _) | exact Fr.alloc (by assumption) _ | exact Fr.drew (Fr.alloc (Fr.refl _) _)) (first | (go_at_call 25; refine (ho _).mono ?_; rintro e w1 ⟨rfl, hf⟩; have hf1 : Fr W w1 := (by first | exact Fr.trans (Fr.drew (Fr.refl W)) hf | exact Fr.trans (by assumption) hf); clear hf) | (go_at_call 26; refine (hp _ _).mono ?_; rintro e w2 ⟨rfl, hf⟩; have hf2 : Fr W w2 := (by first | exact Fr.trans (by assumption) hf | exact Fr.trans (Fr.alloc (by assumption) _) hf); clear hf))
  all_goals
    go_wp2
    go_ret
    exact ⟨_, rfl, Fr.trans f0 (by assumption), fresh_new _ _ _ _ (by simp) rfl rfl⟩

theorem Fr.lt {w w' : World} (h : Fr w w') {k : Nat} {o : Obj} (hk : w.heap[k]? = some o) : w'.heap[k]? = some o := by
  rcases Nat.lt_or_ge k w.heap.size with hl | hl
  · rw [h.heap hl, hk]
  · rw [Array.getElem?_eq_none hl] at hk; cases hk
theorem Fresh.fr {m : Nat} {w w' : World} (h : Fresh m w) (hf : Fr w w') : Fresh m w' := by
  obtain ⟨cs, n, h1, h2, h3⟩ := h
  exact ⟨cs, n, hf.lt h1, h2, h3⟩

set_option maxHeartbeats 400000 in
theorem made_any (m : Nat) (w : World) (h : Fresh m w) : Calls Try.prog 24 #[.pointer (some ⟨m, 0, none⟩)] w fun e w' => e = .returned (.bool true) ∧ w = w' := by
  obtain ⟨cs, n, h1, h2, h3⟩ := h
  have c7 : w.cell? ⟨m, 7, none⟩ = some (.pointer (some ⟨n, 0, none⟩)) := by simp [World.cell?, h1, h2]
  clear h1 h2 h3
  go_enter Try.func24, Try.ntmps24
  go_wp2
  go_ret
  exact ⟨rfl, rfl⟩

set_option maxHeartbeats 400000 in
theorem issued_any (m : Nat) (w : World) (h : Fresh m w) : Calls Try.prog 21 #[.pointer (some ⟨m, 0, none⟩)] w fun e w' => e = .returned (.int .i64 0) ∧ w = w' := by
  have hm := made_any m w h
  obtain ⟨cs, n, h1, h2, h3⟩ := h
  have c10 : w.cell? ⟨m, 10, none⟩ = some (.int .i64 0) := by simp [World.cell?, h1, h3]
  clear h1 h2 h3
  go_enter Try.func21, Try.ntmps21
  go_wp2_with fail
  refine hm.mono ?_
  rintro e w' ⟨rfl, rfl⟩
  go_wp2
  go_ret
  exact ⟨rfl, rfl⟩

/-- An office that was just opened. -/
def Office (b : Nat) (a p s q t e : Int) (w : World) : Prop := ∃ m : Nat, Fresh m w ∧ w.heap[b]? = some (.cells #[.int .i64 a, .int .i64 p, .int .i64 s, .int .i64 q, .int .i64 t, .int .u64 e, .pointer (some ⟨m, 0, none⟩), .int .i64 0, .slice none 0 0] 46 (0, 0))
def OpenPost (a p s q t e : Int) (W : World) (en : Ending) (w' : World) : Prop := ∃ b : Nat, en = .returned (.pointer (some ⟨b, 0, none⟩)) ∧ Fr W w' ∧ Office b a p s q t e w'

set_option maxHeartbeats 1000000 in
theorem open_yes (a p s q t e : Int) (h : RightC a p s q t) (w : World) : Calls Try.prog 15 #[.agg #[.int .i64 a, .int .i64 p, .int .i64 s, .int .i64 q, .int .i64 t, .int .u64 e]] w (OpenPost a p s q t e w) := by
  have hr := right_yes a p s q t e h
  have hn := mnew_any a p s q t e
  clear h
  go_enter Try.func15, Try.ntmps15
  go_wp2_with fail
  refine (hr _).mono ?_
  rintro e w1 ⟨rfl, f1⟩
  have c0 : ∀ o, o < 6 → ∀ w', Fr w1 w' → _ := fun o ho w' hw' => cfg_cells a p s q t _ w o ho w' (f1.trans hw')
  have f0 := ((Fr.refl w).alloc _).trans f1
  clear f1
  generalize w.heap.size = B at *
  go_wp2_with fail
  go_region_held3 (fun w' => Fr w1 w') (first | assumption | exact Fr.drew (Fr.refl _) | exact Fr.alloc (by assumption) _ | exact Fr.drew (Fr.alloc (Fr.refl _) _)) ((go_at_call 23; refine (hn _).mono ?_; rintro e w2 ⟨m, rfl, hf, hm⟩; have hf1 : Fr w1 w2 := (by first | exact Fr.trans (Fr.drew (Fr.refl w1)) hf | exact Fr.trans (by assumption) hf); clear hf))
  all_goals
    go_wp2
    go_ret
    exact ⟨_, rfl, Fr.trans f0 (by assumption), ⟨m, hm.fr ((Fr.refl _).alloc _), heap_alloc_new _ _⟩⟩

set_option maxHeartbeats 400000 in
theorem open_no (a p s q t e : Int) (h : ¬ RightC a p s q t) (w : World) : Calls Try.prog 15 #[.agg #[.int .i64 a, .int .i64 p, .int .i64 s, .int .i64 q, .int .i64 t, .int .u64 e]] w fun e w' => e = .returned (.pointer none) ∧ Fr w w' := by
  have hr := right_no a p s q t e h
  go_enter Try.func15, Try.ntmps15
  go_wp2_with fail
  refine (hr _).mono ?_
  rintro e w1 ⟨rfl, f1⟩
  go_wp2
  go_ret
  exact ⟨rfl, ((Fr.refl w).alloc _).trans f1⟩
end Go.Proofs.Ytckgckdmadfkdaa
