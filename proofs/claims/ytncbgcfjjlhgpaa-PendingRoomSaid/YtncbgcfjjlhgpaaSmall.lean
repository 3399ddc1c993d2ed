/-
  The walks of the row's small functions: New, Room, Len, Has. Conditions: none beyond the row's own.
-/
import Derived.Test.YtncbgcfjjlhgpaaRow
namespace Go.Proofs.Ytncbgcfjjlhgpaa
open Go.RowKit

theorem room_nil (w : World) : Calls Try.prog 16 #[.pointer none] w fun e w' => e = .returned (.int .i64 0) ∧ w = w' := by
  go_enter Try.func16, Try.ntmps16
  go_wp2
  go_ret
  exact ⟨rfl, rfl⟩
theorem len_walk {B R mb : Nat} {v : Value} {most : Int} {es : List Et} {w : World} (h : Rw B R mb v most es w) :
    Calls Try.prog 15 #[.pointer (some ⟨R, 0, none⟩)] w fun e w' => e = .returned (.int .i64 es.length) ∧ w = w' := by
  have c0 := h.at
  obtain ⟨a, c, rfl⟩ : ∃ a c, v = .slice a es.length c := by
    rcases h.row.2 with ⟨hv, h0⟩ | ⟨g, cap, cur, hv, _⟩
    · exact ⟨_, _, by rw [hv, h0]⟩
    · exact ⟨_, _, hv⟩
  have c1 : w.cell? ⟨R, 1, none⟩ = some (.slice a es.length c) := c0 1
  clear h
  generalize es.length = n at *
  go_enter Try.func15, Try.ntmps15
  go_wp2
  go_ret
  exact ⟨rfl, rfl⟩
theorem room_walk {B R mb : Nat} {v : Value} {most : Int} {es : List Et} {w : World} (h : Rw B R mb v most es w) (h0 : 0 ≤ most) (h1 : most ≤ 32) (hl : es.length ≤ 1000) :
    Calls Try.prog 16 #[.pointer (some ⟨R, 0, none⟩)] w fun e w' => e = .returned (.int .i64 (most - es.length)) ∧ Fr w w' := by
  have c0 : ∀ o, o < 3 → ∀ w', Fr w w' → w'.cell? ⟨R, o, none⟩ = #[Value.int .i64 most, v, .map (some mb)][o]? := fun o _ w' hw' => (h.fr hw').at o
  obtain ⟨a, c, rfl⟩ : ∃ a c, v = .slice a es.length c := by
    rcases h.row.2 with ⟨hv, h0⟩ | ⟨g, cap, cur, hv, _⟩
    · exact ⟨_, _, by rw [hv, h0]⟩
    · exact ⟨_, _, hv⟩
  clear h
  generalize es.length = n at *
  go_enter Try.func16, Try.ntmps16
  go_wp2_with fail
  refine wp_region_class (Fr w) (by kernel_rfl) (by kernel_rfl) (Fr.draw _) ?_
  repeat (first
    | (refine wpQuiet_val rfl ?_
       apply Exists.intro
       refine ⟨?_, ?_⟩
       focus (intro w' hw'; go_simp; (try go_bits); with_reducible rfl)
       simp only [Act.put, List.setIfInBounds_toArray, List.set_cons_zero, List.set_cons_succ])
    | (refine wpQuiet_pass rfl ?_
       simp only [Act.put, List.setIfInBounds_toArray, List.set_cons_zero, List.set_cons_succ]))
  refine wpQuiet_nil ?_
  intro w2 f2
  go_wp2
  go_ret
  exact ⟨rfl, f2⟩
theorem inOf_pos (l : List Cn) (o s : Int) : decide (0 < inOf l o s) = has l o s := by
  unfold inOf
  cases has l o s <;> rfl
theorem has_walk {B R mb : Nat} {v : Value} {most : Int} {es : List Et} {w : World} (h : Rw B R mb v most es w) (o s : Int) :
    Calls Try.prog 18 #[.pointer (some ⟨R, 0, none⟩), .agg #[.int .i64 o, .int .i64 s]] w fun e w' => e = .returned (.bool (has (es.map Et.c) o s)) ∧ Fr w w' := by
  rw [← inOf_pos]
  obtain ⟨x, hx⟩ : ∃ x, x = inOf (es.map Et.c) o s := ⟨_, rfl⟩
  rw [← hx]
  have h1 : Rw B R mb v most es (w.alloc (.cells #[.int .i64 o, .int .i64 s] 34)) := h.fr ((Fr.refl w).alloc _)
  have c1 : ∀ j, j < 2 → ∀ w', Fr (w.alloc (.cells #[.int .i64 o, .int .i64 s] 34)) w' → w'.cell? ⟨w.heap.size, j, none⟩ = #[Value.int .i64 o, .int .i64 s][j]? := fun j _ w' hw' => by
    rw [hw'.cell (by simp)]; simp
  have f0 := (Fr.refl w).alloc (.cells #[.int .i64 o, .int .i64 s] 34)
  go_enter Try.func18, Try.ntmps18
  go_wp2_with fail
  generalize w.alloc (.cells #[.int .i64 o, .int .i64 s] 34) = W at *
  generalize w.heap.size = N at *
  have c0 : ∀ o, o < 3 → ∀ w', Fr W w' → w'.cell? ⟨R, o, none⟩ = #[Value.int .i64 most, v, .map (some mb)][o]? := fun o _ w' hw' => (h1.fr hw').at o
  have hlk : ∀ w', Fr W w' → (Instr.lookup 28 (.map (some mb)) (.agg #[.int .i64 o, .int .i64 s]) false).run Try.prog w' = .ok (.int .i64 x) w' := fun w' hw' => hx ▸ lookupF (h1.fr hw').map o s
  clear h h1 hx
  refine wp_region_class (Fr W) (by kernel_rfl) (by kernel_rfl) (Fr.draw _) ?_
  repeat (first
    | (refine wpQuiet_val rfl ?_
       apply Exists.intro
       refine ⟨?_, ?_⟩
       focus (intro w' hw'; go_simp; (try go_bits); with_reducible rfl)
       simp only [Act.put, List.setIfInBounds_toArray, List.set_cons_zero, List.set_cons_succ])
    | (refine wpQuiet_pass rfl ?_
       simp only [Act.put, List.setIfInBounds_toArray, List.set_cons_zero, List.set_cons_succ]))
  refine wpQuiet_nil ?_
  intro w2 f2
  go_wp2
  go_ret
  exact ⟨rfl, f0.trans f2⟩
set_option maxHeartbeats 800000 in
theorem has_nil (o s : Int) (w : World) :
    Calls Try.prog 18 #[.pointer none, .agg #[.int .i64 o, .int .i64 s]] w fun e w' => e = .returned (.bool false) ∧ Fr w w' := by
  have f0 := (Fr.refl w).alloc (.cells #[.int .i64 o, .int .i64 s] 34)
  go_enter Try.func18, Try.ntmps18
  go_wp2_with fail
  generalize w.alloc (.cells #[.int .i64 o, .int .i64 s] 34) = W at *
  refine wp_region_class (Fr W) (by kernel_rfl) (by kernel_rfl) (Fr.draw _) ?_
  repeat (first
    | (refine wpQuiet_val rfl ?_
       apply Exists.intro
       refine ⟨?_, ?_⟩
       focus (intro w' hw'; go_simp; (try go_bits); with_reducible rfl)
       simp only [Act.put, List.setIfInBounds_toArray, List.set_cons_zero, List.set_cons_succ])
    | (refine wpQuiet_pass rfl ?_
       simp only [Act.put, List.setIfInBounds_toArray, List.set_cons_zero, List.set_cons_succ]))
  refine wpQuiet_nil ?_
  intro w2 f2
  go_wp2
  go_ret
  exact ⟨rfl, f0.trans f2⟩
def most' (m : Int) : Int := min (max m 0) 32
theorem mapNew {w : World} {b : Nat} (h : w.heap[b]? = some (.map #[] 0)) : MapF w b (inOf []) :=
  ⟨[], 0, ⟨h, (by intro e he; cases he), List.Pairwise.nil⟩, fun _ _ => rfl⟩
def NewPost (m : Int) (W : World) (e : Ending) (w' : World) : Prop := ∃ R mb : Nat, e = .returned (.pointer (some ⟨R, 0, none⟩)) ∧ Rw W.heap.size R mb (.slice none 0 0) (most' m) [] w' ∧ Fr W w'
theorem new_rw (most : Int) (w : World) : Rw w.heap.size (w.heap.size + 1) w.heap.size (.slice none 0 0) most [] ((w.alloc (Obj.map #[] 0)).alloc (Obj.cells #[Value.int IntKind.i64 most, Value.slice none 0 0, Value.map (some w.heap.size)] 30)) :=
  ⟨by have := heap_alloc_new (w.alloc (Obj.map #[] 0)) (Obj.cells #[Value.int IntKind.i64 most, Value.slice none 0 0, Value.map (some w.heap.size)] 30); simpa using this,
   (mapNew (heap_alloc_new w _)).kept (((Fr.refl _).alloc _).heap (by simp)), ⟨rfl, .inl ⟨rfl, rfl⟩⟩, (by intro e he; cases he), (by intro e he; cases he), (by intro e he; cases he), by omega, Nat.le_refl _⟩
theorem new_walk (m : Int) (w : World) : Calls Try.prog 8 #[.int .i64 m] w (NewPost m w) := by
  have hmm := @run_makeMap Try.prog
  have h0 := new_rw 0 w
  have h1 := new_rw m w
  have h2 := new_rw 32 w
  go_enter Try.func8, Try.ntmps8
  go_wp2
  all_goals
    go_ret
    refine ⟨w.heap.size + 1, w.heap.size, rfl, ?_, ((Fr.refl w).alloc _).alloc _⟩
    unfold most'
  · have : min (max m 0) 32 = 0 := by omega
    rw [this]; exact h0
  · have : min (max m 0) 32 = 32 := by omega
    rw [this]; exact h2
  · have : min (max m 0) 32 = m := by omega
    rw [this]; exact h1
end Go.Proofs.Ytncbgcfjjlhgpaa
