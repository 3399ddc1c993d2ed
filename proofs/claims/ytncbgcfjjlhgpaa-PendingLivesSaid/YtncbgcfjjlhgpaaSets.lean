/-
  The walks of a set of names: put, Add, Of, Has. Conditions: counts that fit.
-/
import Derived.Test.YtncbgcfjjlhgpaaSmall
import Derived.StillTailTactics
import Derived.IntWalk
namespace Go.Proofs.Ytncbgcfjjlhgpaa
open Go.RowKit

/-- A set's block: no map, or a map that says how often each name came. -/
def SetR (B : Nat) (w : World) (S : Nat) (f : Int → Int → Int) : Prop :=
  B ≤ S ∧ ∃ mo, w.heap[S]? = some (.cells #[.map mo] 68) ∧ ((mo = none ∧ ∀ o s, f o s = 0) ∨ ∃ b, mo = some b ∧ B ≤ b ∧ b ≠ S ∧ MapF w b f)
theorem SetR.lt {B S : Nat} {w : World} {f : Int → Int → Int} (h : SetR B w S f) : S < w.heap.size := by
  obtain ⟨_, mo, h, _⟩ := h; exact (Array.getElem?_eq_some_iff.1 h).1
theorem SetR.fr {B S : Nat} {w w' : World} {f : Int → Int → Int} (h : SetR B w S f) (hf : Fr w w') : SetR B w' S f := by
  have hl := h.lt
  obtain ⟨h0, mo, h1, h2⟩ := h
  refine ⟨h0, mo, (hf.heap hl).trans h1, ?_⟩
  rcases h2 with h2 | ⟨b, e, hb, hn, hm⟩
  · exact .inl h2
  · exact .inr ⟨b, e, hb, hn, hm.kept (hf.heap hm.lt)⟩
theorem box_at {S : Nat} {b : Option Nat} {w : World} (h : w.heap[S]? = some (.cells #[.map b] 68)) (o : Nat) : w.cell? ⟨S, o, none⟩ = #[Value.map b][o]? := cell_of_row w S o _ 68 _ h
/-- The store of a first map. -/
theorem set_map {S : Nat} {w : World} (h : w.heap[S]? = some (.cells #[.map none] 68)) (b : Nat) : (w.setCell ⟨S, 0, none⟩ (.map (some b))).heap[S]? = some (.cells #[.map (some b)] 68) := by
  obtain ⟨hl, hk⟩ := Array.getElem?_eq_some_iff.1 h
  show (w.heap.modify S _)[S]? = _
  rw [Array.getElem?_eq_getElem (by rw [Array.size_modify]; exact hl), Array.getElem_modify_self, hk]
  rfl
theorem eql_some (b : Nat) (w : World) : (binOp .eql 28 (.map (some b)) (.map none)).run Try.prog w = .ok (.bool false) w := by kernel_rfl
theorem eql_none (w : World) : (binOp .eql 28 (.map none) (.map none)).run Try.prog w = .ok (.bool true) w := by kernel_rfl
set_option maxHeartbeats 400000 in
theorem put_some {B S b : Nat} {f : Int → Int → Int} {w : World} (o s : Int) (hS : w.heap[S]? = some (.cells #[.map (some b)] 68)) (hn : b ≠ S) (hm : MapF w b f) (h0 : 0 ≤ f o s) (h1 : f o s ≤ 1099511627776) (hB : B ≤ S) (hb : B ≤ b) (hsz : B ≤ w.heap.size) :
    Calls Try.prog 30 #[.pointer (some ⟨S, 0, none⟩), .agg #[.int .i64 o, .int .i64 s]] w fun e w' => e = .returned (.bool (decide (f o s = 0))) ∧ SetR B w' S (upd f o s (f o s + 1)) ∧ Below B w w' := by
  have hf := (Fr.refl w).alloc (.cells #[.int .i64 o, .int .i64 s] 34)
  have hS' := (hf.heap (Array.getElem?_eq_some_iff.1 hS).1).trans hS
  have hm' := hm.kept (hf.heap hm.lt)
  have c1 : ∀ j, j < 2 → ∀ w', Fr (w.alloc (.cells #[.int .i64 o, .int .i64 s] 34)) w' → w'.cell? ⟨w.heap.size, j, none⟩ = #[Value.int .i64 o, .int .i64 s][j]? := fun j _ w' hw' => by
    rw [hw'.cell (by simp)]; simp
  have hc := box_at hS' 0
  obtain ⟨x, hx⟩ : ∃ x, f o s = x := ⟨_, rfl⟩
  have hl : ∀ w', Fr (w.alloc (.cells #[.int .i64 o, .int .i64 s] 34)) w' → (Instr.lookup 28 (.map (some b)) (.agg #[.int .i64 o, .int .i64 s]) false).run Try.prog w' = .ok (.int .i64 x) w' := fun w' hw' => hx ▸ lookupF (hm'.kept (hw'.heap hm'.lt)) o s
  rw [hx] at h0 h1
  rw [hx]
  have he := eql_some b
  go_enter Try.func30, Try.ntmps30
  go_wp2_with fail
  generalize w.alloc (.cells #[.int .i64 o, .int .i64 s] 34) = W at *
  have c0 : ∀ j, j < 1 → ∀ w', Fr W w' → w'.cell? ⟨S, j, none⟩ = #[Value.map (some b)][j]? := fun j _ w' hw' => cell_of_row w' S j _ 68 _ ((hw'.heap (Array.getElem?_eq_some_iff.1 hS').1).trans hS')
  have hBw : ∀ w', Fr w w' → Below B w w' := fun w' h => h.below_of hsz
  have hsz' := hf.size
  generalize w.heap.size = N at *
  have hu : IntKind.i64.wrap (x + 1) = x + 1 := IntWalk.i64_in _ (by omega)
  refine wp_region_class (Fr W) (by kernel_rfl) (by kernel_rfl) (Fr.draw _) ?_
  repeat (first
    | (refine wpQuiet_val rfl ?_
       apply Exists.intro
       refine ⟨?_, ?_⟩
       focus (intro w' hw'; go_simp; (try go_bits); with_reducible rfl)
       simp only [Act.put, List.setIfInBounds_toArray, List.set_cons_zero, List.set_cons_succ])
    | (refine wpQuiet_pass rfl ?_
       simp only [Act.put, List.setIfInBounds_toArray, List.set_cons_zero, List.set_cons_succ]))
  refine wpQuiet_nil ?_
  intro w2 f2
  have d0 : w2.cell? ⟨S, 0, none⟩ = some (.map (some b)) := c0 0 (by decide) w2 f2
  have d1 : w2.cell? ⟨N, 0, none⟩ = some (.int .i64 o) := c1 0 (by decide) w2 f2
  have d2 : w2.cell? ⟨N, 1, none⟩ = some (.int .i64 s) := c1 1 (by decide) w2 f2
  clear c0 c1 hl
  go_wp2_with fail
  go_still_tail 7, (by kernel_rfl)
  change wpList _ _ _ _ _ w2.drew
  have f3 : Fr W w2.drew := f2.drewN 1
  have hS3 := (f3.heap (Array.getElem?_eq_some_iff.1 hS').1).trans hS'
  have hm3 := hm'.kept (f3.heap hm'.lt)
  obtain ⟨X, hX, hm4⟩ := mapUpdate_run hm3 o s (x + 1)
  unfold idV at hX
  generalize w2.drew = w3 at *
  go_wp2
  go_ret
  refine ⟨(by congr 2), ⟨hB, some b, ?_, .inr ⟨b, rfl, hb, hn, hm4⟩⟩, ?_⟩
  · rw [(But.put w3 b X).heap S (Array.getElem?_eq_some_iff.1 hS3).1 (fun e => hn e.symm), hS3]
  · exact (hBw _ (hf.trans f3)).trans ((But.put w3 b X).below (by have := f3.size; omega) (fun k hk e => by omega))
theorem none_world {S : Nat} {w : World} (hS : w.heap[S]? = some (.cells #[.map none] 68)) (o s : Int) (W : World) (hW : W = ((w.setCell ⟨S, 0, none⟩ (.map (some (w.heap.size + 1)))).alloc (.cells #[.int .i64 o, .int .i64 s] 34)).alloc (.map #[] 0)) :
    W.heap[S]? = some (.cells #[.map (some (w.heap.size + 1))] 68) ∧ MapF W (w.heap.size + 1) (fun _ _ => 0) ∧ But (fun k => k = S) w W ∧ W.heap.size = w.heap.size + 2 ∧ W.heap[w.heap.size]? = some (.cells #[.int .i64 o, .int .i64 s] 34) := by
  have hz : (w.setCell ⟨S, 0, none⟩ (.map (some (w.heap.size + 1)))).heap.size = w.heap.size := by simp [World.setCell]
  obtain ⟨W1, h1⟩ : ∃ W1, W1 = w.setCell ⟨S, 0, none⟩ (.map (some (w.heap.size + 1))) := ⟨_, rfl⟩
  rw [← h1] at hW hz
  have hS1 : W1.heap[S]? = some (.cells #[.map (some (w.heap.size + 1))] 68) := h1 ▸ set_map hS _
  have hlt := (Array.getElem?_eq_some_iff.1 hS1).1
  have f1 : Fr W1 W := by rw [hW]; exact ((Fr.refl W1).alloc _).alloc _
  have h2 : (W1.alloc (.cells #[.int .i64 o, .int .i64 s] 34)).heap.size = w.heap.size + 1 := by simp [hz]
  refine ⟨(f1.heap hlt).trans hS1, ?_, ?_, ?_, ?_⟩
  · have := heap_alloc_new (W1.alloc (.cells #[.int .i64 o, .int .i64 s] 34)) (.map #[] 0)
    rw [h2, ← hW] at this
    exact ⟨[], 0, ⟨this, (by intro e he; cases he), List.Pairwise.nil⟩, fun _ _ => rfl⟩
  · exact (h1 ▸ But.set w ⟨S, 0, none⟩ _ : But (fun k => k = S) w W1).trans (But.of_fr f1)
  · rw [hW]; simp [hz]
  · have h3 := heap_alloc_new W1 (.cells #[.int .i64 o, .int .i64 s] 34)
    rw [hz] at h3
    have f2 : Fr (W1.alloc (.cells #[.int .i64 o, .int .i64 s] 34)) W := by rw [hW]; exact (Fr.refl _).alloc _
    exact (f2.heap (by rw [h2]; omega)).trans h3
set_option maxHeartbeats 400000 in
theorem put_none {B S : Nat} {f : Int → Int → Int} {w : World} (o s : Int) (hS : w.heap[S]? = some (.cells #[.map none] 68)) (hz : ∀ o s, f o s = 0) (hB : B ≤ S) (hsz : B ≤ w.heap.size) :
    Calls Try.prog 30 #[.pointer (some ⟨S, 0, none⟩), .agg #[.int .i64 o, .int .i64 s]] w fun e w' => e = .returned (.bool true) ∧ SetR B w' S (upd f o s 1) ∧ Below B w w' := by
  have hf := (Fr.refl w).alloc (.cells #[.int .i64 o, .int .i64 s] 34)
  have hlt := (Array.getElem?_eq_some_iff.1 hS).1
  have hS' := (hf.heap hlt).trans hS
  have c1 : ∀ j, j < 2 → ∀ w', Fr (w.alloc (.cells #[.int .i64 o, .int .i64 s] 34)) w' → w'.cell? ⟨w.heap.size, j, none⟩ = #[Value.int .i64 o, .int .i64 s][j]? := fun j _ w' hw' => by
    rw [hw'.cell (by simp)]; simp
  have hc := box_at hS' 0
  have he := eql_none
  have hmm := @run_makeMap Try.prog
  have hsz0 : (w.alloc (.cells #[.int .i64 o, .int .i64 s] 34)).heap.size = w.heap.size + 1 := by simp
  have hfz : (w.alloc (.cells #[.int .i64 o, .int .i64 s] 34)).frozen? ⟨S, 0, none⟩ = false := by
    simp only [World.frozen?, hS']
    rfl
  go_enter Try.func30, Try.ntmps30
  go_wp2_with fail
  obtain ⟨W, hW⟩ : ∃ W, W = ((w.setCell ⟨S, 0, none⟩ (.map (some (w.heap.size + 1)))).alloc (.cells #[.int .i64 o, .int .i64 s] 34)).alloc (.map #[] 0) := ⟨_, rfl⟩
  obtain ⟨hS1, hm1, hk, hz1, hN⟩ := none_world hS o s W hW
  rw [← hW]
  clear hS' c1 hc hfz hsz0 hf hmm he hW
  have hBw : ∀ w', Fr W w' → Below B w w' := fun w' h => (hk.below hsz (fun k hk e => by omega)).trans (h.below_of (by omega))
  have hb : B ≤ w.heap.size + 1 := by omega
  have hn : w.heap.size + 1 ≠ S := by omega
  have hsW : B ≤ W.heap.size := by omega
  generalize w.heap.size + 1 = b at *
  generalize w.heap.size = N at *
  have c0 : ∀ j, j < 1 → ∀ w', Fr W w' → w'.cell? ⟨S, j, none⟩ = #[Value.map (some b)][j]? := fun j _ w' hw' => cell_of_row w' S j _ 68 _ ((hw'.heap (Array.getElem?_eq_some_iff.1 hS1).1).trans hS1)
  have c1 : ∀ j, j < 2 → ∀ w', Fr W w' → w'.cell? ⟨N, j, none⟩ = #[Value.int .i64 o, .int .i64 s][j]? := fun j _ w' hw' => cell_of_row w' N j _ 34 _ ((hw'.heap (Array.getElem?_eq_some_iff.1 hN).1).trans hN)
  have hl : ∀ w', Fr W w' → (Instr.lookup 28 (.map (some b)) (.agg #[.int .i64 o, .int .i64 s]) false).run Try.prog w' = .ok (.int .i64 0) w' := fun w' hw' => lookupF (hm1.kept (hw'.heap hm1.lt)) o s
  refine wp_region_class (Fr W) (by kernel_rfl) (by kernel_rfl) (Fr.draw _) ?_
  repeat (first
    | (refine wpQuiet_val rfl ?_
       apply Exists.intro
       refine ⟨?_, ?_⟩
       focus (intro w' hw'; go_simp; (try go_bits); with_reducible rfl)
       simp only [Act.put, List.setIfInBounds_toArray, List.set_cons_zero, List.set_cons_succ])
    | (refine wpQuiet_pass rfl ?_
       simp only [Act.put, List.setIfInBounds_toArray, List.set_cons_zero, List.set_cons_succ]))
  refine wpQuiet_nil ?_
  intro w2 f2
  have d0 : w2.cell? ⟨S, 0, none⟩ = some (.map (some b)) := c0 0 (by decide) w2 f2
  have d1 : w2.cell? ⟨N, 0, none⟩ = some (.int .i64 o) := c1 0 (by decide) w2 f2
  have d2 : w2.cell? ⟨N, 1, none⟩ = some (.int .i64 s) := c1 1 (by decide) w2 f2
  clear c0 c1 hl
  go_wp2_with fail
  go_still_tail 7, (by kernel_rfl)
  change wpList _ _ _ _ _ w2.drew
  have f3 : Fr W w2.drew := f2.drewN 1
  have hS3 := (f3.heap (Array.getElem?_eq_some_iff.1 hS1).1).trans hS1
  have hm3 := hm1.kept (f3.heap hm1.lt)
  obtain ⟨X, hX, hm4⟩ := mapUpdate_run hm3 o s 1
  unfold idV at hX
  generalize w2.drew = w3 at *
  go_wp2
  rw [hX]
  go_wp2
  go_ret
  have hfe : (fun _ _ => 0) = f := funext fun o => funext fun s => (hz o s).symm
  rw [hfe] at hm4
  refine ⟨rfl, ⟨hB, some b, ?_, .inr ⟨b, rfl, hb, hn, hm4⟩⟩, ?_⟩
  · rw [(But.put w3 b X).heap S (Array.getElem?_eq_some_iff.1 hS3).1 (fun e => hn e.symm), hS3]
  · exact (hBw _ f3).trans ((But.put w3 b X).below (by have := f3.size; omega) (fun k hk e => by omega))
/-- put, whatever the set has. -/
theorem put_walk {B S : Nat} {f : Int → Int → Int} {w : World} (o s : Int) (h : SetR B w S f) (h0 : 0 ≤ f o s) (h1 : f o s ≤ 1099511627776) (hsz : B ≤ w.heap.size) :
    Calls Try.prog 30 #[.pointer (some ⟨S, 0, none⟩), .agg #[.int .i64 o, .int .i64 s]] w fun e w' => e = .returned (.bool (decide (f o s = 0))) ∧ SetR B w' S (upd f o s (f o s + 1)) ∧ Below B w w' := by
  obtain ⟨hB, mo, hS, h | ⟨b, rfl, hb, hn, hm⟩⟩ := h
  · obtain ⟨rfl, hz⟩ := h
    rw [hz]
    exact put_none o s hS hz hB hsz
  · exact put_some o s hS hn hm h0 h1 hB hb hsz
theorem sadd_walk {B S : Nat} {f : Int → Int → Int} {w : World} (o s : Int) (h : SetR B w S f) (h0 : 0 ≤ f o s) (h1 : f o s ≤ 1099511627776) (hsz : B ≤ w.heap.size) :
    Calls Try.prog 28 #[.pointer (some ⟨S, 0, none⟩), .agg #[.int .i64 o, .int .i64 s]] w fun e w' => e = .returned (.bool (decide (f o s = 0))) ∧ SetR B w' S (upd f o s (f o s + 1)) ∧ Below B w w' := by
  have hf := (Fr.refl w).alloc (.cells #[.int .i64 o, .int .i64 s] 34)
  have c1 : ∀ j, j < 2 → ∀ w', Fr (w.alloc (.cells #[.int .i64 o, .int .i64 s] 34)) w' → w'.cell? ⟨w.heap.size, j, none⟩ = #[Value.int .i64 o, .int .i64 s][j]? := fun j _ w' hw' => by
    rw [hw'.cell (by simp)]; simp
  have hBw : ∀ w', Fr w w' → Below B w w' := fun w' h => h.below_of hsz
  have hb : B ≤ (w.alloc (.cells #[.int .i64 o, .int .i64 s] 34)).heap.size := by simp; omega
  go_enter Try.func28, Try.ntmps28
  go_wp2_with fail
  have h' := h.fr hf
  generalize w.alloc (.cells #[.int .i64 o, .int .i64 s] 34) = W at *
  generalize w.heap.size = N at *
  have d1 : W.cell? ⟨N, 0, none⟩ = some (.int .i64 o) := c1 0 (by decide) W (Fr.refl W)
  have d2 : W.cell? ⟨N, 1, none⟩ = some (.int .i64 s) := c1 1 (by decide) W (Fr.refl W)
  go_still_tail 7, (by kernel_rfl)
  change wpList _ _ _ _ _ W.drew
  have f3 : Fr W W.drew := (Fr.refl W).drewN 1
  have hp := put_walk o s (h'.fr f3) h0 h1 (Nat.le_trans hb f3.size)
  have f4 := hf.trans f3
  generalize W.drew = w3 at *
  clear c1 d1 d2 f3 h h'
  go_wp2_with fail
  refine hp.mono ?_
  rintro e w4 ⟨rfl, h4, hb4⟩
  go_wp2
  go_ret
  exact ⟨rfl, h4, (hBw _ f4).trans hb4⟩
end Go.Proofs.Ytncbgcfjjlhgpaa
