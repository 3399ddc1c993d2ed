/-
  The library's Insert at a row that the call owns: at texts and at numbers. Conditions: the place is in the row, the new element lies in a block of its own.
-/
import Derived.Test.YtgdmkiobidnhnaaBase
namespace Go.Proofs.Ytgdmkiobidnhnaa
open Go.RowKit

theorem sets_at : ∀ (vs : List Value) (cs : Array Value) (o k : Nat), (sets cs o vs)[k]? = if o ≤ k ∧ k < o + vs.length ∧ k < cs.size then vs[k - o]? else cs[k]?
  | [], cs, o, k => by rw [if_neg (by simp; omega)]; rfl
  | v :: r, cs, o, k => by
    rw [sets, sets_at r, Array.size_setIfInBounds, Array.getElem?_setIfInBounds]
    by_cases h1 : o + 1 ≤ k ∧ k < o + 1 + r.length ∧ k < cs.size
    · rw [if_pos h1, if_pos (by simp; omega)]
      have : k - o = (k - (o + 1)) + 1 := by omega
      rw [this]; rfl
    · rw [if_neg h1]
      by_cases h2 : o = k
      · subst h2
        rw [if_pos rfl]
        by_cases h3 : o < cs.size
        · rw [if_pos h3, if_pos (by simp; omega), Nat.sub_self]; rfl
        · rw [if_neg h3, if_neg (by omega), Array.getElem?_eq_none (by omega)]
      · rw [if_neg h2, if_neg (by simp at *; omega)]
theorem take_of_at {cur : List Value} {xs : List Value} {n : Nat} (hl : xs.length = n) (h : ∀ k, k < n → cur[k]? = xs[k]?) : cur.take n = xs := by
  apply List.ext_getElem?
  intro k
  rw [List.getElem?_take]
  by_cases hk : k < n
  · rw [if_pos hk]; exact h k hk
  · rw [if_neg hk, List.getElem?_eq_none (by omega)]
theorem ins_at {xs : List Value} {i : Nat} (hi : i ≤ xs.length) (x : Value) (k : Nat) : (xs.take i ++ x :: xs.drop i)[k]? = if k < i then xs[k]? else if k = i then some x else xs[k - 1]? := by
  have hl : (xs.take i).length = i := by rw [List.length_take]; omega
  by_cases h : k < i
  · rw [if_pos h, List.getElem?_append_left (by omega), List.getElem?_take, if_pos h]
  · rw [if_neg h, List.getElem?_append_right (by omega), hl]
    by_cases h2 : k = i
    · subst h2; rw [if_pos rfl, Nat.sub_self]; rfl
    · rw [if_neg h2]
      have : k - i = (k - 1 - i) + 1 := by omega
      rw [this, List.getElem?_cons_succ, List.getElem?_drop]
      congr 1; omega
theorem ins_len {xs : List Value} {i n : Nat} (hl : xs.length = n) (hi : i ≤ n) (x : Value) : (xs.take i ++ x :: xs.drop i).length = n + 1 := by
  simp; omega
/-- A row of one cell an element, out of its block. -/
theorem own1_of {w : World} {B e g n cap : Nat} {cur : Array Value} {xs : List Value} (hg : w.heap[g]? = some (.cells cur e)) (hB : B ≤ g) (hl : xs.length = n) (hnc : n ≤ cap) (hm : cap ≤ maxLen) (hs : cur.size = cap) (h : ∀ k, k < n → cur[k]? = xs[k]?) : w.ownsRow B e 1 (.slice (some ⟨g, 0, none⟩) n cap) n xs :=
  ⟨by omega, .inr ⟨g, cap, cur, rfl, hB, hg, hnc, hm, by omega, by
    rw [Nat.mul_one]
    exact take_of_at hl (fun k hk => by rw [Array.getElem?_toList]; exact h k hk)⟩⟩
theorem own1 {w : World} {B e g n cap : Nat} {xs : List Value} (h : w.ownsRow B e 1 (.slice (some ⟨g, 0, none⟩) n cap) n xs) : ∃ cur : Array Value, w.heap[g]? = some (.cells cur e) ∧ B ≤ g ∧ n ≤ cap ∧ cap ≤ maxLen ∧ cur.size = cap ∧ xs.length = n ∧ ∀ k, k < n → cur[k]? = xs[k]? := by
  rcases h.2 with ⟨e', _⟩ | ⟨g', cap', cur, e', hB, hg, h1, h2, h3, h4⟩
  · cases e'
  · cases e'
    refine ⟨cur, hg, hB, h1, h2, by omega, by have := h.1; omega, fun k hk => ?_⟩
    rw [← h4, List.getElem?_take, if_pos (by omega), Array.getElem?_toList]
theorem zero_size (z : Value) (hz : z.cells = #[z]) (m : Nat) : (Builtin.zeroCells z.cells m).size = m := by
  rw [hz]; simp [Builtin.zeroCells]
def InsPost (B e : Nat) (v : Value) (i : Nat) (x : Value) (n : Nat) (xs : List Value) (W : World) (en : Ending) (w' : World) : Prop :=
  ∃ g c, en = .returned (.slice (some ⟨g, 0, none⟩) (n + 1) c) ∧ w'.ownsRow B e 1 (.slice (some ⟨g, 0, none⟩) (n + 1) c) (n + 1) (xs.take i ++ x :: xs.drop i) ∧ But (fun k => v.ownBlock = some k) W w' ∧ (v.ownBlock = some g ∨ W.heap.size ≤ g)
theorem But.drew (F : Nat → Prop) (w : World) : But F w w.drew := But.of_fr ((Fr.refl w).drewN 1)
theorem But.alloc (F : Nat → Prop) (w : World) (o : Obj) : But F w (w.alloc o) := But.of_fr ((Fr.refl w).alloc o)
/-- The row behind the shift. -/
theorem shift_post {w : World} {B e g n c i : Nat} {xs : List Value} {x : Value} (h : w.ownsRow B e 1 (.slice (some ⟨g, 0, none⟩) n c) n xs) (hi : i < n) (hr : n + 1 ≤ c) :
    InsPost B e (.slice (some ⟨g, 0, none⟩) n c) i x n xs w (.returned (.slice (some ⟨g, 0, none⟩) (n + 1) c)) ((w.drew.setCells g (0 + (i + 1)) (xs.drop i)).setCells g (0 + i) [x]) := by
  obtain ⟨cur, hg, hB, h1, h2, h3, h4, h5⟩ := own1 h
  have k1 := setCells_block (xs.drop i) (0 + (i + 1)) w.drew cur hg
  have k2 := setCells_block [x] (0 + i) _ _ k1
  refine ⟨g, c, rfl, own1_of k2 hB (ins_len h4 (by omega) x) hr h2 (by rw [sets_size, sets_size]; exact h3) (fun k hk => ?_), ((But.drew _ w).trans ((But.sets g (xs.drop i) _ _).mono (fun k hk => by rw [hk]; rfl))).trans ((But.sets g [x] _ _).mono (fun k hk => by rw [hk]; rfl)), .inl rfl⟩
  rw [ins_at (by omega), sets_at, sets_size, sets_at, List.length_drop, List.length_singleton]
  by_cases a1 : k < i
  · rw [if_neg (by omega), if_neg (by omega), if_pos a1]; exact h5 k (by omega)
  · by_cases a2 : k = i
    · subst a2; rw [if_pos (by omega), if_neg a1, if_pos rfl]; simp
    · rw [if_neg (by omega), if_pos (by omega), if_neg a1, if_neg a2, List.getElem?_drop]
      congr 1; omega
theorem room_post {w : World} {B e g n c : Nat} {xs : List Value} {x : Value} (h : w.ownsRow B e 1 (.slice (some ⟨g, 0, none⟩) n c) n xs) (hr : n + 1 ≤ c) :
    InsPost B e (.slice (some ⟨g, 0, none⟩) n c) n x n xs w (.returned (.slice (some ⟨g, 0, none⟩) (n + 1) c)) (w.setCells g (0 + n) [x]) := by
  obtain ⟨cur, hg, hB, h1, h2, h3, h4, h5⟩ := own1 h
  have k1 := setCells_block [x] (0 + n) w cur hg
  refine ⟨g, c, rfl, own1_of k1 hB (ins_len h4 (Nat.le_refl _) x) hr h2 (by rw [sets_size]; exact h3) (fun k hk => ?_), (But.sets g [x] _ _).mono (fun k hk => by rw [hk]; rfl), .inl rfl⟩
  rw [ins_at (by omega), sets_at, List.length_singleton]
  by_cases a1 : k < n
  · rw [if_neg (by omega), if_pos a1]; exact h5 k (by omega)
  · have : k = n := by omega
    subst this
    rw [if_pos (by omega), if_neg a1, if_pos rfl]; simp
theorem endgrow_post {w : World} {B e n c : Nat} {v : Value} {xs : List Value} {x z : Value} (hl : xs.length = n) (hz : z.cells = #[z]) (hB : B ≤ w.heap.size) (hn : n ≤ 1000000) :
    InsPost B e v n x n xs w (.returned (.slice (some ⟨w.heap.size, 0, none⟩) (n + 1) (grownCap w (n + 1) c e))) (w.drew.alloc (.cells ((xs ++ [x]).toArray ++ Builtin.zeroCells z.cells (grownCap w (n + 1) c e - (n + 1))) e)) := by
  have k1 := heap_alloc_new w.drew (.cells ((xs ++ [x]).toArray ++ Builtin.zeroCells z.cells (grownCap w (n + 1) c e - (n + 1))) e)
  have hge := grownCap_ge w (n + 1) c e
  refine ⟨w.heap.size, _, rfl, own1_of k1 hB (ins_len hl (Nat.le_refl _) x) hge (grownCap_le_maxLen w (n + 1) c e (by unfold maxLen; omega)) (by rw [Array.size_append, zero_size z hz]; simp; omega) (fun k hk => ?_), (But.drew _ w).trans (But.alloc _ _ _), .inr (Nat.le_refl _)⟩
  rw [Array.getElem?_append_left (by simp; omega)]
  have ht : xs.take n = xs := List.take_of_length_le (by omega)
  have hd : xs.drop n = [] := List.drop_of_length_le (by omega)
  rw [ht, hd]
  simp
theorem grow_post {w : World} {B e g n c i : Nat} {xs : List Value} {x z : Value} (hl : xs.length = n) (hi : i < n) (hz : z.cells = #[z]) (hB : B ≤ w.heap.size) (hn : n ≤ 1000000) :
    InsPost B e (.slice (some ⟨g, 0, none⟩) n c) i x n xs w (.returned (.slice (some ⟨w.heap.size, 0, none⟩) (n + 1) (grownCap w (n + 1) c e)))
      ((((w.alloc (.cells ((xs.take i).toArray ++ Builtin.zeroCells z.cells (n + 1 - i) ++ Builtin.zeroCells z.cells (grownCap w (n + 1) c e - (n + 1))) e)).drew.setCells w.heap.size i [x]).drew).setCells w.heap.size (i + 1) (xs.drop i)) := by
  obtain ⟨A, hA⟩ : ∃ A, A = (xs.take i).toArray ++ Builtin.zeroCells z.cells (n + 1 - i) ++ Builtin.zeroCells z.cells (grownCap w (n + 1) c e - (n + 1)) := ⟨_, rfl⟩
  rw [← hA]
  have k1 := heap_alloc_new w (.cells A e)
  have hge := grownCap_ge w (n + 1) c e
  have hsz : A.size = grownCap w (n + 1) c e := by
    rw [hA, Array.size_append, Array.size_append, zero_size z hz, zero_size z hz]; simp; omega
  have k2 := setCells_block [x] i (w.alloc (.cells A e)).drew A k1
  have k3 := setCells_block (xs.drop i) (i + 1) ((w.alloc (.cells A e)).drew.setCells w.heap.size i [x]).drew _ k2
  have hbut : But (fun k => k = w.heap.size) w ((((w.alloc (.cells A e)).drew.setCells w.heap.size i [x]).drew).setCells w.heap.size (i + 1) (xs.drop i)) :=
    ((((But.alloc _ w _).trans (But.drew _ _)).trans (But.sets _ _ _ _)).trans (But.drew _ _)).trans (But.sets _ _ _ _)
  refine ⟨w.heap.size, _, rfl, own1_of k3 hB (ins_len hl (by omega) x) hge (grownCap_le_maxLen w (n + 1) c e (by unfold maxLen; omega)) (by rw [sets_size, sets_size]; exact hsz) (fun k hk => ?_), But.of_fr (hbut.fr (fun k hk e => by omega)), .inr (Nat.le_refl _)⟩
  rw [ins_at (by omega), sets_at, sets_size, sets_at, List.length_drop, List.length_singleton]
  by_cases a1 : k < i
  · rw [if_neg (by omega), if_neg (by omega), if_pos a1, hA, Array.append_assoc, Array.getElem?_append_left (by simp; omega), List.getElem?_toArray, List.getElem?_take, if_pos a1]
  · by_cases a2 : k = i
    · subst a2; rw [if_neg (by omega), if_pos (by omega), if_neg a1, if_pos rfl]; simp
    · rw [if_pos (by omega), if_neg a1, if_neg a2, List.getElem?_drop]
      congr 1; omega
theorem cells_of1 {w : World} {B e g n cap : Nat} {xs : List Value} (h : w.ownsRow B e 1 (.slice (some ⟨g, 0, none⟩) n cap) n xs) : ∀ j v, xs[j]? = some v → w.cell? ⟨g, 0 + j, none⟩ = some v := by
  obtain ⟨cur, hg, hB, h1, h2, h3, h4, h5⟩ := own1 h
  intro j v hj
  rw [Nat.zero_add, cell_at hg, h5 j (by rw [← h4]; exact (List.getElem?_eq_some_iff.1 hj).1)]
  exact hj
theorem ins_walk_s {B n i : Nat} {v : Value} {xs : List Value} {w : World} (h : w.ownsRow B 9 1 v n xs) (h1 : ∀ u ∈ xs, u.oneCell' = true) (hi : i ≤ n) (hn : n ≤ 1000000) {vb : Nat} (x : ByteArray) (hvb : w.heap[vb]? = some (.cells #[.string x] 9)) (hne : v.ownBlock ≠ some vb) (hB : B ≤ w.heap.size) :
    Calls Try.prog 55 #[v, .int .i64 i, .slice (some ⟨vb, 0, none⟩) 1 1] w (InsPost B 9 v i (.string x) n xs w) := by
  have hvs : ∀ j u, [Value.string x][j]? = some u → w.cell? ⟨vb, 0 + j, none⟩ = some u := fun j u hu => by
    rw [Nat.zero_add, cell_at hvb]; simpa using hu
  have h1v : ∀ u ∈ [Value.string x], u.oneCell' = true := by intro u hu; rw [List.mem_singleton.1 hu]; rfl
  rcases h.2 with ⟨rfl, rfl⟩ | ⟨g, c, cur, rfl, _⟩
  · have hx : xs = [] := by have := h.1; simpa using this
    subst hx
    obtain rfl : i = 0 := by omega
    refine (Any2.slices_Insert_string_end_grow Try.lays2_22 none 0 0 vb 0 1 1 [] [.string x] w (by decide) (Nat.le_refl _) (by decide) (by decide) rfl rfl (fun _ => rfl) (fun a h => (by cases h)) hvs h1v).mono ?_
    rintro e w' ⟨rfl, rfl⟩
    exact endgrow_post (n := 0) rfl rfl hB (by decide)
  · obtain ⟨cur, hg, hBg, hnc, hcm, hcs, hl, hat⟩ := own1 h
    have hcell := cells_of1 h
    have hcm' : c ≤ 9223372036854775807 := by unfold maxLen at hcm; omega
    have hgv : vb ≠ g := fun e => hne (by rw [e]; rfl)
    have hsome : ∀ j, j < c → (w.cell? ⟨g, 0 + j, none⟩).isSome = true := fun j hj => by
      rw [Nat.zero_add, cell_at hg, Array.getElem?_eq_getElem (by omega)]; rfl
    have hfz : ∀ j, w.frozen? ⟨g, 0 + j, none⟩ = false := fun j => frozen_at hg _
    by_cases hin : i = n
    · subst hin
      by_cases hr : i + 1 ≤ c
      · refine (Any2.slices_Insert_string_end_room Try.lays2_22 g 0 i c vb 0 1 1 [.string x] w (by decide) hr hcm' rfl (fun j hj => by have := hsome (i + j) (by omega); rwa [← Nat.add_assoc] at this) (fun j hj => by have := hfz (i + j); rwa [← Nat.add_assoc] at this) hvs h1v).mono ?_
        rintro e w' ⟨rfl, rfl⟩
        exact room_post h hr
      · refine (Any2.slices_Insert_string_end_grow Try.lays2_22 (some ⟨g, 0, none⟩) i c vb 0 1 1 xs [.string x] w (by decide) hnc (by omega) (by omega) hl rfl (fun h => (by cases h)) (fun a ha j u hu => by cases ha; rw [add_at]; exact hcell j u hu) hvs h1v).mono ?_
        rintro e w' ⟨rfl, rfl⟩
        exact endgrow_post hl rfl hB hn
    · by_cases hr : n + 1 ≤ c
      · refine (Any2.slices_Insert_string_shift Try.lays2_22 g 0 n c i vb 0 1 1 xs [.string x] w (by omega) (by decide) hr hcm' hgv hl rfl hcell (fun j hj => hsome j (by omega)) (fun j _ => hfz j) hvs h1 h1v 9 9 1 cur.size (by simp [World.shape?, hvb]) (by simp [World.shape?, hg]) (by omega) (frozen_at hvb 0) (frozen_at hvb 1)).mono ?_
        rintro e w' ⟨rfl, rfl⟩
        exact shift_post h (by omega) hr
      · refine (Any2.slices_Insert_string_grow Try.lays2_22 g 0 n c i vb 0 1 1 xs [.string x] w (by omega) (by decide) hnc (by omega) (by omega) hl rfl hcell hvs h1 h1v).mono ?_
        rintro e w' ⟨rfl, rfl⟩
        exact grow_post hl (by omega) rfl hB hn
theorem ins_walk_i {B n i : Nat} {v : Value} {xs : List Value} {w : World} (h : w.ownsRow B 3 1 v n xs) (h1 : ∀ u ∈ xs, u.oneCell' = true) (hi : i ≤ n) (hn : n ≤ 1000000) {vb : Nat} (x : Int) (hvb : w.heap[vb]? = some (.cells #[.int .i64 x] 3)) (hne : v.ownBlock ≠ some vb) (hB : B ≤ w.heap.size) :
    Calls Try.prog 82 #[v, .int .i64 i, .slice (some ⟨vb, 0, none⟩) 1 1] w (InsPost B 3 v i (.int .i64 x) n xs w) := by
  have hvs : ∀ j u, [Value.int .i64 x][j]? = some u → w.cell? ⟨vb, 0 + j, none⟩ = some u := fun j u hu => by
    rw [Nat.zero_add, cell_at hvb]; simpa using hu
  have h1v : ∀ u ∈ [Value.int .i64 x], u.oneCell' = true := by intro u hu; rw [List.mem_singleton.1 hu]; rfl
  rcases h.2 with ⟨rfl, rfl⟩ | ⟨g, c, cur, rfl, _⟩
  · have hx : xs = [] := by have := h.1; simpa using this
    subst hx
    obtain rfl : i = 0 := by omega
    refine (Any2.slices_Insert_int_end_grow Try.lays2_21 none 0 0 vb 0 1 1 [] [.int .i64 x] w (by decide) (Nat.le_refl _) (by decide) (by decide) rfl rfl (fun _ => rfl) (fun a h => (by cases h)) hvs h1v).mono ?_
    rintro e w' ⟨rfl, rfl⟩
    exact endgrow_post (n := 0) rfl rfl hB (by decide)
  · obtain ⟨cur, hg, hBg, hnc, hcm, hcs, hl, hat⟩ := own1 h
    have hcell := cells_of1 h
    have hcm' : c ≤ 9223372036854775807 := by unfold maxLen at hcm; omega
    have hgv : vb ≠ g := fun e => hne (by rw [e]; rfl)
    have hsome : ∀ j, j < c → (w.cell? ⟨g, 0 + j, none⟩).isSome = true := fun j hj => by
      rw [Nat.zero_add, cell_at hg, Array.getElem?_eq_getElem (by omega)]; rfl
    have hfz : ∀ j, w.frozen? ⟨g, 0 + j, none⟩ = false := fun j => frozen_at hg _
    by_cases hin : i = n
    · subst hin
      by_cases hr : i + 1 ≤ c
      · refine (Any2.slices_Insert_int_end_room Try.lays2_21 g 0 i c vb 0 1 1 [.int .i64 x] w (by decide) hr hcm' rfl (fun j hj => by have := hsome (i + j) (by omega); rwa [← Nat.add_assoc] at this) (fun j hj => by have := hfz (i + j); rwa [← Nat.add_assoc] at this) hvs h1v).mono ?_
        rintro e w' ⟨rfl, rfl⟩
        exact room_post h hr
      · refine (Any2.slices_Insert_int_end_grow Try.lays2_21 (some ⟨g, 0, none⟩) i c vb 0 1 1 xs [.int .i64 x] w (by decide) hnc (by omega) (by omega) hl rfl (fun h => (by cases h)) (fun a ha j u hu => by cases ha; rw [add_at]; exact hcell j u hu) hvs h1v).mono ?_
        rintro e w' ⟨rfl, rfl⟩
        exact endgrow_post hl rfl hB hn
    · by_cases hr : n + 1 ≤ c
      · refine (Any2.slices_Insert_int_shift Try.lays2_21 g 0 n c i vb 0 1 1 xs [.int .i64 x] w (by omega) (by decide) hr hcm' hgv hl rfl hcell (fun j hj => hsome j (by omega)) (fun j _ => hfz j) hvs h1 h1v 3 3 1 cur.size (by simp [World.shape?, hvb]) (by simp [World.shape?, hg]) (by omega) (frozen_at hvb 0) (frozen_at hvb 1)).mono ?_
        rintro e w' ⟨rfl, rfl⟩
        exact shift_post h (by omega) hr
      · refine (Any2.slices_Insert_int_grow Try.lays2_21 g 0 n c i vb 0 1 1 xs [.int .i64 x] w (by omega) (by decide) hnc (by omega) (by omega) hl rfl hcell hvs h1 h1v).mono ?_
        rintro e w' ⟨rfl, rfl⟩
        exact grow_post hl (by omega) rfl hB hn
end Go.Proofs.Ytgdmkiobidnhnaa
