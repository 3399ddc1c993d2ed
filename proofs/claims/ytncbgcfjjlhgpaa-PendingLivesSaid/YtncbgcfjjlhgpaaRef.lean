/-
  The walks of the document's Has and Ids, and of Few. Conditions: what is read lies where it says.
-/
import Derived.Test.YtncbgcfjjlhgpaaRoom
namespace Go.Proofs.Ytncbgcfjjlhgpaa
open Go.RowKit

theorem Sl.fr {w w' : World} {v : Value} {n z : Nat} {cs : List Value} (h : Sl w v n z cs) (hf : Fr w w') : Sl w' v n z cs := h.kept (fun _ _ hl => hf.heap hl) hf.size
/-- A slice's cells, at each place that is there. -/
theorem Sl.get {w : World} {a : Option Addr} {n c z : Nat} {cs : List Value} (h : Sl w (.slice a n c) n z cs) (hn : 0 < n) : ∃ b o, a = some ⟨b, o, none⟩ ∧ b < w.heap.size ∧ n ≤ c ∧ ∀ j u, cs[j]? = some u → w.cell? ⟨b, o + j, none⟩ = some u := by
  obtain ⟨a', c', e, _, hc, h | h⟩ := h
  · omega
  · cases e; obtain ⟨b, o, h1, h2, h3⟩ := h; exact ⟨b, o, h1, h2, hc, h3⟩
theorem eql_id (o s o' s' : Int) (w : World) : (binOp .eql 34 (.agg #[.int .i64 o, .int .i64 s]) (.agg #[.int .i64 o', .int .i64 s'])).run Try.prog w = .ok (.bool (o == o' && s == s')) w := by
  have h := equal_id o s o' s' w
  unfold idV at h
  simp [binOp, h]
theorem mem_step {ids : List (Int × Int)} {k : Nat} {p : Int × Int} (hk : ids[k]? = some p) (o s : Int) : mem (ids.take (k + 1)) o s = (mem (ids.take k) o s || (p.1 == o && p.2 == s)) := by
  unfold mem; rw [List.take_add_one, hk, List.any_append]; simp
theorem mem_of {ids : List (Int × Int)} {k : Nat} {p : Int × Int} (hk : ids[k]? = some p) {o s : Int} (h : (p.1 == o && p.2 == s) = true) : mem ids o s = true := by
  unfold mem; rw [List.any_eq_true]; exact ⟨p, List.mem_of_getElem? hk, h⟩
theorem rhas_walk {a : Option Addr} {n c : Nat} {w : World} (ids : List (Int × Int)) (h : Sl w (.slice a n c) n 2 (idL ids)) (hl : ids.length = n) (hn : n ≤ 1000000) (o s : Int) :
    Calls Try.prog 19 #[.slice a n c, .agg #[.int .i64 o, .int .i64 s]] w fun e w' => e = .returned (.bool (mem ids o s)) ∧ Fr w w' := by
  have f1 := (Fr.refl w).alloc (.cells #[.int .i64 o, .int .i64 s] 34)
  have b1 := heap_alloc_new w (.cells #[.int .i64 o, .int .i64 s] 34)
  have hz1 : (w.alloc (.cells #[.int .i64 o, .int .i64 s] 34)).heap.size = w.heap.size + 1 := by simp
  go_enter Try.func19, Try.ntmps19
  go_wp2_with fail
  generalize w.alloc (.cells #[.int .i64 o, .int .i64 s] 34) = W at *
  obtain ⟨N, hN⟩ : ∃ N, w.heap.size = N := ⟨_, rfl⟩
  rw [hN] at b1 hz1 ⊢
  go_loopw [5] (fun i wk => ∃ k : Nat, k ≤ n ∧ i = .int .i64 k ∧ mem (ids.take k) o s = false ∧ Fr W wk) (fun i _ => n - (intOf i).toNat)
  case atStart => exact ⟨0, Nat.zero_le _, rfl, rfl, Fr.refl _⟩
  case round =>
    obtain ⟨k, hk, rfl, hno, hf⟩ := hrel
    by_cases hlt : k < n
    · obtain ⟨p, hp⟩ : ∃ p, ids[k]? = some p := ⟨_, List.getElem?_eq_getElem (by omega)⟩
      obtain ⟨b, oo, rfl, hb, hnc, hcs⟩ := h.get (by omega)
      have hW : ∀ w', Fr wr w' → w'.heap[b]? = w.heap[b]? ∧ w'.heap[N]? = W.heap[N]? := fun w' hw' => ⟨((hf.trans hw').heap (by have := f1.size; omega)).trans (f1.heap hb), (hf.trans hw').heap (by omega)⟩
      have x0 : ∀ w', Fr wr w' → w'.cell? ⟨b, oo + k * 2, none⟩ = some (.int .i64 p.1) := fun w' hw' => by
        rw [World.cell?_of_block (hW w' hw').1, hcs (k * 2) _ (by rw [show k * 2 = k * 2 + 0 from rfl, idL_at ids k 0 (by decide), hp]; rfl)]
      have x1 : ∀ w', Fr wr w' → w'.cell? ⟨b, oo + k * 2 + 1, none⟩ = some (.int .i64 p.2) := fun w' hw' => by
        rw [Nat.add_assoc, World.cell?_of_block (hW w' hw').1, hcs (k * 2 + 1) _ (by rw [idL_at ids k 1 (by decide), hp]; rfl)]
      have x2 : ∀ w', Fr wr w' → w'.cell? ⟨N, 0, none⟩ = some (.int .i64 o) := fun w' hw' => cell_at ((hW w' hw').2.trans b1) 0
      have x3 : ∀ w', Fr wr w' → w'.cell? ⟨N, 1, none⟩ = some (.int .i64 s) := fun w' hw' => cell_at ((hW w' hw').2.trans b1) 1
      have hq := eql_id p.1 p.2 o s
      have hst := mem_step hp o s
      have hmo := fun h => mem_of (o := o) (s := s) hp h
      obtain ⟨po, ps⟩ := p
      dsimp only at x0 x1 hq hst hmo
      obtain ⟨q, hqv⟩ : ∃ q, (po == o && ps == s) = q := ⟨_, rfl⟩
      rw [hqv] at hq hst hmo
      rw [hno, Bool.false_or] at hst
      have HH := Go.Lib.hid (And.intro hst hmo)
      clear hst hmo hp hcs hW h hno hqv
      go_wp2_with fail
      refine wp_region_class (Fr wr) (by kernel_rfl) (by kernel_rfl) (Fr.draw _) ?_
      repeat (first
        | (refine wpQuiet_val rfl ?_
           apply Exists.intro
           refine ⟨?_, ?_⟩
           focus (intro w' hw'; go_simp; (try go_bits); with_reducible rfl)
           simp only [Act.put, List.setIfInBounds_toArray, List.set_cons_zero, List.set_cons_succ])
        | (refine wpQuiet_pass rfl ?_
           simp only [Act.put, List.setIfInBounds_toArray, List.set_cons_zero, List.set_cons_succ]))
      refine wpQuiet_nil ?_
      intro w2 f2
      cases q with
      | true =>
        go_wp2_with fail
        go_ret
        exact ⟨by rw [HH.out.2 trivial]; rfl, f1.trans (hf.trans f2)⟩
      | false =>
        go_wp2_with fail
        go_roundw
        case rel => exact ⟨k + 1, by omega, by go_num, HH.out.1, hf.trans f2⟩
        case measure => simp [intOf]; omega
    · obtain rfl : n = k := by omega
      have ht : ids.take n = ids := List.take_of_length_le (by omega)
      rw [ht] at hno
      have HH := Go.Lib.hid hno
      clear hno h ht hl
      go_wp2_with fail
      go_ret
      exact ⟨by rw [HH.out]; rfl, f1.trans hf⟩
/-! ### Ids -/
def idOf (c : Cn) : Int × Int := (c.o, c.s)
def IdsPost (l : List Cn) (W : World) (e : Ending) (w' : World) : Prop := ∃ a n c, e = .returned (.slice a n c) ∧ n = l.length ∧ w'.ownsRow W.heap.size 34 2 (.slice a n c) n (idL (l.map idOf)) ∧ Fr W w'
set_option maxHeartbeats 1000000 in
theorem ids_walk {a : Option Addr} {n c : Nat} {w : World} (es : List Et) (h : Sl w (.slice a n c) n 4 (etL es)) (hl : es.length = n) (hn : n ≤ 1000000) : Calls Try.prog 20 #[.slice a n c] w (IdsPost (es.map Et.c) w) := by
  obtain ⟨i0, z0, hi0, hz0, hz1, hz2, hz3⟩ := parts info34
  have hnil := own_empty w 34 2
  have f1 := (Fr.refl w).alloc (.cells #[] 34)
  go_enter Try.func20, Try.ntmps20
  go_wp2_with fail
  go_loopw [3, 4] (fun v i wk => ∃ (k : Nat), k ≤ n ∧ i = .int .i64 k ∧ wk.ownsRow w.heap.size 34 2 v k (idL (((es.map Et.c).map idOf).take k)) ∧ Fr w wk) (fun _ i _ => n - (intOf i).toNat)
  case atStart => exact ⟨0, Nat.zero_le _, rfl, hnil, f1⟩
  case round =>
    clear hnil f1
    obtain ⟨k, hk, rfl, hrow, hf⟩ := hrel
    have hsz := hf.size
    by_cases hlt : k < n
    · obtain ⟨e, he⟩ : ∃ e, es[k]? = some e := ⟨_, List.getElem?_eq_getElem (by omega)⟩
      obtain ⟨b, oo, rfl, hb, hnc, hcs⟩ := h.get (by omega)
      have x0 : wr.cell? ⟨b, oo + k * 4, none⟩ = some (.int .i64 e.c.o) := by
        rw [World.cell?_of_block (hf.heap hb), hcs (k * 4) _ (by rw [show k * 4 = k * 4 + 0 from rfl, etL_at es k 0 (by decide), he]; rfl)]
      have x1 : wr.cell? ⟨b, oo + k * 4 + 1, none⟩ = some (.int .i64 e.c.s) := by
        rw [Nat.add_assoc, World.cell?_of_block (hf.heap hb), hcs (k * 4 + 1) _ (by rw [etL_at es k 1 (by decide), he]; rfl)]
      have hE : idL (((es.map Et.c).map idOf).take (k + 1)) = idL (((es.map Et.c).map idOf).take k) ++ [.int .i64 e.c.o, .int .i64 e.c.s] := by
        rw [List.take_add_one, List.getElem?_map, List.getElem?_map, he]
        simp [idL, idC, idOf]
      obtain ⟨⟨eo, es', gs, ss⟩, g, st⟩ := e
      dsimp only at x0 x1 hE
      have HH := Go.Lib.hid (And.intro hE (And.intro hl h))
      clear hE hcs he h hl
      go_wp2_with (at_builtin; go_must (refine wpList_append_lies _ rfl _ _ 42 rfl w.heap.size 34 i0 z0 2 16 Try.underlying42 hi0 hz0 hz2 hz3 hz1 (by decide) u3 k _ rfl (hrow.alloc _) ⟨wr.heap.size, 0, none⟩ 1 1 [.int .i64 eo, .int .i64 es'] rfl rfl (cells_two _ _ _ _) (by simp [Value.oneCell']) (by omega) (by unfold maxLen; omega) (by omega) (by simp; omega) _ rfl ?_); intro g' cap' w6 hown hgrow hat hlt6)
      refine ⟨⟨k + 1, by omega, by go_num, ?_, ?_⟩, by simp [intOf]; omega⟩
      · rw [HH.out.1]; exact hown
      · exact ((But.of_fr (F := fun _ => False) (hf.alloc _)).mix (But.of_grown hgrow) (H := fun k => u3.ownBlock = some k) (fun _ _ h => h.elim) (fun _ _ h => h)).fr (fun k hk hc => by have := (hrow.lt k hc).1; omega)
    · obtain rfl : n = k := by omega
      obtain ⟨a', c', rfl⟩ : ∃ a c, u3 = .slice a n c := by obtain ⟨a, c, h, _⟩ := owns_sl hrow; exact ⟨a, c, h⟩
      have ht : ((es.map Et.c).map idOf).take n = (es.map Et.c).map idOf := List.take_of_length_le (by simp; omega)
      rw [ht] at hrow
      clear h ht
      have HL := Go.Lib.hid hl
      clear hl
      go_wp2_with fail
      go_ret
      exact ⟨a', n, c', rfl, by rw [List.length_map]; exact HL.out.symm, hrow, hf⟩
end Go.Proofs.Ytncbgcfjjlhgpaa
