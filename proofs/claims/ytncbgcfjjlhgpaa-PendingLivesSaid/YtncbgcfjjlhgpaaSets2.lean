/-
  The walks of a set's Has and Of. Conditions: the names lie where the slice says.
-/
import Derived.Test.YtncbgcfjjlhgpaaSets
namespace Go.Proofs.Ytncbgcfjjlhgpaa
open Go.RowKit

theorem shas_walk {B S : Nat} {f : Int → Int → Int} {w : World} (o s : Int) (h : SetR B w S f) :
    Calls Try.prog 25 #[.pointer (some ⟨S, 0, none⟩), .agg #[.int .i64 o, .int .i64 s]] w fun e w' => e = .returned (.bool (decide (0 < f o s))) ∧ Fr w w' := by
  have hf := (Fr.refl w).alloc (.cells #[.int .i64 o, .int .i64 s] 34)
  have c1 : ∀ j, j < 2 → ∀ w', Fr (w.alloc (.cells #[.int .i64 o, .int .i64 s] 34)) w' → w'.cell? ⟨w.heap.size, j, none⟩ = #[Value.int .i64 o, .int .i64 s][j]? := fun j _ w' hw' => by
    rw [hw'.cell (by simp)]; simp
  have h' := h.fr hf
  obtain ⟨x, hx⟩ : ∃ x, f o s = x := ⟨_, rfl⟩
  rw [hx]
  go_enter Try.func25, Try.ntmps25
  go_wp2_with fail
  generalize w.alloc (.cells #[.int .i64 o, .int .i64 s] 34) = W at *
  generalize w.heap.size = N at *
  obtain ⟨mo, c0, hl⟩ : ∃ mo, (∀ j, j < 1 → ∀ w', Fr W w' → w'.cell? ⟨S, j, none⟩ = #[Value.map mo][j]?) ∧ ∀ w', Fr W w' → (Instr.lookup 28 (.map mo) (.agg #[.int .i64 o, .int .i64 s]) false).run Try.prog w' = .ok (.int .i64 x) w' := by
    obtain ⟨_, mo, hS, hc⟩ := h'
    refine ⟨mo, fun j _ w' hw' => cell_of_row w' S j _ 68 _ ((hw'.heap (Array.getElem?_eq_some_iff.1 hS).1).trans hS), fun w' hw' => ?_⟩
    rw [← hx]
    rcases hc with ⟨rfl, hz⟩ | ⟨b, rfl, _, _, hm⟩
    · rw [hz]; exact lookupNil o s w'
    · exact lookupF (hm.kept (hw'.heap hm.lt)) o s
  clear h h' hx
  refine wp_region_class (Fr W) (by kernel_rfl) (by kernel_rfl) (Fr.draw _) ?_
  repeat (first
    | (refine wpQuiet_val rfl ?_
       apply Exists.intro
       refine ⟨?_, ?_⟩
       focus (intro w' hw'; go_simp; (try go_bits); with_reducible rfl)
       simp only [Act.put, List.setIfInBounds_toArray, List.set_cons_zero, List.set_cons_succ])
    | (refine wpQuiet_pass rfl ?_
       simp only [Act.put, List.setIfInBounds_toArray, List.set_cons_zero, List.set_cons_succ]))
  refine wpQuiet_nil ?_
  intro w2 f2
  go_wp2
  go_ret
  exact ⟨rfl, hf.trans f2⟩

/-! ### Of -/
def idC (p : Int × Int) : List Value := [.int .i64 p.1, .int .i64 p.2]
def idL (l : List (Int × Int)) : List Value := l.flatMap idC
theorem idL_at (l : List (Int × Int)) (i j : Nat) (hj : j < 2) : (idL l)[i * 2 + j]? = (l[i]?).bind fun x => (idC x)[j]? := stride_get idC 2 (fun _ => rfl) l i j hj
theorem idL_len (l : List (Int × Int)) : (idL l).length = l.length * 2 := stride_len idC 2 (fun _ => rfl) l
def cnt (l : List (Int × Int)) (o s : Int) : Int := (l.countP fun p => p.1 == o && p.2 == s : Nat)
theorem cnt_nil : cnt [] = fun _ _ => 0 := rfl
theorem cnt_step (l : List (Int × Int)) (k : Nat) (p : Int × Int) (hp : l[k]? = some p) : upd (cnt (l.take k)) p.1 p.2 (cnt (l.take k) p.1 p.2 + 1) = cnt (l.take (k + 1)) := by
  funext o s
  have hk : l.take (k + 1) = l.take k ++ [p] := by rw [List.take_add_one, hp]; rfl
  unfold upd cnt
  rw [hk, List.countP_append]
  by_cases h : o = p.1 ∧ s = p.2
  · rw [if_pos h, h.1, h.2]; simp
  · rw [if_neg h]
    have : (p.1 == o && p.2 == s) = false := by
      cases hb : (p.1 == o && p.2 == s) with
      | false => rfl
      | true =>
        simp only [Bool.and_eq_true, beq_iff_eq] at hb
        exact absurd ⟨hb.1.symm, hb.2.symm⟩ h
    simp [this]
theorem cnt_nonneg (l : List (Int × Int)) (o s : Int) : 0 ≤ cnt l o s := Int.natCast_nonneg _
theorem cnt_le (l : List (Int × Int)) (k : Nat) (o s : Int) : cnt (l.take k) o s ≤ k := by
  unfold cnt
  have h1 : (l.take k).countP (fun p => p.1 == o && p.2 == s) ≤ (l.take k).length := List.countP_le_length
  have h2 : (l.take k).length ≤ k := by rw [List.length_take]; omega
  omega
def OfPost (W : World) (ids : List (Int × Int)) (e : Ending) (w' : World) : Prop := ∃ S : Nat, e = .returned (.pointer (some ⟨S, 0, none⟩)) ∧ SetR W.heap.size w' S (cnt ids) ∧ Fr W w'
theorem set_new (w : World) : SetR w.heap.size (w.alloc (.cells #[.map none] 68)) w.heap.size (cnt []) :=
  ⟨Nat.le_refl _, none, heap_alloc_new w _, .inl ⟨rfl, fun _ _ => rfl⟩⟩
theorem of_walk {n : Nat} {a : Option Addr} {c : Nat} {w : World} (ids : List (Int × Int)) (h : Sl w (.slice a n c) n 2 (idL ids)) (hn : n ≤ 1000000) : Calls Try.prog 24 #[.slice a n c] w (OfPost w ids) := by
  have h0 := set_new w
  have f1 := (Fr.refl w).alloc (.cells #[.map none] 68)
  have hl : ids.length = n := by
    obtain ⟨_, _, _, hl, _⟩ := h
    rw [idL_len] at hl; omega
  have hsz : (w.alloc (.cells #[.map none] 68)).heap.size = w.heap.size + 1 := by simp
  go_enter Try.func24, Try.ntmps24
  go_wp2_with fail
  generalize w.alloc (.cells #[.map none] 68) = W at *
  generalize hS : w.heap.size = S at *
  go_loopw [10] (fun i wk => ∃ k : Nat, k ≤ n ∧ i = .int .i64 k ∧ SetR S wk S (cnt (ids.take k)) ∧ Below S w wk ∧ S ≤ wk.heap.size) (fun i _ => n - (intOf i).toNat)
  case atStart => exact ⟨0, Nat.zero_le _, rfl, h0, f1.below_of (by omega), by omega⟩
  case round =>
    obtain ⟨k, hk, rfl, hs, hb, hz⟩ := hrel
    by_cases hlt : k < n
    · obtain ⟨b, o, rfl, hbl, hcs⟩ : ∃ b o, a = some ⟨b, o, none⟩ ∧ b < w.heap.size ∧ ∀ j u, (idL ids)[j]? = some u → w.cell? ⟨b, o + j, none⟩ = some u := by
        obtain ⟨a', c', e, _, _, h | h⟩ := h
        · omega
        · cases e; exact h
      obtain ⟨p, hp⟩ : ∃ p, ids[k]? = some p := ⟨_, List.getElem?_eq_getElem (by omega)⟩
      have c1 : wr.cell? ⟨b, o + k * 2, none⟩ = some (.int .i64 p.1) := by
        rw [hb.cell (by show b < S; omega), hcs (k * 2) _ (by rw [show k * 2 = k * 2 + 0 from rfl, idL_at ids k 0 (by decide), hp]; rfl)]
      have c2 : wr.cell? ⟨b, o + k * 2 + 1, none⟩ = some (.int .i64 p.2) := by
        rw [show o + k * 2 + 1 = o + (k * 2 + 1) by omega, hb.cell (by show b < S; omega), hcs (k * 2 + 1) _ (by rw [idL_at ids k 1 (by decide), hp]; rfl)]
      have hst := cnt_step ids k p hp
      have hw0 := cnt_nonneg (ids.take k) p.1 p.2
      have hw1 := cnt_le ids k p.1 p.2
      obtain ⟨po, ps⟩ := p
      dsimp only at c1 c2 hst hw0 hw1
      have fa := (Fr.refl wr).alloc (.cells #[.int .i64 po, .int .i64 ps] 34)
      have hadd := sadd_walk po ps (hs.fr fa) hw0 (by omega) (Nat.le_trans hz fa.size)
      clear hcs hs h0 h hp hw0 hw1
      go_wp2_with fail
      refine hadd.mono ?_
      rintro e w4 ⟨rfl, h4, hb4⟩
      go_wp2_with fail
      go_roundw
      case rel => exact ⟨k + 1, by omega, by go_num, hst ▸ h4, (hb.trans (fa.below_of hz)).trans hb4, by have := hb4.size; have := fa.size; omega⟩
      case measure => simp [intOf]; omega
    · obtain rfl : n = k := by omega
      have ht : ids.take n = ids := by rw [← hl, List.take_length]
      rw [ht] at hs
      clear h0 h
      go_wp2_with fail
      go_ret
      subst hS
      exact ⟨_, rfl, hs, hb⟩
end Go.Proofs.Ytncbgcfjjlhgpaa
