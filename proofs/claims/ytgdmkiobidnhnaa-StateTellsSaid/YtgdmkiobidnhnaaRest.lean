/-
  Walks: Same (two rows of pairs that are the same), the document's From, all, Copy of none. Conditions: the pairs lie where the slices say.
-/
import Derived.Test.YtgdmkiobidnhnaaRef
namespace Go.Proofs.Ytgdmkiobidnhnaa
open Go.RowKit

theorem pr_neq (a b : ByteArray) (w : World) : (binOp .neq 42 (.agg #[.string a, .string b]) (.agg #[.string a, .string b])).run Try.prog w = .ok (.bool false) w := by
  have h : (Op.equal 42 (.agg #[.string a, .string b]) (.agg #[.string a, .string b])).run Try.prog w = .ok true w := by
    simp only [Op.equal, Op.maxDepth]
    go_simp
  simp [binOp, h]
/-- A pair's two cells, in a form that is fit for the walk. -/
theorem pair_cells' {w : World} {a : Option Addr} {n c : Nat} {m : Ps} (h : Sl w (.slice a n c) n 2 (pairsL m)) {i : Nat} {x : ByteArray × ByteArray} (hi : m[i]? = some x) (hl : m.length = n) :
    ∃ b o, a = some ⟨b, o, none⟩ ∧ n ≤ c ∧ ∀ w', Fr w w' → w'.cell? ⟨b, o + i * 2, none⟩ = some (.string x.1) ∧ w'.cell? ⟨b, o + i * 2 + 1, none⟩ = some (.string x.2) := by
  obtain ⟨b, o, h1, _, h2, h3⟩ := pair_cells h hi hl
  exact ⟨b, o, h1, h2, h3⟩
set_option maxRecDepth 20000 in
set_option maxHeartbeats 1000000 in
theorem psame_walk {a b : Option Addr} {n c d : Nat} {w : World} (m : Ps) (h : Sl w (.slice a n c) n 2 (pairsL m)) (h2 : Sl w (.slice b n d) n 2 (pairsL m)) (hl : m.length = n) (hn : n ≤ 1000000) :
    Calls Try.prog 22 #[.slice a n c, .slice b n d] w fun e w' => e = .returned (.bool true) ∧ Fr w w' := by
  go_enter Try.func22, Try.ntmps22
  go_wp2_with fail
  go_loopw [5] (fun i wk => ∃ j : Nat, j ≤ n ∧ i = .int .i64 j ∧ Fr w wk) (fun i _ => n - (intOf i).toNat)
  case atStart => exact ⟨0, Nat.zero_le _, rfl, Fr.refl _⟩
  case round =>
    obtain ⟨j, hj, rfl, hf⟩ := hrel
    by_cases hlt : j < n
    · obtain ⟨x, hx⟩ : ∃ x, m[j]? = some x := ⟨_, List.getElem?_eq_getElem (by omega)⟩
      obtain ⟨b1, o1, rfl, hc1, hcs⟩ := pair_cells' h hx hl
      obtain ⟨b2, o2, rfl, hc2, hcs2⟩ := pair_cells' h2 hx hl
      obtain ⟨x1, x2⟩ := x
      have ca : ∀ w', Fr wr w' → w'.cell? ⟨b1, o1 + j * 2, none⟩ = some (.string x1) := fun w' hw' => (hcs w' (hf.trans hw')).1
      have cb : ∀ w', Fr wr w' → w'.cell? ⟨b1, o1 + j * 2 + 1, none⟩ = some (.string x2) := fun w' hw' => (hcs w' (hf.trans hw')).2
      have cc : ∀ w', Fr wr w' → w'.cell? ⟨b2, o2 + j * 2, none⟩ = some (.string x1) := fun w' hw' => (hcs2 w' (hf.trans hw')).1
      have cd : ∀ w', Fr wr w' → w'.cell? ⟨b2, o2 + j * 2 + 1, none⟩ = some (.string x2) := fun w' hw' => (hcs2 w' (hf.trans hw')).2
      have hne := pr_neq x1 x2
      clear hcs hcs2 h h2 hx hl
      go_wp2_with fail
      refine wp_region_class (Fr wr) (by kernel_rfl) (by kernel_rfl) (Fr.draw _) ?_
      repeat (first
        | (refine wpQuiet_val rfl ?_
           apply Exists.intro
           refine ⟨?_, ?_⟩
           focus (intro w' hw'; go_simp; (try go_bits); with_reducible rfl)
           simp only [Act.put, List.setIfInBounds_toArray, List.set_cons_zero, List.set_cons_succ])
        | (refine wpQuiet_pass rfl ?_
           simp only [Act.put, List.setIfInBounds_toArray, List.set_cons_zero, List.set_cons_succ]))
      refine wpQuiet_nil ?_
      intro w5 f5
      go_wp2_with fail
      go_roundw
      case rel => exact ⟨j + 1, by omega, by go_num, hf.trans f5⟩
      case measure => simp [intOf]; omega
    · obtain rfl : n = j := by omega
      clear h h2 hl
      go_wp2_with fail
      go_ret
      exact ⟨rfl, hf⟩
theorem tail_take {m : Ps} {k : ByteArray} {i : Nat} {a : ByteArray × ByteArray} (hi : m[i]? = some a) : tail (m.take (i + 1)) k = if lt a.1 k = true then tail (m.take i) k else tail (m.take i) k ++ [a] := by
  unfold tail
  rw [List.take_add_one, hi, List.filter_append]
  by_cases h : lt a.1 k = true
  · rw [if_pos h]; simp [h]
  · rw [if_neg h]; simp [h]
theorem tail_take_le (m : Ps) (k : ByteArray) (i : Nat) : (tail (m.take i) k).length ≤ i := by
  have h1 : (tail (m.take i) k).length ≤ (m.take i).length := List.length_filter_le _ _
  rw [List.length_take] at h1; omega
set_option maxHeartbeats 1000000 in
theorem rfrom_walk {a : Option Addr} {n c : Nat} {w : World} (m : Ps) (h : Sl w (.slice a n c) n 2 (pairsL m)) (hl : m.length = n) (hn : n ≤ 1000000) (k : ByteArray) :
    Calls Try.prog 25 #[.slice a n c, .string k] w (ListPost (tail m k) w) := by
  obtain ⟨i0, z0, hi0, hz0, hz1, hz2, hz3⟩ := parts info42
  have hnil := own_empty w 42 2
  have f1 := (Fr.refl w).alloc (.cells #[] 42)
  go_enter Try.func25, Try.ntmps25
  go_wp2_with fail
  go_loopw [5, 6] (fun v i wk => ∃ j : Nat, j ≤ n ∧ i = .int .i64 j ∧ wk.ownsRow w.heap.size 42 2 v (tail (m.take j) k).length (pairsL (tail (m.take j) k)) ∧ Fr w wk) (fun _ i _ => n - (intOf i).toNat)
  case atStart => exact ⟨0, Nat.zero_le _, rfl, hnil, f1⟩
  case round =>
    clear hnil f1
    obtain ⟨j, hj, rfl, hrow, hf⟩ := hrel
    have hsz := hf.size
    have hdl := tail_take_le m k j
    by_cases hlt : j < n
    · obtain ⟨x, hx⟩ : ∃ x, m[j]? = some x := ⟨_, List.getElem?_eq_getElem (by omega)⟩
      obtain ⟨b, o, rfl, hb, hnc, hcs⟩ := pair_cells h hx hl
      obtain ⟨c0, c1⟩ := hcs wr hf
      have hst := tail_take (k := k) hx
      obtain ⟨q, hq⟩ : ∃ q, (tail (m.take j) k).length = q := ⟨_, rfl⟩
      rw [hq] at hrow hdl
      obtain ⟨l1, hl1⟩ : ∃ l1, lt x.1 k = l1 := ⟨_, rfl⟩
      rw [hl1] at hst
      have hl2 : Op.bytesLess x.1.toList k.toList = l1 := hl1
      cases l1 with
      | true =>
        have HH := Go.Lib.hid (And.intro (hst.trans (if_pos rfl)) hq)
        clear hcs h hx hl hst hq hl1
        obtain ⟨x1, x2⟩ := x
        dsimp only at c0 c1 hl2
        go_wp2_with fail
        go_roundw
        case rel => exact ⟨j + 1, by omega, by go_num, by rw [HH.out.1, HH.out.2]; exact hrow, hf⟩
        case measure => simp [intOf]; omega
      | false =>
        have HH := Go.Lib.hid (And.intro (hst.trans (if_neg (by decide))) hq)
        clear hcs h hx hl hst hq hl1
        obtain ⟨x1, x2⟩ := x
        dsimp only at c0 c1 hl2
        go_wp2_with (at_builtin; go_must (refine wpList_append_lies _ rfl _ _ 29 rfl w.heap.size 42 i0 z0 2 32 Try.underlying29 hi0 hz0 hz2 hz3 hz1 (by decide)  u5 q (pairsL (tail (m.take j) k)) rfl (hrow.alloc _) ⟨wr.heap.size, 0, none⟩ 1 1 [.string x1, .string x2] rfl rfl (cells_two_new _ _ _ _) (by simp [Value.oneCell']) (by omega) (by unfold maxLen; omega) (by omega) (by simp; omega) _ rfl ?_); intro g' cap' w6 hown hgrow hat hlt6)
        refine ⟨⟨j + 1, by omega, by go_num, ?_, grown_fr hf hrow hgrow⟩, by simp [intOf]; omega⟩
        rw [HH.out.1, List.length_append, HH.out.2, pairsL_push]; exact hown
    · obtain rfl : n = j := by omega
      have ht : m.take n = m := List.take_of_length_le (by omega)
      rw [ht] at hrow
      obtain ⟨q, hq⟩ : ∃ q, (tail m k).length = q := ⟨_, rfl⟩
      rw [hq] at hrow
      obtain ⟨a', c', rfl⟩ := own_form2 hrow
      have HH := Go.Lib.hid hq
      clear h hl ht hq hdl
      go_wp2_with fail
      go_ret
      exact ⟨a', c', by rw [HH.out]; rfl, by rw [HH.out]; exact hrow, hf⟩
theorem rank_empty : ∀ (l : Ps), rank l ⟨#[]⟩ = 0
  | [] => rfl
  | a :: r => by
    unfold rank
    rw [if_neg]
    rw [lt_iff]
    have e : (⟨#[]⟩ : ByteArray).toList = [] := by simp
    rw [e]
    exact List.not_lt_nil a.1.toList
theorem gathered_all {l : Ps} (hl : l.length ≤ 2000) : gathered l ⟨#[]⟩ 2000 = l := by
  unfold gathered
  rw [rank_empty, List.drop_zero, List.take_of_length_le hl]
theorem from_list (p : Option Addr) (l : Ps) (hn : l.length ≤ 1000000) (key : ByteArray) (most : Nat) (hm : most ≤ 2000) (w : World) (ht : Told w.heap.size p l w) :
    Calls Try.prog 26 #[.pointer p, .string key, .int .i64 most] w (ListPost (gathered l key most) w) :=
  (from_walk p l hn key most hm w ht).mono fun e w' ⟨v, he, hr, hb⟩ => by
    obtain ⟨a, c, rfl⟩ := own_form2 hr
    exact ⟨a, c, he, hr, hb⟩
theorem all_walk {B T : Nat} {F : Nat → Prop} {l : Ps} {w : World} (h : Tb B F T l w) (hl : l.length ≤ 2000) : Calls Try.prog 23 #[.pointer (some ⟨T, 0, none⟩)] w (ListPost l w) := by
  have hc := from_list (some ⟨T, 0, none⟩) l (by omega) ⟨#[]⟩ 2000 (by omega) w (.inr ⟨T, rfl, h.seen⟩)
  rw [gathered_all hl] at hc
  clear h
  go_enter Try.func23, Try.ntmps23
  go_wp2_with fail
  refine hc.mono ?_
  rintro e w' ⟨a, c, rfl, hr, hf⟩
  obtain ⟨n, hn⟩ : ∃ n, l.length = n := ⟨_, rfl⟩
  have HH := Go.Lib.hid hn
  rw [hn] at hr ⊢
  clear hl hn hc
  go_wp2_with fail
  go_ret
  exact ⟨a, c, by rw [HH.out]; rfl, by rw [HH.out]; exact hr, hf⟩
theorem copy_nil (w : World) : Calls Try.prog 24 #[.pointer none] w fun e w' => e = .returned (.pointer none) ∧ w = w' := by
  go_enter Try.func24, Try.ntmps24
  go_wp2_with fail
  go_ret
  exact ⟨rfl, rfl⟩
end Go.Proofs.Ytgdmkiobidnhnaa
