/-
  The document's Diff: both rows are gone through side by side. Conditions: the pairs lie where the slices say, at most five hundred of each.
-/
import Derived.Test.YtgdmkiobidnhnaaSt6
import Derived.Deep.RegionHeld3
namespace Go.Proofs.Ytgdmkiobidnhnaa
open Go.RowKit Go.Shelf
set_option linter.unusedSimpArgs false

theorem drop_at {α : Type} {l : List α} {i : Nat} {x : α} (h : l[i]? = some x) : l.drop i = x :: l.drop (i + 1) := by
  obtain ⟨hi, e⟩ := List.getElem?_eq_some_iff.1 h
  rw [List.drop_eq_getElem_cons hi, e]
theorem drop_end {α : Type} {l : List α} {n : Nat} (h : l.length = n) : l.drop n = [] := List.drop_of_length_le (by omega)
theorem grown_fr3 {S : Nat} {w w1 w' : World} {A : Obj} {n : Nat} {v : Value} {xs : List Value} (hf : Fr w w1) (hrow : w1.ownsRow S 69 3 v n xs) (hg : (w1.alloc A).grownBy w' v.ownBlock) (hS : S = w.heap.size) : Fr w w' := by
  subst hS
  exact ((But.of_fr (F := fun _ => False) (hf.alloc A)).mix (But.of_grown hg) (H := fun k => v.ownBlock = some k) (fun _ _ h => h.elim) (fun _ _ h => h)).fr (fun k hk hc => by have := (hrow.lt k hc).1; omega)
theorem rdiff_not {a b : Option Addr} {n c n2 c2 : Nat} {w : World} (A B : Ps) (h : Sl w (.slice a n c) n 2 (pairsL A)) (h2 : Sl w (.slice b n2 c2) n2 2 (pairsL B)) (hl : A.length = n) (hl2 : B.length = n2) (hn : n ≤ 500) (hn2 : n2 ≤ 500)
    (hu : (upB A && upB B) = false) : Calls Try.prog 52 #[.slice a n c, .slice b n2 c2] w (DiffPost [] w) := by
  have f0 := (Fr.refl w).alloc (.cells #[] 69)
  have r0 := own_empty w 69 3
  obtain ⟨S, hS⟩ : ∃ S, w.heap.size = S := ⟨_, rfl⟩
  have hr1 := rright_walk A (h.fr f0) hl (by omega)
  unfold DiffPost
  rw [hS] at r0 ⊢
  cases hu1 : upB A with
  | false =>
    rw [hu1] at hr1
    clear h h2 hl hl2 hu
    go_enter Try.func52, Try.ntmps52
    go_wp2_with fail
    generalize w.alloc (.cells #[] 69) = w0 at *
    refine hr1.mono ?_
    rintro e w1 ⟨rfl, f1⟩
    have r1 := owns_fr r0 f1
    have f2 := f0.trans f1
    clear hr1 f1 f0 r0
    go_wp2_with fail
    go_ret
    exact ⟨_, _, rfl, r1, f2⟩
  | true =>
    rw [hu1] at hr1 hu
    have hu2 : upB B = false := by simpa using hu
    have h2' := h2.fr f0
    clear h hl hu h2
    go_enter Try.func52, Try.ntmps52
    go_wp2_with fail
    generalize w.alloc (.cells #[] 69) = w0 at *
    refine hr1.mono ?_
    rintro e w1 ⟨rfl, f1⟩
    have hr2 := rright_walk B (h2'.fr f1) hl2 (by omega)
    rw [hu2] at hr2
    clear hr1 h2' hl2
    go_wp2_with fail
    refine hr2.mono ?_
    rintro e w2 ⟨rfl, f2⟩
    have r1 := owns_fr (owns_fr r0 f1) f2
    have f3 := (f0.trans f1).trans f2
    clear hr2 f1 f2 f0 r0
    go_wp2_with fail
    go_ret
    exact ⟨_, _, rfl, r1, f3⟩
set_option maxRecDepth 20000 in
set_option maxHeartbeats 8000000 in
theorem rdiff_walk {a b : Option Addr} {n c n2 c2 : Nat} {w : World} (A B : Ps) (h : Sl w (.slice a n c) n 2 (pairsL A)) (h2 : Sl w (.slice b n2 c2) n2 2 (pairsL B)) (hl : A.length = n) (hl2 : B.length = n2) (hn : n ≤ 500) (hn2 : n2 ≤ 500)
    (hu : Up A) (hu2 : Up B) : Calls Try.prog 52 #[.slice a n c, .slice b n2 c2] w (DiffPost (mdiff A B) w) := by
  obtain ⟨i0, z0, hi0, hz0, hz1, hz2, hz3⟩ := parts info69
  have f0 := (Fr.refl w).alloc (.cells #[] 69)
  have r0 := own_empty w 69 3
  obtain ⟨S, hS⟩ : ∃ S, w.heap.size = S := ⟨_, rfl⟩
  have hr1 := rright_walk A (h.fr f0) hl (by omega)
  rw [up_upB A hu] at hr1
  unfold DiffPost
  rw [hS] at r0 ⊢
  have HO := Go.Lib.hid (And.intro h (And.intro h2 (And.intro hl (And.intro hl2 (And.intro hu hu2)))))
  clear h h2 hl hl2 hu hu2
  go_enter Try.func52, Try.ntmps52
  go_wp2_with fail
  generalize w.alloc (.cells #[] 69) = w0 at *
  refine hr1.mono ?_
  rintro e w1 ⟨rfl, f1⟩
  have hr2 := rright_walk B (HO.out.2.1.fr (f0.trans f1)) HO.out.2.2.2.1 (by omega)
  rw [up_upB B HO.out.2.2.2.2.2] at hr2
  replace f0 := f0.trans f1
  replace r0 := owns_fr r0 f1
  clear hr1 f1
  go_wp2_with fail
  refine hr2.mono ?_
  rintro e w2 ⟨rfl, f1⟩
  replace f0 := f0.trans f1
  replace r0 := owns_fr r0 f1
  clear hr2 f1
  go_wp2_with fail
  go_loopw [5, 6, 7] (fun v i k wk => ∃ (i' k' : Nat) (o : Chs) (oa : Option Addr) (p oc : Nat), i' ≤ n ∧ k' ≤ n2 ∧ i = .int .i64 (i' : Nat) ∧ k = .int .i64 (k' : Nat) ∧ v = .slice oa p oc ∧ o.length = p ∧ wk.ownsRow S 69 3 (.slice oa p oc) p (chL o) ∧ o ++ mdiff (A.drop i') (B.drop k') = mdiff A B ∧ Fr w wk) (fun _ i k _ => (n - (intOf i).toNat) + (n2 - (intOf k).toNat))
  case atStart => exact ⟨0, 0, [], _, 0, _, Nat.zero_le _, Nat.zero_le _, rfl, rfl, rfl, rfl, r0, by simp, f0⟩
  case round =>
    clear r0 f0
    obtain ⟨i, k, o, oa, p, oc, hi, hk, rfl, rfl, rfl, hop, hrow, hmd, hf⟩ := hrel
    have hsz := hf.size
    have hpl : p ≤ 1000 := by
      have h1 := congrArg List.length hmd
      rw [List.length_append, mdiff_diff HO.out.2.2.2.2.1 HO.out.2.2.2.2.2] at h1
      have h2 := difK_len A B (uni A B)
      have h3 := uni_len B A
      have h4 := HO.out.2.2.1
      have h5 := HO.out.2.2.2.1
      unfold diff at h1
      omega
    by_cases hin : i < n
    · have hiq : ((i : Int) == (n : Int)) = false := by simp; omega
      obtain ⟨x, hx⟩ : ∃ x, A[i]? = some x := ⟨_, List.getElem?_eq_getElem (by have := HO.out.2.2.1; omega)⟩
      obtain ⟨b1, o1, rfl, hc1, hcs1⟩ := pair_cells' HO.out.1 hx HO.out.2.2.1
      have hdx := drop_at hx
      obtain ⟨x1, x2⟩ := x
      have ca : ∀ w', Fr wr w' → w'.cell? ⟨b1, o1 + i * 2, none⟩ = some (.string x1) := fun w' hw' => (hcs1 w' (hf.trans hw')).1
      have cb : ∀ w', Fr wr w' → w'.cell? ⟨b1, o1 + i * 2 + 1, none⟩ = some (.string x2) := fun w' hw' => (hcs1 w' (hf.trans hw')).2
      clear hcs1 hx
      by_cases hkn : k < n2
      · have hkq : ((k : Int) == (n2 : Int)) = false := by simp; omega
        obtain ⟨y, hy⟩ : ∃ y, B[k]? = some y := ⟨_, List.getElem?_eq_getElem (by have := HO.out.2.2.2.1; omega)⟩
        obtain ⟨b2, o2, rfl, hc2, hcs2⟩ := pair_cells' HO.out.2.1 hy HO.out.2.2.2.1
        have hdy := drop_at hy
        obtain ⟨y1, y2⟩ := y
        have HB := Go.Lib.hid hcs2
        dsimp only at HB
        have da : ∀ w', Fr wr w' → w'.cell? ⟨b2, o2 + k * 2, none⟩ = some (.string y1) := fun w' hw' => (hcs2 w' (hf.trans hw')).1
        have db : ∀ w', Fr wr w' → w'.cell? ⟨b2, o2 + k * 2 + 1, none⟩ = some (.string y2) := fun w' hw' => (hcs2 w' (hf.trans hw')).2
        clear hcs2 hy
        rw [hdx, hdy] at hmd
        obtain ⟨r, hr⟩ : ∃ r, lt x1 y1 = r := ⟨_, rfl⟩
        have hr1 : Op.bytesLess x1.toList y1.toList = r := hr
        cases r with
        | true =>
          rw [md_lt _ _ _ _ hr, ← hdy] at hmd
          have HH := Go.Lib.hid (And.intro hmd hop)
          clear hmd hop hr hdx hdy
          go_wp2_with fail
          refine wp_region_classW (Fr wr) (by kernel_rfl) (by kernel_rfl) (Fr.draw _) ?_
          repeat (first
            | (refine WQ.val rfl ?_
               apply Exists.intro
               refine ⟨?_, ?_⟩
               focus (intro w' hw'; go_simp; (try go_bits); with_reducible rfl)
               simp only [Act.put, List.setIfInBounds_toArray, List.set_cons_zero, List.set_cons_succ])
            | (refine WQ.pass rfl ?_
               simp only [Act.put, List.setIfInBounds_toArray, List.set_cons_zero, List.set_cons_succ]))
          refine WQ.nil ?_
          intro w5 f5
          have hf5 := hf.trans f5
          have hrow5 := owns_fr hrow f5
          have hsz5 := hf5.size
          have k0 := ca w5 f5
          clear ca cb da db hr1 hrow hf f5
          go_wp2_with (at_builtin; go_must (refine wpList_append_lies _ rfl _ _ 64 rfl S 69 i0 z0 3 40 Try.underlying64 hi0 hz0 hz2 hz3 hz1 (by decide) (.slice oa p oc) p (chL o) rfl (hrow5.alloc _) ⟨w5.heap.size, 0, none⟩ 1 1 [.string x1, .bool false, .string ⟨#[]⟩] rfl rfl (cells_three_new _ _ _ _ _) (by simp [Value.oneCell']) (by omega) (by unfold maxLen; omega) (by omega) (by simp; omega) _ rfl ?_); intro g' cap' w6 hown hgrow hat hlt6)
          first
          | (go_roundw
             case rel => exact ⟨i + 1, k, o ++ [(x1, (false, ⟨#[]⟩))], some ⟨g', 0, none⟩, p + 1, cap', by omega, by omega, by go_num, by go_num, rfl, by rw [List.length_append, HH.out.2]; rfl, by rw [chL_push]; exact hown, by rw [List.append_assoc]; exact HH.out.1, grown_fr3 hf5 hrow5 hgrow hS.symm⟩
             case measure => simp [intOf]; omega)
          | exact ⟨⟨i + 1, k, o ++ [(x1, (false, ⟨#[]⟩))], some ⟨g', 0, none⟩, p + 1, cap', by omega, by omega, by go_num, by go_num, rfl, by rw [List.length_append, HH.out.2]; rfl, by rw [chL_push]; exact hown, by rw [List.append_assoc]; exact HH.out.1, grown_fr3 hf5 hrow5 hgrow hS.symm⟩, by simp [intOf]; omega⟩
        | false =>
          obtain ⟨r2, hr2⟩ : ∃ r, lt y1 x1 = r := ⟨_, rfl⟩
          have hr3 : Op.bytesLess y1.toList x1.toList = r2 := hr2
          cases r2 with
          | true =>
            rw [md_gt _ _ _ _ hr hr2, ← hdx] at hmd
            have HH := Go.Lib.hid (And.intro hmd hop)
            clear hmd hop hr hr2 hdx hdy
            go_wp2_with fail
            refine wp_region_classW (Fr wr) (by kernel_rfl) (by kernel_rfl) (Fr.draw _) ?_
            repeat (first
              | (refine WQ.val rfl ?_
                 apply Exists.intro
                 refine ⟨?_, ?_⟩
                 focus (intro w' hw'; go_simp; (try go_bits); with_reducible rfl)
                 simp only [Act.put, List.setIfInBounds_toArray, List.set_cons_zero, List.set_cons_succ])
              | (refine WQ.pass rfl ?_
                 simp only [Act.put, List.setIfInBounds_toArray, List.set_cons_zero, List.set_cons_succ]))
            refine WQ.nil ?_
            intro w3 f3
            have ca3 : ∀ w', Fr w3 w' → w'.cell? ⟨b1, o1 + i * 2, none⟩ = some (.string x1) := fun w' hw' => ca w' (f3.trans hw')
            have da3 : ∀ w', Fr w3 w' → w'.cell? ⟨b2, o2 + k * 2, none⟩ = some (.string y1) := fun w' hw' => da w' (f3.trans hw')
            have db3 : ∀ w', Fr w3 w' → w'.cell? ⟨b2, o2 + k * 2 + 1, none⟩ = some (.string y2) := fun w' hw' => db w' (f3.trans hw')
            have hf3 := hf.trans f3
            have hrow3 := owns_fr hrow f3
            clear ca cb da db hrow hf f3
            go_wp2_with fail
            refine wp_region_classW (Fr w3) (by kernel_rfl) (by kernel_rfl) (Fr.draw _) ?_
            repeat (first
              | (refine WQ.val rfl ?_
                 apply Exists.intro
                 refine ⟨?_, ?_⟩
                 focus (intro w' hw'; go_simp; (try go_bits); with_reducible rfl)
                 simp only [Act.put, List.setIfInBounds_toArray, List.set_cons_zero, List.set_cons_succ])
              | (refine WQ.pass rfl ?_
                 simp only [Act.put, List.setIfInBounds_toArray, List.set_cons_zero, List.set_cons_succ]))
            refine WQ.nil ?_
            intro w4 f4
            have hf4 := hf3.trans f4
            have f6 : Fr w4 w4.drew := (Fr.refl w4).drewN 1
            have hf5 := hf4.trans f6
            have hrow5 := owns_fr (owns_fr hrow3 f4) f6
            have hsz5 := hf5.size
            have k0 := da3 w4 f4
            have k1 := db3 w4 f4
            have k2 := f6.cell' k0
            have k3 := f6.cell' k1
            clear ca3 da3 db3 hr1 hr3 hrow3 hf3 f4
            go_wp2_with fail
            refine wp_region_noPanic (wp_region_held (S := fun W => W.cell? ⟨b2, o2 + k * 2, none⟩ = some (.string y1) ∧ W.cell? ⟨b2, o2 + k * 2 + 1, none⟩ = some (.string y2)) (by kernel_rfl) ?_)
            change wpAnyH _ _ _ _ _ _ _ _ w4.drew
            generalize w4.drew = w5 at *
            have hS5 : (fun W : World => W.cell? ⟨b2, o2 + k * 2, none⟩ = some (.string y1) ∧ W.cell? ⟨b2, o2 + k * 2 + 1, none⟩ = some (.string y2)) w5 := ⟨k2, k3⟩
            clear k0 k1 k2 k3 f6
            simp only [List.size_toArray, List.length_cons, List.length_nil, Nat.reduceAdd, Array.replicate_succ, Array.replicate_zero, List.push_toArray, List.nil_append, List.cons_append]
            refine held_take 0 rfl (by kernel_rfl) (by kernel_rfl) (by kernel_rfl) (fun _ _ _ _ h => h) rfl hS5 ?_
            apply Exists.intro
            refine ⟨?_, ?_⟩
            focus (intro w' hw'; obtain ⟨e0, e1⟩ := hw'; go_simp; with_reducible rfl)
            simp only [Act.put, List.setIfInBounds_toArray, List.set_cons_zero, List.set_cons_succ]
            refine held_take 1 rfl (by kernel_rfl) (by kernel_rfl) (by kernel_rfl) (fun _ _ _ _ h => h) rfl hS5 ?_
            apply Exists.intro
            refine ⟨?_, ?_⟩
            focus (intro w' hw'; obtain ⟨e0, e1⟩ := hw'; go_simp; with_reducible rfl)
            simp only [Act.put, List.setIfInBounds_toArray, List.set_cons_zero, List.set_cons_succ]
            refine held_take 2 rfl (by kernel_rfl) (by kernel_rfl) (by kernel_rfl) (fun _ _ _ _ h => h) rfl hS5 ?_
            apply Exists.intro
            refine ⟨?_, ?_⟩
            focus (intro w' hw'; obtain ⟨e0, e1⟩ := hw'; go_simp; with_reducible rfl)
            simp only [Act.put, List.setIfInBounds_toArray, List.set_cons_zero, List.set_cons_succ]
            refine held_take 3 rfl (by kernel_rfl) (by kernel_rfl) (by kernel_rfl) (fun _ _ _ _ h => h) rfl hS5 ?_
            apply Exists.intro
            refine ⟨?_, ?_⟩
            focus (intro w' hw'; obtain ⟨e0, e1⟩ := hw'; go_simp; with_reducible rfl)
            simp only [Act.put, List.setIfInBounds_toArray, List.set_cons_zero, List.set_cons_succ]
            refine held_take 4 rfl (by kernel_rfl) (by kernel_rfl) (by kernel_rfl) (fun _ _ _ _ h => h) rfl hS5 ?_
            apply Exists.intro
            refine ⟨?_, ?_⟩
            focus (intro w' hw'; obtain ⟨e0, e1⟩ := hw'; go_simp; with_reducible rfl)
            simp only [Act.put, List.setIfInBounds_toArray, List.set_cons_zero, List.set_cons_succ]
            refine held_take 5 rfl (by kernel_rfl) (by kernel_rfl) (by kernel_rfl) (fun _ _ _ _ h => h) rfl hS5 ?_
            apply Exists.intro
            refine ⟨?_, ?_⟩
            focus (intro w' hw'; obtain ⟨e0, e1⟩ := hw'; go_simp; with_reducible rfl)
            simp only [Act.put, List.setIfInBounds_toArray, List.set_cons_zero, List.set_cons_succ]
            refine held_take 6 rfl (by kernel_rfl) (by kernel_rfl) (by kernel_rfl) (fun _ _ _ _ h => h) rfl hS5 ?_
            apply Exists.intro
            refine ⟨?_, ?_⟩
            focus (intro w' hw'; obtain ⟨e0, e1⟩ := hw'; go_simp; with_reducible rfl)
            simp only [Act.put, List.setIfInBounds_toArray, List.set_cons_zero, List.set_cons_succ]
            refine held_take 7 rfl (by kernel_rfl) (by kernel_rfl) (by kernel_rfl) (fun _ _ _ _ h => h) rfl hS5 ?_
            apply Exists.intro
            refine ⟨?_, ?_⟩
            focus (intro w' hw'; obtain ⟨e0, e1⟩ := hw'; go_simp; with_reducible rfl)
            simp only [Act.put, List.setIfInBounds_toArray, List.set_cons_zero, List.set_cons_succ]
            refine held_take 8 rfl (by kernel_rfl) (by kernel_rfl) (by kernel_rfl) (fun _ _ _ _ h => h) rfl hS5 ?_
            apply Exists.intro
            refine ⟨?_, ?_⟩
            focus (intro w' hw'; obtain ⟨e0, e1⟩ := hw'; go_simp; with_reducible rfl)
            simp only [Act.put, List.setIfInBounds_toArray, List.set_cons_zero, List.set_cons_succ]
            refine held_take 9 rfl (by kernel_rfl) (by kernel_rfl) (by kernel_rfl) (fun _ _ _ _ h => h) rfl hS5 ?_
            apply Exists.intro
            refine ⟨?_, ?_⟩
            focus (intro w' hw'; obtain ⟨e0, e1⟩ := hw'; go_simp; with_reducible rfl)
            simp only [Act.put, List.setIfInBounds_toArray, List.set_cons_zero, List.set_cons_succ]
            refine held_take 10 rfl (by kernel_rfl) (by kernel_rfl) (by kernel_rfl) (fun _ _ _ _ h => h) rfl hS5 ?_
            apply Exists.intro
            refine ⟨?_, ?_⟩
            focus (intro w' hw'; obtain ⟨e0, e1⟩ := hw'; go_simp; with_reducible rfl)
            simp only [Act.put, List.setIfInBounds_toArray, List.set_cons_zero, List.set_cons_succ]
            refine held_take 11 rfl (by kernel_rfl) (by kernel_rfl) (by kernel_rfl) (fun _ _ _ _ h => h) rfl hS5 ?_
            apply Exists.intro
            refine ⟨?_, ?_⟩
            focus (intro w' hw'; obtain ⟨e0, e1⟩ := hw'; go_simp; with_reducible rfl)
            simp only [Act.put, List.setIfInBounds_toArray, List.set_cons_zero, List.set_cons_succ]
            have f6 := (Fr.refl w5).alloc (.cells #[.string y1, .bool true, .string y2] 69)
            have hS6 : (fun W : World => W.cell? ⟨b2, o2 + k * 2, none⟩ = some (.string y1) ∧ W.cell? ⟨b2, o2 + k * 2 + 1, none⟩ = some (.string y2)) (w5.alloc (.cells #[.string y1, .bool true, .string y2] 69)) := ⟨f6.cell' hS5.1, f6.cell' hS5.2⟩
            refine held_step 12 rfl (by kernel_rfl) rfl (fun K hK => ?_)
            go_simp
            refine hK _ _ hS6 ?_
            clear hK K
            simp only [Act.put, List.setIfInBounds_toArray, List.set_cons_zero, List.set_cons_succ]
            refine held_step 13 rfl (by kernel_rfl) rfl (fun K hK => ?_)
            refine wp_append_lies _ (.tmp 79) (.tmp 91) 64 rfl S 69 i0 z0 3 40 Try.underlying64 hi0 hz0 hz2 hz3 hz1 (by decide) (.slice oa p oc) p (chL o) rfl (hrow5.alloc _) ⟨w5.heap.size, 0, none⟩ 1 1 [.string y1, .bool true, .string y2] rfl rfl (cells_three_new _ _ _ _ _) (by simp [Value.oneCell']) (by decide) (by unfold maxLen; omega) (by omega) (by simp; omega) _ rfl ?_
            intro g' cap' w6 hown hgrow hat hlt6
            have hS7 : (fun W : World => W.cell? ⟨b2, o2 + k * 2, none⟩ = some (.string y1) ∧ W.cell? ⟨b2, o2 + k * 2 + 1, none⟩ = some (.string y2)) w6 := HB.out w6 (grown_fr3 hf5 hrow5 hgrow hS.symm)
            refine hK _ _ hS7 ?_
            clear hK K
            simp only [Act.put, List.setIfInBounds_toArray, List.set_cons_zero, List.set_cons_succ]
            refine held_take 14 rfl (by kernel_rfl) (by kernel_rfl) (by kernel_rfl) (fun _ _ _ _ h => h) rfl hS7 ?_
            apply Exists.intro
            refine ⟨?_, ?_⟩
            focus (intro w' hw'; obtain ⟨e0, e1⟩ := hw'; go_simp; with_reducible rfl)
            simp only [Act.put, List.setIfInBounds_toArray, List.set_cons_zero, List.set_cons_succ]
            refine wpAnyH_done (by kernel_rfl) (NoPanic.normal ?_) _
            clear hS5 hS6 hS7 f6
            go_wp2_with fail
            first
            | (go_roundw
               case rel => exact ⟨i, k + 1, o ++ [(y1, (true, y2))], some ⟨g', 0, none⟩, p + 1, cap', by omega, by omega, by go_num, by go_num, rfl, by rw [List.length_append, HH.out.2]; rfl, by rw [chL_push]; exact hown, by rw [List.append_assoc]; exact HH.out.1, grown_fr3 hf5 hrow5 hgrow hS.symm⟩
               case measure => simp [intOf]; omega)
            | exact ⟨⟨i, k + 1, o ++ [(y1, (true, y2))], some ⟨g', 0, none⟩, p + 1, cap', by omega, by omega, by go_num, by go_num, rfl, by rw [List.length_append, HH.out.2]; rfl, by rw [chL_push]; exact hown, by rw [List.append_assoc]; exact HH.out.1, grown_fr3 hf5 hrow5 hgrow hS.symm⟩, by simp [intOf]; omega⟩
          | false =>
            by_cases hv : x2.toList = y2.toList
            · rw [md_eq _ _ _ _ hr hr2 hv] at hmd
              have hve : (x2.toList == y2.toList) = true := by simp [hv]
              have HH := Go.Lib.hid (And.intro hmd hop)
              clear hmd hop hr hr2 hdx hdy hv
              go_wp2_with fail
              refine wp_region_classW (Fr wr) (by kernel_rfl) (by kernel_rfl) (Fr.draw _) ?_
              repeat (first
                | (refine WQ.val rfl ?_
                   apply Exists.intro
                   refine ⟨?_, ?_⟩
                   focus (intro w' hw'; go_simp; (try go_bits); with_reducible rfl)
                   simp only [Act.put, List.setIfInBounds_toArray, List.set_cons_zero, List.set_cons_succ])
                | (refine WQ.pass rfl ?_
                   simp only [Act.put, List.setIfInBounds_toArray, List.set_cons_zero, List.set_cons_succ]))
              refine WQ.nil ?_
              intro w3 f3
              have ca3 : ∀ w', Fr w3 w' → w'.cell? ⟨b1, o1 + i * 2, none⟩ = some (.string x1) := fun w' hw' => ca w' (f3.trans hw')
              have cb3 : ∀ w', Fr w3 w' → w'.cell? ⟨b1, o1 + i * 2 + 1, none⟩ = some (.string x2) := fun w' hw' => cb w' (f3.trans hw')
              have da3 : ∀ w', Fr w3 w' → w'.cell? ⟨b2, o2 + k * 2, none⟩ = some (.string y1) := fun w' hw' => da w' (f3.trans hw')
              have db3 : ∀ w', Fr w3 w' → w'.cell? ⟨b2, o2 + k * 2 + 1, none⟩ = some (.string y2) := fun w' hw' => db w' (f3.trans hw')
              have hf3 := hf.trans f3
              have hrow3 := owns_fr hrow f3
              clear ca cb da db hrow hf f3
              go_wp2_with fail
              refine wp_region_classW (Fr w3) (by kernel_rfl) (by kernel_rfl) (Fr.draw _) ?_
              repeat (first
                | (refine WQ.val rfl ?_
                   apply Exists.intro
                   refine ⟨?_, ?_⟩
                   focus (intro w' hw'; go_simp; (try go_bits); with_reducible rfl)
                   simp only [Act.put, List.setIfInBounds_toArray, List.set_cons_zero, List.set_cons_succ])
                | (refine WQ.pass rfl ?_
                   simp only [Act.put, List.setIfInBounds_toArray, List.set_cons_zero, List.set_cons_succ]))
              refine WQ.nil ?_
              intro w4 f4
              have cb4 : ∀ w', Fr w4 w' → w'.cell? ⟨b1, o1 + i * 2 + 1, none⟩ = some (.string x2) := fun w' hw' => cb3 w' (f4.trans hw')
              have db4 : ∀ w', Fr w4 w' → w'.cell? ⟨b2, o2 + k * 2 + 1, none⟩ = some (.string y2) := fun w' hw' => db3 w' (f4.trans hw')
              have hf4 := hf3.trans f4
              have hrow4 := owns_fr hrow3 f4
              clear ca3 cb3 da3 db3 hr1 hr3 hrow3 hf3 f4
              go_wp2_with fail
              refine wp_region_classW (Fr w4) (by kernel_rfl) (by kernel_rfl) (Fr.draw _) ?_
              repeat (first
                | (refine WQ.val rfl ?_
                   apply Exists.intro
                   refine ⟨?_, ?_⟩
                   focus (intro w' hw'; go_simp; (try go_bits); with_reducible rfl)
                   simp only [Act.put, List.setIfInBounds_toArray, List.set_cons_zero, List.set_cons_succ])
                | (refine WQ.pass rfl ?_
                   simp only [Act.put, List.setIfInBounds_toArray, List.set_cons_zero, List.set_cons_succ]))
              refine WQ.nil ?_
              intro w5 f5
              have hf5 := hf4.trans f5
              have hrow5 := owns_fr hrow4 f5
              clear cb4 db4 hrow4 hf4 f5
              go_wp2_with fail
              go_roundw
              case rel => exact ⟨i + 1, k + 1, o, oa, p, oc, by omega, by omega, by go_num, by go_num, rfl, HH.out.2, hrow5, HH.out.1, hf5⟩
              case measure => simp [intOf]; omega
            · rw [md_ne _ _ _ _ hr hr2 hv] at hmd
              have hve : (x2.toList == y2.toList) = false := by simp [hv]
              have HH := Go.Lib.hid (And.intro hmd hop)
              clear hmd hop hr hr2 hdx hdy hv
              go_wp2_with fail
              refine wp_region_classW (Fr wr) (by kernel_rfl) (by kernel_rfl) (Fr.draw _) ?_
              repeat (first
                | (refine WQ.val rfl ?_
                   apply Exists.intro
                   refine ⟨?_, ?_⟩
                   focus (intro w' hw'; go_simp; (try go_bits); with_reducible rfl)
                   simp only [Act.put, List.setIfInBounds_toArray, List.set_cons_zero, List.set_cons_succ])
                | (refine WQ.pass rfl ?_
                   simp only [Act.put, List.setIfInBounds_toArray, List.set_cons_zero, List.set_cons_succ]))
              refine WQ.nil ?_
              intro w3 f3
              have ca3 : ∀ w', Fr w3 w' → w'.cell? ⟨b1, o1 + i * 2, none⟩ = some (.string x1) := fun w' hw' => ca w' (f3.trans hw')
              have cb3 : ∀ w', Fr w3 w' → w'.cell? ⟨b1, o1 + i * 2 + 1, none⟩ = some (.string x2) := fun w' hw' => cb w' (f3.trans hw')
              have da3 : ∀ w', Fr w3 w' → w'.cell? ⟨b2, o2 + k * 2, none⟩ = some (.string y1) := fun w' hw' => da w' (f3.trans hw')
              have db3 : ∀ w', Fr w3 w' → w'.cell? ⟨b2, o2 + k * 2 + 1, none⟩ = some (.string y2) := fun w' hw' => db w' (f3.trans hw')
              have hf3 := hf.trans f3
              have hrow3 := owns_fr hrow f3
              clear ca cb da db hrow hf f3
              go_wp2_with fail
              refine wp_region_classW (Fr w3) (by kernel_rfl) (by kernel_rfl) (Fr.draw _) ?_
              repeat (first
                | (refine WQ.val rfl ?_
                   apply Exists.intro
                   refine ⟨?_, ?_⟩
                   focus (intro w' hw'; go_simp; (try go_bits); with_reducible rfl)
                   simp only [Act.put, List.setIfInBounds_toArray, List.set_cons_zero, List.set_cons_succ])
                | (refine WQ.pass rfl ?_
                   simp only [Act.put, List.setIfInBounds_toArray, List.set_cons_zero, List.set_cons_succ]))
              refine WQ.nil ?_
              intro w4 f4
              have cb4 : ∀ w', Fr w4 w' → w'.cell? ⟨b1, o1 + i * 2 + 1, none⟩ = some (.string x2) := fun w' hw' => cb3 w' (f4.trans hw')
              have da4 : ∀ w', Fr w4 w' → w'.cell? ⟨b2, o2 + k * 2, none⟩ = some (.string y1) := fun w' hw' => da3 w' (f4.trans hw')
              have db4 : ∀ w', Fr w4 w' → w'.cell? ⟨b2, o2 + k * 2 + 1, none⟩ = some (.string y2) := fun w' hw' => db3 w' (f4.trans hw')
              have hf4 := hf3.trans f4
              have hrow4 := owns_fr hrow3 f4
              clear ca3 cb3 da3 db3 hr1 hr3 hrow3 hf3 f4
              go_wp2_with fail
              refine wp_region_classW (Fr w4) (by kernel_rfl) (by kernel_rfl) (Fr.draw _) ?_
              repeat (first
                | (refine WQ.val rfl ?_
                   apply Exists.intro
                   refine ⟨?_, ?_⟩
                   focus (intro w' hw'; go_simp; (try go_bits); with_reducible rfl)
                   simp only [Act.put, List.setIfInBounds_toArray, List.set_cons_zero, List.set_cons_succ])
                | (refine WQ.pass rfl ?_
                   simp only [Act.put, List.setIfInBounds_toArray, List.set_cons_zero, List.set_cons_succ]))
              refine WQ.nil ?_
              intro w7 f7
              have hf7 := hf4.trans f7
              have f6 : Fr w7 w7.drew := (Fr.refl w7).drewN 1
              have hf5 := hf7.trans f6
              have hrow5 := owns_fr (owns_fr hrow4 f7) f6
              have hsz5 := hf5.size
              have k0 := da4 w7 f7
              have k1 := db4 w7 f7
              have k2 := f6.cell' k0
              have k3 := f6.cell' k1
              clear cb4 da4 db4 hrow4 hf4 f7
              go_wp2_with fail
              refine wp_region_noPanic (wp_region_held (S := fun W => W.cell? ⟨b2, o2 + k * 2, none⟩ = some (.string y1) ∧ W.cell? ⟨b2, o2 + k * 2 + 1, none⟩ = some (.string y2)) (by kernel_rfl) ?_)
              change wpAnyH _ _ _ _ _ _ _ _ w7.drew
              generalize w7.drew = w5 at *
              have hS5 : (fun W : World => W.cell? ⟨b2, o2 + k * 2, none⟩ = some (.string y1) ∧ W.cell? ⟨b2, o2 + k * 2 + 1, none⟩ = some (.string y2)) w5 := ⟨k2, k3⟩
              clear k0 k1 k2 k3 f6
              simp only [List.size_toArray, List.length_cons, List.length_nil, Nat.reduceAdd, Array.replicate_succ, Array.replicate_zero, List.push_toArray, List.nil_append, List.cons_append]
              refine held_take 0 rfl (by kernel_rfl) (by kernel_rfl) (by kernel_rfl) (fun _ _ _ _ h => h) rfl hS5 ?_
              apply Exists.intro
              refine ⟨?_, ?_⟩
              focus (intro w' hw'; obtain ⟨e0, e1⟩ := hw'; go_simp; with_reducible rfl)
              simp only [Act.put, List.setIfInBounds_toArray, List.set_cons_zero, List.set_cons_succ]
              refine held_take 1 rfl (by kernel_rfl) (by kernel_rfl) (by kernel_rfl) (fun _ _ _ _ h => h) rfl hS5 ?_
              apply Exists.intro
              refine ⟨?_, ?_⟩
              focus (intro w' hw'; obtain ⟨e0, e1⟩ := hw'; go_simp; with_reducible rfl)
              simp only [Act.put, List.setIfInBounds_toArray, List.set_cons_zero, List.set_cons_succ]
              refine held_take 2 rfl (by kernel_rfl) (by kernel_rfl) (by kernel_rfl) (fun _ _ _ _ h => h) rfl hS5 ?_
              apply Exists.intro
              refine ⟨?_, ?_⟩
              focus (intro w' hw'; obtain ⟨e0, e1⟩ := hw'; go_simp; with_reducible rfl)
              simp only [Act.put, List.setIfInBounds_toArray, List.set_cons_zero, List.set_cons_succ]
              refine held_take 3 rfl (by kernel_rfl) (by kernel_rfl) (by kernel_rfl) (fun _ _ _ _ h => h) rfl hS5 ?_
              apply Exists.intro
              refine ⟨?_, ?_⟩
              focus (intro w' hw'; obtain ⟨e0, e1⟩ := hw'; go_simp; with_reducible rfl)
              simp only [Act.put, List.setIfInBounds_toArray, List.set_cons_zero, List.set_cons_succ]
              refine held_take 4 rfl (by kernel_rfl) (by kernel_rfl) (by kernel_rfl) (fun _ _ _ _ h => h) rfl hS5 ?_
              apply Exists.intro
              refine ⟨?_, ?_⟩
              focus (intro w' hw'; obtain ⟨e0, e1⟩ := hw'; go_simp; with_reducible rfl)
              simp only [Act.put, List.setIfInBounds_toArray, List.set_cons_zero, List.set_cons_succ]
              refine held_take 5 rfl (by kernel_rfl) (by kernel_rfl) (by kernel_rfl) (fun _ _ _ _ h => h) rfl hS5 ?_
              apply Exists.intro
              refine ⟨?_, ?_⟩
              focus (intro w' hw'; obtain ⟨e0, e1⟩ := hw'; go_simp; with_reducible rfl)
              simp only [Act.put, List.setIfInBounds_toArray, List.set_cons_zero, List.set_cons_succ]
              refine held_take 6 rfl (by kernel_rfl) (by kernel_rfl) (by kernel_rfl) (fun _ _ _ _ h => h) rfl hS5 ?_
              apply Exists.intro
              refine ⟨?_, ?_⟩
              focus (intro w' hw'; obtain ⟨e0, e1⟩ := hw'; go_simp; with_reducible rfl)
              simp only [Act.put, List.setIfInBounds_toArray, List.set_cons_zero, List.set_cons_succ]
              refine held_take 7 rfl (by kernel_rfl) (by kernel_rfl) (by kernel_rfl) (fun _ _ _ _ h => h) rfl hS5 ?_
              apply Exists.intro
              refine ⟨?_, ?_⟩
              focus (intro w' hw'; obtain ⟨e0, e1⟩ := hw'; go_simp; with_reducible rfl)
              simp only [Act.put, List.setIfInBounds_toArray, List.set_cons_zero, List.set_cons_succ]
              refine held_take 8 rfl (by kernel_rfl) (by kernel_rfl) (by kernel_rfl) (fun _ _ _ _ h => h) rfl hS5 ?_
              apply Exists.intro
              refine ⟨?_, ?_⟩
              focus (intro w' hw'; obtain ⟨e0, e1⟩ := hw'; go_simp; with_reducible rfl)
              simp only [Act.put, List.setIfInBounds_toArray, List.set_cons_zero, List.set_cons_succ]
              refine held_take 9 rfl (by kernel_rfl) (by kernel_rfl) (by kernel_rfl) (fun _ _ _ _ h => h) rfl hS5 ?_
              apply Exists.intro
              refine ⟨?_, ?_⟩
              focus (intro w' hw'; obtain ⟨e0, e1⟩ := hw'; go_simp; with_reducible rfl)
              simp only [Act.put, List.setIfInBounds_toArray, List.set_cons_zero, List.set_cons_succ]
              refine held_take 10 rfl (by kernel_rfl) (by kernel_rfl) (by kernel_rfl) (fun _ _ _ _ h => h) rfl hS5 ?_
              apply Exists.intro
              refine ⟨?_, ?_⟩
              focus (intro w' hw'; obtain ⟨e0, e1⟩ := hw'; go_simp; with_reducible rfl)
              simp only [Act.put, List.setIfInBounds_toArray, List.set_cons_zero, List.set_cons_succ]
              refine held_take 11 rfl (by kernel_rfl) (by kernel_rfl) (by kernel_rfl) (fun _ _ _ _ h => h) rfl hS5 ?_
              apply Exists.intro
              refine ⟨?_, ?_⟩
              focus (intro w' hw'; obtain ⟨e0, e1⟩ := hw'; go_simp; with_reducible rfl)
              simp only [Act.put, List.setIfInBounds_toArray, List.set_cons_zero, List.set_cons_succ]
              have f6 := (Fr.refl w5).alloc (.cells #[.string y1, .bool true, .string y2] 69)
              have hS6 : (fun W : World => W.cell? ⟨b2, o2 + k * 2, none⟩ = some (.string y1) ∧ W.cell? ⟨b2, o2 + k * 2 + 1, none⟩ = some (.string y2)) (w5.alloc (.cells #[.string y1, .bool true, .string y2] 69)) := ⟨f6.cell' hS5.1, f6.cell' hS5.2⟩
              refine held_step 12 rfl (by kernel_rfl) rfl (fun K hK => ?_)
              go_simp
              refine hK _ _ hS6 ?_
              clear hK K
              simp only [Act.put, List.setIfInBounds_toArray, List.set_cons_zero, List.set_cons_succ]
              refine held_step 13 rfl (by kernel_rfl) rfl (fun K hK => ?_)
              refine wp_append_lies _ (.tmp 106) (.tmp 118) 64 rfl S 69 i0 z0 3 40 Try.underlying64 hi0 hz0 hz2 hz3 hz1 (by decide) (.slice oa p oc) p (chL o) rfl (hrow5.alloc _) ⟨w5.heap.size, 0, none⟩ 1 1 [.string y1, .bool true, .string y2] rfl rfl (cells_three_new _ _ _ _ _) (by simp [Value.oneCell']) (by decide) (by unfold maxLen; omega) (by omega) (by simp; omega) _ rfl ?_
              intro g' cap' w6 hown hgrow hat hlt6
              have hS7 : (fun W : World => W.cell? ⟨b2, o2 + k * 2, none⟩ = some (.string y1) ∧ W.cell? ⟨b2, o2 + k * 2 + 1, none⟩ = some (.string y2)) w6 := HB.out w6 (grown_fr3 hf5 hrow5 hgrow hS.symm)
              refine hK _ _ hS7 ?_
              clear hK K
              simp only [Act.put, List.setIfInBounds_toArray, List.set_cons_zero, List.set_cons_succ]
              refine held_take 14 rfl (by kernel_rfl) (by kernel_rfl) (by kernel_rfl) (fun _ _ _ _ h => h) rfl hS7 ?_
              apply Exists.intro
              refine ⟨?_, ?_⟩
              focus (intro w' hw'; obtain ⟨e0, e1⟩ := hw'; go_simp; with_reducible rfl)
              simp only [Act.put, List.setIfInBounds_toArray, List.set_cons_zero, List.set_cons_succ]
              refine wpAnyH_done (by kernel_rfl) (NoPanic.normal ?_) _
              clear hS5 hS6 hS7 f6
              go_wp2_with fail
              first
              | (go_roundw
                 case rel => exact ⟨i + 1, k + 1, o ++ [(y1, (true, y2))], some ⟨g', 0, none⟩, p + 1, cap', by omega, by omega, by go_num, by go_num, rfl, by rw [List.length_append, HH.out.2]; rfl, by rw [chL_push]; exact hown, by rw [List.append_assoc]; exact HH.out.1, grown_fr3 hf5 hrow5 hgrow hS.symm⟩
                 case measure => simp [intOf]; omega)
              | exact ⟨⟨i + 1, k + 1, o ++ [(y1, (true, y2))], some ⟨g', 0, none⟩, p + 1, cap', by omega, by omega, by go_num, by go_num, rfl, by rw [List.length_append, HH.out.2]; rfl, by rw [chL_push]; exact hown, by rw [List.append_assoc]; exact HH.out.1, grown_fr3 hf5 hrow5 hgrow hS.symm⟩, by simp [intOf]; omega⟩
      · obtain rfl : n2 = k := by omega
        have hdn := drop_end HO.out.2.2.2.1
        rw [hdx, hdn, md_cn, ← hdn] at hmd
        have HH := Go.Lib.hid (And.intro hmd hop)
        clear hmd hop hdx hdn
        go_wp2_with fail
        refine wp_region_classW (Fr wr) (by kernel_rfl) (by kernel_rfl) (Fr.draw _) ?_
        repeat (first
          | (refine WQ.val rfl ?_
             apply Exists.intro
             refine ⟨?_, ?_⟩
             focus (intro w' hw'; go_simp; (try go_bits); with_reducible rfl)
             simp only [Act.put, List.setIfInBounds_toArray, List.set_cons_zero, List.set_cons_succ])
          | (refine WQ.pass rfl ?_
             simp only [Act.put, List.setIfInBounds_toArray, List.set_cons_zero, List.set_cons_succ]))
        refine WQ.nil ?_
        intro w5 f5
        have hf5 := hf.trans f5
        have hrow5 := owns_fr hrow f5
        have hsz5 := hf5.size
        have k0 := ca w5 f5
        clear ca cb hrow hf f5
        go_wp2_with (at_builtin; go_must (refine wpList_append_lies _ rfl _ _ 64 rfl S 69 i0 z0 3 40 Try.underlying64 hi0 hz0 hz2 hz3 hz1 (by decide) (.slice oa p oc) p (chL o) rfl (hrow5.alloc _) ⟨w5.heap.size, 0, none⟩ 1 1 [.string x1, .bool false, .string ⟨#[]⟩] rfl rfl (cells_three_new _ _ _ _ _) (by simp [Value.oneCell']) (by omega) (by unfold maxLen; omega) (by omega) (by simp; omega) _ rfl ?_); intro g' cap' w6 hown hgrow hat hlt6)
        first
        | (go_roundw
           case rel => exact ⟨i + 1, n2, o ++ [(x1, (false, ⟨#[]⟩))], some ⟨g', 0, none⟩, p + 1, cap', by omega, by omega, by go_num, by go_num, rfl, by rw [List.length_append, HH.out.2]; rfl, by rw [chL_push]; exact hown, by rw [List.append_assoc]; exact HH.out.1, grown_fr3 hf5 hrow5 hgrow hS.symm⟩
           case measure => simp [intOf]; omega)
        | exact ⟨⟨i + 1, n2, o ++ [(x1, (false, ⟨#[]⟩))], some ⟨g', 0, none⟩, p + 1, cap', by omega, by omega, by go_num, by go_num, rfl, by rw [List.length_append, HH.out.2]; rfl, by rw [chL_push]; exact hown, by rw [List.append_assoc]; exact HH.out.1, grown_fr3 hf5 hrow5 hgrow hS.symm⟩, by simp [intOf]; omega⟩
    · obtain rfl : n = i := by omega
      have hdn := drop_end HO.out.2.2.1
      by_cases hkn : k < n2
      · have hkq : ((k : Int) == (n2 : Int)) = false := by simp; omega
        obtain ⟨y, hy⟩ : ∃ y, B[k]? = some y := ⟨_, List.getElem?_eq_getElem (by have := HO.out.2.2.2.1; omega)⟩
        obtain ⟨b2, o2, rfl, hc2, hcs2⟩ := pair_cells' HO.out.2.1 hy HO.out.2.2.2.1
        have hdy := drop_at hy
        obtain ⟨y1, y2⟩ := y
        have HB := Go.Lib.hid hcs2
        dsimp only at HB
        have da : ∀ w', Fr wr w' → w'.cell? ⟨b2, o2 + k * 2, none⟩ = some (.string y1) := fun w' hw' => (hcs2 w' (hf.trans hw')).1
        have db : ∀ w', Fr wr w' → w'.cell? ⟨b2, o2 + k * 2 + 1, none⟩ = some (.string y2) := fun w' hw' => (hcs2 w' (hf.trans hw')).2
        rw [hdn, hdy, md_nc, ← hdn] at hmd
        have HH := Go.Lib.hid (And.intro hmd hop)
        clear hmd hop hdn hdy hcs2 hy
        go_wp2_with fail
        refine wp_region_classW (Fr wr) (by kernel_rfl) (by kernel_rfl) (Fr.draw _) ?_
        repeat (first
          | (refine WQ.val rfl ?_
             apply Exists.intro
             refine ⟨?_, ?_⟩
             focus (intro w' hw'; go_simp; (try go_bits); with_reducible rfl)
             simp only [Act.put, List.setIfInBounds_toArray, List.set_cons_zero, List.set_cons_succ])
          | (refine WQ.pass rfl ?_
             simp only [Act.put, List.setIfInBounds_toArray, List.set_cons_zero, List.set_cons_succ]))
        refine WQ.nil ?_
        intro w3 f3
        have da3 : ∀ w', Fr w3 w' → w'.cell? ⟨b2, o2 + k * 2, none⟩ = some (.string y1) := fun w' hw' => da w' (f3.trans hw')
        have db3 : ∀ w', Fr w3 w' → w'.cell? ⟨b2, o2 + k * 2 + 1, none⟩ = some (.string y2) := fun w' hw' => db w' (f3.trans hw')
        have hf3 := hf.trans f3
        have hrow3 := owns_fr hrow f3
        clear da db hrow hf f3
        go_wp2_with fail
        refine wp_region_classW (Fr w3) (by kernel_rfl) (by kernel_rfl) (Fr.draw _) ?_
        repeat (first
          | (refine WQ.val rfl ?_
             apply Exists.intro
             refine ⟨?_, ?_⟩
             focus (intro w' hw'; go_simp; (try go_bits); with_reducible rfl)
             simp only [Act.put, List.setIfInBounds_toArray, List.set_cons_zero, List.set_cons_succ])
          | (refine WQ.pass rfl ?_
             simp only [Act.put, List.setIfInBounds_toArray, List.set_cons_zero, List.set_cons_succ]))
        refine WQ.nil ?_
        intro w4 f4
        have hf4 := hf3.trans f4
        have f6 : Fr w4 w4.drew := (Fr.refl w4).drewN 1
        have hf5 := hf4.trans f6
        have hrow5 := owns_fr (owns_fr hrow3 f4) f6
        have hsz5 := hf5.size
        have k0 := da3 w4 f4
        have k1 := db3 w4 f4
        have k2 := f6.cell' k0
        have k3 := f6.cell' k1
        clear da3 db3 hrow3 hf3 f4
        go_wp2_with fail
        refine wp_region_noPanic (wp_region_held (S := fun W => W.cell? ⟨b2, o2 + k * 2, none⟩ = some (.string y1) ∧ W.cell? ⟨b2, o2 + k * 2 + 1, none⟩ = some (.string y2)) (by kernel_rfl) ?_)
        change wpAnyH _ _ _ _ _ _ _ _ w4.drew
        generalize w4.drew = w5 at *
        have hS5 : (fun W : World => W.cell? ⟨b2, o2 + k * 2, none⟩ = some (.string y1) ∧ W.cell? ⟨b2, o2 + k * 2 + 1, none⟩ = some (.string y2)) w5 := ⟨k2, k3⟩
        clear k0 k1 k2 k3 f6
        simp only [List.size_toArray, List.length_cons, List.length_nil, Nat.reduceAdd, Array.replicate_succ, Array.replicate_zero, List.push_toArray, List.nil_append, List.cons_append]
        refine held_take 0 rfl (by kernel_rfl) (by kernel_rfl) (by kernel_rfl) (fun _ _ _ _ h => h) rfl hS5 ?_
        apply Exists.intro
        refine ⟨?_, ?_⟩
        focus (intro w' hw'; obtain ⟨e0, e1⟩ := hw'; go_simp; with_reducible rfl)
        simp only [Act.put, List.setIfInBounds_toArray, List.set_cons_zero, List.set_cons_succ]
        refine held_take 1 rfl (by kernel_rfl) (by kernel_rfl) (by kernel_rfl) (fun _ _ _ _ h => h) rfl hS5 ?_
        apply Exists.intro
        refine ⟨?_, ?_⟩
        focus (intro w' hw'; obtain ⟨e0, e1⟩ := hw'; go_simp; with_reducible rfl)
        simp only [Act.put, List.setIfInBounds_toArray, List.set_cons_zero, List.set_cons_succ]
        refine held_take 2 rfl (by kernel_rfl) (by kernel_rfl) (by kernel_rfl) (fun _ _ _ _ h => h) rfl hS5 ?_
        apply Exists.intro
        refine ⟨?_, ?_⟩
        focus (intro w' hw'; obtain ⟨e0, e1⟩ := hw'; go_simp; with_reducible rfl)
        simp only [Act.put, List.setIfInBounds_toArray, List.set_cons_zero, List.set_cons_succ]
        refine held_take 3 rfl (by kernel_rfl) (by kernel_rfl) (by kernel_rfl) (fun _ _ _ _ h => h) rfl hS5 ?_
        apply Exists.intro
        refine ⟨?_, ?_⟩
        focus (intro w' hw'; obtain ⟨e0, e1⟩ := hw'; go_simp; with_reducible rfl)
        simp only [Act.put, List.setIfInBounds_toArray, List.set_cons_zero, List.set_cons_succ]
        refine held_take 4 rfl (by kernel_rfl) (by kernel_rfl) (by kernel_rfl) (fun _ _ _ _ h => h) rfl hS5 ?_
        apply Exists.intro
        refine ⟨?_, ?_⟩
        focus (intro w' hw'; obtain ⟨e0, e1⟩ := hw'; go_simp; with_reducible rfl)
        simp only [Act.put, List.setIfInBounds_toArray, List.set_cons_zero, List.set_cons_succ]
        refine held_take 5 rfl (by kernel_rfl) (by kernel_rfl) (by kernel_rfl) (fun _ _ _ _ h => h) rfl hS5 ?_
        apply Exists.intro
        refine ⟨?_, ?_⟩
        focus (intro w' hw'; obtain ⟨e0, e1⟩ := hw'; go_simp; with_reducible rfl)
        simp only [Act.put, List.setIfInBounds_toArray, List.set_cons_zero, List.set_cons_succ]
        refine held_take 6 rfl (by kernel_rfl) (by kernel_rfl) (by kernel_rfl) (fun _ _ _ _ h => h) rfl hS5 ?_
        apply Exists.intro
        refine ⟨?_, ?_⟩
        focus (intro w' hw'; obtain ⟨e0, e1⟩ := hw'; go_simp; with_reducible rfl)
        simp only [Act.put, List.setIfInBounds_toArray, List.set_cons_zero, List.set_cons_succ]
        refine held_take 7 rfl (by kernel_rfl) (by kernel_rfl) (by kernel_rfl) (fun _ _ _ _ h => h) rfl hS5 ?_
        apply Exists.intro
        refine ⟨?_, ?_⟩
        focus (intro w' hw'; obtain ⟨e0, e1⟩ := hw'; go_simp; with_reducible rfl)
        simp only [Act.put, List.setIfInBounds_toArray, List.set_cons_zero, List.set_cons_succ]
        refine held_take 8 rfl (by kernel_rfl) (by kernel_rfl) (by kernel_rfl) (fun _ _ _ _ h => h) rfl hS5 ?_
        apply Exists.intro
        refine ⟨?_, ?_⟩
        focus (intro w' hw'; obtain ⟨e0, e1⟩ := hw'; go_simp; with_reducible rfl)
        simp only [Act.put, List.setIfInBounds_toArray, List.set_cons_zero, List.set_cons_succ]
        refine held_take 9 rfl (by kernel_rfl) (by kernel_rfl) (by kernel_rfl) (fun _ _ _ _ h => h) rfl hS5 ?_
        apply Exists.intro
        refine ⟨?_, ?_⟩
        focus (intro w' hw'; obtain ⟨e0, e1⟩ := hw'; go_simp; with_reducible rfl)
        simp only [Act.put, List.setIfInBounds_toArray, List.set_cons_zero, List.set_cons_succ]
        refine held_take 10 rfl (by kernel_rfl) (by kernel_rfl) (by kernel_rfl) (fun _ _ _ _ h => h) rfl hS5 ?_
        apply Exists.intro
        refine ⟨?_, ?_⟩
        focus (intro w' hw'; obtain ⟨e0, e1⟩ := hw'; go_simp; with_reducible rfl)
        simp only [Act.put, List.setIfInBounds_toArray, List.set_cons_zero, List.set_cons_succ]
        refine held_take 11 rfl (by kernel_rfl) (by kernel_rfl) (by kernel_rfl) (fun _ _ _ _ h => h) rfl hS5 ?_
        apply Exists.intro
        refine ⟨?_, ?_⟩
        focus (intro w' hw'; obtain ⟨e0, e1⟩ := hw'; go_simp; with_reducible rfl)
        simp only [Act.put, List.setIfInBounds_toArray, List.set_cons_zero, List.set_cons_succ]
        have f6 := (Fr.refl w5).alloc (.cells #[.string y1, .bool true, .string y2] 69)
        have hS6 : (fun W : World => W.cell? ⟨b2, o2 + k * 2, none⟩ = some (.string y1) ∧ W.cell? ⟨b2, o2 + k * 2 + 1, none⟩ = some (.string y2)) (w5.alloc (.cells #[.string y1, .bool true, .string y2] 69)) := ⟨f6.cell' hS5.1, f6.cell' hS5.2⟩
        refine held_step 12 rfl (by kernel_rfl) rfl (fun K hK => ?_)
        go_simp
        refine hK _ _ hS6 ?_
        clear hK K
        simp only [Act.put, List.setIfInBounds_toArray, List.set_cons_zero, List.set_cons_succ]
        refine held_step 13 rfl (by kernel_rfl) rfl (fun K hK => ?_)
        refine wp_append_lies _ (.tmp 79) (.tmp 91) 64 rfl S 69 i0 z0 3 40 Try.underlying64 hi0 hz0 hz2 hz3 hz1 (by decide) (.slice oa p oc) p (chL o) rfl (hrow5.alloc _) ⟨w5.heap.size, 0, none⟩ 1 1 [.string y1, .bool true, .string y2] rfl rfl (cells_three_new _ _ _ _ _) (by simp [Value.oneCell']) (by decide) (by unfold maxLen; omega) (by omega) (by simp; omega) _ rfl ?_
        intro g' cap' w6 hown hgrow hat hlt6
        have hS7 : (fun W : World => W.cell? ⟨b2, o2 + k * 2, none⟩ = some (.string y1) ∧ W.cell? ⟨b2, o2 + k * 2 + 1, none⟩ = some (.string y2)) w6 := HB.out w6 (grown_fr3 hf5 hrow5 hgrow hS.symm)
        refine hK _ _ hS7 ?_
        clear hK K
        simp only [Act.put, List.setIfInBounds_toArray, List.set_cons_zero, List.set_cons_succ]
        refine held_take 14 rfl (by kernel_rfl) (by kernel_rfl) (by kernel_rfl) (fun _ _ _ _ h => h) rfl hS7 ?_
        apply Exists.intro
        refine ⟨?_, ?_⟩
        focus (intro w' hw'; obtain ⟨e0, e1⟩ := hw'; go_simp; with_reducible rfl)
        simp only [Act.put, List.setIfInBounds_toArray, List.set_cons_zero, List.set_cons_succ]
        refine wpAnyH_done (by kernel_rfl) (NoPanic.normal ?_) _
        clear hS5 hS6 hS7 f6
        go_wp2_with fail
        first
        | (go_roundw
           case rel => exact ⟨n, k + 1, o ++ [(y1, (true, y2))], some ⟨g', 0, none⟩, p + 1, cap', by omega, by omega, by go_num, by go_num, rfl, by rw [List.length_append, HH.out.2]; rfl, by rw [chL_push]; exact hown, by rw [List.append_assoc]; exact HH.out.1, grown_fr3 hf5 hrow5 hgrow hS.symm⟩
           case measure => simp [intOf]; omega)
        | exact ⟨⟨n, k + 1, o ++ [(y1, (true, y2))], some ⟨g', 0, none⟩, p + 1, cap', by omega, by omega, by go_num, by go_num, rfl, by rw [List.length_append, HH.out.2]; rfl, by rw [chL_push]; exact hown, by rw [List.append_assoc]; exact HH.out.1, grown_fr3 hf5 hrow5 hgrow hS.symm⟩, by simp [intOf]; omega⟩
      · obtain rfl : n2 = k := by omega
        have hdn2 := drop_end HO.out.2.2.2.1
        rw [hdn, hdn2, md_nn, List.append_nil] at hmd
        have HQ := Go.Lib.hid (And.intro hmd (And.intro hop hrow))
        clear hmd hop hrow hdn hdn2
        go_wp2_with fail
        go_ret
        obtain ⟨h1, h2, h3⟩ := HQ.out
        rw [← h1]
        exact ⟨oa, oc, by rw [h2]; rfl, by rw [h2]; exact h3, hf⟩
end Go.Proofs.Ytgdmkiobidnhnaa
