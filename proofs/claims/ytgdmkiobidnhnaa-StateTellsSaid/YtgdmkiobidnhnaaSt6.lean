/-
  The document's answers on states: Right, Patch, Diff. Conditions: the pairs and the changes lie where the slices say, at most two hundred of each (Diff: five hundred).
-/
import Derived.Test.YtgdmkiobidnhnaaMDiff
namespace Go.Proofs.Ytgdmkiobidnhnaa
open Go.RowKit Go.Shelf

set_option maxRecDepth 20000 in
set_option maxHeartbeats 4000000 in
theorem rright_walk {a : Option Addr} {n c : Nat} {w : World} (m : Ps) (h : Sl w (.slice a n c) n 2 (pairsL m)) (hl : m.length = n) (hn : n ≤ 1000000) :
    Calls Try.prog 50 #[.slice a n c] w fun e w' => e = .returned (.bool (upB m)) ∧ Fr w w' := by
  have HO := Go.Lib.hid (And.intro h hl)
  clear h hl
  go_enter Try.func50, Try.ntmps50
  go_wp2_with fail
  go_loopw [3] (fun i wk => ∃ q : Nat, q ≤ n ∧ i = .int .i64 (q : Nat) ∧ (∀ (p t : Nat) x y, p < t → t < q → m[p]? = some x → m[t]? = some y → lt x.1 y.1 = true) ∧ Fr w wk) (fun i _ => n - (intOf i).toNat)
  case atStart => exact ⟨0, Nat.zero_le _, rfl, (fun p t x y h1 h2 => absurd h2 (Nat.not_lt_zero _)), Fr.refl _⟩
  case round =>
    obtain ⟨q, hq, rfl, hall, hf⟩ := hrel
    by_cases hlt : q < n
    · obtain ⟨y, hy⟩ : ∃ y, m[q]? = some y := ⟨_, List.getElem?_eq_getElem (by rw [HO.out.2]; omega)⟩
      have HA := Go.Lib.hid hall
      have HY := Go.Lib.hid hy
      clear hall hy
      go_wp2_with fail
      go_loopw [4] (fun i wk => ∃ p : Nat, p ≤ q ∧ i = .int .i64 (p : Nat) ∧ (∀ (t : Nat) x, t < p → m[t]? = some x → lt x.1 y.1 = true) ∧ Fr w wk) (fun i _ => q - (intOf i).toNat)
      case atStart => exact ⟨0, Nat.zero_le _, rfl, (fun t x h2 => absurd h2 (Nat.not_lt_zero _)), hf⟩
      case round =>
        clear hf
        obtain ⟨p, hp, rfl, hrow, hf⟩ := hrel
        by_cases hlt2 : p < q
        · obtain ⟨x, hx⟩ : ∃ x, m[p]? = some x := ⟨_, List.getElem?_eq_getElem (by rw [HO.out.2]; omega)⟩
          obtain ⟨b1, o1, rfl, hc1, hcs⟩ := pair_cells' HO.out.1 hx HO.out.2
          obtain ⟨b2, o2, e2, hc2, hcs2⟩ := pair_cells' HO.out.1 HY.out HO.out.2
          cases e2
          have hst : lt x.1 y.1 = true → ∀ (t : Nat) x, t < p + 1 → m[t]? = some x → lt x.1 y.1 = true := fun he t x' ht hx' => by
            by_cases e : t = p
            · subst e; rw [hx] at hx'; cases hx'; exact he
            · exact hrow t x' (by omega) hx'
          have hbad : lt x.1 y.1 = false → upB m = false := fun he => upB_bad hlt2 hx HY.out he
          obtain ⟨r, hr⟩ : ∃ r, lt x.1 y.1 = r := ⟨_, rfl⟩
          rw [hr] at hst hbad
          have hr2 : Op.bytesLess x.1.toList y.1.toList = r := hr
          have HH := Go.Lib.hid (And.intro hst hbad)
          obtain ⟨x1, x2⟩ := x
          have ca : ∀ w', Fr wr w' → w'.cell? ⟨b1, o1 + p * 2, none⟩ = some (.string x1) := fun w' hw' => (hcs w' (hf.trans hw')).1
          have cb : ∀ w', Fr wr w' → w'.cell? ⟨b1, o1 + q * 2, none⟩ = some (.string y.1) := fun w' hw' => (hcs2 w' (hf.trans hw')).1
          dsimp only at hr2
          have hpn : p < n := by omega
          clear hcs hcs2 hx hr hrow hst hbad
          cases r with
          | true =>
            go_wp2_with fail
            refine wp_region_classW (Fr wr) (by kernel_rfl) (by kernel_rfl) (Fr.draw _) ?_
            repeat (first
              | (refine WQ.val rfl ?_
                 apply Exists.intro
                 refine ⟨?_, ?_⟩
                 focus (intro w' hw'; go_simp; (try go_bits); with_reducible rfl)
                 simp only [Act.put, List.setIfInBounds_toArray, List.set_cons_zero, List.set_cons_succ])
              | (refine WQ.pass rfl ?_
                 simp only [Act.put, List.setIfInBounds_toArray, List.set_cons_zero, List.set_cons_succ]))
            refine WQ.nil ?_
            intro w5 f5
            go_wp2_with fail
            go_roundw
            case rel => exact ⟨p + 1, by omega, by go_num, HH.out.1 trivial, hf.trans f5⟩
            case measure => simp [intOf]; omega
          | false =>
            go_wp2_with fail
            refine wp_region_classW (Fr wr) (by kernel_rfl) (by kernel_rfl) (Fr.draw _) ?_
            repeat (first
              | (refine WQ.val rfl ?_
                 apply Exists.intro
                 refine ⟨?_, ?_⟩
                 focus (intro w' hw'; go_simp; (try go_bits); with_reducible rfl)
                 simp only [Act.put, List.setIfInBounds_toArray, List.set_cons_zero, List.set_cons_succ])
              | (refine WQ.pass rfl ?_
                 simp only [Act.put, List.setIfInBounds_toArray, List.set_cons_zero, List.set_cons_succ]))
            refine WQ.nil ?_
            intro w5 f5
            go_wp2_with fail
            go_ret
            exact ⟨by rw [HH.out.2 trivial]; rfl, hf.trans f5⟩
        · obtain rfl : q = p := by omega
          have hst : ∀ (p t : Nat) x y, p < t → t < q + 1 → m[p]? = some x → m[t]? = some y → lt x.1 y.1 = true := fun p' t x' y' h1 h2 hx' hy' => by
            by_cases e : t = q
            · subst e; have := HY.out; rw [this] at hy'; cases hy'; exact hrow p' x' h1 hx'
            · exact HA.out p' t x' y' h1 (by omega) hx' hy'
          have HH := Go.Lib.hid hst
          clear hrow hst
          go_wp2_with fail
          go_roundw
          case rel => exact ⟨q + 1, by omega, by go_num, HH.out, hf⟩
          case measure => simp [intOf]; omega
    · have hfin : upB m = true := upB_pairs fun p t x y h1 hx hy => hall p t x y h1 (by have := (List.getElem?_eq_some_iff.1 hy).1; have := HO.out.2; omega) hx hy
      have HH := Go.Lib.hid hfin
      clear hall hfin
      go_wp2_with fail
      go_ret
      exact ⟨by rw [HH.out]; rfl, hf⟩
def SlPost (l : Ps) (W : World) (e : Ending) (w' : World) : Prop := ∃ a n c, e = .returned (.slice a n c) ∧ l.length = n ∧ Sl w' (.slice a n c) n 2 (pairsL l) ∧ Fr W w'
set_option maxRecDepth 20000 in
set_option maxHeartbeats 2000000 in
theorem rpatch_walk {a b : Option Addr} {n c n2 c2 : Nat} {w : World} (m : Ps) (l : Chs) (h : Sl w (.slice a n c) n 2 (pairsL m)) (h2 : Sl w (.slice b n2 c2) n2 3 (chL l)) (hl : m.length = n) (hl2 : l.length = n2) (hn : n ≤ 200) (hn2 : n2 ≤ 200) :
    Calls Try.prog 53 #[.slice a n c, .slice b n2 c2] w (SlPost (patched m l) w) := by
  have hr1 := rright_walk m h hl (by omega)
  cases hu1 : upB m with
  | false =>
    have hp : patched m l = [] := by unfold patched; rw [hu1]; rfl
    rw [hu1] at hr1
    rw [hp]
    clear h h2 hl hl2 hp
    go_enter Try.func53, Try.ntmps53
    go_wp2_with fail
    refine hr1.mono ?_
    rintro e w1 ⟨rfl, f1⟩
    clear hr1
    go_wp2_with fail
    go_ret
    exact ⟨none, 0, 0, rfl, rfl, ⟨none, 0, rfl, rfl, Nat.le_refl _, .inl rfl⟩, f1⟩
  | true =>
    have hp : patched m l = patch m l := by unfold patched; rw [hu1]; rfl
    rw [hu1] at hr1
    rw [hp]
    have hu := upB_up m hu1
    have HO := Go.Lib.hid (And.intro h (And.intro h2 (And.intro hl (And.intro hl2 hu))))
    clear h h2 hl hl2 hp hu1 hu
    go_enter Try.func53, Try.ntmps53
    go_wp2_with fail
    refine hr1.mono ?_
    rintro e w1 ⟨rfl, f1⟩
    clear hr1
    go_wp2_with fail
    go_loopw [0, 5] (fun v i wk => ∃ (j : Nat) (a : Option Addr) (p c : Nat), j ≤ n2 ∧ i = .int .i64 j ∧ v = .slice a p c ∧ (patch m (l.take j)).length = p ∧ Sl wk (.slice a p c) p 2 (pairsL (patch m (l.take j))) ∧ Fr w wk) (fun _ i _ => n2 - (intOf i).toNat)
    case atStart => exact ⟨0, a, n, c, Nat.zero_le _, rfl, rfl, HO.out.2.2.1, HO.out.1.fr f1, f1⟩
    case round =>
      clear f1
      obtain ⟨j, a', p, c', hj, rfl, rfl, hp, hs, hf⟩ := hrel
      have hlen := patch_len (l.take j) m
      rw [List.length_take, HO.out.2.2.1, hp] at hlen
      have hup := patch_up (l.take j) m HO.out.2.2.2.2
      by_cases hlt : j < n2
      · obtain ⟨x, hx⟩ : ∃ x, l[j]? = some x := ⟨_, List.getElem?_eq_getElem (by have := HO.out.2.2.2.1; omega)⟩
        obtain ⟨bb, o, rfl, hnc, hcs⟩ := ch_cells HO.out.2.1 hx HO.out.2.2.2.1
        obtain ⟨c0, c1, c2⟩ := hcs wr hf
        have hst := patch_take (m := m) hx
        have hput : ∀ w', Fr wr w' → Calls Try.prog 17 #[.slice a' p c', .string x.1, .string x.2.2] w' (ListPost (put (patch m (l.take j)) x.1 x.2.2) w') := fun w' hw' => rput_walk _ hup (hs.fr hw') hp (by omega) x.1 x.2.2
        have hdel := rdel_walk _ hs hp (by omega) x.1
        unfold step1 at hst
        obtain ⟨x1, x2, x3⟩ := x
        dsimp only at c0 c1 c2 hput hdel hst
        cases x2 with
        | true =>
          rw [if_pos rfl] at hst
          have HH := Go.Lib.hid hst
          have f4 : Fr wr wr.drew := (Fr.refl wr).drewN 1
          have hp4 := hput _ f4
          replace hf := hf.trans f4
          have e0 := f4.cell' c0
          have e2 := f4.cell' c2
          clear hcs hx hst hlen hdel hput hup hs hp f4
          go_wp2_with fail
          go_still_tail 11, (by kernel_rfl)
          change wpList _ _ _ _ _ wr.drew
          generalize wr.drew = w4 at *
          clear c0 c1 c2
          go_wp2_with fail
          refine hp4.mono ?_
          intro e w6 hpost
          obtain ⟨a6, p6, c6, rfl, hl6, hs6, f6⟩ := (show ∃ a n c, e = .returned (.slice a n c) ∧ _ = n ∧ Sl w6 (.slice a n c) n 2 _ ∧ Fr w4 w6 from by
            obtain ⟨a, c, h1, h2, h3⟩ := hpost
            exact ⟨a, _, c, h1, rfl, owns_sl h2, h3⟩)
          replace hf := hf.trans f6
          have H6 := Go.Lib.hid (And.intro hl6 hs6)
          clear hp4 hpost hl6 hs6 f6 e0 e2
          go_wp2_with fail
          go_roundw
          case rel => exact ⟨j + 1, a6, p6, c6, by omega, by go_num, rfl, by rw [HH.out]; exact H6.out.1, by rw [HH.out]; exact H6.out.2, hf⟩
          case measure => simp [intOf]; omega
        | false =>
          rw [if_neg (by decide)] at hst
          have HH := Go.Lib.hid hst
          clear hcs hx hst hlen hput hup hs hp
          go_wp2_with fail
          refine hdel.mono ?_
          intro e w6 hpost
          obtain ⟨a6, p6, c6, rfl, hl6, hs6, f6⟩ := (show ∃ a n c, e = .returned (.slice a n c) ∧ _ = n ∧ Sl w6 (.slice a n c) n 2 _ ∧ Fr wr w6 from by
            obtain ⟨a, c, h1, h2, h3⟩ := hpost
            exact ⟨a, _, c, h1, rfl, owns_sl h2, h3⟩)
          replace hf := hf.trans f6
          have H6 := Go.Lib.hid (And.intro hl6 hs6)
          clear hdel hpost hl6 hs6 f6 c0 c1 c2
          go_wp2_with fail
          go_roundw
          case rel => exact ⟨j + 1, a6, p6, c6, by omega, by go_num, rfl, by rw [HH.out]; exact H6.out.1, by rw [HH.out]; exact H6.out.2, hf⟩
          case measure => simp [intOf]; omega
      · obtain rfl : n2 = j := by omega
        rw [List.take_of_length_le (by have := HO.out.2.2.2.1; omega)] at hp hs
        have HQ := Go.Lib.hid (And.intro hp hs)
        clear hp hs hlen hup
        go_wp2_with fail
        go_ret
        exact ⟨a', p, c', rfl, HQ.out.1, HQ.out.2, hf⟩
end Go.Proofs.Ytgdmkiobidnhnaa
