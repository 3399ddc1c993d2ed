/-
  The document's answers on operations: Right, Same. Conditions: the parts lie where the slices say, at most a thousand of each.
-/
import Derived.Test.YtgdmkiobidnhnaaEqual
import Derived.Test.YtgdmkiobidnhnaaRef8
namespace Go.Proofs.Ytgdmkiobidnhnaa
open Go.RowKit

set_option maxRecDepth 20000 in
set_option maxHeartbeats 4000000 in
theorem rok_walk {w : World} {ga sa : Option Addr} {gn gc sn sc : Nat} {gs : List Gd} {ss : List Sp} (h : Lie w ga gn gc sa sn sc gs ss) (hgn : gn ≤ 1000) (hsn : sn ≤ 1000) :
    Calls Try.prog 38 #[.agg #[.slice ga gn gc, .slice sa sn sc]] w fun e w' => e = .returned (.bool (okOp gs ss)) ∧ Fr w w' := by
  have f1 := (Fr.refl w).alloc (.cells #[.slice ga gn gc, .slice sa sn sc] 52)
  have b1 := heap_alloc_new w (.cells #[.slice ga gn gc, .slice sa sn sc] 52)
  obtain ⟨B, hB⟩ : ∃ B, w.heap.size = B := ⟨_, rfl⟩
  rw [hB] at b1
  have HL := Go.Lib.hid (And.intro (h.fr f1) (And.intro b1 f1))
  have HN := Go.Lib.hid (And.intro h.gl h.sl)
  have hd : okOp gs ss = (decide (gn ≤ 4) && decide (1 ≤ sn) && decide (sn ≤ 4) && gs.all okGd && ss.all okSp) := by unfold okOp; rw [h.gl, h.sl]
  obtain ⟨r, hr⟩ : ∃ r, okOp gs ss = r := ⟨_, rfl⟩
  rw [hr] at hd ⊢
  have HR := Go.Lib.hid hd
  clear h hr hd f1 b1
  go_enter Try.func38, Try.ntmps38
  go_wp2_with fail
  generalize w.alloc (.cells #[.slice ga gn gc, .slice sa sn sc] 52) = w1 at *
  go_loopw [3] (fun i wk => ∃ j : Nat, j ≤ gn ∧ i = .int .i64 j ∧ (gs.take j).all okGd = true ∧ Fr w1 wk) (fun i _ => gn - (intOf i).toNat)
  case atStart => exact ⟨0, Nat.zero_le _, rfl, by simp, Fr.refl _⟩
  case round =>
    obtain ⟨j, hj, rfl, hall, hf⟩ := hrel
    have d0 : wr.cell? ⟨B, 0, none⟩ = some (.slice ga gn gc) := hf.cell' (cell_at HL.out.2.1 0)
    have d1 : wr.cell? ⟨B, 1, none⟩ = some (.slice sa sn sc) := hf.cell' (cell_at HL.out.2.1 1)
    by_cases hlt : j < gn
    · obtain ⟨x, hx⟩ : ∃ x, gs[j]? = some x := ⟨_, List.getElem?_eq_getElem (by have := HN.out.1; omega)⟩
      obtain ⟨b2, o2, rfl, hb2, hc2, hcs⟩ := gd_cells (HL.out.1.fr hf).g hx HN.out.1
      obtain ⟨g0, g1, g2⟩ := hcs wr (Below.refl _ _)
      have hw := rgd_walk x wr
      unfold gdA at hw
      obtain ⟨z, hz⟩ : ∃ z, okGd x = z := ⟨_, rfl⟩
      rw [hz] at hw
      cases z with
      | true =>
        have HH := Go.Lib.hid (And.intro (all_push hall hx hz) hf)
        clear hcs hx hz hall hf
        obtain ⟨xk, xa, xv⟩ := x
        dsimp only at g0 g1 g2 hw
        go_wp2_with fail
        refine hw.mono ?_
        rintro e w5 ⟨rfl, f5⟩
        clear g0 g1 g2 hw d0 d1
        go_wp2_with fail
        go_roundw
        case rel => exact ⟨j + 1, by omega, by go_num, HH.out.1, HH.out.2.trans f5⟩
        case measure => simp [intOf]; omega
      | false =>
        have hbad : r = false := by rw [HR.out, all_bad hx hz]; simp
        have HH := Go.Lib.hid (And.intro hbad (HL.out.2.2.trans hf))
        clear hcs hx hz hall hf hbad
        obtain ⟨xk, xa, xv⟩ := x
        dsimp only at g0 g1 g2 hw
        go_wp2_with fail
        refine hw.mono ?_
        rintro e w5 ⟨rfl, f5⟩
        clear g0 g1 g2 hw d0 d1
        go_wp2_with fail
        go_ret
        exact ⟨by rw [HH.out.1]; rfl, HH.out.2.trans f5⟩
    · obtain rfl : gn = j := by omega
      rw [List.take_of_length_le (by have := HN.out.1; omega)] at hall
      have hr2 : r = (decide (gn ≤ 4) && decide (1 ≤ sn) && decide (sn ≤ 4) && ss.all okSp) := by rw [HR.out, hall]; simp
      have HG := Go.Lib.hid hr2
      clear hall hr2 HR
      go_wp2_with fail
      clear d0 d1
      go_loopw [4] (fun i wk => ∃ j : Nat, j ≤ sn ∧ i = .int .i64 j ∧ (ss.take j).all okSp = true ∧ Fr w1 wk) (fun i _ => sn - (intOf i).toNat)
      case atStart => exact ⟨0, Nat.zero_le _, rfl, by simp, hf⟩
      case round =>
        clear hf
        obtain ⟨j, hj, rfl, hall, hf⟩ := hrel
        have d0 : wr.cell? ⟨B, 0, none⟩ = some (.slice ga gn gc) := hf.cell' (cell_at HL.out.2.1 0)
        have d1 : wr.cell? ⟨B, 1, none⟩ = some (.slice sa sn sc) := hf.cell' (cell_at HL.out.2.1 1)
        by_cases hlt : j < sn
        · obtain ⟨x, hx⟩ : ∃ x, ss[j]? = some x := ⟨_, List.getElem?_eq_getElem (by have := HN.out.2; omega)⟩
          obtain ⟨b2, o2, rfl, hb2, hc2, hcs⟩ := sp_cells (HL.out.1.fr hf).s hx HN.out.2
          obtain ⟨g0, g1, g2, g3, g4⟩ := hcs wr (Below.refl _ _)
          have hw := rsp_walk x wr
          unfold spA at hw
          obtain ⟨z, hz⟩ : ∃ z, okSp x = z := ⟨_, rfl⟩
          rw [hz] at hw
          cases z with
          | true =>
            have HH := Go.Lib.hid (And.intro (all_push hall hx hz) hf)
            clear hcs hx hz hall hf
            obtain ⟨xk, xa, xv, xo, xn⟩ := x
            dsimp only at g0 g1 g2 g3 g4 hw
            go_wp2_with fail
            refine hw.mono ?_
            rintro e w5 ⟨rfl, f5⟩
            clear g0 g1 g2 g3 g4 hw d0 d1
            go_wp2_with fail
            go_roundw
            case rel => exact ⟨j + 1, by omega, by go_num, HH.out.1, HH.out.2.trans f5⟩
            case measure => simp [intOf]; omega
          | false =>
            have hbad : r = false := by rw [HG.out, all_bad hx hz]; simp
            have HH := Go.Lib.hid (And.intro hbad (HL.out.2.2.trans hf))
            clear hcs hx hz hall hf hbad
            obtain ⟨xk, xa, xv, xo, xn⟩ := x
            dsimp only at g0 g1 g2 g3 g4 hw
            go_wp2_with fail
            refine hw.mono ?_
            rintro e w5 ⟨rfl, f5⟩
            clear g0 g1 g2 g3 g4 hw d0 d1
            go_wp2_with fail
            go_ret
            exact ⟨by rw [HH.out.1]; rfl, HH.out.2.trans f5⟩
        · obtain rfl : sn = j := by omega
          rw [List.take_of_length_le (by have := HN.out.2; omega)] at hall
          have hr2 : r = (decide (gn ≤ 4) && decide (1 ≤ sn) && decide (sn ≤ 4)) := by rw [HG.out, hall]; simp
          have HQ := Go.Lib.hid hr2
          have hff := HL.out.2.2.trans hf
          clear hall hr2 hf
          go_wp2_with fail
          all_goals
            go_ret
            refine ⟨?_, hff⟩
            rw [HQ.out]
            show Ending.returned (Value.bool _) = Ending.returned (Value.bool _)
            refine congrArg (fun b => Ending.returned (Value.bool b)) ?_
            rw [Bool.eq_iff_iff]
            simp
            omega
set_option maxRecDepth 20000 in
set_option maxHeartbeats 8000000 in
theorem rsame_walk {w : World} {ga sa ga' sa' : Option Addr} {gn gc sn sc gn' gc' sn' sc' : Nat} {gs gs' : List Gd} {ss ss' : List Sp} (h : Lie w ga gn gc sa sn sc gs ss) (h' : Lie w ga' gn' gc' sa' sn' sc' gs' ss') (h1 : gn ≤ 1000) (h2 : sn ≤ 1000) (h3 : gn' ≤ 1000) (h4 : sn' ≤ 1000) :
    Calls Try.prog 42 #[.agg #[.slice ga gn gc, .slice sa sn sc], .agg #[.slice ga' gn' gc', .slice sa' sn' sc']] w fun e w' => e = .returned (.bool (eqOp gs ss gs' ss')) ∧ Fr w w' := by
  have f1 := (Fr.refl w).alloc (.cells #[.slice ga gn gc, .slice sa sn sc] 52)
  have b1 := heap_alloc_new w (.cells #[.slice ga gn gc, .slice sa sn sc] 52)
  have f2 := (Fr.refl (w.alloc (.cells #[.slice ga gn gc, .slice sa sn sc] 52))).alloc (.cells #[.slice ga' gn' gc', .slice sa' sn' sc'] 52)
  have b2 := heap_alloc_new (w.alloc (.cells #[.slice ga gn gc, .slice sa sn sc] 52)) (.cells #[.slice ga' gn' gc', .slice sa' sn' sc'] 52)
  have hs1 : (w.alloc (.cells #[.slice ga gn gc, .slice sa sn sc] 52)).heap.size = w.heap.size + 1 := by simp
  rw [hs1] at b2
  replace b1 := (f2.heap (k := w.heap.size) (by simp)).trans b1
  replace f1 := f1.trans f2
  have hl := h.fr f1
  have hl' := h'.fr f1
  obtain ⟨r, hr⟩ : ∃ r, eqOp gs ss gs' ss' = r := ⟨_, rfl⟩
  rw [hr]
  unfold eqOp at hr
  have HN := Go.Lib.hid (And.intro h.gl (And.intro h.sl (And.intro h'.gl h'.sl)))
  obtain ⟨B, hB⟩ : ∃ B, w.heap.size = B := ⟨_, rfl⟩
  rw [hB] at b1 b2
  have HL := Go.Lib.hid (And.intro hl (And.intro hl' (And.intro b1 (And.intro b2 f1))))
  have HR := Go.Lib.hid hr
  clear h h' hl hl' b1 b2 f1 f2 hs1 hr
  by_cases hg : gn = gn'
  · subst hg
    by_cases hs : sn = sn'
    · subst hs
      go_enter Try.func42, Try.ntmps42
      go_wp2_with fail
      generalize (w.alloc (.cells #[.slice ga gn gc, .slice sa sn sc] 52)).alloc (.cells #[.slice ga' gn gc', .slice sa' sn sc'] 52) = w1 at *
      go_loopw [5] (fun i wk => ∃ j : Nat, j ≤ gn ∧ i = .int .i64 j ∧ (∀ (i : Nat) x y, i < j → gs[i]? = some x → gs'[i]? = some y → eqGd x y = true) ∧ Fr w1 wk) (fun i _ => gn - (intOf i).toNat)
      case atStart => exact ⟨0, Nat.zero_le _, rfl, (fun i x y hi => absurd hi (Nat.not_lt_zero _)), Fr.refl _⟩
      case round =>
        obtain ⟨j, hj, rfl, hall, hf⟩ := hrel
        have d0 : wr.cell? ⟨B, 0, none⟩ = some (.slice ga gn gc) := hf.cell' (cell_at HL.out.2.2.1 0)
        have d1 : wr.cell? ⟨B, 1, none⟩ = some (.slice sa sn sc) := hf.cell' (cell_at HL.out.2.2.1 1)
        have e0 : wr.cell? ⟨B + 1, 0, none⟩ = some (.slice ga' gn gc') := hf.cell' (cell_at HL.out.2.2.2.1 0)
        by_cases hlt : j < gn
        · obtain ⟨x, hx⟩ : ∃ x, gs[j]? = some x := ⟨_, List.getElem?_eq_getElem (by have := HN.out.1; omega)⟩
          obtain ⟨y, hy⟩ : ∃ y, gs'[j]? = some y := ⟨_, List.getElem?_eq_getElem (by have := HN.out.2.2.1; omega)⟩
          obtain ⟨b1, o1, rfl, hb1, hc1, hcs⟩ := gd_cells (HL.out.1.fr hf).g hx HN.out.1
          obtain ⟨b2, o2, rfl, hb2, hc2, hcs2⟩ := gd_cells (HL.out.2.1.fr hf).g hy HN.out.2.2.1
          have hst : eqGd x y = true → ∀ (i : Nat) x y, i < j + 1 → gs[i]? = some x → gs'[i]? = some y → eqGd x y = true := fun he i x' y' hi hx' hy' => by
            by_cases hij : i = j
            · subst hij; rw [hx] at hx'; rw [hy] at hy'; cases hx'; cases hy'; exact he
            · exact hall i x' y' (by omega) hx' hy'
          have hbad : eqGd x y = false → r = false := fun he => by rw [← HR.out, allEq_at hx hy he]; rfl
          obtain ⟨z, hz⟩ : ∃ z, eqGd x y = z := ⟨_, rfl⟩
          rw [hz] at hst hbad
          obtain ⟨xk, xa, xv⟩ := x
          obtain ⟨yk, ya, yv⟩ := y
          dsimp only at hcs hcs2
          have hneq := gd_neq xk yk xa ya xv yv
          rw [hz] at hneq
          have HH := Go.Lib.hid (And.intro hst hbad)
          have x0 : ∀ w', Fr wr w' → w'.cell? ⟨B, 0, none⟩ = some (.slice (some ⟨b1, o1, none⟩) gn gc) := fun w' hw' => hw'.cell' d0
          have y0 : ∀ w', Fr wr w' → w'.cell? ⟨B + 1, 0, none⟩ = some (.slice (some ⟨b2, o2, none⟩) gn gc') := fun w' hw' => hw'.cell' e0
          have ca0 : ∀ w', Fr wr w' → w'.cell? ⟨b1, o1 + j * 3, none⟩ = some (.int .i64 xk) := fun w' hw' => (hcs w' hw').1
          have ca1 : ∀ w', Fr wr w' → w'.cell? ⟨b1, o1 + j * 3 + 1, none⟩ = some (.string xa) := fun w' hw' => (hcs w' hw').2.1
          have ca2 : ∀ w', Fr wr w' → w'.cell? ⟨b1, o1 + j * 3 + 2, none⟩ = some (.string xv) := fun w' hw' => (hcs w' hw').2.2
          have cb0 : ∀ w', Fr wr w' → w'.cell? ⟨b2, o2 + j * 3, none⟩ = some (.int .i64 yk) := fun w' hw' => (hcs2 w' hw').1
          have cb1 : ∀ w', Fr wr w' → w'.cell? ⟨b2, o2 + j * 3 + 1, none⟩ = some (.string ya) := fun w' hw' => (hcs2 w' hw').2.1
          have cb2 : ∀ w', Fr wr w' → w'.cell? ⟨b2, o2 + j * 3 + 2, none⟩ = some (.string yv) := fun w' hw' => (hcs2 w' hw').2.2
          clear hcs hcs2 hx hy hz hall hst hbad
          cases z with
          | true =>
            go_wp2_with fail
            refine wp_region_classW (Fr wr) (by kernel_rfl) (by kernel_rfl) (Fr.draw _) ?_
            repeat (first
              | (refine WQ.val rfl ?_
                 apply Exists.intro
                 refine ⟨?_, ?_⟩
                 focus (intro w' hw'; go_simp; (try go_bits); with_reducible rfl)
                 simp only [Act.put, List.setIfInBounds_toArray, List.set_cons_zero, List.set_cons_succ])
              | (refine WQ.pass rfl ?_
                 simp only [Act.put, List.setIfInBounds_toArray, List.set_cons_zero, List.set_cons_succ]))
            refine WQ.nil ?_
            intro w5 f5
            clear d0 d1 e0 x0 y0 ca0 ca1 ca2 cb0 cb1 cb2 hneq
            go_wp2_with fail
            go_roundw
            case rel => exact ⟨j + 1, by omega, by go_num, HH.out.1 trivial, hf.trans f5⟩
            case measure => simp [intOf]; omega
          | false =>
            have hff := HL.out.2.2.2.2.trans hf
            go_wp2_with fail
            refine wp_region_classW (Fr wr) (by kernel_rfl) (by kernel_rfl) (Fr.draw _) ?_
            repeat (first
              | (refine WQ.val rfl ?_
                 apply Exists.intro
                 refine ⟨?_, ?_⟩
                 focus (intro w' hw'; go_simp; (try go_bits); with_reducible rfl)
                 simp only [Act.put, List.setIfInBounds_toArray, List.set_cons_zero, List.set_cons_succ])
              | (refine WQ.pass rfl ?_
                 simp only [Act.put, List.setIfInBounds_toArray, List.set_cons_zero, List.set_cons_succ]))
            refine WQ.nil ?_
            intro w5 f5
            clear d0 d1 e0 x0 y0 ca0 ca1 ca2 cb0 cb1 cb2 hneq
            go_wp2_with fail
            go_ret
            exact ⟨by rw [HH.out.2 trivial]; rfl, hff.trans f5⟩
        · obtain rfl : gn = j := by omega
          have hfin : allEq eqGd gs gs' = true := allEq_all (by rw [HN.out.1, HN.out.2.2.1]) fun i x y hx hy => hall i x y (by have := (List.getElem?_eq_some_iff.1 hx).1; have := HN.out.1; omega) hx hy
          have hr2 : r = allEq eqSp ss ss' := by rw [← HR.out, hfin]; rfl
          have HG := Go.Lib.hid hr2
          clear hall hfin hr2 HR
          go_wp2_with fail
          clear d0 d1 e0
          go_loopw [6] (fun i wk => ∃ j : Nat, j ≤ sn ∧ i = .int .i64 j ∧ (∀ (i : Nat) x y, i < j → ss[i]? = some x → ss'[i]? = some y → eqSp x y = true) ∧ Fr w1 wk) (fun i _ => sn - (intOf i).toNat)
          case atStart => exact ⟨0, Nat.zero_le _, rfl, (fun i x y hi => absurd hi (Nat.not_lt_zero _)), hf⟩
          case round =>
            clear hf
            obtain ⟨j, hj, rfl, hall, hf⟩ := hrel
            have d0 : wr.cell? ⟨B, 0, none⟩ = some (.slice ga gn gc) := hf.cell' (cell_at HL.out.2.2.1 0)
            have d1 : wr.cell? ⟨B, 1, none⟩ = some (.slice sa sn sc) := hf.cell' (cell_at HL.out.2.2.1 1)
            have e0 : wr.cell? ⟨B + 1, 1, none⟩ = some (.slice sa' sn sc') := hf.cell' (cell_at HL.out.2.2.2.1 1)
            by_cases hlt : j < sn
            · obtain ⟨x, hx⟩ : ∃ x, ss[j]? = some x := ⟨_, List.getElem?_eq_getElem (by have := HN.out.2.1; omega)⟩
              obtain ⟨y, hy⟩ : ∃ y, ss'[j]? = some y := ⟨_, List.getElem?_eq_getElem (by have := HN.out.2.2.2; omega)⟩
              obtain ⟨b1, o1, rfl, hb1, hc1, hcs⟩ := sp_cells (HL.out.1.fr hf).s hx HN.out.2.1
              obtain ⟨b2, o2, rfl, hb2, hc2, hcs2⟩ := sp_cells (HL.out.2.1.fr hf).s hy HN.out.2.2.2
              have hst : eqSp x y = true → ∀ (i : Nat) x y, i < j + 1 → ss[i]? = some x → ss'[i]? = some y → eqSp x y = true := fun he i x' y' hi hx' hy' => by
                by_cases hij : i = j
                · subst hij; rw [hx] at hx'; rw [hy] at hy'; cases hx'; cases hy'; exact he
                · exact hall i x' y' (by omega) hx' hy'
              have hbad : eqSp x y = false → r = false := fun he => by rw [HG.out, allEq_at hx hy he]
              obtain ⟨z, hz⟩ : ∃ z, eqSp x y = z := ⟨_, rfl⟩
              rw [hz] at hst hbad
              obtain ⟨xk, xa, xv, xo, xn⟩ := x
              obtain ⟨yk, ya, yv, yo, yn⟩ := y
              dsimp only at hcs hcs2
              have hneq := sp_neq xk yk xn yn xa ya xv yv xo yo
              rw [hz] at hneq
              have HH := Go.Lib.hid (And.intro hst hbad)
              have x0 : ∀ w', Fr wr w' → w'.cell? ⟨B, 1, none⟩ = some (.slice (some ⟨b1, o1, none⟩) sn sc) := fun w' hw' => hw'.cell' d1
              have x1 : ∀ w', Fr wr w' → w'.cell? ⟨B, 0, none⟩ = some (.slice ga gn gc) := fun w' hw' => hw'.cell' d0
              have y0 : ∀ w', Fr wr w' → w'.cell? ⟨B + 1, 1, none⟩ = some (.slice (some ⟨b2, o2, none⟩) sn sc') := fun w' hw' => hw'.cell' e0
              have ca0 : ∀ w', Fr wr w' → w'.cell? ⟨b1, o1 + j * 5, none⟩ = some (.int .i64 xk) := fun w' hw' => (hcs w' hw').1
              have ca1 : ∀ w', Fr wr w' → w'.cell? ⟨b1, o1 + j * 5 + 1, none⟩ = some (.string xa) := fun w' hw' => (hcs w' hw').2.1
              have ca2 : ∀ w', Fr wr w' → w'.cell? ⟨b1, o1 + j * 5 + 2, none⟩ = some (.string xv) := fun w' hw' => (hcs w' hw').2.2.1
              have ca3 : ∀ w', Fr wr w' → w'.cell? ⟨b1, o1 + j * 5 + 3, none⟩ = some (.string xo) := fun w' hw' => (hcs w' hw').2.2.2.1
              have ca4 : ∀ w', Fr wr w' → w'.cell? ⟨b1, o1 + j * 5 + 4, none⟩ = some (.int .i64 xn) := fun w' hw' => (hcs w' hw').2.2.2.2
              have cb0 : ∀ w', Fr wr w' → w'.cell? ⟨b2, o2 + j * 5, none⟩ = some (.int .i64 yk) := fun w' hw' => (hcs2 w' hw').1
              have cb1 : ∀ w', Fr wr w' → w'.cell? ⟨b2, o2 + j * 5 + 1, none⟩ = some (.string ya) := fun w' hw' => (hcs2 w' hw').2.1
              have cb2 : ∀ w', Fr wr w' → w'.cell? ⟨b2, o2 + j * 5 + 2, none⟩ = some (.string yv) := fun w' hw' => (hcs2 w' hw').2.2.1
              have cb3 : ∀ w', Fr wr w' → w'.cell? ⟨b2, o2 + j * 5 + 3, none⟩ = some (.string yo) := fun w' hw' => (hcs2 w' hw').2.2.2.1
              have cb4 : ∀ w', Fr wr w' → w'.cell? ⟨b2, o2 + j * 5 + 4, none⟩ = some (.int .i64 yn) := fun w' hw' => (hcs2 w' hw').2.2.2.2
              clear hcs hcs2 hx hy hz hall hst hbad
              cases z with
              | true =>
                go_wp2_with fail
                refine wp_region_classW (Fr wr) (by kernel_rfl) (by kernel_rfl) (Fr.draw _) ?_
                repeat (first
                  | (refine WQ.val rfl ?_
                     apply Exists.intro
                     refine ⟨?_, ?_⟩
                     focus (intro w' hw'; go_simp; (try go_bits); with_reducible rfl)
                     simp only [Act.put, List.setIfInBounds_toArray, List.set_cons_zero, List.set_cons_succ])
                  | (refine WQ.pass rfl ?_
                     simp only [Act.put, List.setIfInBounds_toArray, List.set_cons_zero, List.set_cons_succ]))
                refine WQ.nil ?_
                intro w5 f5
                clear d0 d1 e0 x0 x1 y0 ca0 ca1 ca2 ca3 ca4 cb0 cb1 cb2 cb3 cb4 hneq
                go_wp2_with fail
                go_roundw
                case rel => exact ⟨j + 1, by omega, by go_num, HH.out.1 trivial, hf.trans f5⟩
                case measure => simp [intOf]; omega
              | false =>
                have hff := HL.out.2.2.2.2.trans hf
                go_wp2_with fail
                refine wp_region_classW (Fr wr) (by kernel_rfl) (by kernel_rfl) (Fr.draw _) ?_
                repeat (first
                  | (refine WQ.val rfl ?_
                     apply Exists.intro
                     refine ⟨?_, ?_⟩
                     focus (intro w' hw'; go_simp; (try go_bits); with_reducible rfl)
                     simp only [Act.put, List.setIfInBounds_toArray, List.set_cons_zero, List.set_cons_succ])
                  | (refine WQ.pass rfl ?_
                     simp only [Act.put, List.setIfInBounds_toArray, List.set_cons_zero, List.set_cons_succ]))
                refine WQ.nil ?_
                intro w5 f5
                clear d0 d1 e0 x0 x1 y0 ca0 ca1 ca2 ca3 ca4 cb0 cb1 cb2 cb3 cb4 hneq
                go_wp2_with fail
                go_ret
                exact ⟨by rw [HH.out.2 trivial]; rfl, hff.trans f5⟩
            · obtain rfl : sn = j := by omega
              have hfin : allEq eqSp ss ss' = true := allEq_all (by rw [HN.out.2.1, HN.out.2.2.2]) fun i x y hx hy => hall i x y (by have := (List.getElem?_eq_some_iff.1 hx).1; have := HN.out.2.1; omega) hx hy
              have hr2 : r = true := by rw [HG.out, hfin]
              have HQ := Go.Lib.hid hr2
              have hff := HL.out.2.2.2.2.trans hf
              clear hall hfin hr2 hf
              go_wp2_with fail
              go_ret
              exact ⟨by rw [HQ.out]; rfl, hff⟩
    · have hfin : r = false := by rw [← HR.out, allEq_len (m := ss) (by rw [HN.out.2.1, HN.out.2.2.2]; exact hs)]; simp
      have HH := Go.Lib.hid hfin
      have hne : ((sn : Int) == (sn' : Int)) = false := by simp; omega
      have hff := HL.out.2.2.2.2
      clear hfin
      go_enter Try.func42, Try.ntmps42
      go_wp2_with fail
      go_ret
      exact ⟨by rw [HH.out]; rfl, hff⟩
  · have hfin : r = false := by rw [← HR.out, allEq_len (m := gs) (by rw [HN.out.1, HN.out.2.2.1]; exact hg)]; simp
    have HH := Go.Lib.hid hfin
    have hne : ((gn : Int) == (gn' : Int)) = false := by simp; omega
    have hff := HL.out.2.2.2.2
    clear hfin
    go_enter Try.func42, Try.ntmps42
    go_wp2_with fail
    go_ret
    exact ⟨by rw [HH.out]; rfl, hff⟩
end Go.Proofs.Ytgdmkiobidnhnaa
