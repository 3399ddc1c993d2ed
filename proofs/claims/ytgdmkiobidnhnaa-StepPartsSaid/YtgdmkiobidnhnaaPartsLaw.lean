/-
  The walk of StepParts. Conditions: what comes in lies where it says.
-/
import Derived.Test.YtgdmkiobidnhnaaEqual
namespace Go.Proofs.Ytgdmkiobidnhnaa
open Go.RowKit

theorem eqOp_self (gs : List Gd) (ss : List Sp) : eqOp gs ss gs ss = true := by
  unfold eqOp; rw [allEq_self eqGd_self, allEq_self eqSp_self]; rfl
theorem all_take {α : Type} (p : α → Bool) {m : List α} {j : Nat} {x : α} (hx : m[j]? = some x) : (m.take (j + 1)).all p = ((m.take j).all p && p x) := by
  rw [List.take_add_one, hx, List.all_append]; simp
/-- What the law's loops keep. -/
structure SP (w0 w : World) (B : Nat) (ga : Option Addr) (gn gc : Nat) (sa : Option Addr) (sn sc : Nat) (gs : List Gd) (ss : List Sp) : Prop where
  lie : Lie w ga gn gc sa sn sc gs ss
  b : w.heap[B]? = some (.cells #[.slice ga gn gc, .slice sa sn sc] 52)
  f : Fr w0 w
section
variable {w0 w w' : World} {B gn gc sn sc : Nat} {ga sa : Option Addr} {gs : List Gd} {ss : List Sp}
theorem SP.fr (h : SP w0 w B ga gn gc sa sn sc gs ss) (hf : Fr w w') : SP w0 w' B ga gn gc sa sn sc gs ss :=
  ⟨h.lie.fr hf, (hf.heap (Array.getElem?_eq_some_iff.1 h.b).1).trans h.b, h.f.trans hf⟩
theorem SP.box (h : SP w0 w B ga gn gc sa sn sc gs ss) : w.cell? ⟨B, 0, none⟩ = some (.slice ga gn gc) ∧ w.cell? ⟨B, 1, none⟩ = some (.slice sa sn sc) := ⟨cell_at h.b 0, cell_at h.b 1⟩
end
set_option maxRecDepth 100000 in
set_option maxHeartbeats 8000000 in
theorem stepParts.walk {ga sa : Option Addr} {gn gc sn sc : Nat} {w : World} (gs : List Gd) (ss : List Sp) (h : Lie w ga gn gc sa sn sc gs ss) :
    Calls Try.prog 7 #[.agg #[.slice ga gn gc, .slice sa sn sc]] w fun e w' => e = .returned (.bool true) ∧ Below w.heap.size w w' := by
  have f1 := (Fr.refl w).alloc (.cells #[.slice ga gn gc, .slice sa sn sc] 52)
  have b1 := heap_alloc_new w (.cells #[.slice ga gn gc, .slice sa sn sc] 52)
  obtain ⟨B, hB⟩ : ∃ B, w.heap.size = B := ⟨_, rfl⟩
  have hl := h.fr f1
  rw [hB] at b1 ⊢
  by_cases hf : gn ≤ 30 ∧ sn ≤ 30
  · obtain ⟨hgn, hsn⟩ := hf
    have hI1 : SP w _ B ga gn gc sa sn sc gs ss := ⟨hl, b1, f1⟩
    have HN := Go.Lib.hid (And.intro h.gl h.sl)
    obtain ⟨rr, hrr⟩ : ∃ rr, (decide (gn ≤ 4) && decide (1 ≤ sn) && decide (sn ≤ 4)) = rr := ⟨_, rfl⟩
    have hok : okOp gs ss = (rr && gs.all okGd && ss.all okSp) := by unfold okOp; rw [h.gl, h.sl, hrr]
    have hcase : (gn ≤ 4 ∧ 1 ≤ sn ∧ sn ≤ 4 ∧ rr = true) ∨ (4 < gn ∧ rr = false) ∨ (gn ≤ 4 ∧ sn < 1 ∧ rr = false) ∨ (gn ≤ 4 ∧ 1 ≤ sn ∧ 4 < sn ∧ rr = false) := by
      by_cases q1 : gn ≤ 4
      · by_cases q2 : 1 ≤ sn
        · by_cases q3 : sn ≤ 4
          · exact .inl ⟨q1, q2, q3, by rw [← hrr, decide_eq_true q1, decide_eq_true q2, decide_eq_true q3]; rfl⟩
          · exact .inr (.inr (.inr ⟨q1, q2, by omega, by rw [← hrr, decide_eq_false q3]; simp⟩))
        · exact .inr (.inr (.inl ⟨q1, by omega, by rw [← hrr, decide_eq_false q2]; simp⟩))
      · exact .inr (.inl ⟨by omega, by rw [← hrr, decide_eq_false q1]; rfl⟩)
    have HK := Go.Lib.hid hok
    clear h hl f1 b1 hrr hok
    go_enter Try.func7, Try.ntmps7
    go_wp2_with fail
    generalize w.alloc (.cells #[.slice ga gn gc, .slice sa sn sc] 52) = w1 at *
    refine (few_yes w1 hgn hsn).mono ?_
    rintro e w2 ⟨rfl, f2⟩
    have hI := hI1.fr f2
    obtain ⟨d0, d1⟩ := hI.box
    clear hI1 f2
    rcases hcase with ⟨q1, q2, q3, hr⟩ | ⟨q1, hr⟩ | ⟨q1, q2, hr⟩ | ⟨q1, q2, q3, hr⟩
    all_goals
      have HR := Go.Lib.hid hr
      clear hr
      go_wp2_with fail
      clear d0 d1
      go_loopw [3, 4] (fun v i wk => ∃ j : Nat, j ≤ gn ∧ i = .int .i64 j ∧ (∃ b : Bool, v = .bool b ∧ Hid ((rr && (gs.take j).all okGd) = b)) ∧ SP w wk B ga gn gc sa sn sc gs ss) (fun _ i _ => gn - (intOf i).toNat)
      case atStart => exact ⟨0, Nat.zero_le _, rfl, ⟨_, rfl, Go.Lib.hid (by rw [HR.out]; first | rfl | (simp; omega))⟩, hI⟩
      case round =>
        clear hI
        try clear q1
        try clear q2
        try clear q3
        obtain ⟨j, hj, rfl, ⟨b, rfl, hb⟩, hI⟩ := hrel
        obtain ⟨d0, d1⟩ := hI.box
        by_cases hlt : j < gn
        · obtain ⟨x, hx⟩ : ∃ x, gs[j]? = some x := ⟨_, List.getElem?_eq_getElem (by have := HN.out.1; omega)⟩
          obtain ⟨b2, o2, rfl, hb2, hc2, hcs⟩ := gd_cells hI.lie.g hx HN.out.1
          obtain ⟨g0, g1, g2⟩ := hcs wr (Below.refl _ _)
          have hw := gd_walk x wr
          have hst := all_take okGd hx
          obtain ⟨r, hr⟩ : ∃ r, okGd x = r := ⟨_, rfl⟩
          rw [hr] at hw hst
          have HH := Go.Lib.hid hst
          clear hcs hx hr hst
          cases b with
          | true =>
            unfold gdA at hw
            obtain ⟨xk, xa, xv⟩ := x
            dsimp only at g0 g1 g2 hw
            go_wp2_with fail
            refine hw.mono ?_
            rintro e w5 ⟨rfl, f5⟩
            have hI5 := hI.fr f5
            clear hI f5 g0 g1 g2 hw d0 d1
            go_wp2_with fail
            go_roundw
            case rel => exact ⟨j + 1, by omega, by go_num, ⟨_, rfl, Go.Lib.hid (by rw [HH.out, ← Bool.and_assoc, hb.out]; rfl)⟩, hI5⟩
            case measure => simp [intOf]; omega
          | false =>
            clear hw g0 g1 g2
            go_wp2_with fail
            clear d0 d1
            go_roundw
            case rel => exact ⟨j + 1, by omega, by go_num, ⟨_, rfl, Go.Lib.hid (by rw [HH.out, ← Bool.and_assoc, hb.out]; rfl)⟩, hI⟩
            case measure => simp [intOf]; omega
        · obtain rfl : gn = j := by omega
          rw [List.take_of_length_le (by have := HN.out.1; omega)] at hb
          go_wp2_with fail
          clear d0 d1 hj hlt
          go_loopw [3, 5] (fun v i wk => ∃ j : Nat, j ≤ sn ∧ i = .int .i64 j ∧ (∃ b : Bool, v = .bool b ∧ Hid ((rr && gs.all okGd && (ss.take j).all okSp) = b)) ∧ SP w wk B ga gn gc sa sn sc gs ss) (fun _ i _ => sn - (intOf i).toNat)
          case atStart => exact ⟨0, Nat.zero_le _, rfl, ⟨_, rfl, Go.Lib.hid (by rw [hb.out]; simp)⟩, hI⟩
          case round =>
            clear hI hb
            obtain ⟨j, hj, rfl, ⟨b, rfl, hb⟩, hI⟩ := hrel
            obtain ⟨d0, d1⟩ := hI.box
            by_cases hlt : j < sn
            · (try (exfalso; omega)) <;> (
              obtain ⟨x, hx⟩ : ∃ x, ss[j]? = some x := ⟨_, List.getElem?_eq_getElem (by have := HN.out.2; omega)⟩
              obtain ⟨b2, o2, rfl, hb2, hc2, hcs⟩ := sp_cells hI.lie.s hx HN.out.2
              obtain ⟨g0, g1, g2, g3, g4⟩ := hcs wr (Below.refl _ _)
              have hw := sp_walk x wr
              have hst := all_take okSp hx
              obtain ⟨r, hr⟩ : ∃ r, okSp x = r := ⟨_, rfl⟩
              rw [hr] at hw hst
              have HH := Go.Lib.hid hst
              clear hcs hx hr hst
              cases b with
              | true =>
                unfold spA at hw
                obtain ⟨xk, xa, xv, xo, xn⟩ := x
                dsimp only at g0 g1 g2 g3 g4 hw
                go_wp2_with fail
                refine hw.mono ?_
                rintro e w5 ⟨rfl, f5⟩
                have hI5 := hI.fr f5
                clear hI f5 g0 g1 g2 g3 g4 hw d0 d1
                go_wp2_with fail
                go_roundw
                case rel => exact ⟨j + 1, by omega, by go_num, ⟨_, rfl, Go.Lib.hid (by rw [HH.out, ← Bool.and_assoc, hb.out]; rfl)⟩, hI5⟩
                case measure => simp [intOf]; omega
              | false =>
                clear hw g0 g1 g2 g3 g4
                go_wp2_with fail
                clear d0 d1
                go_roundw
                case rel => exact ⟨j + 1, by omega, by go_num, ⟨_, rfl, Go.Lib.hid (by rw [HH.out, ← Bool.and_assoc, hb.out]; rfl)⟩, hI⟩
                case measure => simp [intOf]; omega)
            · obtain rfl : sn = j := by omega
              rw [List.take_of_length_le (by have := HN.out.2; omega)] at hb
              have hw := ok_walk hI.lie (by omega) (by omega)
              rw [HK.out, hb.out] at hw
              clear hj hlt
              go_wp2_with fail
              refine hw.mono ?_
              rintro e w5 ⟨rfl, f5⟩
              have hI5 := hI.fr f5
              clear hI f5 d0 d1 hw
              obtain ⟨d0, d1⟩ := hI5.box
              have hq := same8_walk hI5.lie hI5.lie (by omega) (by omega) (by omega) (by omega)
              rw [eqOp_self] at hq
              go_wp2_with fail
              refine hq.mono ?_
              rintro e w6 ⟨rfl, f6⟩
              have hfr := hI5.f.trans f6
              clear hI5 f6 d0 d1 hq
              go_wp2_with fail
              refine (awake8_walk w6).mono ?_
              rintro e w7 ⟨rfl, f7⟩
              have hbel : Below B w w7 := hB ▸ (hfr.below.trans (f7.mono hfr.size))
              clear hfr f7
              go_wp2_with fail
              go_ret
              exact ⟨rfl, hbel⟩
  · go_enter Try.func7, Try.ntmps7
    go_wp2_with fail
    refine (few_no (w.alloc (.cells #[.slice ga gn gc, .slice sa sn sc] 52)) hf).mono ?_
    rintro e w2 ⟨rfl, f2⟩
    replace f2 := f1.trans f2
    clear f1 hf b1 hl h
    go_wp2_with fail
    refine (awake8_walk w2).mono ?_
    rintro e w3 ⟨rfl, f3⟩
    have hbel : Below B w w3 := hB ▸ (f2.below.trans (f3.mono f2.size))
    clear f2 f3
    go_wp2_with fail
    go_ret
    exact ⟨rfl, hbel⟩
end Go.Proofs.Ytgdmkiobidnhnaa
