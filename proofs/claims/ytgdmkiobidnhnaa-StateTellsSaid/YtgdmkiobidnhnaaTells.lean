/-
  The walk of StateTells. Conditions: what comes in lies where it says.
-/
import Derived.Test.YtgdmkiobidnhnaaSt7
import Derived.Test.YtgdmkiobidnhnaaBack
namespace Go.Proofs.Ytgdmkiobidnhnaa
open Go.RowKit Go.Shelf

def diffU (A B : Ps) : Chs := if (upB A && upB B) = true then diff A B else []
theorem diffU_walk {a b : Option Addr} {n c n2 c2 : Nat} {w : World} (A B : Ps) (h : Sl w (.slice a n c) n 2 (pairsL A)) (h2 : Sl w (.slice b n2 c2) n2 2 (pairsL B)) (hl : A.length = n) (hl2 : B.length = n2) (hn : n ≤ 500) (hn2 : n2 ≤ 500) :
    Calls Try.prog 45 #[.slice a n c, .slice b n2 c2] w (DiffPost (diffU A B) w) := by
  cases hu : (upB A && upB B) with
  | false =>
    have e : diffU A B = [] := by unfold diffU; rw [hu]; rfl
    rw [e]; exact diff_not A B h h2 hl hl2 hn hn2 hu
  | true =>
    have e : diffU A B = diff A B := by unfold diffU; rw [hu]; rfl
    obtain ⟨h1, h3⟩ := Bool.and_eq_true_iff.1 hu
    rw [e]; exact diff_walk A B h h2 hl hl2 hn hn2 (upB_up A h1) (upB_up B h3)
theorem rdiffU_walk {a b : Option Addr} {n c n2 c2 : Nat} {w : World} (A B : Ps) (h : Sl w (.slice a n c) n 2 (pairsL A)) (h2 : Sl w (.slice b n2 c2) n2 2 (pairsL B)) (hl : A.length = n) (hl2 : B.length = n2) (hn : n ≤ 500) (hn2 : n2 ≤ 500) :
    Calls Try.prog 52 #[.slice a n c, .slice b n2 c2] w (DiffPost (diffU A B) w) := by
  cases hu : (upB A && upB B) with
  | false =>
    have e : diffU A B = [] := by unfold diffU; rw [hu]; rfl
    rw [e]; exact rdiff_not A B h h2 hl hl2 hn hn2 hu
  | true =>
    obtain ⟨h1, h3⟩ := Bool.and_eq_true_iff.1 hu
    have e : diffU A B = mdiff A B := by unfold diffU; rw [hu, mdiff_diff (upB_up A h1) (upB_up B h3)]; rfl
    rw [e]; exact rdiff_walk A B h h2 hl hl2 hn hn2 (upB_up A h1) (upB_up B h3)
theorem undo_U (m : Ps) (l : Chs) : undo m l = diffU (patched m l) m := by
  unfold undo diffU patched
  cases hu : upB m with
  | false => rfl
  | true =>
    rw [if_pos rfl, if_pos rfl, up_upB _ (patch_up l m (upB_up m hu))]; rfl
theorem diffU_len (A B : Ps) : (diffU A B).length ≤ A.length + B.length := by
  unfold diffU; split
  · exact diff_len A B
  · simp
theorem patched_len (m : Ps) (l : Chs) : (patched m l).length ≤ m.length + l.length := by
  unfold patched; split
  · exact patch_len l m
  · simp
set_option maxRecDepth 20000 in
set_option maxHeartbeats 8000000 in
theorem stateTells.walk {a b d : Option Addr} {n c n2 c2 n3 c3 : Nat} {w : World} (A B : Ps) (L : Chs) (h : Sl w (.slice a n c) n 2 (pairsL A)) (hl : A.length = n) (h2 : Sl w (.slice b n2 c2) n2 2 (pairsL B)) (hl2 : B.length = n2) (h3 : Sl w (.slice d n3 c3) n3 3 (chL L)) (hl3 : L.length = n3) :
    Calls Try.prog 11 #[.slice a n c, .slice b n2 c2, .slice d n3 c3] w fun e w' => e = .returned (.bool true) ∧ Below w.heap.size w w' := by
  by_cases hb : n ≤ 60 ∧ n2 ≤ 60 ∧ n3 ≤ 60
  case neg =>
    have haw := awake7_walk w
    obtain ⟨N, hN⟩ : ∃ N, w.heap.size = N := ⟨_, rfl⟩
    rw [hN] at haw ⊢
    clear h h2 hl hl2 h3 hl3
    have hcase : 60 < n ∨ (n ≤ 60 ∧ 60 < n2) ∨ (n ≤ 60 ∧ n2 ≤ 60 ∧ 60 < n3) := by omega
    clear hb
    rcases hcase with q1 | ⟨q1, q2⟩ | ⟨q1, q2, q3⟩
    all_goals
      go_enter Try.func11, Try.ntmps11
      go_wp2_with fail
      refine haw.mono ?_
      rintro e w' ⟨rfl, hbel⟩
      clear haw
      go_wp2_with fail
      go_ret
      exact ⟨rfl, hbel⟩
  obtain ⟨hn, hn2, hn3⟩ := hb
  have hr1 := right_walk A h hl (by omega)
  obtain ⟨ru, hru⟩ : ∃ r, upB A = r := ⟨_, rfl⟩
  rw [hru] at hr1
  have hd1 := diffU_len A B
  have hd2 := diffU_len (patched A L) A
  have hp1 := patched_len A L
  rw [hl, hl2] at hd1
  rw [hl] at hd2 hp1
  rw [hl3] at hp1
  have HN := Go.Lib.hid (And.intro hl (And.intro hl2 (And.intro hl3 hru)))
  have HS := Go.Lib.hid (And.intro h (And.intro h2 h3))
  clear h h2 h3 hl hl2 hl3 hru
  obtain ⟨z1, hz1⟩ : ∃ z, (diffU A B).length = z := ⟨_, rfl⟩
  obtain ⟨z2, hz2⟩ : ∃ z, (patched A L).length = z := ⟨_, rfl⟩
  obtain ⟨z3, hz3⟩ : ∃ z, (diffU (patched A L) A).length = z := ⟨_, rfl⟩
  rw [hz1] at hd1
  rw [hz2] at hp1 hd2
  rw [hz3] at hd2
  have HZ := Go.Lib.hid (And.intro hz1 (And.intro hz2 hz3))
  clear hz1 hz2 hz3
  go_enter Try.func11, Try.ntmps11
  go_wp2_with fail
  refine hr1.mono ?_
  rintro e w1 ⟨rfl, f⟩
  clear hr1
  have hr2 := rright_walk A (HS.out.1.fr f) HN.out.1 (by omega)
  rw [HN.out.2.2.2] at hr2
  go_wp2_with fail
  refine hr2.mono ?_
  rintro e w2 ⟨rfl, f'⟩
  replace f := f.trans f'
  clear hr2 f'
  have hnn : (ru != ru) = false := by cases ru <;> rfl
  have hc := diffU_walk A B (HS.out.1.fr f) (HS.out.2.1.fr f) HN.out.1 HN.out.2.1 (by omega) (by omega)
  have HC := Go.Lib.hid hc
  clear hc
  cases ru
  all_goals
    clear hnn
    go_wp2_with fail
    refine HC.out.mono ?_
    intro e w3 hpost
    obtain ⟨a3, z, c3', rfl, e1, s3, f'⟩ := hpost.out
    obtain rfl : z1 = z := HZ.out.1.symm.trans e1
    replace f := f.trans f'
    clear hpost e1 f' HC
    have hc := rdiffU_walk A B (HS.out.1.fr f) (HS.out.2.1.fr f) HN.out.1 HN.out.2.1 (by omega) (by omega)
    go_wp2_with fail
    refine hc.mono ?_
    intro e w4 hpost
    obtain ⟨a4, z, c4, rfl, e1, s4, f'⟩ := hpost.out
    obtain rfl : z1 = z := HZ.out.1.symm.trans e1
    replace f := f.trans f'
    replace s3 := s3.fr f'
    clear hpost e1 f' hc
    go_wp2_with fail
    refine (csame_walk _ s3 s4 HZ.out.1 (by omega)).mono ?_
    rintro e w5 ⟨rfl, f'⟩
    replace f := f.trans f'
    clear s3 s4 f'
    have hc := patch_walk A L (HS.out.1.fr f) (HS.out.2.2.fr f) HN.out.1 HN.out.2.2.1 (by omega) (by omega)
    go_wp2_with fail
    refine hc.mono ?_
    intro e w6 hpost
    obtain ⟨a6, z, c6, rfl, e1, s6, f'⟩ := hpost.out
    obtain rfl : z2 = z := HZ.out.2.1.symm.trans e1
    replace f := f.trans f'
    clear hpost e1 f' hc
    have hc := rpatch_walk A L (HS.out.1.fr f) (HS.out.2.2.fr f) HN.out.1 HN.out.2.2.1 (by omega) (by omega)
    go_wp2_with fail
    refine hc.mono ?_
    rintro e w7 ⟨a7, z, c7, rfl, e1, s7, f'⟩
    obtain rfl : z2 = z := HZ.out.2.1.symm.trans e1
    replace f := f.trans f'
    replace s6 := s6.fr f'
    clear e1 f' hc
    go_wp2_with fail
    refine (psame_walk _ s6 s7 HZ.out.2.1 (by omega)).mono ?_
    rintro e w8 ⟨rfl, f'⟩
    replace f := f.trans f'
    clear s6 s7 f'
    have hc := undo_walk A L (HS.out.1.fr f) (HS.out.2.2.fr f) HN.out.1 HN.out.2.2.1 (by omega) (by omega)
    rw [undo_U] at hc
    go_wp2_with fail
    refine hc.mono ?_
    intro e w9 hpost
    obtain ⟨a9, z, c9, rfl, e1, s9, f'⟩ := hpost.out
    obtain rfl : z3 = z := HZ.out.2.2.symm.trans e1
    replace f := f.trans f'
    clear hpost e1 f' hc
    have hc := rpatch_walk A L (HS.out.1.fr f) (HS.out.2.2.fr f) HN.out.1 HN.out.2.2.1 (by omega) (by omega)
    go_wp2_with fail
    refine hc.mono ?_
    rintro e w10 ⟨a10, z, c10, rfl, e1, s10, f'⟩
    obtain rfl : z2 = z := HZ.out.2.1.symm.trans e1
    replace f := f.trans f'
    replace s9 := s9.fr f'
    clear e1 f' hc
    have hc := rdiffU_walk (patched A L) A s10 (HS.out.1.fr f) HZ.out.2.1 HN.out.1 (by omega) (by omega)
    go_wp2_with fail
    refine hc.mono ?_
    intro e w11 hpost
    obtain ⟨a11, z, c11, rfl, e1, s11, f'⟩ := hpost.out
    obtain rfl : z3 = z := HZ.out.2.2.symm.trans e1
    replace f := f.trans f'
    replace s9 := s9.fr f'
    clear hpost e1 f' hc s10
    go_wp2_with fail
    refine (csame_walk _ s9 s11 HZ.out.2.2 (by omega)).mono ?_
    rintro e w12 ⟨rfl, f'⟩
    replace f := f.trans f'
    clear s9 s11 f'
    go_wp2_with fail
    go_loopw [7] (fun i wk => ∃ j : Nat, j ≤ n2 ∧ i = .int .i64 j ∧ Fr w wk) (fun i _ => n2 - (intOf i).toNat)
    case atStart => exact ⟨0, Nat.zero_le _, rfl, f⟩
    case round =>
      clear f
      obtain ⟨j, hj, rfl, f⟩ := hrel
      by_cases hlt : j < n2
      · obtain ⟨y, hy⟩ : ∃ y, B[j]? = some y := ⟨_, List.getElem?_eq_getElem (by have := HN.out.2.1; omega)⟩
        obtain ⟨b2, o2, rfl, hc2, hcs⟩ := pair_cells' HS.out.2.1 hy HN.out.2.1
        obtain ⟨y1, y2⟩ := y
        have hg1 := sget_walk A (HS.out.1.fr f) HN.out.1 (by omega) y1
        have hg2 : ∀ w', Fr w w' → Calls Try.prog 14 #[.slice a n c, .string y1] w' fun e w'' => e = .returned (.tuple #[.string ((get A y1).getD ⟨#[]⟩), .bool (get A y1).isSome]) ∧ Fr w' w'' := fun w' hw' => rget_walk A (HS.out.1.fr hw') HN.out.1 (by omega) y1
        obtain ⟨k0, k1⟩ := hcs wr f
        generalize (get A y1).getD ⟨#[]⟩ = v at *
        have hq : (v.toList == v.toList) = true := eqb_true v
        have HB := Go.Lib.hid hcs
        have HG := Go.Lib.hid hg2
        dsimp only at k0 k1 HB
        clear hcs hy hg2
        go_wp2_with fail
        refine hg1.mono ?_
        rintro e w13 ⟨rfl, f'⟩
        replace f := f.trans f'
        clear hg1 f' k0 k1
        obtain ⟨k0, k1⟩ := HB.out w13 f
        have hg2 := HG.out w13 f
        go_wp2_with fail
        refine hg2.mono ?_
        rintro e w14 ⟨rfl, f'⟩
        replace f := f.trans f'
        clear hg2 f' k0 k1 HB HG
        cases (get A y1).isSome
        all_goals
          go_wp2_with fail
          go_roundw
          case rel => exact ⟨j + 1, by omega, by go_num, f⟩
          case measure => simp [intOf]; omega
      · clear hj
        have haw := awake7_walk wr
        go_wp2_with fail
        refine haw.mono ?_
        rintro e w13 ⟨rfl, f'⟩
        have hbel : Below w.heap.size w w13 := f.below.trans (f'.mono f.size)
        clear f f' haw
        go_wp2_with fail
        go_ret
        exact ⟨rfl, hbel⟩
end Go.Proofs.Ytgdmkiobidnhnaa
