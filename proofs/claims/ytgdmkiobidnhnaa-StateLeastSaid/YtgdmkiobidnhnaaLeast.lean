/-
  The walk of StateLeast. Conditions: what comes in lies where it says.
-/
import Derived.Test.YtgdmkiobidnhnaaBack
namespace Go.Proofs.Ytgdmkiobidnhnaa
open Go.RowKit Go.Shelf

theorem up_rise {α : Type} {l : List (ByteArray × α)} {p q : Nat} {x y : ByteArray × α} (h : Up l) (hpq : p < q) (hx : l[p]? = some x) (hy : l[q]? = some y) : lt x.1 y.1 = true := by
  obtain ⟨q1, e1⟩ := List.getElem?_eq_some_iff.1 hx
  obtain ⟨q2, e2⟩ := List.getElem?_eq_some_iff.1 hy
  have := List.pairwise_iff_getElem.1 h p q q1 q2 hpq
  rw [e1, e2] at this; exact this
theorem cnt_le {α : Type} (l : List (ByteArray × α)) (k : ByteArray) : cnt l k ≤ l.length := List.length_filter_le _ _
theorem cnt_diff {A B : Ps} (hA : Up A) (k : ByteArray) : cnt (diff A B) k = if get A k = get B k then 0 else 1 := by
  rw [cnt_up k (diff_up hA), get_diff]
  by_cases h : get A k = get B k
  · rw [if_pos h, if_pos h]; rfl
  · rw [if_neg h, if_neg h]; rfl
set_option maxRecDepth 20000 in
set_option maxHeartbeats 8000000 in
theorem stateLeast.walk {a b : Option Addr} {n c n2 c2 : Nat} {w : World} (x y : Ps) (h : Sl w (.slice a n c) n 2 (pairsL x)) (hl : x.length = n) (h2 : Sl w (.slice b n2 c2) n2 2 (pairsL y)) (hl2 : y.length = n2) (key : ByteArray) :
    Calls Try.prog 10 #[.slice a n c, .slice b n2 c2, .string key] w fun e w' => e = .returned (.bool true) ∧ Below w.heap.size w w' := by
  by_cases hb : n ≤ 60 ∧ n2 ≤ 60
  case neg =>
    have haw := awake7_walk w
    obtain ⟨N, hN⟩ : ∃ N, w.heap.size = N := ⟨_, rfl⟩
    rw [hN] at haw ⊢
    clear h h2 hl hl2
    by_cases hb1 : 60 < n
    · clear hb
      go_enter Try.func10, Try.ntmps10
      go_wp2_with fail
      refine haw.mono ?_
      rintro e w' ⟨rfl, hbel⟩
      clear haw
      go_wp2_with fail
      go_ret
      exact ⟨rfl, hbel⟩
    · have hb2 : 60 < n2 := by omega
      clear hb
      go_enter Try.func10, Try.ntmps10
      go_wp2_with fail
      refine haw.mono ?_
      rintro e w' ⟨rfl, hbel⟩
      clear haw
      go_wp2_with fail
      go_ret
      exact ⟨rfl, hbel⟩
  obtain ⟨hn, hn2⟩ := hb
  have hu := state_up x
  have hu2 := state_up y
  have hsl := state_len x
  have hsl2 := state_len y
  have hw1 := state_walk x h hl (by omega)
  have hw2 : ∀ w', Fr w w' → Calls Try.prog 44 #[.slice b n2 c2] w' (ListPost (stateOf y) w') := fun w' hw' => state_walk y (h2.fr hw') hl2 (by omega)
  rw [hl] at hsl
  rw [hl2] at hsl2
  clear h h2 hl hl2
  generalize stateOf x = A at *
  generalize stateOf y = B at *
  have hld := diff_len A B
  obtain ⟨p, hp⟩ : ∃ p, A.length = p := ⟨_, rfl⟩
  obtain ⟨q, hq⟩ : ∃ q, B.length = q := ⟨_, rfl⟩
  rw [hp] at hsl hld
  rw [hq] at hsl2 hld
  have HP := Go.Lib.hid (And.intro hp (And.intro hq (And.intro hu hu2)))
  have HW := Go.Lib.hid hw2
  clear hp hq hu hu2 hw2
  go_enter Try.func10, Try.ntmps10
  go_wp2_with fail
  refine hw1.mono ?_
  intro e w1 hpost
  obtain ⟨a1, p', c1, rfl, e1, s1, f1⟩ := hpost.out
  obtain rfl : p = p' := HP.out.1.symm.trans e1
  clear hpost hw1 e1
  have hw2 := HW.out w1 f1
  go_wp2_with fail
  refine hw2.mono ?_
  intro e w2 hpost
  obtain ⟨a2, q', c2', rfl, e1, s2, f2⟩ := hpost.out
  obtain rfl : q = q' := HP.out.2.1.symm.trans e1
  replace s1 := s1.fr f2
  replace f1 := f1.trans f2
  clear hpost hw2 e1 f2
  have hd := diff_walk A B s1 s2 HP.out.1 HP.out.2.1 (by omega) (by omega) HP.out.2.2.1 HP.out.2.2.2
  have hlu := diff_up (b := B) HP.out.2.2.1
  have hct := cnt_diff (B := B) HP.out.2.2.1 key
  generalize diff A B = L at *
  go_wp2_with fail
  refine hd.mono ?_
  intro e w3 hpost
  obtain ⟨a3, r, c3, rfl, e1, s3, f2⟩ := hpost.out
  rw [e1] at hld
  have HR := Go.Lib.hid (And.intro e1 (And.intro hlu hct))
  replace s1 := s1.fr f2
  replace s2 := s2.fr f2
  replace f1 := f1.trans f2
  have HS := Go.Lib.hid (And.intro s1 (And.intro s2 (And.intro s3 f1)))
  clear hpost hd e1 f2 hlu hct s1 s2 s3 f1
  go_wp2_with fail
  go_loopw [10, 11] (fun t i wk => ∃ (j z : Nat), j ≤ r ∧ i = .int .i64 (j : Nat) ∧ t = .int .i64 (z : Nat) ∧ cnt (L.take j) key = z ∧ Fr w3 wk) (fun _ i _ => r - (intOf i).toNat)
  case atStart => exact ⟨0, 0, Nat.zero_le _, rfl, rfl, rfl, Fr.refl _⟩
  case round =>
    obtain ⟨j, z, hj, rfl, rfl, hz, hf⟩ := hrel
    by_cases hlt : j < r
    · obtain ⟨yv, hy⟩ : ∃ y, L[j]? = some y := ⟨_, List.getElem?_eq_getElem (by rw [HR.out.1]; omega)⟩
      obtain ⟨b2, o2, rfl, hc2, hcs2⟩ := ch_cells HS.out.2.2.1 hy HR.out.1
      have hzb : z ≤ j := by have := cnt_le (L.take j) key; rw [hz, List.length_take] at this; omega
      have hst := cnt_take key hy
      rw [hz] at hst
      have hcs : ∀ w', Fr wr w' → w'.cell? ⟨b2, o2 + j * 3, none⟩ = some (.string yv.1) := fun w' hw' => (hcs2 w' (hf.trans hw')).1
      obtain ⟨rk, hrk⟩ : ∃ rk, (yv.1.toList == key.toList) = rk := ⟨_, rfl⟩
      have hst2 : cnt (L.take (j + 1)) key = if rk = true then z + 1 else z := by
        rw [hst]
        by_cases he : yv.1 = key
        · have : rk = true := by rw [← hrk, he]; exact eqb_true key
          rw [if_pos he, if_pos this]
        · have : rk = false := by rw [← hrk]; exact eqb_false he
          rw [if_neg he, this]; rfl
      have hprev : ∀ (p : Nat) (x : ByteArray × (Bool × ByteArray)), p + 1 = j → L[p]? = some x → lt x.1 yv.1 = true := fun p x hp hx => up_rise HR.out.2.1 (by omega) hx hy
      obtain ⟨y1, y2⟩ := yv
      dsimp only at hcs hrk hprev
      have HH := Go.Lib.hid (And.intro hst2 hf)
      clear hst hst2 hy hcs2 hz hf
      by_cases h0 : j = 0
      · subst h0
        simp only [Nat.zero_mul, Nat.add_zero] at hcs
        clear hprev
        go_wp2_with fail
        refine wp_region_classW (Fr wr) (by kernel_rfl) (by kernel_rfl) (Fr.draw _) ?_
        repeat (first
          | (refine WQ.val rfl ?_
             apply Exists.intro
             refine ⟨?_, ?_⟩
             focus (intro w' hw'; go_simp; (try go_bits); with_reducible rfl)
             simp only [Act.put, List.setIfInBounds_toArray, List.set_cons_zero, List.set_cons_succ])
          | (refine WQ.pass rfl ?_
             simp only [Act.put, List.setIfInBounds_toArray, List.set_cons_zero, List.set_cons_succ]))
        refine WQ.nil ?_
        intro w6 f6
        have d0 := hcs w6 f6
        clear hcs
        cases rk with
        | true =>
          go_wp2_with fail
          go_roundw
          case rel => exact ⟨1, z + 1, by omega, by go_num, by go_num, by have := HH.out.1; simpa using this, HH.out.2.trans f6⟩
          case measure => simp [intOf]; omega
        | false =>
          go_wp2_with fail
          go_roundw
          case rel => exact ⟨1, z, by omega, by go_num, rfl, by have := HH.out.1; simpa using this, HH.out.2.trans f6⟩
          case measure => simp [intOf]; omega
      · obtain ⟨p0, hpq⟩ : ∃ p, p + 1 = j := ⟨j - 1, by omega⟩
        obtain ⟨xv, hx⟩ : ∃ x, L[p0]? = some x := ⟨_, List.getElem?_eq_getElem (by rw [HR.out.1]; omega)⟩
        have hri := hprev p0 xv hpq hx
        obtain ⟨b1, o1, e2, hc1, hcs1⟩ := ch_cells HS.out.2.2.1 hx HR.out.1
        cases e2
        obtain ⟨x1, x2⟩ := xv
        have hri2 : Op.bytesLess x1.toList y1.toList = true := hri
        have hcp : ∀ w', Fr wr w' → w'.cell? ⟨b2, o2 + p0 * 3, none⟩ = some (.string x1) := fun w' hw' => (hcs1 w' (HH.out.2.trans hw')).1
        have hi1 : IntKind.i64.wrap ((j : Int) - 1) = (p0 : Nat) := by rw [IntWalk.i64_in _ (by omega)]; omega
        have hplt : p0 < r := by omega
        have h0' : 0 < j := by omega
        have HQ := Go.Lib.hid hpq
        clear hpq hx hri hprev hcs1 h0
        go_wp2_with fail
        refine wp_region_classW (Fr wr) (by kernel_rfl) (by kernel_rfl) (Fr.draw _) ?_
        repeat (first
          | (refine WQ.val rfl ?_
             apply Exists.intro
             refine ⟨?_, ?_⟩
             focus (intro w' hw'; go_simp; (try go_bits); with_reducible rfl)
             simp only [Act.put, List.setIfInBounds_toArray, List.set_cons_zero, List.set_cons_succ])
          | (refine WQ.pass rfl ?_
             simp only [Act.put, List.setIfInBounds_toArray, List.set_cons_zero, List.set_cons_succ]))
        refine WQ.nil ?_
        intro w6 f6
        have d0 := hcs w6 f6
        clear hcs hcp
        cases rk with
        | true =>
          go_wp2_with fail
          go_roundw
          case rel => exact ⟨j + 1, z + 1, by omega, by go_num, by go_num, by have := HH.out.1; simpa using this, HH.out.2.trans f6⟩
          case measure => simp [intOf]; omega
        | false =>
          go_wp2_with fail
          go_roundw
          case rel => exact ⟨j + 1, z, by omega, by go_num, rfl, by have := HH.out.1; simpa using this, HH.out.2.trans f6⟩
          case measure => simp [intOf]; omega
    · obtain rfl : r = j := by omega
      rw [List.take_of_length_le (by rw [HR.out.1]; exact Nat.le_refl _), HR.out.2.2] at hz
      have hg1 := sget_walk A (HS.out.1.fr hf) HP.out.1 (by omega) key
      have hg2 : ∀ w', Fr wr w' → Calls Try.prog 48 #[.slice a2 q c2', .string key] w' fun e w'' => e = .returned (.tuple #[.string ((get B key).getD ⟨#[]⟩), .bool (get B key).isSome]) ∧ Fr w' w'' := fun w' hw' => sget_walk B (HS.out.2.1.fr (hf.trans hw')) HP.out.2.1 (by omega) key
      have hgc := getC_iff A B key
      unfold getC at hgc
      have hcase : (z = 0 ∧ (get B key).isSome = (get A key).isSome ∧ (get B key).getD ⟨#[]⟩ = (get A key).getD ⟨#[]⟩) ∨ (z = 1 ∧ ((get B key).isSome ≠ (get A key).isSome ∨ (get A key).getD ⟨#[]⟩ ≠ (get B key).getD ⟨#[]⟩)) := by
        by_cases hg : get A key = get B key
        · rw [if_pos hg] at hz
          exact .inl ⟨hz.symm, by rw [hg], by rw [hg]⟩
        · rw [if_neg hg] at hz
          refine .inr ⟨hz.symm, ?_⟩
          by_cases e1 : (get B key).isSome = (get A key).isSome
          · by_cases e2 : (get A key).getD ⟨#[]⟩ = (get B key).getD ⟨#[]⟩
            · exact absurd (hgc.1 (by rw [e1, e2])) hg
            · exact .inr e2
          · exact .inl e1
      have hff := HS.out.2.2.2.trans hf
      generalize (get A key).isSome = s1 at *
      generalize (get B key).isSome = s2 at *
      generalize (get A key).getD ⟨#[]⟩ = v1 at *
      generalize (get B key).getD ⟨#[]⟩ = v2 at *
      have HC := Go.Lib.hid hcase
      have HG := Go.Lib.hid hg2
      clear hz hgc hcase hf hg2 hj hlt
      go_wp2_with fail
      refine hg1.mono ?_
      rintro e w7 ⟨rfl, f7⟩
      have hg2 := HG.out w7 f7
      replace hff := hff.trans f7
      clear hg1 f7
      go_wp2_with fail
      refine hg2.mono ?_
      rintro e w8 ⟨rfl, f8⟩
      replace hff := hff.trans f8
      clear hg2 f8 HG
      have haw := awake7_walk w8
      rcases HC.out with ⟨rfl, rfl, rfl⟩ | ⟨rfl, hne⟩
      · have hq : (v2.toList == v2.toList) = true := eqb_true _
        cases s2
        all_goals
          go_wp2_with fail
          refine haw.mono ?_
          rintro e w9 ⟨rfl, f9⟩
          have hbel : Below w.heap.size w w9 := hff.below.trans (f9.mono hff.size)
          clear hff f9 haw
          go_wp2_with fail
          go_ret
          exact ⟨rfl, hbel⟩
      · by_cases hv : v1 = v2
        · subst hv
          have hq : (v1.toList == v1.toList) = true := eqb_true _
          have hs : s2 ≠ s1 := hne.elim id (fun h => absurd rfl h)
          clear HC hne
          cases s1 <;> cases s2 <;> first | exact absurd rfl hs | skip
          all_goals
            clear hs
            go_wp2_with fail
            refine haw.mono ?_
            rintro e w9 ⟨rfl, f9⟩
            have hbel : Below w.heap.size w w9 := hff.below.trans (f9.mono hff.size)
            clear hff f9 haw
            go_wp2_with fail
            go_ret
            exact ⟨rfl, hbel⟩
        · have hq : (v1.toList == v2.toList) = false := eqb_false hv
          clear HC hne hv
          go_wp2_with fail
          refine haw.mono ?_
          rintro e w9 ⟨rfl, f9⟩
          have hbel : Below w.heap.size w w9 := hff.below.trans (f9.mono hff.size)
          clear hff f9 haw
          go_wp2_with fail
          go_ret
          exact ⟨rfl, hbel⟩
end Go.Proofs.Ytgdmkiobidnhnaa
