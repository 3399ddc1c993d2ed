/-
  The walk of StateBack. Conditions: what comes in lies where it says.
-/
import Derived.Test.YtgdmkiobidnhnaaSt5
namespace Go.Proofs.Ytgdmkiobidnhnaa
open Go.RowKit Go.Shelf

theorem ListPost.out {l : Ps} {W w' : World} {e : Ending} (h : ListPost l W e w') : ∃ a n c, e = .returned (.slice a n c) ∧ l.length = n ∧ Sl w' (.slice a n c) n 2 (pairsL l) ∧ Fr W w' := by
  obtain ⟨a, c, h1, h2, h3⟩ := h
  exact ⟨a, _, c, h1, rfl, owns_sl h2, h3⟩
theorem DiffPost.out {l : Chs} {W w' : World} {e : Ending} (h : DiffPost l W e w') : ∃ a n c, e = .returned (.slice a n c) ∧ l.length = n ∧ Sl w' (.slice a n c) n 3 (chL l) ∧ Fr W w' := by
  obtain ⟨a, c, h1, h2, h3⟩ := h
  exact ⟨a, _, c, h1, rfl, owns_sl h2, h3⟩
theorem diff_len (a b : Ps) : (diff a b).length ≤ a.length + b.length := Nat.le_trans (difK_len a b _) (uni_len b a)
set_option maxRecDepth 20000 in
set_option maxHeartbeats 4000000 in
theorem stateBack.walk {a b : Option Addr} {n c n2 c2 : Nat} {w : World} (x y : Ps) (h : Sl w (.slice a n c) n 2 (pairsL x)) (hl : x.length = n) (h2 : Sl w (.slice b n2 c2) n2 2 (pairsL y)) (hl2 : y.length = n2) :
    Calls Try.prog 9 #[.slice a n c, .slice b n2 c2] w fun e w' => e = .returned (.bool true) ∧ Below w.heap.size w w' := by
  by_cases hb : n ≤ 60 ∧ n2 ≤ 60
  case neg =>
    have haw := awake7_walk w
    obtain ⟨N, hN⟩ : ∃ N, w.heap.size = N := ⟨_, rfl⟩
    rw [hN] at haw ⊢
    clear h h2 hl hl2
    by_cases hb1 : 60 < n
    · clear hb
      go_enter Try.func9, Try.ntmps9
      go_wp2_with fail
      refine haw.mono ?_
      rintro e w' ⟨rfl, hbel⟩
      clear haw
      go_wp2_with fail
      go_ret
      exact ⟨rfl, hbel⟩
    · have hb2 : 60 < n2 := by omega
      clear hb
      go_enter Try.func9, Try.ntmps9
      go_wp2_with fail
      refine haw.mono ?_
      rintro e w' ⟨rfl, hbel⟩
      clear haw
      go_wp2_with fail
      go_ret
      exact ⟨rfl, hbel⟩
  obtain ⟨hn, hn2⟩ := hb
  have hu := state_up x
  have hu2 := state_up y
  have hsl := state_len x
  have hsl2 := state_len y
  have hw1 := state_walk x h hl (by omega)
  have hw2 : ∀ w', Fr w w' → Calls Try.prog 44 #[.slice b n2 c2] w' (ListPost (stateOf y) w') := fun w' hw' => state_walk y (h2.fr hw') hl2 (by omega)
  rw [hl] at hsl
  rw [hl2] at hsl2
  have HX := Go.Lib.hid (And.intro hl hl2)
  clear h h2 hl hl2
  generalize stateOf x = A at *
  generalize stateOf y = B at *
  have hpd := patch_diff hu hu2
  have hud := undo_diff hu hu2
  have hss := diff_self hu
  have hp1 : patched A (diff A B) = B := by unfold patched; rw [up_upB A hu, if_pos rfl, hpd]
  have hp2 : patched B (undo A (diff A B)) = A := by unfold patched; rw [up_upB B hu2, if_pos rfl, hud]
  have hld := diff_len A B
  have hlu : (undo A (diff A B)).length ≤ B.length + A.length := by
    unfold undo; rw [up_upB A hu, if_pos rfl, hpd]; exact diff_len B A
  obtain ⟨p, hp⟩ : ∃ p, A.length = p := ⟨_, rfl⟩
  obtain ⟨q, hq⟩ : ∃ q, B.length = q := ⟨_, rfl⟩
  rw [hp] at hsl hld hlu
  rw [hq] at hsl2 hld hlu
  have HP := Go.Lib.hid (And.intro hp (And.intro hq (And.intro hu (And.intro hu2 (And.intro hp1 (And.intro hp2 hss))))))
  have HW := Go.Lib.hid hw2
  clear hpd hud hss hp1 hp2 hp hq hu hu2 hw2
  go_enter Try.func9, Try.ntmps9
  go_wp2_with fail
  refine hw1.mono ?_
  intro e w1 hpost
  obtain ⟨a1, p', c1, rfl, e1, s1, f1⟩ := hpost.out
  obtain rfl : p = p' := HP.out.1.symm.trans e1
  clear hpost hw1 e1
  have hw2 := HW.out w1 f1
  go_wp2_with fail
  refine hw2.mono ?_
  intro e w2 hpost
  obtain ⟨a2, q', c2', rfl, e1, s2, f2⟩ := hpost.out
  obtain rfl : q = q' := HP.out.2.1.symm.trans e1
  replace s1 := s1.fr f2
  replace f1 := f1.trans f2
  clear hpost hw2 e1 f2
  have hd := diff_walk A B s1 s2 HP.out.1 HP.out.2.1 (by omega) (by omega) HP.out.2.2.1 HP.out.2.2.2.1
  go_wp2_with fail
  refine hd.mono ?_
  intro e w3 hpost
  obtain ⟨a3, r, c3, rfl, e1, s3, f2⟩ := hpost.out
  rw [e1] at hld
  have HR := Go.Lib.hid e1
  replace s1 := s1.fr f2
  replace s2 := s2.fr f2
  replace f1 := f1.trans f2
  clear hpost hd e1 f2
  have hpw := patch_walk A (diff A B) s1 s3 HP.out.1 HR.out (by omega) (by omega)
  rw [HP.out.2.2.2.2.1] at hpw
  go_wp2_with fail
  refine hpw.mono ?_
  intro e w4 hpost
  obtain ⟨a4, q', c4, rfl, e1, s4, f2⟩ := hpost.out
  obtain rfl : q = q' := HP.out.2.1.symm.trans e1
  replace s1 := s1.fr f2
  replace s2 := s2.fr f2
  replace s3 := s3.fr f2
  replace f1 := f1.trans f2
  clear hpost hpw e1 f2
  go_wp2_with fail
  refine (psame_walk B s4 s2 HP.out.2.1 (by omega)).mono ?_
  rintro e w5 ⟨rfl, f2⟩
  replace s1 := s1.fr f2
  replace s2 := s2.fr f2
  replace s3 := s3.fr f2
  replace f1 := f1.trans f2
  clear s4 f2
  have huw := undo_walk A (diff A B) s1 s3 HP.out.1 HR.out (by omega) (by omega)
  go_wp2_with fail
  refine huw.mono ?_
  intro e w6 hpost
  obtain ⟨a6, z, c6, rfl, e1, s6, f2⟩ := hpost.out
  rw [e1] at hlu
  have HZ := Go.Lib.hid e1
  replace s1 := s1.fr f2
  replace s2 := s2.fr f2
  replace f1 := f1.trans f2
  clear hpost huw e1 f2 s3
  have hpw := patch_walk B (undo A (diff A B)) s2 s6 HP.out.2.1 HZ.out (by omega) (by omega)
  rw [HP.out.2.2.2.2.2.1] at hpw
  go_wp2_with fail
  refine hpw.mono ?_
  intro e w7 hpost
  obtain ⟨a7, p', c7, rfl, e1, s7, f2⟩ := hpost.out
  obtain rfl : p = p' := HP.out.1.symm.trans e1
  replace s1 := s1.fr f2
  replace f1 := f1.trans f2
  clear hpost hpw e1 f2 s2 s6
  go_wp2_with fail
  refine (psame_walk A s7 s1 HP.out.1 (by omega)).mono ?_
  rintro e w8 ⟨rfl, f2⟩
  replace s1 := s1.fr f2
  replace f1 := f1.trans f2
  clear s7 f2
  have hd := diff_walk A A s1 s1 HP.out.1 HP.out.1 (by omega) (by omega) HP.out.2.2.1 HP.out.2.2.1
  rw [HP.out.2.2.2.2.2.2] at hd
  go_wp2_with fail
  refine hd.mono ?_
  rintro e w9 ⟨a9, c9, rfl, _, f2⟩
  replace f1 := f1.trans f2
  clear hd f2 s1
  have hz : ([] : Chs).length = 0 := rfl
  rw [hz]
  go_wp2_with fail
  refine (awake7_walk w9).mono ?_
  rintro e w10 ⟨rfl, f2⟩
  have hbel : Below w.heap.size w w10 := f1.below.trans (f2.mono f1.size)
  clear f1 f2
  go_wp2_with fail
  go_ret
  exact ⟨rfl, hbel⟩
end Go.Proofs.Ytgdmkiobidnhnaa
