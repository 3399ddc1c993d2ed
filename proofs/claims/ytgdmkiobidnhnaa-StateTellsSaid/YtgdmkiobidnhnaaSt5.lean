/-
  The states' example; the walks of StateBack and StateLeast. Conditions: what comes in lies where it says.
-/
import Derived.Test.YtgdmkiobidnhnaaChLaw
namespace Go.Proofs.Ytgdmkiobidnhnaa
open Go.RowKit Go.Shelf

theorem sl_new (w : World) (cs : List Value) (e n z : Nat) (hl : cs.length = n * z) : Sl (w.alloc (.cells cs.toArray e)) (.slice (some ⟨w.heap.size, 0, none⟩) n n) n z cs :=
  ⟨_, n, rfl, hl, Nat.le_refl _, .inr ⟨w.heap.size, 0, rfl, by simp, fun j u hu => by
    rw [Nat.zero_add, cell_at (heap_alloc_new w _)]; simpa using hu⟩⟩
def exA : Ps := [(⟨#[97]⟩, ⟨#[49]⟩), (⟨#[98]⟩, ⟨#[50]⟩)]
def exB : Ps := [(⟨#[98]⟩, ⟨#[51]⟩)]
def exL : Chs := [(⟨#[97]⟩, (false, ⟨#[]⟩)), (⟨#[98]⟩, (true, ⟨#[51]⟩))]
theorem ne_ab : (⟨#[97]⟩ : ByteArray) ≠ ⟨#[98]⟩ := fun e => ne_ba e.symm
theorem exA_up : Up exA := List.pairwise_cons.2 ⟨fun x hx => by rw [List.mem_singleton.1 hx]; exact lt_ab, List.pairwise_singleton _ _⟩
theorem exB_up : Up exB := List.pairwise_singleton _ _
theorem exL_up : Up exL := List.pairwise_cons.2 ⟨fun x hx => by rw [List.mem_singleton.1 hx]; exact lt_ab, List.pairwise_singleton _ _⟩
theorem ex_23 : (⟨#[50]⟩ : ByteArray) ≠ ⟨#[51]⟩ := by simp
theorem ex_diff : diff exA exB = exL := by
  refine up_get_ext (diff_up exA_up) exL_up fun k => ?_
  rw [get_diff]
  by_cases h1 : (⟨#[97]⟩ : ByteArray) = k
  · subst h1
    have g1 : get exA ⟨#[97]⟩ = some ⟨#[49]⟩ := by unfold exA; rw [get_cons, if_pos rfl]
    have g2 : get exB ⟨#[97]⟩ = none := by unfold exB; rw [get_cons, if_neg ne_ba]; rfl
    have g3 : get exL ⟨#[97]⟩ = some (false, ⟨#[]⟩) := by unfold exL; rw [get_cons, if_pos rfl]
    rw [g1, g2, g3, if_neg (fun e => by cases e)]
    unfold getC
    rw [g2]; rfl
  · by_cases h2 : (⟨#[98]⟩ : ByteArray) = k
    · subst h2
      have g1 : get exA ⟨#[98]⟩ = some ⟨#[50]⟩ := by unfold exA; rw [get_cons, if_neg ne_ab, get_cons, if_pos rfl]
      have g2 : get exB ⟨#[98]⟩ = some ⟨#[51]⟩ := by unfold exB; rw [get_cons, if_pos rfl]
      have g3 : get exL ⟨#[98]⟩ = some (true, ⟨#[51]⟩) := by unfold exL; rw [get_cons, if_neg ne_ab, get_cons, if_pos rfl]
      rw [g1, g2, g3, if_neg (fun e => ex_23 (Option.some.inj e))]
      unfold getC
      rw [g2]; rfl
    · have g1 : get exA k = none := by unfold exA; rw [get_cons, if_neg h1, get_cons, if_neg h2]; rfl
      have g2 : get exB k = none := by unfold exB; rw [get_cons, if_neg h2]; rfl
      have g3 : get exL k = none := by unfold exL; rw [get_cons, if_neg h1, get_cons, if_neg h2]; rfl
      rw [g1, g2, g3, if_pos rfl]
theorem ex_patch : patched exA exL = exB := by
  unfold patched
  rw [up_upB exA exA_up, if_pos rfl, ← ex_diff, patch_diff exA_up exB_up]
theorem ex_bad : upB [((⟨#[]⟩ : ByteArray), (⟨#[]⟩ : ByteArray)), (⟨#[]⟩, ⟨#[]⟩)] = false := by
  unfold upB; rw [lt_irrefl]; rfl
set_option maxRecDepth 20000 in
set_option maxHeartbeats 4000000 in
theorem awake7_walk (w : World) : Calls Try.prog 43 #[] w fun e w' => e = .returned (.bool true) ∧ Below w.heap.size w w' := by
  have f1 := (Fr.refl w).alloc (.cells #[.string ⟨#[97]⟩, .string ⟨#[49]⟩, .string ⟨#[98]⟩, .string ⟨#[50]⟩] 42)
  have s1 : Sl (w.alloc (.cells #[.string ⟨#[97]⟩, .string ⟨#[49]⟩, .string ⟨#[98]⟩, .string ⟨#[50]⟩] 42)) (.slice (some ⟨w.heap.size, 0, none⟩) 2 2) 2 2 (pairsL exA) := sl_new w [.string ⟨#[97]⟩, .string ⟨#[49]⟩, .string ⟨#[98]⟩, .string ⟨#[50]⟩] 42 2 2 rfl
  have hs1 : (w.alloc (.cells #[.string ⟨#[97]⟩, .string ⟨#[49]⟩, .string ⟨#[98]⟩, .string ⟨#[50]⟩] 42)).heap.size = w.heap.size + 1 := by simp
  have f2 := (Fr.refl (w.alloc (.cells #[.string ⟨#[97]⟩, .string ⟨#[49]⟩, .string ⟨#[98]⟩, .string ⟨#[50]⟩] 42))).alloc (.cells #[.string ⟨#[98]⟩, .string ⟨#[51]⟩] 42)
  have s2 : Sl _ (.slice (some ⟨_, 0, none⟩) 1 1) 1 2 (pairsL exB) := sl_new (w.alloc (.cells #[.string ⟨#[97]⟩, .string ⟨#[49]⟩, .string ⟨#[98]⟩, .string ⟨#[50]⟩] 42)) [.string ⟨#[98]⟩, .string ⟨#[51]⟩] 42 1 2 rfl
  rw [hs1] at s2
  replace s1 := s1.fr f2
  replace f1 := f1.trans f2
  clear hs1 f2
  go_enter Try.func43, Try.ntmps43
  go_wp2_with fail
  generalize (w.alloc (.cells #[.string ⟨#[97]⟩, .string ⟨#[49]⟩, .string ⟨#[98]⟩, .string ⟨#[50]⟩] 42)).alloc (.cells #[.string ⟨#[98]⟩, .string ⟨#[51]⟩] 42) = w1 at *
  change Sl w1 _ _ _ _ at s2
  have hd := diff_walk exA exB s1 s2 rfl rfl (by decide) (by decide) exA_up exB_up
  rw [ex_diff] at hd
  refine hd.mono ?_
  rintro e w2 ⟨a3, c3, rfl, hr3, f2⟩
  have s3 := owns_sl hr3
  replace s1 := s1.fr f2
  replace s2 := s2.fr f2
  replace f1 := f1.trans f2
  have hlen : exL.length = 2 := rfl
  rw [hlen] at s3 ⊢
  clear hd hr3 f2
  go_wp2_with fail
  have f3 := (Fr.refl w2).alloc (.cells #[.string ⟨#[97]⟩, .bool false, .string ⟨#[]⟩, .string ⟨#[98]⟩, .bool true, .string ⟨#[51]⟩] 69)
  have s4 : Sl (w2.alloc (.cells #[.string ⟨#[97]⟩, .bool false, .string ⟨#[]⟩, .string ⟨#[98]⟩, .bool true, .string ⟨#[51]⟩] 69)) (.slice (some ⟨w2.heap.size, 0, none⟩) 2 2) 2 3 (chL exL) := sl_new w2 [.string ⟨#[97]⟩, .bool false, .string ⟨#[]⟩, .string ⟨#[98]⟩, .bool true, .string ⟨#[51]⟩] 69 2 3 rfl
  replace s1 := s1.fr f3
  replace s2 := s2.fr f3
  replace s3 := s3.fr f3
  replace f1 := f1.trans f3
  clear f3
  refine (csame_walk exL s3 s4 rfl (by decide)).mono ?_
  rintro e w4 ⟨rfl, f4⟩
  replace s1 := s1.fr f4
  replace s2 := s2.fr f4
  replace s3 := s3.fr f4
  replace f1 := f1.trans f4
  clear s4 f4
  go_wp2_with fail
  have hp := patch_walk exA exL s1 s3 rfl rfl (by decide) (by decide)
  rw [ex_patch] at hp
  refine hp.mono ?_
  rintro e w5 ⟨a5, c5, rfl, hr5, f5⟩
  have s5 := owns_sl hr5
  replace s1 := s1.fr f5
  replace s2 := s2.fr f5
  replace f1 := f1.trans f5
  have hlen2 : exB.length = 1 := rfl
  rw [hlen2] at s5 ⊢
  clear hp hr5 f5 s3
  go_wp2_with fail
  refine (psame_walk exB s5 s2 rfl (by decide)).mono ?_
  rintro e w6 ⟨rfl, f6⟩
  replace s1 := s1.fr f6
  replace f1 := f1.trans f6
  clear s2 s5 f6
  go_wp2_with fail
  have hr := right_walk exA s1 rfl (by decide)
  rw [up_upB exA exA_up] at hr
  refine hr.mono ?_
  rintro e w7 ⟨rfl, f7⟩
  replace f1 := f1.trans f7
  clear s1 hr f7
  go_wp2_with fail
  have f8 := (Fr.refl w7).alloc (.cells #[.string ⟨#[]⟩, .string ⟨#[]⟩, .string ⟨#[]⟩, .string ⟨#[]⟩] 42)
  have s8 : Sl (w7.alloc (.cells #[.string ⟨#[]⟩, .string ⟨#[]⟩, .string ⟨#[]⟩, .string ⟨#[]⟩] 42)) (.slice (some ⟨w7.heap.size, 0, none⟩) 2 2) 2 2 (pairsL [(⟨#[]⟩, ⟨#[]⟩), (⟨#[]⟩, ⟨#[]⟩)]) := sl_new w7 [.string ⟨#[]⟩, .string ⟨#[]⟩, .string ⟨#[]⟩, .string ⟨#[]⟩] 42 2 2 rfl
  have hr := right_walk _ s8 rfl (by decide)
  rw [ex_bad] at hr
  refine hr.mono ?_
  rintro e w9 ⟨rfl, f9⟩
  replace f1 := f1.trans (f8.trans f9)
  clear s8 hr f8 f9
  go_wp2_with fail
  go_ret
  exact ⟨rfl, f1⟩
end Go.Proofs.Ytgdmkiobidnhnaa
