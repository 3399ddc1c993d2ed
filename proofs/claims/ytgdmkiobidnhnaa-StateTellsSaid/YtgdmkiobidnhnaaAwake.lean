/-
  The chapter's example is answered as it says. Conditions: none.
-/
import Derived.Test.YtgdmkiobidnhnaaRest
namespace Go.Proofs.Ytgdmkiobidnhnaa
open Go.RowKit

theorem lt_ab : lt ⟨#[97]⟩ ⟨#[98]⟩ = true := by unfold lt; simp; decide
theorem lt_ba : lt ⟨#[98]⟩ ⟨#[97]⟩ = false := lt_asymm lt_ab
theorem ne_ba : (⟨#[98]⟩ : ByteArray) ≠ ⟨#[97]⟩ := fun e => by have := lt_ab; rw [e, lt_irrefl] at this; cases this
theorem ex_put : put [((⟨#[98]⟩ : ByteArray), (⟨#[49]⟩ : ByteArray))] ⟨#[97]⟩ ⟨#[50]⟩ = [(⟨#[97]⟩, ⟨#[50]⟩), (⟨#[98]⟩, ⟨#[49]⟩)] := by
  rw [put, if_neg (by rw [lt_ba]; decide), if_neg ne_ba]
theorem ex_from : gathered [((⟨#[97]⟩ : ByteArray), (⟨#[50]⟩ : ByteArray)), (⟨#[98]⟩, ⟨#[49]⟩)] ⟨#[98]⟩ 9 = [(⟨#[98]⟩, ⟨#[49]⟩)] := by
  have : rank [((⟨#[97]⟩ : ByteArray), (⟨#[50]⟩ : ByteArray)), (⟨#[98]⟩, ⟨#[49]⟩)] ⟨#[98]⟩ = 1 := by
    rw [rank, if_pos lt_ab, rank, if_neg (by rw [lt_irrefl]; decide)]
  unfold gathered
  rw [this]; rfl
theorem ex_nil : gathered [] ⟨#[]⟩ 9 = [] := rfl
theorem fin_one (w : World) (x y : ByteArray) : Sl (w.alloc (.cells #[.string x, .string y] 42)) (.slice (some ⟨w.heap.size, 0, none⟩) 1 1) 1 2 (pairsL [(x, y)]) :=
  ⟨_, 1, rfl, rfl, Nat.le_refl _, .inr ⟨w.heap.size, 0, rfl, by simp, fun j u hu => by
    rw [Nat.zero_add, cell_at (heap_alloc_new w _)]; simpa [pairsL] using hu⟩⟩
theorem put_b {B T : Nat} {F : Nat → Prop} {l l' : Ps} {w : World} (h : Tb B F T l w) (hn : l.length ≤ 100000) (k v : ByteArray) (he : put l k v = l') : Calls Try.prog 16 #[.pointer (some ⟨T, 0, none⟩), .string k, .string v] w fun e w' => e = .returned (.tuple #[]) ∧ (∃ F', Tb B F' T l' w') ∧ Below B w w' :=
  (put_tb h hn k v).mono fun _ _ ⟨h1, F', h2, _, h4⟩ => ⟨h1, ⟨F', he ▸ h2⟩, h.below h4⟩
set_option maxRecDepth 20000 in
set_option maxHeartbeats 4000000 in
theorem awake_walk (w : World) : Calls Try.prog 12 #[] w fun e w' => e = .returned (.bool true) ∧ Below w.heap.size w w' := by
  go_enter Try.func12, Try.ntmps12
  go_wp2_with fail
  refine (new_tb w).mono ?_
  rintro e w1 ⟨T, F, rfl, h1, f1⟩
  have g1 : Below w.heap.size w w1 := f1
  go_wp2_with fail
  refine (put_b h1 (Nat.zero_le _) ⟨#[98]⟩ ⟨#[49]⟩ rfl).mono ?_
  rintro e w2 ⟨rfl, ⟨F2, h2⟩, g2⟩
  replace g2 := g1.trans g2
  clear h1 g1 f1
  go_wp2_with fail
  refine (put_b h2 (by decide) ⟨#[97]⟩ ⟨#[50]⟩ ex_put).mono ?_
  rintro e w3 ⟨rfl, ⟨F3, h3⟩, g3⟩
  replace g3 := g2.trans g3
  clear h2 g2
  go_wp2_with fail
  refine (key_tb h3 (i := 0) rfl).mono ?_
  rintro e w4 ⟨rfl, rfl⟩
  go_wp2_with fail
  refine (put_nil _ _ _).mono ?_
  rintro e w4 ⟨rfl, rfl⟩
  go_wp2_with fail
  refine (get_nil _ _).mono ?_
  rintro e w4 ⟨rfl, rfl⟩
  have hq : ((⟨#[97]⟩ : ByteArray).toList == (⟨#[97]⟩ : ByteArray).toList) = true := eqb_true _
  go_wp2_with fail
  refine (len_tb h3).mono ?_
  rintro e w4 ⟨rfl, rfl⟩
  go_wp2_with fail
  have hfr := from_list (some ⟨T, 0, none⟩) _ (by decide) ⟨#[98]⟩ 9 (by decide) w3 (.inr ⟨T, rfl, h3.seen⟩)
  rw [ex_from] at hfr
  refine hfr.mono ?_
  clear hfr
  rintro e w5 ⟨a, c, rfl, hr, f5⟩
  replace g3 := g3.trans (f5.below_of h3.le)
  have hs1 := owns_sl hr
  have hs2 := fin_one w5 ⟨#[98]⟩ ⟨#[49]⟩
  have f6 := (Fr.refl w5).alloc (.cells #[.string ⟨#[98]⟩, .string ⟨#[49]⟩] 42)
  replace hs1 := hs1.fr f6
  have hB := h3.le
  have hz5 := f5.size
  clear h3 hr f5
  go_wp2_with fail
  refine (psame_walk _ hs1 hs2 rfl (by decide)).mono ?_
  rintro e w7 ⟨rfl, f7⟩
  replace f7 := f6.trans f7
  replace g3 := g3.trans (f7.below_of (by omega))
  have hz7 := f7.size
  clear hs1 hs2 f6 f7
  go_wp2_with fail
  refine (copy_nil _).mono ?_
  rintro e w4 ⟨rfl, rfl⟩
  go_wp2_with fail
  refine (len_nil _).mono ?_
  rintro e w4 ⟨rfl, rfl⟩
  go_wp2_with fail
  refine (from_list none [] (by decide) ⟨#[]⟩ 9 (by decide) w7 (.inl ⟨rfl, rfl⟩)).mono ?_
  rw [ex_nil]
  rintro e w8 ⟨a, c, rfl, _, f8⟩
  replace g3 := g3.trans (f8.below_of (by omega))
  clear f8
  go_wp2_with fail
  refine (del_nil _ _).mono ?_
  rintro e w4 ⟨rfl, rfl⟩
  go_wp2_with fail
  go_ret
  exact ⟨rfl, g3⟩
end Go.Proofs.Ytgdmkiobidnhnaa
