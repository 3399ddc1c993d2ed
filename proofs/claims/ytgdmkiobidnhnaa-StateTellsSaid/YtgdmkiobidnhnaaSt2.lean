/-
  A map told as a state. Conditions: the map is as it says.
-/
import Derived.Test.YtgdmkiobidnhnaaSt1
import Derived.Test.YtgdmkiobidnhnaaGs
import Derived.Test.YtgdmkiobidnhnaaCopy
namespace Go.Proofs.Ytgdmkiobidnhnaa
open Go.RowKit Go.Shelf
attribute [local go_sem] Oper.semAt_some wide_depth wide_fn

theorem boxed_fr {W W' : World} {B : Nat} {t : TypeId} {v : Value} (h : Boxed W B t v) (hf : Fr W W') : Boxed W' B t v := (hf.heap h.lt).trans h
theorem boxed_but {W W' : World} {G : Nat → Prop} {B : Nat} {t : TypeId} {v : Value} (h : Boxed W B t v) (hf : But G W W') (hn : ¬ G B) : Boxed W' B t v := (hf.heap B h.lt hn).trans h
section
variable {Bx Bt D n n' z : Nat} {t e bt : TypeId} {u v v' : Value} {w W W6 w7 : World} {xs ys : List Value}
/-- A round that appends to the row in the box. -/
theorem box_step (hv : Boxed W Bx t v) (hrow : W.ownsRow Bx e z v n xs) (hbt : Boxed W Bt bt u) (hB : Below Bx w W) (f6 : Fr W W6) (hgr : W6.grownBy w7 v.ownBlock) (hown : w7.ownsRow Bx e z v' n' ys) (hte : t ≠ e) (hbe : bt ≠ e) (hx : Bt ≠ Bx) :
    Boxed w7 Bx t v ∧ KeepsFrom D W (w7.setCell ⟨Bx, 0, none⟩ v') ∧ Kp Bx Bt W (w7.setCell ⟨Bx, 0, none⟩ v') ∧ Boxed (w7.setCell ⟨Bx, 0, none⟩ v') Bx t v' ∧ (w7.setCell ⟨Bx, 0, none⟩ v').ownsRow Bx e z v' n' ys ∧ Boxed (w7.setCell ⟨Bx, 0, none⟩ v') Bt bt u ∧ Below Bx w (w7.setCell ⟨Bx, 0, none⟩ v') := by
  have hb7 : But (fun k => v.ownBlock = some k) W w7 := (But.of_fr f6).trans (but_grown hgr)
  have hnv : v.ownBlock ≠ some Bx := fun e => hv.not_row hte hrow e.symm
  have hnt : v.ownBlock ≠ some Bt := fun e => hbt.not_row hbe hrow e.symm
  have hv7 := boxed_but hv hb7 hnv
  have hset := But.set w7 ⟨Bx, 0, none⟩ v'
  have hall : But (fun k => k = Bx ∨ v.ownBlock = some k) W (w7.setCell ⟨Bx, 0, none⟩ v') := hb7.mix hset (fun _ _ h => .inr h) (fun _ _ h => .inl h)
  have hnall : ¬ (Bt = Bx ∨ v.ownBlock = some Bt) := fun h => h.elim hx hnt
  have hbel : Below Bx W (w7.setCell ⟨Bx, 0, none⟩ v') := hall.below (Nat.le_of_lt hv.lt) fun k hk h => by
    rcases h with h | h
    · omega
    · have := (hrow.lt k h).1; omega
  refine ⟨hv7, KeepsFrom.of_but hall fun k h => ?_, ⟨hbel, KeepsC.of_but hall hnall hbt.lt⟩, hv7.set v', owns_but' hown hset fun k hk h => hv7.not_row hte hown (by rw [hk, h]), boxed_but hbt hall hnall, hB.trans hbel⟩
  rcases h with rfl | h
  · exact ⟨_, _, _, hv⟩
  · rcases hrow.2 with ⟨e, _⟩ | ⟨g, cap, cur, e, _, hh, _⟩
    · rw [e] at h; cases h
    · rw [e] at h; cases h; exact ⟨_, _, _, hh⟩
/-- A round that appends nothing. -/
theorem box_skip (hv : Boxed W Bx t v) (hrow : W.ownsRow Bx e z v n xs) (hbt : Boxed W Bt bt u) (hB : Below Bx w W) (f6 : Fr W W6) :
    KeepsFrom D W W6 ∧ Kp Bx Bt W W6 ∧ Boxed W6 Bx t v ∧ W6.ownsRow Bx e z v n xs ∧ Boxed W6 Bt bt u ∧ Below Bx w W6 := by
  have hbel := f6.below_of (Nat.le_of_lt hv.lt)
  exact ⟨KeepsFrom.of_but (But.of_fr (F := fun _ => False) f6) fun _ h => h.elim, ⟨hbel, fun x hx => f6.cell' hx⟩, boxed_fr hv f6, owns_fr hrow f6, boxed_fr hbt f6, hB.trans hbel⟩
end
set_option maxRecDepth 100000 in
set_option maxHeartbeats 4000000 in
theorem pairs_in (N0 : Nat) (hN0 : 6 ≤ N0) {T : Nat} {w : World} (l : Ps) (hln : l.length ≤ 10000) (ht : Seen w.heap.size T l w) :
    CallsIn Fence.wide N0 Try.prog 68 #[.pointer (some ⟨T, 0, none⟩)] w (ListPost l w) := by
  obtain ⟨i0, z0, hi, hz0, hz1, hz2, hz3⟩ := parts info42
  have hq := eql_nilFunc
  have f2 := (Fr.refl w).alloc (.cells #[.slice none 0 0] 29)
  have b1 := Boxed.new w 29 (.slice none 0 0)
  have HT := Go.Lib.hid ht
  clear ht
  refine callsIn_of_wp_marks Try.func68 rfl trivial ?_ rfl
  simp only [Try.ntmps68, List.size_toArray, List.length_cons, List.length_nil, Nat.reduceAdd, Nat.reduceSub, Array.replicate_succ, Array.replicate_zero, List.push_toArray, List.append_toArray, List.nil_append, List.cons_append]
  gi_wp2_with fail
  refine (callsIn_wide.2 (From_any _ _ _)).mono ?_
  rintro e w6 ⟨rfl, rfl⟩
  gi_wp2_with fail
  have f3 := f2.alloc (.cells #[.pointer (some ⟨T, 0, none⟩)] 24)
  have f4 := f3.alloc (.cells #[.string ⟨#[]⟩] 9)
  have b2 := Boxed.new (w.alloc (.cells #[.slice none 0 0] 29)) 24 (.pointer (some ⟨T, 0, none⟩))
  have b3 := Boxed.new ((w.alloc (.cells #[.slice none 0 0] 29)).alloc (.cells #[.pointer (some ⟨T, 0, none⟩)] 24)) 9 (.string ⟨#[]⟩)
  replace b1 := (b1.alloc (.cells #[.pointer (some ⟨T, 0, none⟩)] 24)).alloc (.cells #[.string ⟨#[]⟩] 9)
  replace b2 := b2.alloc (.cells #[.string ⟨#[]⟩] 9)
  have hs5 : (((w.alloc (.cells #[.slice none 0 0] 29)).alloc (.cells #[.pointer (some ⟨T, 0, none⟩)] 24)).alloc (.cells #[.string ⟨#[]⟩] 9)).heap.size = w.heap.size + 3 := by simp
  simp only [World.size_alloc] at b2 b3
  generalize ((w.alloc (.cells #[.slice none 0 0] 29)).alloc (.cells #[.pointer (some ⟨T, 0, none⟩)] 24)).alloc (.cells #[.string ⟨#[]⟩] 9) = W5 at *
  obtain ⟨Bx, hBx⟩ : ∃ Bx, w.heap.size = Bx := ⟨_, rfl⟩
  have hf4 : Below w.heap.size w W5 := f4
  rw [hBx] at b1 b2 b3 hs5 hf4 ⊢
  have HB := Go.Lib.hid hBx
  have h0 : BxI Bx 29 42 2 List.length pairsL (Bx + 1) 24 (.pointer (some ⟨T, 0, none⟩)) w ([] : Ps) W5 := ⟨⟨_, b1, ⟨rfl, .inl ⟨rfl, rfl⟩⟩, trivial⟩, b2, hf4⟩
  have hseen5 : Seen Bx T l W5 := (HB.out ▸ HT.out : Seen Bx T l w).below hf4
  have hwB : Bx ≤ w.heap.size := by omega
  clear f2 f3 f4 hf4 b1 hBx
  refine wpIn_rangeFunc_ownG (w := W5) rfl (by omega) (gf := 73) (lb := #[.pointer (some ⟨Bx + 1, 0, none⟩), .pointer (some ⟨Bx + 1 + 1, 0, none⟩)]) rfl trivial (enters_of Try.func73 (by kernel_rfl) rfl)
    (from_stops (N0 - 1) (Bx + 1) (Bx + 1 + 1) Bx (some ⟨T, 0, none⟩) l (by omega) ⟨#[]⟩ W5 b2.cell b3.cell (by omega) (by omega) (by omega) (.inr ⟨T, rfl, hseen5⟩)) Kp.t
    (fun W l o o' hl h ho hwk => ⟨belowK_b (w := w) hwB W l _ _ (by have := HB.out; omega) h ho hwk, KeepsC.b W l o o' h ho⟩) (Below.refl _ _) (fun _ => rfl)
    (BxI Bx 29 42 2 List.length pairsL (Bx + 1) 24 (.pointer (some ⟨T, 0, none⟩)) w) (fun _ _ _ => False) (BxI.own _ _ _ _ _ _ _ _ _ _ _ hwB (by omega)) (fun _ _ _ _ _ h => h.elim)
    h0
    (fun x => { tmps := #[.pointer (some ⟨T, 0, none⟩), undef, .slice none 0 0, .pointer (some ⟨Bx, 0, none⟩), .string x.1, .string x.2, .pointer (some ⟨T, 0, none⟩), .func (.func 73) #[] #[.pointer (some ⟨Bx + 1, 0, none⟩), .pointer (some ⟨Bx + 1 + 1, 0, none⟩)],
      .string x.1, .string x.2, undef, undef, undef, undef, undef, undef, undef], defers := [] }) ?assign ?body ?done ?stop
  case assign =>
    intro l x W K hK
    gi_wp2
    exact hK
  case body =>
    rintro lp pre x W ⟨⟨v, hv, hrow, _⟩, hbt, hB⟩ hlt
    have hc := hv.cell
    have hplen : pre.length ≤ 10000 := by rw [List.length_drop] at hlt; omega
    obtain ⟨q, hq⟩ : ∃ q, pre.length = q := ⟨_, rfl⟩
    rw [hq] at hrow hplen
    obtain ⟨a, c, rfl⟩ := own_form2 hrow
    have hBW : Bx ≤ W.heap.size := Nat.le_of_lt hv.lt
    obtain ⟨x1, x2⟩ := x
    have HQ := Go.Lib.hid hq
    clear hq hlt
    gi_wp2_with (gi_at_builtin; go_must (refine wpListIn_append_own_at _ rfl _ _ 29 rfl Bx 42 i0 z0 2 32 Try.underlying29 hi hz0 hz2 hz3 hz1 (by decide) _ _ _ rfl (hrow.alloc _) ⟨W.heap.size, 0, none⟩ 1 1 [.string x1, .string x2] rfl rfl (cells_two_new _ _ _ _) (by simp [Value.oneCell']) (by unfold maxLen; omega) (by omega) (by simp; omega) ?_); intro v' w1 hown' hgrow _ hat; obtain ⟨g', cap', rfl⟩ := ownsRow_succ hown'; obtain ⟨s1, s2, s3, s4, s5, s6, s7⟩ := box_step (D := Bx + 3) hv hrow hbt hB ((Fr.refl W).alloc _) hgrow hown' (by decide) (by decide) (by omega); have hc1 := s1.cell; have hf1 := s1.frozen)
    exact ⟨s2, s3, ⟨⟨_, s4, by rw [List.length_append, HQ.out, pairsL_push]; exact s5, trivial⟩, s6, s7⟩⟩
  case done =>
    rintro D ys W hD rfl ⟨⟨v, hv, hrow, _⟩, hbt, hB⟩ hK
    have hc := hv.cell
    have hrow2 := ownsRow_putObj hrow (.deferred none) hK rfl
    have hbD := belowK_b (w := w) hwB W D _ (.deferred none) (by have := HB.out; omega) hK rfl rfl
    gi_wp2
    refine ⟨by simp, .inl ⟨_, _, rfl, run_takeDeferred hK, ?_⟩⟩
    rw [rank_none, List.drop_zero] at hrow2
    obtain ⟨a, c, rfl⟩ := own_form2 hrow2
    refine ⟨_, results_tmp rfl _ _ _, a, c, rfl, ?_, ?_⟩
    · rw [HB.out]; exact hrow2
    · show Below w.heap.size w _
      rw [HB.out]
      exact hB.trans hbD
  case stop =>
    rintro D c pre W hD _ h _
    exact h.elim
theorem pairs_walk {T : Nat} {w : World} (l : Ps) (hln : l.length ≤ 10000) (ht : Seen w.heap.size T l w) : Calls Try.prog 68 #[.pointer (some ⟨T, 0, none⟩)] w (ListPost l w) :=
  callsIn_wide.1 (pairs_in 6 (Nat.le_refl _) l hln ht)
end Go.Proofs.Ytgdmkiobidnhnaa
