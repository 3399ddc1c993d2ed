/-
  The places of a way, gathered by the law's own loop, at most so many. Conditions: the numbers fit their kinds; the bound on how many is at least 0 and at most 300.
-/
import Derived.Maps.OwnIn
import Derived.Test.YtiebjjhjjifepaaIter
namespace Go.Proofs.Ytiebjjhjjifepaa
open Go.RowKit Go.Shelf
attribute [local go_sem] Oper.semAt_some wide_depth wide_fn

theorem info3 : (Try.prog.info? 3).map (fun i => (i.zero, i.size, i.bytes)) = some (some (.int .i64 0), 1, 8) := by kernel_rfl

def gathered (n : Nat) (width : Int) (most : Nat) : List Int := places n width (min width.toNat most)

theorem equalIn_nilFunc (d : Nat) (f : Fn) (b lb : Array Value) (w : World) : (Op.equalIn (d + 1) 39 (.func f b lb) .nilFunc).run Try.prog w = .ok false w := by
  simp [Op.equalIn, run_underlying Try.underlying39]
theorem eql_nilFunc (f : Fn) (b lb : Array Value) (w : World) : (binOp .eql 39 (.func f b lb) .nilFunc).run Try.prog w = .ok (.bool false) w := by
  simp only [binOp]
  simp [Op.equal, Op.maxDepth, equalIn_nilFunc 9999]

theorem form0 {W : World} {base e size n : Nat} {v : Value} {xs : List Value} (h : W.ownsRow base e size v n xs) : ∃ a c, v = .slice a n c := by
  rcases h.2 with ⟨rfl, rfl⟩ | ⟨g, cap, cur, rfl, _⟩
  · exact ⟨_, _, rfl⟩
  · exact ⟨_, _, rfl⟩

theorem take_pre {pre : List Int} {x : Int} {most : Nat} (h : pre.length = most) : (pre ++ [x]).take most = pre := by
  rw [List.take_append_of_le_length (by omega), List.take_of_length_le (by omega)]

/-- Where the gathered row lies: it was laid ahead of the boxes, or behind them. -/
def Apart (B : Nat) (v : Value) : Prop := v.ownBlock = some (B + 1) ∨ ∃ g, v.ownBlock = some g ∧ B + 5 ≤ g

/-- What the loop's body finds and leaves. -/
def WayI (B : Nat) (most : Nat) (w : World) (pre : List Int) (W : World) : Prop :=
  (∃ v, Boxed W (B + 1 + 1) 31 v ∧ W.ownsRow B 3 1 v pre.length (pre.map (Value.int .i64)) ∧ Apart B v) ∧ ((Boxed W B 3 (.int .i64 most) ∧ pre.length ≤ most) ∧ B + 5 ≤ W.heap.size) ∧ Below B w W
def WayX (B : Nat) (most : Nat) (w : World) (c : Code) (pre : List Int) (W : World) : Prop :=
  (∃ v, Boxed W (B + 1 + 1) 31 v ∧ W.ownsRow B 3 1 v (pre.take most).length ((pre.take most).map (Value.int .i64)) ∧ True) ∧ (c = .exit 0 ∧ pre.length = most + 1) ∧ Below B w W

theorem WayI.own (B most D : Nat) (w : World) (hB : B ≤ w.heap.size) (hD : B ≤ D) : OwnFrom D (WayI B most w) :=
  OwnFrom.and ((holdsRow_own B (B + 1 + 1) 31 3 1 (fun pre : List Int => pre.length) (fun pre => pre.map (Value.int .i64)) (fun _ v => Apart B v)).from _)
    (OwnFrom.and (OwnFrom.and (OwnFrom.and ((boxed_own B 3 (fun _ : List Int => .int .i64 most)).from _) (ownFrom_pure _ _)) (fun _ _ _ _ hs hg _ => Nat.le_trans hs hg.size)) (ownFrom_below hB hD))
theorem WayX.own (B most D : Nat) (w : World) (hB : B ≤ w.heap.size) (hD : B ≤ D) (c : Code) : OwnFrom D (WayX B most w c) :=
  OwnFrom.and ((holdsRow_own B (B + 1 + 1) 31 3 1 (fun pre : List Int => (pre.take most).length) (fun pre => (pre.take most).map (Value.int .i64)) (fun _ _ => True)).from _)
    (OwnFrom.and (ownFrom_pure _ _) (ownFrom_below hB hD))

theorem keepsC_append {B : Nat} {v v' : Value} {W w1 : World} {tmp : Obj} (hap : Apart B v) (hgrow : (W.alloc tmp).grownBy w1 v.ownBlock) :
    KeepsC ⟨B + 1 + 1 + 1 + 1, 0, none⟩ W (w1.setCell ⟨B + 1 + 1, 0, none⟩ v') := by
  intro u hu
  have hlt : B + 1 + 1 + 1 + 1 < W.heap.size := by
    rcases Nat.lt_or_ge (B + 1 + 1 + 1 + 1) W.heap.size with h | h
    · exact h
    · simp [World.cell?, Array.getElem?_eq_none h] at hu
  have h1 : (w1.setCell ⟨B + 1 + 1, 0, none⟩ v').heap[B + 1 + 1 + 1 + 1]? = w1.heap[B + 1 + 1 + 1 + 1]? := Below.heap_setCell _ _ _ _ (by simp; omega)
  have h2 : w1.heap[B + 1 + 1 + 1 + 1]? = (W.alloc tmp).heap[B + 1 + 1 + 1 + 1]? := hgrow.block _ (by simp; omega) (by
    rcases hap with e | ⟨g, e, hg⟩ <;> rw [e] <;> simp <;> omega)
  have h3 := Below.heap_alloc W tmp _ hlt
  rw [World.cell?_of_block (a := ⟨B + 1 + 1 + 1 + 1, 0, none⟩) (h1.trans (h2.trans h3))]
  exact hu
theorem apart_next {B : Nat} {v v' : Value} {W : World} {o : Obj} (hap : Apart B v) (hW : B + 5 ≤ W.heap.size) (h : v'.ownBlock = v.ownBlock ∨ v'.ownBlock = some (W.alloc o).heap.size) : Apart B v' := by
  rcases h with h | h
  · unfold Apart at hap ⊢; rw [h]; exact hap
  · exact .inr ⟨_, h, by simp; omega⟩
theorem boxed_most {B : Nat} {v v' : Value} {W w1 : World} {tmp : Obj} {u : Value} (hb : Boxed W B 3 u) (hap : Apart B v) (hgrow : (W.alloc tmp).grownBy w1 v.ownBlock) :
    Boxed (w1.setCell ⟨B + 1 + 1, 0, none⟩ v') B 3 u := by
  have h1 : (w1.setCell ⟨B + 1 + 1, 0, none⟩ v').heap[B]? = w1.heap[B]? := Below.heap_setCell _ _ _ _ (by simp; omega)
  have h2 : w1.heap[B]? = (W.alloc tmp).heap[B]? := hgrow.block _ (by have := hb.lt; simp; omega) (by
    rcases hap with e | ⟨g, e, hg⟩ <;> rw [e] <;> simp <;> omega)
  exact h1.trans (h2.trans ((Below.heap_alloc W tmp _ hb.lt).trans hb))
theorem gathered_all (n : Nat) (width : Int) (most : Nat) (h : (places n width width.toNat).length ≤ most) : places n width width.toNat = gathered n width most := by
  rw [places_length] at h
  unfold gathered
  rw [Nat.min_eq_left h]
theorem gathered_part (n : Nat) (width : Int) (most k : Nat) (hk : k ≤ width.toNat) (h : (places n width k).length = most + 1) : (places n width k).take most = gathered n width most := by
  rw [places_length] at h
  subst h
  unfold gathered
  rw [Nat.min_eq_right (by omega)]
  rw [places_succ, List.take_append_of_le_length (by rw [places_length]; omega), List.take_of_length_le (by rw [places_length]; omega)]

set_option maxRecDepth 100000 in
set_option maxHeartbeats 2000000 in
theorem way_in (N : Nat) (hN : 6 ≤ N) (n : Nat) (hn : n < 18446744073709551616) (width : Int) (hw : -9223372036854775808 ≤ width ∧ width ≤ 9223372036854775807) (most : Nat) (hm : most ≤ 300) (w : World) :
    CallsIn Fence.wide N Try.prog 15 #[.int .u64 n, .int .i64 width, .int .i64 most] w fun e W' =>
      ∃ v, e = .returned v ∧ W'.ownsRow w.heap.size 3 1 v (gathered n width most).length ((gathered n width most).map (Value.int .i64)) ∧ Below w.heap.size w W' := by
  obtain ⟨i0, hi, hz0, hz1, hz2⟩ := info_parts info3
  have hq := eql_nilFunc
  refine callsIn_of_wp_marks Try.func15 rfl trivial ?_ rfl
  simp only [Try.ntmps15, List.size_toArray, List.length_cons, List.length_nil, Nat.reduceAdd, Nat.reduceSub, Array.replicate_succ, Array.replicate_zero, List.push_toArray, List.append_toArray, List.nil_append, List.cons_append]
  gi_wp2_with fail
  refine (callsIn_wide.2 (Way_any n width _)).mono ?_
  rintro e w' ⟨rfl, rfl⟩
  gi_wp2_with fail
  clear hq
  have b0 := Boxed.new w 3 (.int .i64 most)
  have r0 := World.ownsRow_lit (base := w.heap.size) (e := 3) (size := 1) (w.alloc (.cells #[.int .i64 most] 3)) #[] 0 (by simp) (by simp) (by simp)
  have b2 := Boxed.new ((w.alloc (.cells #[.int .i64 most] 3)).alloc (.cells #[] 3)) 31 (.slice (some ⟨w.heap.size + 1, 0, none⟩) 0 0)
  have b3 := Boxed.new (((w.alloc (.cells #[.int .i64 most] 3)).alloc (.cells #[] 3)).alloc (.cells #[.slice (some ⟨w.heap.size + 1, 0, none⟩) 0 0] 31)) 22 (.int .u64 n)
  have b4 := Boxed.new ((((w.alloc (.cells #[.int .i64 most] 3)).alloc (.cells #[] 3)).alloc (.cells #[.slice (some ⟨w.heap.size + 1, 0, none⟩) 0 0] 31)).alloc (.cells #[.int .u64 n] 22)) 3 (.int .i64 width)
  simp only [World.size_alloc] at b2 b3 b4 r0
  have hB0 : Below w.heap.size w (((((w.alloc (.cells #[.int .i64 most] 3)).alloc (.cells #[] 3)).alloc (.cells #[.slice (some ⟨w.heap.size + 1, 0, none⟩) 0 0] 31)).alloc (.cells #[.int .u64 n] 22)).alloc (.cells #[.int .i64 width] 3)) :=
    (((((Below.refl _ w).alloc (Nat.le_refl _) _).alloc (by simp) _).alloc (by simp; omega) _).alloc (by simp; omega) _).alloc (by simp; omega) _
  have hs5 : (((((w.alloc (.cells #[.int .i64 most] 3)).alloc (.cells #[] 3)).alloc (.cells #[.slice (some ⟨w.heap.size + 1, 0, none⟩) 0 0] 31)).alloc (.cells #[.int .u64 n] 22)).alloc (.cells #[.int .i64 width] 3)).heap.size = w.heap.size + 5 := by simp
  replace b0 := (((b0.alloc (.cells #[] 3)).alloc (.cells #[.slice (some ⟨w.heap.size + 1, 0, none⟩) 0 0] 31)).alloc (.cells #[.int .u64 n] 22)).alloc (.cells #[.int .i64 width] 3)
  replace r0 := ((r0.alloc (.cells #[.slice (some ⟨w.heap.size + 1, 0, none⟩) 0 0] 31)).alloc (.cells #[.int .u64 n] 22)).alloc (.cells #[.int .i64 width] 3)
  replace b2 := (b2.alloc (.cells #[.int .u64 n] 22)).alloc (.cells #[.int .i64 width] 3)
  replace b3 := b3.alloc (.cells #[.int .i64 width] 3)
  obtain ⟨W5, hW5⟩ : ∃ W5, (((((w.alloc (.cells #[.int .i64 most] 3)).alloc (.cells #[] 3)).alloc (.cells #[.slice (some ⟨w.heap.size + 1, 0, none⟩) 0 0] 31)).alloc (.cells #[.int .u64 n] 22)).alloc (.cells #[.int .i64 width] 3)) = W5 := ⟨_, rfl⟩
  rw [hW5] at b0 r0 b2 b3 b4 hB0 hs5 ⊢
  clear hW5
  refine wpIn_rangeFunc_ownG (w := W5) rfl (by omega) (gf := 19) (lb := #[.pointer (some ⟨w.heap.size + 1 + 1 + 1, 0, none⟩), .pointer (some ⟨w.heap.size + 1 + 1 + 1 + 1, 0, none⟩)]) rfl trivial (enters_of Try.func19 (by kernel_rfl) rfl)
    (wayFn_stops (N - 1) (w.heap.size + 1 + 1 + 1) (w.heap.size + 1 + 1 + 1 + 1) n hn width hw W5 b3.cell b4.cell (by omega) (by omega)) KeepsC.t (fun W l o o' _ h ho _ => KeepsC.b W l o o' h ho) (Below.refl _ _) (fun _ => rfl)
    (WayI w.heap.size most w) (WayX w.heap.size most w) (WayI.own _ _ _ _ (Nat.le_refl _) (by omega)) (WayX.own _ _ _ _ (Nat.le_refl _) (by omega))
    ⟨⟨_, b2, r0, .inl rfl⟩, ⟨⟨b0, by simp⟩, by omega⟩, hB0⟩
    (fun x => { tmps := #[.int .u64 n, .int .i64 width, .int .i64 most, undef, undef, .pointer (some ⟨w.heap.size, 0, none⟩), .slice none 0 0, .pointer (some ⟨w.heap.size + 1 + 1, 0, none⟩),
      .func (.func 19) #[] #[.pointer (some ⟨w.heap.size + 1 + 1 + 1, 0, none⟩), .pointer (some ⟨w.heap.size + 1 + 1 + 1 + 1, 0, none⟩)], .int .i64 x, .slice (some ⟨w.heap.size + 1, 0, none⟩) 0 0, .int .u64 n, .int .i64 width,
      .func (.func 19) #[] #[.pointer (some ⟨w.heap.size + 1 + 1 + 1, 0, none⟩), .pointer (some ⟨w.heap.size + 1 + 1 + 1 + 1, 0, none⟩)],
      .func (.func 19) #[] #[.pointer (some ⟨w.heap.size + 1 + 1 + 1, 0, none⟩), .pointer (some ⟨w.heap.size + 1 + 1 + 1 + 1, 0, none⟩)], .bool false, undef,
      .func (.func 19) #[] #[.pointer (some ⟨w.heap.size + 1 + 1 + 1, 0, none⟩), .pointer (some ⟨w.heap.size + 1 + 1 + 1 + 1, 0, none⟩)], .int .i64 x, undef, undef, undef, undef, undef, undef, undef, undef, undef], defers := [] }) ?assign ?body ?done ?stop
  case assign =>
    intro l x W K hK
    gi_wp2
    exact hK
  case body =>
    rintro l pre x W ⟨⟨v, hv, hrow, hap⟩, ⟨⟨hbm, hle⟩, hB5⟩, hB⟩ hlt
    have hc := hv.cell
    have hc0 := hbm.cell
    have hlen : pre.length ≤ 300 := by omega
    by_cases he : pre.length = most
    · have hb : ((pre.length : Int) == (most : Int)) = true := by simp [he]
      have HE := Lib.hid he
      clear he
      rcases form0 hrow with ⟨a, c, rfl⟩
      gi_wp2
      exact ⟨KeepsFrom.refl _ _, ⟨_, hv, by rw [take_pre HE.out]; exact hrow, trivial⟩, ⟨rfl, by simp [HE.out]⟩, hB⟩
    · have hb : ((pre.length : Int) == (most : Int)) = false := by simp; omega
      rcases form0 hrow with ⟨a, c, rfl⟩
      gi_wp2_with (gi_at_builtin; go_must (refine wpListIn_append_own_at _ rfl _ _ 31 rfl w.heap.size 3 i0 (.int .i64 0) 1 8 Try.underlying31 hi hz0 hz1 hz2 rfl (by decide) _ _ _ rfl (hrow.alloc _) ⟨W.heap.size, 0, none⟩ 1 1 [.int .i64 x] rfl rfl (cell_one_new _ _ _) (by simp [Value.oneCell']) (by unfold maxLen; omega) (by omega) (by have := hB.size; simp; omega) ?_); intro v' w1 hown' hgrow _ hat; obtain ⟨g', cap', rfl⟩ := ownsRow_succ hown'; obtain ⟨hv1, hv2, hr2, hk2, hb2⟩ := hv.appended (by decide) hrow hB.size (by omega) hown' hgrow; have hc1 := hv1.cell; have hf1 := hv1.frozen)
      exact ⟨hk2.from _, keepsC_append hap hgrow, ⟨⟨_, hv2, by simpa using hr2, apart_next hap hB5 hat⟩, ⟨⟨boxed_most hbm hap hgrow, by simp; omega⟩, Nat.le_trans hB5 hb2.size⟩, hB.trans hb2⟩⟩
  case done =>
    rintro D ys W hD rfl ⟨⟨v, hv, hrow, hap⟩, ⟨⟨hbm, hle⟩, _⟩, hB⟩ hK
    have hc := hv.cell
    have hg := gathered_all n width most hle
    gi_wp2
    refine ⟨by simp, .inl ⟨_, _, rfl, run_takeDeferred hK, ?_⟩⟩
    exact ⟨_, results_tmp rfl _ _ _, v, rfl, by rw [← hg]; exact ownsRow_putObj hrow _ hK rfl, hB.trans (belowK_b (w := w) (Nat.le_refl _) W D _ _ (by omega) hK rfl rfl)⟩
  case stop =>
    rintro D c pre W hD ⟨k, hk, rfl⟩ ⟨⟨v, hv, hrow, _⟩, ⟨rfl, hle⟩, hB⟩ hK
    have hc := hv.cell
    have hg := gathered_part n width most k hk hle
    gi_wp2
    refine ⟨by simp, .inl ⟨_, _, rfl, run_takeDeferred hK, ?_⟩⟩
    exact ⟨_, results_tmp rfl _ _ _, v, rfl, by rw [← hg]; exact ownsRow_putObj hrow _ hK rfl, hB.trans (belowK_b (w := w) (Nat.le_refl _) W D _ _ (by omega) hK rfl rfl)⟩
end Go.Proofs.Ytiebjjhjjifepaa
