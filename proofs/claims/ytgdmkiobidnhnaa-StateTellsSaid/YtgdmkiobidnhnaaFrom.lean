/-
  The pairs from a key on, gathered by the law's own loop, at most so many. Conditions: the map is as it says; the bound on how many is at most 2000.
-/
import Derived.Maps.OwnIn
import Derived.Test.YtgdmkiobidnhnaaIter
namespace Go.Proofs.Ytgdmkiobidnhnaa
open Go.RowKit Go.Shelf
attribute [local go_sem] Oper.semAt_some wide_depth wide_fn

def pairsL (l : Ps) : List Value := l.flatMap fun a => [.string a.1, .string a.2]
theorem pairsL_push (l : Ps) (a : ByteArray × ByteArray) : pairsL (l ++ [a]) = pairsL l ++ [.string a.1, .string a.2] := by simp [pairsL]
theorem pairsL_len (l : Ps) : (pairsL l).length = l.length * 2 := stride_len _ 2 (fun _ => rfl) l
theorem From_any (p : Option Addr) (key : ByteArray) (w : World) :
    Calls Try.prog 57 #[.pointer p, .string key] w fun e w' => e = .returned (.func (.func 73) #[] #[.pointer (some ⟨w.heap.size, 0, none⟩), .pointer (some ⟨w.heap.size + 1, 0, none⟩)]) ∧
      w' = (w.alloc (.cells #[.pointer p] 24)).alloc (.cells #[.string key] 9) := by
  go_enter Try.func57, Try.ntmps57
  go_wp2
  go_ret
  exact ⟨rfl, rfl⟩
set_option maxRecDepth 100000 in
/-- The iterator of a map that is nil: no round. -/
theorem fromNil_in (N : Nat) (lp Bt Bk : Nat) (J : List (ByteArray × ByteArray) → World → Prop) (W : World) (hBt : W.cell? ⟨Bt, 0, none⟩ = some (.pointer none)) (h0 : J [] W) :
    CallsIn Fence.wide N Try.prog 73 #[.func (.yield lp) #[] #[], .pointer (some ⟨Bt, 0, none⟩), .pointer (some ⟨Bk, 0, none⟩)] W fun e W' => (∃ v, e = .returned v) ∧ J [] W' := by
  refine callsIn_of_wp Try.func73 rfl trivial ?_ rfl
  simp only [Try.ntmps73, List.size_toArray, List.length_cons, List.length_nil, Nat.reduceAdd, Nat.reduceSub, Array.replicate_succ, Array.replicate_zero, List.push_toArray, List.append_toArray, List.nil_append, List.cons_append]
  gi_wp2
  refine bodyPost_ret (results_none rfl _ _ _) rfl ?_
  exact ⟨⟨_, rfl⟩, h0⟩
theorem Kp.t {n0 Bt : Nat} {A B C : World} (h : Kp n0 Bt A B) (k : Kp n0 Bt B C) : Kp n0 Bt A C := ⟨h.1.trans k.1, h.2.t k.2⟩
/-- Whose pairs are told: those of a map, or of none. -/
def Told (n0 : Nat) (p : Option Addr) (l : Ps) (W : World) : Prop := (p = none ∧ l = []) ∨ ∃ T, p = some ⟨T, 0, none⟩ ∧ Seen n0 T l W
theorem from_stops (N : Nat) (Bt Bk n0 : Nat) (p : Option Addr) (l : Ps) (hn : l.length ≤ 1000000) (key : ByteArray) (w : World)
    (hBt : w.cell? ⟨Bt, 0, none⟩ = some (.pointer p)) (hBk : w.cell? ⟨Bk, 0, none⟩ = some (.string key)) (hb1 : Bt < w.heap.size) (hb2 : Bk < w.heap.size) (hn0 : n0 ≤ w.heap.size) (ht : Told n0 p l w) :
    SeqStopsK Fence.wide N Try.prog 73 #[.pointer (some ⟨Bt, 0, none⟩), .pointer (some ⟨Bk, 0, none⟩)] (fun x : ByteArray × ByteArray => #[Value.string x.1, .string x.2]) (Kp n0 Bt) (fun ys => ys = l.drop (rank l key))
      (fun pre => ∃ k, k ≤ (l.drop (rank l key)).length ∧ pre = (l.drop (rank l key)).take k) (l.drop (rank l key)).length w := fun lp J Jx W hW hA _ hY h0 => by
  have hc1 := (hW.cell (p := ⟨Bt, 0, none⟩) hb1).trans hBt
  have hc2 := (hW.cell (p := ⟨Bk, 0, none⟩) hb2).trans hBk
  rcases ht with ⟨rfl, rfl⟩ | ⟨T, rfl, hs⟩
  · refine (fromNil_in N lp Bt Bk J W hc1 h0).mono ?_
    rintro e W' ⟨he, hj⟩
    exact ⟨he, .inl ⟨[], rfl, hj⟩⟩
  · exact fromFn_in N lp Bt Bk n0 T l hn key J Jx W.heap.size hA hY W hc1 hc2 (hs.below (hW.mono hn0)) h0
theorem info42 : (Try.prog.info? 42).map (fun i => (i.zero.map fun z => z.cells.size, i.size, i.bytes)) = some (some 2, 2, 32) := by kernel_rfl
theorem cells_two_new (w : World) (x y : Value) (t : TypeId) : ∀ j r, [x, y][j]? = some r → (w.alloc (.cells #[x, y] t)).cell? ((⟨w.heap.size, 0, none⟩ : Addr).add j) = some r := by
  intro j r hj
  rw [add_at, cell_at (heap_alloc_new w _)]
  simpa using hj
def gathered (l : Ps) (key : ByteArray) (most : Nat) : Ps := (l.drop (rank l key)).take most
theorem equalIn_nilFunc (d : Nat) (f : Fn) (b lb : Array Value) (w : World) : (Op.equalIn (d + 1) 79 (.func f b lb) .nilFunc).run Try.prog w = .ok false w := by
  simp [Op.equalIn, run_underlying Try.underlying79]
theorem eql_nilFunc (f : Fn) (b lb : Array Value) (w : World) : (binOp .eql 79 (.func f b lb) .nilFunc).run Try.prog w = .ok (.bool false) w := by
  simp only [binOp]
  simp [Op.equal, Op.maxDepth, equalIn_nilFunc 9999]
theorem take_pre {pre : Ps} {x : ByteArray × ByteArray} {most : Nat} (h : pre.length = most) : (pre ++ [x]).take most = pre := by
  rw [List.take_append_of_le_length (by omega), List.take_of_length_le (by omega)]
/-- Where the gathered row lies: it was laid ahead of the boxes, or behind them. -/
def Apart (B : Nat) (v : Value) : Prop := v.ownBlock = some (B + 1) ∨ ∃ g, v.ownBlock = some g ∧ B + 5 ≤ g
/-- What the loop's body finds and leaves. -/
def FrI (B : Nat) (most : Nat) (w : World) (pre : Ps) (W : World) : Prop :=
  (∃ v, Boxed W (B + 1 + 1) 29 v ∧ W.ownsRow B 42 2 v pre.length (pairsL pre) ∧ Apart B v) ∧ ((Boxed W B 3 (.int .i64 most) ∧ pre.length ≤ most) ∧ B + 5 ≤ W.heap.size) ∧ Below B w W
def FrX (B : Nat) (most : Nat) (w : World) (c : Code) (pre : Ps) (W : World) : Prop :=
  (∃ v, Boxed W (B + 1 + 1) 29 v ∧ W.ownsRow B 42 2 v (pre.take most).length (pairsL (pre.take most)) ∧ True) ∧ (c = .exit 0 ∧ pre.length = most + 1) ∧ Below B w W
theorem FrI.own (B most D : Nat) (w : World) (hB : B ≤ w.heap.size) (hD : B ≤ D) : OwnFrom D (FrI B most w) :=
  OwnFrom.and ((holdsRow_own B (B + 1 + 1) 29 42 2 (fun pre : Ps => pre.length) (fun pre => pairsL pre) (fun _ v => Apart B v)).from _)
    (OwnFrom.and (OwnFrom.and (OwnFrom.and ((boxed_own B 3 (fun _ : Ps => .int .i64 most)).from _) (ownFrom_pure _ _)) (fun _ _ _ _ hs hg _ => Nat.le_trans hs hg.size)) (ownFrom_below hB hD))
theorem FrX.own (B most D : Nat) (w : World) (hB : B ≤ w.heap.size) (hD : B ≤ D) (c : Code) : OwnFrom D (FrX B most w c) :=
  OwnFrom.and ((holdsRow_own B (B + 1 + 1) 29 42 2 (fun pre : Ps => (pre.take most).length) (fun pre => pairsL (pre.take most)) (fun _ _ => True)).from _)
    (OwnFrom.and (ownFrom_pure _ _) (ownFrom_below hB hD))
theorem keepsC_append {B : Nat} {v v' : Value} {W w1 : World} {tmp : Obj} (hap : Apart B v) (hgrow : (W.alloc tmp).grownBy w1 v.ownBlock) :
    KeepsC ⟨B + 1 + 1 + 1, 0, none⟩ W (w1.setCell ⟨B + 1 + 1, 0, none⟩ v') := by
  intro u hu
  have hlt : B + 1 + 1 + 1 < W.heap.size := by
    rcases Nat.lt_or_ge (B + 1 + 1 + 1) W.heap.size with h | h
    · exact h
    · simp [World.cell?, Array.getElem?_eq_none h] at hu
  have h1 : (w1.setCell ⟨B + 1 + 1, 0, none⟩ v').heap[B + 1 + 1 + 1]? = w1.heap[B + 1 + 1 + 1]? := Below.heap_setCell _ _ _ _ (by simp)
  have h2 : w1.heap[B + 1 + 1 + 1]? = (W.alloc tmp).heap[B + 1 + 1 + 1]? := hgrow.block _ (by simp; omega) (by
    rcases hap with e | ⟨g, e, hg⟩ <;> rw [e] <;> simp <;> omega)
  have h3 := Below.heap_alloc W tmp _ hlt
  rw [World.cell?_of_block (a := ⟨B + 1 + 1 + 1, 0, none⟩) (h1.trans (h2.trans h3))]
  exact hu
theorem apart_next {B : Nat} {v v' : Value} {W : World} {o : Obj} (hap : Apart B v) (hW : B + 5 ≤ W.heap.size) (h : v'.ownBlock = v.ownBlock ∨ v'.ownBlock = some (W.alloc o).heap.size) : Apart B v' := by
  rcases h with h | h
  · unfold Apart at hap ⊢; rw [h]; exact hap
  · exact .inr ⟨_, h, by simp; omega⟩
theorem boxed_most {B : Nat} {v v' : Value} {W w1 : World} {tmp : Obj} {u : Value} (hb : Boxed W B 3 u) (hap : Apart B v) (hgrow : (W.alloc tmp).grownBy w1 v.ownBlock) :
    Boxed (w1.setCell ⟨B + 1 + 1, 0, none⟩ v') B 3 u := by
  have h1 : (w1.setCell ⟨B + 1 + 1, 0, none⟩ v').heap[B]? = w1.heap[B]? := Below.heap_setCell _ _ _ _ (by simp; omega)
  have h2 : w1.heap[B]? = (W.alloc tmp).heap[B]? := hgrow.block _ (by have := hb.lt; simp; omega) (by
    rcases hap with e | ⟨g, e, hg⟩ <;> rw [e] <;> simp <;> omega)
  exact h1.trans (h2.trans ((Below.heap_alloc W tmp _ hb.lt).trans hb))
set_option maxRecDepth 100000 in
set_option maxHeartbeats 2000000 in
theorem from_in (N : Nat) (hN : 6 ≤ N) (p : Option Addr) (l : Ps) (hn : l.length ≤ 1000000) (key : ByteArray) (most : Nat) (hm : most ≤ 2000) (w : World) (ht : Told w.heap.size p l w) :
    CallsIn Fence.wide N Try.prog 26 #[.pointer p, .string key, .int .i64 most] w fun e W' =>
      ∃ v, e = .returned v ∧ W'.ownsRow w.heap.size 42 2 v (gathered l key most).length (pairsL (gathered l key most)) ∧ Below w.heap.size w W' := by
  obtain ⟨i0, z0, hi, hz0, hz1, hz2, hz3⟩ := parts info42
  have hq := eql_nilFunc
  refine callsIn_of_wp_marks Try.func26 rfl trivial ?_ rfl
  simp only [Try.ntmps26, List.size_toArray, List.length_cons, List.length_nil, Nat.reduceAdd, Nat.reduceSub, Array.replicate_succ, Array.replicate_zero, List.push_toArray, List.append_toArray, List.nil_append, List.cons_append]
  gi_wp2_with fail
  refine (callsIn_wide.2 (From_any p key _)).mono ?_
  rintro e w' ⟨rfl, rfl⟩
  gi_wp2_with fail
  clear hq
  have b0 := Boxed.new w 3 (.int .i64 most)
  have r0 := World.ownsRow_lit (base := w.heap.size) (e := 42) (size := 2) (w.alloc (.cells #[.int .i64 most] 3)) #[] 0 (by simp) (by simp) (by simp)
  have b2 := Boxed.new ((w.alloc (.cells #[.int .i64 most] 3)).alloc (.cells #[] 42)) 29 (.slice (some ⟨w.heap.size + 1, 0, none⟩) 0 0)
  have b3 := Boxed.new (((w.alloc (.cells #[.int .i64 most] 3)).alloc (.cells #[] 42)).alloc (.cells #[.slice (some ⟨w.heap.size + 1, 0, none⟩) 0 0] 29)) 24 (.pointer p)
  have b4 := Boxed.new ((((w.alloc (.cells #[.int .i64 most] 3)).alloc (.cells #[] 42)).alloc (.cells #[.slice (some ⟨w.heap.size + 1, 0, none⟩) 0 0] 29)).alloc (.cells #[.pointer p] 24)) 9 (.string key)
  simp only [World.size_alloc] at b2 b3 b4 r0
  have hB0 : Below w.heap.size w (((((w.alloc (.cells #[.int .i64 most] 3)).alloc (.cells #[] 42)).alloc (.cells #[.slice (some ⟨w.heap.size + 1, 0, none⟩) 0 0] 29)).alloc (.cells #[.pointer p] 24)).alloc (.cells #[.string key] 9)) :=
    (((((Below.refl _ w).alloc (Nat.le_refl _) _).alloc (by simp) _).alloc (by simp; omega) _).alloc (by simp; omega) _).alloc (by simp; omega) _
  have hs5 : (((((w.alloc (.cells #[.int .i64 most] 3)).alloc (.cells #[] 42)).alloc (.cells #[.slice (some ⟨w.heap.size + 1, 0, none⟩) 0 0] 29)).alloc (.cells #[.pointer p] 24)).alloc (.cells #[.string key] 9)).heap.size = w.heap.size + 5 := by simp
  replace b0 := (((b0.alloc (.cells #[] 42)).alloc (.cells #[.slice (some ⟨w.heap.size + 1, 0, none⟩) 0 0] 29)).alloc (.cells #[.pointer p] 24)).alloc (.cells #[.string key] 9)
  replace r0 := ((r0.alloc (.cells #[.slice (some ⟨w.heap.size + 1, 0, none⟩) 0 0] 29)).alloc (.cells #[.pointer p] 24)).alloc (.cells #[.string key] 9)
  replace b2 := (b2.alloc (.cells #[.pointer p] 24)).alloc (.cells #[.string key] 9)
  replace b3 := b3.alloc (.cells #[.string key] 9)
  obtain ⟨W5, hW5⟩ : ∃ W5, (((((w.alloc (.cells #[.int .i64 most] 3)).alloc (.cells #[] 42)).alloc (.cells #[.slice (some ⟨w.heap.size + 1, 0, none⟩) 0 0] 29)).alloc (.cells #[.pointer p] 24)).alloc (.cells #[.string key] 9)) = W5 := ⟨_, rfl⟩
  rw [hW5] at b0 r0 b2 b3 b4 hB0 hs5 ⊢
  clear hW5
  have ht5 : Told w.heap.size p l W5 := ht.imp id fun ⟨T, h1, h2⟩ => ⟨T, h1, h2.below hB0⟩
  refine wpIn_rangeFunc_ownG (w := W5) rfl (by omega) (gf := 73) (lb := #[.pointer (some ⟨w.heap.size + 1 + 1 + 1, 0, none⟩), .pointer (some ⟨w.heap.size + 1 + 1 + 1 + 1, 0, none⟩)]) rfl trivial (enters_of Try.func73 (by kernel_rfl) rfl)
    (from_stops (N - 1) (w.heap.size + 1 + 1 + 1) (w.heap.size + 1 + 1 + 1 + 1) w.heap.size p l hn key W5 b3.cell b4.cell (by omega) (by omega) (by omega) ht5) Kp.t
    (fun W l o o' hl h ho hwk => ⟨belowK_b (w := w) (Nat.le_refl _) W l _ _ (by omega) h ho hwk, KeepsC.b W l o o' h ho⟩) (Below.refl _ _) (fun _ => rfl)
    (FrI w.heap.size most w) (FrX w.heap.size most w) (FrI.own _ _ _ _ (Nat.le_refl _) (by omega)) (FrX.own _ _ _ _ (Nat.le_refl _) (by omega))
    ⟨⟨_, b2, r0, .inl rfl⟩, ⟨⟨b0, by simp⟩, by omega⟩, hB0⟩
    (fun x => { tmps := #[.pointer p, .string key, .int .i64 most, undef, undef, .pointer (some ⟨w.heap.size, 0, none⟩), .slice none 0 0, .pointer (some ⟨w.heap.size + 1 + 1, 0, none⟩),
      .func (.func 73) #[] #[.pointer (some ⟨w.heap.size + 1 + 1 + 1, 0, none⟩), .pointer (some ⟨w.heap.size + 1 + 1 + 1 + 1, 0, none⟩)], .string x.1, .string x.2, .slice (some ⟨w.heap.size + 1, 0, none⟩) 0 0, .pointer p, .string key,
      .func (.func 73) #[] #[.pointer (some ⟨w.heap.size + 1 + 1 + 1, 0, none⟩), .pointer (some ⟨w.heap.size + 1 + 1 + 1 + 1, 0, none⟩)],
      .func (.func 73) #[] #[.pointer (some ⟨w.heap.size + 1 + 1 + 1, 0, none⟩), .pointer (some ⟨w.heap.size + 1 + 1 + 1 + 1, 0, none⟩)], .bool false, undef,
      .func (.func 73) #[] #[.pointer (some ⟨w.heap.size + 1 + 1 + 1, 0, none⟩), .pointer (some ⟨w.heap.size + 1 + 1 + 1 + 1, 0, none⟩)], .string x.1, .string x.2, undef, undef, undef, undef, undef, undef, undef, undef, undef, undef, undef], defers := [] }) ?assign ?body ?done ?stop
  case assign =>
    intro l x W K hK
    gi_wp2
    exact hK
  case body =>
    rintro lp pre x W ⟨⟨v, hv, hrow, hap⟩, ⟨⟨hbm, hle⟩, hB5⟩, hB⟩ hlt
    have hc := hv.cell
    have hc0 := hbm.cell
    have hlen : pre.length ≤ 2000 := by omega
    by_cases he : pre.length = most
    · have hb : ((pre.length : Int) == (most : Int)) = true := by simp [he]
      have HE := Go.Lib.hid he
      clear he
      obtain ⟨a, c, rfl⟩ : ∃ a c, v = .slice a pre.length c := by
        rcases hrow.2 with ⟨e, h0⟩ | ⟨g, cap, cur, e, _⟩
        · exact ⟨none, 0, by rw [e, h0]⟩
        · exact ⟨_, _, e⟩
      gi_wp2
      exact ⟨KeepsFrom.refl _ _, ⟨_, hv, by rw [take_pre HE.out]; exact hrow, trivial⟩, ⟨rfl, by simp [HE.out]⟩, hB⟩
    · have hb : ((pre.length : Int) == (most : Int)) = false := by simp; omega
      obtain ⟨a, c, rfl⟩ : ∃ a c, v = .slice a pre.length c := by
        rcases hrow.2 with ⟨e, h0⟩ | ⟨g, cap, cur, e, _⟩
        · exact ⟨none, 0, by rw [e, h0]⟩
        · exact ⟨_, _, e⟩
      obtain ⟨x1, x2⟩ := x
      gi_wp2_with (gi_at_builtin; go_must (refine wpListIn_append_own_at _ rfl _ _ 29 rfl w.heap.size 42 i0 z0 2 32 Try.underlying29 hi hz0 hz2 hz3 hz1 (by decide) _ _ _ rfl (hrow.alloc _) ⟨W.heap.size, 0, none⟩ 1 1 [.string x1, .string x2] rfl rfl (cells_two_new _ _ _ _) (by simp [Value.oneCell']) (by unfold maxLen; omega) (by omega) (by have := hB.size; simp; omega) ?_); intro v' w1 hown' hgrow _ hat; obtain ⟨g', cap', rfl⟩ := ownsRow_succ hown'; obtain ⟨hv1, hv2, hr2, hk2, hb2⟩ := hv.appended (by decide) hrow hB.size (by omega) hown' hgrow; have hc1 := hv1.cell; have hf1 := hv1.frozen)
      exact ⟨hk2.from _, ⟨hb2, keepsC_append hap hgrow⟩, ⟨⟨_, hv2, by rw [List.length_append, pairsL_push]; exact hr2, apart_next hap hB5 hat⟩, ⟨⟨boxed_most hbm hap hgrow, by simp; omega⟩, Nat.le_trans hB5 hb2.size⟩, hB.trans hb2⟩⟩
  case done =>
    rintro D ys W hD rfl ⟨⟨v, hv, hrow, hap⟩, ⟨⟨hbm, hle⟩, _⟩, hB⟩ hK
    have hc := hv.cell
    have hg : l.drop (rank l key) = gathered l key most := by unfold gathered; rw [List.take_of_length_le hle]
    gi_wp2
    refine ⟨by simp, .inl ⟨_, _, rfl, run_takeDeferred hK, ?_⟩⟩
    exact ⟨_, results_tmp rfl _ _ _, v, rfl, by rw [← hg]; exact ownsRow_putObj hrow _ hK rfl, hB.trans (belowK_b (w := w) (Nat.le_refl _) W D _ _ (by omega) hK rfl rfl)⟩
  case stop =>
    rintro D c pre W hD ⟨k, hk, rfl⟩ ⟨⟨v, hv, hrow, _⟩, ⟨rfl, hle⟩, hB⟩ hK
    have hc := hv.cell
    have hg : ((l.drop (rank l key)).take k).take most = gathered l key most := by
      unfold gathered
      rw [List.take_take]
      rw [List.length_take] at hle
      congr 1; omega
    gi_wp2
    refine ⟨by simp, .inl ⟨_, _, rfl, run_takeDeferred hK, ?_⟩⟩
    exact ⟨_, results_tmp rfl _ _ _, v, rfl, by rw [← hg]; exact ownsRow_putObj hrow _ hK rfl, hB.trans (belowK_b (w := w) (Nat.le_refl _) W D _ _ (by omega) hK rfl rfl)⟩
end Go.Proofs.Ytgdmkiobidnhnaa
