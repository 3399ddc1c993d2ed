/-
  The iterator of a way: it hands out the places of the way, in order, and stops where a round says so. Conditions: the number and the width fit their kinds; the width is at least 1 (Way itself: any width).
-/
import Derived.RangeFuncNested
import Derived.RangeFuncBound
import Derived.RangeFuncCalls
import Derived.RangeFuncLeaves
import Derived.RangeFuncBox
import Derived.Shelf.Abstract
import Derived.Shelf.RegionOpen
import Derived.WalkKit
import Derived.OwnWalkIn
import Derived.TacticsInMore
import Derived.LoopNIn
import Derived.LoopIn
import Derived.Maps.AppendAt
import Derived.Test.YtiebjjhjjifepaaWalks2
namespace Go.Proofs.Ytiebjjhjjifepaa
open Go.RowKit Go.Shelf
theorem wide_depth : Fence.wide.depth = none := rfl
theorem wide_fn (f : FuncId) : Fence.wide.fn f = True := rfl
theorem wide_round : Fence.wide.round = none := rfl
attribute [local go_sem] Oper.semAt_some wide_depth wide_fn

/-- What a cell holds, it holds on. -/
def KeepsC (p : Addr) (A B : World) : Prop := ∀ v, A.cell? p = some v → B.cell? p = some v
theorem KeepsC.t {p : Addr} {A B C : World} (h : KeepsC p A B) (k : KeepsC p B C) : KeepsC p A C := fun v hv => k v (h v hv)
theorem cell_none_of {W : World} {p : Addr} {o : Obj} (h : W.heap[p.block]? = some o) (ho : o.isCells = false) : W.cell? p = none := by
  cases o <;> simp_all [World.cell?, Obj.isCells]
theorem KeepsC.b {p : Addr} (W : World) (l : Nat) (o o' : Obj) (h : W.heap[l]? = some o) (ho : o.isCells = false) : KeepsC p W (W.putObj l o') := by
  intro v hv
  by_cases e : p.block = l
  · subst e
    rw [cell_none_of h ho] at hv
    cases hv
  · have : (W.putObj l o').heap[p.block]? = W.heap[p.block]? := by simp [World.putObj, Ne.symm e]
    rw [World.cell?_of_block this]
    exact hv

set_option maxRecDepth 100000 in
set_option maxHeartbeats 1000000 in
theorem wayFn_in (N : Nat) (l Bn Bw : Nat) (n : Nat) (hn : n < 18446744073709551616) (width : Int) (hw : 1 ≤ width ∧ width ≤ 9223372036854775807) (J Jx : List Int → World → Prop)
    (hY : ∀ pre x W, J pre W → pre.length < width.toNat → YieldAt Fence.wide (N - 1) Try.prog l #[.int .i64 x] W fun e W' =>
      (e = .returned (.bool true) ∧ J (pre ++ [x]) W' ∧ KeepsC ⟨Bw, 0, none⟩ W W') ∨ (e = .returned (.bool false) ∧ Jx (pre ++ [x]) W'))
    (W : World) (hBn : W.cell? ⟨Bn, 0, none⟩ = some (.int .u64 n)) (hBw : W.cell? ⟨Bw, 0, none⟩ = some (.int .i64 width)) (h0 : J [] W) :
    CallsIn Fence.wide N Try.prog 19 #[.func (.yield l) #[] #[], .pointer (some ⟨Bn, 0, none⟩), .pointer (some ⟨Bw, 0, none⟩)] W fun e W' => (∃ v, e = .returned v) ∧
      ((∃ ys, ys = places n width width.toNat ∧ J ys W') ∨ (∃ pre, (∃ k, k ≤ width.toNat ∧ pre = places n width k) ∧ Jx pre W')) := by
  obtain ⟨h1, h2⟩ := hw
  refine callsIn_of_wp Try.func19 rfl trivial ?_ rfl
  simp only [Try.ntmps19, List.size_toArray, List.length_cons, List.length_nil, Nat.reduceAdd, Nat.reduceSub, Array.replicate_succ, Array.replicate_zero, List.push_toArray, List.append_toArray, List.nil_append, List.cons_append]
  gi_wp2_with fail
  refine (callsIn_wide.2 (start_any n hn _ ⟨by omega, by omega⟩ _)).mono ?_
  rintro e w' ⟨rfl, rfl⟩
  gi_wp2_with fail
  gi_loopw [4, 10] (fun a i wr => ∃ k : Nat, (k : Int) ≤ width ∧ i = .int .i64 k ∧ a = .int .i64 (cur n width k) ∧ J (places n width k) wr ∧ wr.cell? ⟨Bw, 0, none⟩ = some (.int .i64 width))
    (fun _ i _ => width.toNat - (intOf i).toNat)
  case atStart => exact ⟨0, by omega, rfl, by rw [cur_zero n h1], h0, hBw⟩
  case round =>
    obtain ⟨k, hk, rfl, rfl, hJ, hwc⟩ := hrel
    have hcb := cur_bd n k h1
    obtain ⟨hcb1, hcb2⟩ := hcb
    by_cases hlt : (k : Int) < width
    · obtain ⟨fn, tmps, assign, body, hy, hR⟩ := hY _ (cur n width k) wr hJ (by rw [places_length]; omega)
      have HS := Lib.hid (cur_succ n k h1)
      have HP := Lib.hid (places_succ n width k)
      by_cases ht : cur n width k + 1 = width
      · have htb : (cur n width k + 1 == width) = true := by simp [ht]
        rw [if_pos ht] at HS
        clear ht
        gi_wp2
        refine hR.mono ?_
        rintro e W3 (⟨rfl, hJ3, hk3⟩ | ⟨rfl, hJx3⟩)
        · have hwc3 := hk3 _ hwc
          gi_wp2
          go_roundw
          case rel => exact ⟨k + 1, by omega, by go_num, by rw [HS.out], by rw [HP.out]; exact hJ3, hwc3⟩
          case measure => simp [intOf]; omega
        · gi_wp2
          refine bodyPost_ret (results_none rfl _ _ _) rfl ?_
          exact ⟨⟨_, rfl⟩, .inr ⟨_, ⟨k + 1, by omega, HP.out.symm⟩, hJx3⟩⟩
      · have htb : (cur n width k + 1 == width) = false := by simp [ht]
        rw [if_neg ht] at HS
        clear ht
        gi_wp2
        refine hR.mono ?_
        rintro e W3 (⟨rfl, hJ3, hk3⟩ | ⟨rfl, hJx3⟩)
        · have hwc3 := hk3 _ hwc
          gi_wp2
          go_roundw
          case rel => exact ⟨k + 1, by omega, by go_num, by rw [HS.out], by rw [HP.out]; exact hJ3, hwc3⟩
          case measure => simp [intOf]; omega
        · gi_wp2
          refine bodyPost_ret (results_none rfl _ _ _) rfl ?_
          exact ⟨⟨_, rfl⟩, .inr ⟨_, ⟨k + 1, by omega, HP.out.symm⟩, hJx3⟩⟩
    · have hkw : k = width.toNat := by omega
      have HK := Lib.hid hkw
      clear hkw
      gi_wp2
      go_end0
      exact ⟨⟨_, rfl⟩, .inl (by rw [← HK.out]; exact hJ)⟩

set_option maxRecDepth 100000 in
set_option maxHeartbeats 1000000 in
/-- .. at a width below 1: no round. -/
theorem wayFn_none_in (N : Nat) (l Bn Bw : Nat) (n : Nat) (hn : n < 18446744073709551616) (width : Int) (hw : -9223372036854775808 ≤ width ∧ width < 1) (J : List Int → World → Prop)
    (W : World) (hBn : W.cell? ⟨Bn, 0, none⟩ = some (.int .u64 n)) (hBw : W.cell? ⟨Bw, 0, none⟩ = some (.int .i64 width)) (h0 : J [] W) :
    CallsIn Fence.wide N Try.prog 19 #[.func (.yield l) #[] #[], .pointer (some ⟨Bn, 0, none⟩), .pointer (some ⟨Bw, 0, none⟩)] W fun e W' => (∃ v, e = .returned v) ∧ J [] W' := by
  obtain ⟨h1, h2⟩ := hw
  rcases (show width < 0 ∨ width = 0 by omega) with hz | rfl
  all_goals
    refine callsIn_of_wp Try.func19 rfl trivial ?_ rfl
    simp only [Try.ntmps19, List.size_toArray, List.length_cons, List.length_nil, Nat.reduceAdd, Nat.reduceSub, Array.replicate_succ, Array.replicate_zero, List.push_toArray, List.append_toArray, List.nil_append, List.cons_append]
    gi_wp2_with fail
    refine (callsIn_wide.2 (start_any n hn _ ⟨by omega, by omega⟩ _)).mono ?_
    rintro e w' ⟨rfl, rfl⟩
    gi_wp2_with fail
    gi_loopw [10] (fun i wr => i = .int .i64 0 ∧ J [] wr) (fun _ _ => 0)
    case atStart => exact ⟨rfl, h0⟩
    case round =>
      obtain ⟨rfl, hJ⟩ := hrel
      gi_wp2
      go_end0
      exact ⟨⟨_, rfl⟩, hJ⟩

/-- Way hands back a value that hands out the way's places, all or the first ones, and keeps nothing of its own. -/
theorem wayFn_stops (N : Nat) (Bn Bw : Nat) (n : Nat) (hn : n < 18446744073709551616) (width : Int) (hw : -9223372036854775808 ≤ width ∧ width ≤ 9223372036854775807) (w : World)
    (hBn : w.cell? ⟨Bn, 0, none⟩ = some (.int .u64 n)) (hBw : w.cell? ⟨Bw, 0, none⟩ = some (.int .i64 width)) (hb1 : Bn < w.heap.size) (hb2 : Bw < w.heap.size) :
    SeqStopsK Fence.wide N Try.prog 19 #[.pointer (some ⟨Bn, 0, none⟩), .pointer (some ⟨Bw, 0, none⟩)] (fun x : Int => #[Value.int .i64 x]) (KeepsC ⟨Bw, 0, none⟩) (fun ys => ys = places n width width.toNat)
      (fun pre => ∃ k, k ≤ width.toNat ∧ pre = places n width k) width.toNat w := fun l J Jx W hW _ _ hY h0 => by
  have hc1 := (hW.cell (p := ⟨Bn, 0, none⟩) hb1).trans hBn
  have hc2 := (hW.cell (p := ⟨Bw, 0, none⟩) hb2).trans hBw
  by_cases h : width < 1
  · refine (wayFn_none_in N l Bn Bw n hn width ⟨hw.1, h⟩ J W hc1 hc2 h0).mono ?_
    rintro e W' ⟨he, hj⟩
    exact ⟨he, .inl ⟨[], by simp [places, show width.toNat = 0 by omega], hj⟩⟩
  · exact wayFn_in N l Bn Bw n hn width ⟨by omega, hw.2⟩ J Jx hY W hc1 hc2 h0

set_option maxHeartbeats 400000 in
theorem Way_any (n : Nat) (width : Int) (w : World) :
    Calls Try.prog 18 #[.int .u64 n, .int .i64 width] w fun e w' => e = .returned (.func (.func 19) #[] #[.pointer (some ⟨w.heap.size, 0, none⟩), .pointer (some ⟨w.heap.size + 1, 0, none⟩)]) ∧
      w' = (w.alloc (.cells #[.int .u64 n] 22)).alloc (.cells #[.int .i64 width] 3) := by
  go_enter Try.func18, Try.ntmps18
  go_wp2
  go_ret
  exact ⟨rfl, rfl⟩

end Go.Proofs.Ytiebjjhjjifepaa
