/-
  The walk of StirWay: a way comes by each place just once. Conditions: none but that the values fit their kinds.
-/
import Derived.Test.YtiebjjhjjifepaaStep
import Derived.RegionTactic
import Derived.Deep.QuietTactic
import Derived.BigQuiet
import Derived.Deep.OwnRows
import Derived.Lib.SmallJoins
namespace Go.Proofs.Ytiebjjhjjifepaa
open Go.RowKit Go.Shelf

/-- How often each cell was met when k rounds are over. -/
def met (n : Nat) (width : Int) (k : Nat) : List Int := (List.range 256).map fun p : Nat => if (p : Int) ∈ places n width k then 1 else 0
theorem met_zero (n : Nat) (width : Int) : met n width 0 = List.replicate 256 0 := by
  unfold met places
  simp [List.map_const']
theorem met_len (n : Nat) (width : Int) (k : Nat) : (met n width k).length = 256 := by simp [met]
theorem met_get (n : Nat) (width : Int) (k p : Nat) (hp : p < 256) : (met n width k)[p]? = some (if (p : Int) ∈ places n width k then 1 else 0) := by simp [met, hp]
theorem cur_inj (n : Nat) {width : Int} {i j : Nat} (hi : (i : Int) < width) (hj : (j : Int) < width) (h : cur n width i = cur n width j) : i = j := by
  rw [← place_cur n hi, ← place_cur n hj] at h
  have := place_inj n (by omega) hi (by omega) hj h
  omega
theorem cur_new (n : Nat) {width : Int} {k : Nat} (hk : (k : Int) < width) : cur n width k ∉ places n width k := by
  intro h
  simp only [places, List.mem_map, List.mem_range] at h
  obtain ⟨j, hj, e⟩ := h
  have := cur_inj n (show (j : Int) < width by omega) hk e
  omega
theorem met_succ (n : Nat) {width : Int} {k p : Nat} (e : cur n width k = p) : met n width (k + 1) = (met n width k).set p 1 := by
  apply List.ext_getElem?
  intro i
  by_cases hi : i < 256
  · rw [met_get n width (k + 1) i hi, List.getElem?_set, met_get n width k i hi, places_succ, e]
    by_cases h : p = i
    · subst h; simp [met_len, hi]
    · have : (i : Int) ≠ (p : Int) := by omega
      simp [h, this]
  · rw [List.getElem?_eq_none (by rw [met_len]; omega), List.getElem?_eq_none (by rw [List.length_set, met_len]; omega)]

theorem mk256 (w : World) : (Instr.makeSlice 31 (.int .i64 256) (.int .i64 256)).run Try.prog w = .ok (.slice (some ⟨w.heap.size, 0, none⟩) 256 256) (w.alloc (.cells (madeCells #[.int .i64 0] 256) 3)) :=
  run_make_row' (P := Try.prog) 31 3 (.int .i64 0) 8 Try.underlying31 info3 rfl .i64 .i64 256 (by omega) (by omega) w

theorem made256 (n c : Nat) : (madeCells #[Value.int .i64 0] 256).toList = (met n c 0).map (Value.int .i64) := by
  rw [met_zero]
  kernel_rfl

theorem way_c (n c : Nat) (hn : n < 18446744073709551616) (hc : c < 256) (w : World) :
    Calls Try.prog 15 #[.int .u64 n, .int .i64 c, .int .i64 300] w fun e W' =>
      ∃ v, e = .returned v ∧ W'.ownsRow w.heap.size 3 1 v c ((places n c c).map (Value.int .i64)) ∧ Below w.heap.size w W' := by
  refine (way_any n hn c ⟨by omega, by omega⟩ 300 (by omega) w).mono ?_
  rintro e W' ⟨v, rfl, hrow, hB⟩
  have e1 : gathered n c 300 = places n c c := by
    unfold gathered
    rw [Int.toNat_natCast, Nat.min_eq_left (by omega)]
  rw [e1, places_length] at hrow
  exact ⟨v, rfl, hrow, hB⟩

set_option maxRecDepth 100000 in
set_option maxHeartbeats 400000 in
theorem wayLaw_walk (n c : Nat) (hn : n < 18446744073709551616) (hc : c < 256) (w : World) :
    Calls Try.prog 5 #[.int .u64 n, .int .u8 c] w fun e w' => e = .returned (.bool true) ∧ Below w.heap.size w w' := by
  have hmk := mk256
  go_enter Try.func5, Try.ntmps5
  go_wp2_with fail
  refine (way_c n c hn hc _).mono ?_
  rintro e w1 ⟨v, rfl, hrow, hB⟩
  obtain ⟨a, cap, rfl⟩ := form0 hrow
  go_wp2_with fail
  clear hmk
  have hz := made256 n c
  have hseen := World.ownsRow_lit (base := w.heap.size) (e := 3) (size := 1) w1 (madeCells #[Value.int .i64 0] 256) 256 hB.size (by decide) (by simp [madeCells])
  rw [hz] at hseen
  have hrow0 := hrow.alloc (.cells (madeCells #[Value.int .i64 0] 256) 3)
  have hB0 := hB.alloc hB.size (.cells (madeCells #[Value.int .i64 0] 256) 3)
  have hne0 := hrow.lt
  have hBsz := hB.size
  generalize hG : w1.heap.size = G at *
  generalize w1.alloc (.cells (madeCells #[Value.int .i64 0] 256) 3) = W2 at *
  clear hz hG hrow hB
  go_loopw [7] (fun i wr => ∃ k : Nat, k ≤ c ∧ i = .int .i64 k ∧ wr.ownsRow w.heap.size 3 1 (.slice a c cap) c ((places n c c).map (Value.int .i64)) ∧ wr.ownsRow w.heap.size 3 1 (.slice (some ⟨G, 0, none⟩) 256 256) 256 ((met n c k).map (Value.int .i64)) ∧ Below w.heap.size w wr)
    (fun i _ => c - (intOf i).toNat)
  case atStart => exact ⟨0, Nat.zero_le _, rfl, hrow0, hseen, hB0⟩
  case round =>
    obtain ⟨k, hk, rfl, hrow, hs, hB⟩ := hrel
    clear hrow0 hseen hB0
    by_cases hlt : k < c
    · obtain ⟨g, cap', hv⟩ := Joins.ownsRow_form hrow (by omega)
      obtain ⟨rfl, rfl⟩ : a = some ⟨g, 0, none⟩ ∧ cap = cap' := by injection hv with h1 h2 h3; exact ⟨h1, h3⟩
      have hgG := (hne0 g rfl).2
      have hcb := cur_bd n (width := c) k (by omega)
      obtain ⟨p, hp⟩ : ∃ p : Nat, cur n c k = p := ⟨(cur n c k).toNat, by omega⟩
      have hpc : p < c := by omega
      have hl : wr.cell? ⟨g, k, none⟩ = some (.int .i64 p) := by rw [hrow.cellAt k (by omega)]; simp [places_get n c c k hlt, hp]
      have hs0 : wr.cell? ⟨G, p, none⟩ = some (.int .i64 0) := by rw [hs.cellAt p (by omega)]; simp [met_get n c k p (by omega), ← hp, cur_new n (show (k : Int) < (c : Int) by omega)]
      have hf := hs.frozenAt p
      have HP := Lib.hid hp
      have hs2 := hs.stored p (.int .i64 1)
      have hr2 := hrow.kept hs2.2 (.inr (by simp [Value.ownBlock]; omega))
      have hB2 := hB.setCell (p := ⟨G, p, none⟩) (Nat.le_trans hBsz (Nat.le_refl _)) (.int .i64 1)
      have hm : (met n c (k + 1)).map (Value.int .i64) = ((met n c k).map (Value.int .i64)).set p (.int .i64 1) := by rw [met_succ n hp]; simp
      rw [← hm] at hs2
      have hc1 : (wr.setCell ⟨G, p, none⟩ (.int .i64 1)).cell? ⟨G, p, none⟩ = some (.int .i64 1) := World.cell?_setCell_same' _ _ _ (by rw [hs0]; rfl)
      have hc2 : (wr.setCell ⟨G, p, none⟩ (.int .i64 1)).cell? ⟨g, k, none⟩ = some (.int .i64 p) := (World.cell?_setCell_other _ _ _ _ (by simp only [ne_eq, Addr.mk.injEq, not_and]; omega)).trans hl
      clear hp hcb hm hv
      have hpl : ∀ wx, Calls Try.prog 13 #[.int .u64 n, .int .i64 c, .int .i64 k] wx fun e w' => e = .returned (.int .i64 p) ∧ w' = wx := by
        intro wx
        refine (place_any n hn c k ⟨by omega, by omega⟩ ⟨by omega, by omega⟩ wx).mono ?_
        rintro e w' ⟨rfl, rfl⟩
        exact ⟨ret_int (by rw [place_cur n (by omega)]; exact HP.out), rfl⟩
      go_wp2_with fail
      clear hl hs0 hf
      generalize wr.setCell ⟨G, p, none⟩ (.int .i64 1) = W3 at *
      go_quiet ((go_at_call 13; exact Calls.quiet_of_same (hpl _)))
      go_wp2_with fail
      go_roundw
      case rel => exact ⟨k + 1, by omega, by go_num, hr2, hs2.1, below_drewN hB2 _⟩
      case measure => simp [intOf]; omega
    · obtain rfl : k = c := by omega
      go_wp2_with (go_at_call 6; refine (awake_any _).mono ?_; rintro e w' ⟨rfl, hB3⟩)
      go_ret
      exact ⟨rfl, hB.trans (hB3.mono hB.size)⟩

theorem stirWay.walk (a0 : Int) (a1 : Int) (w0 : (Lit.int .u64 a0).wf = true) (w1 : (Lit.int .u8 a1).wf = true) (w : World) :
    Calls Try.prog 5 #[.int .u64 a0, .int .u8 a1] w fun e w' => e = .returned (.bool true) ∧ Below w.heap.size w w' := by
  obtain ⟨n, rfl, hn⟩ := u64_nat w0
  obtain ⟨c, rfl, hc⟩ := u8_nat w1
  exact wayLaw_walk n c hn hc w
end Go.Proofs.Ytiebjjhjjifepaa
