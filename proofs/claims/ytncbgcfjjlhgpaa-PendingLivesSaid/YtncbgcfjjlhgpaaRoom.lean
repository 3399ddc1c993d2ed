/-
  The walk of PendingRoom. Conditions: bytes.
-/
import Derived.Test.YtncbgcfjjlhgpaaAwake
namespace Go.Proofs.Ytncbgcfjjlhgpaa
open Go.RowKit

def row1 (m : Nat) : List Cn := (List.range m).map fun (j : Nat) => ⟨0, (j : Int) + 1, [], []⟩
def ids1 (d : Nat) : List (Int × Int) := (List.range d).map fun (j : Nat) => ((0 : Int), (j : Int) + 1)
theorem row1_succ (m : Nat) : row1 (m + 1) = row1 m ++ [⟨0, (m : Int) + 1, [], []⟩] := by unfold row1; rw [List.range_succ, List.map_append]; rfl
theorem ids1_succ (m : Nat) : ids1 (m + 1) = ids1 m ++ [(0, (m : Int) + 1)] := by unfold ids1; rw [List.range_succ, List.map_append]; rfl
theorem row1_len (m : Nat) : (row1 m).length = m := by unfold row1; rw [List.length_map, List.length_range]
theorem ids1_len (m : Nat) : (ids1 m).length = m := by unfold ids1; rw [List.length_map, List.length_range]
theorem row1_has {m k : Nat} (h : m ≤ k) : has (row1 m) 0 ((k : Int) + 1) = false := by
  unfold has row1
  rw [List.any_eq_false]
  intro c hc
  obtain ⟨j, hj, rfl⟩ := List.mem_map.1 hc
  have := List.mem_range.1 hj
  simp only [Bool.and_eq_true, beq_iff_eq, not_and]
  intro _ he
  omega
theorem ids1_mem (d m : Nat) : mem (ids1 d) 0 ((m : Int) + 1) = decide (m < d) := by
  unfold mem ids1
  rw [Bool.eq_iff_iff, List.any_eq_true, decide_eq_true_iff]
  constructor
  · rintro ⟨p, hp, hq⟩
    obtain ⟨j, hj, rfl⟩ := List.mem_map.1 hp
    have := List.mem_range.1 hj
    simp only [Bool.and_eq_true, beq_iff_eq] at hq
    omega
  · intro h
    exact ⟨_, List.mem_map.2 ⟨m, List.mem_range.2 h, rfl⟩, by simp⟩
theorem left1_len (d : Nat) : ∀ m, (left (ids1 d) (row1 m)).length = m - min d m
  | 0 => by simp [row1, left]
  | m + 1 => by
    have ih := left1_len d m
    have h : left (ids1 d) (row1 (m + 1)) = left (ids1 d) (row1 m) ++ left (ids1 d) [⟨0, (m : Int) + 1, [], []⟩] := by
      rw [row1_succ]; unfold left; rw [List.filter_append]
    rw [h, List.length_append, ih]
    have hm := ids1_mem d m
    by_cases hlt : m < d
    · rw [decide_eq_true hlt] at hm
      have : left (ids1 d) [⟨0, (m : Int) + 1, [], []⟩] = [] := by unfold left; simp [hm]
      rw [this]; simp; omega
    · rw [decide_eq_false hlt] at hm
      have : left (ids1 d) [⟨0, (m : Int) + 1, [], []⟩] = [⟨0, (m : Int) + 1, [], []⟩] := by unfold left; simp [hm]
      rw [this]; simp; omega
theorem left1_o (d m : Nat) : ∀ c ∈ left (ids1 d) (row1 m), c.o = 0 := by
  intro c hc
  obtain ⟨j, _, rfl⟩ := List.mem_map.1 (List.mem_filter.1 hc).1
  rfl
theorem add_step1 (rm k : Nat) : adds (rm : Int) (row1 (min k rm)) ⟨0, (k : Int) + 1, [], []⟩ = decide (k + 1 ≤ rm) ∧ addC (rm : Int) (row1 (min k rm)) ⟨0, (k : Int) + 1, [], []⟩ = row1 (min (k + 1) rm) := by
  have h1 : adds (rm : Int) (row1 (min k rm)) ⟨0, (k : Int) + 1, [], []⟩ = decide (k + 1 ≤ rm) := by
    unfold adds
    rw [row1_has (Nat.min_le_left _ _), row1_len]
    simp only [Bool.not_false, Bool.and_true, decide_eq_decide]
    omega
  refine ⟨h1, ?_⟩
  unfold addC
  rw [h1]
  by_cases h : k + 1 ≤ rm
  · rw [if_pos (decide_eq_true h), Nat.min_eq_left (by omega), Nat.min_eq_left h, row1_succ]
  · rw [if_neg (by simp; omega), Nat.min_eq_right (by omega), Nat.min_eq_right (by omega)]
/-- What the last loop keeps. -/
def Late (rm b i : Nat) (cs : List Cn) : Prop := cs.length = min rm (b + i) ∧ ∀ c ∈ cs, c.o = 1 → c.s < i
theorem late_step {rm b i : Nat} {cs : List Cn} (h : Late rm b i cs) : Late rm b (i + 1) (addC (rm : Int) cs ⟨1, i, [], []⟩) := by
  obtain ⟨h1, h2⟩ := h
  have hh : has cs 1 i = false := by
    unfold has
    rw [List.any_eq_false]
    intro c hc
    simp only [Bool.and_eq_true, beq_iff_eq, not_and]
    intro ho he
    have := h2 c hc ho
    omega
  have ha : adds (rm : Int) cs ⟨1, i, [], []⟩ = decide (1 ≤ (rm : Int) - cs.length) := by unfold adds; rw [hh]; simp
  unfold addC
  rw [ha]
  by_cases hc : 1 ≤ (rm : Int) - cs.length
  · rw [if_pos (decide_eq_true hc)]
    refine ⟨by simp; omega, ?_⟩
    intro c hm ho
    rcases List.mem_append.1 hm with hm | hm
    · have := h2 c hm ho; omega
    · rw [List.mem_singleton.1 hm]; show (i : Int) < ((i + 1 : Nat) : Int); omega
  · rw [if_neg (by simpa using hc)]
    exact ⟨by omega, fun c hm ho => by have := h2 c hm ho; omega⟩
theorem ret_int {a b : Int} (h : a = b) : Ending.returned (.int .i64 a) = .returned (.int .i64 b) := h ▸ rfl
theorem info34 : (Try.prog.info? 34).map (fun i => (i.zero.map fun z => z.cells.size, i.size, i.bytes)) = some (some 2, 2, 16) := by kernel_rfl
theorem cells_two (w : World) (x y : Value) (t : TypeId) : ∀ j r, [x, y][j]? = some r → (w.alloc (.cells #[x, y] t)).cell? ((⟨w.heap.size, 0, none⟩ : Addr).add j) = some r := by
  intro j r hj
  rw [add_at, cell_at (heap_alloc_new w _)]
  simpa using hj
theorem own_empty (w : World) (e z : Nat) : (w.alloc (.cells #[] e)).ownsRow w.heap.size e z (.slice (some ⟨w.heap.size, 0, none⟩) 0 0) 0 [] :=
  ⟨by simp, .inr ⟨w.heap.size, 0, #[], rfl, Nat.le_refl _, heap_alloc_new w _, Nat.le_refl _, by unfold maxLen; omega, by simp, by simp⟩⟩
set_option maxHeartbeats 8000000 in
theorem pendingRoom.walk (most n d : Nat) (hm : most ≤ 255) (hn : n ≤ 255) (hd : d ≤ 255) (w : World) :
    Calls Try.prog 5 #[.int .u8 most, .int .u8 n, .int .u8 d] w fun e w' => e = .returned (.bool true) ∧ Below w.heap.size w w' := by
  have u0 : IntKind.i64.wrap (most : Int) = most := IntWalk.i64_in _ (by omega)
  have u1 : IntKind.i64.wrap (n : Int) = n := IntWalk.i64_in _ (by omega)
  have u2 : IntKind.i64.wrap (d : Int) = d := IntWalk.i64_in _ (by omega)
  obtain ⟨rm, hrm⟩ : ∃ rm, min most 32 = rm := ⟨_, rfl⟩
  have hmost : most' (most : Int) = (rm : Int) := by unfold most'; omega
  have hmin : min (most : Int) 32 = (rm : Int) := by omega
  have hrm32 : rm ≤ 32 := by omega
  have hnew := new_rr (most : Int) w
  unfold NewR at hnew
  rw [hmost] at hnew
  go_enter Try.func5, Try.ntmps5
  go_wp2_with fail
  refine hnew.mono ?_
  rintro e w1 ⟨R, F, rfl, h1, f1⟩
  have g1 : Below w.heap.size w w1 := f1
  clear hnew
  go_wp2_with fail
  all_goals
    first | rw [show (32 : Int) = (rm : Int) by omega] | rw [show (most : Int) = (rm : Int) by omega]
    have hB1 := h1.le
    clear hmin hmost u0 hrm
    go_loopw [9] (fun i wk => ∃ (k : Nat) (F : Nat → Prop), k ≤ n ∧ i = .int .i64 ((k : Int) + 1) ∧ Rr w.heap.size F R rm (row1 (min k rm)) wk ∧ Below w.heap.size w wk) (fun i _ => n + 1 - (intOf i).toNat)
    case atStart => exact ⟨0, F, Nat.zero_le _, rfl, by rw [Nat.zero_min]; exact h1, g1⟩
    case round =>
      clear h1 g1 hB1 f1
      obtain ⟨k, F, hk, rfl, hr, hb⟩ := hrel
      by_cases hlt : k < n
      · obtain ⟨a1, a2⟩ := add_step1 rm k
        have hadd := add_b hr 0 ((k : Int) + 1) _ _ a1 a2
        by_cases hle : k + 1 ≤ rm
        · rw [decide_eq_true hle] at hadd
          clear hr a1 a2
          go_wp2_with fail
          refine hadd.mono ?_
          rintro e w4 ⟨rfl, g4, ⟨F4, h4⟩, s4⟩
          have hlen := len_rr h4
          rw [row1_len, Nat.min_eq_left hle] at hlen
          have hb4 := hb.trans g4
          have hB4 := h4.le
          clear hadd g4 s4 hb
          have hle' : (k : Int) + 1 ≤ (rm : Int) := by omega
          go_wp2_with fail
          refine hlen.mono ?_
          rintro e w5 ⟨rfl, f5⟩
          have h5 := h4.fr f5
          have hb5 := hb4.trans (f5.below_of hB4)
          clear hlen h4 hb4 f5
          go_wp2_with fail
          exact ⟨⟨k + 1, F4, by omega, by go_num, h5, hb5⟩, by simp [intOf]; omega⟩
        · rw [decide_eq_false hle] at hadd
          clear hr a1 a2
          go_wp2_with fail
          refine hadd.mono ?_
          rintro e w4 ⟨rfl, g4, ⟨F4, h4⟩, s4⟩
          have hlen := len_rr h4
          rw [row1_len, Nat.min_eq_right (by omega)] at hlen
          have hb4 := hb.trans g4
          have hB4 := h4.le
          clear hadd g4 s4 hb
          have hle' : ¬ ((k : Int) + 1 ≤ (rm : Int)) := by omega
          go_wp2_with fail
          refine hlen.mono ?_
          rintro e w5 ⟨rfl, f5⟩
          have h5 := h4.fr f5
          have hb5 := hb4.trans (f5.below_of hB4)
          clear hlen h4 hb4 f5
          go_wp2_with fail
          exact ⟨⟨k + 1, F4, by omega, by go_num, h5, hb5⟩, by simp [intOf]; omega⟩
      · obtain rfl : n = k := by omega
        obtain ⟨m1, hm1⟩ : ∃ m1, min n rm = m1 := ⟨_, rfl⟩
        rw [hm1] at hr
        have hB1 := hr.le
        obtain ⟨i0, z0, hi0, hz0, hz1, hz2, hz3⟩ := parts info34
        generalize wr = w2 at *
        have hnil := own_empty w2 34 2
        have f1 := (Fr.refl w2).alloc (.cells #[] 34)
        go_wp2_with fail
        go_loopw [10, 11] (fun v i wk => ∃ (k : Nat), k ≤ d ∧ i = .int .i64 ((k : Int) + 1) ∧ wk.ownsRow w2.heap.size 34 2 v k (idL (ids1 k)) ∧ Fr w2 wk) (fun _ i _ => d + 1 - (intOf i).toNat)
        case atStart => exact ⟨0, Nat.zero_le _, rfl, hnil, f1⟩
        case round =>
          clear hnil f1
          obtain ⟨k, hk, rfl, hrow, hf⟩ := hrel
          have hsz := hf.size
          by_cases hlt : k < d
          · clear hr
            go_wp2_with (at_builtin; go_must (refine wpList_append_lies _ rfl _ _ 42 rfl w2.heap.size 34 i0 z0 2 16 Try.underlying42 hi0 hz0 hz2 hz3 hz1 (by decide) u10 k (idL (ids1 k)) rfl (hrow.alloc _) ⟨wr.heap.size, 0, none⟩ 1 1 [.int .i64 0, .int .i64 ((k : Int) + 1)] rfl rfl (cells_two _ _ _ _) (by simp [Value.oneCell']) (by omega) (by unfold maxLen; omega) (by omega) (by simp; omega) _ rfl ?_); intro g' cap' w6 hown hgrow hat hlt6)
            refine ⟨⟨k + 1, by omega, by go_num, ?_, ?_⟩, by simp [intOf]; omega⟩
            · have he : idL (ids1 (k + 1)) = idL (ids1 k) ++ [.int .i64 0, .int .i64 ((k : Int) + 1)] := by rw [ids1_succ]; simp [idL, idC]
              rw [he]; exact hown
            · exact ((But.of_fr (F := fun _ => False) (hf.alloc _)).mix (But.of_grown hgrow) (H := fun k => u10.ownBlock = some k) (fun _ _ h => h.elim) (fun _ _ h => h)).fr (fun k hk hc => by have := (hrow.lt k hc).1; omega)
          · obtain rfl : d = k := by omega
            have hsl := owns_sl hrow
            obtain ⟨a, c, rfl⟩ : ∃ a c, u10 = .slice a d c := by obtain ⟨a, c, h, _⟩ := hsl; exact ⟨a, c, h⟩
            have hr2 := hr.fr hf
            have hb2 := hb.trans (hf.below_of hB1)
            have hdrop := drop_rr hr2 (ids1 d) hsl (by omega)
            have hl1 := left1_len d m1
            have hl2 := row1_len m1
            clear hrow hf hr hb hsl hsz
            have HH := Go.Lib.hid (And.intro hl1 (And.intro hl2 hm1))
            clear hl1 hl2 hm1
            by_cases hA : rm < n
            all_goals
              go_wp2_with fail
              all_goals
                refine hdrop.mono ?_
                rintro e w4 ⟨he, F4, h4, _, hb4⟩
                obtain ⟨q1, q2, q3⟩ := HH.out
                rw [q1, q2] at he
                have hroom := room_rr h4
                have hlate : Late rm (left (ids1 d) (row1 m1)).length 0 (left (ids1 d) (row1 m1)) := ⟨by rw [q1]; omega, fun c hc ho => by have := left1_o d m1 c hc; omega⟩
                have hb5 := hb2.trans (hr2.below hb4)
                have hB4 := h4.le
                rw [q1] at hroom hlate
                first
                  | (have hx : (m1 : Int) - ((m1 - min d m1 : Nat) : Int) = d := by omega
                     rw [hx] at he
                     subst he)
                  | (have hx : (m1 : Int) - ((m1 - min d m1 : Nat) : Int) = n := by omega
                     rw [hx] at he
                     subst he)
                  | (have hx : (m1 : Int) - ((m1 - min d m1 : Nat) : Int) = rm := by omega
                     rw [hx] at he
                     subst he)
                clear hx hdrop hr2 hb2 hb4
                have hlen : min d m1 ≤ m1 := Nat.min_le_right _ _
                generalize left (ids1 d) (row1 m1) = cs at *
                have hu : IntKind.i64.wrap ((rm : Int) - n) = (rm : Int) - n := IntWalk.i64_in _ (by omega)
                have hu2 : IntKind.i64.wrap ((rm : Int) - n + d) = (rm : Int) - n + d := IntWalk.i64_in _ (by omega)
                have HQ := Go.Lib.hid (And.intro q1 (And.intro q2 q3))
                clear q1 q2 q3 HH
                go_wp2_with fail
                refine hroom.mono ?_
                rintro e w5 ⟨he, f5⟩
                first
                  | (have hx : (rm : Int) - ((m1 - min d m1 : Nat) : Int) = d := by obtain ⟨_, _, q3⟩ := HQ.out; omega
                     rw [hx] at he
                     subst he)
                  | (have hx : (rm : Int) - ((m1 - min d m1 : Nat) : Int) = rm := by obtain ⟨_, _, q3⟩ := HQ.out; omega
                     rw [hx] at he
                     subst he)
                  | (have hx : (rm : Int) - ((m1 - min d m1 : Nat) : Int) = (rm : Int) - n + d := by obtain ⟨_, _, q3⟩ := HQ.out; omega
                     rw [hx] at he
                     subst he)
                have h5 := h4.fr f5
                have hb6 := hb5.trans (f5.below_of hB4)
                have hB5 := h5.le
                clear hx h4 hb5 f5 hroom hB4
                obtain ⟨bl, hbl⟩ : ∃ bl, m1 - min d m1 = bl := ⟨_, rfl⟩
                rw [hbl] at hlate
                have hbl32 : bl ≤ rm := by obtain ⟨_, _, q3⟩ := HQ.out; omega
                clear hbl
                go_wp2_with fail
                generalize w5 = wx at *
                go_loopw [13] (fun i wk => ∃ (k : Nat) (F : Nat → Prop) (cs : List Cn), k ≤ 40 ∧ i = .int .i64 (k : Int) ∧ Rr w.heap.size F R rm cs wk ∧ Late rm bl k cs ∧ Below w.heap.size w wk) (fun i _ => 40 - (intOf i).toNat)
                case atStart => exact ⟨0, F4, cs, by decide, rfl, h5, hlate, hb6⟩
                case round =>
                  clear h5 hb6 hlate hB5
                  obtain ⟨k, F, cs, hk, rfl, hr, hlt, hb⟩ := hrel
                  have hB := hr.le
                  by_cases hlt4 : k < 40
                  · have hadd := add_id hr 1 (k : Int)
                    have HL := Go.Lib.hid (late_step hlt)
                    have HR := Go.Lib.hid hr
                    clear hlt hr
                    go_wp2_with fail
                    refine hadd.mono ?_
                    rintro e w4 ⟨rfl, F5, h5, _, hb4⟩
                    have hb6 := hb.trans (HR.out.below hb4)
                    clear hadd hb4
                    go_wp2_with fail
                    exact ⟨⟨k + 1, F5, _, by omega, by go_num, h5, HL.out, hb6⟩, by simp [intOf]; omega⟩
                  · obtain rfl : k = 40 := by omega
                    have hlen := len_rr hr
                    have hroom := room_rr hr
                    have hl1 : cs.length = rm := by have := hlt.1; omega
                    rw [hl1] at hlen
                    clear hlt
                    go_wp2_with fail
                    refine hlen.mono ?_
                    rintro e w5 ⟨rfl, f5⟩
                    have hroom5 := room_rr (hr.fr f5)
                    rw [hl1, Int.sub_self] at hroom5
                    go_wp2_with fail
                    refine hroom5.mono ?_
                    rintro e w6 ⟨rfl, f6⟩
                    go_wp2_with fail
                    refine (awake_walk w6).mono ?_
                    rintro e w7 ⟨rfl, f7⟩
                    go_wp2_with fail
                    go_ret
                    exact ⟨rfl, hb.trans (((f5.trans f6).trans f7).below_of hB)⟩
theorem u8_nat {a : Int} (h : (Lit.int .u8 a).wf = true) : ∃ n : Nat, a = n ∧ n < 256 := by
  have hx : 0 ≤ a ∧ a ≤ 255 := by simpa [Lit.wf, IntKind.min, IntKind.max, IntKind.signed, IntKind.bits] using h
  exact ⟨a.toNat, by omega, by omega⟩
end Go.Proofs.Ytncbgcfjjlhgpaa
