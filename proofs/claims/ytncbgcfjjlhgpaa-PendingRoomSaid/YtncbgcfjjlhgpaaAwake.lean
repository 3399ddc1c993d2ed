/-
  The chapter's example is answered as it says. Conditions: none.
-/
import Derived.Test.YtncbgcfjjlhgpaaRr
namespace Go.Proofs.Ytncbgcfjjlhgpaa
open Go.RowKit

theorem sl_none (w : World) (z : Nat) : Sl w (.slice none 0 0) 0 z [] := ⟨none, 0, rfl, by simp, Nat.le_refl _, .inl rfl⟩
theorem add_id {B R : Nat} {F : Nat → Prop} {most : Int} {cs : List Cn} {w : World} (h : Rr B F R most cs w) (o s : Int) :
    Calls Try.prog 10 #[.pointer (some ⟨R, 0, none⟩), .agg #[.int .i64 o, .int .i64 s, .slice none 0 0, .slice none 0 0]] w (AddR B F R most cs ⟨o, s, [], []⟩ w) :=
  add_rr h ⟨⟨o, s, [], []⟩, .slice none 0 0, .slice none 0 0⟩ ⟨sl_none w 3, sl_none w 5⟩ (Nat.zero_le _) (Nat.zero_le _)
theorem add_b {B R : Nat} {F : Nat → Prop} {most : Int} {cs : List Cn} {w : World} (h : Rr B F R most cs w) (o s : Int) (b : Bool) (cs' : List Cn) (hb : adds most cs ⟨o, s, [], []⟩ = b) (hc : addC most cs ⟨o, s, [], []⟩ = cs') :
    Calls Try.prog 10 #[.pointer (some ⟨R, 0, none⟩), .agg #[.int .i64 o, .int .i64 s, .slice none 0 0, .slice none 0 0]] w fun e w' => e = .returned (.bool b) ∧ Below B w w' ∧ (∃ F', Rr B F' R most cs' w') ∧ w.heap.size ≤ w'.heap.size :=
  (add_id h o s).mono fun e w' ⟨h1, F', h2, _, h4⟩ => ⟨by rw [h1]; rw [hb], h.below h4, ⟨F', hc ▸ h2⟩, h4.size⟩
theorem drop_b {B R : Nat} {F : Nat → Prop} {most : Int} {cs : List Cn} {w : World} (h : Rr B F R most cs w) {m c : Nat} {ia : Option Addr} (ids : List (Int × Int)) (hi : Sl w (.slice ia m c) m 2 (idL ids)) (hm : m ≤ 1000000) (n : Int) (cs' : List Cn) (hn : (cs.length - (left ids cs).length : Int) = n) (hc : left ids cs = cs') :
    Calls Try.prog 14 #[.pointer (some ⟨R, 0, none⟩), .slice ia m c] w fun e w' => e = .returned (.int .i64 n) ∧ Below B w w' ∧ (∃ F', Rr B F' R most cs' w') ∧ w.heap.size ≤ w'.heap.size :=
  (drop_rr h ids hi hm).mono fun e w' ⟨h1, F', h2, _, h4⟩ => ⟨by rw [h1]; rw [hn], h.below h4, ⟨F', hc ▸ h2⟩, h4.size⟩
theorem sl_ids1 (w : World) (o s : Int) : Sl (w.alloc (.cells #[.int .i64 o, .int .i64 s] 34)) (.slice (some ⟨w.heap.size, 0, none⟩) 1 1) 1 2 (idL [(o, s)]) :=
  ⟨_, 1, rfl, rfl, Nat.le_refl _, .inr ⟨w.heap.size, 0, rfl, by simp, fun j u hu => by
    rw [Nat.zero_add, cell_at (heap_alloc_new w _)]; simpa [idL, idC] using hu⟩⟩
set_option maxHeartbeats 4000000 in
theorem awake_walk (w : World) : Calls Try.prog 7 #[] w fun e w' => e = .returned (.bool true) ∧ Below w.heap.size w w' := by
  go_enter Try.func7, Try.ntmps7
  go_wp2_with fail
  refine (new_rr 2 w).mono ?_
  rintro e w1 ⟨R, F, rfl, h1, f1⟩
  have g1 : Below w.heap.size w w1 := f1
  go_wp2_with fail
  refine (add_b h1 0 1 true [⟨0, 1, [], []⟩] rfl rfl).mono ?_
  rintro e w2 ⟨rfl, g2, ⟨F2, h2⟩, s2⟩
  replace g2 := g1.trans g2
  clear h1 g1 f1
  go_wp2_with fail
  refine (add_b h2 0 2 true [⟨0, 1, [], []⟩, ⟨0, 2, [], []⟩] rfl rfl).mono ?_
  rintro e w3 ⟨rfl, g3, ⟨F3, h3⟩, s3⟩
  replace g3 := g2.trans g3
  clear h2 g2
  go_wp2_with fail
  refine (add_b h3 0 3 false [⟨0, 1, [], []⟩, ⟨0, 2, [], []⟩] rfl rfl).mono ?_
  rintro e w4 ⟨rfl, g4, ⟨F4, h4⟩, s4⟩
  replace g4 := g3.trans g4
  clear h3 g3
  have hs := sl_ids1 w4 0 1
  have f5 := (Fr.refl w4).alloc (.cells #[.int .i64 0, .int .i64 1] 34)
  have hB := h4.le
  go_wp2_with fail
  refine (drop_b (h4.fr f5) [(0, 1)] hs (by decide) 1 [⟨0, 2, [], []⟩] rfl rfl).mono ?_
  rintro e w5 ⟨rfl, g5, ⟨F5, h5⟩, s5⟩
  replace g5 := (g4.trans (f5.below_of hB)).trans g5
  clear h4 g4 f5 hs hB
  go_wp2_with fail
  refine (add_b h5 0 3 true [⟨0, 2, [], []⟩, ⟨0, 3, [], []⟩] rfl rfl).mono ?_
  rintro e w6 ⟨rfl, g6, ⟨F6, h6⟩, s6⟩
  replace g6 := g5.trans g6
  clear h5 g5
  go_wp2_with fail
  refine (len_rr h6).mono ?_
  rintro e w7 ⟨rfl, f7⟩
  have h7 := h6.fr f7
  have g7 := g6.trans (f7.below_of h6.le)
  clear h6 g6 f7
  go_wp2_with fail
  refine (room_rr h7).mono ?_
  rintro e w8 ⟨rfl, f8⟩
  have h8 := h7.fr f8
  have g8 := g7.trans (f8.below_of h7.le)
  have hB := h8.le
  have hz : (most' 2 - (([⟨0, 2, [], []⟩, ⟨0, 3, [], []⟩] : List Cn).length : Nat) : Int) = 0 := rfl
  clear h7 g7 f8 h8
  go_wp2_with fail
  refine (add_nil 0 0 (.slice none 0 0) (.slice none 0 0) w8).mono ?_
  rintro e w9 ⟨rfl, f9⟩
  go_wp2_with fail
  refine (drop_nil (m := 0) (c := 0) (ia := none) w9).mono ?_
  rintro e w10 ⟨rfl, f10⟩
  go_wp2_with fail
  refine (all_nil w10).mono ?_
  rintro e w11 ⟨rfl, rfl⟩
  go_wp2_with fail
  refine (room_nil w10).mono ?_
  rintro e w12 ⟨rfl, rfl⟩
  go_wp2_with fail
  refine (has_nil 0 0 w10).mono ?_
  rintro e w13 ⟨rfl, f13⟩
  go_wp2_with fail
  go_ret
  exact ⟨rfl, g8.trans (((f9.trans f10).trans f13).below_of hB)⟩
end Go.Proofs.Ytncbgcfjjlhgpaa
