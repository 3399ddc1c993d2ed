/-
  The walk of the document's Add. Conditions: what is read lies where it says.
-/
import Derived.Test.YtncbgcfjjlhgpaaDoc
namespace Go.Proofs.Ytncbgcfjjlhgpaa
open Go.RowKit

theorem mem_ids (l : List Cn) (o s : Int) : mem (l.map idOf) o s = has l o s := by
  unfold mem has; rw [List.any_map]; rfl
set_option maxRecDepth 20000 in
set_option maxHeartbeats 4000000 in
theorem radd_full {a : Option Addr} {n c : Nat} {w : World} (m o s : Int) (g st : Value) (hn : n ≤ 1000) (hd : most' m - n < 1) :
    Calls Try.prog 9 #[.int .i64 m, .slice a n c, .agg #[.int .i64 o, .int .i64 s, g, st]] w fun e w' => e = .returned (.tuple #[.slice a n c, .bool false]) ∧ Fr w w' := by
  have f1 := (Fr.refl w).alloc (.cells #[.int .i64 o, .int .i64 s, g, st] 40)
  have hroom := rroom_walk m n hn
  obtain ⟨x, hx⟩ : ∃ x, most' m - n = x := ⟨_, rfl⟩
  rw [hx] at hroom hd
  clear hx
  go_enter Try.func9, Try.ntmps9
  go_wp2_with fail
  generalize w.alloc (.cells #[.int .i64 o, .int .i64 s, g, st] 40) = W at *
  have hdd : decide (x < 1) = true := decide_eq_true hd
  refine wp_region_class (Fr W) (by kernel_rfl) (by kernel_rfl) (Fr.draw _) ?_
  repeat (first
    | (refine wpQuiet_val rfl ?_
       apply Exists.intro
       refine ⟨?_, ?_⟩
       focus (intro w' hw'; go_simp; (try go_bits); with_reducible rfl)
       simp only [Act.put, List.setIfInBounds_toArray, List.set_cons_zero, List.set_cons_succ])
    | (refine wpQuiet_pass rfl ?_
       simp only [Act.put, List.setIfInBounds_toArray, List.set_cons_zero, List.set_cons_succ])
    | (refine wpQuiet_enter rfl ?_
       apply Exists.intro
       apply Exists.intro
       apply Exists.intro
       refine ⟨?_, ?_, ?_⟩
       focus (intro w' hw'; go_simp; exact ⟨rfl, rfl⟩)
       focus (intro w' hw'; with_reducible first | exact qEq (by assumption) (hroom _))
       simp only [Act.put, List.setIfInBounds_toArray, List.set_cons_zero, List.set_cons_succ]))
  refine wpQuiet_nil ?_
  intro w2 f2
  go_wp2_with fail
  go_ret2
  exact ⟨rfl, f1.trans f2⟩
theorem owns_mono {w : World} {B B' e z n : Nat} {v : Value} {xs : List Value} (h : w.ownsRow B e z v n xs) (hB : B' ≤ B) : w.ownsRow B' e z v n xs := by
  refine ⟨h.1, ?_⟩
  rcases h.2 with h | ⟨g, cap, cur, q0, q1, q2⟩
  · exact .inl h
  · exact .inr ⟨g, cap, cur, q0, Nat.le_trans hB q1, q2⟩
def Ids2 (n : Nat) (ids : List (Int × Int)) (W : World) (e : Ending) (w' : World) : Prop := ∃ a c, e = .returned (.slice a n c) ∧ Sl w' (.slice a n c) n 2 (idL ids) ∧ ids.length = n ∧ Fr W w'
theorem ids2_walk {a : Option Addr} {n c : Nat} {w : World} (es : List Et) (h : Sl w (.slice a n c) n 4 (etL es)) (hl : es.length = n) (hn : n ≤ 1000000) : Calls Try.prog 20 #[.slice a n c] w (Ids2 n ((es.map Et.c).map idOf) w) :=
  (ids_walk es h hl hn).mono fun e w' ⟨ai, ni, ci, h1, h2, h3, h4⟩ => by
    obtain rfl : ni = n := by rw [h2, List.length_map]; exact hl
    exact ⟨ai, ci, h1, owns_sl h3, by rw [List.length_map]; exact h2.symm, h4⟩
set_option maxRecDepth 20000 in
set_option maxHeartbeats 1000000 in
theorem radd_walk {a : Option Addr} {n c : Nat} {w : World} (m : Int) (ms : List Et) (h : Sl w (.slice a n c) n 4 (etL ms)) (hl : ms.length = n) (hfm : Formed ms) (hn : n ≤ 1000) (x : Et) (hxf : Formed [x]) (hd : ¬ most' m - n < 1) :
    Calls Try.prog 9 #[.int .i64 m, .slice a n c, .agg #[.int .i64 x.c.o, .int .i64 x.c.s, x.g, x.st]] w fun e w' => (has (ms.map Et.c) x.c.o x.c.s = true ∧ e = .returned (.tuple #[.slice a n c, .bool false]) ∧ Fr w w') ∨
      (has (ms.map Et.c) x.c.o x.c.s = false ∧ ∃ g c', e = .returned (.tuple #[.slice (some ⟨g, 0, none⟩) (n + 1) c', .bool true]) ∧ w'.ownsRow w.heap.size 40 4 (.slice (some ⟨g, 0, none⟩) (n + 1) c') (n + 1) (etL (ms ++ [x])) ∧ Fr w w') := by
  obtain ⟨⟨o, s, gs, ss⟩, g, st⟩ := x
  obtain ⟨⟨a1, n1, c1, rfl⟩, ⟨a2, n2, c2, rfl⟩⟩ : (∃ a n c, g = .slice a n c) ∧ ∃ a n c, st = .slice a n c := hxf _ List.mem_cons_self
  clear hxf
  dsimp only
  have f1 := (Fr.refl w).alloc (.cells #[.int .i64 o, .int .i64 s, .slice a1 n1 c1, .slice a2 n2 c2] 40)
  have b1 := heap_alloc_new w (.cells #[.int .i64 o, .int .i64 s, .slice a1 n1 c1, .slice a2 n2 c2] 40)
  have hN : w.heap.size < (w.alloc (.cells #[.int .i64 o, .int .i64 s, .slice a1 n1 c1, .slice a2 n2 c2] 40)).heap.size := by simp
  have hroom := rroom_walk m n hn
  obtain ⟨y, hy⟩ : ∃ y, most' m - n = y := ⟨_, rfl⟩
  rw [hy] at hroom hd
  clear hy
  go_enter Try.func9, Try.ntmps9
  go_wp2_with fail
  have h1 := h.fr f1
  generalize w.alloc (.cells #[.int .i64 o, .int .i64 s, .slice a1 n1 c1, .slice a2 n2 c2] 40) = W at *
  have f2 : Fr W W.drew := (Fr.refl W).drewN 1
  have b2 := (f2.heap hN).trans b1
  have x0 : W.drew.cell? ⟨w.heap.size, 0, none⟩ = some (.int .i64 o) := cell_at b2 0
  have x1 : W.drew.cell? ⟨w.heap.size, 1, none⟩ = some (.int .i64 s) := cell_at b2 1
  have hids := ids2_walk ms (h1.fr f2) hl (by omega)
  have HH := Go.Lib.hid (And.intro h (And.intro hl (And.intro hfm (And.intro b2 (And.intro (f1.trans f2) (And.intro hN f2))))))
  clear h h1 hl hfm b1 f1 hN b2 f2
  have hdd : decide (y < 1) = false := decide_eq_false (by omega)
  go_region_law (first | (go_simp; go_at_call 17; refine (hroom _).mono ?_; rintro e w3 ⟨rfl, rfl⟩) | (go_simp; go_at_call 20; refine hids.mono ?_; rintro e wi ⟨ai, ci, rfl, hsi, hni, fi⟩; have hrh := rhas_walk _ hsi hni (by omega) o s; rw [mem_ids] at hrh; clear hsi hni; have x2 : wi.cell? ⟨w.heap.size, 0, none⟩ = some (.int .i64 o) := cell_at ((fi.heap (Array.getElem?_eq_some_iff.1 HH.out.2.2.2.1).1).trans HH.out.2.2.2.1) 0; have x3 : wi.cell? ⟨w.heap.size, 1, none⟩ = some (.int .i64 s) := cell_at ((fi.heap (Array.getElem?_eq_some_iff.1 HH.out.2.2.2.1).1).trans HH.out.2.2.2.1) 1) | (go_simp; go_at_call 19; refine hrh.mono ?_; rintro e w4 ⟨rfl, f4⟩))
  all_goals
    obtain ⟨h, hl, hfm, b2, f2, hN, fd⟩ := HH.out
    have f5 := (f2.trans fi).trans f4
    have b5 := ((fi.trans f4).heap (Array.getElem?_eq_some_iff.1 b2).1).trans b2
    have hN5 := (Array.getElem?_eq_some_iff.1 b5).1
    clear hids hrh HH b2 f2 fd fi f4 x0 x1 x2 x3 hroom hN
    cases hh : has (ms.map Et.c) o s with
    | true =>
      have HL := Go.Lib.hid hh
      clear h hl hfm hh b5
      go_wp2_with fail
      go_ret2
      exact .inl ⟨HL.out, rfl, f5⟩
    | false =>
      obtain ⟨i0, z0, hi0, hz0, hz1, hz2, hz3⟩ := parts info40
      have HL := Go.Lib.hid (And.intro hh (And.intro h (And.intro hl hfm)))
      have hnil := own_empty4 w4
      have f6 := (Fr.refl w4).alloc (.cells #[] 40)
      clear h hl hfm hh
      go_wp2_with fail
      go_loopw [8, 9] (fun v i wk => ∃ (k : Nat), k ≤ n ∧ i = .int .i64 k ∧ wk.ownsRow w4.heap.size 40 4 v k (etL (ms.take k)) ∧ Fr w4 wk) (fun _ i _ => n - (intOf i).toNat)
      case atStart => exact ⟨0, Nat.zero_le _, rfl, hnil, f6⟩
      case round =>
        clear hnil f6
        obtain ⟨k, hk, rfl, hrow, hf⟩ := hrel
        have hsz := hf.size
        by_cases hlt : k < n
        · obtain ⟨hh, h, hl, hfm⟩ := HL.out
          obtain ⟨e, he⟩ : ∃ e, ms[k]? = some e := ⟨_, List.getElem?_eq_getElem (by omega)⟩
          obtain ⟨b, oo, rfl, hb, hnc, hcs⟩ := h.get (by omega)
          have cc : ∀ j, j < 4 → wr.cell? ⟨b, oo + (k * 4 + j), none⟩ = (etV e)[j]? := fun j hj => by
            have h1 : (etL ms)[k * 4 + j]? = (etV e)[j]? := by rw [etL_at ms k j hj, he]; rfl
            have h2 : j < (etV e).length := hj
            rw [List.getElem?_eq_getElem h2] at h1 ⊢
            rw [World.cell?_of_block ((f5.trans hf).heap hb)]
            exact hcs _ _ h1
          have hfe := hfm e (List.mem_of_getElem? he)
          have htk : etL (ms.take (k + 1)) = etL (ms.take k) ++ etV e := by rw [List.take_add_one, he]; exact etL_push _ _
          obtain ⟨⟨eo, es', egs, ess⟩, eg', est⟩ := e
          obtain ⟨⟨a3, n3, c3, rfl⟩, ⟨a4, n4, c4, rfl⟩⟩ : (∃ a n c, eg' = .slice a n c) ∧ ∃ a n c, est = .slice a n c := hfe
          have y0 : wr.cell? ⟨b, oo + k * 4, none⟩ = some (.int .i64 eo) := cc 0 (by decide)
          have y1 : wr.cell? ⟨b, oo + k * 4 + 1, none⟩ = some (.int .i64 es') := cc 1 (by decide)
          have y2 : wr.cell? ⟨b, oo + k * 4 + 2, none⟩ = some (.slice a3 n3 c3) := cc 2 (by decide)
          have y3 : wr.cell? ⟨b, oo + k * 4 + 3, none⟩ = some (.slice a4 n4 c4) := cc 3 (by decide)
          have HK := Go.Lib.hid htk
          clear cc hcs he htk hh h hl hfm
          go_wp2_with (at_builtin; go_must (refine wpList_append_lies _ rfl _ _ 22 rfl w4.heap.size 40 i0 z0 4 64 Try.underlying22 hi0 hz0 hz2 hz3 hz1 (by decide) u8 k (etL (ms.take k)) rfl (hrow.alloc _) ⟨wr.heap.size, 0, none⟩ 1 1 [.int .i64 eo, .int .i64 es', .slice a3 n3 c3, .slice a4 n4 c4] rfl rfl (cells_four _ _ _ _ _ _) (by simp [Value.oneCell']) (by omega) (by unfold maxLen; omega) (by omega) (by simp; omega) _ rfl ?_); intro g' cap' w6 hown hgrow hat hlt6)
          refine ⟨⟨k + 1, by omega, by go_num, ?_, ?_⟩, by simp [intOf]; omega⟩
          · rw [HK.out]; exact hown
          · exact ((But.of_fr (F := fun _ => False) (hf.alloc _)).mix (But.of_grown hgrow) (H := fun k => u8.ownBlock = some k) (fun _ _ h => h.elim) (fun _ _ h => h)).fr (fun k hk hc => by have := (hrow.lt k hc).1; omega)
        · obtain rfl : n = k := by omega
          have hf7 := f5.trans hf
          have b7 := (hf.heap hN5).trans b5
          have y0 : wr.cell? ⟨w.heap.size, 0, none⟩ = some (.int .i64 o) := cell_at b7 0
          have y1 : wr.cell? ⟨w.heap.size, 1, none⟩ = some (.int .i64 s) := cell_at b7 1
          have y2 : wr.cell? ⟨w.heap.size, 2, none⟩ = some (.slice a1 n1 c1) := cell_at b7 2
          have y3 : wr.cell? ⟨w.heap.size, 3, none⟩ = some (.slice a2 n2 c2) := cell_at b7 3
          clear b7 b5
          go_wp2_with (at_builtin; go_must (refine wpList_append_lies _ rfl _ _ 22 rfl w4.heap.size 40 i0 z0 4 64 Try.underlying22 hi0 hz0 hz2 hz3 hz1 (by decide) u8 n (etL (ms.take n)) rfl (hrow.alloc _) ⟨wr.heap.size, 0, none⟩ 1 1 [.int .i64 o, .int .i64 s, .slice a1 n1 c1, .slice a2 n2 c2] rfl rfl (cells_four _ _ _ _ _ _) (by simp [Value.oneCell']) (by omega) (by unfold maxLen; omega) (by omega) (by simp; omega) _ rfl ?_); intro g' cap' w6 hown hgrow hat hlt6)
          go_ret2
          have ht : ms.take n = ms := List.take_of_length_le (by have := HL.out.2.2.1; omega)
          rw [ht] at hown
          refine .inr ⟨HL.out.1, g', cap', rfl, ?_, ?_⟩
          · rw [etL_push]; exact owns_mono hown f5.size
          · exact f5.trans (((But.of_fr (F := fun _ => False) (hf.alloc _)).mix (But.of_grown hgrow) (H := fun k => u8.ownBlock = some k) (fun _ _ h => h.elim) (fun _ _ h => h)).fr (fun k hk hc => by have := (hrow.lt k hc).1; omega))
end Go.Proofs.Ytncbgcfjjlhgpaa
