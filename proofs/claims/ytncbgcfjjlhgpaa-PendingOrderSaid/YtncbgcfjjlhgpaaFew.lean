/-
  The walk of Few: few entries, if it says so. Conditions: what is read lies where it says.
-/
import Derived.Test.YtncbgcfjjlhgpaaRef
namespace Go.Proofs.Ytncbgcfjjlhgpaa
open Go.RowKit

/-- Short lists. -/
def Brief (es : List Et) : Prop := ∀ e ∈ es, e.c.gs.length ≤ 10 ∧ e.c.ss.length ≤ 10
theorem brief_step {es : List Et} {k : Nat} {e : Et} (h : Brief (es.take k)) (hk : es[k]? = some e) (h1 : e.c.gs.length ≤ 10) (h2 : e.c.ss.length ≤ 10) : Brief (es.take (k + 1)) := by
  intro x hx
  rw [List.take_add_one, hk] at hx
  rcases List.mem_append.1 hx with hx | hx
  · exact h x hx
  · simp at hx; rw [hx]; exact ⟨h1, h2⟩
def FewPost (es : List Et) (W : World) (e : Ending) (w' : World) : Prop := ∃ b, e = .returned (.bool b) ∧ (b = true → es.length ≤ 24 ∧ Brief es) ∧ Fr W w'
set_option maxHeartbeats 4000000 in
set_option maxRecDepth 20000 in
theorem few_walk {a : Option Addr} {n c : Nat} {w : World} (es : List Et) (h : Rd w (.slice a n c) es) (hl : es.length = n) : Calls Try.prog 6 #[.slice a n c] w (FewPost es w) := by
  go_enter Try.func6, Try.ntmps6
  go_wp2_with fail
  go_loopw [3] (fun i wk => ∃ (k : Nat), k ≤ n ∧ k ≤ 30 ∧ i = .int .i64 k ∧ Brief (es.take k) ∧ Fr w wk) (fun i _ => n - (intOf i).toNat)
  case atStart => exact ⟨0, Nat.zero_le _, by decide, rfl, (by intro e he; simp at he), Fr.refl _⟩
  case round =>
    obtain ⟨k, hk, hk30, rfl, hbr, hf⟩ := hrel
    by_cases hlt : k < n
    · by_cases h30 : k < 30
      · obtain ⟨e, he⟩ : ∃ e, es[k]? = some e := ⟨_, List.getElem?_eq_getElem (by omega)⟩
        have hsl := h.sl
        rw [hl] at hsl
        obtain ⟨b, oo, rfl, hb, hnc, hcs⟩ := hsl.get (by omega)
        clear hsl
        have hok := (h.ok e (List.mem_of_getElem? he)).fr hf
        have x2 : wr.cell? ⟨b, oo + k * 4 + 2, none⟩ = some e.g := by
          rw [Nat.add_assoc, World.cell?_of_block (hf.heap hb), hcs (k * 4 + 2) _ (by rw [etL_at es k 2 (by decide), he]; rfl)]
        have x3 : wr.cell? ⟨b, oo + k * 4 + 3, none⟩ = some e.st := by
          rw [Nat.add_assoc, World.cell?_of_block (hf.heap hb), hcs (k * 4 + 3) _ (by rw [etL_at es k 3 (by decide), he]; rfl)]
        obtain ⟨⟨eo, es', gs, ss⟩, g, st⟩ := e
        obtain ⟨ga, gc, rfl⟩ : ∃ a c, g = .slice a gs.length c := by obtain ⟨a, c, h, _⟩ := hok.g.form; exact ⟨a, c, h⟩
        obtain ⟨sa, sc, rfl⟩ : ∃ a c, st = .slice a ss.length c := by obtain ⟨a, c, h, _⟩ := hok.st.form; exact ⟨a, c, h⟩
        obtain ⟨hg, hs⟩ := hok
        dsimp only at hg hs x2 x3
        have hbs := fun h1 h2 => brief_step hbr he h1 h2
        dsimp only at hbs
        obtain ⟨gn, hgn⟩ : ∃ gn, gs.length = gn := ⟨_, rfl⟩
        obtain ⟨sn, hsn⟩ : ∃ sn, ss.length = sn := ⟨_, rfl⟩
        rw [hgn] at x2 hg hbs
        rw [hsn] at x3 hs hbs
        have fa := (Fr.refl wr).alloc (.cells #[.slice ga gn gc, .slice sa sn sc] 38)
        have ba := heap_alloc_new wr (.cells #[.slice ga gn gc, .slice sa sn sc] 38)
        have hNl : wr.heap.size < (wr.alloc (.cells #[.slice ga gn gc, .slice sa sn sc] 38)).heap.size := by simp
        have y0 : (wr.alloc (.cells #[.slice ga gn gc, .slice sa sn sc] 38)).cell? ⟨wr.heap.size, 0, none⟩ = some (.slice ga gn gc) := cell_at ba 0
        have y1 : (wr.alloc (.cells #[.slice ga gn gc, .slice sa sn sc] 38)).cell? ⟨wr.heap.size, 1, none⟩ = some (.slice sa sn sc) := cell_at ba 1
        have HH := Go.Lib.hid (And.intro hgn (And.intro hsn (And.intro hbs (And.intro h hl))))
        clear hgn hsn hbs hcs he hbr h hl
        by_cases q1 : (10 : Int) < gn
        · go_wp2_with fail
          go_ret
          exact ⟨false, rfl, fun hb => ((by cases hb)), hf.trans fa⟩
        by_cases q2 : (10 : Int) < sn
        · go_wp2_with fail
          go_ret
          exact ⟨false, rfl, fun hb => ((by cases hb)), hf.trans fa⟩
        go_wp2_with fail
        have HQ := Go.Lib.hid (And.intro HH.out.2.2.1 (And.intro (show gn ≤ 10 by omega) (show sn ≤ 10 by omega)))
        have hg2 := hg.fr fa
        have hs2 := hs.fr fa
        obtain ⟨N, hN⟩ : ∃ N, wr.heap.size = N := ⟨_, rfl⟩
        rw [hN] at ba hNl y0 y1 ⊢
        have f2 := hf.trans fa
        clear hg hs x2 x3 fa hN hf
        generalize wr.alloc (.cells #[.slice ga gn gc, .slice sa sn sc] 38) = W2 at *
        go_loopw [5] (fun i wk => ∃ (p : Nat), p ≤ gn ∧ i = .int .i64 p ∧ Fr W2 wk) (fun i _ => gn - (intOf i).toNat)
        case atStart => exact ⟨0, Nat.zero_le _, rfl, Fr.refl _⟩
        case round =>
          clear y0 y1
          obtain ⟨p, hp, rfl, hf3⟩ := hrel
          have y0 : ∀ w', Fr wr w' → w'.cell? ⟨N, 0, none⟩ = some (.slice ga gn gc) := fun w' hw' => cell_at (((hf3.trans hw').heap hNl).trans ba) 0
          have y1 : ∀ w', Fr wr w' → w'.cell? ⟨N, 1, none⟩ = some (.slice sa sn sc) := fun w' hw' => cell_at (((hf3.trans hw').heap hNl).trans ba) 1
          have t0 := y0 wr (Fr.refl _)
          by_cases hpl : p < gn
          · obtain ⟨x, hx⟩ : ∃ x, gs[p]? = some x := ⟨_, List.getElem?_eq_getElem (by have := HH.out.1; omega)⟩
            obtain ⟨b2, o2, rfl, hb2, hc2, hcs⟩ := hg2.get (by omega)
            have z1 : ∀ w', Fr wr w' → w'.cell? ⟨b2, o2 + p * 3 + 1, none⟩ = some (.string x.key) := fun w' hw' => by
              rw [Nat.add_assoc, World.cell?_of_block ((hf3.trans hw').heap hb2), hcs (p * 3 + 1) _ (by rw [gdL_at gs p 1 (by decide), hx]; rfl)]
            have z2 : ∀ w', Fr wr w' → w'.cell? ⟨b2, o2 + p * 3 + 2, none⟩ = some (.string x.val) := fun w' hw' => by
              rw [Nat.add_assoc, World.cell?_of_block ((hf3.trans hw').heap hb2), hcs (p * 3 + 2) _ (by rw [gdL_at gs p 2 (by decide), hx]; rfl)]
            obtain ⟨_, x1, x2⟩ := x
            dsimp only at z1 z2
            clear hcs hx hg2 hs2
            go_wp2_with fail
            refine wp_region_class (Fr wr) (by kernel_rfl) (by kernel_rfl) (Fr.draw _) ?_
            repeat (first
              | (refine wpQuiet_val rfl ?_
                 apply Exists.intro
                 refine ⟨?_, ?_⟩
                 focus (intro w' hw'; go_simp; (try go_bits); with_reducible rfl)
                 simp only [Act.put, List.setIfInBounds_toArray, List.set_cons_zero, List.set_cons_succ])
              | (refine wpQuiet_pass rfl ?_
                 simp only [Act.put, List.setIfInBounds_toArray, List.set_cons_zero, List.set_cons_succ]))
            refine wpQuiet_nil ?_
            intro w5 f5
            go_wp2_with fail
            all_goals
              first
                | (go_ret
                   exact ⟨false, rfl, fun hb => ((by cases hb)), f2.trans (hf3.trans f5)⟩)
                | (go_roundw
                   case rel => exact ⟨p + 1, by omega, by go_num, hf3.trans f5⟩
                   case measure => simp [intOf]; omega)
          · obtain rfl : gn = p := by omega
            clear y0 y1
            go_wp2_with fail
            generalize wr = W3 at *
            go_loopw [6] (fun i wk => ∃ (p : Nat), p ≤ sn ∧ i = .int .i64 p ∧ Fr W2 wk) (fun i _ => sn - (intOf i).toNat)
            case atStart => exact ⟨0, Nat.zero_le _, rfl, hf3⟩
            case round =>
              clear t0 hf3
              obtain ⟨p, hp, rfl, hf3⟩ := hrel
              have y0 : ∀ w', Fr wr w' → w'.cell? ⟨N, 0, none⟩ = some (.slice ga gn gc) := fun w' hw' => cell_at (((hf3.trans hw').heap hNl).trans ba) 0
              have y1 : ∀ w', Fr wr w' → w'.cell? ⟨N, 1, none⟩ = some (.slice sa sn sc) := fun w' hw' => cell_at (((hf3.trans hw').heap hNl).trans ba) 1
              have t0 := y1 wr (Fr.refl _)
              by_cases hpl : p < sn
              · obtain ⟨x, hx⟩ : ∃ x, ss[p]? = some x := ⟨_, List.getElem?_eq_getElem (by have := HH.out.2.1; omega)⟩
                obtain ⟨b2, o2, rfl, hb2, hc2, hcs⟩ := hs2.get (by omega)
                have z1 : ∀ w', Fr wr w' → w'.cell? ⟨b2, o2 + p * 5 + 1, none⟩ = some (.string x.key) := fun w' hw' => by
                  rw [Nat.add_assoc, World.cell?_of_block ((hf3.trans hw').heap hb2), hcs (p * 5 + 1) _ (by rw [spL_at ss p 1 (by decide), hx]; rfl)]
                have z2 : ∀ w', Fr wr w' → w'.cell? ⟨b2, o2 + p * 5 + 2, none⟩ = some (.string x.val) := fun w' hw' => by
                  rw [Nat.add_assoc, World.cell?_of_block ((hf3.trans hw').heap hb2), hcs (p * 5 + 2) _ (by rw [spL_at ss p 2 (by decide), hx]; rfl)]
                have z3 : ∀ w', Fr wr w' → w'.cell? ⟨b2, o2 + p * 5 + 3, none⟩ = some (.string x.old) := fun w' hw' => by
                  rw [Nat.add_assoc, World.cell?_of_block ((hf3.trans hw').heap hb2), hcs (p * 5 + 3) _ (by rw [spL_at ss p 3 (by decide), hx]; rfl)]
                obtain ⟨_, x1, x2, x3, _⟩ := x
                dsimp only at z1 z2 z3
                clear hcs hx hg2 hs2
                go_wp2_with fail
                refine wp_region_class (Fr wr) (by kernel_rfl) (by kernel_rfl) (Fr.draw _) ?_
                repeat (first
                  | (refine wpQuiet_val rfl ?_
                     apply Exists.intro
                     refine ⟨?_, ?_⟩
                     focus (intro w' hw'; go_simp; (try go_bits); with_reducible rfl)
                     simp only [Act.put, List.setIfInBounds_toArray, List.set_cons_zero, List.set_cons_succ])
                  | (refine wpQuiet_pass rfl ?_
                     simp only [Act.put, List.setIfInBounds_toArray, List.set_cons_zero, List.set_cons_succ]))
                refine wpQuiet_nil ?_
                intro w5 f5
                go_wp2_with fail
                all_goals
                  first
                    | (go_ret
                       exact ⟨false, rfl, fun hb => ((by cases hb)), f2.trans (hf3.trans f5)⟩)
                    | (go_roundw
                       case rel => exact ⟨p + 1, by omega, by go_num, hf3.trans f5⟩
                       case measure => simp [intOf]; omega)
              · obtain rfl : sn = p := by omega
                clear y0 y1 hg2 hs2 hpl hp q1 q2
                go_wp2_with fail
                go_roundw
                case rel => exact ⟨k + 1, by omega, by omega, by go_num, HQ.out.1 HQ.out.2.1 HQ.out.2.2, f2.trans hf3⟩
                case measure => simp [intOf]; omega
      · have HL := Go.Lib.hid hl
        clear h hl
        go_wp2_with fail
        go_ret
        exact ⟨_, rfl, fun hb => by have := of_decide_eq_true hb; omega, hf⟩
    · obtain rfl : n = k := by omega
      have ht : es.take n = es := List.take_of_length_le (by omega)
      rw [ht] at hbr
      have HH := Go.Lib.hid (And.intro hbr hl)
      clear h ht hbr hl
      go_wp2_with fail
      go_ret
      exact ⟨_, rfl, fun hb => by have := of_decide_eq_true hb; exact ⟨by rw [HH.out.2]; omega, HH.out.1⟩, hf⟩
end Go.Proofs.Ytncbgcfjjlhgpaa
