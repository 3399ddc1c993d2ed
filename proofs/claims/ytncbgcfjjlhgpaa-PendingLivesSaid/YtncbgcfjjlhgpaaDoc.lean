/-
  The walks of the document's answer: Room, Without, Same of operations, Same of entries. Conditions: what is read lies where it says; Same is walked where both say the same.
-/
import Derived.Test.YtncbgcfjjlhgpaaOrder
namespace Go.Proofs.Ytncbgcfjjlhgpaa
open Go.RowKit

theorem rroom_walk (m : Int) (n : Nat) (hn : n ≤ 1000) (w : World) : Calls Try.prog 17 #[.int .i64 m, .int .i64 n] w fun e w' => e = .returned (.int .i64 (most' m - n)) ∧ w = w' := by
  have h0 : 0 ≤ most' m ∧ most' m ≤ 32 := by unfold most'; omega
  have hu : IntKind.i64.wrap (most' m - n) = most' m - n := IntWalk.i64_in _ (by omega)
  rcases (show (m < 0 ∧ most' m = 0) ∨ (0 ≤ m ∧ m ≤ 32 ∧ most' m = m) ∨ (32 < m ∧ most' m = 32) by unfold most'; omega) with ⟨h1, h2⟩ | ⟨h1, h3, h2⟩ | ⟨h1, h2⟩
  all_goals
    rw [h2] at hu ⊢
    have HH := Go.Lib.hid h2
    clear h2 h0
    go_enter Try.func17, Try.ntmps17
    go_wp2_with fail
    all_goals
      go_ret
      first
        | exact ⟨rfl, rfl⟩
        | (refine ⟨ret_int ?_, rfl⟩; omega)
def RwoPost (ms : List Et) (ids : List (Int × Int)) (W : World) (e : Ending) (w' : World) : Prop := ∃ a n c, e = .returned (.slice a n c) ∧ n = (stay ids ms).length ∧ w'.ownsRow W.heap.size 40 4 (.slice a n c) n (etL (stay ids ms)) ∧ Fr W w'
theorem own_empty4 (w : World) : (w.alloc (.cells #[] 40)).ownsRow w.heap.size 40 4 (.slice (some ⟨w.heap.size, 0, none⟩) 0 0) 0 (etL []) := own_empty w 40 4
set_option maxHeartbeats 2000000 in
theorem rwo_walk {a : Option Addr} {n c : Nat} {ia : Option Addr} {m ic : Nat} {w : World} (ms : List Et) (h : Sl w (.slice a n c) n 4 (etL ms)) (hl : ms.length = n) (hn : n ≤ 1000) (hfm : Formed ms) (ids : List (Int × Int)) (hi : Sl w (.slice ia m ic) m 2 (idL ids)) (hil : ids.length = m) (hm : m ≤ 1000000) :
    Calls Try.prog 11 #[.slice a n c, .slice ia m ic] w (RwoPost ms ids w) := by
  obtain ⟨i0, z0, hi0, hz0, hz1, hz2, hz3⟩ := parts info40
  have hnil := own_empty4 w
  have f1 := (Fr.refl w).alloc (.cells #[] 40)
  go_enter Try.func11, Try.ntmps11
  go_wp2_with fail
  go_loopw [5, 6] (fun v i wk => ∃ (k : Nat), k ≤ n ∧ i = .int .i64 k ∧ wk.ownsRow w.heap.size 40 4 v (stay ids (ms.take k)).length (etL (stay ids (ms.take k))) ∧ Fr w wk) (fun _ i _ => n - (intOf i).toNat)
  case atStart => exact ⟨0, Nat.zero_le _, rfl, hnil, f1⟩
  case round =>
    clear hnil f1
    obtain ⟨k, hk, rfl, hrow, hf⟩ := hrel
    have hsz := hf.size
    by_cases hlt : k < n
    · obtain ⟨e, he⟩ : ∃ e, ms[k]? = some e := ⟨_, List.getElem?_eq_getElem (by omega)⟩
      obtain ⟨b, oo, rfl, hb, hnc, hcs⟩ := h.get (by omega)
      have cc : ∀ w', Fr w w' → ∀ j, j < 4 → w'.cell? ⟨b, oo + (k * 4 + j), none⟩ = (etV e)[j]? := fun w' hw' j hj => by
        have h1 : (etL ms)[k * 4 + j]? = (etV e)[j]? := by rw [etL_at ms k j hj, he]; rfl
        have h2 : j < (etV e).length := hj
        rw [List.getElem?_eq_getElem h2] at h1 ⊢
        rw [World.cell?_of_block (hw'.heap hb)]
        exact hcs _ _ h1
      have hfe := hfm e (List.mem_of_getElem? he)
      have hsy := fun h => stay_yes (ids := ids) he h
      have hsn := fun h => stay_no (ids := ids) he h
      have hrh := rhas_walk ids (hi.fr hf) hil hm e.c.o e.c.s
      have hpk := mid_le ids ms k
      obtain ⟨⟨eo, es', gs, ss⟩, g, st⟩ := e
      obtain ⟨⟨a1, n1, c1, rfl⟩, ⟨a2, n2, c2, rfl⟩⟩ : (∃ a n c, g = .slice a n c) ∧ ∃ a n c, st = .slice a n c := hfe
      have c4 : ∀ w', Fr w w' → w'.cell? ⟨b, oo + k * 4, none⟩ = some (.int .i64 eo) ∧ w'.cell? ⟨b, oo + k * 4 + 1, none⟩ = some (.int .i64 es') ∧ w'.cell? ⟨b, oo + k * 4 + 2, none⟩ = some (.slice a1 n1 c1) ∧ w'.cell? ⟨b, oo + k * 4 + 3, none⟩ = some (.slice a2 n2 c2) := fun w' hw' =>
        ⟨cc w' hw' 0 (by decide), cc w' hw' 1 (by decide), cc w' hw' 2 (by decide), cc w' hw' 3 (by decide)⟩
      obtain ⟨x0, x1, x2, x3⟩ := c4 wr hf
      dsimp only at hsy hsn hrh
      obtain ⟨p, hp⟩ : ∃ p, (stay ids (ms.take k)).length = p := ⟨_, rfl⟩
      rw [hp] at hrow hpk
      have HH := Go.Lib.hid (And.intro hl (And.intro h (And.intro hi (And.intro hil (And.intro hsy (And.intro hsn hp))))))
      clear hsy hsn hcs he h hl hi hil cc hfm hp
      cases hme : mem ids eo es' with
      | true =>
        rw [hme] at hrh
        have HM := Go.Lib.hid hme
        clear hme c4
        go_wp2_with fail
        refine hrh.mono ?_
        rintro e w4 ⟨rfl, f4⟩
        go_wp2_with fail
        go_roundw
        case rel => exact ⟨k + 1, by omega, by go_num, by rw [HH.out.2.2.2.2.2.1 HM.out, HH.out.2.2.2.2.2.2]; exact owns_fr hrow f4, hf.trans f4⟩
        case measure => simp [intOf]; omega
      | false =>
        rw [hme] at hrh
        have HM := Go.Lib.hid hme
        clear hme
        go_wp2_with fail
        refine hrh.mono ?_
        rintro e w4 ⟨rfl, f4⟩
        have hf4 := hf.trans f4
        obtain ⟨y0, y1, y2, y3⟩ := c4 w4 hf4
        have hrow4 := owns_fr hrow f4
        have hsz4 := hf4.size
        clear hrh x0 x1 x2 x3 c4
        go_wp2_with (at_builtin; go_must (refine wpList_append_lies _ rfl _ _ 22 rfl w.heap.size 40 i0 z0 4 64 Try.underlying22 hi0 hz0 hz2 hz3 hz1 (by decide) u5 p (etL (stay ids (ms.take k))) rfl (hrow4.alloc _) ⟨w4.heap.size, 0, none⟩ 1 1 [.int .i64 eo, .int .i64 es', .slice a1 n1 c1, .slice a2 n2 c2] rfl rfl (cells_four _ _ _ _ _ _) (by simp [Value.oneCell']) (by omega) (by unfold maxLen; omega) (by omega) (by simp; omega) _ rfl ?_); intro g' cap' w6 hown hgrow hat hlt6)
        refine ⟨⟨k + 1, by omega, by go_num, ?_, ?_⟩, by simp [intOf]; omega⟩
        · rw [HH.out.2.2.2.2.1 HM.out, List.length_append, HH.out.2.2.2.2.2.2, etL_push]; exact hown
        · exact ((But.of_fr (F := fun _ => False) (hf4.alloc _)).mix (But.of_grown hgrow) (H := fun k => u5.ownBlock = some k) (fun _ _ h => h.elim) (fun _ _ h => h)).fr (fun k hk hc => by have := (hrow4.lt k hc).1; omega)
    · obtain rfl : n = k := by omega
      have ht : ms.take n = ms := List.take_of_length_le (by omega)
      rw [ht] at hrow
      obtain ⟨p, hp⟩ : ∃ p, (stay ids ms).length = p := ⟨_, rfl⟩
      rw [hp] at hrow
      obtain ⟨a', c', rfl⟩ : ∃ a c, u5 = .slice a p c := by obtain ⟨a, c, h, _⟩ := owns_sl hrow; exact ⟨a, c, h⟩
      have HL := Go.Lib.hid (And.intro hp hl)
      clear h hi hl ht hp hfm hil
      go_wp2_with fail
      go_ret
      exact ⟨a', p, c', rfl, HL.out.1.symm, hrow, hf⟩
/-! ### Same -/
theorem gd_neq (k : Int) (a b : ByteArray) (w : World) : (binOp .neq 57 (.agg #[.int .i64 k, .string a, .string b]) (.agg #[.int .i64 k, .string a, .string b])).run Try.prog w = .ok (.bool false) w := by
  have h : (Op.equal 57 (.agg #[.int .i64 k, .string a, .string b]) (.agg #[.int .i64 k, .string a, .string b])).run Try.prog w = .ok true w := by
    simp only [Op.equal, Op.maxDepth]
    go_simp
  simp [binOp, h]
theorem sp_neq (k : Int) (a b c : ByteArray) (n : Int) (w : World) : (binOp .neq 59 (.agg #[.int .i64 k, .string a, .string b, .string c, .int .i64 n]) (.agg #[.int .i64 k, .string a, .string b, .string c, .int .i64 n])).run Try.prog w = .ok (.bool false) w := by
  have h : (Op.equal 59 (.agg #[.int .i64 k, .string a, .string b, .string c, .int .i64 n]) (.agg #[.int .i64 k, .string a, .string b, .string c, .int .i64 n])).run Try.prog w = .ok true w := by
    simp only [Op.equal, Op.maxDepth]
    go_simp
  simp [binOp, h]
set_option maxRecDepth 20000 in
set_option maxHeartbeats 4000000 in
theorem osame_walk {ga gb sa sb : Option Addr} {gn gc gd sn sc sd : Nat} {w : World} (gs : List Gd) (ss : List Sp) (h1 : Sl w (.slice ga gn gc) gn 3 (gdL gs)) (h2 : Sl w (.slice gb gn gd) gn 3 (gdL gs)) (h3 : Sl w (.slice sa sn sc) sn 5 (spL ss)) (h4 : Sl w (.slice sb sn sd) sn 5 (spL ss)) (hg : gs.length = gn) (hs : ss.length = sn) (hgb : gn ≤ 1000000) (hsb : sn ≤ 1000000) :
    Calls Try.prog 23 #[.agg #[.slice ga gn gc, .slice sa sn sc], .agg #[.slice gb gn gd, .slice sb sn sd]] w fun e w' => e = .returned (.bool true) ∧ Fr w w' := by
  have f1 := (Fr.refl w).alloc (.cells #[.slice ga gn gc, .slice sa sn sc] 38)
  have b1 := heap_alloc_new w (.cells #[.slice ga gn gc, .slice sa sn sc] 38)
  have hz1 : (w.alloc (.cells #[.slice ga gn gc, .slice sa sn sc] 38)).heap.size = w.heap.size + 1 := by simp
  have f2 := (Fr.refl (w.alloc (.cells #[.slice ga gn gc, .slice sa sn sc] 38))).alloc (.cells #[.slice gb gn gd, .slice sb sn sd] 38)
  have b2 := heap_alloc_new (w.alloc (.cells #[.slice ga gn gc, .slice sa sn sc] 38)) (.cells #[.slice gb gn gd, .slice sb sn sd] 38)
  have hz2 : ((w.alloc (.cells #[.slice ga gn gc, .slice sa sn sc] 38)).alloc (.cells #[.slice gb gn gd, .slice sb sn sd] 38)).heap.size = w.heap.size + 2 := by simp
  rw [hz1] at b2
  replace b1 := (f2.heap (by omega)).trans b1
  replace f2 := f1.trans f2
  have y0 : ((w.alloc (.cells #[.slice ga gn gc, .slice sa sn sc] 38)).alloc (.cells #[.slice gb gn gd, .slice sb sn sd] 38)).cell? ⟨w.heap.size, 0, none⟩ = some (.slice ga gn gc) := cell_at b1 0
  have y1 : ((w.alloc (.cells #[.slice ga gn gc, .slice sa sn sc] 38)).alloc (.cells #[.slice gb gn gd, .slice sb sn sd] 38)).cell? ⟨w.heap.size, 1, none⟩ = some (.slice sa sn sc) := cell_at b1 1
  have y2 : ((w.alloc (.cells #[.slice ga gn gc, .slice sa sn sc] 38)).alloc (.cells #[.slice gb gn gd, .slice sb sn sd] 38)).cell? ⟨w.heap.size + 1, 0, none⟩ = some (.slice gb gn gd) := cell_at b2 0
  have y3 : ((w.alloc (.cells #[.slice ga gn gc, .slice sa sn sc] 38)).alloc (.cells #[.slice gb gn gd, .slice sb sn sd] 38)).cell? ⟨w.heap.size + 1, 1, none⟩ = some (.slice sb sn sd) := cell_at b2 1
  have HH := Go.Lib.hid (And.intro hg hs)
  clear hg hs f1 hz1
  go_enter Try.func23, Try.ntmps23
  go_wp2_with fail
  generalize (w.alloc (.cells #[.slice ga gn gc, .slice sa sn sc] 38)).alloc (.cells #[.slice gb gn gd, .slice sb sn sd] 38) = W at *
  replace h1 := h1.fr f2
  replace h2 := h2.fr f2
  replace h3 := h3.fr f2
  replace h4 := h4.fr f2
  obtain ⟨N, hN⟩ : ∃ N, w.heap.size = N := ⟨_, rfl⟩
  rw [hN] at b1 b2 y0 y1 y2 y3 hz2 ⊢
  clear hN y0 y1 y2 y3
  go_loopw [5] (fun i wk => ∃ (p : Nat), p ≤ gn ∧ i = .int .i64 p ∧ Fr W wk) (fun i _ => gn - (intOf i).toNat)
  case atStart => exact ⟨0, Nat.zero_le _, rfl, Fr.refl _⟩
  case round =>
    obtain ⟨p, hp, rfl, hf⟩ := hrel
    have y0 : ∀ w', Fr wr w' → w'.cell? ⟨N, 0, none⟩ = some (.slice ga gn gc) := fun w' hw' => cell_at (((hf.trans hw').heap (by omega)).trans b1) 0
    have y2 : ∀ w', Fr wr w' → w'.cell? ⟨N + 1, 0, none⟩ = some (.slice gb gn gd) := fun w' hw' => cell_at (((hf.trans hw').heap (by omega)).trans b2) 0
    have t0 := y0 wr (Fr.refl _)
    by_cases hpl : p < gn
    · obtain ⟨x, hx⟩ : ∃ x, gs[p]? = some x := ⟨_, List.getElem?_eq_getElem (by rw [HH.out.1]; exact hpl)⟩
      obtain ⟨ba, oa, rfl, hba, hca, hcsa⟩ := h1.get (by omega)
      obtain ⟨bb, ob, rfl, hbb, hcb, hcsb⟩ := h2.get (by omega)
      have x0 : ∀ w', Fr wr w' → w'.cell? ⟨ba, oa + p * 3, none⟩ = some (.int .i64 x.k) := fun w' hw' => by
        rw [World.cell?_of_block ((hf.trans hw').heap hba), hcsa (p * 3) _ (by rw [show p * 3 = p * 3 + 0 from rfl, gdL_at gs p 0 (by decide), hx]; rfl)]
      have x1 : ∀ w', Fr wr w' → w'.cell? ⟨ba, oa + p * 3 + 1, none⟩ = some (.string x.key) := fun w' hw' => by
        rw [Nat.add_assoc, World.cell?_of_block ((hf.trans hw').heap hba), hcsa (p * 3 + 1) _ (by rw [gdL_at gs p 1 (by decide), hx]; rfl)]
      have x2 : ∀ w', Fr wr w' → w'.cell? ⟨ba, oa + p * 3 + 2, none⟩ = some (.string x.val) := fun w' hw' => by
        rw [Nat.add_assoc, World.cell?_of_block ((hf.trans hw').heap hba), hcsa (p * 3 + 2) _ (by rw [gdL_at gs p 2 (by decide), hx]; rfl)]
      have z0 : ∀ w', Fr wr w' → w'.cell? ⟨bb, ob + p * 3, none⟩ = some (.int .i64 x.k) := fun w' hw' => by
        rw [World.cell?_of_block ((hf.trans hw').heap hbb), hcsb (p * 3) _ (by rw [show p * 3 = p * 3 + 0 from rfl, gdL_at gs p 0 (by decide), hx]; rfl)]
      have z1 : ∀ w', Fr wr w' → w'.cell? ⟨bb, ob + p * 3 + 1, none⟩ = some (.string x.key) := fun w' hw' => by
        rw [Nat.add_assoc, World.cell?_of_block ((hf.trans hw').heap hbb), hcsb (p * 3 + 1) _ (by rw [gdL_at gs p 1 (by decide), hx]; rfl)]
      have z2 : ∀ w', Fr wr w' → w'.cell? ⟨bb, ob + p * 3 + 2, none⟩ = some (.string x.val) := fun w' hw' => by
        rw [Nat.add_assoc, World.cell?_of_block ((hf.trans hw').heap hbb), hcsb (p * 3 + 2) _ (by rw [gdL_at gs p 2 (by decide), hx]; rfl)]
      obtain ⟨xk, xa, xb⟩ := x
      dsimp only at x0 x1 x2 z0 z1 z2
      have hne := gd_neq xk xa xb
      clear hcsa hcsb hx h1 h2 h3 h4
      go_wp2_with fail
      refine wp_region_class (Fr wr) (by kernel_rfl) (by kernel_rfl) (Fr.draw _) ?_
      repeat (first
        | (refine wpQuiet_val rfl ?_
           apply Exists.intro
           refine ⟨?_, ?_⟩
           focus (intro w' hw'; go_simp; (try go_bits); with_reducible rfl)
           simp only [Act.put, List.setIfInBounds_toArray, List.set_cons_zero, List.set_cons_succ])
        | (refine wpQuiet_pass rfl ?_
           simp only [Act.put, List.setIfInBounds_toArray, List.set_cons_zero, List.set_cons_succ]))
      refine wpQuiet_nil ?_
      intro w5 f5
      go_wp2_with fail
      go_roundw
      case rel => exact ⟨p + 1, by omega, by go_num, hf.trans f5⟩
      case measure => simp [intOf]; omega
    · obtain rfl : gn = p := by omega
      clear y0 y2 h1 h2
      go_wp2_with fail
      generalize wr = W3 at *
      go_loopw [6] (fun i wk => ∃ (p : Nat), p ≤ sn ∧ i = .int .i64 p ∧ Fr W wk) (fun i _ => sn - (intOf i).toNat)
      case atStart => exact ⟨0, Nat.zero_le _, rfl, hf⟩
      case round =>
        clear hf t0
        obtain ⟨p, hp, rfl, hf⟩ := hrel
        have y0 : ∀ w', Fr wr w' → w'.cell? ⟨N, 1, none⟩ = some (.slice sa sn sc) := fun w' hw' => cell_at (((hf.trans hw').heap (by omega)).trans b1) 1
        have y2 : ∀ w', Fr wr w' → w'.cell? ⟨N + 1, 1, none⟩ = some (.slice sb sn sd) := fun w' hw' => cell_at (((hf.trans hw').heap (by omega)).trans b2) 1
        have t0 := y0 wr (Fr.refl _)
        by_cases hpl : p < sn
        · obtain ⟨x, hx⟩ : ∃ x, ss[p]? = some x := ⟨_, List.getElem?_eq_getElem (by rw [HH.out.2]; exact hpl)⟩
          obtain ⟨ba, oa, rfl, hba, hca, hcsa⟩ := h3.get (by omega)
          obtain ⟨bb, ob, rfl, hbb, hcb, hcsb⟩ := h4.get (by omega)
          have ca : ∀ w', Fr wr w' → ∀ j, j < 5 → w'.cell? ⟨ba, oa + (p * 5 + j), none⟩ = (spV x)[j]? := fun w' hw' j hj => by
            have e1 : (spL ss)[p * 5 + j]? = (spV x)[j]? := by rw [spL_at ss p j hj, hx]; rfl
            have e2 : j < (spV x).length := hj
            rw [List.getElem?_eq_getElem e2] at e1 ⊢
            rw [World.cell?_of_block ((hf.trans hw').heap hba)]
            exact hcsa _ _ e1
          have cb : ∀ w', Fr wr w' → ∀ j, j < 5 → w'.cell? ⟨bb, ob + (p * 5 + j), none⟩ = (spV x)[j]? := fun w' hw' j hj => by
            have e1 : (spL ss)[p * 5 + j]? = (spV x)[j]? := by rw [spL_at ss p j hj, hx]; rfl
            have e2 : j < (spV x).length := hj
            rw [List.getElem?_eq_getElem e2] at e1 ⊢
            rw [World.cell?_of_block ((hf.trans hw').heap hbb)]
            exact hcsb _ _ e1
          obtain ⟨xk, xa, xb, xc, xn⟩ := x
          have x0 : ∀ w', Fr wr w' → w'.cell? ⟨ba, oa + p * 5, none⟩ = some (.int .i64 xk) := fun w' hw' => ca w' hw' 0 (by decide)
          have x1 : ∀ w', Fr wr w' → w'.cell? ⟨ba, oa + p * 5 + 1, none⟩ = some (.string xa) := fun w' hw' => ca w' hw' 1 (by decide)
          have x2 : ∀ w', Fr wr w' → w'.cell? ⟨ba, oa + p * 5 + 2, none⟩ = some (.string xb) := fun w' hw' => ca w' hw' 2 (by decide)
          have x3 : ∀ w', Fr wr w' → w'.cell? ⟨ba, oa + p * 5 + 3, none⟩ = some (.string xc) := fun w' hw' => ca w' hw' 3 (by decide)
          have x4 : ∀ w', Fr wr w' → w'.cell? ⟨ba, oa + p * 5 + 4, none⟩ = some (.int .i64 xn) := fun w' hw' => ca w' hw' 4 (by decide)
          have z0 : ∀ w', Fr wr w' → w'.cell? ⟨bb, ob + p * 5, none⟩ = some (.int .i64 xk) := fun w' hw' => cb w' hw' 0 (by decide)
          have z1 : ∀ w', Fr wr w' → w'.cell? ⟨bb, ob + p * 5 + 1, none⟩ = some (.string xa) := fun w' hw' => cb w' hw' 1 (by decide)
          have z2 : ∀ w', Fr wr w' → w'.cell? ⟨bb, ob + p * 5 + 2, none⟩ = some (.string xb) := fun w' hw' => cb w' hw' 2 (by decide)
          have z3 : ∀ w', Fr wr w' → w'.cell? ⟨bb, ob + p * 5 + 3, none⟩ = some (.string xc) := fun w' hw' => cb w' hw' 3 (by decide)
          have z4 : ∀ w', Fr wr w' → w'.cell? ⟨bb, ob + p * 5 + 4, none⟩ = some (.int .i64 xn) := fun w' hw' => cb w' hw' 4 (by decide)
          have hne := sp_neq xk xa xb xc xn
          clear hcsa hcsb hx h3 h4 ca cb
          go_wp2_with fail
          refine wp_region_class (Fr wr) (by kernel_rfl) (by kernel_rfl) (Fr.draw _) ?_
          repeat (first
            | (refine wpQuiet_val rfl ?_
               apply Exists.intro
               refine ⟨?_, ?_⟩
               focus (intro w' hw'; go_simp; (try go_bits); with_reducible rfl)
               simp only [Act.put, List.setIfInBounds_toArray, List.set_cons_zero, List.set_cons_succ])
            | (refine wpQuiet_pass rfl ?_
               simp only [Act.put, List.setIfInBounds_toArray, List.set_cons_zero, List.set_cons_succ]))
          refine wpQuiet_nil ?_
          intro w5 f5
          go_wp2_with fail
          go_roundw
          case rel => exact ⟨p + 1, by omega, by go_num, hf.trans f5⟩
          case measure => simp [intOf]; omega
        · obtain rfl : sn = p := by omega
          clear y0 y2 h3 h4
          go_wp2_with fail
          go_ret
          exact ⟨rfl, f2.trans hf⟩
set_option maxRecDepth 20000 in
set_option maxHeartbeats 4000000 in
theorem same_walk {a b : Option Addr} {n c d : Nat} {w : World} (xs ys : List Et) (h1 : Rd w (.slice a n c) xs) (h2 : Rd w (.slice b n d) ys) (hx : xs.length = n) (he : xs.map Et.c = ys.map Et.c) (hn : n ≤ 1000000) (hft : Fits (xs.map Et.c)) :
    Calls Try.prog 12 #[.slice a n c, .slice b n d] w fun e w' => e = .returned (.bool true) ∧ Fr w w' := by
  have hy : ys.length = n := by rw [← hx, ← List.length_map (f := Et.c), ← he, List.length_map]
  have HH := Go.Lib.hid (And.intro h1 (And.intro h2 (And.intro hx (And.intro hy (And.intro he hft)))))
  clear h1 h2 hx hy he hft
  go_enter Try.func12, Try.ntmps12
  go_wp2_with fail
  go_loopw [5] (fun i wk => ∃ (k : Nat), k ≤ n ∧ i = .int .i64 k ∧ Fr w wk) (fun i _ => n - (intOf i).toNat)
  case atStart => exact ⟨0, Nat.zero_le _, rfl, Fr.refl _⟩
  case round =>
    obtain ⟨k, hk, rfl, hf⟩ := hrel
    by_cases hlt : k < n
    · obtain ⟨h1, h2, hx, hy, he, hft⟩ := HH.out
      obtain ⟨x, hxk⟩ : ∃ x, xs[k]? = some x := ⟨_, List.getElem?_eq_getElem (by omega)⟩
      obtain ⟨y, hyk⟩ : ∃ y, ys[k]? = some y := ⟨_, List.getElem?_eq_getElem (by omega)⟩
      have hc : x.c = y.c := by
        have e1 : (xs.map Et.c)[k]? = (ys.map Et.c)[k]? := by rw [he]
        rw [List.getElem?_map, List.getElem?_map, hxk, hyk] at e1
        exact Option.some.inj e1
      have s1 := h1.sl
      have s2 := h2.sl
      rw [hx] at s1
      rw [hy] at s2
      obtain ⟨ba, oa, rfl, hba, hca, hcsa⟩ := s1.get (by omega)
      obtain ⟨bb, ob, rfl, hbb, hcb, hcsb⟩ := s2.get (by omega)
      have ca : ∀ w', Fr wr w' → ∀ j, j < 4 → w'.cell? ⟨ba, oa + (k * 4 + j), none⟩ = (etV x)[j]? := fun w' hw' j hj => by
        have e1 : (etL xs)[k * 4 + j]? = (etV x)[j]? := by rw [etL_at xs k j hj, hxk]; rfl
        have e2 : j < (etV x).length := hj
        rw [List.getElem?_eq_getElem e2] at e1 ⊢
        rw [World.cell?_of_block ((hf.trans hw').heap hba)]
        exact hcsa _ _ e1
      have cb : ∀ w', Fr wr w' → ∀ j, j < 4 → w'.cell? ⟨bb, ob + (k * 4 + j), none⟩ = (etV y)[j]? := fun w' hw' j hj => by
        have e1 : (etL ys)[k * 4 + j]? = (etV y)[j]? := by rw [etL_at ys k j hj, hyk]; rfl
        have e2 : j < (etV y).length := hj
        rw [List.getElem?_eq_getElem e2] at e1 ⊢
        rw [World.cell?_of_block ((hf.trans hw').heap hbb)]
        exact hcsb _ _ e1
      have ox := (h1.ok x (List.mem_of_getElem? hxk)).fr hf
      have oy := (h2.ok y (List.mem_of_getElem? hyk)).fr hf
      have hfx := hft x.c (List.mem_map_of_mem (List.mem_of_getElem? hxk))
      obtain ⟨⟨xo, xs', xg, xt⟩, g, st⟩ := x
      obtain ⟨yc, g', st'⟩ := y
      obtain rfl : _ = yc := hc
      obtain ⟨a1, c1, rfl⟩ : ∃ a c, g = .slice a xg.length c := by obtain ⟨a, c, h, _⟩ := ox.g.form; exact ⟨a, c, h⟩
      obtain ⟨a2, c2, rfl⟩ : ∃ a c, st = .slice a xt.length c := by obtain ⟨a, c, h, _⟩ := ox.st.form; exact ⟨a, c, h⟩
      obtain ⟨a3, c3, rfl⟩ : ∃ a c, g' = .slice a xg.length c := by obtain ⟨a, c, h, _⟩ := oy.g.form; exact ⟨a, c, h⟩
      obtain ⟨a4, c4, rfl⟩ : ∃ a c, st' = .slice a xt.length c := by obtain ⟨a, c, h, _⟩ := oy.st.form; exact ⟨a, c, h⟩
      obtain ⟨gn, hgn⟩ : ∃ gn, xg.length = gn := ⟨_, rfl⟩
      obtain ⟨sn, hsn⟩ : ∃ sn, xt.length = sn := ⟨_, rfl⟩
      have og1 := ox.g
      have og2 := oy.g
      have os1 := ox.st
      have os2 := oy.st
      dsimp only at og1 og2 os1 os2 hfx
      rw [hgn] at og1 og2 hfx ca cb
      rw [hsn] at os1 os2 hfx ca cb
      have hsame : ∀ w', Fr wr w' → Calls Try.prog 23 #[.agg #[.slice a1 gn c1, .slice a2 sn c2], .agg #[.slice a3 gn c3, .slice a4 sn c4]] w' fun e w'' => e = .returned (.bool true) ∧ Fr w' w'' := fun w' hw' => osame_walk xg xt (og1.fr hw') (og2.fr hw') (os1.fr hw') (os2.fr hw') hgn hsn hfx.1 hfx.2
      have x0 : ∀ w', Fr wr w' → w'.cell? ⟨ba, oa + k * 4, none⟩ = some (.int .i64 xo) := fun w' hw' => ca w' hw' 0 (by decide)
      have x1 : ∀ w', Fr wr w' → w'.cell? ⟨ba, oa + k * 4 + 1, none⟩ = some (.int .i64 xs') := fun w' hw' => ca w' hw' 1 (by decide)
      have x2 : ∀ w', Fr wr w' → w'.cell? ⟨ba, oa + k * 4 + 2, none⟩ = some (.slice a1 gn c1) := fun w' hw' => ca w' hw' 2 (by decide)
      have x3 : ∀ w', Fr wr w' → w'.cell? ⟨ba, oa + k * 4 + 3, none⟩ = some (.slice a2 sn c2) := fun w' hw' => ca w' hw' 3 (by decide)
      have z0 : ∀ w', Fr wr w' → w'.cell? ⟨bb, ob + k * 4, none⟩ = some (.int .i64 xo) := fun w' hw' => cb w' hw' 0 (by decide)
      have z1 : ∀ w', Fr wr w' → w'.cell? ⟨bb, ob + k * 4 + 1, none⟩ = some (.int .i64 xs') := fun w' hw' => cb w' hw' 1 (by decide)
      have z2 : ∀ w', Fr wr w' → w'.cell? ⟨bb, ob + k * 4 + 2, none⟩ = some (.slice a3 gn c3) := fun w' hw' => cb w' hw' 2 (by decide)
      have z3 : ∀ w', Fr wr w' → w'.cell? ⟨bb, ob + k * 4 + 3, none⟩ = some (.slice a4 sn c4) := fun w' hw' => cb w' hw' 3 (by decide)
      have hne : ∀ w', (binOp .neq 34 (.agg #[.int .i64 xo, .int .i64 xs']) (.agg #[.int .i64 xo, .int .i64 xs'])).run Try.prog w' = .ok (.bool false) w' := fun w' => by
        have := neq_id xo xs' xo xs' w'
        simpa using this
      clear h1 h2 hx hy he hft hxk hyk s1 s2 hcsa hcsb ca cb ox oy og1 og2 os1 os2 hgn hsn
      go_wp2_with fail
      refine wp_region_class (Fr wr) (by kernel_rfl) (by kernel_rfl) (Fr.draw _) ?_
      repeat (first
        | (refine wpQuiet_val rfl ?_
           apply Exists.intro
           refine ⟨?_, ?_⟩
           focus (intro w' hw'; go_simp; (try go_bits); with_reducible rfl)
           simp only [Act.put, List.setIfInBounds_toArray, List.set_cons_zero, List.set_cons_succ])
        | (refine wpQuiet_pass rfl ?_
           simp only [Act.put, List.setIfInBounds_toArray, List.set_cons_zero, List.set_cons_succ])
        | (refine wpQuiet_enter rfl ?_
           apply Exists.intro
           apply Exists.intro
           apply Exists.intro
           refine ⟨?_, ?_, ?_⟩
           focus (intro w' hw'; go_simp; exact ⟨rfl, rfl⟩)
           focus (intro w' hw'; with_reducible first | exact qFr (by assumption) (hsame _ (by assumption)))
           simp only [Act.put, List.setIfInBounds_toArray, List.set_cons_zero, List.set_cons_succ]))
      refine wpQuiet_nil ?_
      intro w5 f5
      go_wp2_with fail
      go_roundw
      case rel => exact ⟨k + 1, by omega, by go_num, hf.trans f5⟩
      case measure => simp [intOf]; omega
    · obtain rfl : n = k := by omega
      go_wp2_with fail
      go_ret
      exact ⟨rfl, hf⟩
end Go.Proofs.Ytncbgcfjjlhgpaa
