/-
  The walk of StepKeys. Conditions: what comes in lies where it says.
-/
import Derived.Test.YtgdmkiobidnhnaaStep
import Derived.Test.YtgdmkiobidnhnaaQ
import Derived.Test.YtgdmkiobidnhnaaRanges
import Derived.Test.YtgdmkiobidnhnaaFence2
import Derived.Deep.RegionHeld3
namespace Go.Proofs.Ytgdmkiobidnhnaa
open Go.RowKit Go.Shelf
set_option linter.unusedSimpArgs false

theorem mem_put {α : Type} : ∀ (l : List (ByteArray × α)) (k x : ByteArray) (v : α), x ∈ (put l k v).map Prod.fst ↔ x = k ∨ x ∈ l.map Prod.fst
  | [], k, x, v => by simp [put]
  | a :: r, k, x, v => by
    unfold put
    split
    · rw [List.map_cons, List.mem_cons, mem_put r k x v, List.map_cons, List.mem_cons]
      constructor
      · rintro (h | h | h)
        · exact .inr (.inl h)
        · exact .inl h
        · exact .inr (.inr h)
      · rintro (h | h | h)
        · exact .inr (.inl h)
        · exact .inl h
        · exact .inr (.inr h)
    · split
      · rename_i he
        rw [List.map_cons, List.mem_cons, List.map_cons, List.mem_cons, he]
        constructor
        · rintro (h | h)
          · exact .inl h
          · exact .inr (.inr h)
        · rintro (h | h | h)
          · exact .inl h
          · exact .inl h
          · exact .inr h
      · rw [List.map_cons, List.mem_cons]
theorem mem_noted : ∀ (ks : List ByteArray) (m : I.Ps) (x : ByteArray), x ∈ (noted m ks).map Prod.fst ↔ x ∈ ks ∨ x ∈ m.map Prod.fst
  | [], m, x => by simp [noted]
  | k :: r, m, x => by
    have h1 := mem_noted r (put m k 0) x
    have h2 : noted m (k :: r) = noted (put m k 0) r := rfl
    rw [h2, h1, mem_put, List.mem_cons]
    constructor
    · rintro (h | h | h)
      · exact .inl (.inr h)
      · exact .inl (.inl h)
      · exact .inr h
    · rintro ((h | h) | h)
      · exact .inr (.inl h)
      · exact .inl h
      · exact .inr (.inr h)
theorem mem_keysOf (ks : List ByteArray) (x : ByteArray) : x ∈ keysOf ks ↔ x ∈ ks := by
  unfold keysOf; rw [mem_noted]; simp
theorem noted_up : ∀ (ks : List ByteArray) (m : I.Ps), Up m → Up (noted m ks)
  | [], _, h => h
  | k :: r, m, h => noted_up r (put m k 0) (h.put k 0)
theorem keysOf_len (ks : List ByteArray) : (keysOf ks).length ≤ ks.length := by
  have := noted_len ks []
  unfold keysOf
  rw [List.length_map]
  rw [List.length_nil] at this; omega
theorem keysOf_rise {ks : List ByteArray} {p : Nat} {x y : ByteArray} (hx : (keysOf ks)[p]? = some x) (hy : (keysOf ks)[p + 1]? = some y) : Op.bytesLess x.toList y.toList = true := by
  unfold keysOf at hx hy
  rw [List.getElem?_map] at hx hy
  have hu := noted_up ks [] Up.nil
  cases h1 : (noted [] ks)[p]? with
  | none => rw [h1] at hx; cases hx
  | some a =>
    cases h2 : (noted [] ks)[p + 1]? with
    | none => rw [h2] at hy; cases hy
    | some b =>
      rw [h1] at hx; rw [h2] at hy
      cases hx; cases hy
      have l1 := (List.getElem?_eq_some_iff.1 h1)
      have l2 := (List.getElem?_eq_some_iff.1 h2)
      obtain ⟨q1, e1⟩ := l1
      obtain ⟨q2, e2⟩ := l2
      have := List.pairwise_iff_getElem.1 hu p (p + 1) q1 q2 (by omega)
      rw [e1, e2] at this
      exact this
/-- What the law's loops keep. -/
structure SK (w0 w : World) (B : Nat) (ga : Option Addr) (gn gc : Nat) (sa : Option Addr) (sn sc : Nat) (gs : List Gd) (ss : List Sp) (a1 : Option Addr) (n1 c1 : Nat) (a2 : Option Addr) (n2 c2 : Nat) : Prop where
  lie : Lie w ga gn gc sa sn sc gs ss
  b : w.heap[B]? = some (.cells #[.slice ga gn gc, .slice sa sn sc] 52)
  k : Sl w (.slice a1 n1 c1) n1 1 (strV (keysOf (gs.map Gd.key ++ ss.map Sp.key)))
  u : Sl w (.slice a2 n2 c2) n2 1 (strV (keysOf (ss.map Sp.key)))
  f : Fr w0 w
section
variable {w0 w w' : World} {B gn gc sn sc n1 c1 n2 c2 : Nat} {ga sa a1 a2 : Option Addr} {gs : List Gd} {ss : List Sp}
theorem SK.fr (h : SK w0 w B ga gn gc sa sn sc gs ss a1 n1 c1 a2 n2 c2) (hf : Fr w w') : SK w0 w' B ga gn gc sa sn sc gs ss a1 n1 c1 a2 n2 c2 :=
  ⟨h.lie.fr hf, (hf.heap (Array.getElem?_eq_some_iff.1 h.b).1).trans h.b, h.k.fr hf, h.u.fr hf, h.f.trans hf⟩
theorem SK.box (h : SK w0 w B ga gn gc sa sn sc gs ss a1 n1 c1 a2 n2 c2) : w.cell? ⟨B, 0, none⟩ = some (.slice ga gn gc) ∧ w.cell? ⟨B, 1, none⟩ = some (.slice sa sn sc) := ⟨cell_at h.b 0, cell_at h.b 1⟩
end
set_option maxRecDepth 100000 in
set_option maxHeartbeats 8000000 in
theorem stepKeys.walk {ga sa : Option Addr} {gn gc sn sc : Nat} {w : World} (gs : List Gd) (ss : List Sp) (h : Lie w ga gn gc sa sn sc gs ss) :
    Calls Try.prog 6 #[.agg #[.slice ga gn gc, .slice sa sn sc]] w fun e w' => e = .returned (.bool true) ∧ Below w.heap.size w w' := by
  have f1 := (Fr.refl w).alloc (.cells #[.slice ga gn gc, .slice sa sn sc] 52)
  have b1 := heap_alloc_new w (.cells #[.slice ga gn gc, .slice sa sn sc] 52)
  obtain ⟨B, hB⟩ : ∃ B, w.heap.size = B := ⟨_, rfl⟩
  have hlt : B < (w.alloc (.cells #[.slice ga gn gc, .slice sa sn sc] 52)).heap.size := by simp [hB]
  have hl := h.fr f1
  rw [hB] at b1 ⊢
  by_cases hf : gn ≤ 30 ∧ sn ≤ 30
  · obtain ⟨hgn, hsn⟩ := hf
    have HL := Go.Lib.hid (And.intro hl f1)
    clear h hl f1
    go_enter Try.func6, Try.ntmps6
    go_wp2_with fail
    refine (few_yes (w.alloc (.cells #[.slice ga gn gc, .slice sa sn sc] 52)) hgn hsn).mono ?_
    rintro e w2 ⟨rfl, f2⟩
    have hl2 := HL.out.1.fr f2
    have b2 := (f2.heap hlt).trans b1
    have hf2 : Fr w w2 := HL.out.2.trans f2
    replace hlt := Nat.lt_of_lt_of_le hlt f2.size
    clear f2 b1 HL
    go_wp2_with fail
    refine wp_region_noPanic (wp_region_held (S := fun W => W.cell? ⟨B, 0, none⟩ = some (.slice ga gn gc) ∧ W.cell? ⟨B, 1, none⟩ = some (.slice sa sn sc)) (by kernel_rfl) ?_)
    have fd : Fr w2 w2.drew := (Fr.refl w2).drewN 1
    replace hl2 := hl2.fr fd
    replace b2 := (fd.heap hlt).trans b2
    replace hf2 := hf2.trans fd
    replace hlt := Nat.lt_of_lt_of_le hlt fd.size
    change wpAnyH _ _ _ _ _ _ _ _ w2.drew
    generalize w2.drew = w3 at *
    clear fd
    have hS3 : (fun W : World => W.cell? ⟨B, 0, none⟩ = some (.slice ga gn gc) ∧ W.cell? ⟨B, 1, none⟩ = some (.slice sa sn sc)) w3 := ⟨cell_at b2 0, cell_at b2 1⟩
    simp only [List.size_toArray, List.length_cons, List.length_nil, Nat.reduceAdd, Array.replicate_succ, Array.replicate_zero, List.push_toArray, List.nil_append, List.cons_append]
    refine held_take 0 rfl (by kernel_rfl) (by kernel_rfl) (by kernel_rfl) (fun _ _ _ _ h => h) rfl hS3 ?_
    apply Exists.intro
    refine ⟨?_, ?_⟩
    focus (intro w' hw'; obtain ⟨e0, e1⟩ := hw'; go_simp; with_reducible rfl)
    simp only [Act.put, List.setIfInBounds_toArray, List.set_cons_zero, List.set_cons_succ]
    refine held_take 2 rfl (by kernel_rfl) (by kernel_rfl) (by kernel_rfl) (fun _ _ _ _ h => h) rfl hS3 ?_
    apply Exists.intro
    refine ⟨?_, ?_⟩
    focus (intro w' hw'; obtain ⟨e0, e1⟩ := hw'; go_simp; with_reducible rfl)
    simp only [Act.put, List.setIfInBounds_toArray, List.set_cons_zero, List.set_cons_succ]
    refine held_step 1 rfl (by kernel_rfl) rfl (fun K hK => ?_)
    go_simp
    refine (keys8_walk hl2 (by omega) (by omega)).mono ?_
    rintro e w4 ⟨a1, c1, rfl, hr1, f4⟩
    have hl4 := hl2.fr f4
    have b4 := (f4.heap hlt).trans b2
    replace hf2 := hf2.trans f4
    replace hlt := Nat.lt_of_lt_of_le hlt f4.size
    have hS4 : (fun W : World => W.cell? ⟨B, 0, none⟩ = some (.slice ga gn gc) ∧ W.cell? ⟨B, 1, none⟩ = some (.slice sa sn sc)) w4 := ⟨cell_at b4 0, cell_at b4 1⟩
    have hs1 := owns_sl hr1
    obtain ⟨n1, hn1⟩ : ∃ n, (keysOf (gs.map Gd.key ++ ss.map Sp.key)).length = n := ⟨_, rfl⟩
    rw [hn1] at hs1 ⊢
    clear hl2 b2 f4 hr1 hS3
    refine hK _ _ hS4 ?_
    clear hK K
    simp only [Act.put, List.setIfInBounds_toArray, List.set_cons_zero, List.set_cons_succ]
    refine held_step 3 rfl (by kernel_rfl) rfl (fun K hK => ?_)
    go_simp
    refine (writes8_walk hl4 (by omega)).mono ?_
    rintro e w5 ⟨a2, c2, rfl, hr2, f5⟩
    have hl5 := hl4.fr f5
    have b5 := (f5.heap hlt).trans b4
    replace hf2 := hf2.trans f5
    have hS5 : (fun W : World => W.cell? ⟨B, 0, none⟩ = some (.slice ga gn gc) ∧ W.cell? ⟨B, 1, none⟩ = some (.slice sa sn sc)) w5 := ⟨cell_at b5 0, cell_at b5 1⟩
    have hs2 := owns_sl hr2
    replace hs1 := hs1.fr f5
    obtain ⟨n2, hn2⟩ : ∃ n, (keysOf (ss.map Sp.key)).length = n := ⟨_, rfl⟩
    rw [hn2] at hs2 ⊢
    clear hl4 b4 f5 hr2 hS4
    refine hK _ _ hS5 ?_
    clear hK K
    simp only [Act.put, List.setIfInBounds_toArray, List.set_cons_zero, List.set_cons_succ]
    refine held_take 4 rfl (by kernel_rfl) (by kernel_rfl) (by kernel_rfl) (fun _ _ _ _ h => h) rfl hS5 ?_
    apply Exists.intro
    refine ⟨?_, ?_⟩
    focus (intro w' hw'; obtain ⟨e0, e1⟩ := hw'; go_simp; with_reducible rfl)
    simp only [Act.put, List.setIfInBounds_toArray, List.set_cons_zero, List.set_cons_succ]
    refine held_take 5 rfl (by kernel_rfl) (by kernel_rfl) (by kernel_rfl) (fun _ _ _ _ h => h) rfl hS5 ?_
    apply Exists.intro
    refine ⟨?_, ?_⟩
    focus (intro w' hw'; obtain ⟨e0, e1⟩ := hw'; go_simp; with_reducible rfl)
    simp only [Act.put, List.setIfInBounds_toArray, List.set_cons_zero, List.set_cons_succ]
    refine wpAnyH_done (by kernel_rfl) (NoPanic.normal ?_) _
    have hI : SK w w5 B ga gn gc sa sn sc gs ss a1 n1 c1 a2 n2 c2 := ⟨hl5, b5, hs1, hs2, hf2⟩
    have hl1 := keysOf_len (gs.map Gd.key ++ ss.map Sp.key)
    have hl2 := keysOf_len (ss.map Sp.key)
    rw [List.length_append, List.length_map, List.length_map, hl5.gl, hl5.sl, hn1] at hl1
    rw [List.length_map, hl5.sl, hn2] at hl2
    have HN := Go.Lib.hid (And.intro hn1 (And.intro hn2 (And.intro hl5.gl hl5.sl)))
    clear hl5 b5 hs1 hs2 hf2 hS5 hlt hn1 hn2
    go_wp2_with fail
    go_loopw [5] (fun i wk => ∃ q : Nat, (1 ≤ q ∧ (q ≤ n1 ∨ q = 1)) ∧ i = .int .i64 (q : Nat) ∧ SK w wk B ga gn gc sa sn sc gs ss a1 n1 c1 a2 n2 c2) (fun i _ => n1 + 1 - (intOf i).toNat)
    case atStart => exact ⟨1, ⟨Nat.le_refl _, .inr rfl⟩, rfl, hI⟩
    case round =>
      clear hI
      obtain ⟨q, ⟨hq1, hq2⟩, rfl, hI⟩ := hrel
      by_cases hlt : q < n1
      · obtain ⟨p, hpq⟩ : ∃ p, p + 1 = q := ⟨q - 1, by omega⟩
        obtain ⟨x, hx⟩ : ∃ x, (keysOf (gs.map Gd.key ++ ss.map Sp.key))[p]? = some x := ⟨_, List.getElem?_eq_getElem (by rw [HN.out.1]; omega)⟩
        obtain ⟨y, hy⟩ : ∃ y, (keysOf (gs.map Gd.key ++ ss.map Sp.key))[p + 1]? = some y := ⟨_, List.getElem?_eq_getElem (by rw [HN.out.1]; omega)⟩
        have hri := keysOf_rise hx hy
        rw [hpq] at hy
        obtain ⟨b1, o1, rfl, hc1, hcs⟩ := str_cell hI.k hx HN.out.1
        obtain ⟨b2, o2, e2, hc2, hcs2⟩ := str_cell hI.k hy HN.out.1
        cases e2
        have hi1 : IntKind.i64.wrap ((q : Int) - 1) = (p : Nat) := by rw [IntWalk.i64_in _ (by omega)]; omega
        have hplt : p < n1 := by omega
        have HP := Go.Lib.hid hpq
        clear hpq hx hy
        go_wp2_with fail
        refine wp_region_classW (Fr wr) (by kernel_rfl) (by kernel_rfl) (Fr.draw _) ?_
        repeat (first
          | (refine WQ.val rfl ?_
             apply Exists.intro
             refine ⟨?_, ?_⟩
             focus (intro w' hw'; go_simp; (try go_bits); with_reducible rfl)
             simp only [Act.put, List.setIfInBounds_toArray, List.set_cons_zero, List.set_cons_succ])
          | (refine WQ.pass rfl ?_
             simp only [Act.put, List.setIfInBounds_toArray, List.set_cons_zero, List.set_cons_succ]))
        refine WQ.nil ?_
        intro w6 f6
        have hI6 := hI.fr f6
        clear hI hcs hcs2 f6
        go_wp2_with fail
        go_roundw
        case rel => exact ⟨q + 1, by omega, by go_num, hI6⟩
        case measure => simp [intOf]; omega
      · go_wp2_with fail
        clear hq1 hq2 hlt
        go_loopw [6] (fun i wk => ∃ q : Nat, q ≤ n2 ∧ i = .int .i64 (q : Nat) ∧ SK w wk B ga gn gc sa sn sc gs ss a1 n1 c1 a2 n2 c2) (fun i _ => n2 - (intOf i).toNat)
        case atStart => exact ⟨0, Nat.zero_le _, rfl, hI⟩
        case round =>
          clear hI
          obtain ⟨q, hq, rfl, hI⟩ := hrel
          by_cases hlt : q < n2
          · obtain ⟨y, hy⟩ : ∃ y, (keysOf (ss.map Sp.key))[q]? = some y := ⟨_, List.getElem?_eq_getElem (by rw [HN.out.2.1]; omega)⟩
            obtain ⟨b2, o2, rfl, hc2, hcs2⟩ := str_cell hI.u hy HN.out.2.1
            have hmem : y ∈ keysOf (gs.map Gd.key ++ ss.map Sp.key) := by
              have := List.mem_of_getElem? hy
              rw [mem_keysOf] at this ⊢
              exact List.mem_append_right _ this
            have hcall : ∀ w', Fr wr w' → Calls Try.prog 31 #[.slice a1 n1 c1, .string y] w' fun e w'' => e = .returned (.bool true) ∧ Fr w' w'' := fun w' hw' => has_walk _ (hI.k.fr hw') HN.out.1 (by omega) y hmem
            by_cases h0 : q = 0
            · subst h0
              simp only [Nat.add_zero] at hcs2
              clear hmem hy
              go_wp2_with fail
              refine wp_region_classW (Fr wr) (by kernel_rfl) (by kernel_rfl) (Fr.draw _) ?_
              repeat (first
                | (refine WQ.val rfl ?_
                   apply Exists.intro
                   refine ⟨?_, ?_⟩
                   focus (intro w' hw'; go_simp; (try go_bits); with_reducible rfl)
                   simp only [Act.put, List.setIfInBounds_toArray, List.set_cons_zero, List.set_cons_succ])
                | (refine WQ.pass rfl ?_
                   simp only [Act.put, List.setIfInBounds_toArray, List.set_cons_zero, List.set_cons_succ])
                | (refine WQ.enter rfl ?_
                   apply Exists.intro
                   apply Exists.intro
                   apply Exists.intro
                   refine ⟨?_, ?_, ?_⟩
                   focus (intro w' hw'; go_simp; exact ⟨rfl, rfl⟩)
                   focus (intro w' hw'; with_reducible first | exact qFr (by assumption) (hcall _ (by assumption)))
                   simp only [Act.put, List.setIfInBounds_toArray, List.set_cons_zero, List.set_cons_succ]))
              refine WQ.nil ?_
              intro w6 f6
              have hI6 := hI.fr f6
              clear hI hcs2 f6 hcall
              go_wp2_with fail
              go_roundw
              case rel => exact ⟨1, by omega, by go_num, hI6⟩
              case measure => simp [intOf]; omega
            · obtain ⟨p, hpq⟩ : ∃ p, p + 1 = q := ⟨q - 1, by omega⟩
              obtain ⟨x, hx⟩ : ∃ x, (keysOf (ss.map Sp.key))[p]? = some x := ⟨_, List.getElem?_eq_getElem (by rw [HN.out.2.1]; omega)⟩
              have hy' := hy
              rw [← hpq] at hy'
              have hri := keysOf_rise hx hy'
              obtain ⟨b1, o1, e2, hc1, hcs⟩ := str_cell hI.u hx HN.out.2.1
              cases e2
              have hi1 : IntKind.i64.wrap ((q : Int) - 1) = (p : Nat) := by rw [IntWalk.i64_in _ (by omega)]; omega
              have hplt : p < n2 := by omega
              have h0' : 0 < q := by omega
              have HP := Go.Lib.hid hpq
              clear hpq hx hy hy' hmem h0
              go_wp2_with fail
              refine wp_region_classW (Fr wr) (by kernel_rfl) (by kernel_rfl) (Fr.draw _) ?_
              repeat (first
                | (refine WQ.val rfl ?_
                   apply Exists.intro
                   refine ⟨?_, ?_⟩
                   focus (intro w' hw'; go_simp; (try go_bits); with_reducible rfl)
                   simp only [Act.put, List.setIfInBounds_toArray, List.set_cons_zero, List.set_cons_succ])
                | (refine WQ.pass rfl ?_
                   simp only [Act.put, List.setIfInBounds_toArray, List.set_cons_zero, List.set_cons_succ])
                | (refine WQ.enter rfl ?_
                   apply Exists.intro
                   apply Exists.intro
                   apply Exists.intro
                   refine ⟨?_, ?_, ?_⟩
                   focus (intro w' hw'; go_simp; exact ⟨rfl, rfl⟩)
                   focus (intro w' hw'; with_reducible first | exact qFr (by assumption) (hcall _ (by assumption)))
                   simp only [Act.put, List.setIfInBounds_toArray, List.set_cons_zero, List.set_cons_succ]))
              refine WQ.nil ?_
              intro w6 f6
              have hI6 := hI.fr f6
              clear hI hcs hcs2 f6 hcall
              go_wp2_with fail
              go_roundw
              case rel => exact ⟨q + 1, by omega, by go_num, hI6⟩
              case measure => simp [intOf]; omega
          · go_wp2_with fail
            clear hq hlt
            go_loopw [7] (fun i wk => ∃ q : Nat, q ≤ gn ∧ i = .int .i64 (q : Nat) ∧ SK w wk B ga gn gc sa sn sc gs ss a1 n1 c1 a2 n2 c2) (fun i _ => gn - (intOf i).toNat)
            case atStart => exact ⟨0, Nat.zero_le _, rfl, hI⟩
            case round =>
              clear hI
              obtain ⟨q, hq, rfl, hI⟩ := hrel
              obtain ⟨d0, d1⟩ := hI.box
              by_cases hlt : q < gn
              · obtain ⟨y, hy⟩ : ∃ y, gs[q]? = some y := ⟨_, List.getElem?_eq_getElem (by have := HN.out.2.2.1; omega)⟩
                obtain ⟨b2, o2, rfl, hb2, hc2, hcs2⟩ := gd_cells hI.lie.g hy HN.out.2.2.1
                obtain ⟨g0, g1, g2⟩ := hcs2 wr (Below.refl _ _)
                have hmem : y.key ∈ keysOf (gs.map Gd.key ++ ss.map Sp.key) := by
                  rw [mem_keysOf]
                  exact List.mem_append_left _ (List.mem_map.2 ⟨y, List.mem_of_getElem? hy, rfl⟩)
                have hcall := has_walk _ hI.k HN.out.1 (by omega) y.key hmem
                obtain ⟨yk, ya, yv⟩ := y
                dsimp only at g0 g1 g2 hcall
                clear hy hmem hcs2
                go_wp2_with fail
                refine hcall.mono ?_
                rintro e w6 ⟨rfl, f6⟩
                have hI6 := hI.fr f6
                clear hI f6 hcall g0 g1 g2 d0 d1
                go_wp2_with fail
                go_roundw
                case rel => exact ⟨q + 1, by omega, by go_num, hI6⟩
                case measure => simp [intOf]; omega
              · go_wp2_with fail
                clear hq hlt d0 d1
                go_loopw [8] (fun i wk => ∃ q : Nat, q ≤ sn ∧ i = .int .i64 (q : Nat) ∧ SK w wk B ga gn gc sa sn sc gs ss a1 n1 c1 a2 n2 c2) (fun i _ => sn - (intOf i).toNat)
                case atStart => exact ⟨0, Nat.zero_le _, rfl, hI⟩
                case round =>
                  clear hI
                  obtain ⟨q, hq, rfl, hI⟩ := hrel
                  obtain ⟨d0, d1⟩ := hI.box
                  by_cases hlt : q < sn
                  · obtain ⟨y, hy⟩ : ∃ y, ss[q]? = some y := ⟨_, List.getElem?_eq_getElem (by have := HN.out.2.2.2; omega)⟩
                    obtain ⟨b2, o2, rfl, hb2, hc2, hcs2⟩ := sp_cells hI.lie.s hy HN.out.2.2.2
                    obtain ⟨g0, g1, g2, g3, g4⟩ := hcs2 wr (Below.refl _ _)
                    have hmem : y.key ∈ keysOf (ss.map Sp.key) := by
                      rw [mem_keysOf]
                      exact List.mem_map.2 ⟨y, List.mem_of_getElem? hy, rfl⟩
                    have hcall := has_walk _ hI.u HN.out.2.1 (by omega) y.key hmem
                    obtain ⟨yk, ya, yv, yo, yn⟩ := y
                    dsimp only at g0 g1 g2 g3 g4 hcall
                    clear hy hmem hcs2
                    go_wp2_with fail
                    refine hcall.mono ?_
                    rintro e w6 ⟨rfl, f6⟩
                    have hI6 := hI.fr f6
                    clear hI f6 hcall g0 g1 g2 g3 g4 d0 d1
                    go_wp2_with fail
                    go_roundw
                    case rel => exact ⟨q + 1, by omega, by go_num, hI6⟩
                    case measure => simp [intOf]; omega
                  · have hsum : IntKind.i64.wrap ((gn : Int) + (sn : Int)) = ((gn + sn : Nat) : Int) := by rw [IntWalk.i64_in _ (by omega)]; omega
                    have hfr := hI.f
                    clear hI
                    go_wp2_with fail
                    refine (awake8_walk wr).mono ?_
                    rintro e w7 ⟨rfl, f7⟩
                    have hbel : Below B w w7 := hB ▸ (hfr.below.trans (f7.mono hfr.size))
                    clear hfr f7 d0 d1
                    go_wp2_with fail
                    go_ret
                    exact ⟨rfl, hbel⟩
  · go_enter Try.func6, Try.ntmps6
    go_wp2_with fail
    refine (few_no (w.alloc (.cells #[.slice ga gn gc, .slice sa sn sc] 52)) hf).mono ?_
    rintro e w2 ⟨rfl, f2⟩
    replace f2 := f1.trans f2
    clear f1 hf b1 hl h
    go_wp2_with fail
    refine (awake8_walk w2).mono ?_
    rintro e w3 ⟨rfl, f3⟩
    have hbel : Below B w w3 := hB ▸ (f2.below.trans (f3.mono f2.size))
    clear f2 f3
    go_wp2_with fail
    go_ret
    exact ⟨rfl, hbel⟩
end Go.Proofs.Ytgdmkiobidnhnaa
