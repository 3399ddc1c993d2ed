/-
  The walk of StepLooks. Conditions: what comes in lies where it says.
-/
import Derived.Test.YtgdmkiobidnhnaaKeysLaw
import Derived.Test.YtgdmkiobidnhnaaRef8b
import Derived.Test.YtgdmkiobidnhnaaRef8c
namespace Go.Proofs.Ytgdmkiobidnhnaa
open Go.RowKit Go.Shelf
set_option linter.unusedSimpArgs false

theorem mem_insAll : ∀ (ks : List ByteArray) (m : Ps) (x : ByteArray), x ∈ (insAll m ks).map Prod.fst ↔ x ∈ ks ∨ x ∈ m.map Prod.fst
  | [], m, x => by simp [insAll]
  | k :: r, m, x => by
    have h1 := mem_insAll r (put m k ⟨#[]⟩) x
    have h2 : insAll m (k :: r) = insAll (put m k ⟨#[]⟩) r := rfl
    rw [h2, h1, mem_put, List.mem_cons]
    constructor
    · rintro (h | h | h)
      · exact .inl (.inr h)
      · exact .inl (.inl h)
      · exact .inr h
    · rintro ((h | h) | h)
      · exact .inr (.inl h)
      · exact .inl h
      · exact .inr (.inr h)
theorem keys_same {ks ks' : List ByteArray} (h : ∀ x, x ∈ ks ↔ x ∈ ks') : (insAll [] ks).map Prod.fst = keysOf ks' := by
  refine rise_ext (up_keys (insAll_up ks [] Up.nil)) (up_keys (noted_up ks' [] Up.nil)) fun x => ?_
  rw [mem_insAll, h x, mem_keysOf]
  simp
theorem keysV_strV {α : Type} (l : List (ByteArray × α)) : keysV l = strV (l.map Prod.fst) := by unfold keysV strV; rw [List.map_map]; rfl
/-- What the law's loops keep. -/
structure SL (w0 w : World) (B : Nat) (ga : Option Addr) (gn gc : Nat) (sa : Option Addr) (sn sc : Nat) (gs : List Gd) (ss : List Sp) (ga' : Option Addr) (gn' gc' : Nat) (sa' : Option Addr) (sn' sc' : Nat) (gs' : List Gd) (ss' : List Sp) : Prop where
  o : Lie w ga gn gc sa sn sc gs ss
  p : Lie w ga' gn' gc' sa' sn' sc' gs' ss'
  b : w.heap[B]? = some (.cells #[.slice ga gn gc, .slice sa sn sc] 52)
  c : w.heap[B + 1]? = some (.cells #[.slice ga' gn' gc', .slice sa' sn' sc'] 52)
  f : Fr w0 w
section
variable {w0 w w' : World} {B gn gc sn sc gn' gc' sn' sc' : Nat} {ga sa ga' sa' : Option Addr} {gs gs' : List Gd} {ss ss' : List Sp}
theorem SL.fr (h : SL w0 w B ga gn gc sa sn sc gs ss ga' gn' gc' sa' sn' sc' gs' ss') (hf : Fr w w') : SL w0 w' B ga gn gc sa sn sc gs ss ga' gn' gc' sa' sn' sc' gs' ss' :=
  ⟨h.o.fr hf, h.p.fr hf, (hf.heap (Array.getElem?_eq_some_iff.1 h.b).1).trans h.b, (hf.heap (Array.getElem?_eq_some_iff.1 h.c).1).trans h.c, h.f.trans hf⟩
theorem SL.cells (h : SL w0 w B ga gn gc sa sn sc gs ss ga' gn' gc' sa' sn' sc' gs' ss') : (fun W : World => W.cell? ⟨B, 0, none⟩ = some (.slice ga gn gc) ∧ W.cell? ⟨B, 1, none⟩ = some (.slice sa sn sc) ∧ W.cell? ⟨B + 1, 0, none⟩ = some (.slice ga' gn' gc') ∧ W.cell? ⟨B + 1, 1, none⟩ = some (.slice sa' sn' sc')) w :=
  ⟨cell_at h.b 0, cell_at h.b 1, cell_at h.c 0, cell_at h.c 1⟩
end
set_option maxRecDepth 100000 in
set_option maxHeartbeats 16000000 in
theorem stepLooks.walk {ga sa ga' sa' : Option Addr} {gn gc sn sc gn' gc' sn' sc' : Nat} {w : World} (gs : List Gd) (ss : List Sp) (h : Lie w ga gn gc sa sn sc gs ss) (gs' : List Gd) (ss' : List Sp) (h' : Lie w ga' gn' gc' sa' sn' sc' gs' ss') :
    Calls Try.prog 8 #[.agg #[.slice ga gn gc, .slice sa sn sc], .agg #[.slice ga' gn' gc', .slice sa' sn' sc']] w fun e w' => e = .returned (.bool true) ∧ Below w.heap.size w w' := by
  have f1 := (Fr.refl w).alloc (.cells #[.slice ga gn gc, .slice sa sn sc] 52)
  have b1 := heap_alloc_new w (.cells #[.slice ga gn gc, .slice sa sn sc] 52)
  have f2 := (Fr.refl (w.alloc (.cells #[.slice ga gn gc, .slice sa sn sc] 52))).alloc (.cells #[.slice ga' gn' gc', .slice sa' sn' sc'] 52)
  have b2 := heap_alloc_new (w.alloc (.cells #[.slice ga gn gc, .slice sa sn sc] 52)) (.cells #[.slice ga' gn' gc', .slice sa' sn' sc'] 52)
  have hs1 : (w.alloc (.cells #[.slice ga gn gc, .slice sa sn sc] 52)).heap.size = w.heap.size + 1 := by simp
  rw [hs1] at b2
  replace b1 := (f2.heap (k := w.heap.size) (by simp)).trans b1
  replace f1 := f1.trans f2
  have hl := h.fr f1
  have hl' := h'.fr f1
  obtain ⟨B, hB⟩ : ∃ B, w.heap.size = B := ⟨_, rfl⟩
  rw [hB] at b1 b2 ⊢
  have hI : SL w _ B ga gn gc sa sn sc gs ss ga' gn' gc' sa' sn' sc' gs' ss' := ⟨hl, hl', b1, b2, f1⟩
  have HN := Go.Lib.hid (And.intro h.gl h.sl)
  clear h h' hl hl' b1 b2 f1 f2 hs1
  by_cases hf : gn ≤ 30 ∧ sn ≤ 30
  case neg =>
    go_enter Try.func8, Try.ntmps8
    go_wp2_with fail
    generalize (w.alloc (.cells #[.slice ga gn gc, .slice sa sn sc] 52)).alloc (.cells #[.slice ga' gn' gc', .slice sa' sn' sc'] 52) = w1 at *
    refine (few_no w1 hf).mono ?_
    rintro e w2 ⟨rfl, f2⟩
    have hfr := hI.f.trans f2
    clear hI f2 hf
    go_wp2_with fail
    refine (awake8_walk w2).mono ?_
    rintro e w3 ⟨rfl, f3⟩
    have hbel : Below B w w3 := hB ▸ (hfr.below.trans (f3.mono hfr.size))
    clear hfr f3
    go_wp2_with fail
    go_ret
    exact ⟨rfl, hbel⟩
  obtain ⟨hgn, hsn⟩ := hf
  by_cases hf' : gn' ≤ 30 ∧ sn' ≤ 30
  case neg =>
    go_enter Try.func8, Try.ntmps8
    go_wp2_with fail
    generalize (w.alloc (.cells #[.slice ga gn gc, .slice sa sn sc] 52)).alloc (.cells #[.slice ga' gn' gc', .slice sa' sn' sc'] 52) = w1 at *
    refine (few_yes w1 hgn hsn).mono ?_
    rintro e w2 ⟨rfl, f2⟩
    replace hI := hI.fr f2
    obtain ⟨d0, d1, d2, d3⟩ := hI.cells
    clear f2
    go_wp2_with fail
    refine (few_no w2 hf').mono ?_
    rintro e w3 ⟨rfl, f2⟩
    have hfr := hI.f.trans f2
    clear hI f2 hf' d0 d1 d2 d3
    go_wp2_with fail
    refine (awake8_walk w3).mono ?_
    rintro e w4 ⟨rfl, f3⟩
    have hbel : Below B w w4 := hB ▸ (hfr.below.trans (f3.mono hfr.size))
    clear hfr f3
    go_wp2_with fail
    go_ret
    exact ⟨rfl, hbel⟩
  obtain ⟨hgn', hsn'⟩ := hf'
  go_enter Try.func8, Try.ntmps8
  go_wp2_with fail
  generalize (w.alloc (.cells #[.slice ga gn gc, .slice sa sn sc] 52)).alloc (.cells #[.slice ga' gn' gc', .slice sa' sn' sc'] 52) = w1 at *
  refine (few_yes w1 hgn hsn).mono ?_
  rintro e w2 ⟨rfl, f2⟩
  replace hI := hI.fr f2
  obtain ⟨d0, d1, d2, d3⟩ := hI.cells
  clear f2
  go_wp2_with fail
  refine (few_yes w2 hgn' hsn').mono ?_
  rintro e w3 ⟨rfl, f2⟩
  replace hI := hI.fr f2
  clear f2 d0 d1 d2 d3
  go_wp2_with fail
  go_loopw [5] (fun i wk => ∃ j : Nat, j ≤ gn ∧ i = .int .i64 j ∧ SL w wk B ga gn gc sa sn sc gs ss ga' gn' gc' sa' sn' sc' gs' ss') (fun i _ => gn - (intOf i).toNat)
  case atStart => exact ⟨0, Nat.zero_le _, rfl, hI⟩
  case round =>
    clear hI
    obtain ⟨j, hj, rfl, hI⟩ := hrel
    obtain ⟨d0, d1, d2, d3⟩ := hI.cells
    by_cases hlt : j < gn
    · obtain ⟨x, hx⟩ : ∃ x, gs[j]? = some x := ⟨_, List.getElem?_eq_getElem (by have := HN.out.1; omega)⟩
      obtain ⟨b1, o1, rfl, hb1, hc1, hcs⟩ := gd_cells hI.o.g hx HN.out.1
      have hg1 := gd_walk x
      have hg2 := rgd_walk x
      generalize okGd x = r at *
      unfold gdA at hg1 hg2
      obtain ⟨xk, xa, xv⟩ := x
      dsimp only at hcs hg1 hg2
      have x0 : ∀ w', Fr wr w' → w'.cell? ⟨B, 0, none⟩ = some (.slice (some ⟨b1, o1, none⟩) gn gc) := fun w' hw' => hw'.cell' d0
      have x1 : ∀ w', Fr wr w' → w'.cell? ⟨B, 1, none⟩ = some (.slice sa sn sc) := fun w' hw' => hw'.cell' d1
      have ca0 : ∀ w', Fr wr w' → w'.cell? ⟨b1, o1 + j * 3, none⟩ = some (.int .i64 xk) := fun w' hw' => (hcs w' hw').1
      have ca1 : ∀ w', Fr wr w' → w'.cell? ⟨b1, o1 + j * 3 + 1, none⟩ = some (.string xa) := fun w' hw' => (hcs w' hw').2.1
      have ca2 : ∀ w', Fr wr w' → w'.cell? ⟨b1, o1 + j * 3 + 2, none⟩ = some (.string xv) := fun w' hw' => (hcs w' hw').2.2
      clear hcs hx
      go_wp2_with fail
      refine wp_region_classW (Fr wr) (by kernel_rfl) (by kernel_rfl) (Fr.draw _) ?_
      repeat (first
        | (refine WQ.val rfl ?_
           apply Exists.intro
           refine ⟨?_, ?_⟩
           focus (intro w' hw'; go_simp; (try go_bits); with_reducible rfl)
           simp only [Act.put, List.setIfInBounds_toArray, List.set_cons_zero, List.set_cons_succ])
        | (refine WQ.pass rfl ?_
           simp only [Act.put, List.setIfInBounds_toArray, List.set_cons_zero, List.set_cons_succ])
        | (refine WQ.enter rfl ?_
           apply Exists.intro
           apply Exists.intro
           apply Exists.intro
           refine ⟨?_, ?_, ?_⟩
           focus (intro w' hw'; go_simp; exact ⟨rfl, rfl⟩)
           focus (intro w' hw'; with_reducible first | exact qFr (by assumption) (hg1 _) | exact qFr (by assumption) (hg2 _))
           simp only [Act.put, List.setIfInBounds_toArray, List.set_cons_zero, List.set_cons_succ]))
      refine WQ.nil ?_
      intro w5 f5
      replace hI := hI.fr f5
      clear f5 d0 d1 d2 d3 x0 x1 ca0 ca1 ca2 hg1 hg2
      go_wp2_with fail
      go_roundw
      case rel => exact ⟨j + 1, by omega, by go_num, hI⟩
      case measure => simp [intOf]; omega
    · go_wp2_with fail
      clear d0 d1 d2 d3 hlt hj
      go_loopw [6] (fun i wk => ∃ j : Nat, j ≤ sn ∧ i = .int .i64 j ∧ SL w wk B ga gn gc sa sn sc gs ss ga' gn' gc' sa' sn' sc' gs' ss') (fun i _ => sn - (intOf i).toNat)
      case atStart => exact ⟨0, Nat.zero_le _, rfl, hI⟩
      case round =>
        clear hI
        obtain ⟨j, hj, rfl, hI⟩ := hrel
        obtain ⟨d0, d1, d2, d3⟩ := hI.cells
        by_cases hlt : j < sn
        · obtain ⟨x, hx⟩ : ∃ x, ss[j]? = some x := ⟨_, List.getElem?_eq_getElem (by have := HN.out.2; omega)⟩
          obtain ⟨b1, o1, rfl, hb1, hc1, hcs⟩ := sp_cells hI.o.s hx HN.out.2
          have hg1 := sp_walk x
          have hg2 := rsp_walk x
          generalize okSp x = r at *
          unfold spA at hg1 hg2
          obtain ⟨xk, xa, xv, xo, xn⟩ := x
          dsimp only at hcs hg1 hg2
          have x0 : ∀ w', Fr wr w' → w'.cell? ⟨B, 1, none⟩ = some (.slice (some ⟨b1, o1, none⟩) sn sc) := fun w' hw' => hw'.cell' d1
          have x1 : ∀ w', Fr wr w' → w'.cell? ⟨B, 0, none⟩ = some (.slice ga gn gc) := fun w' hw' => hw'.cell' d0
          have ca0 : ∀ w', Fr wr w' → w'.cell? ⟨b1, o1 + j * 5, none⟩ = some (.int .i64 xk) := fun w' hw' => (hcs w' hw').1
          have ca1 : ∀ w', Fr wr w' → w'.cell? ⟨b1, o1 + j * 5 + 1, none⟩ = some (.string xa) := fun w' hw' => (hcs w' hw').2.1
          have ca2 : ∀ w', Fr wr w' → w'.cell? ⟨b1, o1 + j * 5 + 2, none⟩ = some (.string xv) := fun w' hw' => (hcs w' hw').2.2.1
          have ca3 : ∀ w', Fr wr w' → w'.cell? ⟨b1, o1 + j * 5 + 3, none⟩ = some (.string xo) := fun w' hw' => (hcs w' hw').2.2.2.1
          have ca4 : ∀ w', Fr wr w' → w'.cell? ⟨b1, o1 + j * 5 + 4, none⟩ = some (.int .i64 xn) := fun w' hw' => (hcs w' hw').2.2.2.2
          clear hcs hx
          go_wp2_with fail
          refine wp_region_classW (Fr wr) (by kernel_rfl) (by kernel_rfl) (Fr.draw _) ?_
          repeat (first
            | (refine WQ.val rfl ?_
               apply Exists.intro
               refine ⟨?_, ?_⟩
               focus (intro w' hw'; go_simp; (try go_bits); with_reducible rfl)
               simp only [Act.put, List.setIfInBounds_toArray, List.set_cons_zero, List.set_cons_succ])
            | (refine WQ.pass rfl ?_
               simp only [Act.put, List.setIfInBounds_toArray, List.set_cons_zero, List.set_cons_succ])
            | (refine WQ.enter rfl ?_
               apply Exists.intro
               apply Exists.intro
               apply Exists.intro
               refine ⟨?_, ?_, ?_⟩
               focus (intro w' hw'; go_simp; exact ⟨rfl, rfl⟩)
               focus (intro w' hw'; with_reducible first | exact qFr (by assumption) (hg1 _) | exact qFr (by assumption) (hg2 _))
               simp only [Act.put, List.setIfInBounds_toArray, List.set_cons_zero, List.set_cons_succ]))
          refine WQ.nil ?_
          intro w5 f5
          replace hI := hI.fr f5
          clear f5 d0 d1 d2 d3 x0 x1 ca0 ca1 ca2 ca3 ca4 hg1 hg2
          go_wp2_with fail
          go_roundw
          case rel => exact ⟨j + 1, by omega, by go_num, hI⟩
          case measure => simp [intOf]; omega
        · go_wp2_with fail
          clear d0 d1 d2 d3 hlt hj
          refine wp_region_noPanic (wp_region_held (S := fun W => W.cell? ⟨B, 0, none⟩ = some (.slice ga gn gc) ∧ W.cell? ⟨B, 1, none⟩ = some (.slice sa sn sc) ∧ W.cell? ⟨B + 1, 0, none⟩ = some (.slice ga' gn' gc') ∧ W.cell? ⟨B + 1, 1, none⟩ = some (.slice sa' sn' sc')) (by kernel_rfl) ?_)
          replace hI := hI.fr ((Fr.refl wr).drewN 1)
          change wpAnyH _ _ _ _ _ _ _ _ wr.drew
          change SL w wr.drew B ga gn gc sa sn sc gs ss ga' gn' gc' sa' sn' sc' gs' ss' at hI
          generalize wr.drew = w9 at *
          have hS := hI.cells
          have hk1 := keysOf_len (gs.map Gd.key ++ ss.map Sp.key)
          have hk2 := keysOf_len (ss.map Sp.key)
          rw [List.length_append, List.length_map, List.length_map, HN.out.1, HN.out.2] at hk1
          rw [List.length_map, HN.out.2] at hk2
          have hq1 := keys_same (ks := ss.map Sp.key ++ gs.map Gd.key) (ks' := gs.map Gd.key ++ ss.map Sp.key) (fun x => by simp [or_comm])
          have hq2 := keys_same (ks := ss.map Sp.key) (ks' := ss.map Sp.key) (fun x => Iff.rfl)
          have hsame1 : keysV (insAll [] (ss.map Sp.key ++ gs.map Gd.key)) = strV (keysOf (gs.map Gd.key ++ ss.map Sp.key)) := by rw [keysV_strV, hq1]
          have hsame2 : keysV (insAll [] (ss.map Sp.key)) = strV (keysOf (ss.map Sp.key)) := by rw [keysV_strV, hq2]
          have hlen1 : (insAll [] (ss.map Sp.key ++ gs.map Gd.key)).length = (keysOf (gs.map Gd.key ++ ss.map Sp.key)).length := by rw [← hq1, List.length_map]
          have hlen2 : (insAll [] (ss.map Sp.key)).length = (keysOf (ss.map Sp.key)).length := by rw [← hq2, List.length_map]
          obtain ⟨n1, hn1⟩ : ∃ n, (keysOf (gs.map Gd.key ++ ss.map Sp.key)).length = n := ⟨_, rfl⟩
          obtain ⟨n2, hn2⟩ : ∃ n, (keysOf (ss.map Sp.key)).length = n := ⟨_, rfl⟩
          rw [hn1] at hk1
          rw [hn2] at hk2
          have HK := Go.Lib.hid (And.intro hn1 hn2)
          have HQ := Go.Lib.hid (And.intro hsame1 (And.intro hsame2 (And.intro hlen1 hlen2)))
          clear hn1 hn2 hq1 hq2 hsame1 hsame2 hlen1 hlen2
          simp only [List.size_toArray, List.length_cons, List.length_nil, Nat.reduceAdd, Array.replicate_succ, Array.replicate_zero, List.push_toArray, List.nil_append, List.cons_append]
          refine held_take 0 rfl (by kernel_rfl) (by kernel_rfl) (by kernel_rfl) (fun _ _ _ _ h => h) rfl hS ?_
          apply Exists.intro
          refine ⟨?_, ?_⟩
          focus (intro w' hw'; obtain ⟨e0, e1, e2, e3⟩ := hw'; go_simp; with_reducible rfl)
          simp only [Act.put, List.setIfInBounds_toArray, List.set_cons_zero, List.set_cons_succ]
          refine held_take 2 rfl (by kernel_rfl) (by kernel_rfl) (by kernel_rfl) (fun _ _ _ _ h => h) rfl hS ?_
          apply Exists.intro
          refine ⟨?_, ?_⟩
          focus (intro w' hw'; obtain ⟨e0, e1, e2, e3⟩ := hw'; go_simp; with_reducible rfl)
          simp only [Act.put, List.setIfInBounds_toArray, List.set_cons_zero, List.set_cons_succ]
          refine held_step 1 rfl (by kernel_rfl) rfl (fun K hK => ?_)
          go_simp
          refine (ok_walk hI.o (by omega) (by omega)).mono ?_
          rintro e w10 ⟨rfl, f⟩
          replace hI := hI.fr f
          clear f
          have hS := hI.cells
          refine hK _ _ hS ?_
          clear hK K
          simp only [Act.put, List.setIfInBounds_toArray, List.set_cons_zero, List.set_cons_succ]
          refine held_step 3 rfl (by kernel_rfl) rfl (fun K hK => ?_)
          go_simp
          refine (rok_walk hI.o (by omega) (by omega)).mono ?_
          rintro e w11 ⟨rfl, f⟩
          replace hI := hI.fr f
          clear f
          have hS := hI.cells
          refine hK _ _ hS ?_
          clear hK K
          simp only [Act.put, List.setIfInBounds_toArray, List.set_cons_zero, List.set_cons_succ]
          have hzz : (okOp gs ss == okOp gs ss) = true := by simp
          generalize okOp gs ss = z at *
          refine held_take 4 rfl (by kernel_rfl) (by kernel_rfl) (by kernel_rfl) (fun _ _ _ _ h => h) rfl hS ?_
          apply Exists.intro
          refine ⟨?_, ?_⟩
          focus (intro w' hw'; obtain ⟨e0, e1, e2, e3⟩ := hw'; go_simp; with_reducible rfl)
          simp only [Act.put, List.setIfInBounds_toArray, List.set_cons_zero, List.set_cons_succ]
          refine held_take 5 rfl (by kernel_rfl) (by kernel_rfl) (by kernel_rfl) (fun _ _ _ _ h => h) rfl hS ?_
          apply Exists.intro
          refine ⟨?_, ?_⟩
          focus (intro w' hw'; obtain ⟨e0, e1, e2, e3⟩ := hw'; go_simp; with_reducible rfl)
          simp only [Act.put, List.setIfInBounds_toArray, List.set_cons_zero, List.set_cons_succ]
          clear hzz
          refine held_take 6 rfl (by kernel_rfl) (by kernel_rfl) (by kernel_rfl) (fun _ _ _ _ h => h) rfl hS ?_
          apply Exists.intro
          refine ⟨?_, ?_⟩
          focus (intro w' hw'; obtain ⟨e0, e1, e2, e3⟩ := hw'; go_simp; with_reducible rfl)
          simp only [Act.put, List.setIfInBounds_toArray, List.set_cons_zero, List.set_cons_succ]
          refine held_take 8 rfl (by kernel_rfl) (by kernel_rfl) (by kernel_rfl) (fun _ _ _ _ h => h) rfl hS ?_
          apply Exists.intro
          refine ⟨?_, ?_⟩
          focus (intro w' hw'; obtain ⟨e0, e1, e2, e3⟩ := hw'; go_simp; with_reducible rfl)
          simp only [Act.put, List.setIfInBounds_toArray, List.set_cons_zero, List.set_cons_succ]
          refine held_step 7 rfl (by kernel_rfl) rfl (fun K hK => ?_)
          go_simp
          refine (keys8_walk hI.o (by omega) (by omega)).mono ?_
          rintro e w12 ⟨a1, c1, rfl, hr1, f⟩
          have hs1 := (owns_sl hr1).fr (Fr.refl _)
          clear hr1
          rw [HK.out.1] at hs1 ⊢
          replace hI := hI.fr f
          clear f
          have hS := hI.cells
          refine hK _ _ hS ?_
          clear hK K
          simp only [Act.put, List.setIfInBounds_toArray, List.set_cons_zero, List.set_cons_succ]
          refine held_step 9 rfl (by kernel_rfl) rfl (fun K hK => ?_)
          go_simp
          refine (rkeys_walk hI.o (by omega) (by omega)).mono ?_
          rintro e w13 ⟨a2, c2, rfl, hr2, f⟩
          have hs2 := owns_sl hr2
          clear hr2
          rw [HQ.out.1, HQ.out.2.2.1, HK.out.1] at hs2
          rw [HQ.out.2.2.1, HK.out.1]
          replace hs1 := hs1.fr f
          replace hI := hI.fr f
          clear f
          have hS := hI.cells
          refine hK _ _ hS ?_
          clear hK K
          simp only [Act.put, List.setIfInBounds_toArray, List.set_cons_zero, List.set_cons_succ]
          refine held_step 10 rfl (by kernel_rfl) rfl (fun K hK => ?_)
          go_simp
          refine (texts_walk _ hs1 hs2 HK.out.1 (by omega)).mono ?_
          rintro e w14 ⟨rfl, f⟩
          clear hs1 hs2
          replace hI := hI.fr f
          clear f
          have hS := hI.cells
          refine hK _ _ hS ?_
          clear hK K
          simp only [Act.put, List.setIfInBounds_toArray, List.set_cons_zero, List.set_cons_succ]
          refine held_take 11 rfl (by kernel_rfl) (by kernel_rfl) (by kernel_rfl) (fun _ _ _ _ h => h) rfl hS ?_
          apply Exists.intro
          refine ⟨?_, ?_⟩
          focus (intro w' hw'; obtain ⟨e0, e1, e2, e3⟩ := hw'; go_simp; with_reducible rfl)
          simp only [Act.put, List.setIfInBounds_toArray, List.set_cons_zero, List.set_cons_succ]
          refine held_take 12 rfl (by kernel_rfl) (by kernel_rfl) (by kernel_rfl) (fun _ _ _ _ h => h) rfl hS ?_
          apply Exists.intro
          refine ⟨?_, ?_⟩
          focus (intro w' hw'; obtain ⟨e0, e1, e2, e3⟩ := hw'; go_simp; with_reducible rfl)
          simp only [Act.put, List.setIfInBounds_toArray, List.set_cons_zero, List.set_cons_succ]
          refine held_take 13 rfl (by kernel_rfl) (by kernel_rfl) (by kernel_rfl) (fun _ _ _ _ h => h) rfl hS ?_
          apply Exists.intro
          refine ⟨?_, ?_⟩
          focus (intro w' hw'; obtain ⟨e0, e1, e2, e3⟩ := hw'; go_simp; with_reducible rfl)
          simp only [Act.put, List.setIfInBounds_toArray, List.set_cons_zero, List.set_cons_succ]
          refine held_take 15 rfl (by kernel_rfl) (by kernel_rfl) (by kernel_rfl) (fun _ _ _ _ h => h) rfl hS ?_
          apply Exists.intro
          refine ⟨?_, ?_⟩
          focus (intro w' hw'; obtain ⟨e0, e1, e2, e3⟩ := hw'; go_simp; with_reducible rfl)
          simp only [Act.put, List.setIfInBounds_toArray, List.set_cons_zero, List.set_cons_succ]
          refine held_step 14 rfl (by kernel_rfl) rfl (fun K hK => ?_)
          go_simp
          refine (writes8_walk hI.o (by omega)).mono ?_
          rintro e w15 ⟨a3, c3, rfl, hr1, f⟩
          have hs1 := (owns_sl hr1).fr (Fr.refl _)
          clear hr1
          rw [HK.out.2] at hs1 ⊢
          replace hI := hI.fr f
          clear f
          have hS := hI.cells
          refine hK _ _ hS ?_
          clear hK K
          simp only [Act.put, List.setIfInBounds_toArray, List.set_cons_zero, List.set_cons_succ]
          refine held_step 16 rfl (by kernel_rfl) rfl (fun K hK => ?_)
          go_simp
          refine (rwrites_walk hI.o (by omega)).mono ?_
          rintro e w16 ⟨a4, c4, rfl, hr2, f⟩
          have hs2 := owns_sl hr2
          clear hr2
          rw [HQ.out.2.1, HQ.out.2.2.2, HK.out.2] at hs2
          rw [HQ.out.2.2.2, HK.out.2]
          replace hs1 := hs1.fr f
          replace hI := hI.fr f
          clear f
          have hS := hI.cells
          refine hK _ _ hS ?_
          clear hK K
          simp only [Act.put, List.setIfInBounds_toArray, List.set_cons_zero, List.set_cons_succ]
          refine held_step 17 rfl (by kernel_rfl) rfl (fun K hK => ?_)
          go_simp
          refine (texts_walk _ hs1 hs2 HK.out.2 (by omega)).mono ?_
          rintro e w17 ⟨rfl, f⟩
          clear hs1 hs2
          replace hI := hI.fr f
          clear f
          have hS := hI.cells
          refine hK _ _ hS ?_
          clear hK K
          simp only [Act.put, List.setIfInBounds_toArray, List.set_cons_zero, List.set_cons_succ]
          refine held_take 18 rfl (by kernel_rfl) (by kernel_rfl) (by kernel_rfl) (fun _ _ _ _ h => h) rfl hS ?_
          apply Exists.intro
          refine ⟨?_, ?_⟩
          focus (intro w' hw'; obtain ⟨e0, e1, e2, e3⟩ := hw'; go_simp; with_reducible rfl)
          simp only [Act.put, List.setIfInBounds_toArray, List.set_cons_zero, List.set_cons_succ]
          refine held_take 19 rfl (by kernel_rfl) (by kernel_rfl) (by kernel_rfl) (fun _ _ _ _ h => h) rfl hS ?_
          apply Exists.intro
          refine ⟨?_, ?_⟩
          focus (intro w' hw'; obtain ⟨e0, e1, e2, e3⟩ := hw'; go_simp; with_reducible rfl)
          simp only [Act.put, List.setIfInBounds_toArray, List.set_cons_zero, List.set_cons_succ]
          refine held_take 20 rfl (by kernel_rfl) (by kernel_rfl) (by kernel_rfl) (fun _ _ _ _ h => h) rfl hS ?_
          apply Exists.intro
          refine ⟨?_, ?_⟩
          focus (intro w' hw'; obtain ⟨e0, e1, e2, e3⟩ := hw'; go_simp; with_reducible rfl)
          simp only [Act.put, List.setIfInBounds_toArray, List.set_cons_zero, List.set_cons_succ]
          refine held_take 21 rfl (by kernel_rfl) (by kernel_rfl) (by kernel_rfl) (fun _ _ _ _ h => h) rfl hS ?_
          apply Exists.intro
          refine ⟨?_, ?_⟩
          focus (intro w' hw'; obtain ⟨e0, e1, e2, e3⟩ := hw'; go_simp; with_reducible rfl)
          simp only [Act.put, List.setIfInBounds_toArray, List.set_cons_zero, List.set_cons_succ]
          refine held_take 23 rfl (by kernel_rfl) (by kernel_rfl) (by kernel_rfl) (fun _ _ _ _ h => h) rfl hS ?_
          apply Exists.intro
          refine ⟨?_, ?_⟩
          focus (intro w' hw'; obtain ⟨e0, e1, e2, e3⟩ := hw'; go_simp; with_reducible rfl)
          simp only [Act.put, List.setIfInBounds_toArray, List.set_cons_zero, List.set_cons_succ]
          refine held_take 24 rfl (by kernel_rfl) (by kernel_rfl) (by kernel_rfl) (fun _ _ _ _ h => h) rfl hS ?_
          apply Exists.intro
          refine ⟨?_, ?_⟩
          focus (intro w' hw'; obtain ⟨e0, e1, e2, e3⟩ := hw'; go_simp; with_reducible rfl)
          simp only [Act.put, List.setIfInBounds_toArray, List.set_cons_zero, List.set_cons_succ]
          refine held_step 22 rfl (by kernel_rfl) rfl (fun K hK => ?_)
          go_simp
          refine (same8_walk hI.o hI.p (by omega) (by omega) (by omega) (by omega)).mono ?_
          rintro e w18 ⟨rfl, f⟩
          replace hI := hI.fr f
          clear f
          have hS := hI.cells
          refine hK _ _ hS ?_
          clear hK K
          simp only [Act.put, List.setIfInBounds_toArray, List.set_cons_zero, List.set_cons_succ]
          refine held_step 25 rfl (by kernel_rfl) rfl (fun K hK => ?_)
          go_simp
          refine (rsame_walk hI.o hI.p (by omega) (by omega) (by omega) (by omega)).mono ?_
          rintro e w19 ⟨rfl, f⟩
          replace hI := hI.fr f
          clear f
          have hS := hI.cells
          refine hK _ _ hS ?_
          clear hK K
          simp only [Act.put, List.setIfInBounds_toArray, List.set_cons_zero, List.set_cons_succ]
          have hyy : (eqOp gs ss gs' ss' == eqOp gs ss gs' ss') = true := by simp
          generalize eqOp gs ss gs' ss' = y at *
          refine held_take 26 rfl (by kernel_rfl) (by kernel_rfl) (by kernel_rfl) (fun _ _ _ _ h => h) rfl hS ?_
          apply Exists.intro
          refine ⟨?_, ?_⟩
          focus (intro w' hw'; obtain ⟨e0, e1, e2, e3⟩ := hw'; go_simp; with_reducible rfl)
          simp only [Act.put, List.setIfInBounds_toArray, List.set_cons_zero, List.set_cons_succ]
          refine held_take 27 rfl (by kernel_rfl) (by kernel_rfl) (by kernel_rfl) (fun _ _ _ _ h => h) rfl hS ?_
          apply Exists.intro
          refine ⟨?_, ?_⟩
          focus (intro w' hw'; obtain ⟨e0, e1, e2, e3⟩ := hw'; go_simp; with_reducible rfl)
          simp only [Act.put, List.setIfInBounds_toArray, List.set_cons_zero, List.set_cons_succ]
          refine held_take 28 rfl (by kernel_rfl) (by kernel_rfl) (by kernel_rfl) (fun _ _ _ _ h => h) rfl hS ?_
          apply Exists.intro
          refine ⟨?_, ?_⟩
          focus (intro w' hw'; obtain ⟨e0, e1, e2, e3⟩ := hw'; go_simp; with_reducible rfl)
          simp only [Act.put, List.setIfInBounds_toArray, List.set_cons_zero, List.set_cons_succ]
          clear hyy
          have hfr := hI.f
          refine held_step 29 rfl (by kernel_rfl) rfl (fun K hK => ?_)
          go_simp
          refine (awake8_walk _).mono ?_
          rintro e w20 ⟨rfl, f⟩
          replace hfr := hfr.trans f
          replace hI := hI.fr f
          clear f
          have hS := hI.cells
          refine hK _ _ hS ?_
          clear hK K
          simp only [Act.put, List.setIfInBounds_toArray, List.set_cons_zero, List.set_cons_succ]
          refine held_take 30 rfl (by kernel_rfl) (by kernel_rfl) (by kernel_rfl) (fun _ _ _ _ h => h) rfl hS ?_
          apply Exists.intro
          refine ⟨?_, ?_⟩
          focus (intro w' hw'; obtain ⟨e0, e1, e2, e3⟩ := hw'; go_simp; with_reducible rfl)
          simp only [Act.put, List.setIfInBounds_toArray, List.set_cons_zero, List.set_cons_succ]
          refine held_take 31 rfl (by kernel_rfl) (by kernel_rfl) (by kernel_rfl) (fun _ _ _ _ h => h) rfl hS ?_
          apply Exists.intro
          refine ⟨?_, ?_⟩
          focus (intro w' hw'; obtain ⟨e0, e1, e2, e3⟩ := hw'; go_simp; with_reducible rfl)
          simp only [Act.put, List.setIfInBounds_toArray, List.set_cons_zero, List.set_cons_succ]
          refine wpAnyH_done (by kernel_rfl) (NoPanic.normal ?_) _
          clear hS hI
          go_wp2_with fail
          go_ret
          exact ⟨rfl, hB ▸ hfr⟩
end Go.Proofs.Ytgdmkiobidnhnaa
