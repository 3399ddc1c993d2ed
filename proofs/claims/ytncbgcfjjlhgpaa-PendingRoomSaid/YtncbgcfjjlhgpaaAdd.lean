/-
  The walk of Add: an entry comes in, or not. Conditions: the row and the entry are as they say.
-/
import Derived.Test.YtncbgcfjjlhgpaaMid
import Derived.Deep.RegionHeld3
import Derived.Deep.RegionLaw
namespace Go.Proofs.Ytncbgcfjjlhgpaa
open Go.RowKit

theorem Fr.drew {a w : World} (h : Fr a w) : Fr a w.drew := h.drewN 1
theorem cells_four_new (w : World) (x y z u : Value) (t : TypeId) : ∀ j r, [x, y, z, u][j]? = some r → (w.alloc (.cells #[x, y, z, u] t)).cell? ((⟨w.heap.size, 0, none⟩ : Addr).add j) = some r := by
  intro j r hj
  rw [add_at, cell_at (heap_alloc_new w _)]
  simpa using hj
theorem add_no {B R mb : Nat} {v : Value} {most : Int} {es : List Et} {w : World} (x : Et) (h : Rw B R mb v most es w) (h0 : 0 ≤ most) (h1 : most ≤ 32) (hl : es.length ≤ 1000)
    (hno : most - es.length < 1 ∨ has (es.map Et.c) x.c.o x.c.s = true) :
    Calls Try.prog 10 #[.pointer (some ⟨R, 0, none⟩), (.agg #[.int .i64 x.c.o, .int .i64 x.c.s, x.g, x.st])] w fun e w' => e = .returned (.bool false) ∧ Fr w w' := by
  obtain ⟨⟨o, s, gs, ss⟩, g, st⟩ := x
  dsimp only at hno ⊢
  have f1 := (Fr.refl w).alloc (.cells #[.int .i64 o, .int .i64 s, g, st] 40)
  have b1 := heap_alloc_new w (.cells #[.int .i64 o, .int .i64 s, g, st] 40)
  have hroom := room_walk (h.fr f1) h0 h1 hl
  obtain ⟨n, hn⟩ : ∃ n, es.length = n := ⟨_, rfl⟩
  rw [hn] at hroom hno hl
  go_enter Try.func10, Try.ntmps10
  go_wp2_with fail
  refine hroom.mono ?_
  rintro e w2 ⟨rfl, f2⟩
  have b2 := (f2.heap (by simp)).trans b1
  replace f2 := f1.trans f2
  have c0 : w2.cell? ⟨w.heap.size, 0, none⟩ = some (.int .i64 o) := cell_at b2 0
  have c1 : w2.cell? ⟨w.heap.size, 1, none⟩ = some (.int .i64 s) := cell_at b2 1
  have hhas := has_walk (h.fr f2) o s
  clear h f1 b1 b2
  by_cases hlt : most - (n : Int) < 1
  · clear hno
    go_wp2_with fail
    go_ret
    exact ⟨rfl, f2⟩
  · have hh : has (es.map Et.c) o s = true := hno.resolve_left hlt
    rw [hh] at hhas
    clear hno hh
    go_wp2_with fail
    refine hhas.mono ?_
    rintro e w3 ⟨rfl, f3⟩
    go_wp2_with fail
    go_ret
    exact ⟨rfl, f2.trans f3⟩

def AddPost (B R mb : Nat) (v : Value) (most : Int) (es : List Et) (c : Cn) (W : World) (e : Ending) (w' : World) : Prop :=
  e = .returned (.bool true) ∧ ∃ (v' : Value) (y : Et), y.c = c ∧ y.from W.heap.size ∧ Rw B R mb v' most (es ++ [y]) w' ∧ (v'.ownBlock = v.ownBlock ∨ ∃ k, v'.ownBlock = some k ∧ W.heap.size ≤ k) ∧ But (Of R mb v) W w'
theorem inOf_step (l : List Cn) (c : Cn) : upd (inOf l) c.o c.s 1 = inOf (l ++ [c]) := by
  funext o s
  unfold upd inOf has
  rw [List.any_append]
  by_cases hc : o = c.o ∧ s = c.s
  · rw [if_pos hc, hc.1, hc.2]; simp
  · rw [if_neg hc]
    have : (c.o == o && c.s == s) = false := by
      cases hb : (c.o == o && c.s == s) with
      | false => rfl
      | true =>
        simp only [Bool.and_eq_true, beq_iff_eq] at hb
        exact absurd ⟨hb.1.symm, hb.2.symm⟩ hc
    simp [this]
theorem inOf_no {l : List Cn} {o s : Int} (h : has l o s = false) : inOf l o s = 0 := by
  unfold inOf; rw [h]; rfl
/-- The map's word behind the list's store. -/
theorem Mid.done {B R mb : Nat} {v v' : Value} {most : Int} {es : List Et} {y : Et} {w w' w'' : World} (h : Mid B R mb v v' most es y w w') (hR : B ≤ R) (hm : B ≤ mb) 
    (hb : But (fun k => k = mb) w' w'') (hf : MapF w'' mb (upd (inOf (es.map Et.c)) y.c.o y.c.s 1)) :
    Rw B R mb v' most (es ++ [y]) w'' ∧ But (Of R mb v) w w'' := by
  have hlt := (Array.getElem?_eq_some_iff.1 h.cells).1
  have hRm : R ≠ mb := by
    intro e
    obtain ⟨l, clock, hm, _⟩ := h.map
    have := h.cells
    rw [e, hm.heap] at this
    cases this
  refine ⟨⟨(hb.heap R hlt hRm).trans h.cells, ?_, ?_, ?_, h.off, fun e he => (h.lt e he).mono hb.size, hR, hm⟩, h.but.mix hb (fun _ _ h => h) (fun _ _ h => .inr (.inl h))⟩
  · rw [List.map_append]
    show MapF w'' mb (inOf (es.map Et.c ++ [y.c]))
    rw [← inOf_step]
    exact hf
  · refine h.row.kept hb.grown (.inr ?_)
    intro e
    have := h.row.lt mb e
    rcases h.row.2 with ⟨hv, _⟩ | ⟨g, cap, cur, hv, _, hh, _⟩
    · rw [hv] at e; cases e
    · rw [hv] at e
      obtain rfl : g = mb := by simpa [Value.ownBlock] using e
      obtain ⟨l, clock, hm, _⟩ := h.map
      rw [hm.heap] at hh; cases hh
  · intro e he
    exact (h.ok e he).kept (F := fun k => k = mb) ⟨fun k hk hc => (h.off e he).1 k hk (.inr (.inl hc)), fun k hk hc => (h.off e he).2 k hk (.inr (.inl hc))⟩ hb
set_option maxHeartbeats 2000000 in
theorem add_yes {B R mb : Nat} {v : Value} {most : Int} {es : List Et} {w : World} (x : Et) (h : Rw B R mb v most es w) (hx : EtOk w x) (g1 : x.c.gs.length ≤ 1000000) (g2 : x.c.ss.length ≤ 1000000) (h0 : 0 ≤ most) (h1 : most ≤ 32) (hl : es.length ≤ 1000)
    (hr : ¬ (most - es.length < 1)) (hh : has (es.map Et.c) x.c.o x.c.s = false) :
    Calls Try.prog 10 #[.pointer (some ⟨R, 0, none⟩), (.agg #[.int .i64 x.c.o, .int .i64 x.c.s, x.g, x.st])] w (AddPost B R mb v most es x.c w) := by
  obtain ⟨⟨o, s, gs, ss⟩, g, st⟩ := x
  dsimp only at hh g1 g2 ⊢
  have f1 := (Fr.refl w).alloc (.cells #[.int .i64 o, .int .i64 s, g, st] 40)
  have b1 := heap_alloc_new w (.cells #[.int .i64 o, .int .i64 s, g, st] 40)
  have hroom := room_walk (h.fr f1) h0 h1 hl
  obtain ⟨n, hn⟩ : ∃ n, es.length = n := ⟨_, rfl⟩
  rw [hn] at hroom hr hl
  go_enter Try.func10, Try.ntmps10
  go_wp2_with fail
  refine hroom.mono ?_
  rintro e w2 ⟨rfl, f2⟩
  have b2 := (f2.heap (by simp)).trans b1
  replace f2 := f1.trans f2
  have c0 : w2.cell? ⟨w.heap.size, 0, none⟩ = some (.int .i64 o) := cell_at b2 0
  have c1 : w2.cell? ⟨w.heap.size, 1, none⟩ = some (.int .i64 s) := cell_at b2 1
  have hhas := has_walk (h.fr f2) o s
  rw [hh] at hhas
  clear f1 b1
  go_wp2_with fail
  refine hhas.mono ?_
  rintro e w3 ⟨rfl, f3⟩
  have hN : w.heap.size < w2.heap.size := (Array.getElem?_eq_some_iff.1 b2).1
  have b3 := (f3.heap hN).trans b2
  replace f3 := f2.trans f3
  have h3 := h.fr f3
  have hx3 : EtOk w3 ⟨⟨o, s, gs, ss⟩, g, st⟩ := hx.fr f3
  clear c0 c1 hroom hhas b2
  have hnN : ¬ Of R mb v w.heap.size := by
    intro hc
    rcases hc with hc | hc | hc
    · have := h.ltR; omega
    · have := h.map.lt; omega
    · have := (h.row.lt _ hc).2; omega
  have c0 : ∀ j, j < 4 → ∀ w', But (Of R mb v) w3 w' → w'.cell? ⟨w.heap.size, j, none⟩ = #[Value.int .i64 o, .int .i64 s, g, st][j]? := fun j _ w' hw' => cell_at ((hw'.heap _ (Array.getElem?_eq_some_iff.1 b3).1 hnN).trans b3) j
  have cR : ∀ j, j < 3 → ∀ w', Fr w3 w' → w'.cell? ⟨R, j, none⟩ = #[Value.int .i64 most, v, .map (some mb)][j]? := fun j _ w' hw' => (h3.fr hw').at j
  have hcl : ∀ w', Fr w3 w' → Calls Try.prog 22 #[.agg #[.int .i64 o, .int .i64 s, g, st]] w' (fun e w'' => ∃ yg yst an ac bn bc, yg = .slice an gs.length ac ∧ yst = .slice bn ss.length bc ∧ e = .returned (.agg #[.int .i64 o, .int .i64 s, .slice an gs.length ac, .slice bn ss.length bc]) ∧ EtOk w'' ⟨⟨o, s, gs, ss⟩, yg, yst⟩ ∧ Et.from w'.heap.size ⟨⟨o, s, gs, ss⟩, yg, yst⟩ ∧ Et.below w''.heap.size ⟨⟨o, s, gs, ss⟩, yg, yst⟩ ∧ Fr w' w'') := fun w' hw' =>
    (clone_walk ⟨⟨o, s, gs, ss⟩, g, st⟩ (hx3.fr hw') g1 g2).mono fun e w'' ⟨y, h1, h2, h3, h4, h6, h5⟩ => by
      obtain ⟨yc, yg, yst⟩ := y
      obtain rfl : yc = ⟨o, s, gs, ss⟩ := h1
      have hg := h3.g
      have hst := h3.st
      dsimp only at hg hst
      obtain ⟨an, ac, e1, _, _⟩ := hg.form
      obtain ⟨bn, bc, e2, _, _⟩ := hst.form
      exact ⟨yg, yst, an, ac, bn, bc, e1, e2, by rw [h2, ← e1, ← e2]; rfl, h3, h4, h6, h5⟩
  obtain ⟨i0, z0, hi, hz0, hz1, hz2, hz3⟩ := parts info40
  have hBw : B ≤ w3.heap.size := by have := h3.R; have := h3.ltR; omega
  go_wp2_with fail
  have r0 : Fr w3 w3.drew := Fr.drew (Fr.refl w3)
  have e0 : w3.drew.cell? ⟨w.heap.size, 0, none⟩ = some (.int .i64 o) := c0 0 (by decide) _ (But.of_fr r0)
  have e1 : w3.drew.cell? ⟨w.heap.size, 1, none⟩ = some (.int .i64 s) := c0 1 (by decide) _ (But.of_fr r0)
  have e2 : w3.drew.cell? ⟨w.heap.size, 2, none⟩ = some g := c0 2 (by decide) _ (But.of_fr r0)
  have e3 : w3.drew.cell? ⟨w.heap.size, 3, none⟩ = some st := c0 3 (by decide) _ (But.of_fr r0)
  have e4 : w3.drew.cell? ⟨R, 1, none⟩ = some v := cR 1 (by decide) _ r0
  go_region_law (first | (go_simp; go_at_call 22; refine (hcl _ (by assumption)).mono ?_; rintro e wn ⟨yg, yst, an, ac, bn, bc, hyg, hyst, rfl, hyo, hyf, hyl, hf⟩; have hfn : Fr w3 wn := Fr.trans r0 hf; have hbn : But (Of R mb v) w3 wn := But.of_fr hfn; have kRn : wn.cell? ⟨R, 1, none⟩ = some v := cR 1 (by decide) wn hfn; have kRa : ∀ A, (wn.alloc A).cell? ⟨R, 1, none⟩ = some v := fun A => cR 1 (by decide) _ (hfn.alloc A)) | (refine step_append_lies _ rfl _ _ 22 rfl B 40 i0 z0 4 64 Try.underlying22 hi hz0 hz2 hz3 hz1 (by decide) v n (etL es) rfl (hn ▸ (h3.fr hfn).row.alloc _) ⟨wn.heap.size, 0, none⟩ 1 1 [.int .i64 o, .int .i64 s, .slice an gs.length ac, .slice bn ss.length bc] rfl rfl (cells_four_new _ _ _ _ _ _) (by simp [Value.oneCell']) (by omega) (by unfold maxLen; omega) (by omega) (by have := hfn.size; simp; omega) _ rfl ?_; intro g' cap' w6 hown hgrow hat hlt6; obtain ⟨hb6, hR6, kR6, fR6, hb7⟩ := add_arm h3 hfn hgrow))
  all_goals
    subst hyg hyst
    have hmid := add_mid h3 hfn hyo hyf hyl hn hown hgrow hat
    generalize w6.setCell ⟨R, 1, none⟩ (.slice (some ⟨g', 0, none⟩) (n + 1) cap') = W7 at *
    clear hown hgrow hat hb6 hR6 kR6 fR6 hb7 kRn kRa e0 e1 e2 e3 e4 hcl
    have hNk := (Array.getElem?_eq_some_iff.1 b3).1
    have hn7 : W7.heap[w.heap.size]? = _ := (hmid.but.heap _ hNk hnN).trans b3
    have hNl := (Array.getElem?_eq_some_iff.1 hn7).1
    have hNm : w.heap.size ≠ mb := fun e => hnN (.inr (.inl e))
    have hRm := h3.apart
    have hRl := (Array.getElem?_eq_some_iff.1 hmid.cells).1
    have d1 := (Fr.refl W7).drewN 1
    obtain ⟨X, ts, hE, hAt⟩ := mapEntry_run (hmid.map.kept (d1.heap hmid.map.lt)) o s
    obtain ⟨Y, hS, hM⟩ := entryStore_run hAt 1
    have u1 := But.put (W7.drewN 1) mb X
    have u2 := But.put (Put (W7.drewN 1) mb X) mb Y
    have ua : But (fun k => k = mb) W7 (Put (W7.drewN 1) mb X) := (But.of_fr d1).trans u1
    have hl1 := lookupF (hmid.map.kept (d1.heap hmid.map.lt)) o s
    have hl2 : (Instr.lookup 28 (.map (some mb)) (idV o s) false).run Try.prog (Put (W7.drewN 1) mb X) = .ok (.int .i64 (inOf (es.map Et.c) o s)) (Put (W7.drewN 1) mb X) := by
      obtain ⟨l, clock, _, _, q1, q2, _⟩ := hAt
      exact lookupF ⟨l, clock, q1, q2⟩ o s
    rw [inOf_no hh] at hl1 hl2 hE
    have hS2 : (Instr.entryStore 28 (.map (some mb)) (.int .i64 ts) (.int .i64 (IntKind.i64.wrap 1))).run Try.prog (Put (W7.drewN 1) mb X) = .ok () (Put (Put (W7.drewN 1) mb X) mb Y) := hS
    have hS3 : (Instr.entryStore 28 (.map (some mb)) (.int .i64 ts) (.int .i64 1)).run Try.prog (Put (W7.drewN 1) mb X) = .ok () (Put (Put (W7.drewN 1) mb X) mb Y) := hS
    unfold idV at hl1 hl2 hE
    have a1 : (W7.drewN 1).cell? ⟨R, 2, none⟩ = some (.map (some mb)) := cell_at ((d1.heap hRl).trans hmid.cells) 2
    have a2 : (W7.drewN 1).cell? ⟨w.heap.size, 0, none⟩ = some (.int .i64 o) := cell_at ((d1.heap hNl).trans hn7) 0
    have a3 : (W7.drewN 1).cell? ⟨w.heap.size, 1, none⟩ = some (.int .i64 s) := cell_at ((d1.heap hNl).trans hn7) 1
    have a4 : (Put (W7.drewN 1) mb X).cell? ⟨R, 2, none⟩ = some (.map (some mb)) := cell_at ((ua.heap R hRl hRm).trans hmid.cells) 2
    have a5 : (Put (W7.drewN 1) mb X).cell? ⟨w.heap.size, 0, none⟩ = some (.int .i64 o) := cell_at ((ua.heap _ hNl hNm).trans hn7) 0
    have a6 : (Put (W7.drewN 1) mb X).cell? ⟨w.heap.size, 1, none⟩ = some (.int .i64 s) := cell_at ((ua.heap _ hNl hNm).trans hn7) 1
    have hdone := hmid.done h3.R h3.mb (ua.trans u2) hM
    have hown := hmid.own
    have f37 := f3.size
    clear hM hAt hmid hn7 ua u1 u2 h h3 hx hx3 hyo hyl
    replace d1 : W7.drew = W7.drewN 1 := rfl
    go_wp2_with fail
    go_region_law (fail)
    all_goals
      go_wp2
      go_ret
      exact ⟨rfl, _, ⟨⟨o, s, gs, ss⟩, .slice an gs.length ac, .slice bn ss.length bc⟩, rfl, ⟨fun k hk => Nat.le_trans f37 (hyf.1 k hk), fun k hk => Nat.le_trans f37 (hyf.2 k hk)⟩, hdone.1, hown.imp id (fun ⟨k, hk, hl⟩ => ⟨k, hk, Nat.le_trans f37 hl⟩), (But.of_fr f3).trans hdone.2⟩
end Go.Proofs.Ytncbgcfjjlhgpaa
