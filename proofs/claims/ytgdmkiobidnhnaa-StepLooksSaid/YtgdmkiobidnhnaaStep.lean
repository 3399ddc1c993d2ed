/-
  An operation's answers: Right, Keys, Writes; the law's few, has and awake. Conditions: the parts lie where the slices say, at most a thousand of each.
-/
import Derived.Test.YtgdmkiobidnhnaaOks
namespace Go.Proofs.Ytgdmkiobidnhnaa
open Go.RowKit

/-- An operation's parts lie where its slices say. -/
structure Lie (w : World) (ga : Option Addr) (gn gc : Nat) (sa : Option Addr) (sn sc : Nat) (gs : List Gd) (ss : List Sp) : Prop where
  g : Sl w (.slice ga gn gc) gn 3 (gdL gs)
  gl : gs.length = gn
  s : Sl w (.slice sa sn sc) sn 5 (spL ss)
  sl : ss.length = sn
def okOp (gs : List Gd) (ss : List Sp) : Bool := decide (gs.length ≤ 4) && decide (1 ≤ ss.length) && decide (ss.length ≤ 4) && gs.all okGd && ss.all okSp
section
variable {w w' : World} {ga sa : Option Addr} {gn gc sn sc : Nat} {gs : List Gd} {ss : List Sp}
theorem Lie.fr (h : Lie w ga gn gc sa sn sc gs ss) (hf : Fr w w') : Lie w' ga gn gc sa sn sc gs ss := ⟨h.g.fr hf, h.gl, h.s.fr hf, h.sl⟩
set_option maxRecDepth 20000 in
set_option maxHeartbeats 1000000 in
theorem ok_walk (h : Lie w ga gn gc sa sn sc gs ss) (hgn : gn ≤ 1000) (hsn : sn ≤ 1000) : Calls Try.prog 34 #[.agg #[.slice ga gn gc, .slice sa sn sc]] w fun e w' => e = .returned (.bool (okOp gs ss)) ∧ Fr w w' := by
  have f1 := (Fr.refl w).alloc (.cells #[.slice ga gn gc, .slice sa sn sc] 52)
  have hl := h.fr f1
  have hg := gcont_walk gs hl.g hl.gl hgn
  obtain ⟨r, hr⟩ : ∃ r, okOp gs ss = r := ⟨_, rfl⟩
  rw [hr]
  unfold okOp at hr
  rw [h.gl, h.sl] at hr
  have HL := Go.Lib.hid hl
  clear hl h
  by_cases h1 : 4 < gn
  · have hr2 : r = false := by rw [← hr, decide_eq_false (by omega : ¬ gn ≤ 4)]; rfl
    subst hr2
    clear hr hg
    go_enter Try.func34, Try.ntmps34
    go_wp2_with fail
    go_ret
    exact ⟨rfl, f1⟩
  · by_cases h2 : sn < 1
    · have hr2 : r = false := by rw [← hr, decide_eq_false (by omega : ¬ 1 ≤ sn)]; simp
      subst hr2
      clear hr hg
      go_enter Try.func34, Try.ntmps34
      go_wp2_with fail
      go_ret
      exact ⟨rfl, f1⟩
    · by_cases h3 : 4 < sn
      · have hr2 : r = false := by rw [← hr, decide_eq_false (by omega : ¬ sn ≤ 4)]; simp
        subst hr2
        clear hr hg
        go_enter Try.func34, Try.ntmps34
        go_wp2_with fail
        go_ret
        exact ⟨rfl, f1⟩
      · have hr2 : r = (gs.all okGd && ss.all okSp) := by rw [← hr, decide_eq_true (by omega : gn ≤ 4), decide_eq_true (by omega : 1 ≤ sn), decide_eq_true (by omega : sn ≤ 4)]; simp
        have HR := Go.Lib.hid hr2
        clear hr hr2
        obtain ⟨rg, hrg⟩ : ∃ rg, gs.all okGd = rg := ⟨_, rfl⟩
        obtain ⟨rs, hrs⟩ : ∃ rs, ss.all okSp = rs := ⟨_, rfl⟩
        rw [hrg] at hg
        have HQ := Go.Lib.hid (And.intro hrg hrs)
        clear hrg hrs
        have cb := heap_alloc_new w (.cells #[.slice ga gn gc, .slice sa sn sc] 52)
        go_enter Try.func34, Try.ntmps34
        go_wp2_with fail
        refine hg.mono ?_
        rintro e w2 ⟨rfl, f2⟩
        have hs := scont_walk ss (HL.out.fr f2).s HL.out.sl hsn
        rw [HQ.out.2] at hs
        have f3 := f1.trans f2
        have c1 : w2.cell? ⟨w.heap.size, 1, none⟩ = some (.slice sa sn sc) := cell_at ((f2.heap (by simp)).trans cb) 1
        have hfin : r = (rg && rs) := by rw [HR.out, HQ.out.1, HQ.out.2]
        have HF := Go.Lib.hid hfin
        clear hg f1 f2 cb hfin
        go_wp2_with fail
        refine hs.mono ?_
        rintro e w4 ⟨rfl, f4⟩
        replace f3 := f3.trans f4
        clear c1 hs f4
        cases rg <;> cases rs <;> (go_wp2_with fail; go_ret; exact ⟨by rw [HF.out]; rfl, f3⟩)
theorem keys8_walk (h : Lie w ga gn gc sa sn sc gs ss) (hgn : gn ≤ 1000) (hsn : sn ≤ 1000) : Calls Try.prog 29 #[.agg #[.slice ga gn gc, .slice sa sn sc]] w (TextsPost (keysOf (gs.map Gd.key ++ ss.map Sp.key)) w) := by
  have f1 := (Fr.refl w).alloc (.cells #[.slice ga gn gc, .slice sa sn sc] 52)
  have hl := h.fr f1
  have hk := keys_walk gs hl.g hl.gl hgn ss hl.s hl.sl hsn
  generalize keysOf (gs.map Gd.key ++ ss.map Sp.key) = l at *
  clear h hl
  go_enter Try.func29, Try.ntmps29
  go_wp2_with fail
  refine hk.mono ?_
  rintro e w2 ⟨a, c, rfl, hr, f2⟩
  have hrr := owns_mono hr f1.size
  have f3 := f1.trans f2
  obtain ⟨n, hn⟩ : ∃ n, l.length = n := ⟨_, rfl⟩
  rw [hn] at hrr ⊢
  have HN := Go.Lib.hid hn
  clear hk f1 f2 hr hn
  go_wp2_with fail
  go_ret
  exact ⟨a, c, by rw [HN.out]; rfl, by rw [HN.out]; exact hrr, f3⟩
theorem writes8_walk (h : Lie w ga gn gc sa sn sc gs ss) (hsn : sn ≤ 1000) : Calls Try.prog 30 #[.agg #[.slice ga gn gc, .slice sa sn sc]] w (TextsPost (keysOf (ss.map Sp.key)) w) := by
  have f1 := (Fr.refl w).alloc (.cells #[.slice ga gn gc, .slice sa sn sc] 52)
  have hl := h.fr f1
  have hk := keys_walk (ga := none) (gn := 0) (gc := 0) [] ⟨none, 0, rfl, rfl, Nat.le_refl _, .inl rfl⟩ rfl (by omega) ss hl.s hl.sl hsn
  rw [List.map_nil, List.nil_append] at hk
  generalize keysOf (ss.map Sp.key) = l at *
  clear h hl
  go_enter Try.func30, Try.ntmps30
  go_wp2_with fail
  refine hk.mono ?_
  rintro e w2 ⟨a, c, rfl, hr, f2⟩
  have hrr := owns_mono hr f1.size
  have f3 := f1.trans f2
  obtain ⟨n, hn⟩ : ∃ n, l.length = n := ⟨_, rfl⟩
  rw [hn] at hrr ⊢
  have HN := Go.Lib.hid hn
  clear hk f1 f2 hr hn
  go_wp2_with fail
  go_ret
  exact ⟨a, c, by rw [HN.out]; rfl, by rw [HN.out]; exact hrr, f3⟩
theorem few_yes (w : World) (hgn : gn ≤ 30) (hsn : sn ≤ 30) : Calls Try.prog 27 #[.agg #[.slice ga gn gc, .slice sa sn sc]] w fun e w' => e = .returned (.bool true) ∧ Fr w w' := by
  have f1 := (Fr.refl w).alloc (.cells #[.slice ga gn gc, .slice sa sn sc] 52)
  go_enter Try.func27, Try.ntmps27
  go_wp2_with fail
  go_ret
  refine ⟨?_, f1⟩; simp; omega
theorem few_no (w : World) (h : ¬ (gn ≤ 30 ∧ sn ≤ 30)) : Calls Try.prog 27 #[.agg #[.slice ga gn gc, .slice sa sn sc]] w fun e w' => e = .returned (.bool false) ∧ Fr w w' := by
  have f1 := (Fr.refl w).alloc (.cells #[.slice ga gn gc, .slice sa sn sc] 52)
  by_cases hgn : gn ≤ 30
  · have hsn : 30 < sn := by omega
    clear h
    go_enter Try.func27, Try.ntmps27
    go_wp2_with fail
    go_ret
    refine ⟨?_, f1⟩; simp; omega
  · clear h
    go_enter Try.func27, Try.ntmps27
    go_wp2_with fail
    go_ret
    exact ⟨rfl, f1⟩
end
theorem str_cell {w : World} {a : Option Addr} {n c : Nat} {l : List ByteArray} (h : Sl w (.slice a n c) n 1 (strV l)) {i : Nat} {x : ByteArray} (hi : l[i]? = some x) (hl : l.length = n) :
    ∃ b o, a = some ⟨b, o, none⟩ ∧ n ≤ c ∧ ∀ w', Fr w w' → w'.cell? ⟨b, o + i, none⟩ = some (.string x) := by
  have hlt := (List.getElem?_eq_some_iff.1 hi).1
  obtain ⟨b, o, h1, hb, h2, h3⟩ := h.get (by omega)
  exact ⟨b, o, h1, h2, fun w' hw' => hw'.cell' (h3 i _ (by unfold strV; rw [List.getElem?_map, hi]; rfl))⟩
theorem has_walk {a : Option Addr} {n c : Nat} {w : World} (l : List ByteArray) (h : Sl w (.slice a n c) n 1 (strV l)) (hl : l.length = n) (hn : n ≤ 1000000) (k : ByteArray) (hk : k ∈ l) :
    Calls Try.prog 31 #[.slice a n c, .string k] w fun e w' => e = .returned (.bool true) ∧ Fr w w' := by
  have HO := Go.Lib.hid (And.intro h (And.intro hl hk))
  clear h hl hk
  go_enter Try.func31, Try.ntmps31
  go_wp2_with fail
  go_loopw [5] (fun i wk => ∃ j : Nat, j ≤ n ∧ i = .int .i64 j ∧ (∀ x ∈ l.take j, x ≠ k) ∧ Fr w wk) (fun i _ => n - (intOf i).toNat)
  case atStart => exact ⟨0, Nat.zero_le _, rfl, (by intro x hx; simp at hx), Fr.refl _⟩
  case round =>
    obtain ⟨j, hj, rfl, hno, hf⟩ := hrel
    by_cases hlt : j < n
    · obtain ⟨x, hx⟩ : ∃ x, l[j]? = some x := ⟨_, List.getElem?_eq_getElem (by have := HO.out.2.1; omega)⟩
      obtain ⟨b, o, rfl, hnc, hcs⟩ := str_cell HO.out.1 hx HO.out.2.1
      have c0 := hcs wr hf
      by_cases he : x = k
      · have hq : (x.toList == k.toList) = true := by rw [he]; exact eqb_true k
        clear hno hcs hx he
        go_wp2_with fail
        go_ret
        exact ⟨rfl, hf⟩
      · have hq : (x.toList == k.toList) = false := eqb_false he
        have hst : ∀ y ∈ l.take (j + 1), y ≠ k := by
          intro y hy
          rw [List.take_add_one, hx] at hy
          rcases List.mem_append.1 hy with hy | hy
          · exact hno y hy
          · have : y = x := by simpa using hy
            rw [this]; exact he
        have HH := Go.Lib.hid hst
        clear hcs hx hno he hst
        go_wp2_with fail
        go_roundw
        case rel => exact ⟨j + 1, by omega, by go_num, HH.out, hf⟩
        case measure => simp [intOf]; omega
    · rw [List.take_of_length_le (by have := HO.out.2.1; omega)] at hno
      exact absurd rfl (hno k HO.out.2.2)
theorem one_sp (w : World) (s : Sp) : Sl (w.alloc (.cells #[.int .i64 s.k, .string s.key, .string s.val, .string s.old, .int .i64 s.n] 58)) (.slice (some ⟨w.heap.size, 0, none⟩) 1 1) 1 5 (spL [s]) :=
  ⟨_, 1, rfl, rfl, Nat.le_refl _, .inr ⟨w.heap.size, 0, rfl, by simp, fun j u hu => by
    rw [Nat.zero_add, cell_at (heap_alloc_new w _)]; simpa [spL, spV] using hu⟩⟩
theorem one_lie (w : World) (s : Sp) : Lie (w.alloc (.cells #[.int .i64 s.k, .string s.key, .string s.val, .string s.old, .int .i64 s.n] 58)) none 0 0 (some ⟨w.heap.size, 0, none⟩) 1 1 [] [s] :=
  ⟨⟨none, 0, rfl, rfl, Nat.le_refl _, .inl rfl⟩, rfl, one_sp w s, rfl⟩
theorem none_lie (w : World) : Lie w none 0 0 none 0 0 [] [] := ⟨⟨none, 0, rfl, rfl, Nat.le_refl _, .inl rfl⟩, rfl, ⟨none, 0, rfl, rfl, Nat.le_refl _, .inl rfl⟩, rfl⟩
theorem ex_sp1 : okSp ⟨3, ⟨#[110]⟩, ⟨#[]⟩, ⟨#[]⟩, 5⟩ = true := by simp [okSp, nul, ByteArray.size]
theorem ex_sp2 : okSp ⟨3, ⟨#[110]⟩, ⟨#[53]⟩, ⟨#[]⟩, 0⟩ = false := by simp [okSp, nul, ByteArray.size]
theorem ex_gd : okGd ⟨1, ⟨#[]⟩, ⟨#[]⟩⟩ = true := by simp [okGd, nul, ByteArray.size]
theorem ex_op1 : okOp [] [⟨3, ⟨#[110]⟩, ⟨#[]⟩, ⟨#[]⟩, 5⟩] = true := by simp [okOp, ex_sp1]
theorem ex_op2 : okOp [] [] = false := rfl
set_option maxRecDepth 20000 in
set_option maxHeartbeats 4000000 in
theorem awake8_walk (w : World) : Calls Try.prog 28 #[] w fun e w' => e = .returned (.bool true) ∧ Below w.heap.size w w' := by
  have f1 := (Fr.refl w).alloc (.cells #[.int .i64 3, .string ⟨#[110]⟩, .string ⟨#[]⟩, .string ⟨#[]⟩, .int .i64 5] 58)
  have b1 := heap_alloc_new w (.cells #[.int .i64 3, .string ⟨#[110]⟩, .string ⟨#[]⟩, .string ⟨#[]⟩, .int .i64 5] 58)
  have hlt : w.heap.size < (w.alloc (.cells #[.int .i64 3, .string ⟨#[110]⟩, .string ⟨#[]⟩, .string ⟨#[]⟩, .int .i64 5] 58)).heap.size := by simp
  go_enter Try.func28, Try.ntmps28
  go_wp2_with fail
  have hw1 := sp_walk ⟨3, ⟨#[110]⟩, ⟨#[]⟩, ⟨#[]⟩, 5⟩ (w.alloc (.cells #[.int .i64 3, .string ⟨#[110]⟩, .string ⟨#[]⟩, .string ⟨#[]⟩, .int .i64 5] 58))
  rw [ex_sp1] at hw1
  refine hw1.mono ?_
  clear hw1
  rintro e w2 ⟨rfl, f2⟩
  have b2 := (f2.heap hlt).trans b1
  have f3 := f1.trans f2
  have hlt2 := Nat.lt_of_lt_of_le hlt f2.size
  clear b1 f1 f2 hlt
  go_wp2_with fail
  have hw1 := sp_walk ⟨3, ⟨#[110]⟩, ⟨#[53]⟩, ⟨#[]⟩, 0⟩ w2
  rw [ex_sp2] at hw1
  refine hw1.mono ?_
  clear hw1
  rintro e w4 ⟨rfl, f4⟩
  replace b2 := (f4.heap hlt2).trans b2
  replace f3 := f3.trans f4
  replace hlt2 := Nat.lt_of_lt_of_le hlt2 f4.size
  have c0 : w4.cell? ⟨w.heap.size, 0, none⟩ = some (.int .i64 3) := cell_at b2 0
  have c1 : w4.cell? ⟨w.heap.size, 1, none⟩ = some (.string ⟨#[110]⟩) := cell_at b2 1
  have c2 : w4.cell? ⟨w.heap.size, 2, none⟩ = some (.string ⟨#[]⟩) := cell_at b2 2
  have c3 : w4.cell? ⟨w.heap.size, 3, none⟩ = some (.string ⟨#[]⟩) := cell_at b2 3
  have c4 : w4.cell? ⟨w.heap.size, 4, none⟩ = some (.int .i64 5) := cell_at b2 4
  clear f4
  go_wp2_with fail
  have f5 := (Fr.refl w4).alloc (.cells #[.int .i64 3, .string ⟨#[110]⟩, .string ⟨#[]⟩, .string ⟨#[]⟩, .int .i64 5] 58)
  have hw1 := ok_walk (one_lie w4 ⟨3, ⟨#[110]⟩, ⟨#[]⟩, ⟨#[]⟩, 5⟩) (by decide) (by decide)
  rw [ex_op1] at hw1
  refine hw1.mono ?_
  clear hw1
  rintro e w6 ⟨rfl, f6⟩
  replace f5 := f5.trans f6
  replace b2 := (f5.heap hlt2).trans b2
  replace f3 := f3.trans f5
  replace hlt2 := Nat.lt_of_lt_of_le hlt2 f5.size
  clear f5 f6 c0 c1 c2 c3 c4
  go_wp2_with fail
  have hw1 := ok_walk (none_lie w6) (by decide) (by decide)
  rw [ex_op2] at hw1
  refine hw1.mono ?_
  clear hw1
  rintro e w7 ⟨rfl, f7⟩
  replace b2 := (f7.heap hlt2).trans b2
  replace f3 := f3.trans f7
  replace hlt2 := Nat.lt_of_lt_of_le hlt2 f7.size
  clear f7
  go_wp2_with fail
  have hw1 := gd_walk ⟨1, ⟨#[]⟩, ⟨#[]⟩⟩ w7
  rw [ex_gd] at hw1
  refine hw1.mono ?_
  clear hw1
  rintro e w8 ⟨rfl, f8⟩
  replace b2 := (f8.heap hlt2).trans b2
  replace f3 := f3.trans f8
  replace hlt2 := Nat.lt_of_lt_of_le hlt2 f8.size
  clear f8
  have c0 : w8.cell? ⟨w.heap.size, 0, none⟩ = some (.int .i64 3) := cell_at b2 0
  have c1 : w8.cell? ⟨w.heap.size, 1, none⟩ = some (.string ⟨#[110]⟩) := cell_at b2 1
  have c2 : w8.cell? ⟨w.heap.size, 2, none⟩ = some (.string ⟨#[]⟩) := cell_at b2 2
  have c3 : w8.cell? ⟨w.heap.size, 3, none⟩ = some (.string ⟨#[]⟩) := cell_at b2 3
  have c4 : w8.cell? ⟨w.heap.size, 4, none⟩ = some (.int .i64 5) := cell_at b2 4
  go_wp2_with fail
  have f9 := (Fr.refl w8).alloc (.cells #[.int .i64 3, .string ⟨#[110]⟩, .string ⟨#[]⟩, .string ⟨#[]⟩, .int .i64 5] 58)
  refine (keys8_walk (one_lie w8 ⟨3, ⟨#[110]⟩, ⟨#[]⟩, ⟨#[]⟩, 5⟩) (by decide) (by decide)).mono ?_
  rintro e w10 ⟨a, c, rfl, _, f10⟩
  have hlen : (keysOf (([] : List Gd).map Gd.key ++ ([⟨3, ⟨#[110]⟩, ⟨#[]⟩, ⟨#[]⟩, 5⟩] : List Sp).map Sp.key)).length = 1 := rfl
  rw [hlen]
  replace f3 := f3.trans (f9.trans f10)
  clear f9 f10 c0 c1 c2 c3 c4 b2 hlen
  go_wp2_with fail
  go_ret
  exact ⟨rfl, f3⟩
end Go.Proofs.Ytgdmkiobidnhnaa
