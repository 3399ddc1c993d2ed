/-
  The document's answers on operations: Insert, Writes, Keys, Texts. Conditions: the parts lie where the slices say, at most a thousand of each; Texts: both rows are the same.
-/
import Derived.Test.YtgdmkiobidnhnaaStep
import Derived.Test.YtgdmkiobidnhnaaQ
import Derived.Test.YtgdmkiobidnhnaaTwo
namespace Go.Proofs.Ytgdmkiobidnhnaa
open Go.RowKit

theorem key_cell {α : Type} {w : World} {a : Option Addr} {n c : Nat} {m : List (ByteArray × α)} (h : Sl w (.slice a n c) n 1 (keysV m)) {i : Nat} {x : ByteArray × α} (hi : m[i]? = some x) (hl : m.length = n) :
    ∃ b o, a = some ⟨b, o, none⟩ ∧ n ≤ c ∧ ∀ w', Fr w w' → w'.cell? ⟨b, o + i, none⟩ = some (.string x.1) := by
  have hlt := (List.getElem?_eq_some_iff.1 hi).1
  obtain ⟨b, o, h1, hb, h2, h3⟩ := h.get (by omega)
  exact ⟨b, o, h1, h2, fun w' hw' => hw'.cell' (h3 i _ (by unfold keysV; rw [List.getElem?_map, hi]; rfl))⟩
theorem grown_fr1 {w w1 w' : World} {A : Obj} {n : Nat} {v : Value} {xs : List Value} (hf : Fr w w1) (hrow : w1.ownsRow w.heap.size 9 1 v n xs) (hg : (w1.alloc A).grownBy w' v.ownBlock) : Fr w w' :=
  ((But.of_fr (F := fun _ => False) (hf.alloc A)).mix (But.of_grown hg) (H := fun k => v.ownBlock = some k) (fun _ _ h => h.elim) (fun _ _ h => h)).fr (fun k hk hc => by have := (hrow.lt k hc).1; omega)
def KeysPost (l : Ps) (W : World) (e : Ending) (w' : World) : Prop := ∃ a c, e = .returned (.slice a l.length c) ∧ w'.ownsRow W.heap.size 9 1 (.slice a l.length c) l.length (keysV l) ∧ Fr W w'
set_option maxHeartbeats 2000000 in
theorem rins_walk {a : Option Addr} {n c : Nat} {w : World} (m : Ps) (hu : Up m) (h : Sl w (.slice a n c) n 1 (keysV m)) (hl : m.length = n) (hn : n ≤ 100000) (k : ByteArray) :
    Calls Try.prog 65 #[.slice a n c, .string k] w (KeysPost (put m k ⟨#[]⟩) w) := by
  obtain ⟨i0, z0, hi0, hz0, hz1, hz2, hz3⟩ := parts info9s
  have hnil := own_empty w 9 1
  have f1 := (Fr.refl w).alloc (.cells #[] 9)
  go_enter Try.func65, Try.ntmps65
  go_wp2_with fail
  go_loopw [5, 6, 7] (fun vo bo i wk => ∃ (j : Nat) (o : Ps) (d : Bool), j ≤ n ∧ i = .int .i64 j ∧ bo = .bool d ∧ runP k ⟨#[]⟩ (m.take j) = (o, d) ∧ wk.ownsRow w.heap.size 9 1 vo o.length (keysV o) ∧ Fr w wk) (fun _ _ i _ => n - (intOf i).toNat)
  case atStart => exact ⟨0, [], false, Nat.zero_le _, rfl, rfl, rfl, hnil, f1⟩
  case round =>
    clear hnil f1
    obtain ⟨j, o, d, hj, rfl, rfl, hrun, hrow, hf⟩ := hrel
    have hsz := hf.size
    have hol : o.length ≤ 2 * j := by have := runP_len k ⟨#[]⟩ m j; rw [hrun] at this; exact this
    obtain ⟨p, hp⟩ : ∃ p, o.length = p := ⟨_, rfl⟩
    by_cases hlt : j < n
    · obtain ⟨x, hx⟩ : ∃ x, m[j]? = some x := ⟨_, List.getElem?_eq_getElem (by omega)⟩
      obtain ⟨b, oo, rfl, hnc, hcs⟩ := key_cell h hx hl
      have hst := runP_step k ⟨#[]⟩ hx
      rw [hrun] at hst
      obtain ⟨x1, x2⟩ := x
      dsimp only at hcs
      have hcs2 := hcs
      have c0 := hcs wr hf
      rw [hp] at hrow hol
      obtain ⟨l1, hl1⟩ : ∃ l1, lt x1 k = l1 := ⟨_, rfl⟩
      have hl2 : Op.bytesLess x1.toList k.toList = l1 := hl1
      cases d with
      | true =>
        by_cases he : x1 = k
        · have hq : (x1.toList == k.toList) = true := by rw [he]; exact eqb_true k
          have hs2 : stepP k ⟨#[]⟩ (o, true) (x1, x2) = (o, true) := by unfold stepP; simp [he]
          have HH := Go.Lib.hid (And.intro (hst.trans hs2) hp)
          clear hcs hcs2 h hx hl he hst hs2 hp hrun hl1 hl2
          go_wp2_with fail
          go_roundw
          case rel => exact ⟨j + 1, o, true, by omega, by go_num, rfl, HH.out.1, by rw [HH.out.2]; exact hrow, hf⟩
          case measure => simp [intOf]; omega
        · have hq : (x1.toList == k.toList) = false := eqb_false he
          have hs2 : stepP k ⟨#[]⟩ (o, true) (x1, x2) = (o ++ [(x1, x2)], true) := by unfold stepP; simp [he]
          have HH := Go.Lib.hid (And.intro (hst.trans hs2) hp)
          clear hcs hcs2 h hx hl he hst hs2 hp hrun hl1 hl2
          go_wp2_with (at_builtin; go_must (refine wpList_append_lies _ rfl _ _ 26 rfl w.heap.size 9 i0 z0 1 16 Try.underlying26 hi0 hz0 hz2 hz3 hz1 (by decide) u5 p (keysV o) rfl (hrow.alloc _) ⟨wr.heap.size, 0, none⟩ 1 1 [.string x1] rfl rfl (cells_own_new _ _ _) (by simp [Value.oneCell']) (by omega) (by unfold maxLen; omega) (by omega) (by simp; omega) _ rfl ?_); intro g' cap' w6 hown hgrow hat hlt6)
          refine ⟨⟨j + 1, _, true, by omega, by go_num, rfl, HH.out.1, ?_, grown_fr1 hf hrow hgrow⟩, by simp [intOf]; omega⟩
          rw [List.length_append, HH.out.2, keysV_push]; exact hown
      | false =>
        cases l1 with
        | true =>
          have he : x1 ≠ k := fun e => by rw [e, lt_irrefl] at hl1; cases hl1
          have hq : (x1.toList == k.toList) = false := eqb_false he
          have hs2 : stepP k ⟨#[]⟩ (o, false) (x1, x2) = (o ++ [(x1, x2)], false) := by unfold stepP; simp [he, hl1]
          have HH := Go.Lib.hid (And.intro (hst.trans hs2) hp)
          clear hcs hcs2 h hx hl he hst hs2 hp hrun hl1
          go_wp2_with (at_builtin; go_must (refine wpList_append_lies _ rfl _ _ 26 rfl w.heap.size 9 i0 z0 1 16 Try.underlying26 hi0 hz0 hz2 hz3 hz1 (by decide) u5 p (keysV o) rfl (hrow.alloc _) ⟨wr.heap.size, 0, none⟩ 1 1 [.string x1] rfl rfl (cells_own_new _ _ _) (by simp [Value.oneCell']) (by omega) (by unfold maxLen; omega) (by omega) (by simp; omega) _ rfl ?_); intro g' cap' w6 hown hgrow hat hlt6)
          refine ⟨⟨j + 1, _, false, by omega, by go_num, rfl, HH.out.1, ?_, grown_fr1 hf hrow hgrow⟩, by simp [intOf]; omega⟩
          rw [List.length_append, HH.out.2, keysV_push]; exact hown
        | false =>
          by_cases he : x1 = k
          · have hq : (x1.toList == k.toList) = true := by rw [he]; exact eqb_true k
            have hs2 : stepP k ⟨#[]⟩ (o, false) (x1, x2) = (o ++ [(k, ⟨#[]⟩)], true) := by unfold stepP; simp [he, lt_irrefl]
            have HH := Go.Lib.hid (And.intro (hst.trans hs2) hp)
            have H2 := Go.Lib.hid hcs2
            clear hcs hcs2 h hx hl he hst hs2 hp hrun hl1
            go_wp2_with (at_builtin; go_must (refine wpList_append_lies _ rfl _ _ 26 rfl w.heap.size 9 i0 z0 1 16 Try.underlying26 hi0 hz0 hz2 hz3 hz1 (by decide) u5 p (keysV o) rfl (hrow.alloc _) ⟨wr.heap.size, 0, none⟩ 1 1 [.string k] rfl rfl (cells_own_new _ _ _) (by simp [Value.oneCell']) (by omega) (by unfold maxLen; omega) (by omega) (by simp; omega) _ rfl ?_); intro g' cap' w6 hown hgrow hat hlt6; have hf6 := grown_fr1 hf hrow hgrow; have e0 := H2.out w6 hf6)
            go_roundw
            case rel => exact ⟨j + 1, _, true, by omega, by go_num, rfl, HH.out.1, by rw [List.length_append, HH.out.2, keysV_push]; exact hown, hf6⟩
            case measure => simp [intOf]; omega
          · have hq : (x1.toList == k.toList) = false := eqb_false he
            have hs2 : stepP k ⟨#[]⟩ (o, false) (x1, x2) = (o ++ [(k, ⟨#[]⟩)] ++ [(x1, x2)], true) := by unfold stepP; simp [he, hl1]
            have HH := Go.Lib.hid (And.intro (hst.trans hs2) hp)
            have H2 := Go.Lib.hid hcs2
            clear hcs hcs2 h hx hl he hst hs2 hp hrun hl1
            go_wp2_with (first | (at_builtin; refine wpList_append_lies _ rfl _ _ 26 rfl w.heap.size 9 i0 z0 1 16 Try.underlying26 hi0 hz0 hz2 hz3 hz1 (by decide) u5 p (keysV o) rfl (hrow.alloc _) ⟨wr.heap.size, 0, none⟩ 1 1 [.string k] rfl rfl (cells_own_new _ _ _) (by simp [Value.oneCell']) (by omega) (by unfold maxLen; omega) (by omega) (by simp; omega) _ rfl ?_; intro g' cap' w6 hown hgrow hat hlt6; have hf6 := grown_fr1 hf hrow hgrow; have hs6 := hf6.size; have e0 := H2.out w6 hf6) | (at_builtin; refine wpList_append_lies _ rfl _ _ 26 rfl w.heap.size 9 i0 z0 1 16 Try.underlying26 hi0 hz0 hz2 hz3 hz1 (by decide) (.slice (some ⟨g', 0, none⟩) (p + 1) cap') (p + 1) (keysV o ++ [.string k]) rfl (hown.alloc _) ⟨w6.heap.size, 0, none⟩ 1 1 [.string x1] rfl rfl (cells_own_new _ _ _) (by simp [Value.oneCell']) (by omega) (by unfold maxLen; omega) (by omega) (by simp; omega) _ rfl ?_; intro g2 cap2 w7 hown2 hgrow2 hat2 hlt7))
            refine ⟨⟨j + 1, _, true, by omega, by go_num, rfl, HH.out.1, ?_, grown_fr1 hf6 hown hgrow2⟩, by simp [intOf]; omega⟩
            rw [List.length_append, List.length_append, HH.out.2, keysV_push, keysV_push]; exact hown2
    · obtain rfl : n = j := by omega
      have ht : m.take n = m := List.take_of_length_le (by omega)
      rw [ht] at hrun
      have hput := foldP_put k ⟨#[]⟩ m [] hu
      have hrun2 : m.foldl (stepP k ⟨#[]⟩) ([], false) = (o, d) := hrun
      rw [hrun2] at hput
      dsimp only at hput
      rw [List.nil_append] at hput
      rw [hp] at hrow hol
      obtain ⟨a', c', rfl⟩ := own_form hrow
      cases d with
      | true =>
        rw [if_pos rfl] at hput
        have HH := Go.Lib.hid (And.intro hput hp)
        clear h hl ht hp hput hrun hrun2
        go_wp2_with fail
        go_ret
        obtain ⟨h1, h2⟩ := HH.out
        rw [← h1]
        exact ⟨a', c', by rw [h2]; rfl, by rw [h2]; exact hrow, hf⟩
      | false =>
        rw [if_neg (by decide)] at hput
        have HH := Go.Lib.hid (And.intro hput hp)
        clear h hl ht hp hput hrun hrun2
        go_wp2_with (at_builtin; go_must (refine wpList_append_lies _ rfl _ _ 26 rfl w.heap.size 9 i0 z0 1 16 Try.underlying26 hi0 hz0 hz2 hz3 hz1 (by decide) (.slice a' p c') p (keysV o) rfl (hrow.alloc _) ⟨wr.heap.size, 0, none⟩ 1 1 [.string k] rfl rfl (cells_own_new _ _ _) (by simp [Value.oneCell']) (by omega) (by unfold maxLen; omega) (by omega) (by simp; omega) _ rfl ?_); intro g' cap' w6 hown hgrow hat hlt6)
        go_ret
        obtain ⟨h1, h2⟩ := HH.out
        rw [← h1]
        refine ⟨some ⟨g', 0, none⟩, cap', ?_, ?_, grown_fr1 hf hrow hgrow⟩
        · rw [List.length_append, h2]; rfl
        · rw [List.length_append, h2, keysV_push]; exact hown
/-- Rising keys, put in one behind another. -/
def insAll (m : Ps) (ks : List ByteArray) : Ps := ks.foldl (fun m k => put m k ⟨#[]⟩) m
theorem insAll_push (m : Ps) (ks : List ByteArray) (k : ByteArray) : insAll m (ks ++ [k]) = put (insAll m ks) k ⟨#[]⟩ := by simp [insAll]
theorem insAll_up : ∀ (ks : List ByteArray) (m : Ps), Up m → Up (insAll m ks)
  | [], _, h => h
  | k :: r, m, h => insAll_up r (put m k ⟨#[]⟩) (h.put k ⟨#[]⟩)
theorem insAll_len : ∀ (ks : List ByteArray) (m : Ps), (insAll m ks).length ≤ m.length + ks.length
  | [], m => by simp [insAll]
  | k :: r, m => by
    have h1 := insAll_len r (put m k ⟨#[]⟩)
    have h2 := put_len m k ⟨#[]⟩
    simp only [insAll, List.foldl_cons, List.length_cons] at h1 ⊢
    omega
set_option maxRecDepth 20000 in
set_option maxHeartbeats 2000000 in
theorem rwrites_walk {w : World} {ga sa : Option Addr} {gn gc sn sc : Nat} {gs : List Gd} {ss : List Sp} (h : Lie w ga gn gc sa sn sc gs ss) (hsn : sn ≤ 1000) :
    Calls Try.prog 41 #[.agg #[.slice ga gn gc, .slice sa sn sc]] w (KeysPost (insAll [] (ss.map Sp.key)) w) := by
  have f1 := (Fr.refl w).alloc (.cells #[.slice ga gn gc, .slice sa sn sc] 52)
  have b1 := heap_alloc_new w (.cells #[.slice ga gn gc, .slice sa sn sc] 52)
  have hz : (w.alloc (.cells #[.slice ga gn gc, .slice sa sn sc] 52)).heap.size = w.heap.size + 1 := by simp
  have f2 := (Fr.refl (w.alloc (.cells #[.slice ga gn gc, .slice sa sn sc] 52))).alloc (.cells #[] 9)
  have r2 := own_empty (w.alloc (.cells #[.slice ga gn gc, .slice sa sn sc] 52)) 9 1
  obtain ⟨B, hB⟩ : ∃ B, w.heap.size = B := ⟨_, rfl⟩
  have hl := (h.fr f1).fr f2
  replace b1 := (f2.heap (k := w.heap.size) (by simp)).trans b1
  replace f1 := f1.trans f2
  rw [hz] at r2
  replace r2 := owns_mono r2 (show w.heap.size ≤ w.heap.size + 1 by omega)
  rw [hB] at r2 b1
  unfold KeysPost
  rw [hB]
  have HL := Go.Lib.hid (And.intro hl (And.intro b1 f1))
  have hsl := h.sl
  have HS := Go.Lib.hid hsl
  clear h hl f1 f2 b1 hz hsl
  go_enter Try.func41, Try.ntmps41
  go_wp2_with fail
  generalize (w.alloc (.cells #[.slice ga gn gc, .slice sa sn sc] 52)).alloc (.cells #[] 9) = w2 at *
  go_loopw [3, 4] (fun v i wk => ∃ (j : Nat) (a : Option Addr) (p c : Nat), j ≤ sn ∧ i = .int .i64 j ∧ v = .slice a p c ∧ (insAll [] ((ss.take j).map Sp.key)).length = p ∧ wk.ownsRow B 9 1 (.slice a p c) p (keysV (insAll [] ((ss.take j).map Sp.key))) ∧ Fr w2 wk) (fun _ i _ => sn - (intOf i).toNat)
  case atStart => exact ⟨0, _, 0, _, Nat.zero_le _, rfl, rfl, rfl, r2, Fr.refl _⟩
  case round =>
    clear r2
    obtain ⟨j, a, p, c, hj, rfl, rfl, hp, hrow, hf⟩ := hrel
    have d1 : wr.cell? ⟨B, 1, none⟩ = some (.slice sa sn sc) := hf.cell' (cell_at HL.out.2.1 1)
    by_cases hlt : j < sn
    · obtain ⟨x, hx⟩ : ∃ x, ss[j]? = some x := ⟨_, List.getElem?_eq_getElem (by have := HS.out; omega)⟩
      obtain ⟨b2, o2, rfl, hb2, hc2, hcs⟩ := sp_cells (HL.out.1.fr hf).s hx HS.out
      obtain ⟨g0, g1, g2, g3, g4⟩ := hcs wr (Below.refl _ _)
      have hlen := insAll_len ((ss.take j).map Sp.key) []
      rw [List.length_map, List.length_take, List.length_nil, hp] at hlen
      have hu := insAll_up ((ss.take j).map Sp.key) [] Up.nil
      have hst := map_take_succ Sp.key hx
      have hins := rins_walk _ hu (owns_sl hrow) hp (by omega) x.key
      rw [← insAll_push, ← hst] at hins
      obtain ⟨xk, xa, xv, xo, xn⟩ := x
      dsimp only at g0 g1 g2 g3 g4 hins
      obtain ⟨q, hq⟩ : ∃ q, (insAll [] ((ss.take (j + 1)).map Sp.key)).length = q := ⟨_, rfl⟩
      have hBle : B ≤ wr.heap.size := by have h1 := (Array.getElem?_eq_some_iff.1 HL.out.2.1).1; have h2 := hf.size; omega
      have HQ := Go.Lib.hid hq
      unfold KeysPost at hins
      rw [hq] at hins
      clear hcs hx hst hu hq hlen hp
      go_wp2_with fail
      refine hins.mono ?_
      rintro e w5 ⟨a', c', rfl, hr5, f5⟩
      replace hr5 := owns_mono hr5 hBle
      replace hf := hf.trans f5
      clear hins f5 hrow d1 g0 g1 g2 g3 g4
      go_wp2_with fail
      go_roundw
      case rel => exact ⟨j + 1, a', q, c', by omega, by go_num, rfl, HQ.out, hr5, hf⟩
      case measure => simp [intOf]; omega
    · obtain rfl : sn = j := by omega
      rw [List.take_of_length_le (by have := HS.out; omega)] at hp hrow
      have hff := HL.out.2.2.trans hf
      have HQ := Go.Lib.hid (And.intro hp hrow)
      clear hp hrow
      go_wp2_with fail
      go_ret
      exact ⟨a, c, by rw [HQ.out.1]; rfl, by rw [HQ.out.1]; exact HQ.out.2, hff⟩
theorem insAll_app (m : Ps) (a b : List ByteArray) : insAll m (a ++ b) = insAll (insAll m a) b := by simp [insAll]
set_option maxRecDepth 20000 in
set_option maxHeartbeats 2000000 in
theorem rkeys_walk {w : World} {ga sa : Option Addr} {gn gc sn sc : Nat} {gs : List Gd} {ss : List Sp} (h : Lie w ga gn gc sa sn sc gs ss) (hgn : gn ≤ 1000) (hsn : sn ≤ 1000) :
    Calls Try.prog 40 #[.agg #[.slice ga gn gc, .slice sa sn sc]] w (KeysPost (insAll [] (ss.map Sp.key ++ gs.map Gd.key)) w) := by
  have f1 := (Fr.refl w).alloc (.cells #[.slice ga gn gc, .slice sa sn sc] 52)
  have b1 := heap_alloc_new w (.cells #[.slice ga gn gc, .slice sa sn sc] 52)
  obtain ⟨B, hB⟩ : ∃ B, w.heap.size = B := ⟨_, rfl⟩
  have hl := h.fr f1
  have hz : (w.alloc (.cells #[.slice ga gn gc, .slice sa sn sc] 52)).heap.size = B + 1 := by simp [hB]
  have hw := rwrites_walk hl hsn
  rw [hB] at b1
  unfold KeysPost at hw ⊢
  rw [hB]
  rw [hz] at hw
  rw [insAll_app]
  have hm0len := insAll_len (ss.map Sp.key) []
  rw [List.length_map, h.sl, List.length_nil] at hm0len
  have hm0up := insAll_up (ss.map Sp.key) [] Up.nil
  generalize insAll [] (ss.map Sp.key) = m0 at *
  have HL := Go.Lib.hid (And.intro hl (And.intro b1 f1))
  have HG := Go.Lib.hid h.gl
  clear h hl b1
  obtain ⟨p0, hp0⟩ : ∃ p, m0.length = p := ⟨_, rfl⟩
  rw [hp0] at hw hm0len
  have HP0 := Go.Lib.hid hp0
  clear hp0
  go_enter Try.func40, Try.ntmps40
  go_wp2_with fail
  refine hw.mono ?_
  rintro e w2 ⟨a0, c0, rfl, hr0, f2⟩
  replace hr0 := owns_mono hr0 (show B ≤ B + 1 by omega)
  have f3 := f1.trans f2
  have hl2 := HL.out.1.fr f2
  have b2 := (f2.heap (k := B) (by omega)).trans HL.out.2.1
  have hs2 := f2.size
  rw [hz] at hs2
  have H2 := Go.Lib.hid (And.intro hl2 (And.intro b2 f3))
  clear hw f1 f2 f3 hl2 b2 hz HL
  go_wp2_with fail
  go_loopw [3, 4] (fun v i wk => ∃ (j : Nat) (a : Option Addr) (p c : Nat), j ≤ gn ∧ i = .int .i64 j ∧ v = .slice a p c ∧ (insAll m0 ((gs.take j).map Gd.key)).length = p ∧ wk.ownsRow B 9 1 (.slice a p c) p (keysV (insAll m0 ((gs.take j).map Gd.key))) ∧ Fr w2 wk) (fun _ i _ => gn - (intOf i).toNat)
  case atStart => exact ⟨0, _, p0, _, Nat.zero_le _, rfl, rfl, HP0.out, hr0, Fr.refl _⟩
  case round =>
    clear hr0
    obtain ⟨j, a, p, c, hj, rfl, rfl, hp, hrow, hf⟩ := hrel
    have d1 : wr.cell? ⟨B, 0, none⟩ = some (.slice ga gn gc) := hf.cell' (cell_at H2.out.2.1 0)
    by_cases hlt : j < gn
    · obtain ⟨x, hx⟩ : ∃ x, gs[j]? = some x := ⟨_, List.getElem?_eq_getElem (by have := HG.out; omega)⟩
      obtain ⟨b2, o2, rfl, hb2, hc2, hcs⟩ := gd_cells (H2.out.1.fr hf).g hx HG.out
      obtain ⟨g0, g1, g2⟩ := hcs wr (Below.refl _ _)
      have hlen := insAll_len ((gs.take j).map Gd.key) m0
      rw [List.length_map, List.length_take, HP0.out, hp] at hlen
      have hu := insAll_up ((gs.take j).map Gd.key) m0 hm0up
      have hst := map_take_succ Gd.key hx
      have hins := rins_walk _ hu (owns_sl hrow) hp (by omega) x.key
      rw [← insAll_push, ← hst] at hins
      obtain ⟨xk, xa, xv⟩ := x
      dsimp only at g0 g1 g2 hins
      obtain ⟨q, hq⟩ : ∃ q, (insAll m0 ((gs.take (j + 1)).map Gd.key)).length = q := ⟨_, rfl⟩
      have hBle : B ≤ wr.heap.size := by have h1 := (Array.getElem?_eq_some_iff.1 H2.out.2.1).1; have h2 := hf.size; omega
      have HQ := Go.Lib.hid hq
      unfold KeysPost at hins
      rw [hq] at hins
      clear hcs hx hst hu hq hlen hp
      go_wp2_with fail
      refine hins.mono ?_
      rintro e w5 ⟨a', c', rfl, hr5, f5⟩
      replace hr5 := owns_mono hr5 hBle
      replace hf := hf.trans f5
      clear hins f5 hrow d1 g0 g1 g2
      go_wp2_with fail
      go_roundw
      case rel => exact ⟨j + 1, a', q, c', by omega, by go_num, rfl, HQ.out, hr5, hf⟩
      case measure => simp [intOf]; omega
    · obtain rfl : gn = j := by omega
      rw [List.take_of_length_le (by have := HG.out; omega)] at hp hrow
      have hff := H2.out.2.2.trans hf
      have HQ := Go.Lib.hid (And.intro hp hrow)
      clear hp hrow
      go_wp2_with fail
      go_ret
      exact ⟨a, c, by rw [HQ.out.1]; rfl, by rw [HQ.out.1]; exact HQ.out.2, hff⟩
set_option maxRecDepth 20000 in
set_option maxHeartbeats 1000000 in
theorem texts_walk {a b : Option Addr} {n c d : Nat} {w : World} (l : List ByteArray) (h : Sl w (.slice a n c) n 1 (strV l)) (h2 : Sl w (.slice b n d) n 1 (strV l)) (hl : l.length = n) (hn : n ≤ 1000000) :
    Calls Try.prog 39 #[.slice a n c, .slice b n d] w fun e w' => e = .returned (.bool true) ∧ Fr w w' := by
  go_enter Try.func39, Try.ntmps39
  go_wp2_with fail
  go_loopw [5] (fun i wk => ∃ j : Nat, j ≤ n ∧ i = .int .i64 j ∧ Fr w wk) (fun i _ => n - (intOf i).toNat)
  case atStart => exact ⟨0, Nat.zero_le _, rfl, Fr.refl _⟩
  case round =>
    obtain ⟨j, hj, rfl, hf⟩ := hrel
    by_cases hlt : j < n
    · obtain ⟨x, hx⟩ : ∃ x, l[j]? = some x := ⟨_, List.getElem?_eq_getElem (by omega)⟩
      obtain ⟨b1, o1, rfl, hc1, hcs⟩ := str_cell h hx hl
      obtain ⟨b2, o2, rfl, hc2, hcs2⟩ := str_cell h2 hx hl
      have ca : ∀ w', Fr wr w' → w'.cell? ⟨b1, o1 + j, none⟩ = some (.string x) := fun w' hw' => hcs w' (hf.trans hw')
      have cb : ∀ w', Fr wr w' → w'.cell? ⟨b2, o2 + j, none⟩ = some (.string x) := fun w' hw' => hcs2 w' (hf.trans hw')
      clear hcs hcs2 h h2 hx hl
      go_wp2_with fail
      refine wp_region_classW (Fr wr) (by kernel_rfl) (by kernel_rfl) (Fr.draw _) ?_
      repeat (first
        | (refine WQ.val rfl ?_
           apply Exists.intro
           refine ⟨?_, ?_⟩
           focus (intro w' hw'; go_simp; (try go_bits); with_reducible rfl)
           simp only [Act.put, List.setIfInBounds_toArray, List.set_cons_zero, List.set_cons_succ])
        | (refine WQ.pass rfl ?_
           simp only [Act.put, List.setIfInBounds_toArray, List.set_cons_zero, List.set_cons_succ]))
      refine WQ.nil ?_
      intro w5 f5
      go_wp2_with fail
      go_roundw
      case rel => exact ⟨j + 1, by omega, by go_num, hf.trans f5⟩
      case measure => simp [intOf]; omega
    · obtain rfl : n = j := by omega
      clear h h2 hl
      go_wp2_with fail
      go_ret
      exact ⟨rfl, hf⟩
/-! ### The document's keys are the program's -/
theorem rise_ext : ∀ {l l' : List ByteArray}, l.Pairwise (fun a b => lt a b = true) → l'.Pairwise (fun a b => lt a b = true) → (∀ x, x ∈ l ↔ x ∈ l') → l = l'
  | [], [], _, _, _ => rfl
  | [], b :: s, _, _, h => absurd ((h b).2 List.mem_cons_self) (by simp)
  | a :: r, [], _, _, h => absurd ((h a).1 List.mem_cons_self) (by simp)
  | a :: r, b :: s, hl, hl', h => by
    obtain ⟨h1, h2⟩ := List.pairwise_cons.1 hl
    obtain ⟨h3, h4⟩ := List.pairwise_cons.1 hl'
    have hab : a = b := by
      rcases List.mem_cons.1 ((h a).1 List.mem_cons_self) with e | e
      · exact e
      · rcases List.mem_cons.1 ((h b).2 List.mem_cons_self) with e' | e'
        · exact e'.symm
        · have := lt_trans (h3 a e) (h1 b e')
          rw [lt_irrefl] at this; cases this
    subst hab
    have : r = s := rise_ext h2 h4 fun x => by
      constructor
      · intro hx
        rcases List.mem_cons.1 ((h x).1 (List.mem_cons_of_mem _ hx)) with e | e
        · have := h1 x hx
          rw [e, lt_irrefl] at this; cases this
        · exact e
      · intro hx
        rcases List.mem_cons.1 ((h x).2 (List.mem_cons_of_mem _ hx)) with e | e
        · have := h3 x hx
          rw [e, lt_irrefl] at this; cases this
        · exact e
    rw [this]
theorem up_keys {α : Type} {l : List (ByteArray × α)} (h : Up l) : (l.map Prod.fst).Pairwise (fun a b => lt a b = true) := List.pairwise_map.2 h
end Go.Proofs.Ytgdmkiobidnhnaa
