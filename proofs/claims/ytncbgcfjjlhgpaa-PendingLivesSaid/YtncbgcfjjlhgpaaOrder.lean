/-
  The walk of PendingOrder. Conditions: what comes in lies where it says.
-/
import Derived.Test.YtncbgcfjjlhgpaaFew
namespace Go.Proofs.Ytncbgcfjjlhgpaa
open Go.RowKit

theorem neq_id (o s o' s' : Int) (w : World) : (binOp .neq 34 (.agg #[.int .i64 o, .int .i64 s]) (.agg #[.int .i64 o', .int .i64 s'])).run Try.prog w = .ok (.bool (!(o == o' && s == s'))) w := by
  have h := equal_id o s o' s' w
  unfold idV at h
  simp [binOp, h]
theorem left_nil (l : List Cn) : left [] l = l := by unfold left; rw [List.filter_eq_self]; intro c _; rfl
theorem left_has (ids : List (Int × Int)) (l : List Cn) {o s : Int} (h : mem ids o s = true) : has (left ids l) o s = false := by
  unfold has left
  rw [List.any_eq_false]
  intro c hc
  have := (List.mem_filter.1 hc).2
  simp only [Bool.and_eq_true, beq_iff_eq, not_and]
  intro h1 h2
  rw [h1, h2, h] at this
  simp at this
theorem left_at (ids : List (Int × Int)) {l : List Cn} {k : Nat} {c : Cn} (hk : l[k]? = some c) (h : mem ids c.o c.s = false) : (left ids l)[(left ids (l.take k)).length]? = some c := by
  have hlt := (List.getElem?_eq_some_iff.1 hk)
  have hs : l = l.take k ++ c :: l.drop (k + 1) := by
    obtain ⟨h1, h2⟩ := hlt
    rw [← h2]
    exact (List.take_append_drop k l).symm.trans (by rw [List.drop_eq_getElem_cons h1])
  have h2 : left ids l = left ids (l.take k) ++ c :: left ids (l.drop (k + 1)) := by
    conv => lhs; rw [hs]
    unfold left
    rw [List.filter_append, List.filter_cons]
    simp [h]
  rw [h2, List.getElem?_append_right (Nat.le_refl _), Nat.sub_self]
  rfl
/-- A list of names that a call made, beside a row. -/
structure Beside (B : Nat) (F : Nat → Prop) (w : World) (v : Value) (ids : List (Int × Int)) : Prop where
  row : w.ownsRow B 34 2 v ids.length (idL ids)
  off : ∀ k, v.ownBlock = some k → ¬ F k
theorem Beside.but {B : Nat} {F F' : Nat → Prop} {w w' : World} {v : Value} {ids : List (Int × Int)} (h : Beside B F w v ids) (hb : But F w w') (hF : ∀ k, F' k → F k ∨ w.heap.size ≤ k) : Beside B F' w' v ids := by
  refine ⟨?_, ?_⟩
  · rcases h.row.2 with ⟨hv, h0⟩ | ⟨g, cap, cur, hv, hg, hh, r⟩
    · exact ⟨h.row.1, .inl ⟨hv, h0⟩⟩
    · exact ⟨h.row.1, .inr ⟨g, cap, cur, hv, hg, (hb.heap g (Array.getElem?_eq_some_iff.1 hh).1 (h.off g (by rw [hv]; rfl))).trans hh, r⟩⟩
  · intro k hk hc
    rcases hF k hc with h1 | h1
    · exact h.off k hk h1
    · have := (h.row.lt k hk).2; omega
theorem Beside.fr {B : Nat} {F : Nat → Prop} {w w' : World} {v : Value} {ids : List (Int × Int)} (h : Beside B F w v ids) (hf : Fr w w') : Beside B F w' v ids := ⟨owns_fr h.row hf, h.off⟩
/-- One name more. -/
theorem Beside.push {B B' R : Nat} {F : Nat → Prop} {most : Int} {cs : List Cn} {w w' : World} {v : Value} {ids : List (Int × Int)} {A : Obj} {g' n cap' : Nat} (h : Beside B F w v ids) (hr : Rr B' F R most cs w) (o s : Int) (hn : ids.length = n)
    (hown : w'.ownsRow B 34 2 (.slice (some ⟨g', 0, none⟩) (n + 1) cap') (n + 1) (idL ids ++ [.int .i64 o, .int .i64 s])) (hg : (w.alloc A).grownBy w' v.ownBlock) (hat : v.ownBlock = some g' ∨ g' = (w.alloc A).heap.size) :
    Beside B F w' (.slice (some ⟨g', 0, none⟩) (n + 1) cap') (ids ++ [(o, s)]) ∧ Rr B' F R most cs w' ∧ (∀ B0, B0 ≤ B → B0 ≤ w.heap.size → Below B0 w w') := by
  have hb : But (fun k => v.ownBlock = some k) w w' := (But.of_fr ((Fr.refl w).alloc A)).trans (But.of_grown hg)
  have hsz : (w.alloc A).heap.size = w.heap.size + 1 := by simp
  refine ⟨⟨?_, ?_⟩, ?_, ?_⟩
  · have : idL (ids ++ [(o, s)]) = idL ids ++ [.int .i64 o, .int .i64 s] := by simp [idL, idC]
    rw [this, List.length_append, hn]; exact hown
  · intro k hk hc
    obtain rfl : g' = k := by simpa [Value.ownBlock] using hk
    rcases hat with hat | hat
    · exact h.off _ hat hc
    · have := (hr.lt _ hc).2; omega
  · exact hr.but hb (fun k hk hc => h.off k hc hk)
  · intro B0 h0 h1
    exact hb.below h1 (fun k hk hc => by have := (h.row.lt k hc).1; omega)
theorem Rr.aside {B R : Nat} {F : Nat → Prop} {most : Int} {cs : List Cn} {w : World} (h : Rr B F R most cs w) : Beside w.heap.size F (w.alloc (.cells #[] 34)) (.slice (some ⟨w.heap.size, 0, none⟩) 0 0) [] := by
  refine ⟨own_empty w 34 2, fun k hk hc => ?_⟩
  obtain rfl : w.heap.size = k := by simpa [Value.ownBlock] using hk
  have := (h.lt _ hc).2
  omega
set_option maxRecDepth 20000 in
set_option maxHeartbeats 8000000 in
theorem pendingOrder.walk {a : Option Addr} {n c : Nat} {ia : Option Addr} {m ic : Nat} {w : World} (es : List Et) (h : Rd w (.slice a n c) es) (hl : es.length = n) (ids : List (Int × Int)) (hi : Sl w (.slice ia m ic) m 2 (idL ids)) (hil : ids.length = m) :
    Calls Try.prog 4 #[.slice a n c, .slice ia m ic] w fun e w' => e = .returned (.bool true) ∧ Below w.heap.size w w' := by
  have hfew := few_walk es h hl
  have haw := fun w' => awake_walk w'
  go_enter Try.func4, Try.ntmps4
  go_wp2_with fail
  refine hfew.mono ?_
  rintro e w1 ⟨b, rfl, hbt, f1⟩
  clear hfew
  cases b with
  | false =>
    clear h hi hbt
    go_wp2_with fail
    refine (haw w1).mono ?_
    rintro e w2 ⟨rfl, f2⟩
    go_wp2_with fail
    go_ret
    exact ⟨rfl, f1.trans f2⟩
  | true =>
    obtain ⟨h24, hbr⟩ := hbt rfl
    by_cases hm : (40 : Int) < m
    · clear h hi hbt hbr h24 hil
      go_wp2_with fail
      refine (haw w1).mono ?_
      rintro e w2 ⟨rfl, f2⟩
      go_wp2_with fail
      go_ret
      exact ⟨rfl, f1.trans f2⟩
    · rw [hl] at h24
      have HH := Go.Lib.hid (And.intro h (And.intro hl (And.intro hi (And.intro hil hbr))))
      clear h hl hi hil hbr hbt
      go_wp2_with fail
      refine (new_rr 32 w1).mono ?_
      rintro e w2 ⟨R, F, rfl, hr, f2⟩
      have e32 : most' 32 = 32 := rfl
      rw [e32] at hr
      have f3 := (Fr.refl w2).alloc (.cells #[] 34)
      have f12 := f1.trans f2
      clear e32
      go_wp2_with fail
      have hz1 := f1.size
      have hz2 := f12.size
      obtain ⟨i0, z0, hi0, hz0, hz1', hz2', hz3'⟩ := parts info34
      go_loopw [6, 7] (fun v i wk => ∃ (k : Nat) (F : Nat → Prop) (cs : List Cn), k ≤ n ∧ i = .int .i64 k ∧ Rr w1.heap.size F R 32 cs wk ∧ Beside w2.heap.size F wk v (cs.map idOf) ∧ Fr w wk ∧ w2.heap.size ≤ wk.heap.size) (fun _ i _ => n - (intOf i).toNat)
      case atStart => exact ⟨0, F, [], Nat.zero_le _, rfl, hr.fr f3, hr.aside, f12.trans f3, f3.size⟩
      case round =>
        clear hr f3 f12 f2
        obtain ⟨k, F, cs, hk, rfl, hr, hbs, hf, hw2⟩ := hrel
        have hsz := hf.size
        by_cases hlt : k < n
        · obtain ⟨h, hl, hi, hil, hbr⟩ := HH.out
          obtain ⟨e, he⟩ : ∃ e, es[k]? = some e := ⟨_, List.getElem?_eq_getElem (by omega)⟩
          have hsl := h.sl
          rw [hl] at hsl
          obtain ⟨b, oo, rfl, hb, hnc, hcs⟩ := hsl.get (by omega)
          have hok := (h.ok e (List.mem_of_getElem? he)).fr hf
          have hbe := hbr e (List.mem_of_getElem? he)
          have cc : ∀ w', Fr w w' → ∀ j, j < 4 → w'.cell? ⟨b, oo + (k * 4 + j), none⟩ = (etV e)[j]? := fun w' hw' j hj => by
            have h1 : (etL es)[k * 4 + j]? = (etV e)[j]? := by rw [etL_at es k j hj, he]; rfl
            have h2 : j < (etV e).length := hj
            rw [List.getElem?_eq_getElem h2] at h1 ⊢
            rw [World.cell?_of_block (hw'.heap hb)]
            exact hcs _ _ h1
          have hadd := add_rr hr e hok (by omega) (by omega)
          clear h hl hi hil hbr hsl hcs he hbe hok
          obtain ⟨⟨eo, es', gs, ss⟩, g, st⟩ := e
          have x0 := cc wr hf 0 (by decide)
          have x1 := cc wr hf 1 (by decide)
          have x2 := cc wr hf 2 (by decide)
          have x3 := cc wr hf 3 (by decide)
          simp only [etV, List.getElem?_cons_zero, List.getElem?_cons_succ, Nat.add_zero, ← Nat.add_assoc] at x0 x1 x2 x3
          dsimp only at hadd
          have hc1 : ∀ w', Fr w w' → w'.cell? ⟨b, oo + k * 4, none⟩ = some (.int .i64 eo) ∧ w'.cell? ⟨b, oo + k * 4 + 1, none⟩ = some (.int .i64 es') := fun w' hw' => ⟨by have := cc w' hw' 0 (by decide); simpa [etV] using this, by have := cc w' hw' 1 (by decide); simpa [etV, Nat.add_assoc] using this⟩
          clear cc
          have HR := Go.Lib.hid (And.intro hr hbs)
          clear hr hbs
          go_wp2_with fail
          refine hadd.mono ?_
          rintro e w4 ⟨rfl, F4, h4, hF4, hb4⟩
          have hbs4 := HR.out.2.but hb4 hF4
          have hf4 : Fr w w4 := hf.below.trans ((HR.out.1.below hb4).mono hz1)
          obtain ⟨y0, y1⟩ := hc1 w4 hf4
          have hs4 : w2.heap.size ≤ w4.heap.size := Nat.le_trans hw2 hb4.size
          clear hadd x0 x1 x2 x3 hc1 hb4 hF4
          cases had : adds 32 cs ⟨eo, es', gs, ss⟩ with
          | false =>
            have hac : addC 32 cs ⟨eo, es', gs, ss⟩ = cs := by unfold addC; rw [had]; rfl
            rw [hac] at h4
            clear hac
            go_wp2_with fail
            go_roundw
            case rel => exact ⟨k + 1, F4, cs, by omega, by go_num, h4, hbs4, hf4, hs4⟩
            case measure => simp [intOf]; omega
          | true =>
            have hac : addC 32 cs ⟨eo, es', gs, ss⟩ = cs ++ [⟨eo, es', gs, ss⟩] := by unfold addC; rw [had]; rfl
            rw [hac] at h4
            clear hac
            obtain ⟨p, hp⟩ : ∃ p, (cs.map idOf).length = p := ⟨_, rfl⟩
            have hrow := hbs4.row
            rw [hp] at hrow
            have hp32 : p ≤ 32 := by obtain ⟨_, _, _, _, _, _, _, _, _, h6, _⟩ := HR.out.1; rw [List.length_map] at hp; omega
            have hs0 := hf4.size
            have HP := Go.Lib.hid hp
            clear hp
            go_wp2_with (at_builtin; go_must (refine wpList_append_lies _ rfl _ _ 42 rfl w2.heap.size 34 i0 z0 2 16 Try.underlying42 hi0 hz0 hz2' hz3' hz1' (by decide) u6 p (idL (cs.map idOf)) rfl (hrow.alloc _) ⟨w4.heap.size, 0, none⟩ 1 1 [.int .i64 eo, .int .i64 es'] rfl rfl (cells_two _ _ _ _) (by simp [Value.oneCell']) (by omega) (by unfold maxLen; omega) (by omega) (by simp; omega) _ rfl ?_); intro g' cap' w6 hown hgrow hat hlt6)
            obtain ⟨q1, q2, q3⟩ := hbs4.push h4 eo es' HP.out hown hgrow hat
            refine ⟨⟨k + 1, F4, _, by omega, by go_num, q2, ?_, hf4.below.trans (q3 _ hz2 hs0), Nat.le_trans hs4 (q3 _ hz2 hs0).size⟩, by simp [intOf]; omega⟩
            rw [List.map_append]
            exact q1
        · obtain rfl : n = k := by omega
          have hdrop := drop_rr hr ids (HH.out.2.2.1.fr hf) (by omega)
          have HR := Go.Lib.hid (And.intro hr hbs)
          clear hr hbs
          go_wp2_with fail
          refine hdrop.mono ?_
          rintro e w4 ⟨rfl, F5, h4, hF5, hb4⟩
          have hbs4 := HR.out.2.but hb4 (fun k hk => .inl (hF5 k hk))
          have hf4 : Fr w w4 := hf.below.trans ((HR.out.1.below hb4).mono hz1)
          have hc32 : cs.length ≤ 32 := by obtain ⟨_, _, _, _, _, _, _, _, _, h6, _⟩ := HR.out.1; exact h6
          clear hdrop hb4 hF5 hf HR
          go_wp2_with fail
          refine (all_rr h4).mono ?_
          rintro e w5 ⟨v5, ys, rfl, hys, hls, f5⟩
          rw [left_nil] at hys
          have hsl5 := hls.rd.sl
          obtain ⟨yn, hyn⟩ : ∃ yn, ys.length = yn := ⟨_, rfl⟩
          obtain ⟨a5, c5, rfl⟩ : ∃ a c, v5 = .slice a ys.length c := by obtain ⟨a, c, h, _⟩ := hsl5; exact ⟨a, c, h⟩
          rw [hyn] at hsl5 ⊢
          have hll : (left ids cs).length = yn := by rw [← hys, List.length_map, hyn]
          have hy32 : yn ≤ 32 := by obtain ⟨_, _, _, _, _, _, _, _, _, h6, _⟩ := h4; omega
          have hidw := ids_walk ys hsl5 hyn (by omega)
          rw [hys] at hidw
          have h5 := h4.fr f5
          have hbs5 := hbs4.fr f5
          have hf5 := hf4.trans f5
          clear hys hls hsl5 h4 hbs4 hf4 f5
          have HY := Go.Lib.hid (And.intro hyn hll)
          clear hyn hll
          go_wp2_with fail
          refine hidw.mono ?_
          rintro e w6 ⟨a6, n6, c6, rfl, hn6, hrow6, f6⟩
          have h6 := h5.fr f6
          have hbs6 := hbs5.fr f6
          have hf6 := hf5.trans f6
          have hsA := owns_sl hrow6
          have hsC := owns_sl hbs6.row
          have hsI := HH.out.2.2.1.fr hf6
          obtain ⟨p, hp⟩ : ∃ p, (cs.map idOf).length = p := ⟨_, rfl⟩
          rw [hp] at hsC
          obtain ⟨ca, cc, rfl⟩ : ∃ a c, u6 = .slice a p c := by obtain ⟨a, c, h, _⟩ := hsC; exact ⟨a, c, h⟩
          have hp32 : p ≤ 32 := by rw [← hp, List.length_map]; exact hc32
          have hn632 : n6 ≤ 32 := by rw [hn6, HY.out.2]; exact hy32
          rw [List.length_map] at hp
          have HN := Go.Lib.hid (And.intro hn6 (And.intro hp HH.out.2.2.2.1))
          clear hn6 hrow6 f6 hidw h5 hbs5 hf5 hbs6 hp
          go_wp2_with fail
          go_loopw [9, 10] (fun t i wk => ∃ (k : Nat), k ≤ p ∧ i = .int .i64 k ∧ t = .int .i64 ((left ids (cs.take k)).length : Nat) ∧ Fr w6 wk) (fun _ i _ => p - (intOf i).toNat)
          case atStart => exact ⟨0, Nat.zero_le _, rfl, rfl, Fr.refl _⟩
          case round =>
            obtain ⟨k, hk, rfl, rfl, hf⟩ := hrel
            obtain ⟨q, hq⟩ : ∃ q, (left ids (cs.take k)).length = q := ⟨_, rfl⟩
            rw [hq]
            by_cases hlt : k < p
            · obtain ⟨x, hx⟩ : ∃ x, cs[k]? = some x := ⟨_, List.getElem?_eq_getElem (by rw [HN.out.2.1]; exact hlt)⟩
              obtain ⟨bC, oC, rfl, hbC, hcC, hcsC⟩ := hsC.get (by omega)
              have hxi : (cs.map idOf)[k]? = some (x.o, x.s) := by rw [List.getElem?_map, hx]; rfl
              have y0 : ∀ w', Fr wr w' → w'.cell? ⟨bC, oC + k * 2, none⟩ = some (.int .i64 x.o) := fun w' hw' => by
                rw [World.cell?_of_block ((hf.trans hw').heap hbC), hcsC (k * 2) _ (by rw [show k * 2 = k * 2 + 0 from rfl, idL_at _ k 0 (by decide), hxi]; rfl)]
              have y1 : ∀ w', Fr wr w' → w'.cell? ⟨bC, oC + k * 2 + 1, none⟩ = some (.int .i64 x.s) := fun w' hw' => by
                rw [Nat.add_assoc, World.cell?_of_block ((hf.trans hw').heap hbC), hcsC (k * 2 + 1) _ (by rw [idL_at _ k 1 (by decide), hxi]; rfl)]
              have hrh := rhas_walk ids (hsI.fr hf) HN.out.2.2 (by omega) x.o x.s
              have hat := fun h => left_at ids hx h
              have hly := fun h => left_yes (ids := ids) hx h
              have hln := fun h => left_no (ids := ids) hx h
              have t0 := y0 wr (Fr.refl _)
              have t1 := y1 wr (Fr.refl _)
              obtain ⟨xo, xs, xg, xt⟩ := x
              dsimp only at y0 y1 hrh t0 t1 hat hly hln
              have H6 := Go.Lib.hid (And.intro h6 (And.intro hsA (And.intro hq (And.intro hat (And.intro hly hln)))))
              clear hx hxi hcsC hsC hsI h6 hsA hq hat hly hln
              cases hme : mem ids xo xs with
              | true =>
                rw [hme] at hrh
                have HM := Go.Lib.hid hme
                clear hme
                go_wp2_with fail
                refine hrh.mono ?_
                rintro e w7 ⟨rfl, f7⟩
                have hhas := has_rr (H6.out.1.fr (hf.trans f7)) xo xs
                rw [left_has ids cs HM.out] at hhas
                have t2 := y0 w7 f7
                have t3 := y1 w7 f7
                clear hrh y0 y1 t0 t1
                go_wp2_with fail
                refine hhas.mono ?_
                rintro e w8 ⟨rfl, f8⟩
                go_wp2_with fail
                go_roundw
                case rel => exact ⟨k + 1, by omega, by go_num, by rw [H6.out.2.2.2.2.2 HM.out, H6.out.2.2.1], hf.trans (f7.trans f8)⟩
                case measure => simp [intOf]; omega
              | false =>
                rw [hme] at hrh
                obtain ⟨h6, hsA, hq, hat, hly, hln⟩ := H6.out
                have hqa := hat hme
                have hly1 := hly hme
                rw [hq] at hqa
                have hqn : q < n6 := by rw [HN.out.1]; exact (List.getElem?_eq_some_iff.1 hqa).1
                obtain ⟨bA, oA, rfl, hbA, hcA, hcsA⟩ := hsA.get (by omega)
                have hxi : ((left ids cs).map idOf)[q]? = some (xo, xs) := by rw [List.getElem?_map, hqa]; rfl
                have z0 : ∀ w', Fr wr w' → w'.cell? ⟨bA, oA + q * 2, none⟩ = some (.int .i64 xo) := fun w' hw' => by
                  rw [World.cell?_of_block ((hf.trans hw').heap hbA), hcsA (q * 2) _ (by rw [show q * 2 = q * 2 + 0 from rfl, idL_at _ q 0 (by decide), hxi]; rfl)]
                have z1 : ∀ w', Fr wr w' → w'.cell? ⟨bA, oA + q * 2 + 1, none⟩ = some (.int .i64 xs) := fun w' hw' => by
                  rw [Nat.add_assoc, World.cell?_of_block ((hf.trans hw').heap hbA), hcsA (q * 2 + 1) _ (by rw [idL_at _ q 1 (by decide), hxi]; rfl)]
                have HM := Go.Lib.hid (And.intro hly1 hq)
                clear hme h6 hsA hq hat hly hln hqa hly1 hcsA hxi H6
                go_wp2_with fail
                refine hrh.mono ?_
                rintro e w7 ⟨rfl, f7⟩
                have y0' : ∀ w', Fr w7 w' → w'.cell? ⟨bC, oC + k * 2, none⟩ = some (.int .i64 xo) := fun w' hw' => y0 w' (f7.trans hw')
                have y1' : ∀ w', Fr w7 w' → w'.cell? ⟨bC, oC + k * 2 + 1, none⟩ = some (.int .i64 xs) := fun w' hw' => y1 w' (f7.trans hw')
                have z0' : ∀ w', Fr w7 w' → w'.cell? ⟨bA, oA + q * 2, none⟩ = some (.int .i64 xo) := fun w' hw' => z0 w' (f7.trans hw')
                have z1' : ∀ w', Fr w7 w' → w'.cell? ⟨bA, oA + q * 2 + 1, none⟩ = some (.int .i64 xs) := fun w' hw' => z1 w' (f7.trans hw')
                have hne : ∀ w', (binOp .neq 34 (.agg #[.int .i64 xo, .int .i64 xs]) (.agg #[.int .i64 xo, .int .i64 xs])).run Try.prog w' = .ok (.bool false) w' := fun w' => by
                  have := neq_id xo xs xo xs w'
                  simpa using this
                clear hrh y0 y1 z0 z1 t0 t1
                go_wp2_with fail
                have hqi : decide (n6 ≤ q) = false := decide_eq_false (by omega)
                refine wp_region_class (Fr w7) (by kernel_rfl) (by kernel_rfl) (Fr.draw _) ?_
                repeat (first
                  | (refine wpQuiet_val rfl ?_
                     apply Exists.intro
                     refine ⟨?_, ?_⟩
                     focus (intro w' hw'; go_simp; (try go_bits); with_reducible rfl)
                     simp only [Act.put, List.setIfInBounds_toArray, List.set_cons_zero, List.set_cons_succ])
                  | (refine wpQuiet_pass rfl ?_
                     simp only [Act.put, List.setIfInBounds_toArray, List.set_cons_zero, List.set_cons_succ]))
                refine wpQuiet_nil ?_
                intro w8 f8
                go_wp2_with fail
                go_roundw
                case rel => exact ⟨k + 1, by omega, by go_num, by rw [HM.out.1, List.length_append, HM.out.2]; go_num, hf.trans (f7.trans f8)⟩
                case measure => simp [intOf]; omega
            · obtain rfl : p = k := by omega
              have ht : cs.take p = cs := List.take_of_length_le (by rw [HN.out.2.1]; exact Nat.le_refl _)
              rw [ht] at hq
              have hqn : q = n6 := by rw [HN.out.1, ← hq]
              subst hqn
              clear hsA hsC hsI h6 ht
              have HQ := Go.Lib.hid hq
              clear hq
              go_wp2_with fail
              refine (haw _).mono ?_
              rintro e w7 ⟨rfl, f7⟩
              go_wp2_with fail
              go_ret
              exact ⟨rfl, (hf6.trans hf).trans f7⟩
end Go.Proofs.Ytncbgcfjjlhgpaa
