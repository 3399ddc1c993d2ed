/-
  The walk of TableCopies. Conditions: what comes in lies where it says.
-/
import Derived.Test.YtgdmkiobidnhnaaCopy
namespace Go.Proofs.Ytgdmkiobidnhnaa
open Go.RowKit

theorem del_head {a : ByteArray × ByteArray} {r : Ps} (h : Up (a :: r)) : del (a :: r) a.1 = r := by
  unfold del
  rw [List.filter_cons_of_neg (by simp)]
  refine List.filter_eq_self.2 fun b hb => ?_
  have := h.hd b hb
  exact decide_eq_true fun e => by rw [e, lt_irrefl] at this; cases this
theorem del_drop {l : Ps} {i : Nat} {a : ByteArray × ByteArray} (hu : Up l) (h : l[i]? = some a) : del (l.drop i) a.1 = l.drop (i + 1) := by
  obtain ⟨hlt, rfl⟩ := List.getElem?_eq_some_iff.1 h
  have hu2 : Up (l.drop i) := List.Pairwise.sublist (List.drop_sublist i l) hu
  rw [List.drop_eq_getElem_cons hlt] at hu2 ⊢
  exact del_head hu2
theorem Core.fr {N T U : Nat} {E : Option Nat} {v : Value} {cs : Array Value} {l1 l2 l3 : Ps} {w0 w w' : World} {F G : Nat → Prop} (h : Core N T U v E cs l1 l2 l3 w0 w F G) (hf : Fr w w') : Core N T U v E cs l1 l2 l3 w0 w' F G :=
  ⟨h.t.fr hf, h.u.fr hf, h.tu, owns_fr h.row hf, h.rf, h.rg, h.bel.trans (hf.below_of h.t.le), fun b hb => have ⟨a, c⟩ := h.ex b hb; ⟨(hf.heap (Array.getElem?_eq_some_iff.1 a).1).trans a, c⟩⟩
set_option maxRecDepth 20000 in
set_option maxHeartbeats 4000000 in
theorem tableCopies.walk {a a2 : Option Addr} {n c n2 c2 : Nat} {w : World} (os : List Opn) (h : Sl w (.slice a n c) n 3 (opL os)) (hl : os.length = n) (os2 : List Opn) (h2 : Sl w (.slice a2 n2 c2) n2 3 (opL os2)) (hl2 : os2.length = n2) :
    Calls Try.prog 4 #[.slice a n c, .slice a2 n2 c2] w fun e w' => e = .returned (.bool true) ∧ Below w.heap.size w w' := by
  obtain ⟨N, hN⟩ : ∃ N, w.heap.size = N := ⟨_, rfl⟩
  rw [hN]
  have HO := Go.Lib.hid (And.intro h hl)
  have HO2 := Go.Lib.hid (And.intro h2 hl2)
  clear h hl h2 hl2
  by_cases hb : 60 < n ∨ 60 < n2
  · rcases (by omega : 60 < n ∨ (¬ 60 < n ∧ 60 < n2)) with hb | ⟨hb1, hb⟩
    · have hb0 : decide ((60 : Int) < (n : Int)) = true := decide_eq_true (by omega)
      go_enter Try.func4, Try.ntmps4
      go_wp2_with fail
      refine (awake_walk w).mono ?_
      rintro e w' ⟨rfl, hbel⟩
      rw [hN] at hbel
      go_wp2_with fail
      go_ret
      exact ⟨rfl, hbel⟩
    · have hb0 : decide ((60 : Int) < (n : Int)) = false := decide_eq_false (by omega)
      go_enter Try.func4, Try.ntmps4
      go_wp2_with fail
      refine (awake_walk w).mono ?_
      rintro e w' ⟨rfl, hbel⟩
      rw [hN] at hbel
      go_wp2_with fail
      go_ret
      exact ⟨rfl, hbel⟩
  · have hb1 : ¬ 60 < n := fun h => hb (.inl h)
    have hb2 : ¬ 60 < n2 := fun h => hb (.inr h)
    have hb3 : decide ((60 : Int) < (n : Int)) = false := decide_eq_false (by omega)
    clear hb
    go_enter Try.func4, Try.ntmps4
    go_wp2_with fail
    refine (new_tb w).mono ?_
    rintro e w1 ⟨T, F0, rfl, ht, f1⟩
    rw [hN] at ht
    have hbel0 : Below N w w1 := hN ▸ f1
    clear f1
    go_wp2_with fail
    go_loopw [6] (fun i wk => ∃ (j : Nat) (l : Ps) (F : Nat → Prop), j ≤ n ∧ i = .int .i64 j ∧ l.length ≤ j ∧ Tb N F T l wk ∧ Below N w wk) (fun i _ => n - (intOf i).toNat)
    case atStart => exact ⟨0, [], F0, Nat.zero_le _, rfl, Nat.le_refl _, ht, hbel0⟩
    case round =>
      clear ht hbel0
      obtain ⟨j, l, F, hj, rfl, hlj, ht, hbel⟩ := hrel
      by_cases hlt : j < n
      · obtain ⟨x, hx⟩ : ∃ x, os[j]? = some x := ⟨_, List.getElem?_eq_getElem (by have := HO.out.2; omega)⟩
        have f4 : Fr wr wr.drew := (Fr.refl wr).drewN 1
        obtain ⟨b, o, rfl, hnc, c0, c1, c2⟩ := op_at HO.out.1 hx HO.out.2 hbel hN
        obtain ⟨xk, xa, xv⟩ := x
        dsimp only at c0 c1 c2
        have hpl := put_len l xa xv
        have e1 := f4.cell' c1
        have e2 := f4.cell' c2
        replace hbel := hbel.trans (f4.below_of ht.le)
        replace ht := ht.fr f4
        have HB := Go.Lib.hid hbel
        clear hx c0 hbel
        go_wp2_with fail
        go_still_tail 11, (by kernel_rfl)
        change wpList _ _ _ _ _ wr.drew
        generalize wr.drew = w4 at *
        clear f4 c1 c2
        go_wp2_with fail
        refine (put_tb ht (by omega) xa xv).mono ?_
        rintro e w5 ⟨rfl, F', ht', _, hbut⟩
        have hbel := HB.out.trans (ht.below hbut)
        clear ht hbut e1 e2
        go_wp2_with fail
        go_roundw
        case rel => exact ⟨j + 1, _, F', by omega, by go_num, by omega, ht', hbel⟩
        case measure => simp [intOf]; omega
      · obtain rfl : n = j := by omega
        have hcp := copy_tb ht (by omega)
        have hsz := ht.le
        go_wp2_with fail
        refine hcp.mono ?_
        rintro e w2 ⟨C, G, rfl, hc, f2⟩
        have hFlt := ht.lt
        have hGlt := hc.lt
        have hfg : ∀ k, F k → ¬ G k := fun k h1 h2 => by have := (hFlt k h1).2; have := (hGlt k h2).1; omega
        replace hc := hc.mono hsz
        replace ht := ht.fr f2
        replace hbel := hbel.trans (f2.below_of hsz)
        have hFlt2 := ht.lt
        have hGlt2 := hc.lt
        have hal := all_walk ht (by omega)
        clear hcp hFlt hGlt f2
        go_wp2_with fail
        refine hal.mono ?_
        rintro e w3 ⟨va, vc, rfl, hrow, f3⟩
        have h3 : L3 N T C (.slice va l.length vc) none #[] l l l w w3 :=
          ⟨F, G, ht.fr f3, hc.fr f3, hfg, owns_mono hrow hc.le, fun k h1 h2 => by have := (hrow.lt k h1).1; have := (hFlt2 k h2).2; omega, fun k h1 h2 => by have := (hrow.lt k h1).1; have := (hGlt2 k h2).2; omega, hbel.trans (f3.below_of hc.le), fun _ h => (by cases h)⟩
        obtain ⟨m, hm⟩ : ∃ m, l.length = m := ⟨_, rfl⟩
        rw [hm] at h3 hlj ⊢
        have HM := Go.Lib.hid hm
        clear ht hc hbel hsz hfg hFlt2 hGlt2 hal hrow f3 hm
        go_wp2_with fail
        generalize wr = w0 at *
        go_loopw [9] (fun i wk => ∃ (j : Nat) (l1 : Ps), j ≤ n2 ∧ i = .int .i64 j ∧ l1.length ≤ 60 + j ∧ L3 N T C (.slice va m vc) none #[] l1 l l w wk) (fun i _ => n2 - (intOf i).toNat)
        case atStart => exact ⟨0, l, Nat.zero_le _, rfl, by rw [HM.out]; omega, h3⟩
        case round =>
          clear h3
          obtain ⟨j, l1, hj, rfl, hlj1, h3⟩ := hrel
          by_cases hlt2 : j < n2
          · obtain ⟨x, hx⟩ : ∃ x, os2[j]? = some x := ⟨_, List.getElem?_eq_getElem (by have := HO2.out.2; omega)⟩
            obtain ⟨b, o, rfl, hnc, c0, c1, c2⟩ := op_at HO2.out.1 hx HO2.out.2 h3.below hN
            obtain ⟨xk, xa, xv⟩ := x
            dsimp only at c0 c1 c2
            have hpl := put_len l1 xa xv
            have hdl := del_len l1 xa
            by_cases hk2 : xk = 2
            · subst hk2
              clear hx hpl c2
              go_wp2_with fail
              refine (h3.delT (by omega) xa).mono ?_
              rintro e w5 ⟨rfl, h5⟩
              clear h3 c0 c1
              go_wp2_with fail
              go_roundw
              case rel => exact ⟨j + 1, _, by omega, by go_num, by omega, h5⟩
              case measure => simp [intOf]; omega
            · have q2 : (xk == 2) = false := by simp [hk2]
              have f4 : Fr wr wr.drew := (Fr.refl wr).drewN 1
              have e1 := f4.cell' c1
              have e2 := f4.cell' c2
              have h4 := h3.fr f4
              clear h3 hx hdl
              go_wp2_with fail
              go_still_tail 11, (by kernel_rfl)
              change wpList _ _ _ _ _ wr.drew
              generalize wr.drew = w4 at *
              clear f4 c0 c1 c2
              go_wp2_with fail
              refine (h4.putT (by omega) xa xv).mono ?_
              rintro e w5 ⟨rfl, h5⟩
              clear h4 e1 e2
              go_wp2_with fail
              go_roundw
              case rel => exact ⟨j + 1, _, by omega, by go_num, by omega, h5⟩
              case measure => simp [intOf]; omega
          · obtain rfl : n2 = j := by omega
            clear HO HO2
            go_wp2_with fail
            obtain ⟨F1, G1, hC⟩ := h3
            have hGl := hC.u.lt
            refine (all_walk hC.t (by omega)).mono ?_
            rintro e w4 ⟨a5, c5, rfl, hrow5, f4⟩
            have hng : ∀ k, (Value.slice a5 l1.length c5).ownBlock = some k → ¬ G1 k := fun k h1 h2 => by have := (hrow5.lt k h1).1; have := (hGl k h2).2; omega
            obtain ⟨m5, hm5⟩ : ∃ m5, l1.length = m5 := ⟨_, rfl⟩
            rw [hm5] at hrow5 hng ⊢
            have hz5 : m5 ≤ 200 := by omega
            have HM5 := Go.Lib.hid hm5
            replace hC := hC.fr f4
            clear hm5 f4 hGl
            go_wp2_with fail
            refine (all_walk hC.u (by rw [HM.out]; omega)).mono ?_
            rintro e w6 ⟨a7, c7, rfl, hrow7, f6⟩
            rw [HM.out] at hrow7 ⊢
            have hs7 := owns_sl hrow7
            replace hC := hC.fr f6
            replace hrow5 := owns_fr hrow5 f6
            have hs8 := owns_sl hC.row
            rw [HM.out] at hs8
            clear hrow7 f6
            go_wp2_with fail
            refine (psame_walk l hs7 hs8 HM.out (by omega)).mono ?_
            rintro e w8 ⟨rfl, f8⟩
            replace hC := hC.fr f8
            replace hrow5 := owns_fr hrow5 f8
            clear f8 hs7 hs8
            go_wp2_with fail
            generalize wr = w01 at *
            go_loopw [11] (fun i wk => ∃ p : Nat, p ≤ m ∧ i = .int .i64 p ∧ Tb N G1 C (l.drop p) wk ∧ But G1 w8 wk) (fun i _ => m - (intOf i).toNat)
            case atStart => exact ⟨0, Nat.zero_le _, rfl, hC.u, But.refl _ _⟩
            case round =>
              obtain ⟨p, hp, rfl, htc, hbut⟩ := hrel
              by_cases hlt3 : p < m
              · obtain ⟨x, hx⟩ : ∃ x, l[p]? = some x := ⟨_, List.getElem?_eq_getElem (by rw [HM.out]; exact hlt3)⟩
                have hs9 := owns_sl (owns_but' hC.row hbut hC.rg)
                rw [HM.out] at hs9
                obtain ⟨b, o, rfl, hnc, hcs⟩ := pair_cells' hs9 hx HM.out
                obtain ⟨c0, c1⟩ := hcs wr (Fr.refl _)
                have hd := del_tb htc (by rw [List.length_drop, HM.out]; omega) x.1
                have hup : Up l := by have := hC.u.up; exact this
                rw [del_drop hup hx] at hd
                obtain ⟨x1, x2⟩ := x
                dsimp only at c0 c1 hd
                clear hcs hx hs9 c1
                go_wp2_with fail
                refine hd.mono ?_
                rintro e w10 ⟨rfl, ht10, hb10⟩
                clear hd c0 htc
                replace hbut := hbut.trans hb10
                clear hb10
                go_wp2_with fail
                go_roundw
                case rel => exact ⟨p + 1, by omega, by go_num, ht10, hbut⟩
                case measure => simp [intOf]; omega
              · obtain rfl : m = p := by omega
                have hle := len_tb htc
                have h0 : (l.drop m).length = 0 := by rw [List.length_drop, HM.out]; omega
                rw [h0] at hle
                have hT9 := hC.t.but hbut (fun k h1 h2 => hC.tu k h1 h2)
                have hs9 := owns_sl (owns_but' hrow5 hbut hng)
                have hbel := hC.bel.trans (hC.u.below hbut)
                clear h0 hrow5 hC
                go_wp2_with fail
                refine hle.mono ?_
                rintro e w10 ⟨rfl, rfl⟩
                clear hle
                go_wp2_with fail
                refine (all_walk hT9 (by omega)).mono ?_
                rintro e w11 ⟨a9, c9, rfl, hrow9, f9⟩
                rw [HM5.out] at hrow9 ⊢
                have hs10 := owns_sl hrow9
                replace hs9 := hs9.fr f9
                replace hbel := hbel.trans (f9.below_of hT9.le)
                replace hT9 := hT9.fr f9
                clear hrow9 f9
                go_wp2_with fail
                refine (psame_walk l1 hs10 hs9 HM5.out (by omega)).mono ?_
                rintro e w12 ⟨rfl, f12⟩
                replace hbel := hbel.trans (f12.below_of hT9.le)
                replace hT9 := hT9.fr f12
                clear f12 hs9 hs10
                go_wp2_with fail
                refine (awake_walk w12).mono ?_
                rintro e w13 ⟨rfl, hb13⟩
                replace hbel := hbel.trans (hb13.mono hT9.le)
                clear hT9 hb13
                go_wp2_with fail
                go_ret
                exact ⟨rfl, hbel⟩
end Go.Proofs.Ytgdmkiobidnhnaa
