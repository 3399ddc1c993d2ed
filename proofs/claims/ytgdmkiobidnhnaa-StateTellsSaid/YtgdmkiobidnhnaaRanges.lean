/-
  The walk of TableRanges. Conditions: what comes in lies where it says.
-/
import Derived.Test.YtgdmkiobidnhnaaLives
namespace Go.Proofs.Ytgdmkiobidnhnaa
open Go.RowKit

/-- A map beside a row. -/
def R2 (N T : Nat) (v : Value) (l1 l3 : Ps) (w0 w : World) : Prop := ∃ F, Tb N F T l1 w ∧ w.ownsRow N 42 2 v l3.length (pairsL l3) ∧ (∀ k, v.ownBlock = some k → ¬ F k) ∧ Below N w0 w
section
variable {N T : Nat} {v : Value} {l1 l3 : Ps} {w0 w w' : World}
theorem R2.fr (h : R2 N T v l1 l3 w0 w) (hf : Fr w w') : R2 N T v l1 l3 w0 w' := by
  obtain ⟨F, h1, h2, h3, h4⟩ := h
  exact ⟨F, h1.fr hf, owns_fr h2 hf, h3, h4.trans (hf.below_of h1.le)⟩
theorem R2.putT (h : R2 N T v l1 l3 w0 w) (hn : l1.length ≤ 100000) (k x : ByteArray) : Calls Try.prog 16 #[.pointer (some ⟨T, 0, none⟩), .string k, .string x] w fun e w' => e = .returned (.tuple #[]) ∧ R2 N T v (put l1 k x) l3 w0 w' := by
  obtain ⟨F, h1, h2, h3, h4⟩ := h
  refine (put_tb h1 hn k x).mono fun e w' ⟨e1, F', e2, e3, e4⟩ => ⟨e1, F', e2, owns_but' h2 e4 h3, fun k hk hf => ?_, h4.trans (h1.below e4)⟩
  rcases e3 k hf with hc | hc
  · exact h3 k hk hc
  · have := (h2.lt k hk).2; omega
theorem R2.sl {a : Option Addr} {n c : Nat} (h : R2 N T (.slice a n c) l1 l3 w0 w) (hn : l3.length = n) : Sl w (.slice a n c) n 2 (pairsL l3) := by
  obtain ⟨F, _, h, _⟩ := h
  have := owns_sl h
  rw [hn] at this; exact this
theorem R2.rput {a : Option Addr} {n c : Nat} (h : R2 N T (.slice a n c) l1 l3 w0 w) (hl : l3.length = n) (hu : Up l3) (hn : n ≤ 100000) (k x : ByteArray) : Calls Try.prog 17 #[.slice a n c, .string k, .string x] w fun e w' => ∃ a' n' c', e = .returned (.slice a' n' c') ∧ (put l3 k x).length = n' ∧ R2 N T (.slice a' n' c') l1 (put l3 k x) w0 w' := by
  refine (rput_walk l3 hu (h.sl hl) hl hn k x).mono fun _ _ ⟨a', c', h1, h2, h3⟩ => ⟨a', _, c', h1, rfl, ?_⟩
  obtain ⟨F, e1, _, _, e4⟩ := h
  exact ⟨F, e1.fr h3, owns_mono h2 e1.le, fun k hk hc => by have := (e1.lt k hc).2; have := (h2.lt k hk).1; omega, e4.trans (h3.below_of e1.le)⟩
theorem R2.upT (h : R2 N T v l1 l3 w0 w) : Up l1 := by
  obtain ⟨F, h, _⟩ := h; exact h.up
theorem R2.below (h : R2 N T v l1 l3 w0 w) : Below N w0 w := by
  obtain ⟨F, _, _, _, h⟩ := h; exact h
theorem R2.le (h : R2 N T v l1 l3 w0 w) : N ≤ w.heap.size := by
  obtain ⟨F, h, _⟩ := h; exact h.le
theorem R2.told (h : R2 N T v l1 l3 w0 w) : Told w.heap.size (some ⟨T, 0, none⟩) l1 w := by
  obtain ⟨F, h, _⟩ := h; exact .inr ⟨T, rfl, h.seen⟩
end
theorem gathered_tail {l : Ps} (hu : Up l) (k : ByteArray) (m : Nat) : gathered l k m = (tail l k).take m := by
  unfold gathered; rw [tail_eq l k hu]
theorem Up.rise {l : Ps} (hu : Up l) {i : Nat} {a b : ByteArray × ByteArray} (ha : l[i]? = some a) (hb : l[i + 1]? = some b) : lt a.1 b.1 = true := by
  unfold Up at hu
  rw [List.pairwise_iff_getElem] at hu
  obtain ⟨h1, rfl⟩ := List.getElem?_eq_some_iff.1 ha
  obtain ⟨h2, rfl⟩ := List.getElem?_eq_some_iff.1 hb
  exact hu i (i + 1) h1 h2 (by omega)
theorem Up.take {l : Ps} (hu : Up l) (m : Nat) : Up (l.take m) := List.Pairwise.sublist (List.take_sublist m l) hu
/-- The first so many of a row. -/
theorem Sl.front {w : World} {a : Option Addr} {n c : Nat} {l : Ps} (h : Sl w (.slice a n c) n 2 (pairsL l)) (m : Nat) (hm : m ≤ n) : Sl w (.slice a m c) m 2 (pairsL (l.take m)) := by
  obtain ⟨a', c', e, h1, h2, h3⟩ := h
  cases e
  rw [pairsL_len] at h1
  refine ⟨a, c, rfl, by rw [pairsL_len, List.length_take]; omega, by omega, ?_⟩
  rcases h3 with h3 | ⟨b, o, e, hb, hc⟩
  · exact .inl (by omega)
  · refine .inr ⟨b, o, e, hb, fun j u hu => hc j u ?_⟩
    have hp : pairsL l = pairsL (l.take m) ++ pairsL (l.drop m) := by
      unfold pairsL; rw [← List.flatMap_append, List.take_append_drop]
    rw [hp, List.getElem?_append_left (List.getElem?_eq_some_iff.1 hu).1]; exact hu
theorem _root_.List.take_min_len {α : Type} {l : List α} {n m : Nat} (h : l.length = n) : l.take (min n m) = l.take m := by
  subst h
  rcases Nat.le_total l.length m with h | h
  · rw [Nat.min_eq_left h, List.take_of_length_le h, List.take_of_length_le (Nat.le_refl _)]
  · rw [Nat.min_eq_right h]
set_option maxRecDepth 20000 in
set_option maxHeartbeats 4000000 in
theorem tableRanges.walk {a : Option Addr} {n c : Nat} {w : World} (os : List Opn) (h : Sl w (.slice a n c) n 3 (opL os)) (hl : os.length = n) (key : ByteArray) (most : Nat) (hmost : most < 256) :
    Calls Try.prog 5 #[.slice a n c, .string key, .int .u8 most] w fun e w' => e = .returned (.bool true) ∧ Below w.heap.size w w' := by
  obtain ⟨N, hN⟩ : ∃ N, w.heap.size = N := ⟨_, rfl⟩
  rw [hN]
  have HO := Go.Lib.hid (And.intro h hl)
  clear h hl
  by_cases hb : 100 < n
  · go_enter Try.func5, Try.ntmps5
    go_wp2_with fail
    refine (awake_walk w).mono ?_
    rintro e w' ⟨rfl, hbel⟩
    rw [hN] at hbel
    go_wp2_with fail
    go_ret
    exact ⟨rfl, hbel⟩
  · go_enter Try.func5, Try.ntmps5
    go_wp2_with fail
    refine (new_tb w).mono ?_
    rintro e w1 ⟨T, F, rfl, ht, f1⟩
    rw [hN] at ht
    have f2 := (Fr.refl w1).alloc (.cells #[] 42)
    have r2 := own_empty w1 42 2
    have hbel : Below N w w1 := hN ▸ f1
    have h3 : R2 N T (.slice (some ⟨w1.heap.size, 0, none⟩) 0 0) [] [] w (w1.alloc (.cells #[] 42)) :=
      ⟨F, ht.fr f2, owns_mono r2 ht.le, fun k hk hc => by have := (ht.lt k hc).2; have := (r2.lt k hk).1; omega, hbel.trans (f2.below_of ht.le)⟩
    clear ht f1 f2 r2 hbel
    go_wp2_with fail
    generalize w1.alloc (.cells #[] 42) = w2 at *
    generalize w1.heap.size = U at *
    go_loopw [8, 9] (fun v i wk => ∃ (j m : Nat) (l : Ps) (a' : Option Addr) (c' : Nat), j ≤ n ∧ i = .int .i64 j ∧ v = .slice a' m c' ∧ l.length = m ∧ m ≤ j ∧ R2 N T (.slice a' m c') l l w wk) (fun _ i _ => n - (intOf i).toNat)
    case atStart => exact ⟨0, 0, [], _, _, Nat.zero_le _, rfl, rfl, rfl, Nat.le_refl _, h3⟩
    case round =>
      clear h3
      obtain ⟨j, m, l, a', c', hj, rfl, rfl, hlm, hmj, h3⟩ := hrel
      by_cases hlt : j < n
      · obtain ⟨x, hx⟩ : ∃ x, os[j]? = some x := ⟨_, List.getElem?_eq_getElem (by have := HO.out.2; omega)⟩
        have f4 : Fr wr wr.drew := (Fr.refl wr).drewN 1
        have h4 := h3.fr f4
        obtain ⟨b, o, rfl, hnc, c0, c1, c2⟩ := op_at HO.out.1 hx HO.out.2 h3.below hN
        obtain ⟨xk, xa, xv⟩ := x
        dsimp only at c0 c1 c2
        have hup := h3.upT
        have hpl := put_len l xa xv
        have HL := Go.Lib.hid hlm
        have HX := Go.Lib.hid hx
        rw [hlm] at hpl
        have e1 := f4.cell' c1
        have e2 := f4.cell' c2
        clear h3 hx hlm c0
        go_wp2_with fail
        go_still_tail 11, (by kernel_rfl)
        change wpList _ _ _ _ _ wr.drew
        generalize wr.drew = w4 at *
        clear f4 c1 c2
        go_wp2_with fail
        refine (h4.putT (by rw [HL.out]; omega) xa xv).mono ?_
        rintro e w5 ⟨rfl, h5⟩
        have f6 : Fr w5 w5.drew := (Fr.refl w5).drewN 1
        have h6 := h5.fr f6
        obtain ⟨b', o', e', _, _, c1, c2⟩ := op_at HO.out.1 HX.out HO.out.2 h5.below hN
        cases e'
        dsimp only at c1 c2
        have g1 := f6.cell' c1
        have g2 := f6.cell' c2
        clear h4 h5 e1 e2
        go_wp2_with fail
        go_still_tail 11, (by kernel_rfl)
        change wpList _ _ _ _ _ w5.drew
        generalize w5.drew = w6 at *
        clear f6 c1 c2
        go_wp2_with fail
        refine (h6.rput HL.out hup (by omega) xa xv).mono ?_
        rintro e w8 ⟨a2, m2, q2, rfl, hm2, h9⟩
        have hm2' : m2 ≤ j + 1 := by omega
        have HM := Go.Lib.hid hm2
        clear h6 g1 g2 hm2 hpl
        go_wp2_with fail
        go_roundw
        case rel => exact ⟨j + 1, m2, _, a2, q2, by omega, by go_num, rfl, HM.out, hm2', h9⟩
        case measure => simp [intOf]; omega
      · obtain rfl : n = j := by omega
        have HL := Go.Lib.hid hlm
        have hup := h3.upT
        have hto := h3.told
        have hwd := rfrom_walk l (h3.sl hlm) hlm (by omega) key
        have hbel := h3.below
        have hle := h3.le
        have hgt := gathered_tail hup key most
        obtain ⟨ta, hta⟩ : ∃ ta, (tail l key).length = ta := ⟨_, rfl⟩
        have htal : ta ≤ 100 := by
          have h1 : (tail l key).length ≤ l.length := List.length_filter_le _ _
          omega
        have HT := Go.Lib.hid (And.intro hta hgt)
        clear hlm h3 hta hgt
        go_wp2_with fail
        refine hwd.mono ?_
        rintro e w3 ⟨a3, c3, rfl, hr3, f3⟩
        rw [HT.out.1] at hr3 ⊢
        have hto3 : Told w3.heap.size (some ⟨T, 0, none⟩) l w3 := by
          rcases hto with ⟨h0, _⟩ | ⟨T', h0, hs⟩
          · cases h0
          · obtain ⟨ks, vs, B, s1, s2, s3, s4, s5, s6, s7, s8⟩ := hs.below f3
            have := f3.size
            exact .inr ⟨T', h0, ks, vs, B, s1, s2, s3, by omega, fun k hk => by have := s5 k hk; omega, fun k hk => by have := s6 k hk; omega, s7, Nat.le_refl _⟩
        have hf := from_list (some ⟨T, 0, none⟩) l (by rw [HL.out]; omega) key most (by omega) w3 hto3
        have hs3 := owns_sl hr3
        replace hbel := hbel.trans (f3.below_of hle)
        replace hle := Nat.le_trans hle f3.size
        clear hwd hto hto3 hr3 f3
        go_wp2_with fail
        refine hf.mono ?_
        rintro e w4 ⟨a4, c4, rfl, hr4, f4⟩
        have hul := (hup.tail key).take most
        rw [HT.out.2] at hr4 ⊢
        have hs4 := owns_sl hr4
        replace hs3 := hs3.fr f4
        replace hbel := hbel.trans (f4.below_of hle)
        replace hle := Nat.le_trans hle f4.size
        obtain ⟨gl, hgl⟩ : ∃ gl, ((tail l key).take most).length = gl := ⟨_, rfl⟩
        have hglm : min ta most = gl := by rw [← hgl, List.length_take, HT.out.1, Nat.min_comm]
        rw [hgl] at hs4 ⊢
        have HG := Go.Lib.hid hgl
        clear hf hr4 f4 hup hgl
        go_wp2_with fail
        go_loopw [12] (fun i wk => ∃ q : Nat, (1 ≤ q ∧ (q ≤ gl ∨ q = 1)) ∧ i = .int .i64 (q : Nat) ∧ Fr w4 wk) (fun i _ => gl + 1 - (intOf i).toNat)
        case atStart => exact ⟨1, ⟨Nat.le_refl _, .inr rfl⟩, rfl, Fr.refl _⟩
        case round =>
          obtain ⟨q, ⟨hq1, hq2⟩, rfl, hf⟩ := hrel
          by_cases hlt : q < gl
          · obtain ⟨p, hpq⟩ : ∃ p, p + 1 = q := ⟨q - 1, by omega⟩
            obtain ⟨x, hx⟩ : ∃ x, ((tail l key).take most)[p]? = some x := ⟨_, List.getElem?_eq_getElem (by rw [HG.out]; omega)⟩
            obtain ⟨y, hy⟩ : ∃ y, ((tail l key).take most)[p + 1]? = some y := ⟨_, List.getElem?_eq_getElem (by rw [HG.out]; omega)⟩
            have hri := hul.rise hx hy
            rw [hpq] at hy
            obtain ⟨b1, o1, rfl, hc1, hcs⟩ := pair_cells' hs4 hx HG.out
            obtain ⟨b2, o2, e2, hc2, hcs2⟩ := pair_cells' hs4 hy HG.out
            cases e2
            obtain ⟨x1, x2⟩ := x
            obtain ⟨y1, y2⟩ := y
            have hri2 : Op.bytesLess x1.toList y1.toList = true := hri
            have ca : ∀ w', Fr wr w' → w'.cell? ⟨b1, o1 + p * 2, none⟩ = some (.string x1) := fun w' hw' => (hcs w' (hf.trans hw')).1
            have cb : ∀ w', Fr wr w' → w'.cell? ⟨b1, o1 + q * 2, none⟩ = some (.string y1) := fun w' hw' => (hcs2 w' (hf.trans hw')).1
            have hi1 : IntKind.i64.wrap ((q : Int) - 1) = (p : Nat) := by rw [IntWalk.i64_in _ (by omega)]; omega
            have hplt : p < gl := by omega
            have HP := Go.Lib.hid hpq
            clear hpq
            clear hcs hcs2 hx hy hs4 hri
            go_wp2_with fail
            refine wp_region_class (Fr wr) (by kernel_rfl) (by kernel_rfl) (Fr.draw _) ?_
            repeat (first
              | (refine wpQuiet_val rfl ?_
                 apply Exists.intro
                 refine ⟨?_, ?_⟩
                 focus (intro w' hw'; go_simp; (try go_bits); with_reducible rfl)
                 simp only [Act.put, List.setIfInBounds_toArray, List.set_cons_zero, List.set_cons_succ])
              | (refine wpQuiet_pass rfl ?_
                 simp only [Act.put, List.setIfInBounds_toArray, List.set_cons_zero, List.set_cons_succ]))
            refine wpQuiet_nil ?_
            intro w5 f5
            go_wp2_with fail
            go_roundw
            case rel => exact ⟨q + 1, by omega, by go_num, hf.trans f5⟩
            case measure => simp [intOf]; omega
          · have hs3f := (hs3.fr hf).front (min ta most) (Nat.min_le_left _ _)
            rw [List.take_min_len HT.out.1, hglm] at hs3f
            have hs4f := hs4.fr hf
            replace hbel := hbel.trans (hf.below_of hle)
            replace hle := Nat.le_trans hle hf.size
            have hmin : min (ta : Int) (most : Int) = (gl : Int) := by omega
            have hcut : (0 : Int) ≤ (gl : Int) ∧ (gl : Int) ≤ (c3 : Int) := by have := hs3.form; obtain ⟨_, _, e, h, _⟩ := this; cases e; omega
            have hadd : (if c3 = 0 then a3 else Option.map (fun x => x.add 0) a3) = a3 := by
              split
              · rfl
              · cases a3 with
                | none => rfl
                | some x => simp [Addr.add]
            clear hs3 hs4 hf
            go_wp2_with fail
            refine (psame_walk _ hs4f hs3f HG.out (by omega)).mono ?_
            rintro e w6 ⟨rfl, f6⟩
            replace hbel := hbel.trans (f6.below_of hle)
            replace hle := Nat.le_trans hle f6.size
            clear hs3f hs4f f6
            go_wp2_with fail
            refine (awake_walk w6).mono ?_
            rintro e w9 ⟨rfl, hb9⟩
            replace hbel := hbel.trans (hb9.mono hle)
            clear hb9 hle
            go_wp2_with fail
            go_ret
            exact ⟨rfl, hbel⟩
theorem u8_nat {a : Int} (h : (Lit.int .u8 a).wf = true) : ∃ n : Nat, a = n ∧ n < 256 := by
  have hx : 0 ≤ a ∧ a ≤ 255 := by simpa [Lit.wf, IntKind.min, IntKind.max, IntKind.signed, IntKind.bits] using h
  exact ⟨a.toNat, by omega, by omega⟩
end Go.Proofs.Ytgdmkiobidnhnaa
