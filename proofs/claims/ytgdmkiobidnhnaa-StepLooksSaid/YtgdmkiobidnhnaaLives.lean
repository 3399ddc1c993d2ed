/-
  The walk of TableLives. Conditions: what comes in lies where it says.
-/
import Derived.Test.YtgdmkiobidnhnaaTwo
namespace Go.Proofs.Ytgdmkiobidnhnaa
open Go.RowKit

theorem core_start {T U N : Nat} {F : Nat → Prop} {w0 w1 : World} (hN : w0.heap.size = N) (ht : Tb N F T [] w1) (hf : Fr w0 w1) (hU : w1.heap.size = U) :
    L3 N T U (.slice (some ⟨U + 1, 0, none⟩) 0 0) none #[] [] [] [] w0 ((w1.alloc (.cells #[.slice none 0 0, .slice none 0 0] 28)).alloc (.cells #[] 42)) := by
  have hlt := ht.lt
  have h1 := heap_alloc_new w1 (.cells #[.slice none 0 0, .slice none 0 0] 28)
  have f1 := (Fr.refl w1).alloc (.cells #[.slice none 0 0, .slice none 0 0] 28)
  have hs1 : (w1.alloc (.cells #[.slice none 0 0, .slice none 0 0] 28)).heap.size = U + 1 := by simp [hU]
  have f2 := (Fr.refl (w1.alloc (.cells #[.slice none 0 0, .slice none 0 0] 28))).alloc (.cells #[] 42)
  have r2 := own_empty (w1.alloc (.cells #[.slice none 0 0, .slice none 0 0] 28)) 42 2
  have hs2 : ((w1.alloc (.cells #[.slice none 0 0, .slice none 0 0] 28)).alloc (.cells #[] 42)).heap.size = U + 2 := by simp [hU]
  rw [hs1] at r2
  have hle := ht.le
  refine ⟨F, _, ⟨(ht.fr f1).fr f2, ⟨.slice none 0 0, .slice none 0 0, ?_, ⟨rfl, .inl ⟨rfl, rfl⟩⟩, ⟨rfl, .inl ⟨rfl, rfl⟩⟩, (fun k h => (by cases h)), rfl, by omega, Up.nil⟩, ?_, owns_mono r2 (by omega), ?_, ?_, ?_, fun _ h => (by cases h)⟩⟩
  · rw [hU] at h1
    exact (f2.heap (by omega)).trans h1
  · intro k hk hg
    have := (hlt k hk).2
    rcases hg with h | h | h
    · omega
    · cases h
    · cases h
  · intro k hk hc
    have := (hlt k hc).2
    have e : some (U + 1) = some k := hk
    cases e; omega
  · intro k hk hc
    have e : some (U + 1) = some k := hk
    cases e
    rcases hc with h | h | h
    · omega
    · cases h
    · cases h
  · have hb : Below w0.heap.size w0 w1 := hf
    rw [hN] at hb
    exact hb.trans ((f1.trans f2).below_of (by omega))
theorem op_at {w0 w : World} {N : Nat} {a : Option Addr} {n c : Nat} {m : List Opn} (h : Sl w0 (.slice a n c) n 3 (opL m)) {i : Nat} {x : Opn} (hi : m[i]? = some x) (hl : m.length = n) (hb : Below N w0 w) (hN : w0.heap.size = N) :
    ∃ b o, a = some ⟨b, o, none⟩ ∧ n ≤ c ∧ w.cell? ⟨b, o + i * 3, none⟩ = some (.int .i64 x.k) ∧ w.cell? ⟨b, o + i * 3 + 1, none⟩ = some (.string x.key) ∧ w.cell? ⟨b, o + i * 3 + 2, none⟩ = some (.string x.val) := by
  obtain ⟨b, o, h1, h2, h3⟩ := op_cells h hi hl
  exact ⟨b, o, h1, h2, h3 w (hN ▸ hb)⟩
set_option maxRecDepth 20000 in
set_option maxHeartbeats 4000000 in
theorem tableLives.walk {a : Option Addr} {n c : Nat} {w : World} (os : List Opn) (h : Sl w (.slice a n c) n 3 (opL os)) (hl : os.length = n) :
    Calls Try.prog 3 #[.slice a n c] w fun e w' => e = .returned (.bool true) ∧ Below w.heap.size w w' := by
  obtain ⟨N, hN⟩ : ∃ N, w.heap.size = N := ⟨_, rfl⟩
  rw [hN]
  have HO := Go.Lib.hid (And.intro h hl)
  clear h hl
  by_cases hb : 150 < n
  · go_enter Try.func3, Try.ntmps3
    go_wp2_with fail
    refine (awake_walk w).mono ?_
    rintro e w' ⟨rfl, hbel⟩
    rw [hN] at hbel
    go_wp2_with fail
    go_ret
    exact ⟨rfl, hbel⟩
  · go_enter Try.func3, Try.ntmps3
    go_wp2_with fail
    refine (new_tb w).mono ?_
    rintro e w1 ⟨T, F, rfl, ht, f1⟩
    rw [hN] at ht
    have h3 := core_start hN ht f1 rfl
    clear ht f1
    go_wp2_with fail
    generalize (w1.alloc (.cells #[.slice none 0 0, .slice none 0 0] 28)).alloc (.cells #[] 42) = w2 at *
    generalize w1.heap.size = U at *
    go_loopw [5, 6] (fun v i wk => ∃ (j m : Nat) (l : Ps) (a' : Option Addr) (c' : Nat) (E : Option Nat) (cs : Array Value), j ≤ n ∧ i = .int .i64 j ∧ v = .slice a' m c' ∧ l.length = m ∧ m ≤ j ∧ L3 N T U (.slice a' m c') E cs l l l w wk) (fun _ i _ => n - (intOf i).toNat)
    case atStart => exact ⟨0, 0, [], _, _, none, _, Nat.zero_le _, rfl, rfl, rfl, Nat.le_refl _, h3⟩
    case round =>
      clear h3
      obtain ⟨j, m, l, a', c', E, cs, hj, rfl, rfl, hlm, hmj, h3⟩ := hrel
      by_cases hlt : j < n
      · obtain ⟨x, hx⟩ : ∃ x, os[j]? = some x := ⟨_, List.getElem?_eq_getElem (by have := HO.out.2; omega)⟩
        obtain ⟨b, o, rfl, hnc, c0, c1, c2⟩ := op_at HO.out.1 hx HO.out.2 h3.below hN
        obtain ⟨xk, xa, xv⟩ := x
        dsimp only at c0 c1 c2
        have h4 := h3.newBlock #[.int .i64 xk, .string xa, .string xv]
        have hup := h3.upT
        obtain ⟨d0, d1, d2⟩ := h4.cells
        obtain ⟨gv, hgv⟩ : ∃ gv, (get l xa).getD ⟨#[]⟩ = gv := ⟨_, rfl⟩
        obtain ⟨gb, hgb⟩ : ∃ gb, (get l xa).isSome = gb := ⟨_, rfl⟩
        have hee := eqb_true gv
        have hpl := put_len l xa xv
        have hdl := del_len l xa
        have HL := Go.Lib.hid hlm
        rw [hlm] at hpl hdl
        clear h3 hx hlm
        go_wp2_with fail
        generalize wr.alloc (.cells #[.int .i64 xk, .string xa, .string xv] 31) = w3 at *
        generalize wr.heap.size = E3 at *
        refine (h4.rget HL.out (by omega) xa).mono ?_
        rw [hgv, hgb]
        rintro e w4 ⟨rfl, h5⟩
        obtain ⟨e0, e1, e2⟩ := h5.cells
        clear h4 c0 c1 c2 d0 d1 d2
        go_wp2_with fail
        refine (h5.getT (by rw [HL.out]; omega) xa).mono ?_
        rw [hgv, hgb]
        rintro e w5 ⟨rfl, h6⟩
        obtain ⟨c0, c1, c2⟩ := h6.cells
        clear h5 e0 e1 e2
        by_cases hk1 : xk = 1
        · subst hk1
          go_wp2_with fail
          refine (h6.putT (by rw [HL.out]; omega) xa xv).mono ?_
          rintro e w6 ⟨rfl, h7⟩
          obtain ⟨e0, e1, e2⟩ := h7.cells
          clear h6 c0 c1 c2
          go_wp2_with fail
          refine (h7.putU (by rw [HL.out]; omega) xa xv).mono ?_
          rintro e w7 ⟨rfl, h8⟩
          obtain ⟨c0, c1, c2⟩ := h8.cells
          clear h7 e0 e1 e2
          go_wp2_with fail
          refine (h8.rput HL.out hup (by omega) xa xv).mono ?_
          rintro e w8 ⟨a2, m2, q2, rfl, hm2, h9⟩
          obtain ⟨e0, e1, e2⟩ := h9.cells
          have hm2' : m2 ≤ j + 1 := by omega
          have HM := Go.Lib.hid hm2
          clear h8 c0 c1 c2 hm2 hpl hdl
          go_wp2_with fail
          refine h9.lenT.mono ?_
          rw [HM.out]
          rintro e w9 ⟨rfl, rfl⟩
          go_wp2_with fail
          go_roundw
          case rel => exact ⟨j + 1, m2, _, a2, q2, _, _, by omega, by go_num, rfl, HM.out, hm2', h9⟩
          case measure => simp [intOf]; omega
        · by_cases hk2 : xk = 2
          · subst hk2
            go_wp2_with fail
            refine (h6.delT (by rw [HL.out]; omega) xa).mono ?_
            rw [hgb]
            rintro e w6 ⟨rfl, h7⟩
            obtain ⟨e0, e1, e2⟩ := h7.cells
            clear h6 c0 c1 c2
            go_wp2_with fail
            refine (h7.delU (by rw [HL.out]; omega) xa).mono ?_
            rw [hgb]
            rintro e w7 ⟨rfl, h8⟩
            obtain ⟨c0, c1, c2⟩ := h8.cells
            clear h7 e0 e1 e2
            go_wp2_with fail
            refine (h8.rdel HL.out (by omega) xa).mono ?_
            rintro e w8 ⟨a2, m2, q2, rfl, hm2, h9⟩
            obtain ⟨e0, e1, e2⟩ := h9.cells
            have hm2' : m2 ≤ j + 1 := by omega
            have HM := Go.Lib.hid hm2
            clear h8 c0 c1 c2 hm2 hpl hdl
            go_wp2_with fail
            refine h9.lenT.mono ?_
            rw [HM.out]
            rintro e w9 ⟨rfl, rfl⟩
            go_wp2_with fail
            go_roundw
            case rel => exact ⟨j + 1, m2, _, a2, q2, _, _, by omega, by go_num, rfl, HM.out, hm2', h9⟩
            case measure => simp [intOf]; omega
          · have q1 : (xk == 1) = false := by simp [hk1]
            have q2 : (xk == 2) = false := by simp [hk2]
            go_wp2_with fail
            refine h6.lenT.mono ?_
            rw [HL.out]
            rintro e w9 ⟨rfl, rfl⟩
            go_wp2_with fail
            go_roundw
            case rel => exact ⟨j + 1, m, _, a', c', _, _, by omega, by go_num, rfl, HL.out, by omega, h6⟩
            case measure => simp [intOf]; omega
      · obtain rfl : n = j := by omega
        have HL := Go.Lib.hid hlm
        clear hlm
        go_wp2_with fail
        generalize wr = w3 at *
        go_loopw [12] (fun i wk => ∃ (p : Nat), p ≤ m ∧ i = .int .i64 p ∧ wk = w3) (fun i _ => m - (intOf i).toNat)
        case atStart => exact ⟨0, Nat.zero_le _, rfl, rfl⟩
        case round =>
          obtain ⟨p, hp, rfl, rfl⟩ := hrel
          by_cases hlt2 : p < m
          · obtain ⟨x, hx⟩ : ∃ x, l[p]? = some x := ⟨_, List.getElem?_eq_getElem (by rw [HL.out]; exact hlt2)⟩
            obtain ⟨b, o, rfl, hnc, hcs⟩ := pair_cells' (h3.sl HL.out) hx HL.out
            obtain ⟨c0, c1⟩ := hcs wr (Fr.refl _)
            obtain ⟨F, G, hC⟩ := h3
            have hkey := key_tb hC.t hx
            obtain ⟨x1, x2⟩ := x
            dsimp only at c0 c1 hkey
            have hee := eqb_true x1
            clear hcs hx
            go_wp2_with fail
            refine hkey.mono ?_
            rintro e w9 ⟨rfl, rfl⟩
            go_wp2_with fail
            go_roundw
            case rel => exact ⟨p + 1, by omega, by go_num, trivial⟩
            case measure => simp [intOf]; omega
          · obtain rfl : m = p := by omega
            have h4 := h3
            obtain ⟨F, G, hC⟩ := h4
            have hk1 := key_no (i := (m : Int)) hC.t (.inr (by rw [HL.out]; exact Int.le_refl _))
            have hk2 := key_no (i := -1) hC.t (.inl (by decide))
            clear hC
            go_wp2_with fail
            refine hk1.mono ?_
            rintro e w9 ⟨rfl, rfl⟩
            go_wp2_with fail
            refine hk2.mono ?_
            rintro e w9 ⟨rfl, rfl⟩
            clear hk1 hk2
            go_wp2_with fail
            refine (h3.allT (by rw [HL.out]; omega)).mono ?_
            rintro e w4 ⟨a5, m5, c5, rfl, hm5, hs5, h5⟩
            obtain rfl : m = m5 := HL.out.symm.trans hm5
            clear h3 hm5
            go_wp2_with fail
            refine (psame_walk l hs5 (h5.sl HL.out) HL.out (by omega)).mono ?_
            rintro e w6 ⟨rfl, f6⟩
            have h6 := h5.fr f6
            clear h5 f6 hs5
            go_wp2_with fail
            refine (h6.swap.allT (by rw [HL.out]; omega)).mono ?_
            rintro e w7 ⟨a7, m7, c7, rfl, hm7, hs7, h7⟩
            obtain rfl : m = m7 := HL.out.symm.trans hm7
            clear h6 hm7
            go_wp2_with fail
            refine (psame_walk l hs7 (h7.sl HL.out) HL.out (by omega)).mono ?_
            rintro e w8 ⟨rfl, f8⟩
            have h8 := h7.fr f8
            clear h7 f8 hs7
            have hbel := h8.below
            have hle := h8.le
            clear h8
            go_wp2_with fail
            refine (awake_walk w8).mono ?_
            rintro e w9 ⟨rfl, hb9⟩
            replace hbel := hbel.trans (hb9.mono hle)
            clear hb9 hle
            go_wp2_with fail
            go_ret
            exact ⟨rfl, hbel⟩
end Go.Proofs.Ytgdmkiobidnhnaa
