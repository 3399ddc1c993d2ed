/-
  Which operations may be, their keys and what they change: the program's answers, and the law's small helpers. Conditions: the parts lie where the slices say, at most a thousand of each.
-/
import Derived.Test.YtgdmkiobidnhnaaParts
import Derived.Test.YtgdmkiobidnhnaaKeys
namespace Go.Proofs.Ytgdmkiobidnhnaa
open Go.RowKit

theorem ngd_walk (g : Gd) (w : World) : Calls Try.prog 60 #[gdA g] w fun e w' => e = .returned (.bool (!okGd g)) ∧ Fr w w' := by
  have f1 := (Fr.refl w).alloc (.cells #[.int .i64 g.k, .string g.key, .string g.val] 56)
  have hw := gd_walk g (w.alloc (.cells #[.int .i64 g.k, .string g.key, .string g.val] 56))
  unfold gdA at hw ⊢
  generalize okGd g = r at *
  go_enter Try.func60, Try.ntmps60
  go_wp2_with fail
  refine hw.mono ?_
  rintro e w' ⟨rfl, f2⟩
  have f3 := f1.trans f2
  clear f1 f2 hw
  go_wp2_with fail
  go_ret
  exact ⟨rfl, f3⟩
theorem nsp_walk (s : Sp) (w : World) : Calls Try.prog 62 #[spA s] w fun e w' => e = .returned (.bool (!okSp s)) ∧ Fr w w' := by
  have f1 := (Fr.refl w).alloc (.cells #[.int .i64 s.k, .string s.key, .string s.val, .string s.old, .int .i64 s.n] 58)
  have hw := sp_walk s (w.alloc (.cells #[.int .i64 s.k, .string s.key, .string s.val, .string s.old, .int .i64 s.n] 58))
  unfold spA at hw ⊢
  generalize okSp s = r at *
  go_enter Try.func62, Try.ntmps62
  go_wp2_with fail
  refine hw.mono ?_
  rintro e w' ⟨rfl, f2⟩
  have f3 := f1.trans f2
  clear f1 f2 hw
  go_wp2_with fail
  go_ret
  exact ⟨rfl, f3⟩
def IdxPost (bad : Bool) (W : World) (e : Ending) (w' : World) : Prop := ∃ r : Int, e = .returned (.int .i64 r) ∧ decide (0 ≤ r) = bad ∧ Fr W w'
theorem all_push {α : Type} {p : α → Bool} {m : List α} {j : Nat} {x : α} (h : (m.take j).all p = true) (hx : m[j]? = some x) (hp : p x = true) : (m.take (j + 1)).all p = true := by
  rw [List.take_add_one, hx, List.all_append, h]; simp [hp]
theorem all_bad {α : Type} {p : α → Bool} {m : List α} {j : Nat} {x : α} (hx : m[j]? = some x) (hp : p x = false) : m.all p = false := by
  rw [Bool.eq_false_iff]; intro h
  rw [List.all_eq_true] at h
  rw [h x (List.mem_of_getElem? hx)] at hp; cases hp
theorem gidx_walk {a : Option Addr} {n c : Nat} {w : World} (m : List Gd) (h : Sl w (.slice a n c) n 3 (gdL m)) (hl : m.length = n) (hn : n ≤ 1000) :
    Calls Try.prog 78 #[.slice a n c, .func (.func 60) #[] #[]] w (IdxPost (!m.all okGd) w) := by
  have HO := Go.Lib.hid (And.intro h hl)
  clear h hl
  go_enter Try.func78, Try.ntmps78
  go_wp2_with fail
  go_loopw [8] (fun i wk => ∃ j : Nat, j ≤ n ∧ i = .int .i64 j ∧ (m.take j).all okGd = true ∧ Fr w wk) (fun i _ => n - (intOf i).toNat)
  case atStart => exact ⟨0, Nat.zero_le _, rfl, by simp, Fr.refl _⟩
  case round =>
    obtain ⟨j, hj, rfl, hall, hf⟩ := hrel
    by_cases hlt : j < n
    · obtain ⟨x, hx⟩ : ∃ x, m[j]? = some x := ⟨_, List.getElem?_eq_getElem (by have := HO.out.2; omega)⟩
      obtain ⟨b, o, rfl, hb, hnc, hcs⟩ := gd_cells HO.out.1 hx HO.out.2
      obtain ⟨c0, c1, c2⟩ := hcs wr hf
      have hw := ngd_walk x wr
      unfold gdA at hw
      obtain ⟨r, hr⟩ : ∃ r, okGd x = r := ⟨_, rfl⟩
      rw [hr] at hw
      cases r with
      | true =>
        have HH := Go.Lib.hid (And.intro (all_push hall hx hr) hf)
        clear hcs hx hr hall hf
        obtain ⟨xk, xa, xv⟩ := x
        dsimp only at c0 c1 c2 hw
        go_wp2_with fail
        refine hw.mono ?_
        rintro e w5 ⟨rfl, f5⟩
        clear c0 c1 c2 hw
        go_wp2_with fail
        go_roundw
        case rel => exact ⟨j + 1, by omega, by go_num, HH.out.1, HH.out.2.trans f5⟩
        case measure => simp [intOf]; omega
      | false =>
        have HH := Go.Lib.hid (And.intro (all_bad hx hr) hf)
        clear hcs hx hr hall hf
        obtain ⟨xk, xa, xv⟩ := x
        dsimp only at c0 c1 c2 hw
        go_wp2_with fail
        refine hw.mono ?_
        rintro e w5 ⟨rfl, f5⟩
        clear c0 c1 c2 hw
        go_wp2_with fail
        go_ret
        exact ⟨_, rfl, by rw [HH.out.1]; simp, HH.out.2.trans f5⟩
    · obtain rfl : n = j := by omega
      rw [List.take_of_length_le (by have := HO.out.2; omega)] at hall
      have HH := Go.Lib.hid (And.intro hall hf)
      clear hall hf
      go_wp2_with fail
      go_ret
      exact ⟨_, rfl, by rw [HH.out.1]; rfl, HH.out.2⟩
theorem sidx_walk {a : Option Addr} {n c : Nat} {w : World} (m : List Sp) (h : Sl w (.slice a n c) n 5 (spL m)) (hl : m.length = n) (hn : n ≤ 1000) :
    Calls Try.prog 79 #[.slice a n c, .func (.func 62) #[] #[]] w (IdxPost (!m.all okSp) w) := by
  have HO := Go.Lib.hid (And.intro h hl)
  clear h hl
  go_enter Try.func79, Try.ntmps79
  go_wp2_with fail
  go_loopw [8] (fun i wk => ∃ j : Nat, j ≤ n ∧ i = .int .i64 j ∧ (m.take j).all okSp = true ∧ Fr w wk) (fun i _ => n - (intOf i).toNat)
  case atStart => exact ⟨0, Nat.zero_le _, rfl, by simp, Fr.refl _⟩
  case round =>
    obtain ⟨j, hj, rfl, hall, hf⟩ := hrel
    by_cases hlt : j < n
    · obtain ⟨x, hx⟩ : ∃ x, m[j]? = some x := ⟨_, List.getElem?_eq_getElem (by have := HO.out.2; omega)⟩
      obtain ⟨b, o, rfl, hb, hnc, hcs⟩ := sp_cells HO.out.1 hx HO.out.2
      obtain ⟨c0, c1, c2, c3, c4⟩ := hcs wr hf
      have hw := nsp_walk x wr
      unfold spA at hw
      obtain ⟨r, hr⟩ : ∃ r, okSp x = r := ⟨_, rfl⟩
      rw [hr] at hw
      cases r with
      | true =>
        have HH := Go.Lib.hid (And.intro (all_push hall hx hr) hf)
        clear hcs hx hr hall hf
        obtain ⟨xk, xa, xv, xo, xn⟩ := x
        dsimp only at c0 c1 c2 c3 c4 hw
        go_wp2_with fail
        refine hw.mono ?_
        rintro e w5 ⟨rfl, f5⟩
        clear c0 c1 c2 c3 c4 hw
        go_wp2_with fail
        go_roundw
        case rel => exact ⟨j + 1, by omega, by go_num, HH.out.1, HH.out.2.trans f5⟩
        case measure => simp [intOf]; omega
      | false =>
        have HH := Go.Lib.hid (And.intro (all_bad hx hr) hf)
        clear hcs hx hr hall hf
        obtain ⟨xk, xa, xv, xo, xn⟩ := x
        dsimp only at c0 c1 c2 c3 c4 hw
        go_wp2_with fail
        refine hw.mono ?_
        rintro e w5 ⟨rfl, f5⟩
        clear c0 c1 c2 c3 c4 hw
        go_wp2_with fail
        go_ret
        exact ⟨_, rfl, by rw [HH.out.1]; simp, HH.out.2.trans f5⟩
    · obtain rfl : n = j := by omega
      rw [List.take_of_length_le (by have := HO.out.2; omega)] at hall
      have HH := Go.Lib.hid (And.intro hall hf)
      clear hall hf
      go_wp2_with fail
      go_ret
      exact ⟨_, rfl, by rw [HH.out.1]; rfl, HH.out.2⟩
theorem gcont_walk {a : Option Addr} {n c : Nat} {w : World} (m : List Gd) (h : Sl w (.slice a n c) n 3 (gdL m)) (hl : m.length = n) (hn : n ≤ 1000) :
    Calls Try.prog 59 #[.slice a n c, .func (.func 60) #[] #[]] w fun e w' => e = .returned (.bool (!m.all okGd)) ∧ Fr w w' := by
  have hw := gidx_walk m h hl hn
  generalize m.all okGd = r at *
  clear h hl
  go_enter Try.func59, Try.ntmps59
  go_wp2_with fail
  refine hw.mono ?_
  rintro e w' ⟨q, rfl, hq, f2⟩
  clear hw
  have HH := Go.Lib.hid hq
  clear hq
  go_wp2_with fail
  go_ret
  exact ⟨by rw [← HH.out]; rfl, f2⟩
theorem scont_walk {a : Option Addr} {n c : Nat} {w : World} (m : List Sp) (h : Sl w (.slice a n c) n 5 (spL m)) (hl : m.length = n) (hn : n ≤ 1000) :
    Calls Try.prog 61 #[.slice a n c, .func (.func 62) #[] #[]] w fun e w' => e = .returned (.bool (!m.all okSp)) ∧ Fr w w' := by
  have hw := sidx_walk m h hl hn
  generalize m.all okSp = r at *
  clear h hl
  go_enter Try.func61, Try.ntmps61
  go_wp2_with fail
  refine hw.mono ?_
  rintro e w' ⟨q, rfl, hq, f2⟩
  clear hw
  have HH := Go.Lib.hid hq
  clear hq
  go_wp2_with fail
  go_ret
  exact ⟨by rw [← HH.out]; rfl, f2⟩
end Go.Proofs.Ytgdmkiobidnhnaa
