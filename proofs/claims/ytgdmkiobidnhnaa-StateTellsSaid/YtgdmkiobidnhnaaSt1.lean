/-
  States: Right, Get, load, now. Conditions: the pairs lie where the slices say.
-/
import Derived.Test.YtgdmkiobidnhnaaTwo
import Derived.Test.YtgdmkiobidnhnaaQ
import Derived.Laws.Rows
namespace Go.Proofs.Ytgdmkiobidnhnaa
open Go.RowKit

def upB : Ps → Bool
  | [] => true
  | [_] => true
  | a :: b :: r => lt a.1 b.1 && upB (b :: r)
theorem upB_up : ∀ (m : Ps), upB m = true → Up m
  | [], _ => Up.nil
  | [a], _ => List.pairwise_singleton _ _
  | a :: b :: r, h => by
    unfold upB at h
    obtain ⟨h1, h2⟩ := Bool.and_eq_true_iff.1 h
    have hu := upB_up (b :: r) h2
    refine List.pairwise_cons.2 ⟨fun x hx => ?_, hu⟩
    rcases List.mem_cons.1 hx with e | e
    · rw [e]; exact h1
    · exact lt_trans h1 (hu.hd x e)
theorem up_upB : ∀ (m : Ps), Up m → upB m = true
  | [], _ => rfl
  | [a], _ => rfl
  | a :: b :: r, h => by
    unfold upB
    rw [h.hd b List.mem_cons_self, up_upB (b :: r) h.tl]; rfl
theorem upB_all {m : Ps} (h : ∀ (p : Nat) x y, m[p]? = some x → m[p + 1]? = some y → lt x.1 y.1 = true) : upB m = true := by
  induction m with
  | nil => rfl
  | cons a r ih =>
    cases r with
    | nil => rfl
    | cons b s =>
      unfold upB
      rw [h 0 a b rfl rfl, ih fun p x y hx hy => h (p + 1) x y (by simpa using hx) (by simpa using hy)]; rfl
theorem upB_bad {m : Ps} {p q : Nat} {x y : ByteArray × ByteArray} (hpq : p < q) (hx : m[p]? = some x) (hy : m[q]? = some y) (h : lt x.1 y.1 = false) : upB m = false := by
  cases hu : upB m with
  | false => rfl
  | true =>
    have hu := upB_up m hu
    obtain ⟨q1, e1⟩ := List.getElem?_eq_some_iff.1 hx
    obtain ⟨q2, e2⟩ := List.getElem?_eq_some_iff.1 hy
    have := List.pairwise_iff_getElem.1 hu p q q1 q2 hpq
    rw [e1, e2, h] at this; cases this
theorem upB_pairs {m : Ps} (h : ∀ (p q : Nat) x y, p < q → m[p]? = some x → m[q]? = some y → lt x.1 y.1 = true) : upB m = true :=
  upB_all fun p x y hx hy => h p (p + 1) x y (by omega) hx hy
set_option maxRecDepth 20000 in
set_option maxHeartbeats 2000000 in
theorem right_walk {a : Option Addr} {n c : Nat} {w : World} (m : Ps) (h : Sl w (.slice a n c) n 2 (pairsL m)) (hl : m.length = n) (hn : n ≤ 1000000) :
    Calls Try.prog 49 #[.slice a n c] w fun e w' => e = .returned (.bool (upB m)) ∧ Fr w w' := by
  have HO := Go.Lib.hid (And.intro h hl)
  clear h hl
  go_enter Try.func49, Try.ntmps49
  go_wp2_with fail
  go_loopw [3] (fun i wk => ∃ q : Nat, (1 ≤ q ∧ (q ≤ n ∨ q = 1)) ∧ i = .int .i64 (q : Nat) ∧ (∀ (p : Nat) x y, p + 1 < q → m[p]? = some x → m[p + 1]? = some y → lt x.1 y.1 = true) ∧ Fr w wk) (fun i _ => n + 1 - (intOf i).toNat)
  case atStart => exact ⟨1, ⟨Nat.le_refl _, .inr rfl⟩, rfl, (fun p x y hp => by omega), Fr.refl _⟩
  case round =>
    obtain ⟨q, ⟨hq1, hq2⟩, rfl, hall, hf⟩ := hrel
    by_cases hlt : q < n
    · obtain ⟨p, hpq⟩ : ∃ p, p + 1 = q := ⟨q - 1, by omega⟩
      obtain ⟨x, hx⟩ : ∃ x, m[p]? = some x := ⟨_, List.getElem?_eq_getElem (by rw [HO.out.2]; omega)⟩
      obtain ⟨y, hy⟩ : ∃ y, m[q]? = some y := ⟨_, List.getElem?_eq_getElem (by rw [HO.out.2]; omega)⟩
      obtain ⟨b1, o1, rfl, hc1, hcs⟩ := pair_cells' HO.out.1 hx HO.out.2
      obtain ⟨b2, o2, e2, hc2, hcs2⟩ := pair_cells' HO.out.1 hy HO.out.2
      cases e2
      have hst : lt x.1 y.1 = true → ∀ (p : Nat) x y, p + 1 < q + 1 → m[p]? = some x → m[p + 1]? = some y → lt x.1 y.1 = true := fun he p' x' y' hp' hx' hy' => by
        by_cases e : p' = p
        · subst e; rw [hpq] at hy'; rw [hx] at hx'; rw [hy] at hy'; cases hx'; cases hy'; exact he
        · exact hall p' x' y' (by omega) hx' hy'
      have hbad : lt x.1 y.1 = false → upB m = false := fun he => upB_bad (by omega) hx hy he
      obtain ⟨r, hr⟩ : ∃ r, lt x.1 y.1 = r := ⟨_, rfl⟩
      rw [hr] at hst hbad
      have hr2 : Op.bytesLess x.1.toList y.1.toList = r := hr
      obtain ⟨x1, x2⟩ := x
      obtain ⟨y1, y2⟩ := y
      dsimp only at hcs hcs2 hr2
      have ca : ∀ w', Fr wr w' → w'.cell? ⟨b1, o1 + p * 2, none⟩ = some (.string x1) := fun w' hw' => (hcs w' (hf.trans hw')).1
      have cb : ∀ w', Fr wr w' → w'.cell? ⟨b1, o1 + q * 2, none⟩ = some (.string y1) := fun w' hw' => (hcs2 w' (hf.trans hw')).1
      have hi1 : IntKind.i64.wrap ((q : Int) - 1) = (p : Nat) := by rw [IntWalk.i64_in _ (by omega)]; omega
      have hplt : p < n := by omega
      have HH := Go.Lib.hid (And.intro hst (And.intro hbad hpq))
      clear hcs hcs2 hx hy hr hall hst hbad hpq
      cases r with
      | true =>
        go_wp2_with fail
        refine wp_region_classW (Fr wr) (by kernel_rfl) (by kernel_rfl) (Fr.draw _) ?_
        repeat (first
          | (refine WQ.val rfl ?_
             apply Exists.intro
             refine ⟨?_, ?_⟩
             focus (intro w' hw'; go_simp; (try go_bits); with_reducible rfl)
             simp only [Act.put, List.setIfInBounds_toArray, List.set_cons_zero, List.set_cons_succ])
          | (refine WQ.pass rfl ?_
             simp only [Act.put, List.setIfInBounds_toArray, List.set_cons_zero, List.set_cons_succ]))
        refine WQ.nil ?_
        intro w5 f5
        go_wp2_with fail
        go_roundw
        case rel => exact ⟨q + 1, by omega, by go_num, HH.out.1 trivial, hf.trans f5⟩
        case measure => simp [intOf]; omega
      | false =>
        go_wp2_with fail
        refine wp_region_classW (Fr wr) (by kernel_rfl) (by kernel_rfl) (Fr.draw _) ?_
        repeat (first
          | (refine WQ.val rfl ?_
             apply Exists.intro
             refine ⟨?_, ?_⟩
             focus (intro w' hw'; go_simp; (try go_bits); with_reducible rfl)
             simp only [Act.put, List.setIfInBounds_toArray, List.set_cons_zero, List.set_cons_succ])
          | (refine WQ.pass rfl ?_
             simp only [Act.put, List.setIfInBounds_toArray, List.set_cons_zero, List.set_cons_succ]))
        refine WQ.nil ?_
        intro w5 f5
        go_wp2_with fail
        go_ret
        exact ⟨by rw [HH.out.2.1 trivial]; rfl, hf.trans f5⟩
    · have hfin : upB m = true := upB_all fun p x y hx hy => hall p x y (by have := (List.getElem?_eq_some_iff.1 hy).1; have := HO.out.2; omega) hx hy
      have HH := Go.Lib.hid hfin
      clear hall hfin
      go_wp2_with fail
      go_ret
      exact ⟨by rw [HH.out]; rfl, hf⟩
theorem sget_walk {a : Option Addr} {n c : Nat} {w : World} (m : Ps) (h : Sl w (.slice a n c) n 2 (pairsL m)) (hl : m.length = n) (hn : n ≤ 1000000) (k : ByteArray) :
    Calls Try.prog 48 #[.slice a n c, .string k] w fun e w' => e = .returned (.tuple #[.string ((get m k).getD ⟨#[]⟩), .bool (get m k).isSome]) ∧ Fr w w' := by
  go_enter Try.func48, Try.ntmps48
  go_wp2_with fail
  go_loopw [10] (fun i wk => ∃ j : Nat, j ≤ n ∧ i = .int .i64 j ∧ (∀ x ∈ m.take j, x.1 ≠ k) ∧ Fr w wk) (fun i _ => n - (intOf i).toNat)
  case atStart => exact ⟨0, Nat.zero_le _, rfl, (by intro x hx; simp at hx), Fr.refl _⟩
  case round =>
    obtain ⟨j, hj, rfl, hno, hf⟩ := hrel
    by_cases hlt : j < n
    · obtain ⟨x, hx⟩ : ∃ x, m[j]? = some x := ⟨_, List.getElem?_eq_getElem (by omega)⟩
      obtain ⟨b, o, rfl, hb, hnc, hcs⟩ := pair_cells h hx hl
      obtain ⟨c0, c1⟩ := hcs wr hf
      have f5 := hf.alloc (.cells #[.string x.1, .string x.2] 42)
      by_cases he : x.1 = k
      · have hg := get_found hno hx he
        have hq : (x.1.toList == k.toList) = true := by rw [he]; exact eqb_true k
        have hg2 : (get m k).getD ⟨#[]⟩ = x.2 ∧ (get m k).isSome = true := by rw [hg]; exact ⟨rfl, rfl⟩
        have HH := Go.Lib.hid hg2
        clear hcs h hx hno hl he hg hg2
        obtain ⟨x1, x2⟩ := x
        dsimp only at c0 c1 hq f5
        go_wp2_with fail
        go_ret2
        exact ⟨by rw [HH.out.1, HH.out.2]; rfl, f5⟩
      · have hst := not_step hno hx he
        have hq : (x.1.toList == k.toList) = false := eqb_false he
        have HH := Go.Lib.hid hst
        clear hcs h hx hno hl he hst
        obtain ⟨x1, x2⟩ := x
        dsimp only at c0 c1 hq f5
        go_wp2_with fail
        go_roundw
        case rel => exact ⟨j + 1, by omega, by go_num, HH.out, f5⟩
        case measure => simp [intOf]; omega
    · obtain rfl : n = j := by omega
      rw [List.take_of_length_le (by omega)] at hno
      have hg := get_absent hno
      have hg2 : (get m k).getD ⟨#[]⟩ = ⟨#[]⟩ ∧ (get m k).isSome = false := by rw [hg]; exact ⟨rfl, rfl⟩
      have HH := Go.Lib.hid hg2
      clear h hno hl hg hg2
      go_wp2_with fail
      go_ret2
      exact ⟨by rw [HH.out.1, HH.out.2]; rfl, hf⟩
theorem put_end : ∀ (l : Ps) (k v : ByteArray), (∀ x ∈ l, lt x.1 k = true) → put l k v = l ++ [(k, v)]
  | [], _, _, _ => rfl
  | a :: r, k, v, h => by
    unfold put
    rw [if_pos (h a List.mem_cons_self), put_end r k v fun x hx => h x (List.mem_cons_of_mem _ hx)]; rfl
theorem put_take {m : Ps} {j : Nat} {x : ByteArray × ByteArray} (hu : Up m) (hx : m[j]? = some x) : put (m.take j) x.1 x.2 = m.take (j + 1) := by
  rw [put_end, List.take_add_one, hx]
  · rfl
  · intro y hy
    obtain ⟨i, hi, rfl⟩ := List.mem_take_iff_getElem.1 hy
    obtain ⟨q, e⟩ := List.getElem?_eq_some_iff.1 hx
    have := List.pairwise_iff_getElem.1 hu i j (by omega) q (by omega)
    rw [e] at this; exact this
def LoadPost (m : Ps) (W : World) (e : Ending) (w' : World) : Prop := ∃ T F, e = .returned (.pointer (some ⟨T, 0, none⟩)) ∧ Tb W.heap.size F T m w' ∧ Fr W w'
set_option maxHeartbeats 2000000 in
theorem load_walk {a : Option Addr} {n c : Nat} {w : World} (m : Ps) (hu : Up m) (h : Sl w (.slice a n c) n 2 (pairsL m)) (hl : m.length = n) (hn : n ≤ 1000) :
    Calls Try.prog 66 #[.slice a n c] w (LoadPost m w) := by
  obtain ⟨S, hS⟩ : ∃ S, w.heap.size = S := ⟨_, rfl⟩
  unfold LoadPost
  rw [hS]
  have HO := Go.Lib.hid (And.intro h (And.intro hl hu))
  clear h hl hu
  go_enter Try.func66, Try.ntmps66
  go_wp2_with fail
  refine (new_tb w).mono ?_
  rintro e w1 ⟨T, F, rfl, ht, f1⟩
  rw [hS] at ht
  have hb1 : Below S w w1 := hS ▸ f1
  clear f1
  go_wp2_with fail
  go_loopw [9] (fun i wk => ∃ j : Nat, j ≤ n ∧ i = .int .i64 j ∧ (∃ F, Tb S F T (m.take j) wk) ∧ Below S w wk) (fun i _ => n - (intOf i).toNat)
  case atStart => exact ⟨0, Nat.zero_le _, rfl, ⟨F, by simpa using ht⟩, hb1⟩
  case round =>
    clear ht hb1
    obtain ⟨j, hj, rfl, ⟨F', ht⟩, hb⟩ := hrel
    by_cases hlt : j < n
    · obtain ⟨x, hx⟩ : ∃ x, m[j]? = some x := ⟨_, List.getElem?_eq_getElem (by have := HO.out.2.1; omega)⟩
      have hf0 : Fr w wr := by show Below w.heap.size w wr; rw [hS]; exact hb
      obtain ⟨b, o, rfl, hbb, hnc, hcs⟩ := pair_cells HO.out.1 hx HO.out.2.1
      obtain ⟨c0, c1⟩ := hcs wr hf0
      have f5 := (Fr.refl wr).alloc (.cells #[.string x.1, .string x.2] 42)
      have hp := put_b (ht.fr f5) (by rw [List.length_take]; omega) x.1 x.2 (put_take HO.out.2.2 hx)
      have hb5 : Below S w (wr.alloc (.cells #[.string x.1, .string x.2] 42)) := hb.trans (f5.below_of ht.le)
      obtain ⟨x1, x2⟩ := x
      dsimp only at c0 c1 hp hb5
      clear hcs hx ht hb f5 hf0
      go_wp2_with fail
      refine hp.mono ?_
      rintro e w6 ⟨rfl, ht6, hb6⟩
      replace hb5 := hb5.trans hb6
      clear hp c0 c1 hb6
      go_wp2_with fail
      go_roundw
      case rel => exact ⟨j + 1, by omega, by go_num, ht6, hb5⟩
      case measure => simp [intOf]; omega
    · obtain rfl : n = j := by omega
      rw [List.take_of_length_le (by have := HO.out.2.1; omega)] at ht
      go_wp2_with fail
      go_ret
      exact ⟨T, F', rfl, ht, by show Below w.heap.size w wr; rw [hS]; exact hb⟩
def nowA (m : Ps) (k : ByteArray) : Value := .agg #[.string k, .bool (get m k).isSome, .string ((get m k).getD ⟨#[]⟩)]
theorem now_walk {B T : Nat} {F : Nat → Prop} {l : Ps} {w : World} (h : Tb B F T l w) (hn : l.length ≤ 1000000) (k : ByteArray) : Calls Try.prog 67 #[.pointer (some ⟨T, 0, none⟩), .string k] w fun e w' => e = .returned (nowA l k) ∧ Fr w w' := by
  have f1 := (Fr.refl w).alloc (.cells #[.string ⟨#[]⟩, .bool false, .string ⟨#[]⟩] 69)
  have b1 := heap_alloc_new w (.cells #[.string ⟨#[]⟩, .bool false, .string ⟨#[]⟩] 69)
  have hg := get_tb (h.fr f1) hn k
  obtain ⟨S, hS⟩ : ∃ S, w.heap.size = S := ⟨_, rfl⟩
  have hz : (w.alloc (.cells #[.string ⟨#[]⟩, .bool false, .string ⟨#[]⟩] 69)).heap.size = S + 1 := by simp [hS]
  rw [hS] at b1
  unfold nowA
  unfold GetPost at hg
  generalize (get l k).isSome = is at *
  generalize (get l k).getD ⟨#[]⟩ = v at *
  clear h
  go_enter Try.func67, Try.ntmps67
  go_wp2_with fail
  generalize w.alloc (.cells #[.string ⟨#[]⟩, .bool false, .string ⟨#[]⟩] 69) = w1 at *
  refine hg.mono ?_
  rintro e w2 ⟨rfl, f2⟩
  have b2 := (f2.heap (k := S) (by omega)).trans b1
  have f3 := f1.trans f2
  have z0 : w2.cell? ⟨S, 0, none⟩ = some (.string ⟨#[]⟩) := cell_at b2 0
  have z1 : w2.cell? ⟨S, 1, none⟩ = some (.bool false) := cell_at b2 1
  have z2 : w2.cell? ⟨S, 2, none⟩ = some (.string ⟨#[]⟩) := cell_at b2 2
  have y0 : w2.frozen? ⟨S, 0, none⟩ = false := frozen_at b2 0
  have y1 : w2.frozen? ⟨S, 1, none⟩ = false := frozen_at b2 1
  have y2 : w2.frozen? ⟨S, 2, none⟩ = false := frozen_at b2 2
  clear hg f1 f2 b1
  go_wp2_with fail
  have b5 := set_block (set_block (set_block b2 0 (.string k)) 1 (.bool is)) 2 (.string v)
  have hbut : But (fun k => k = S) w (((w2.setCell ⟨S, 0, none⟩ (.string k)).setCell ⟨S, 1, none⟩ (.bool is)).setCell ⟨S, 2, none⟩ (.string v)) :=
    (((But.of_fr f3).trans (But.set w2 ⟨S, 0, none⟩ _)).trans (But.set _ ⟨S, 1, none⟩ _)).trans (But.set _ ⟨S, 2, none⟩ _)
  refine bodyPost_ret (results_cell_row rfl _ _ S 69 #[.string k, .bool is, .string v] (0, 0) _ rfl b5 Try.underlying69 rfl (by kernel_rfl)) rfl ⟨rfl, hbut.fr fun j hj e => by omega⟩
end Go.Proofs.Ytgdmkiobidnhnaa
