/-
  The library's Equal at rows of guards and of steps; an operation's Same. Conditions: the parts lie where the slices say, at most a million of each.
-/
import Derived.Test.YtgdmkiobidnhnaaStep
import Derived.Test.YtgdmkiobidnhnaaQ
namespace Go.Proofs.Ytgdmkiobidnhnaa
open Go.RowKit

def allEq {α : Type} (f : α → α → Bool) : List α → List α → Bool
  | [], [] => true
  | a :: r, b :: s => f a b && allEq f r s
  | _, _ => false
theorem allEq_len {α : Type} {f : α → α → Bool} : ∀ {m m2 : List α}, m.length ≠ m2.length → allEq f m m2 = false
  | [], [], h => absurd rfl h
  | [], _ :: _, _ => rfl
  | _ :: _, [], _ => rfl
  | a :: r, b :: s, h => by
    have := allEq_len (f := f) (m := r) (m2 := s) (by simpa using h)
    simp [allEq, this]
theorem allEq_at {α : Type} {f : α → α → Bool} : ∀ {m m2 : List α} {j : Nat} {x y : α}, m[j]? = some x → m2[j]? = some y → f x y = false → allEq f m m2 = false
  | [], _, _, _, _, h, _, _ => by simp at h
  | _ :: _, [], _, _, _, _, h, _ => by simp at h
  | a :: r, b :: s, 0, x, y, hx, hy, h => by
    simp at hx hy; subst hx hy; simp [allEq, h]
  | a :: r, b :: s, j + 1, x, y, hx, hy, h => by
    have := allEq_at (f := f) (m := r) (m2 := s) (j := j) (by simpa using hx) (by simpa using hy) h
    simp [allEq, this]
theorem allEq_all {α : Type} {f : α → α → Bool} : ∀ {m m2 : List α}, m.length = m2.length → (∀ (i : Nat) x y, m[i]? = some x → m2[i]? = some y → f x y = true) → allEq f m m2 = true
  | [], [], _, _ => rfl
  | [], _ :: _, h, _ => by simp at h
  | _ :: _, [], h, _ => by simp at h
  | a :: r, b :: s, h, k => by
    have h1 := k 0 a b rfl rfl
    have h2 := allEq_all (f := f) (m := r) (m2 := s) (by simpa using h) (fun i x y hx hy => k (i + 1) x y (by simpa using hx) (by simpa using hy))
    simp [allEq, h1, h2]
theorem allEq_self {α : Type} {f : α → α → Bool} (hf : ∀ x, f x x = true) (m : List α) : allEq f m m = true :=
  allEq_all rfl fun i x y hx hy => by rw [hx] at hy; cases hy; exact hf x
def eqGd (x y : Gd) : Bool := x.k == y.k && x.key.toList == y.key.toList && x.val.toList == y.val.toList
def eqSp (x y : Sp) : Bool := x.k == y.k && x.key.toList == y.key.toList && x.val.toList == y.val.toList && x.old.toList == y.old.toList && x.n == y.n
theorem eqGd_self (x : Gd) : eqGd x x = true := by simp [eqGd]
theorem eqSp_self (x : Sp) : eqSp x x = true := by simp [eqSp]
theorem gd_neq (k k' : Int) (a a' b b' : ByteArray) (w : World) : (binOp .neq 56 (.agg #[.int .i64 k, .string a, .string b]) (.agg #[.int .i64 k', .string a', .string b'])).run Try.prog w = .ok (.bool (!eqGd ⟨k, a, b⟩ ⟨k', a', b'⟩)) w := by
  have h : (Op.equal 56 (.agg #[.int .i64 k, .string a, .string b]) (.agg #[.int .i64 k', .string a', .string b'])).run Try.prog w = .ok (eqGd ⟨k, a, b⟩ ⟨k', a', b'⟩) w := by
    simp only [Op.equal, Op.maxDepth, eqGd]
    go_simp
    by_cases h1 : k = k' <;> by_cases h2 : a.toList = a'.toList <;> by_cases h3 : b.toList = b'.toList <;> simp [h1, h2, h3]
  simp [binOp, h]
theorem sp_neq (k k' n n' : Int) (a a' b b' c c' : ByteArray) (w : World) : (binOp .neq 58 (.agg #[.int .i64 k, .string a, .string b, .string c, .int .i64 n]) (.agg #[.int .i64 k', .string a', .string b', .string c', .int .i64 n'])).run Try.prog w =
    .ok (.bool (!eqSp ⟨k, a, b, c, n⟩ ⟨k', a', b', c', n'⟩)) w := by
  have h : (Op.equal 58 (.agg #[.int .i64 k, .string a, .string b, .string c, .int .i64 n]) (.agg #[.int .i64 k', .string a', .string b', .string c', .int .i64 n'])).run Try.prog w = .ok (eqSp ⟨k, a, b, c, n⟩ ⟨k', a', b', c', n'⟩) w := by
    simp only [Op.equal, Op.maxDepth, eqSp]
    go_simp
    by_cases h1 : k = k' <;> by_cases h2 : a.toList = a'.toList <;> by_cases h3 : b.toList = b'.toList <;> by_cases h4 : c.toList = c'.toList <;> by_cases h5 : n = n' <;> simp [h1, h2, h3, h4, h5]
  simp [binOp, h]
set_option maxRecDepth 20000 in
set_option maxHeartbeats 2000000 in
theorem geq_walk {a b : Option Addr} {n c n2 c2 : Nat} {w : World} (m m2 : List Gd) (h : Sl w (.slice a n c) n 3 (gdL m)) (h2 : Sl w (.slice b n2 c2) n2 3 (gdL m2)) (hl : m.length = n) (hl2 : m2.length = n2) (hn : n ≤ 1000000) (hn2 : n2 ≤ 1000000) :
    Calls Try.prog 63 #[.slice a n c, .slice b n2 c2] w fun e w' => e = .returned (.bool (allEq eqGd m m2)) ∧ Fr w w' := by
  have HO := Go.Lib.hid (And.intro h (And.intro h2 (And.intro hl hl2)))
  clear h h2 hl hl2
  by_cases hne : n = n2
  · subst hne
    go_enter Try.func63, Try.ntmps63
    go_wp2_with fail
    go_loopw [13] (fun i wk => ∃ j : Nat, j ≤ n ∧ i = .int .i64 j ∧ (∀ (i : Nat) x y, i < j → m[i]? = some x → m2[i]? = some y → eqGd x y = true) ∧ Fr w wk) (fun i _ => n - (intOf i).toNat)
    case atStart => exact ⟨0, Nat.zero_le _, rfl, (fun i x y hi => absurd hi (Nat.not_lt_zero _)), Fr.refl _⟩
    case round =>
      obtain ⟨j, hj, rfl, hall, hf⟩ := hrel
      by_cases hlt : j < n
      · obtain ⟨x, hx⟩ : ∃ x, m[j]? = some x := ⟨_, List.getElem?_eq_getElem (by have := HO.out.2.2.1; omega)⟩
        obtain ⟨y, hy⟩ : ∃ y, m2[j]? = some y := ⟨_, List.getElem?_eq_getElem (by have := HO.out.2.2.2; omega)⟩
        obtain ⟨b1, o1, rfl, hb1, hc1, hcs⟩ := gd_cells HO.out.1 hx HO.out.2.2.1
        obtain ⟨b2, o2, rfl, hb2, hc2, hcs2⟩ := gd_cells HO.out.2.1 hy HO.out.2.2.2
        have hst : eqGd x y = true → ∀ (i : Nat) x y, i < j + 1 → m[i]? = some x → m2[i]? = some y → eqGd x y = true := fun he i x' y' hi hx' hy' => by
          by_cases hij : i = j
          · subst hij; rw [hx] at hx'; rw [hy] at hy'; cases hx'; cases hy'; exact he
          · exact hall i x' y' (by omega) hx' hy'
        have hbad : eqGd x y = false → allEq eqGd m m2 = false := fun he => allEq_at hx hy he
        obtain ⟨r, hr⟩ : ∃ r, eqGd x y = r := ⟨_, rfl⟩
        rw [hr] at hst hbad
        obtain ⟨xk, xa, xv⟩ := x
        obtain ⟨yk, ya, yv⟩ := y
        dsimp only at hcs hcs2
        have hneq := gd_neq xk yk xa ya xv yv
        rw [hr] at hneq
        have HH := Go.Lib.hid (And.intro hst hbad)
        have ca0 : ∀ w', Fr wr w' → w'.cell? ⟨b1, o1 + j * 3, none⟩ = some (.int .i64 xk) := fun w' hw' => (hcs w' (hf.trans hw')).1
        have ca1 : ∀ w', Fr wr w' → w'.cell? ⟨b1, o1 + j * 3 + 1, none⟩ = some (.string xa) := fun w' hw' => (hcs w' (hf.trans hw')).2.1
        have ca2 : ∀ w', Fr wr w' → w'.cell? ⟨b1, o1 + j * 3 + 2, none⟩ = some (.string xv) := fun w' hw' => (hcs w' (hf.trans hw')).2.2
        have cb0 : ∀ w', Fr wr w' → w'.cell? ⟨b2, o2 + j * 3, none⟩ = some (.int .i64 yk) := fun w' hw' => (hcs2 w' (hf.trans hw')).1
        have cb1 : ∀ w', Fr wr w' → w'.cell? ⟨b2, o2 + j * 3 + 1, none⟩ = some (.string ya) := fun w' hw' => (hcs2 w' (hf.trans hw')).2.1
        have cb2 : ∀ w', Fr wr w' → w'.cell? ⟨b2, o2 + j * 3 + 2, none⟩ = some (.string yv) := fun w' hw' => (hcs2 w' (hf.trans hw')).2.2
        clear hcs hcs2 hx hy hr hall hst hbad
        cases r with
        | true =>
          go_wp2_with fail
          refine wp_region_classW (Fr wr) (by kernel_rfl) (by kernel_rfl) (Fr.draw _) ?_
          repeat (first
            | (refine WQ.val rfl ?_
               apply Exists.intro
               refine ⟨?_, ?_⟩
               focus (intro w' hw'; go_simp; (try go_bits); with_reducible rfl)
               simp only [Act.put, List.setIfInBounds_toArray, List.set_cons_zero, List.set_cons_succ])
            | (refine WQ.pass rfl ?_
               simp only [Act.put, List.setIfInBounds_toArray, List.set_cons_zero, List.set_cons_succ]))
          refine WQ.nil ?_
          intro w5 f5
          go_wp2_with fail
          go_roundw
          case rel => exact ⟨j + 1, by omega, by go_num, HH.out.1 trivial, hf.trans f5⟩
          case measure => simp [intOf]; omega
        | false =>
          go_wp2_with fail
          refine wp_region_classW (Fr wr) (by kernel_rfl) (by kernel_rfl) (Fr.draw _) ?_
          repeat (first
            | (refine WQ.val rfl ?_
               apply Exists.intro
               refine ⟨?_, ?_⟩
               focus (intro w' hw'; go_simp; (try go_bits); with_reducible rfl)
               simp only [Act.put, List.setIfInBounds_toArray, List.set_cons_zero, List.set_cons_succ])
            | (refine WQ.pass rfl ?_
               simp only [Act.put, List.setIfInBounds_toArray, List.set_cons_zero, List.set_cons_succ]))
          refine WQ.nil ?_
          intro w5 f5
          go_wp2_with fail
          go_ret
          exact ⟨by rw [HH.out.2 trivial]; rfl, hf.trans f5⟩
      · obtain rfl : n = j := by omega
        have hfin : allEq eqGd m m2 = true := allEq_all (by rw [HO.out.2.2.1, HO.out.2.2.2]) fun i x y hx hy => hall i x y (by have := (List.getElem?_eq_some_iff.1 hx).1; have := HO.out.2.2.1; omega) hx hy
        have HH := Go.Lib.hid hfin
        clear hall hfin
        go_wp2_with fail
        go_ret
        exact ⟨by rw [HH.out]; rfl, hf⟩
  · have hfin : allEq eqGd m m2 = false := allEq_len (by rw [HO.out.2.2.1, HO.out.2.2.2]; exact hne)
    have HH := Go.Lib.hid hfin
    have hne' : ((n : Int) == (n2 : Int)) = false := by simp; omega
    clear hfin
    go_enter Try.func63, Try.ntmps63
    go_wp2_with fail
    go_ret
    exact ⟨by rw [HH.out]; rfl, Fr.refl _⟩
set_option maxRecDepth 20000 in
set_option maxHeartbeats 2000000 in
theorem seq_walk {a b : Option Addr} {n c n2 c2 : Nat} {w : World} (m m2 : List Sp) (h : Sl w (.slice a n c) n 5 (spL m)) (h2 : Sl w (.slice b n2 c2) n2 5 (spL m2)) (hl : m.length = n) (hl2 : m2.length = n2) (hn : n ≤ 1000000) (hn2 : n2 ≤ 1000000) :
    Calls Try.prog 64 #[.slice a n c, .slice b n2 c2] w fun e w' => e = .returned (.bool (allEq eqSp m m2)) ∧ Fr w w' := by
  have HO := Go.Lib.hid (And.intro h (And.intro h2 (And.intro hl hl2)))
  clear h h2 hl hl2
  by_cases hne : n = n2
  · subst hne
    go_enter Try.func64, Try.ntmps64
    go_wp2_with fail
    go_loopw [13] (fun i wk => ∃ j : Nat, j ≤ n ∧ i = .int .i64 j ∧ (∀ (i : Nat) x y, i < j → m[i]? = some x → m2[i]? = some y → eqSp x y = true) ∧ Fr w wk) (fun i _ => n - (intOf i).toNat)
    case atStart => exact ⟨0, Nat.zero_le _, rfl, (fun i x y hi => absurd hi (Nat.not_lt_zero _)), Fr.refl _⟩
    case round =>
      obtain ⟨j, hj, rfl, hall, hf⟩ := hrel
      by_cases hlt : j < n
      · obtain ⟨x, hx⟩ : ∃ x, m[j]? = some x := ⟨_, List.getElem?_eq_getElem (by have := HO.out.2.2.1; omega)⟩
        obtain ⟨y, hy⟩ : ∃ y, m2[j]? = some y := ⟨_, List.getElem?_eq_getElem (by have := HO.out.2.2.2; omega)⟩
        obtain ⟨b1, o1, rfl, hb1, hc1, hcs⟩ := sp_cells HO.out.1 hx HO.out.2.2.1
        obtain ⟨b2, o2, rfl, hb2, hc2, hcs2⟩ := sp_cells HO.out.2.1 hy HO.out.2.2.2
        have hst : eqSp x y = true → ∀ (i : Nat) x y, i < j + 1 → m[i]? = some x → m2[i]? = some y → eqSp x y = true := fun he i x' y' hi hx' hy' => by
          by_cases hij : i = j
          · subst hij; rw [hx] at hx'; rw [hy] at hy'; cases hx'; cases hy'; exact he
          · exact hall i x' y' (by omega) hx' hy'
        have hbad : eqSp x y = false → allEq eqSp m m2 = false := fun he => allEq_at hx hy he
        obtain ⟨r, hr⟩ : ∃ r, eqSp x y = r := ⟨_, rfl⟩
        rw [hr] at hst hbad
        obtain ⟨xk, xa, xv, xo, xn⟩ := x
        obtain ⟨yk, ya, yv, yo, yn⟩ := y
        dsimp only at hcs hcs2
        have hneq := sp_neq xk yk xn yn xa ya xv yv xo yo
        rw [hr] at hneq
        have HH := Go.Lib.hid (And.intro hst hbad)
        have ca0 : ∀ w', Fr wr w' → w'.cell? ⟨b1, o1 + j * 5, none⟩ = some (.int .i64 xk) := fun w' hw' => (hcs w' (hf.trans hw')).1
        have ca1 : ∀ w', Fr wr w' → w'.cell? ⟨b1, o1 + j * 5 + 1, none⟩ = some (.string xa) := fun w' hw' => (hcs w' (hf.trans hw')).2.1
        have ca2 : ∀ w', Fr wr w' → w'.cell? ⟨b1, o1 + j * 5 + 2, none⟩ = some (.string xv) := fun w' hw' => (hcs w' (hf.trans hw')).2.2.1
        have ca3 : ∀ w', Fr wr w' → w'.cell? ⟨b1, o1 + j * 5 + 3, none⟩ = some (.string xo) := fun w' hw' => (hcs w' (hf.trans hw')).2.2.2.1
        have ca4 : ∀ w', Fr wr w' → w'.cell? ⟨b1, o1 + j * 5 + 4, none⟩ = some (.int .i64 xn) := fun w' hw' => (hcs w' (hf.trans hw')).2.2.2.2
        have cb0 : ∀ w', Fr wr w' → w'.cell? ⟨b2, o2 + j * 5, none⟩ = some (.int .i64 yk) := fun w' hw' => (hcs2 w' (hf.trans hw')).1
        have cb1 : ∀ w', Fr wr w' → w'.cell? ⟨b2, o2 + j * 5 + 1, none⟩ = some (.string ya) := fun w' hw' => (hcs2 w' (hf.trans hw')).2.1
        have cb2 : ∀ w', Fr wr w' → w'.cell? ⟨b2, o2 + j * 5 + 2, none⟩ = some (.string yv) := fun w' hw' => (hcs2 w' (hf.trans hw')).2.2.1
        have cb3 : ∀ w', Fr wr w' → w'.cell? ⟨b2, o2 + j * 5 + 3, none⟩ = some (.string yo) := fun w' hw' => (hcs2 w' (hf.trans hw')).2.2.2.1
        have cb4 : ∀ w', Fr wr w' → w'.cell? ⟨b2, o2 + j * 5 + 4, none⟩ = some (.int .i64 yn) := fun w' hw' => (hcs2 w' (hf.trans hw')).2.2.2.2
        clear hcs hcs2 hx hy hr hall hst hbad
        cases r with
        | true =>
          go_wp2_with fail
          refine wp_region_classW (Fr wr) (by kernel_rfl) (by kernel_rfl) (Fr.draw _) ?_
          repeat (first
            | (refine WQ.val rfl ?_
               apply Exists.intro
               refine ⟨?_, ?_⟩
               focus (intro w' hw'; go_simp; (try go_bits); with_reducible rfl)
               simp only [Act.put, List.setIfInBounds_toArray, List.set_cons_zero, List.set_cons_succ])
            | (refine WQ.pass rfl ?_
               simp only [Act.put, List.setIfInBounds_toArray, List.set_cons_zero, List.set_cons_succ]))
          refine WQ.nil ?_
          intro w5 f5
          go_wp2_with fail
          go_roundw
          case rel => exact ⟨j + 1, by omega, by go_num, HH.out.1 trivial, hf.trans f5⟩
          case measure => simp [intOf]; omega
        | false =>
          go_wp2_with fail
          refine wp_region_classW (Fr wr) (by kernel_rfl) (by kernel_rfl) (Fr.draw _) ?_
          repeat (first
            | (refine WQ.val rfl ?_
               apply Exists.intro
               refine ⟨?_, ?_⟩
               focus (intro w' hw'; go_simp; (try go_bits); with_reducible rfl)
               simp only [Act.put, List.setIfInBounds_toArray, List.set_cons_zero, List.set_cons_succ])
            | (refine WQ.pass rfl ?_
               simp only [Act.put, List.setIfInBounds_toArray, List.set_cons_zero, List.set_cons_succ]))
          refine WQ.nil ?_
          intro w5 f5
          go_wp2_with fail
          go_ret
          exact ⟨by rw [HH.out.2 trivial]; rfl, hf.trans f5⟩
      · obtain rfl : n = j := by omega
        have hfin : allEq eqSp m m2 = true := allEq_all (by rw [HO.out.2.2.1, HO.out.2.2.2]) fun i x y hx hy => hall i x y (by have := (List.getElem?_eq_some_iff.1 hx).1; have := HO.out.2.2.1; omega) hx hy
        have HH := Go.Lib.hid hfin
        clear hall hfin
        go_wp2_with fail
        go_ret
        exact ⟨by rw [HH.out]; rfl, hf⟩
  · have hfin : allEq eqSp m m2 = false := allEq_len (by rw [HO.out.2.2.1, HO.out.2.2.2]; exact hne)
    have HH := Go.Lib.hid hfin
    have hne' : ((n : Int) == (n2 : Int)) = false := by simp; omega
    clear hfin
    go_enter Try.func64, Try.ntmps64
    go_wp2_with fail
    go_ret
    exact ⟨by rw [HH.out]; rfl, Fr.refl _⟩
def eqOp (gs : List Gd) (ss : List Sp) (gs' : List Gd) (ss' : List Sp) : Bool := allEq eqGd gs gs' && allEq eqSp ss ss'
set_option maxRecDepth 20000 in
theorem same8_walk {w : World} {ga sa ga' sa' : Option Addr} {gn gc sn sc gn' gc' sn' sc' : Nat} {gs gs' : List Gd} {ss ss' : List Sp} (h : Lie w ga gn gc sa sn sc gs ss) (h' : Lie w ga' gn' gc' sa' sn' sc' gs' ss') (h1 : gn ≤ 1000) (h2 : sn ≤ 1000) (h3 : gn' ≤ 1000) (h4 : sn' ≤ 1000) :
    Calls Try.prog 35 #[.agg #[.slice ga gn gc, .slice sa sn sc], .agg #[.slice ga' gn' gc', .slice sa' sn' sc']] w fun e w' => e = .returned (.bool (eqOp gs ss gs' ss')) ∧ Fr w w' := by
  have f1 := (Fr.refl w).alloc (.cells #[.slice ga gn gc, .slice sa sn sc] 52)
  have b1 := heap_alloc_new w (.cells #[.slice ga gn gc, .slice sa sn sc] 52)
  have f2 := (Fr.refl (w.alloc (.cells #[.slice ga gn gc, .slice sa sn sc] 52))).alloc (.cells #[.slice ga' gn' gc', .slice sa' sn' sc'] 52)
  have b2 := heap_alloc_new (w.alloc (.cells #[.slice ga gn gc, .slice sa sn sc] 52)) (.cells #[.slice ga' gn' gc', .slice sa' sn' sc'] 52)
  have hs1 : (w.alloc (.cells #[.slice ga gn gc, .slice sa sn sc] 52)).heap.size = w.heap.size + 1 := by simp
  have hs2 : ((w.alloc (.cells #[.slice ga gn gc, .slice sa sn sc] 52)).alloc (.cells #[.slice ga' gn' gc', .slice sa' sn' sc'] 52)).heap.size = w.heap.size + 2 := by simp
  rw [hs1] at b2
  replace b1 := (f2.heap (k := w.heap.size) (by simp)).trans b1
  replace f1 := f1.trans f2
  have hl := h.fr f1
  have hl' := h'.fr f1
  have hg := geq_walk gs gs' hl.g hl'.g hl.gl hl'.gl (by omega) (by omega)
  obtain ⟨rg, hrg⟩ : ∃ rg, allEq eqGd gs gs' = rg := ⟨_, rfl⟩
  obtain ⟨rs, hrs⟩ : ∃ rs, allEq eqSp ss ss' = rs := ⟨_, rfl⟩
  have hr : eqOp gs ss gs' ss' = (rg && rs) := by unfold eqOp; rw [hrg, hrs]
  rw [hrg] at hg
  have HL := Go.Lib.hid (And.intro hl (And.intro hl' (And.intro hrs hr)))
  clear h h' hl hl' hrg hrs hr f2 hs1
  obtain ⟨B, hB⟩ : ∃ B, w.heap.size = B := ⟨_, rfl⟩
  rw [hB] at b1 b2 hs2
  go_enter Try.func35, Try.ntmps35
  go_wp2_with fail
  generalize (w.alloc (.cells #[.slice ga gn gc, .slice sa sn sc] 52)).alloc (.cells #[.slice ga' gn' gc', .slice sa' sn' sc'] 52) = W at *
  refine hg.mono ?_
  rintro e w2 ⟨rfl, f3⟩
  obtain ⟨hl, hl', hrs, hr⟩ := HL.out
  have hs := seq_walk ss ss' (hl.fr f3).s (hl'.fr f3).s hl.sl hl'.sl (by omega) (by omega)
  rw [hrs] at hs
  have c1 : w2.cell? ⟨B, 1, none⟩ = some (.slice sa sn sc) := cell_at ((f3.heap (by omega)).trans b1) 1
  have c2 : w2.cell? ⟨B + 1, 1, none⟩ = some (.slice sa' sn' sc') := cell_at ((f3.heap (by omega)).trans b2) 1
  have f4 := f1.trans f3
  clear hl hl' hrs hr hg f1 f3 b1 b2 hs2
  cases rg with
  | true =>
    go_wp2_with fail
    refine hs.mono ?_
    rintro e w5 ⟨rfl, f5⟩
    replace f4 := f4.trans f5
    clear hs c1 c2 f5
    go_wp2_with fail
    go_ret
    exact ⟨by rw [HL.out.2.2.2]; rfl, f4⟩
  | false =>
    clear hs c1 c2
    go_wp2_with fail
    go_ret
    exact ⟨by rw [HL.out.2.2.2]; rfl, f4⟩
end Go.Proofs.Ytgdmkiobidnhnaa
