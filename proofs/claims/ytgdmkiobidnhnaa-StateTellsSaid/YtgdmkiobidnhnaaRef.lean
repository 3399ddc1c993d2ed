/-
  The walks of the document's answer: Get, Put, Delete, Same. Conditions: the pairs lie where the slice says; Put: the keys rise; Same: both are the same.
-/
import Derived.Test.YtgdmkiobidnhnaaFrom
namespace Go.Proofs.Ytgdmkiobidnhnaa
open Go.RowKit

theorem from_walk (p : Option Addr) (l : Ps) (hn : l.length ≤ 1000000) (key : ByteArray) (most : Nat) (hm : most ≤ 2000) (w : World) (ht : Told w.heap.size p l w) :
    Calls Try.prog 26 #[.pointer p, .string key, .int .i64 most] w fun e W' => ∃ v, e = .returned v ∧ W'.ownsRow w.heap.size 42 2 v (gathered l key most).length (pairsL (gathered l key most)) ∧ Below w.heap.size w W' :=
  callsIn_wide.1 (from_in 6 (Nat.le_refl _) p l hn key most hm w ht)
theorem eqb_true (a : ByteArray) : (a.toList == a.toList) = true := by simp
theorem eqb_false {a b : ByteArray} (h : a ≠ b) : (a.toList == b.toList) = false := by
  rw [beq_eq_false_iff_ne]; exact fun e => h (list_ext e)
theorem get_found : ∀ {m : Ps} {k : ByteArray} {i : Nat} {a : ByteArray × ByteArray}, (∀ x ∈ m.take i, x.1 ≠ k) → m[i]? = some a → a.1 = k → get m k = some a.2
  | [], _, _, _, _, h, _ => by simp at h
  | x :: r, k, 0, a, _, h, he => by
    have : x = a := by simpa using h
    subst this
    unfold get; rw [if_pos he]
  | x :: r, k, i + 1, a, hno, h, he => by
    unfold get
    rw [if_neg (hno x (by simp))]
    exact get_found (i := i) (fun y hy => hno y (by simp [hy])) (by simpa using h) he
theorem get_absent : ∀ {m : Ps} {k : ByteArray}, (∀ x ∈ m, x.1 ≠ k) → get m k = none
  | [], _, _ => rfl
  | x :: r, k, h => by
    unfold get
    rw [if_neg (h x List.mem_cons_self)]
    exact get_absent fun y hy => h y (List.mem_cons_of_mem _ hy)
theorem not_step {m : Ps} {k : ByteArray} {i : Nat} {a : ByteArray × ByteArray} (h : ∀ x ∈ m.take i, x.1 ≠ k) (hi : m[i]? = some a) (ha : a.1 ≠ k) : ∀ x ∈ m.take (i + 1), x.1 ≠ k := by
  intro x hx
  rw [List.take_add_one, hi] at hx
  rcases List.mem_append.1 hx with hx | hx
  · exact h x hx
  · have : x = a := by simpa using hx
    rw [this]; exact ha
theorem pairs_at (l : Ps) (i j : Nat) (hj : j < 2) : (pairsL l)[i * 2 + j]? = (l[i]?).bind fun a => [Value.string a.1, .string a.2][j]? := stride_get _ 2 (fun _ => rfl) l i j hj
/-- A pair's two cells. -/
theorem pair_cells {w : World} {a : Option Addr} {n c : Nat} {m : Ps} (h : Sl w (.slice a n c) n 2 (pairsL m)) {i : Nat} {x : ByteArray × ByteArray} (hi : m[i]? = some x) (hl : m.length = n) :
    ∃ b o, a = some ⟨b, o, none⟩ ∧ b < w.heap.size ∧ n ≤ c ∧ ∀ w', Fr w w' → w'.cell? ⟨b, o + i * 2, none⟩ = some (.string x.1) ∧ w'.cell? ⟨b, o + i * 2 + 1, none⟩ = some (.string x.2) := by
  have hlt := (List.getElem?_eq_some_iff.1 hi).1
  obtain ⟨b, o, rfl, hb, hnc, hcs⟩ := h.get (by omega)
  refine ⟨b, o, rfl, hb, hnc, fun w' hw' => ⟨?_, ?_⟩⟩
  · rw [World.cell?_of_block (hw'.heap hb), hcs (i * 2) _ (by rw [show i * 2 = i * 2 + 0 from rfl, pairs_at m i 0 (by decide), hi]; rfl)]
  · rw [Nat.add_assoc, World.cell?_of_block (hw'.heap hb), hcs (i * 2 + 1) _ (by rw [pairs_at m i 1 (by decide), hi]; rfl)]
theorem rget_walk {a : Option Addr} {n c : Nat} {w : World} (m : Ps) (h : Sl w (.slice a n c) n 2 (pairsL m)) (hl : m.length = n) (hn : n ≤ 1000000) (k : ByteArray) :
    Calls Try.prog 14 #[.slice a n c, .string k] w fun e w' => e = .returned (.tuple #[.string ((get m k).getD ⟨#[]⟩), .bool (get m k).isSome]) ∧ Fr w w' := by
  go_enter Try.func14, Try.ntmps14
  go_wp2_with fail
  go_loopw [6] (fun i wk => ∃ j : Nat, j ≤ n ∧ i = .int .i64 j ∧ (∀ x ∈ m.take j, x.1 ≠ k) ∧ Fr w wk) (fun i _ => n - (intOf i).toNat)
  case atStart => exact ⟨0, Nat.zero_le _, rfl, (by intro x hx; simp at hx), Fr.refl _⟩
  case round =>
    obtain ⟨j, hj, rfl, hno, hf⟩ := hrel
    by_cases hlt : j < n
    · obtain ⟨x, hx⟩ : ∃ x, m[j]? = some x := ⟨_, List.getElem?_eq_getElem (by omega)⟩
      obtain ⟨b, o, rfl, hb, hnc, hcs⟩ := pair_cells h hx hl
      obtain ⟨c0, c1⟩ := hcs wr hf
      by_cases he : x.1 = k
      · have hg := get_found hno hx he
        have hq : (x.1.toList == k.toList) = true := by rw [he]; exact eqb_true k
        have hg2 : (get m k).getD ⟨#[]⟩ = x.2 ∧ (get m k).isSome = true := by rw [hg]; exact ⟨rfl, rfl⟩
        have HH := Go.Lib.hid hg2
        clear hcs h hx hno hl he hg hg2
        obtain ⟨x1, x2⟩ := x
        dsimp only at c0 c1 hq
        go_wp2_with fail
        go_ret2
        exact ⟨by rw [HH.out.1, HH.out.2]; rfl, hf⟩
      · have hst := not_step hno hx he
        have hq : (x.1.toList == k.toList) = false := eqb_false he
        have HH := Go.Lib.hid hst
        clear hcs h hx hno hl he hst
        obtain ⟨x1, x2⟩ := x
        dsimp only at c0 c1 hq
        go_wp2_with fail
        go_roundw
        case rel => exact ⟨j + 1, by omega, by go_num, HH.out, hf⟩
        case measure => simp [intOf]; omega
    · obtain rfl : n = j := by omega
      rw [List.take_of_length_le (by omega)] at hno
      have hg := get_absent hno
      have hg2 : (get m k).getD ⟨#[]⟩ = ⟨#[]⟩ ∧ (get m k).isSome = false := by rw [hg]; exact ⟨rfl, rfl⟩
      have HH := Go.Lib.hid hg2
      clear h hno hl hg hg2
      go_wp2_with fail
      go_ret2
      exact ⟨by rw [HH.out.1, HH.out.2]; rfl, hf⟩
theorem own_empty (w : World) (e z : Nat) : (w.alloc (.cells #[] e)).ownsRow w.heap.size e z (.slice (some ⟨w.heap.size, 0, none⟩) 0 0) 0 [] :=
  ⟨by simp, .inr ⟨w.heap.size, 0, #[], rfl, Nat.le_refl _, heap_alloc_new w _, Nat.le_refl _, by unfold maxLen; omega, by simp, by simp⟩⟩
/-- What a call makes: pairs in a row of its own. -/
def ListPost (l : Ps) (W : World) (e : Ending) (w' : World) : Prop := ∃ a c, e = .returned (.slice a l.length c) ∧ w'.ownsRow W.heap.size 42 2 (.slice a l.length c) l.length (pairsL l) ∧ Fr W w'
theorem own_form2 {w : World} {B e z n : Nat} {v : Value} {xs : List Value} (h : w.ownsRow B e z v n xs) : ∃ a c, v = .slice a n c := by
  rcases h.2 with ⟨rfl, rfl⟩ | ⟨g, c, _, rfl, _⟩
  · exact ⟨_, _, rfl⟩
  · exact ⟨_, _, rfl⟩
theorem grown_fr {w w1 w' : World} {A : Obj} {n : Nat} {v : Value} {xs : List Value} (hf : Fr w w1) (hrow : w1.ownsRow w.heap.size 42 2 v n xs) (hg : (w1.alloc A).grownBy w' v.ownBlock) : Fr w w' :=
  ((But.of_fr (F := fun _ => False) (hf.alloc A)).mix (But.of_grown hg) (H := fun k => v.ownBlock = some k) (fun _ _ h => h.elim) (fun _ _ h => h)).fr (fun k hk hc => by have := (hrow.lt k hc).1; omega)
theorem del_take {m : Ps} {k : ByteArray} {i : Nat} {a : ByteArray × ByteArray} (hi : m[i]? = some a) : del (m.take (i + 1)) k = if a.1 = k then del (m.take i) k else del (m.take i) k ++ [a] := by
  unfold del
  rw [List.take_add_one, hi, List.filter_append]
  by_cases h : a.1 = k
  · rw [if_pos h]; simp [h]
  · rw [if_neg h]; simp [h]
theorem del_take_le (m : Ps) (k : ByteArray) (i : Nat) : (del (m.take i) k).length ≤ i := by
  have h1 : (del (m.take i) k).length ≤ (m.take i).length := List.length_filter_le _ _
  rw [List.length_take] at h1; omega
set_option maxHeartbeats 1000000 in
theorem rdel_walk {a : Option Addr} {n c : Nat} {w : World} (m : Ps) (h : Sl w (.slice a n c) n 2 (pairsL m)) (hl : m.length = n) (hn : n ≤ 1000000) (k : ByteArray) :
    Calls Try.prog 19 #[.slice a n c, .string k] w (ListPost (del m k) w) := by
  obtain ⟨i0, z0, hi0, hz0, hz1, hz2, hz3⟩ := parts info42
  have hnil := own_empty w 42 2
  have f1 := (Fr.refl w).alloc (.cells #[] 42)
  go_enter Try.func19, Try.ntmps19
  go_wp2_with fail
  go_loopw [5, 6] (fun v i wk => ∃ j : Nat, j ≤ n ∧ i = .int .i64 j ∧ wk.ownsRow w.heap.size 42 2 v (del (m.take j) k).length (pairsL (del (m.take j) k)) ∧ Fr w wk) (fun _ i _ => n - (intOf i).toNat)
  case atStart => exact ⟨0, Nat.zero_le _, rfl, hnil, f1⟩
  case round =>
    clear hnil f1
    obtain ⟨j, hj, rfl, hrow, hf⟩ := hrel
    have hsz := hf.size
    have hdl := del_take_le m k j
    by_cases hlt : j < n
    · obtain ⟨x, hx⟩ : ∃ x, m[j]? = some x := ⟨_, List.getElem?_eq_getElem (by omega)⟩
      obtain ⟨b, o, rfl, hb, hnc, hcs⟩ := pair_cells h hx hl
      obtain ⟨c0, c1⟩ := hcs wr hf
      have hst := del_take (k := k) hx
      obtain ⟨q, hq⟩ : ∃ q, (del (m.take j) k).length = q := ⟨_, rfl⟩
      rw [hq] at hrow hdl
      by_cases he : x.1 = k
      · rw [if_pos he] at hst
        have hqq : (x.1.toList == k.toList) = true := by rw [he]; exact eqb_true k
        have HH := Go.Lib.hid (And.intro hst hq)
        clear hcs h hx hl he hst hq
        obtain ⟨x1, x2⟩ := x
        dsimp only at c0 c1 hqq
        go_wp2_with fail
        go_roundw
        case rel => exact ⟨j + 1, by omega, by go_num, by rw [HH.out.1, HH.out.2]; exact hrow, hf⟩
        case measure => simp [intOf]; omega
      · rw [if_neg he] at hst
        have hqq : (x.1.toList == k.toList) = false := eqb_false he
        have HH := Go.Lib.hid (And.intro hst hq)
        clear hcs h hx hl he hst hq
        obtain ⟨x1, x2⟩ := x
        dsimp only at c0 c1 hqq
        go_wp2_with (at_builtin; go_must (refine wpList_append_lies _ rfl _ _ 29 rfl w.heap.size 42 i0 z0 2 32 Try.underlying29 hi0 hz0 hz2 hz3 hz1 (by decide)  u5 q (pairsL (del (m.take j) k)) rfl (hrow.alloc _) ⟨wr.heap.size, 0, none⟩ 1 1 [.string x1, .string x2] rfl rfl (cells_two_new _ _ _ _) (by simp [Value.oneCell']) (by omega) (by unfold maxLen; omega) (by omega) (by simp; omega) _ rfl ?_); intro g' cap' w6 hown hgrow hat hlt6)
        refine ⟨⟨j + 1, by omega, by go_num, ?_, grown_fr hf hrow hgrow⟩, by simp [intOf]; omega⟩
        rw [HH.out.1, List.length_append, HH.out.2, pairsL_push]; exact hown
    · obtain rfl : n = j := by omega
      have ht : m.take n = m := List.take_of_length_le (by omega)
      rw [ht] at hrow
      obtain ⟨q, hq⟩ : ∃ q, (del m k).length = q := ⟨_, rfl⟩
      rw [hq] at hrow
      obtain ⟨a', c', rfl⟩ := own_form2 hrow
      have HH := Go.Lib.hid hq
      clear h hl ht hq hdl
      go_wp2_with fail
      go_ret
      exact ⟨a', c', by rw [HH.out]; rfl, by rw [HH.out]; exact hrow, hf⟩
/-! ### Put -/
def stepP (k v : ByteArray) (st : Ps × Bool) (a : ByteArray × ByteArray) : Ps × Bool :=
  let st1 := if (!st.2 && !lt a.1 k) = true then (st.1 ++ [(k, v)], true) else st
  if a.1 = k then st1 else (st1.1 ++ [a], st1.2)
def runP (k v : ByteArray) (m : Ps) : Ps × Bool := m.foldl (stepP k v) ([], false)
theorem runP_step (k v : ByteArray) {m : Ps} {i : Nat} {a : ByteArray × ByteArray} (hi : m[i]? = some a) : runP k v (m.take (i + 1)) = stepP k v (runP k v (m.take i)) a := by
  unfold runP; rw [List.take_add_one, hi, List.foldl_append]; rfl
theorem foldP_done (k v : ByteArray) : ∀ (m : Ps) (acc : Ps), (∀ b ∈ m, b.1 ≠ k) → m.foldl (stepP k v) (acc, true) = (acc ++ m, true)
  | [], acc, _ => by simp
  | a :: r, acc, h => by
    rw [List.foldl_cons]
    have : stepP k v (acc, true) a = (acc ++ [a], true) := by unfold stepP; simp [h a List.mem_cons_self]
    rw [this, foldP_done k v r _ fun b hb => h b (List.mem_cons_of_mem _ hb)]
    simp
theorem foldP_put (k v : ByteArray) : ∀ (m : Ps) (acc : Ps), Up m → (if (m.foldl (stepP k v) (acc, false)).2 = true then (m.foldl (stepP k v) (acc, false)).1 else (m.foldl (stepP k v) (acc, false)).1 ++ [(k, v)]) = acc ++ put m k v
  | [], acc, _ => rfl
  | a :: r, acc, hu => by
    rw [List.foldl_cons]
    have hne : ∀ x : ByteArray, lt k x = true → x ≠ k := fun x h e => by rw [e, lt_irrefl] at h; cases h
    by_cases h : lt a.1 k = true
    · have hn : a.1 ≠ k := fun e => by rw [e, lt_irrefl] at h; cases h
      have : stepP k v (acc, false) a = (acc ++ [a], false) := by unfold stepP; simp [h, hn]
      have hp : put (a :: r) k v = a :: put r k v := by rw [put, if_pos h]
      rw [this, foldP_put k v r _ hu.tl, hp]; simp
    · have h' : lt a.1 k = false := by simpa using h
      by_cases he : a.1 = k
      · have hp : put (a :: r) k v = (k, v) :: r := by rw [put, if_neg h, if_pos he]
        have : stepP k v (acc, false) a = (acc ++ [(k, v)], true) := by unfold stepP; simp [he, lt_irrefl]
        rw [this, foldP_done k v r _ (fun b hb => hne _ (he ▸ hu.hd b hb)), hp]; simp
      · have hka : lt k a.1 = true := by
          cases hk : lt k a.1 with
          | true => rfl
          | false => exact absurd (lt_tri h' hk) he
        have hp : put (a :: r) k v = (k, v) :: a :: r := by rw [put, if_neg h, if_neg he]
        have : stepP k v (acc, false) a = (acc ++ [(k, v)] ++ [a], true) := by unfold stepP; simp [h', he]
        rw [this, foldP_done k v r _ (fun b hb => hne _ (lt_trans hka (hu.hd b hb))), hp]; simp
theorem runP_len (k v : ByteArray) (m : Ps) : ∀ i, (runP k v (m.take i)).1.length ≤ 2 * i
  | 0 => by simp [runP]
  | i + 1 => by
    have ih := runP_len k v m i
    cases hi : m[i]? with
    | none => rw [List.take_add_one, hi]; simp; omega
    | some a =>
      rw [runP_step k v hi]
      unfold stepP
      split <;> split <;> simp <;> omega
set_option maxHeartbeats 2000000 in
theorem rput_walk {a : Option Addr} {n c : Nat} {w : World} (m : Ps) (hu : Up m) (h : Sl w (.slice a n c) n 2 (pairsL m)) (hl : m.length = n) (hn : n ≤ 100000) (k v : ByteArray) :
    Calls Try.prog 17 #[.slice a n c, .string k, .string v] w (ListPost (put m k v) w) := by
  obtain ⟨i0, z0, hi0, hz0, hz1, hz2, hz3⟩ := parts info42
  have hnil := own_empty w 42 2
  have f1 := (Fr.refl w).alloc (.cells #[] 42)
  go_enter Try.func17, Try.ntmps17
  go_wp2_with fail
  go_loopw [7, 8, 9] (fun vo bo i wk => ∃ (j : Nat) (o : Ps) (d : Bool), j ≤ n ∧ i = .int .i64 j ∧ bo = .bool d ∧ runP k v (m.take j) = (o, d) ∧ wk.ownsRow w.heap.size 42 2 vo o.length (pairsL o) ∧ Fr w wk) (fun _ _ i _ => n - (intOf i).toNat)
  case atStart => exact ⟨0, [], false, Nat.zero_le _, rfl, rfl, rfl, hnil, f1⟩
  case round =>
    clear hnil f1
    obtain ⟨j, o, d, hj, rfl, rfl, hrun, hrow, hf⟩ := hrel
    have hsz := hf.size
    have hol : o.length ≤ 2 * j := by have := runP_len k v m j; rw [hrun] at this; exact this
    obtain ⟨p, hp⟩ : ∃ p, o.length = p := ⟨_, rfl⟩
    by_cases hlt : j < n
    · obtain ⟨x, hx⟩ : ∃ x, m[j]? = some x := ⟨_, List.getElem?_eq_getElem (by omega)⟩
      obtain ⟨b, oo, rfl, hb, hnc, hcs⟩ := pair_cells h hx hl
      have hst := runP_step k v hx
      rw [hrun] at hst
      obtain ⟨x1, x2⟩ := x
      dsimp only at hcs
      have hcs2 := hcs
      obtain ⟨c0, c1⟩ := hcs wr hf
      rw [hp] at hrow hol
      obtain ⟨l1, hl1⟩ : ∃ l1, lt x1 k = l1 := ⟨_, rfl⟩
      have hl2 : Op.bytesLess x1.toList k.toList = l1 := hl1
      cases d with
      | true =>
        by_cases he : x1 = k
        · have hq : (x1.toList == k.toList) = true := by rw [he]; exact eqb_true k
          have hs2 : stepP k v (o, true) (x1, x2) = (o, true) := by unfold stepP; simp [he]
          have HH := Go.Lib.hid (And.intro (hst.trans hs2) hp)
          clear hcs hcs2 h hx hl he hst hs2 hp hrun hl1 hl2
          go_wp2_with fail
          go_roundw
          case rel => exact ⟨j + 1, o, true, by omega, by go_num, rfl, HH.out.1, by rw [HH.out.2]; exact hrow, hf⟩
          case measure => simp [intOf]; omega
        · have hq : (x1.toList == k.toList) = false := eqb_false he
          have hs2 : stepP k v (o, true) (x1, x2) = (o ++ [(x1, x2)], true) := by unfold stepP; simp [he]
          have HH := Go.Lib.hid (And.intro (hst.trans hs2) hp)
          clear hcs hcs2 h hx hl he hst hs2 hp hrun hl1 hl2
          go_wp2_with (at_builtin; go_must (refine wpList_append_lies _ rfl _ _ 29 rfl w.heap.size 42 i0 z0 2 32 Try.underlying29 hi0 hz0 hz2 hz3 hz1 (by decide)  u7 p (pairsL o) rfl (hrow.alloc _) ⟨wr.heap.size, 0, none⟩ 1 1 [.string x1, .string x2] rfl rfl (cells_two_new _ _ _ _) (by simp [Value.oneCell']) (by omega) (by unfold maxLen; omega) (by omega) (by simp; omega) _ rfl ?_); intro g' cap' w6 hown hgrow hat hlt6)
          refine ⟨⟨j + 1, _, true, by omega, by go_num, rfl, HH.out.1, ?_, grown_fr hf hrow hgrow⟩, by simp [intOf]; omega⟩
          rw [List.length_append, HH.out.2, pairsL_push]; exact hown
      | false =>
        cases l1 with
        | true =>
          have he : x1 ≠ k := fun e => by rw [e, lt_irrefl] at hl1; cases hl1
          have hq : (x1.toList == k.toList) = false := eqb_false he
          have hs2 : stepP k v (o, false) (x1, x2) = (o ++ [(x1, x2)], false) := by unfold stepP; simp [he, hl1]
          have HH := Go.Lib.hid (And.intro (hst.trans hs2) hp)
          clear hcs hcs2 h hx hl he hst hs2 hp hrun hl1
          go_wp2_with (at_builtin; go_must (refine wpList_append_lies _ rfl _ _ 29 rfl w.heap.size 42 i0 z0 2 32 Try.underlying29 hi0 hz0 hz2 hz3 hz1 (by decide)  u7 p (pairsL o) rfl (hrow.alloc _) ⟨wr.heap.size, 0, none⟩ 1 1 [.string x1, .string x2] rfl rfl (cells_two_new _ _ _ _) (by simp [Value.oneCell']) (by omega) (by unfold maxLen; omega) (by omega) (by simp; omega) _ rfl ?_); intro g' cap' w6 hown hgrow hat hlt6)
          refine ⟨⟨j + 1, _, false, by omega, by go_num, rfl, HH.out.1, ?_, grown_fr hf hrow hgrow⟩, by simp [intOf]; omega⟩
          rw [List.length_append, HH.out.2, pairsL_push]; exact hown
        | false =>
          by_cases he : x1 = k
          · have hq : (x1.toList == k.toList) = true := by rw [he]; exact eqb_true k
            have hs2 : stepP k v (o, false) (x1, x2) = (o ++ [(k, v)], true) := by unfold stepP; simp [he, lt_irrefl]
            have HH := Go.Lib.hid (And.intro (hst.trans hs2) hp)
            have H2 := Go.Lib.hid hcs2
            clear hcs hcs2 h hx hl he hst hs2 hp hrun hl1
            go_wp2_with (at_builtin; go_must (refine wpList_append_lies _ rfl _ _ 29 rfl w.heap.size 42 i0 z0 2 32 Try.underlying29 hi0 hz0 hz2 hz3 hz1 (by decide) u7 p (pairsL o) rfl (hrow.alloc _) ⟨wr.heap.size, 0, none⟩ 1 1 [.string k, .string v] rfl rfl (cells_two_new _ _ _ _) (by simp [Value.oneCell']) (by omega) (by unfold maxLen; omega) (by omega) (by simp; omega) _ rfl ?_); intro g' cap' w6 hown hgrow hat hlt6; have hf6 := grown_fr hf hrow hgrow; obtain ⟨e0, e1⟩ := H2.out w6 hf6)
            go_roundw
            case rel => exact ⟨j + 1, _, true, by omega, by go_num, rfl, HH.out.1, by rw [List.length_append, HH.out.2, pairsL_push]; exact hown, hf6⟩
            case measure => simp [intOf]; omega
          · have hq : (x1.toList == k.toList) = false := eqb_false he
            have hs2 : stepP k v (o, false) (x1, x2) = (o ++ [(k, v)] ++ [(x1, x2)], true) := by unfold stepP; simp [he, hl1]
            have HH := Go.Lib.hid (And.intro (hst.trans hs2) hp)
            have H2 := Go.Lib.hid hcs2
            clear hcs hcs2 h hx hl he hst hs2 hp hrun hl1
            go_wp2_with (first | (at_builtin; refine wpList_append_lies _ rfl _ _ 29 rfl w.heap.size 42 i0 z0 2 32 Try.underlying29 hi0 hz0 hz2 hz3 hz1 (by decide) u7 p (pairsL o) rfl (hrow.alloc _) ⟨wr.heap.size, 0, none⟩ 1 1 [.string k, .string v] rfl rfl (cells_two_new _ _ _ _) (by simp [Value.oneCell']) (by omega) (by unfold maxLen; omega) (by omega) (by simp; omega) _ rfl ?_; intro g' cap' w6 hown hgrow hat hlt6; have hf6 := grown_fr hf hrow hgrow; have hs6 := hf6.size; obtain ⟨e0, e1⟩ := H2.out w6 hf6) | (at_builtin; refine wpList_append_lies _ rfl _ _ 29 rfl w.heap.size 42 i0 z0 2 32 Try.underlying29 hi0 hz0 hz2 hz3 hz1 (by decide) (.slice (some ⟨g', 0, none⟩) (p + 1) cap') (p + 1) (pairsL o ++ [.string k, .string v]) rfl (hown.alloc _) ⟨w6.heap.size, 0, none⟩ 1 1 [.string x1, .string x2] rfl rfl (cells_two_new _ _ _ _) (by simp [Value.oneCell']) (by omega) (by unfold maxLen; omega) (by omega) (by simp; omega) _ rfl ?_; intro g2 cap2 w7 hown2 hgrow2 hat2 hlt7))
            refine ⟨⟨j + 1, _, true, by omega, by go_num, rfl, HH.out.1, ?_, grown_fr hf6 hown hgrow2⟩, by simp [intOf]; omega⟩
            rw [List.length_append, List.length_append, HH.out.2, pairsL_push, pairsL_push]; exact hown2
    · obtain rfl : n = j := by omega
      have ht : m.take n = m := List.take_of_length_le (by omega)
      rw [ht] at hrun
      have hput := foldP_put k v m [] hu
      have hrun2 : m.foldl (stepP k v) ([], false) = (o, d) := hrun
      rw [hrun2] at hput
      dsimp only at hput
      rw [List.nil_append] at hput
      rw [hp] at hrow hol
      obtain ⟨a', c', rfl⟩ := own_form2 hrow
      cases d with
      | true =>
        rw [if_pos rfl] at hput
        have HH := Go.Lib.hid (And.intro hput hp)
        clear h hl ht hp hput hrun hrun2
        go_wp2_with fail
        go_ret
        obtain ⟨h1, h2⟩ := HH.out
        rw [← h1]
        exact ⟨a', c', by rw [h2]; rfl, by rw [h2]; exact hrow, hf⟩
      | false =>
        rw [if_neg (by decide)] at hput
        have HH := Go.Lib.hid (And.intro hput hp)
        clear h hl ht hp hput hrun hrun2
        go_wp2_with (at_builtin; go_must (refine wpList_append_lies _ rfl _ _ 29 rfl w.heap.size 42 i0 z0 2 32 Try.underlying29 hi0 hz0 hz2 hz3 hz1 (by decide)  (.slice a' p c') p (pairsL o) rfl (hrow.alloc _) ⟨wr.heap.size, 0, none⟩ 1 1 [.string k, .string v] rfl rfl (cells_two_new _ _ _ _) (by simp [Value.oneCell']) (by omega) (by unfold maxLen; omega) (by omega) (by simp; omega) _ rfl ?_); intro g' cap' w6 hown hgrow hat hlt6)
        go_ret
        obtain ⟨h1, h2⟩ := HH.out
        rw [← h1]
        refine ⟨some ⟨g', 0, none⟩, cap', ?_, ?_, grown_fr hf hrow hgrow⟩
        · rw [List.length_append, h2]; rfl
        · rw [List.length_append, h2, pairsL_push]; exact hown
end Go.Proofs.Ytgdmkiobidnhnaa
