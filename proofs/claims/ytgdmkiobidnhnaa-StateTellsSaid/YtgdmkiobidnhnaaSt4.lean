/-
  What changes make of a state, and what changes back: the program's Patch, Undo; the document's Patch, Same; the law's State. Conditions: the pairs lie where the slices say, at most two hundred of each; Same: both are the same.
-/
import Derived.Test.YtgdmkiobidnhnaaSt3
namespace Go.Proofs.Ytgdmkiobidnhnaa
open Go.RowKit Go.Shelf

def step1 (m : Ps) (c : ByteArray × (Bool × ByteArray)) : Ps := if c.2.1 = true then put m c.1 c.2.2 else del m c.1
def patch (m : Ps) (l : Chs) : Ps := l.foldl step1 m
def patched (m : Ps) (l : Chs) : Ps := if upB m = true then patch m l else []
def undo (m : Ps) (l : Chs) : Chs := if upB m = true then diff (patch m l) m else []
def stateOf (l : Ps) : Ps := l.foldl (fun m p => put m p.1 p.2) []
theorem step1_up {m : Ps} (h : Up m) (c : ByteArray × (Bool × ByteArray)) : Up (step1 m c) := by
  unfold step1; split
  · exact h.put _ _
  · exact List.Pairwise.filter _ h
theorem patch_up : ∀ (l : Chs) (m : Ps), Up m → Up (patch m l)
  | [], _, h => h
  | c :: r, m, h => patch_up r (step1 m c) (step1_up h c)
theorem step1_len (m : Ps) (c : ByteArray × (Bool × ByteArray)) : (step1 m c).length ≤ m.length + 1 := by
  unfold step1; split
  · exact put_len _ _ _
  · have := del_len m c.1; omega
theorem patch_len : ∀ (l : Chs) (m : Ps), (patch m l).length ≤ m.length + l.length
  | [], m => by simp [patch]
  | c :: r, m => by
    have h1 := patch_len r (step1 m c)
    have h2 := step1_len m c
    simp only [patch, List.foldl_cons, List.length_cons] at h1 ⊢
    omega
theorem patch_push (m : Ps) (l : Chs) (c : ByteArray × (Bool × ByteArray)) : patch m (l ++ [c]) = step1 (patch m l) c := by simp [patch]
theorem patch_take {m : Ps} {l : Chs} {j : Nat} {x : ByteArray × (Bool × ByteArray)} (hx : l[j]? = some x) : patch m (l.take (j + 1)) = step1 (patch m (l.take j)) x := by
  rw [List.take_add_one, hx]; exact patch_push _ _ _
theorem ch_cells {w : World} {a : Option Addr} {n c : Nat} {m : Chs} (h : Sl w (.slice a n c) n 3 (chL m)) {i : Nat} {x : ByteArray × (Bool × ByteArray)} (hi : m[i]? = some x) (hl : m.length = n) :
    ∃ b o, a = some ⟨b, o, none⟩ ∧ n ≤ c ∧ ∀ w', Fr w w' → w'.cell? ⟨b, o + i * 3, none⟩ = some (.string x.1) ∧ w'.cell? ⟨b, o + i * 3 + 1, none⟩ = some (.bool x.2.1) ∧ w'.cell? ⟨b, o + i * 3 + 2, none⟩ = some (.string x.2.2) := by
  have hlt := (List.getElem?_eq_some_iff.1 hi).1
  obtain ⟨b, o, rfl, hb, hnc, hcs⟩ := h.get (by omega)
  have at' : ∀ j, j < 3 → (chL m)[i * 3 + j]? = ([Value.string x.1, .bool x.2.1, .string x.2.2] : List Value)[j]? := fun j hj => by
    unfold chL; rw [stride_get _ 3 (fun _ => rfl) m i j hj, hi]; rfl
  refine ⟨b, o, rfl, hnc, fun w' hw' => ⟨?_, ?_, ?_⟩⟩
  · rw [World.cell?_of_block (hw'.heap hb), hcs (i * 3) _ (by rw [show i * 3 = i * 3 + 0 from rfl, at' 0 (by decide)]; rfl)]
  · rw [Nat.add_assoc, World.cell?_of_block (hw'.heap hb), hcs (i * 3 + 1) _ (by rw [at' 1 (by decide)]; rfl)]
  · rw [Nat.add_assoc, World.cell?_of_block (hw'.heap hb), hcs (i * 3 + 2) _ (by rw [at' 2 (by decide)]; rfl)]
theorem nil_list (W w' : World) (h : Fr W w') : ListPost [] W (.returned (.slice none 0 0)) w' := ⟨none, 0, rfl, ⟨rfl, .inl ⟨rfl, rfl⟩⟩, h⟩
set_option maxHeartbeats 2000000 in
theorem patch_walk {a b : Option Addr} {n c n2 c2 : Nat} {w : World} (m : Ps) (l : Chs) (h : Sl w (.slice a n c) n 2 (pairsL m)) (h2 : Sl w (.slice b n2 c2) n2 3 (chL l)) (hl : m.length = n) (hl2 : l.length = n2) (hn : n ≤ 200) (hn2 : n2 ≤ 200) :
    Calls Try.prog 46 #[.slice a n c, .slice b n2 c2] w (ListPost (patched m l) w) := by
  have hr1 := right_walk m h hl (by omega)
  cases hu1 : upB m with
  | false =>
    have hp : patched m l = [] := by unfold patched; rw [hu1]; rfl
    rw [hu1] at hr1
    rw [hp]
    clear h h2 hl hl2 hp
    go_enter Try.func46, Try.ntmps46
    go_wp2_with fail
    refine hr1.mono ?_
    rintro e w1 ⟨rfl, f1⟩
    clear hr1
    go_wp2_with fail
    go_ret
    exact nil_list _ _ f1
  | true =>
    have hp : patched m l = patch m l := by unfold patched; rw [hu1]; rfl
    rw [hu1] at hr1
    rw [hp]
    have hu := upB_up m hu1
    obtain ⟨S, hS⟩ : ∃ S, w.heap.size = S := ⟨_, rfl⟩
    have HO := Go.Lib.hid (And.intro h (And.intro h2 (And.intro hl (And.intro hl2 hu))))
    clear h h2 hl hl2 hp hu1 hu
    go_enter Try.func46, Try.ntmps46
    go_wp2_with fail
    refine hr1.mono ?_
    rintro e w1 ⟨rfl, f1⟩
    clear hr1
    go_wp2_with fail
    refine (load_walk m HO.out.2.2.2.2 (HO.out.1.fr f1) HO.out.2.2.1 (by omega)).mono ?_
    rintro e w2 ⟨T, F, rfl, ht, f2⟩
    replace ht := ht.mono f1.size
    rw [hS] at ht
    have hb : Below S w w2 := by have := f1.trans f2; rw [← hS]; exact this
    clear f1 f2
    go_wp2_with fail
    go_loopw [15] (fun i wk => ∃ j : Nat, j ≤ n2 ∧ i = .int .i64 j ∧ (∃ F, Tb S F T (patch m (l.take j)) wk) ∧ Below S w wk) (fun i _ => n2 - (intOf i).toNat)
    case atStart => exact ⟨0, Nat.zero_le _, rfl, ⟨F, ht⟩, hb⟩
    case round =>
      clear ht hb
      obtain ⟨j, hj, rfl, ⟨F', ht⟩, hb⟩ := hrel
      have hlen := patch_len (l.take j) m
      rw [List.length_take, HO.out.2.2.1] at hlen
      by_cases hlt : j < n2
      · obtain ⟨x, hx⟩ : ∃ x, l[j]? = some x := ⟨_, List.getElem?_eq_getElem (by have := HO.out.2.2.2.1; omega)⟩
        have hf0 : Fr w wr := by show Below w.heap.size w wr; rw [hS]; exact hb
        obtain ⟨bb, o, rfl, hnc, hcs⟩ := ch_cells HO.out.2.1 hx HO.out.2.2.2.1
        obtain ⟨c0, c1, c2⟩ := hcs wr hf0
        have f5 := (Fr.refl wr).alloc (.cells #[.string x.1, .bool x.2.1, .string x.2.2] 69)
        have hst := patch_take (m := m) hx
        have hlen2 : (patch m (l.take j)).length ≤ 100000 := by omega
        have hp := put_b (ht.fr f5) hlen2 x.1 x.2.2 rfl
        have hd := del_tb (ht.fr f5) hlen2 x.1
        have hb5 : Below S w (wr.alloc (.cells #[.string x.1, .bool x.2.1, .string x.2.2] 69)) := hb.trans (f5.below_of ht.le)
        have htf := ht.fr f5
        unfold step1 at hst
        obtain ⟨x1, x2, x3⟩ := x
        dsimp only at c0 c1 c2 hp hd hb5 hst htf
        cases x2 with
        | true =>
          rw [if_pos rfl] at hst
          have HH := Go.Lib.hid hst
          clear hcs hx ht hb f5 hf0 hst hlen hlen2 hd htf
          go_wp2_with fail
          refine hp.mono ?_
          rintro e w6 ⟨rfl, ht6, hb6⟩
          replace hb5 := hb5.trans hb6
          clear hp c0 c1 c2 hb6
          go_wp2_with fail
          go_roundw
          case rel => exact ⟨j + 1, by omega, by go_num, by rw [HH.out]; exact ht6, hb5⟩
          case measure => simp [intOf]; omega
        | false =>
          rw [if_neg (by decide)] at hst
          have HH := Go.Lib.hid hst
          have HT := Go.Lib.hid htf
          clear hcs hx ht hb f5 hf0 hst hlen hlen2 hp htf
          go_wp2_with fail
          refine hd.mono ?_
          rintro e w6 ⟨rfl, ht6, hb6⟩
          replace hb5 := hb5.trans (HT.out.below hb6)
          clear hd c0 c1 c2 hb6 HT
          go_wp2_with fail
          go_roundw
          case rel => exact ⟨j + 1, by omega, by go_num, by rw [HH.out]; exact ⟨_, ht6⟩, hb5⟩
          case measure => simp [intOf]; omega
      · obtain rfl : n2 = j := by omega
        rw [List.take_of_length_le (by have := HO.out.2.2.2.1; omega)] at ht hlen
        have hpw := pairs_walk _ (by omega) ht.seen
        have hle := ht.le
        obtain ⟨q, hq⟩ : ∃ q, (patch m l).length = q := ⟨_, rfl⟩
        have HQ := Go.Lib.hid hq
        unfold ListPost at hpw ⊢
        rw [hq] at hpw ⊢
        clear ht hlen hq
        go_wp2_with fail
        refine hpw.mono ?_
        rintro e w6 ⟨a6, c6, rfl, hr6, f6⟩
        have hb6 := hb.trans (f6.below_of hle)
        clear hpw f6 hb
        go_wp2_with fail
        go_ret
        exact ⟨a6, c6, by rw [HQ.out]; rfl, by rw [hS, HQ.out]; exact owns_mono hr6 hle, by show Below w.heap.size w w6; rw [hS]; exact hb6⟩
theorem undo_walk {a b : Option Addr} {n c n2 c2 : Nat} {w : World} (m : Ps) (l : Chs) (h : Sl w (.slice a n c) n 2 (pairsL m)) (h2 : Sl w (.slice b n2 c2) n2 3 (chL l)) (hl : m.length = n) (hl2 : l.length = n2) (hn : n ≤ 200) (hn2 : n2 ≤ 200) :
    Calls Try.prog 47 #[.slice a n c, .slice b n2 c2] w (DiffPost (undo m l) w) := by
  have hp := patch_walk m l h h2 hl hl2 hn hn2
  have hlen := patch_len l m
  have hkey : ∀ a' n' c' w', (patched m l).length = n' → Sl w' (.slice a' n' c') n' 2 (pairsL (patched m l)) → Fr w w' → Calls Try.prog 45 #[.slice a' n' c', .slice a n c] w' (DiffPost (undo m l) w') := fun a' n' c' w' q1 q2 q3 => by
    cases hu : upB m with
    | false =>
      have e1 : patched m l = [] := by unfold patched; rw [hu]; rfl
      have e2 : undo m l = [] := by unfold undo; rw [hu]; rfl
      rw [e1] at q1 q2
      rw [e2]
      exact diff_not [] m q2 (h.fr q3) q1 hl (by simp at q1; omega) (by omega) (by rw [hu]; rfl)
    | true =>
      have e1 : patched m l = patch m l := by unfold patched; rw [hu]; rfl
      have e2 : undo m l = diff (patch m l) m := by unfold undo; rw [hu]; rfl
      rw [e1] at q1 q2
      rw [e2]
      exact diff_walk (patch m l) m q2 (h.fr q3) q1 hl (by omega) (by omega) (patch_up l m (upB_up m hu)) (upB_up m hu)
  have HK := Go.Lib.hid hkey
  obtain ⟨q, hq⟩ : ∃ q, (patched m l).length = q := ⟨_, rfl⟩
  obtain ⟨p, hpp⟩ : ∃ p, (undo m l).length = p := ⟨_, rfl⟩
  have HQ := Go.Lib.hid (And.intro hq hpp)
  unfold ListPost at hp
  unfold DiffPost
  rw [hq] at hp
  rw [hpp]
  clear h h2 hl hl2 hkey hlen hq hpp
  go_enter Try.func47, Try.ntmps47
  go_wp2_with fail
  refine hp.mono ?_
  rintro e w1 ⟨a1, c1, rfl, hr1, f1⟩
  have hd := HK.out a1 q c1 w1 HQ.out.1 (owns_sl hr1) f1
  unfold DiffPost at hd
  rw [HQ.out.2] at hd
  clear hp hr1
  go_wp2_with fail
  refine hd.mono ?_
  rintro e w2 ⟨a2, c2', rfl, hr2, f2⟩
  have hrr := owns_mono hr2 f1.size
  have f3 := f1.trans f2
  clear hd hr2 f1 f2
  go_wp2_with fail
  go_ret
  exact ⟨a2, c2', rfl, hrr, f3⟩
/-! ### The law's State, the document's Same and Patch -/
theorem state_push (l : Ps) (x : ByteArray × ByteArray) : stateOf (l ++ [x]) = put (stateOf l) x.1 x.2 := by simp [stateOf]
theorem foldPut_up : ∀ (l : Ps) (m : Ps), Up m → Up (l.foldl (fun m p => put m p.1 p.2) m)
  | [], _, h => h
  | x :: r, m, h => foldPut_up r (put m x.1 x.2) (h.put _ _)
theorem state_up (l : Ps) : Up (stateOf l) := foldPut_up l [] Up.nil
theorem foldPut_len : ∀ (l : Ps) (m : Ps), (l.foldl (fun m p => put m p.1 p.2) m).length ≤ m.length + l.length
  | [], m => by simp
  | x :: r, m => by
    have h1 := foldPut_len r (put m x.1 x.2)
    have h2 := put_len m x.1 x.2
    simp only [List.foldl_cons, List.length_cons] at h1 ⊢
    omega
theorem state_len (l : Ps) : (stateOf l).length ≤ l.length := by have h := foldPut_len l []; rw [List.length_nil, Nat.zero_add] at h; exact h
set_option maxRecDepth 20000 in
set_option maxHeartbeats 2000000 in
theorem state_walk {a : Option Addr} {n c : Nat} {w : World} (m : Ps) (h : Sl w (.slice a n c) n 2 (pairsL m)) (hl : m.length = n) (hn : n ≤ 1000) :
    Calls Try.prog 44 #[.slice a n c] w (ListPost (stateOf m) w) := by
  have hnil := own_empty w 42 2
  have f1 := (Fr.refl w).alloc (.cells #[] 42)
  obtain ⟨S, hS⟩ : ∃ S, w.heap.size = S := ⟨_, rfl⟩
  have HO := Go.Lib.hid (And.intro h hl)
  unfold ListPost
  rw [hS] at hnil ⊢
  clear h hl
  go_enter Try.func44, Try.ntmps44
  go_wp2_with fail
  generalize w.alloc (.cells #[] 42) = w1 at *
  go_loopw [3, 4] (fun v i wk => ∃ (j : Nat) (a : Option Addr) (p c : Nat), j ≤ n ∧ i = .int .i64 j ∧ v = .slice a p c ∧ (stateOf (m.take j)).length = p ∧ wk.ownsRow S 42 2 (.slice a p c) p (pairsL (stateOf (m.take j))) ∧ Fr w wk) (fun _ i _ => n - (intOf i).toNat)
  case atStart => exact ⟨0, _, 0, _, Nat.zero_le _, rfl, rfl, rfl, hnil, f1⟩
  case round =>
    clear hnil f1
    obtain ⟨j, a', p, c', hj, rfl, rfl, hp, hrow, hf⟩ := hrel
    by_cases hlt : j < n
    · obtain ⟨x, hx⟩ : ∃ x, m[j]? = some x := ⟨_, List.getElem?_eq_getElem (by have := HO.out.2; omega)⟩
      obtain ⟨b, o, rfl, hnc, hcs⟩ := pair_cells' HO.out.1 hx HO.out.2
      have hlen := state_len (m.take j)
      rw [List.length_take, hp] at hlen
      have hst : m.take (j + 1) = m.take j ++ [x] := by rw [List.take_add_one, hx]; rfl
      have f4 : Fr wr wr.drew := (Fr.refl wr).drewN 1
      have hrow4 := owns_fr hrow f4
      have hf4 := hf.trans f4
      have hput := rput_walk _ (state_up (m.take j)) (owns_sl hrow4) hp (by omega) x.1 x.2
      rw [← state_push, ← hst] at hput
      obtain ⟨c0, c1⟩ := hcs _ hf4
      obtain ⟨q, hq⟩ : ∃ q, (stateOf (m.take (j + 1))).length = q := ⟨_, rfl⟩
      have hSle : S ≤ wr.drew.heap.size := by have := hf4.size; omega
      have HQ := Go.Lib.hid hq
      unfold ListPost at hput
      rw [hq] at hput
      obtain ⟨x1, x2⟩ := x
      dsimp only at c0 c1 hput
      clear hcs hx hst hq hlen hp hf hrow hrow4 f4
      go_wp2_with fail
      go_still_tail 11, (by kernel_rfl)
      change wpList _ _ _ _ _ wr.drew
      generalize wr.drew = w4 at *
      go_wp2_with fail
      refine hput.mono ?_
      rintro e w5 ⟨a5, c5, rfl, hr5, f5⟩
      replace hr5 := owns_mono hr5 hSle
      have hf5 := hf4.trans f5
      clear hput hf4 f5 c0 c1 hSle
      go_wp2_with fail
      go_roundw
      case rel => exact ⟨j + 1, a5, q, c5, by omega, by go_num, rfl, HQ.out, hr5, hf5⟩
      case measure => simp [intOf]; omega
    · obtain rfl : n = j := by omega
      rw [List.take_of_length_le (by have := HO.out.2; omega)] at hp hrow
      have HQ := Go.Lib.hid (And.intro hp hrow)
      clear hp hrow
      go_wp2_with fail
      go_ret
      exact ⟨a', c', by rw [HQ.out.1]; rfl, by rw [HQ.out.1]; exact HQ.out.2, hf⟩
set_option maxRecDepth 20000 in
set_option maxHeartbeats 1000000 in
theorem csame_walk {a b : Option Addr} {n c d : Nat} {w : World} (m : Chs) (h : Sl w (.slice a n c) n 3 (chL m)) (h2 : Sl w (.slice b n d) n 3 (chL m)) (hl : m.length = n) (hn : n ≤ 1000000) :
    Calls Try.prog 51 #[.slice a n c, .slice b n d] w fun e w' => e = .returned (.bool true) ∧ Fr w w' := by
  go_enter Try.func51, Try.ntmps51
  go_wp2_with fail
  go_loopw [5] (fun i wk => ∃ j : Nat, j ≤ n ∧ i = .int .i64 j ∧ Fr w wk) (fun i _ => n - (intOf i).toNat)
  case atStart => exact ⟨0, Nat.zero_le _, rfl, Fr.refl _⟩
  case round =>
    obtain ⟨j, hj, rfl, hf⟩ := hrel
    by_cases hlt : j < n
    · obtain ⟨x, hx⟩ : ∃ x, m[j]? = some x := ⟨_, List.getElem?_eq_getElem (by omega)⟩
      obtain ⟨b1, o1, rfl, hc1, hcs⟩ := ch_cells h hx hl
      obtain ⟨b2, o2, rfl, hc2, hcs2⟩ := ch_cells h2 hx hl
      obtain ⟨x1, x2, x3⟩ := x
      have ca : ∀ w', Fr wr w' → w'.cell? ⟨b1, o1 + j * 3, none⟩ = some (.string x1) := fun w' hw' => (hcs w' (hf.trans hw')).1
      have cb : ∀ w', Fr wr w' → w'.cell? ⟨b1, o1 + j * 3 + 1, none⟩ = some (.bool x2) := fun w' hw' => (hcs w' (hf.trans hw')).2.1
      have cc : ∀ w', Fr wr w' → w'.cell? ⟨b1, o1 + j * 3 + 2, none⟩ = some (.string x3) := fun w' hw' => (hcs w' (hf.trans hw')).2.2
      have da : ∀ w', Fr wr w' → w'.cell? ⟨b2, o2 + j * 3, none⟩ = some (.string x1) := fun w' hw' => (hcs2 w' (hf.trans hw')).1
      have db : ∀ w', Fr wr w' → w'.cell? ⟨b2, o2 + j * 3 + 1, none⟩ = some (.bool x2) := fun w' hw' => (hcs2 w' (hf.trans hw')).2.1
      have dc : ∀ w', Fr wr w' → w'.cell? ⟨b2, o2 + j * 3 + 2, none⟩ = some (.string x3) := fun w' hw' => (hcs2 w' (hf.trans hw')).2.2
      have hne := ch_neq x1 x2 x2 x3 x3
      have hself : eqC (x2, x3) (x2, x3) = true := by simp [eqC]
      rw [hself] at hne
      clear hcs hcs2 h h2 hx hl hself
      go_wp2_with fail
      refine wp_region_classW (Fr wr) (by kernel_rfl) (by kernel_rfl) (Fr.draw _) ?_
      repeat (first
        | (refine WQ.val rfl ?_
           apply Exists.intro
           refine ⟨?_, ?_⟩
           focus (intro w' hw'; go_simp; (try go_bits); with_reducible rfl)
           simp only [Act.put, List.setIfInBounds_toArray, List.set_cons_zero, List.set_cons_succ])
        | (refine WQ.pass rfl ?_
           simp only [Act.put, List.setIfInBounds_toArray, List.set_cons_zero, List.set_cons_succ]))
      refine WQ.nil ?_
      intro w5 f5
      go_wp2_with fail
      go_roundw
      case rel => exact ⟨j + 1, by omega, by go_num, hf.trans f5⟩
      case measure => simp [intOf]; omega
    · obtain rfl : n = j := by omega
      clear h h2 hl
      go_wp2_with fail
      go_ret
      exact ⟨rfl, hf⟩
end Go.Proofs.Ytgdmkiobidnhnaa
