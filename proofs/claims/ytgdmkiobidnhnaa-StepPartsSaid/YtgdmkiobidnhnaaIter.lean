/-
  From: a map's iterator: it hands out the pairs from a key on, in order, and stops where a round says so. Conditions: the map is as it says.
-/
import Derived.Test.YtgdmkiobidnhnaaFence
import Derived.StillTailTactics
namespace Go.Proofs.Ytgdmkiobidnhnaa
open Go.RowKit Go.Shelf
theorem wide_depth : Fence.wide.depth = none := rfl
theorem wide_fn (f : FuncId) : Fence.wide.fn f = True := rfl
theorem wide_round : Fence.wide.round = none := rfl
attribute [local go_sem] Oper.semAt_some wide_depth wide_fn

/-- What a cell holds, it holds on. -/
def KeepsC (p : Addr) (A B : World) : Prop := ∀ v, A.cell? p = some v → B.cell? p = some v
theorem KeepsC.t {p : Addr} {A B C : World} (h : KeepsC p A B) (k : KeepsC p B C) : KeepsC p A C := fun v hv => k v (h v hv)
theorem cell_none_of {W : World} {p : Addr} {o : Obj} (h : W.heap[p.block]? = some o) (ho : o.isCells = false) : W.cell? p = none := by
  cases o <;> simp_all [World.cell?, Obj.isCells]
theorem KeepsC.b {p : Addr} (W : World) (l : Nat) (o o' : Obj) (h : W.heap[l]? = some o) (ho : o.isCells = false) : KeepsC p W (W.putObj l o') := by
  intro v hv
  by_cases e : p.block = l
  · subst e
    rw [cell_none_of h ho] at hv
    cases hv
  · have : (W.putObj l o').heap[p.block]? = W.heap[p.block]? := by simp [World.putObj, Ne.symm e]
    rw [World.cell?_of_block this]
    exact hv
/-- A map that lies in old blocks. -/
def Seen (n0 T : Nat) (l : Ps) (W : World) : Prop :=
  ∃ ks vs B, W.heap[T]? = some (.cells #[ks, vs] 28) ∧ W.ownsRow B 9 1 ks l.length (keysV l) ∧ W.ownsRow B 9 1 vs l.length (valsV l) ∧ T < n0 ∧ (∀ k, ks.ownBlock = some k → k < n0) ∧ (∀ k, vs.ownBlock = some k → k < n0) ∧ Up l ∧ n0 ≤ W.heap.size
theorem Tb.seen {B T : Nat} {F : Nat → Prop} {l : Ps} {w : World} (h : Tb B F T l w) : Seen w.heap.size T l w := by
  obtain ⟨ks, vs, hT, hk, hv, hkv, rfl, hB, hu⟩ := h
  exact ⟨ks, vs, B, hT, hk, hv, (Array.getElem?_eq_some_iff.1 hT).1, fun k h => (hk.lt k h).2, fun k h => (hv.lt k h).2, hu, Nat.le_refl _⟩
theorem owns_below {w w' : World} {n0 B e n : Nat} {v : Value} {xs : List Value} (h : w.ownsRow B e 1 v n xs) (hb : Below n0 w w') (hn : ∀ k, v.ownBlock = some k → k < n0) : w'.ownsRow B e 1 v n xs := by
  rcases h.2 with ⟨hv, h0⟩ | ⟨g, cap, cur, hv, hg, hh, r⟩
  · exact ⟨h.1, .inl ⟨hv, h0⟩⟩
  · exact ⟨h.1, .inr ⟨g, cap, cur, hv, hg, (hb.block g (hn g (by rw [hv]; rfl))).trans hh, r⟩⟩
theorem Seen.below {n0 T : Nat} {l : Ps} {W W' : World} (h : Seen n0 T l W) (hb : Below n0 W W') : Seen n0 T l W' := by
  obtain ⟨ks, vs, B, hT, hk, hv, h1, h2, h3, h4, h5⟩ := h
  exact ⟨ks, vs, B, (hb.block T h1).trans hT, owns_below hk hb h2, owns_below hv hb h3, h1, h2, h3, h4, Nat.le_trans h5 hb.size⟩
theorem Seen.search {n0 T : Nat} {l : Ps} {W : World} (h : Seen n0 T l W) (hn : l.length ≤ 1000000) : ∃ ks vs, W.cell? ⟨T, 0, none⟩ = some ks ∧ W.cell? ⟨T, 1, none⟩ = some vs ∧ (∃ a c, ks = .slice a l.length c) ∧ (∃ a c, vs = .slice a l.length c) ∧
    ∀ w', Fr W w' → w'.cell? ⟨T, 0, none⟩ = some ks ∧ ∀ k, Calls Try.prog 54 #[ks, .string k] w' fun e w2 => e = .returned (.tuple #[.int .i64 (rank l k : Nat), .bool (hit l k)]) ∧ Fr w' w2 := by
  obtain ⟨ks, vs, B, hT, hk, hv, h1, h2, h3, h4, h5⟩ := h
  exact ⟨ks, vs, cell_at hT 0, cell_at hT 1, own_form hk, own_form hv, fun w' hw' => ⟨cell_at ((hw'.heap (Array.getElem?_eq_some_iff.1 hT).1).trans hT) 0, fun k => search_walk (owns_fr hk hw') h4 hn k⟩⟩
theorem Seen.pair {n0 T : Nat} {l : Ps} {W : World} (h : Seen n0 T l W) {i : Nat} {a : ByteArray × ByteArray} (hi : l[i]? = some a) : ∃ g1 c1 g2 c2, W.cell? ⟨T, 0, none⟩ = some (.slice (some ⟨g1, 0, none⟩) l.length c1) ∧ W.cell? ⟨T, 1, none⟩ = some (.slice (some ⟨g2, 0, none⟩) l.length c2) ∧ W.cell? ⟨g1, i, none⟩ = some (.string a.1) ∧ W.cell? ⟨g2, i, none⟩ = some (.string a.2) := by
  obtain ⟨ks, vs, B, hT, hk, hv, h1, h2, h3, h4, h5⟩ := h
  have hlt := (List.getElem?_eq_some_iff.1 hi).1
  obtain ⟨g1, c1, rfl⟩ := own_form1 hk (by omega)
  obtain ⟨g2, c2, rfl⟩ := own_form1 hv (by omega)
  have e1 := cells_of1 hk i (.string a.1) (by unfold keysV; rw [List.getElem?_map, hi]; rfl)
  have e2 := cells_of1 hv i (.string a.2) (by unfold valsV; rw [List.getElem?_map, hi]; rfl)
  rw [Nat.zero_add] at e1 e2
  exact ⟨g1, c1, g2, c2, cell_at hT 0, cell_at hT 1, e1, e2⟩
theorem Fr.grown {w w' : World} (h : Fr w w') : w.grownBy w' none := ⟨h.below.os, h.below.tape, h.below.output, h.size, fun _ hk _ => h.heap hk⟩
/-- What a round keeps. -/
def Kp (n0 Bt : Nat) (A B : World) : Prop := Below n0 A B ∧ KeepsC ⟨Bt, 0, none⟩ A B
theorem abide {J : List (ByteArray × ByteArray) → World → Prop} {B : Nat} (h : AbidesFrom B J) {s : List (ByteArray × ByteArray)} {W W' : World} (hJ : J s W) (hf : Fr W W') : J s W' := h s W W' none hJ hf.grown (fun _ e => (by cases e))
theorem take_next {l : Ps} {r k : Nat} {a : ByteArray × ByteArray} (h : l[r + k]? = some a) : (l.drop r).take (k + 1) = (l.drop r).take k ++ [a] := by
  rw [List.take_add_one, List.getElem?_drop, h]; rfl
set_option maxRecDepth 100000 in
set_option maxHeartbeats 1000000 in
theorem fromFn_in (N : Nat) (lp Bt Bk n0 T : Nat) (l : Ps) (hn : l.length ≤ 1000000) (key : ByteArray) (J Jx : List (ByteArray × ByteArray) → World → Prop) (B : Nat) (hA : AbidesFrom B J)
    (hY : ∀ pre x W, J pre W → pre.length < (l.drop (rank l key)).length → YieldAt Fence.wide (N - 1) Try.prog lp #[.string x.1, .string x.2] W fun e W' =>
      (e = .returned (.bool true) ∧ J (pre ++ [x]) W' ∧ Kp n0 Bt W W') ∨ (e = .returned (.bool false) ∧ Jx (pre ++ [x]) W'))
    (W : World) (hBt : W.cell? ⟨Bt, 0, none⟩ = some (.pointer (some ⟨T, 0, none⟩))) (hBk : W.cell? ⟨Bk, 0, none⟩ = some (.string key)) (hs : Seen n0 T l W) (h0 : J [] W) :
    CallsIn Fence.wide N Try.prog 73 #[.func (.yield lp) #[] #[], .pointer (some ⟨Bt, 0, none⟩), .pointer (some ⟨Bk, 0, none⟩)] W fun e W' => (∃ v, e = .returned v) ∧
      ((∃ ys, ys = l.drop (rank l key) ∧ J ys W') ∨ (∃ pre, (∃ k, k ≤ (l.drop (rank l key)).length ∧ pre = (l.drop (rank l key)).take k) ∧ Jx pre W')) := by
  obtain ⟨ks, vs, c0, c1, ⟨a1, n1, rfl⟩, ⟨a2, n2, rfl⟩, hsr⟩ := hs.search hn
  have hrl := rank_le l key
  obtain ⟨r, hr⟩ : ∃ r, rank l key = r := ⟨_, rfl⟩
  rw [hr] at hY hrl ⊢
  obtain ⟨hb, hhb⟩ : ∃ hb, hit l key = hb := ⟨_, rfl⟩
  have hcall : ∀ w', Fr W w' → Calls Try.prog 54 #[.slice a1 l.length n1, .string key] w' fun e w2 => e = .returned (.tuple #[.int .i64 r, .bool hb]) ∧ Fr w' w2 := fun w' hw' => by
    have := (hsr w' hw').2 key
    rw [hr, hhb] at this
    exact this
  have x0 : ∀ w', Fr W w' → w'.cell? ⟨Bt, 0, none⟩ = some (.pointer (some ⟨T, 0, none⟩)) := fun w' hw' => hw'.cell' hBt
  have x1 : ∀ w', Fr W w' → w'.cell? ⟨Bk, 0, none⟩ = some (.string key) := fun w' hw' => hw'.cell' hBk
  have x2 : ∀ w', Fr W w' → w'.cell? ⟨T, 0, none⟩ = some (.slice a1 l.length n1) := fun w' hw' => (hsr w' hw').1
  obtain ⟨n, hnn⟩ : ∃ n, l.length = n := ⟨_, rfl⟩
  rw [hnn] at hcall x2 hrl hn c0 c1
  have HS := Go.Lib.hid (And.intro hs hnn)
  clear hsr hr hhb hs hnn
  refine callsIn_of_wp Try.func73 rfl trivial ?_ rfl
  simp only [Try.ntmps73, List.size_toArray, List.length_cons, List.length_nil, Nat.reduceAdd, Nat.reduceSub, Array.replicate_succ, Array.replicate_zero, List.push_toArray, List.append_toArray, List.nil_append, List.cons_append]
  gi_wp2_with fail
  refine wpIn_region_class (Fr W) (by kernel_rfl) (by kernel_rfl) (Fr.draw _) ?_
  repeat (first
    | (refine quietIn_val rfl ?_
       apply Exists.intro
       refine ⟨?_, ?_⟩
       focus (intro w' hw'; go_simp; (try go_bits); with_reducible rfl)
       simp only [Act.put, List.setIfInBounds_toArray, List.set_cons_zero, List.set_cons_succ])
    | (refine quietIn_pass rfl ?_
       simp only [Act.put, List.setIfInBounds_toArray, List.set_cons_zero, List.set_cons_succ])
    | (refine quietIn_enter rfl ?_
       apply Exists.intro
       apply Exists.intro
       apply Exists.intro
       refine ⟨?_, ?_, ?_⟩
       focus (intro w' hw'; go_simp; exact ⟨rfl, rfl⟩)
       focus (intro w' hw'; with_reducible first | exact qFr (by assumption) (hcall _ (by assumption)))
       simp only [Act.put, List.setIfInBounds_toArray, List.set_cons_zero, List.set_cons_succ]))
  refine wpQuietIn_nil ?_
  intro w2 f2
  have hJ2 := abide hA h0 f2
  have hK2 : Kp n0 Bt W w2 := ⟨f2.below_of (by obtain ⟨_, _, _, _, _, _, _, _, _, _, h5⟩ := HS.out.1; exact h5), fun v hv => f2.cell' hv⟩
  clear hcall x0 x1 x2 c0 c1 f2
  gi_wp2_with fail
  gi_loopw [6] (fun i wr => ∃ k : Nat, r + k ≤ n ∧ i = .int .i64 ((r + k : Nat) : Int) ∧ J ((l.drop r).take k) wr ∧ Kp n0 Bt W wr) (fun i _ => n - (intOf i).toNat)
  case atStart => exact ⟨0, by omega, rfl, hJ2, hK2⟩
  case round =>
    clear hJ2 hK2
    obtain ⟨k, hk, rfl, hJ, hKp⟩ := hrel
    have y0 := hKp.2 _ hBt
    obtain ⟨hs, hnn⟩ := HS.out
    have hs1 := hs.below hKp.1
    obtain ⟨i, hi⟩ : ∃ i, r + k = i := ⟨_, rfl⟩
    by_cases hlt : i < n
    · obtain ⟨a, ha⟩ : ∃ a, l[i]? = some a := ⟨_, List.getElem?_eq_getElem (by omega)⟩
      obtain ⟨g1, c1, g2, c2, z0, z1, z2, z3⟩ := hs1.pair ha
      obtain ⟨hnc1, hnc2⟩ : n ≤ c1 ∧ n ≤ c2 := by
        obtain ⟨ks, vs, B', hT, hk1, hv1, _⟩ := hs1
        have e0 : some ks = some _ := (cell_at hT 0).symm.trans z0
        have e1 : some vs = some _ := (cell_at hT 1).symm.trans z1
        cases e0; cases e1
        obtain ⟨_, _, _, q1, _⟩ := own1 hk1
        obtain ⟨_, _, _, q2, _⟩ := own1 hv1
        omega
      have htn := take_next (l := l) (r := r) (k := k) (by rw [hi]; exact ha)
      obtain ⟨fn, tmps, assign, body, hy, hR⟩ := hY _ a wr.drew (abide hA hJ ((Fr.refl wr).drewN 1)) (by rw [List.length_take, List.length_drop]; omega)
      rw [hnn] at z0 z1
      rw [hi]
      have HT := Go.Lib.hid (And.intro htn (And.intro hi hKp))
      clear hs hs1 hnn ha htn hi hJ
      gi_wp2_with fail
      refine wpIn_region_still_tail 15 (by kernel_rfl) (by kernel_rfl) ?_
      simp only [List.take_succ_cons, List.take_zero, List.drop_succ_cons, List.drop_zero]
      repeat still_step
      try refine wpStill_nil ?_
      change wpListIn _ _ _ _ _ _ _ wr.drew
      have hd := (Fr.refl wr).drewN 1
      replace hd : Fr wr wr.drew := hd
      have hKd : Kp n0 Bt W wr.drew := ⟨HT.out.2.2.1.trans (hd.below_of (by have := HT.out.2.2.1.size; obtain ⟨_, _, _, _, _, _, _, _, _, _, h5⟩ := HS.out.1; omega)), fun v hv => hd.cell' (HT.out.2.2.2 v hv)⟩
      have HK := Go.Lib.hid hKd
      generalize wr.drew = w3 at *
      clear y0 z0 z1 z2 z3 hd hKd
      gi_wp2
      refine hR.mono ?_
      rintro e W3 (⟨rfl, hJ3, hk3⟩ | ⟨rfl, hJx3⟩)
      · have hKp3 : Kp n0 Bt W W3 := ⟨HK.out.1.trans hk3.1, HK.out.2.t hk3.2⟩
        have H3 := Go.Lib.hid (And.intro hJ3 hKp3)
        clear hJ3 hKp3 hk3
        gi_wp2
        go_roundw
        case rel =>
          obtain ⟨htn, hi, _⟩ := HT.out
          exact ⟨k + 1, by omega, by rw [show r + (k + 1) = i + 1 by omega]; go_num, by rw [htn]; exact H3.out.1, H3.out.2⟩
        case measure => simp [intOf]; omega
      · have H3 := Go.Lib.hid hJx3
        clear hJx3
        gi_wp2
        refine bodyPost_ret (results_none rfl _ _ _) rfl ?_
        obtain ⟨htn, hi, _⟩ := HT.out
        obtain ⟨hs, hnn⟩ := HS.out
        exact ⟨⟨_, rfl⟩, .inr ⟨_, ⟨k + 1, by rw [List.length_drop]; omega, htn.symm⟩, H3.out⟩⟩
    · obtain ⟨g, hg⟩ : ∃ g, g = (l.drop r).length := ⟨_, rfl⟩
      have hkl : k = n - r := by omega
      obtain ⟨ks, vs, B', hT, hk1, hv1, _⟩ := hs1
      have z0 : wr.cell? ⟨T, 0, none⟩ = some ks := cell_at hT 0
      obtain ⟨a3, c3, rfl⟩ := own_form hk1
      rw [hnn] at z0
      have HT := Go.Lib.hid (And.intro hkl (And.intro hJ (And.intro hnn hi)))
      have hii := hi
      clear hs hnn hi hJ hT hk1 hv1 hg hkl
      rw [hii]
      clear hii
      gi_wp2
      go_end0
      obtain ⟨hkl, hJ, hnn, hi⟩ := HT.out
      refine ⟨⟨_, rfl⟩, .inl ⟨_, rfl, ?_⟩⟩
      have : (l.drop r).take k = l.drop r := List.take_of_length_le (by rw [List.length_drop]; omega)
      rw [← this]; exact hJ
end Go.Proofs.Ytgdmkiobidnhnaa
