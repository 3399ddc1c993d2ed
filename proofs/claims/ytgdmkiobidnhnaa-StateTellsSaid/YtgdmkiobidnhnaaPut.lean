/-
  Put: a key gets a value. Conditions: the memory is as it says.
-/
import Derived.Test.YtgdmkiobidnhnaaTb
namespace Go.Proofs.Ytgdmkiobidnhnaa
open Go.RowKit

def PutPost (B : Nat) (F : Nat → Prop) (T : Nat) (l : Ps) (W : World) (e : Ending) (w' : World) : Prop :=
  e = .returned (.tuple #[]) ∧ ∃ F', Tb B F' T l w' ∧ (∀ k, F' k → F k ∨ W.heap.size ≤ k) ∧ But F W w'
theorem keysV_one {α : Type} (l : List (ByteArray × α)) : ∀ u ∈ keysV l, u.oneCell' = true := by
  intro u hu; obtain ⟨x, _, rfl⟩ := List.mem_map.1 hu; rfl
theorem valsV_one (l : Ps) : ∀ u ∈ valsV l, u.oneCell' = true := by
  intro u hu; obtain ⟨x, _, rfl⟩ := List.mem_map.1 hu; rfl
theorem put_hit {l : Ps} {k v : ByteArray} (h : hit l k = true) : keysV (put l k v) = keysV l ∧ valsV (put l k v) = (valsV l).set (rank l k) (.string v) ∧ (put l k v).length = l.length := by
  obtain ⟨u, hu⟩ := hit_at h
  rw [put_eq, if_pos h]
  refine ⟨?_, by unfold valsV; rw [List.map_set], List.length_set⟩
  unfold keysV
  rw [List.map_set]
  apply List.ext_getElem?
  intro j
  rw [List.getElem?_set]
  split
  · rename_i he
    subst he
    rw [List.length_map, if_pos (List.getElem?_eq_some_iff.1 hu).1, List.getElem?_map, hu]; rfl
  · rfl
theorem put_miss {l : Ps} {k v : ByteArray} (h : hit l k = false) : keysV (put l k v) = (keysV l).take (rank l k) ++ .string k :: (keysV l).drop (rank l k) ∧ valsV (put l k v) = (valsV l).take (rank l k) ++ .string v :: (valsV l).drop (rank l k) ∧ (put l k v).length = l.length + 1 := by
  rw [put_eq, if_neg (by rw [h]; decide)]
  refine ⟨by simp [keysV, List.map_take, List.map_drop], by simp [valsV, List.map_take, List.map_drop], ?_⟩
  have := rank_le l k
  simp; omega
set_option maxHeartbeats 1000000 in
theorem put_tb {B T : Nat} {F : Nat → Prop} {l : Ps} {w : World} (h : Tb B F T l w) (hn : l.length ≤ 100000) (k v : ByteArray) : Calls Try.prog 16 #[.pointer (some ⟨T, 0, none⟩), .string k, .string v] w (PutPost B F T (put l k v) w) := by
  have hBw := h.le
  obtain ⟨ks, vs, hT, hk, hv, hkv, rfl, hB, hu⟩ := h
  have hs := search_walk hk hu (by omega) k
  have c0 : w.cell? ⟨T, 0, none⟩ = some ks := cell_at hT 0
  obtain ⟨r, hr⟩ : ∃ r, rank l k = r := ⟨_, rfl⟩
  have hTl := (Array.getElem?_eq_some_iff.1 hT).1
  have hrl := rank_le l k
  have hup := hu.put k v
  obtain ⟨a1, n1, rfl⟩ := own_form hk
  obtain ⟨a2, n2, rfl⟩ := own_form hv
  obtain ⟨n, hn'⟩ : ∃ n, l.length = n := ⟨_, rfl⟩
  rw [hn'] at hk hv hn hs c0 hT hkv hrl ⊢
  rw [hr] at hs hrl
  have hkT := own_ne hk hT (by decide)
  have hvT := own_ne hv hT (by decide)
  cases hh : hit l k with
  | true =>
    obtain ⟨u, hu'⟩ := hit_at hh
    obtain ⟨p1, p2, p3⟩ := put_hit (v := v) hh
    rw [hh] at hs
    have hrn : r < n := by rw [← hr, ← hn']; exact (List.getElem?_eq_some_iff.1 hu').1
    obtain ⟨g, c, hgc⟩ := own_form1 hv (by omega)
    cases hgc
    have hcv : w.cell? ⟨g, 0 + r, none⟩ = some (.string u) := cells_of1 hv r _ (by unfold valsV; rw [List.getElem?_map, ← hr, hu']; rfl)
    rw [Nat.zero_add] at hcv
    obtain ⟨cur, hg, _, hnc, _⟩ := own1 hv
    have cf : ∀ w', Fr w w' → w'.cell? ⟨T, 1, none⟩ = some (.slice (some ⟨g, 0, none⟩) n n2) ∧ w'.cell? ⟨g, r, none⟩ = some (.string u) ∧ w'.frozen? ⟨g, r, none⟩ = false := fun w' hw' => ⟨cell_at ((hw'.heap hTl).trans hT) 1, hw'.cell' hcv, frozen_at ((hw'.heap (Array.getElem?_eq_some_iff.1 hg).1).trans hg) r⟩
    have HH := Go.Lib.hid (And.intro hT (And.intro hk (And.intro hv (And.intro hkv (And.intro p1 (And.intro p2 (And.intro p3 (And.intro hr hn'))))))))
    clear hk hv hkv hu hn' hr hh hT hu' hcv p1 p2 p3 hg
    go_enter Try.func16, Try.ntmps16
    go_wp2_with fail
    refine hs.mono ?_
    rintro e w1 ⟨rfl, f1⟩
    obtain ⟨c1, c2, c3⟩ := cf w1 f1
    clear cf hs c0
    go_wp2_with fail
    refine bodyPost_ret (results_none rfl _ _ _) rfl ?_
    obtain ⟨hT, hk, hv, hkv, p1, p2, p3, hr, hn'⟩ := HH.out
    have u1 := But.set w1 ⟨g, r, none⟩ (.string v)
    have hgT : g ≠ T := fun e => hvT (by rw [e]; rfl)
    have hgk : (Value.slice a1 n n1).ownBlock ≠ some g := fun e => hkv g e rfl
    refine ⟨rfl, _, ⟨.slice a1 n n1, .slice (some ⟨g, 0, none⟩) n n2, ?_, ?_, ?_, hkv, rfl, hB, hup⟩, fun _ h => .inl h, (But.of_fr f1).trans (u1.mono fun j hj => .inr (.inr (by rw [hj]; rfl)))⟩
    · rw [u1.heap T (by have := f1.size; omega) (fun e => hgT e.symm)]; exact (f1.heap hTl).trans hT
    · rw [p1, p3, hn']; exact owns_but (owns_fr hk f1) u1 (fun j hj e => hgk (by rw [hj, e]))
    · rw [p2, p3, hn', hr]; exact own1_set (owns_fr hv f1) _ hrn
  | false =>
    obtain ⟨p1, p2, p3⟩ := put_miss (v := v) hh
    rw [hh] at hs
    rw [hr] at p1 p2
    rw [hn'] at p3
    have HH := Go.Lib.hid (And.intro hT (And.intro hk (And.intro hv (And.intro hkv (And.intro p1 (And.intro p2 (And.intro p3 hn')))))))
    clear hk hv hkv hu hn' hr hh hT p1 p2 p3
    go_enter Try.func16, Try.ntmps16
    go_wp2_with fail
    refine hs.mono ?_
    rintro e w1 ⟨rfl, f1⟩
    obtain ⟨hT, hk, hv, hkv, p1, p2, p3, hn'⟩ := HH.out
    have f2 := f1.trans ((Fr.refl w1).alloc (.cells #[.string k] 9))
    have hT1 := (f1.heap hTl).trans hT
    have c1 : w1.cell? ⟨T, 0, none⟩ = some (.slice a1 n n1) := cell_at hT1 0
    have vb := heap_alloc_new w1 (.cells #[.string k] 9)
    have hsz1 := f1.size
    have hz2 : (w1.alloc (.cells #[.string k] 9)).heap.size = w1.heap.size + 1 := by simp
    have hins := ins_walk_s (i := r) (owns_fr hk f2) (keysV_one l) hrl (by omega) k vb (fun e => by have := (hk.lt _ e).2; omega) (by omega)
    have H1 := Go.Lib.hid (And.intro hT1 (And.intro hk (And.intro hv (And.intro hkv (And.intro p1 (And.intro p2 (And.intro p3 hn')))))))
    clear hs hT hk hv hkv p1 p2 p3 hn' hT1 vb HH c0
    go_wp2_with fail
    refine hins.mono ?_
    rintro e w2 ⟨g1, c1', rfl, hk2, hb2, hg1⟩
    obtain ⟨hT1, hk, hv, hkv, p1, p2, p3, hn'⟩ := H1.out
    have hb2w : But (fun j => (Value.slice a1 n n1).ownBlock = some j) w w2 := (But.of_fr f2).trans hb2
    have hT2 := (hb2w.heap T hTl hkT).trans (by have := hT1; exact ((f1.heap hTl).symm.trans this))
    have c2 : w2.cell? ⟨T, 0, none⟩ = some (.slice a1 n n1) := cell_at hT2 0
    have c3 : w2.frozen? ⟨T, 0, none⟩ = false := frozen_at hT2 0
    have c4w : w2.cell? ⟨T, 1, none⟩ = some (.slice a2 n n2) := cell_at hT2 1
    have hT3 := set_block hT2 0 (.slice (some ⟨g1, 0, none⟩) (n + 1) c1')
    have u3 := But.set w2 ⟨T, 0, none⟩ (.slice (some ⟨g1, 0, none⟩) (n + 1) c1')
    have hb3w : But (fun j => j = T ∨ (Value.slice a1 n n1).ownBlock = some j) w (w2.setCell ⟨T, 0, none⟩ (.slice (some ⟨g1, 0, none⟩) (n + 1) c1')) := hb2w.mix u3 (fun _ _ h => .inr h) (fun _ _ h => .inl h)
    have hg1T : g1 ≠ T := by
      rcases hg1 with h | h
      · exact fun e => hkT (by rw [h, e])
      · omega
    have hk3 := owns_but hk2 u3 (fun j hj => by have : g1 = j := by simpa [Value.ownBlock] using hj
                                                rw [← this]; exact hg1T)
    have hv3 := owns_but hv hb3w (fun j hj hc => hc.elim (fun e => hvT (by rw [hj, e])) (fun e => hkv j e hj))
    have c4 : (w2.setCell ⟨T, 0, none⟩ (.slice (some ⟨g1, 0, none⟩) (n + 1) c1')).cell? ⟨T, 1, none⟩ = some (.slice a2 n n2) := cell_at hT3 1
    have hsz3 := hb3w.size
    have hk3T : g1 < (w2.setCell ⟨T, 0, none⟩ (.slice (some ⟨g1, 0, none⟩) (n + 1) c1')).heap.size := (hk3.lt g1 rfl).2
    have hw1 : (Value.slice a2 n n2).ownBlock ≠ some g1 := by
      intro e
      rcases hg1 with h | h
      · exact hkv g1 h e
      · have := (hv.lt g1 e).2; omega
    clear hk2 hins c1 H1 hT1 hT2
    obtain ⟨w3, hw3⟩ : ∃ w3, w2.setCell ⟨T, 0, none⟩ (.slice (some ⟨g1, 0, none⟩) (n + 1) c1') = w3 := ⟨_, rfl⟩
    rw [hw3] at hT3 hb3w hk3 hv3 c4 hsz3 hk3T u3
    have H3 := Go.Lib.hid (And.intro hT3 (And.intro hk3 (And.intro hv3 (And.intro hkv (And.intro p1 (And.intro p2 (And.intro p3 hn')))))))
    have HW := Go.Lib.hid hw3
    clear hT3 hk3 hv3 hk hv hkv p1 p2 p3 hn' hw3
    have c5 : w2.cell? ⟨T, 1, none⟩ = some (.slice a2 n n2) := c4w
    clear c4
    go_wp2_with fail
    rw [HW.out]
    obtain ⟨hT3, hk3, hv3, hkv, p1, p2, p3, hn'⟩ := H3.out
    have f4 := (Fr.refl w3).alloc (.cells #[.string v] 9)
    have vb := heap_alloc_new w3 (.cells #[.string v] 9)
    have hz4 : (w3.alloc (.cells #[.string v] 9)).heap.size = w3.heap.size + 1 := by simp
    have hins := ins_walk_s (i := r) (owns_fr hv3 f4) (valsV_one l) hrl (by omega) v vb (fun e => by have := (hv3.lt _ e).2; omega) (by omega)
    have hz32 : w3.heap.size = w2.heap.size := by rw [← HW.out]; simp [World.setCell]
    rw [hz32] at hins
    refine hins.mono ?_
    rintro e w5 ⟨g2, c2', rfl, hv5, hb5, hg2⟩
    have hb5w : But (fun j => (Value.slice a2 n n2).ownBlock = some j) w3 w5 := (But.of_fr f4).trans hb5
    have hTl3 := (Array.getElem?_eq_some_iff.1 hT3).1
    have hT5 := (hb5w.heap T hTl3 hvT).trans hT3
    have d0 : w5.cell? ⟨T, 1, none⟩ = some (.slice a2 n n2) := cell_at hT5 1
    have d1 : w5.frozen? ⟨T, 1, none⟩ = false := frozen_at hT5 1
    have hk5 := owns_but hk3 hb5w (fun j hj e => by have : g1 = j := by simpa [Value.ownBlock] using hj
                                                    exact hw1 (by rw [this]; exact e))
    have hT6 := set_block hT5 1 (.slice (some ⟨g2, 0, none⟩) (n + 1) c2')
    have u6 := But.set w5 ⟨T, 1, none⟩ (.slice (some ⟨g2, 0, none⟩) (n + 1) c2')
    have hg2T : g2 ≠ T := by
      rcases hg2 with h | h
      · exact fun e => hvT (by rw [h, e])
      · omega
    have hg21 : g2 ≠ g1 := by
      rcases hg2 with h | h
      · exact fun e => hw1 (by rw [h, e])
      · omega
    have hk6 := owns_but hk5 u6 (fun j hj => by have : g1 = j := by simpa [Value.ownBlock] using hj
                                                rw [← this]; exact hg1T)
    have hv6 := owns_but hv5 u6 (fun j hj => by have : g2 = j := by simpa [Value.ownBlock] using hj
                                                rw [← this]; exact hg2T)
    have hbT := (hb3w.mix hb5w (H := fun j => j = T ∨ (Value.slice a1 n n1).ownBlock = some j ∨ (Value.slice a2 n n2).ownBlock = some j) (fun _ _ h => h.elim (fun h => .inl h) (fun h => .inr (.inl h))) (fun _ _ h => .inr (.inr h))).mix u6 (fun _ _ h => h) (fun _ _ h => .inl h)
    have H6 := Go.Lib.hid (And.intro hT6 (And.intro hk6 (And.intro hv6 (And.intro hbT (And.intro p1 (And.intro p2 p3))))))
    clear hT6 hk6 hv6 hbT hT3 hk3 hv3 hkv p1 p2 p3 hn' hk5 hv5 hT5 hins vb H3 HW hz32 u6
    go_wp2_with fail
    first | refine bodyPost_ret (results_none rfl _ _ _) rfl ?_ | refine bodyPost_end (results_none rfl _ _ _) rfl ?_
    obtain ⟨hT6, hk6, hv6, hbT, p1, p2, p3⟩ := H6.out
    refine ⟨rfl, _, ⟨.slice (some ⟨g1, 0, none⟩) (n + 1) c1', .slice (some ⟨g2, 0, none⟩) (n + 1) c2', hT6, by rw [p1, p3]; exact hk6, by rw [p2, p3]; exact hv6, fun j h1 h2 => ?_, rfl, hB, hup⟩, fun j hj => ?_, hbT⟩
    · have e1 : g1 = j := by simpa [Value.ownBlock] using h1
      have e2 : g2 = j := by simpa [Value.ownBlock] using h2
      omega
    · rcases hj with hj | hj | hj
      · exact .inl (.inl hj)
      · have e1 : g1 = j := by simpa [Value.ownBlock] using hj
        subst e1
        rcases hg1 with h | h
        · exact .inl (.inr (.inl h))
        · exact .inr (by omega)
      · have e2 : g2 = j := by simpa [Value.ownBlock] using hj
        subst e2
        rcases hg2 with h | h
        · exact .inl (.inr (.inr h))
        · exact .inr (by omega)
end Go.Proofs.Ytgdmkiobidnhnaa
