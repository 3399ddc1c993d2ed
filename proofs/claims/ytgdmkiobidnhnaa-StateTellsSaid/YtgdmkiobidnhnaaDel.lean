/-
  Delete, Len, Key, and a map that is nil. Conditions: the memory is as it says.
-/
import Derived.Test.YtgdmkiobidnhnaaPut
namespace Go.Proofs.Ytgdmkiobidnhnaa
open Go.RowKit

def DelPost (B : Nat) (F : Nat → Prop) (T : Nat) (l : Ps) (b : Bool) (W : World) (e : Ending) (w' : World) : Prop :=
  e = .returned (.bool b) ∧ Tb B F T l w' ∧ But F W w'
theorem keysV_str (l : Ps) : keysV l = strV (l.map Prod.fst) := by unfold keysV strV; rw [List.map_map]; rfl
theorem valsV_str (l : Ps) : valsV l = strV (l.map Prod.snd) := by unfold valsV strV; rw [List.map_map]; rfl
theorem del_hit {l : Ps} {k : ByteArray} (hu : Up l) (h : hit l k = true) : keysV (del l k) = strV ((l.map Prod.fst).take (rank l k) ++ (l.map Prod.fst).drop (rank l k + 1)) ∧ valsV (del l k) = strV ((l.map Prod.snd).take (rank l k) ++ (l.map Prod.snd).drop (rank l k + 1)) ∧ (del l k).length = l.length - 1 := by
  obtain ⟨u, hu'⟩ := hit_at h
  have hlt := (List.getElem?_eq_some_iff.1 hu').1
  rw [del_eq l k hu, if_pos h]
  refine ⟨by rw [keysV_str]; simp [List.map_take, List.map_drop], by rw [valsV_str]; simp [List.map_take, List.map_drop], ?_⟩
  simp; omega
set_option maxHeartbeats 1000000 in
theorem del_tb {B T : Nat} {F : Nat → Prop} {l : Ps} {w : World} (h : Tb B F T l w) (hn : l.length ≤ 100000) (k : ByteArray) : Calls Try.prog 18 #[.pointer (some ⟨T, 0, none⟩), .string k] w (DelPost B F T (del l k) (hit l k) w) := by
  have h00 := h
  obtain ⟨ks, vs, hT, hk, hv, hkv, rfl, hB, hu⟩ := h
  have hs := search_walk hk hu (by omega) k
  have c0 : w.cell? ⟨T, 0, none⟩ = some ks := cell_at hT 0
  obtain ⟨r, hr⟩ : ∃ r, rank l k = r := ⟨_, rfl⟩
  have hTl := (Array.getElem?_eq_some_iff.1 hT).1
  have hup := hu.del k
  obtain ⟨a1, n1, rfl⟩ := own_form hk
  obtain ⟨a2, n2, rfl⟩ := own_form hv
  obtain ⟨n, hn'⟩ : ∃ n, l.length = n := ⟨_, rfl⟩
  rw [hn'] at hk hv hn hs c0 hT hkv h00 ⊢
  rw [hr] at hs
  have hkT := own_ne hk hT (by decide)
  have hvT := own_ne hv hT (by decide)
  cases hh : hit l k with
  | false =>
    have hd := del_eq l k hu
    rw [hh, if_neg (by decide)] at hd
    rw [hh] at hs
    rw [hd]
    have HH := Go.Lib.hid h00
    clear hk hv hkv hu hn' hr hh hT hd h00
    go_enter Try.func18, Try.ntmps18
    go_wp2_with fail
    refine hs.mono ?_
    rintro e w1 ⟨rfl, f1⟩
    go_wp2_with fail
    go_ret
    exact ⟨rfl, HH.out.fr f1, But.of_fr f1⟩
  | true =>
    obtain ⟨u, hu'⟩ := hit_at hh
    obtain ⟨p1, p2, p3⟩ := del_hit hu hh
    rw [hh] at hs
    rw [hr] at p1 p2
    rw [hn'] at p3
    have hrn : r < n := by rw [← hr, ← hn']; exact (List.getElem?_eq_some_iff.1 hu').1
    obtain ⟨g1, c1', hgc⟩ := own_form1 hk (by omega)
    cases hgc
    obtain ⟨g2, c2', hgc⟩ := own_form1 hv (by omega)
    cases hgc
    have hg1T : g1 ≠ T := fun e => hkT (by rw [e]; rfl)
    have hg2T : g2 ≠ T := fun e => hvT (by rw [e]; rfl)
    have hg12 : g1 ≠ g2 := fun e => hkv g1 rfl (by rw [e]; rfl)
    rw [keysV_str] at hk
    rw [valsV_str] at hv
    have HH := Go.Lib.hid (And.intro hT (And.intro hk (And.intro hv (And.intro p1 (And.intro p2 p3)))))
    clear hk hv hkv hu hn' hr hh hT hu' p1 p2 p3 h00
    go_enter Try.func18, Try.ntmps18
    go_wp2_with fail
    refine hs.mono ?_
    rintro e w1 ⟨rfl, f1⟩
    obtain ⟨hT, hk, hv, p1, p2, p3⟩ := HH.out
    have hT1 := (f1.heap hTl).trans hT
    have q0 : w1.cell? ⟨T, 0, none⟩ = some (.slice (some ⟨g1, 0, none⟩) n n1) := cell_at hT1 0
    have hdel := delete_walk (owns_fr hk f1) hrn
    have hv1 := owns_fr hv f1
    have H1 := Go.Lib.hid (And.intro hT1 (And.intro hv1 (And.intro p1 (And.intro p2 p3))))
    clear hs hT hk hv p1 p2 p3 hT1 hv1 HH c0
    go_wp2_with fail
    refine hdel.mono ?_
    rintro e w2 ⟨rfl, hk2, hb2⟩
    obtain ⟨hT1, hv1, p1, p2, p3⟩ := H1.out
    have hTl1 := (Array.getElem?_eq_some_iff.1 hT1).1
    have hT2 := (hb2.heap T hTl1 (fun e => hg1T e.symm)).trans hT1
    have hv2 := owns_but hv1 hb2 (fun j hj e => hg12 (by have : g2 = j := by simpa [Value.ownBlock] using hj
                                                         omega))
    have q1 : w2.cell? ⟨T, 0, none⟩ = some (.slice (some ⟨g1, 0, none⟩) n n1) := cell_at hT2 0
    have q2 : w2.frozen? ⟨T, 0, none⟩ = false := frozen_at hT2 0
    have q3 : w2.cell? ⟨T, 1, none⟩ = some (.slice (some ⟨g2, 0, none⟩) n n2) := cell_at hT2 1
    have hT3 := set_block hT2 0 (.slice (some ⟨g1, 0, none⟩) (n - 1) n1)
    have u3 := But.set w2 ⟨T, 0, none⟩ (.slice (some ⟨g1, 0, none⟩) (n - 1) n1)
    have hk3 := owns_but hk2 u3 (fun j hj e => hg1T (by have : g1 = j := by simpa [Value.ownBlock] using hj
                                                        rw [this]; exact e))
    have hv3 := owns_but hv2 u3 (fun j hj e => hg2T (by have : g2 = j := by simpa [Value.ownBlock] using hj
                                                        rw [this]; exact e))
    have hb3 := (But.of_fr (F := fun j => j = T ∨ j = g1 ∨ j = g2) f1).trans ((hb2.mono (fun _ h => .inr (.inl h))).trans (u3.mono (fun _ h => .inl h)))
    have hdel2 := delete_walk hv3 hrn
    have H3 := Go.Lib.hid (And.intro hT3 (And.intro hk3 (And.intro hb3 (And.intro p1 (And.intro p2 p3)))))
    clear hT1 hv1 p1 p2 p3 hTl1 hT2 hv2 hT3 hk3 hv3 hb3 hk2 hdel H1 q0 u3
    go_wp2_with fail
    refine hdel2.mono ?_
    rintro e w5 ⟨rfl, hv5, hb5⟩
    obtain ⟨hT3, hk3, hb3, p1, p2, p3⟩ := H3.out
    have hT5 := (hb5.heap T (Array.getElem?_eq_some_iff.1 hT3).1 (fun e => hg2T e.symm)).trans hT3
    have d0 : w5.cell? ⟨T, 1, none⟩ = some (.slice (some ⟨g2, 0, none⟩) n n2) := cell_at hT5 1
    have d1 : w5.frozen? ⟨T, 1, none⟩ = false := frozen_at hT5 1
    have hk5 := owns_but hk3 hb5 (fun j hj e => hg12 (by have : g1 = j := by simpa [Value.ownBlock] using hj
                                                         omega))
    have hT6 := set_block hT5 1 (.slice (some ⟨g2, 0, none⟩) (n - 1) n2)
    have u6 := But.set w5 ⟨T, 1, none⟩ (.slice (some ⟨g2, 0, none⟩) (n - 1) n2)
    have hk6 := owns_but hk5 u6 (fun j hj e => hg1T (by have : g1 = j := by simpa [Value.ownBlock] using hj
                                                        rw [this]; exact e))
    have hv6 := owns_but hv5 u6 (fun j hj e => hg2T (by have : g2 = j := by simpa [Value.ownBlock] using hj
                                                        rw [this]; exact e))
    have hb6 := hb3.trans ((hb5.mono (fun _ h => .inr (.inr h))).trans (u6.mono (fun _ h => .inl h)))
    have H6 := Go.Lib.hid (And.intro hT6 (And.intro hk6 (And.intro hv6 (And.intro hb6 (And.intro p1 (And.intro p2 p3))))))
    clear hT3 hk3 hb3 p1 p2 p3 hT5 hk5 hT6 hk6 hv6 hb6 hv5 hdel2 H3 u6
    go_wp2_with fail
    go_ret
    obtain ⟨hT6, hk6, hv6, hb6, p1, p2, p3⟩ := H6.out
    refine ⟨rfl, ⟨.slice (some ⟨g1, 0, none⟩) (n - 1) n1, .slice (some ⟨g2, 0, none⟩) (n - 1) n2, hT6, by rw [p1, p3]; exact hk6, by rw [p2, p3]; exact hv6, fun j h1 h2 => hg12 ?_, rfl, hB, hup⟩, hb6.mono fun j hj => ?_⟩
    · have e1 : g1 = j := by simpa [Value.ownBlock] using h1
      have e2 : g2 = j := by simpa [Value.ownBlock] using h2
      omega
    · rcases hj with hj | hj | hj
      · exact .inl hj
      · exact .inr (.inl (by rw [hj]; rfl))
      · exact .inr (.inr (by rw [hj]; rfl))
theorem len_tb {B T : Nat} {F : Nat → Prop} {l : Ps} {w : World} (h : Tb B F T l w) : Calls Try.prog 20 #[.pointer (some ⟨T, 0, none⟩)] w fun e w' => e = .returned (.int .i64 l.length) ∧ w = w' := by
  obtain ⟨ks, vs, hT, hk, hv, hkv, rfl, hB, hu⟩ := h
  have c0 : w.cell? ⟨T, 0, none⟩ = some ks := cell_at hT 0
  obtain ⟨a1, n1, rfl⟩ := own_form hk
  obtain ⟨n, hn'⟩ : ∃ n, l.length = n := ⟨_, rfl⟩
  rw [hn'] at c0 ⊢
  clear hk hv hkv hu hT hn'
  go_enter Try.func20, Try.ntmps20
  go_wp2_with fail
  go_ret
  exact ⟨rfl, rfl⟩
theorem len_nil (w : World) : Calls Try.prog 20 #[.pointer none] w fun e w' => e = .returned (.int .i64 0) ∧ w = w' := by
  go_enter Try.func20, Try.ntmps20
  go_wp2_with fail
  go_ret
  exact ⟨rfl, rfl⟩
theorem put_nil (k v : ByteArray) (w : World) : Calls Try.prog 16 #[.pointer none, .string k, .string v] w fun e w' => e = .returned (.tuple #[]) ∧ w = w' := by
  go_enter Try.func16, Try.ntmps16
  go_wp2_with fail
  first | refine bodyPost_ret (results_none rfl _ _ _) rfl ?_ | refine bodyPost_end (results_none rfl _ _ _) rfl ?_
  exact ⟨rfl, rfl⟩
theorem get_nil (k : ByteArray) (w : World) : Calls Try.prog 15 #[.pointer none, .string k] w fun e w' => e = .returned (.tuple #[.string ⟨#[]⟩, .bool false]) ∧ w = w' := by
  go_enter Try.func15, Try.ntmps15
  go_wp2_with fail
  go_ret2
  exact ⟨rfl, rfl⟩
theorem del_nil (k : ByteArray) (w : World) : Calls Try.prog 18 #[.pointer none, .string k] w fun e w' => e = .returned (.bool false) ∧ w = w' := by
  go_enter Try.func18, Try.ntmps18
  go_wp2_with fail
  go_ret
  exact ⟨rfl, rfl⟩
/-- Key at a place that is there. -/
theorem key_tb {B T : Nat} {F : Nat → Prop} {l : Ps} {w : World} (h : Tb B F T l w) {i : Nat} {a : ByteArray × ByteArray} (hi : l[i]? = some a) : Calls Try.prog 21 #[.pointer (some ⟨T, 0, none⟩), .int .i64 i] w fun e w' => e = .returned (.tuple #[.string a.1, .bool true]) ∧ w = w' := by
  obtain ⟨ks, vs, hT, hk, hv, hkv, rfl, hB, hu⟩ := h
  have c0 : w.cell? ⟨T, 0, none⟩ = some ks := cell_at hT 0
  have hlt := (List.getElem?_eq_some_iff.1 hi).1
  obtain ⟨n, hn'⟩ : ∃ n, l.length = n := ⟨_, rfl⟩
  rw [hn'] at hk hlt
  obtain ⟨g, c, rfl⟩ := own_form1 hk (by omega)
  have c1 : w.cell? ⟨g, 0 + i, none⟩ = some (.string a.1) := cells_of1 hk i _ (by unfold keysV; rw [List.getElem?_map, hi]; rfl)
  rw [Nat.zero_add] at c1
  obtain ⟨_, _, _, hnc, _⟩ := own1 hk
  clear hk hv hkv hu hT hn' hi
  go_enter Try.func21, Try.ntmps21
  go_wp2_with fail
  go_ret2
  exact ⟨rfl, rfl⟩
/-- Key at a place that is not there. -/
theorem key_no {B T : Nat} {F : Nat → Prop} {l : Ps} {w : World} (h : Tb B F T l w) {i : Int} (hi : i < 0 ∨ (l.length : Int) ≤ i) : Calls Try.prog 21 #[.pointer (some ⟨T, 0, none⟩), .int .i64 i] w fun e w' => e = .returned (.tuple #[.string ⟨#[]⟩, .bool false]) ∧ w = w' := by
  obtain ⟨ks, vs, hT, hk, hv, hkv, rfl, hB, hu⟩ := h
  have c0 : w.cell? ⟨T, 0, none⟩ = some ks := cell_at hT 0
  obtain ⟨n, hn'⟩ : ∃ n, l.length = n := ⟨_, rfl⟩
  rw [hn'] at hk hi
  obtain ⟨a1, n1, rfl⟩ := own_form hk
  clear hk hv hkv hu hT hn'
  by_cases h0 : i < 0
  all_goals
    go_enter Try.func21, Try.ntmps21
    go_wp2_with fail
    go_ret2
    exact ⟨rfl, rfl⟩
end Go.Proofs.Ytgdmkiobidnhnaa
