/-
  A map whose keys rise, in memory: New, Put, Get. Conditions: the memory is as it says.
-/
import Derived.Test.YtgdmkiobidnhnaaSrch
namespace Go.Proofs.Ytgdmkiobidnhnaa
open Go.RowKit

abbrev Ps := List (ByteArray × ByteArray)
def valsV (l : Ps) : List Value := l.map fun a => .string a.2
/-- The map's block, its two rows; F: the blocks that it writes to. -/
def Tb (B : Nat) (F : Nat → Prop) (T : Nat) (l : Ps) (w : World) : Prop :=
  ∃ ks vs, w.heap[T]? = some (.cells #[ks, vs] 28) ∧ w.ownsRow B 9 1 ks l.length (keysV l) ∧ w.ownsRow B 9 1 vs l.length (valsV l) ∧ (∀ k, ks.ownBlock = some k → vs.ownBlock ≠ some k) ∧ F = (fun k => k = T ∨ ks.ownBlock = some k ∨ vs.ownBlock = some k) ∧ B ≤ T ∧ Up l
theorem own_type {w : World} {B e g n : Nat} {v : Value} {xs : List Value} (h : w.ownsRow B e 1 v n xs) (hg : v.ownBlock = some g) : ∃ cur, w.heap[g]? = some (.cells cur e) := by
  rcases h.2 with ⟨rfl, _⟩ | ⟨g', cap, cur, rfl, _, hh, _⟩
  · cases hg
  · cases hg; exact ⟨cur, hh⟩
theorem own_ne {w : World} {B e e' T n : Nat} {v : Value} {xs : List Value} {cs : Array Value} (h : w.ownsRow B e 1 v n xs) (hT : w.heap[T]? = some (.cells cs e')) (he : e ≠ e') : v.ownBlock ≠ some T := by
  intro hg
  obtain ⟨cur, hc⟩ := own_type h hg
  rw [hT] at hc
  cases hc
  exact he rfl
theorem Tb.lt {B T : Nat} {F : Nat → Prop} {l : Ps} {w : World} (h : Tb B F T l w) : ∀ k, F k → B ≤ k ∧ k < w.heap.size := by
  obtain ⟨ks, vs, hT, hk, hv, _, rfl, hB, _⟩ := h
  intro k hc
  rcases hc with rfl | hc | hc
  · exact ⟨hB, (Array.getElem?_eq_some_iff.1 hT).1⟩
  · exact hk.lt k hc
  · exact hv.lt k hc
theorem Tb.up {B T : Nat} {F : Nat → Prop} {l : Ps} {w : World} (h : Tb B F T l w) : Up l := by
  obtain ⟨_, _, _, _, _, _, _, _, h⟩ := h; exact h
theorem Tb.le {B T : Nat} {F : Nat → Prop} {l : Ps} {w : World} (h : Tb B F T l w) : B ≤ w.heap.size := by
  obtain ⟨ks, vs, hT, _, _, _, _, hB, _⟩ := h
  have := (Array.getElem?_eq_some_iff.1 hT).1; omega
theorem owns_but {w w' : World} {B e n : Nat} {v : Value} {xs : List Value} {G : Nat → Prop} (h : w.ownsRow B e 1 v n xs) (hb : But G w w') (hn : ∀ k, v.ownBlock = some k → ¬ G k) : w'.ownsRow B e 1 v n xs := by
  rcases h.2 with ⟨hv, h0⟩ | ⟨g, cap, cur, hv, hg, hh, r⟩
  · exact ⟨h.1, .inl ⟨hv, h0⟩⟩
  · exact ⟨h.1, .inr ⟨g, cap, cur, hv, hg, (hb.heap g (Array.getElem?_eq_some_iff.1 hh).1 (hn g (by rw [hv]; rfl))).trans hh, r⟩⟩
theorem Tb.but {B T : Nat} {F G : Nat → Prop} {l : Ps} {w w' : World} (h : Tb B F T l w) (hb : But G w w') (hn : ∀ k, F k → ¬ G k) : Tb B F T l w' := by
  obtain ⟨ks, vs, hT, hk, hv, hkv, rfl, hB, hu⟩ := h
  exact ⟨ks, vs, (hb.heap T (Array.getElem?_eq_some_iff.1 hT).1 (hn T (.inl rfl))).trans hT, owns_but hk hb (fun k hc => hn k (.inr (.inl hc))), owns_but hv hb (fun k hc => hn k (.inr (.inr hc))), hkv, rfl, hB, hu⟩
theorem Tb.fr {B T : Nat} {F : Nat → Prop} {l : Ps} {w w' : World} (h : Tb B F T l w) (hf : Fr w w') : Tb B F T l w' := by
  obtain ⟨ks, vs, hT, hk, hv, r⟩ := h
  exact ⟨ks, vs, (hf.heap (Array.getElem?_eq_some_iff.1 hT).1).trans hT, owns_fr hk hf, owns_fr hv hf, r⟩
theorem Tb.below {B T : Nat} {F : Nat → Prop} {l : Ps} {w w' : World} (h : Tb B F T l w) (hb : But F w w') : Below B w w' := hb.below h.le fun k hk hF => by have := (h.lt k hF).1; omega
def NewT (W : World) (e : Ending) (w' : World) : Prop := ∃ T F, e = .returned (.pointer (some ⟨T, 0, none⟩)) ∧ Tb W.heap.size F T [] w' ∧ Fr W w'
theorem new_tb (w : World) : Calls Try.prog 13 #[] w (NewT w) := by
  have f1 := (Fr.refl w).alloc (.cells #[.slice none 0 0, .slice none 0 0] 28)
  have b1 := heap_alloc_new w (.cells #[.slice none 0 0, .slice none 0 0] 28)
  go_enter Try.func13, Try.ntmps13
  go_wp2_with fail
  go_ret
  exact ⟨w.heap.size, _, rfl, ⟨.slice none 0 0, .slice none 0 0, b1, ⟨rfl, .inl ⟨rfl, rfl⟩⟩, ⟨rfl, .inl ⟨rfl, rfl⟩⟩, (fun k h => (by cases h)), rfl, Nat.le_refl _, Up.nil⟩, f1⟩
/-- One element is stored over. -/
theorem own1_set {w : World} {B e g n c i : Nat} {xs : List Value} (h : w.ownsRow B e 1 (.slice (some ⟨g, 0, none⟩) n c) n xs) (x : Value) (hi : i < n) : (w.setCell ⟨g, i, none⟩ x).ownsRow B e 1 (.slice (some ⟨g, 0, none⟩) n c) n (xs.set i x) := by
  obtain ⟨cur, hg, hB, h1, h2, h3, h4, h5⟩ := own1 h
  refine own1_of (set_block hg i x) hB (by rw [List.length_set]; exact h4) h1 h2 (by simpa using h3) (fun k hk => ?_)
  rw [Array.getElem?_setIfInBounds, List.getElem?_set]
  by_cases he : i = k
  · subst he; rw [if_pos rfl, if_pos rfl, if_pos (by omega), if_pos (by omega)]
  · rw [if_neg he, if_neg he]; exact h5 k hk
theorem own_form {w : World} {B e n : Nat} {v : Value} {xs : List Value} (h : w.ownsRow B e 1 v n xs) : ∃ a c, v = .slice a n c := by
  rcases h.2 with ⟨rfl, rfl⟩ | ⟨g, c, _, rfl, _⟩
  · exact ⟨_, _, rfl⟩
  · exact ⟨_, _, rfl⟩
theorem own_form1 {w : World} {B e n : Nat} {v : Value} {xs : List Value} (h : w.ownsRow B e 1 v n xs) (hn : 0 < n) : ∃ g c, v = .slice (some ⟨g, 0, none⟩) n c := by
  rcases h.2 with ⟨_, rfl⟩ | ⟨g, c, _, rfl, _⟩
  · omega
  · exact ⟨g, c, rfl⟩
def GetPost (l : Ps) (k : ByteArray) (W : World) (e : Ending) (w' : World) : Prop := e = .returned (.tuple #[.string ((get l k).getD ⟨#[]⟩), .bool (get l k).isSome]) ∧ Fr W w'
theorem get_tb {B T : Nat} {F : Nat → Prop} {l : Ps} {w : World} (h : Tb B F T l w) (hn : l.length ≤ 1000000) (k : ByteArray) : Calls Try.prog 15 #[.pointer (some ⟨T, 0, none⟩), .string k] w (GetPost l k w) := by
  obtain ⟨ks, vs, hT, hk, hv, hkv, rfl, hB, hu⟩ := h
  have hs := search_walk hk hu hn k
  have c0 : w.cell? ⟨T, 0, none⟩ = some ks := cell_at hT 0
  have hge := get_eq l k hu
  obtain ⟨r, hr⟩ : ∃ r, rank l k = r := ⟨_, rfl⟩
  obtain ⟨a1, n1, rfl⟩ := own_form hk
  obtain ⟨n, hn'⟩ : ∃ n, l.length = n := ⟨_, rfl⟩
  rw [hn'] at hk hv hn hs c0
  rw [hr] at hs hge
  cases hh : hit l k with
  | false =>
    rw [hh] at hs hge
    have HH := Go.Lib.hid hge
    clear hk hv hkv hu hn' hr hge hh hT hB
    go_enter Try.func15, Try.ntmps15
    go_wp2_with fail
    refine hs.mono ?_
    rintro e w1 ⟨rfl, f1⟩
    go_wp2_with fail
    go_ret2
    exact ⟨by rw [HH.out]; rfl, f1⟩
  | true =>
    obtain ⟨u, hu'⟩ := hit_at hh
    rw [hh, if_pos rfl, ← hr, hu'] at hge
    rw [hh] at hs
    have hrn : r < n := by rw [← hr, ← hn']; exact (List.getElem?_eq_some_iff.1 hu').1
    obtain ⟨g, c, rfl⟩ := own_form1 hv (by omega)
    have hcv : w.cell? ⟨g, 0 + r, none⟩ = some (.string u) := cells_of1 hv r _ (by unfold valsV; rw [List.getElem?_map, ← hr, hu']; rfl)
    rw [Nat.zero_add] at hcv
    have hlt := (own_type hv rfl)
    have hge2 : (get l k).getD ⟨#[]⟩ = u ∧ (get l k).isSome = true := by rw [hge]; exact ⟨rfl, rfl⟩
    have cf : ∀ w', Fr w w' → w'.cell? ⟨T, 1, none⟩ = some (.slice (some ⟨g, 0, none⟩) n c) ∧ w'.cell? ⟨g, r, none⟩ = some (.string u) := fun w' hw' => ⟨cell_at ((hw'.heap (Array.getElem?_eq_some_iff.1 hT).1).trans hT) 1, hw'.cell' hcv⟩
    obtain ⟨own_c1, own_c2, own_c3⟩ : n ≤ c ∧ True ∧ True := by obtain ⟨_, _, _, h1, _⟩ := own1 hv; exact ⟨h1, trivial, trivial⟩
    have HH := Go.Lib.hid hge2
    clear hk hv hkv hu hn' hr hge hh hT hB hu' hcv hlt hge2 own_c2 own_c3
    go_enter Try.func15, Try.ntmps15
    go_wp2_with fail
    refine hs.mono ?_
    rintro e w1 ⟨rfl, f1⟩
    obtain ⟨c1, c2⟩ := cf w1 f1
    clear cf hs c0
    go_wp2_with fail
    go_ret2
    exact ⟨by rw [HH.out.1, HH.out.2]; rfl, f1⟩
end Go.Proofs.Ytgdmkiobidnhnaa
