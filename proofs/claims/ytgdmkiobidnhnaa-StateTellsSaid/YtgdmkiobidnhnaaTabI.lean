/-
  A map of ints whose keys rise, in memory: New. Conditions: the memory is as it says.
-/
import Derived.Test.YtgdmkiobidnhnaaFrom
namespace Go.Proofs.Ytgdmkiobidnhnaa.I
open Go.RowKit

abbrev Ps := List (ByteArray × Int)
def valsV (l : Ps) : List Value := l.map fun a => .int .i64 a.2
/-- The map's block, its two rows; F: the blocks that it writes to. -/
def Tb (B : Nat) (F : Nat → Prop) (T : Nat) (l : Ps) (w : World) : Prop :=
  ∃ ks vs, w.heap[T]? = some (.cells #[ks, vs] 103) ∧ w.ownsRow B 9 1 ks l.length (keysV l) ∧ w.ownsRow B 3 1 vs l.length (valsV l) ∧ (∀ k, ks.ownBlock = some k → vs.ownBlock ≠ some k) ∧ F = (fun k => k = T ∨ ks.ownBlock = some k ∨ vs.ownBlock = some k) ∧ B ≤ T ∧ Up l
theorem Tb.lt {B T : Nat} {F : Nat → Prop} {l : Ps} {w : World} (h : Tb B F T l w) : ∀ k, F k → B ≤ k ∧ k < w.heap.size := by
  obtain ⟨ks, vs, hT, hk, hv, _, rfl, hB, _⟩ := h
  intro k hc
  rcases hc with rfl | hc | hc
  · exact ⟨hB, (Array.getElem?_eq_some_iff.1 hT).1⟩
  · exact hk.lt k hc
  · exact hv.lt k hc
theorem Tb.up {B T : Nat} {F : Nat → Prop} {l : Ps} {w : World} (h : Tb B F T l w) : Up l := by
  obtain ⟨_, _, _, _, _, _, _, _, h⟩ := h; exact h
theorem Tb.le {B T : Nat} {F : Nat → Prop} {l : Ps} {w : World} (h : Tb B F T l w) : B ≤ w.heap.size := by
  obtain ⟨ks, vs, hT, _, _, _, _, hB, _⟩ := h
  have := (Array.getElem?_eq_some_iff.1 hT).1; omega
theorem Tb.but {B T : Nat} {F G : Nat → Prop} {l : Ps} {w w' : World} (h : Tb B F T l w) (hb : But G w w') (hn : ∀ k, F k → ¬ G k) : Tb B F T l w' := by
  obtain ⟨ks, vs, hT, hk, hv, hkv, rfl, hB, hu⟩ := h
  exact ⟨ks, vs, (hb.heap T (Array.getElem?_eq_some_iff.1 hT).1 (hn T (.inl rfl))).trans hT, owns_but hk hb (fun k hc => hn k (.inr (.inl hc))), owns_but hv hb (fun k hc => hn k (.inr (.inr hc))), hkv, rfl, hB, hu⟩
theorem Tb.fr {B T : Nat} {F : Nat → Prop} {l : Ps} {w w' : World} (h : Tb B F T l w) (hf : Fr w w') : Tb B F T l w' := by
  obtain ⟨ks, vs, hT, hk, hv, r⟩ := h
  exact ⟨ks, vs, (hf.heap (Array.getElem?_eq_some_iff.1 hT).1).trans hT, owns_fr hk hf, owns_fr hv hf, r⟩
theorem Tb.below {B T : Nat} {F : Nat → Prop} {l : Ps} {w w' : World} (h : Tb B F T l w) (hb : But F w w') : Below B w w' := hb.below h.le fun k hk hF => by have := (h.lt k hF).1; omega
def NewT (W : World) (e : Ending) (w' : World) : Prop := ∃ T F, e = .returned (.pointer (some ⟨T, 0, none⟩)) ∧ Tb W.heap.size F T [] w' ∧ Fr W w'
theorem new_tb (w : World) : Calls Try.prog 74 #[] w (NewT w) := by
  have f1 := (Fr.refl w).alloc (.cells #[.slice none 0 0, .slice none 0 0] 103)
  have b1 := heap_alloc_new w (.cells #[.slice none 0 0, .slice none 0 0] 103)
  go_enter Try.func74, Try.ntmps74
  go_wp2_with fail
  go_ret
  exact ⟨w.heap.size, _, rfl, ⟨.slice none 0 0, .slice none 0 0, b1, ⟨rfl, .inl ⟨rfl, rfl⟩⟩, ⟨rfl, .inl ⟨rfl, rfl⟩⟩, (fun k h => (by cases h)), rfl, Nat.le_refl _, Up.nil⟩, f1⟩
end Go.Proofs.Ytgdmkiobidnhnaa.I
