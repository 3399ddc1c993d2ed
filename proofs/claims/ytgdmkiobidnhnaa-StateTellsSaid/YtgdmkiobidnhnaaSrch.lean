/-
  The library's BinarySearch and Delete at a row of texts that the call owns. Conditions: the keys rise; the place is in the row.
-/
import Derived.Test.YtgdmkiobidnhnaaIns
import Derived.Test.YtgdmkiobidnhnaaPlain
namespace Go.Proofs.Ytgdmkiobidnhnaa
open Go.RowKit

def keysV {α : Type} (l : List (ByteArray × α)) : List Value := l.map fun a => .string a.1
def strV (l : List ByteArray) : List Value := l.map .string
theorem strV_one (l : List ByteArray) : ∀ u ∈ strV l, u.oneCell' = true := by
  intro u hu; obtain ⟨x, _, rfl⟩ := List.mem_map.1 hu; rfl
theorem search_walk {α : Type} {B : Nat} {v : Value} {l : List (ByteArray × α)} {w : World} (h : w.ownsRow B 9 1 v l.length (keysV l)) (hu : Up l) (hn : l.length ≤ 1000000) (k : ByteArray) :
    Calls Try.prog 54 #[v, .string k] w fun e w' => e = .returned (.tuple #[.int .i64 (rank l k : Nat), .bool (hit l k)]) ∧ Fr w w' := by
  obtain ⟨n, hn'⟩ : ∃ n, l.length = n := ⟨_, rfl⟩
  rw [hn'] at h hn
  rcases h.2 with ⟨rfl, rfl⟩ | ⟨g, c, cur, rfl, _⟩
  · obtain rfl : l = [] := List.length_eq_zero_iff.1 hn'
    refine (Any2.slices_BinarySearch_string_empty Try.lays2_26 none 0 k w).mono ?_
    rintro e w' ⟨rfl, rfl⟩
    exact ⟨rfl, Fr.refl _⟩
  · obtain ⟨S, hS⟩ : ∃ S : Nat → ByteArray, ∀ t, S t = ((l[t]?).map Prod.fst).getD k := ⟨_, fun _ => rfl⟩
    have hc : ∀ j, j < n → w.cell? ⟨g, 0 + j, none⟩ = some (.string (S j)) := fun j hj => by
      refine cells_of1 h j _ ?_
      rw [hS]
      unfold keysV
      rw [List.getElem?_map, List.getElem?_eq_getElem (by omega)]
      rfl
    have hless1 : ∀ t, t < rank l k → Op.bytesLess (S t).toList k.toList = true := fun t ht => by
      have hlt : t < l.length := by have := rank_le l k; omega
      rw [hS, List.getElem?_eq_getElem hlt]
      exact rank_lo l k t _ ht (List.getElem?_eq_getElem hlt)
    have hless2 : ∀ t, rank l k ≤ t → Op.bytesLess (S t).toList k.toList = false := fun t ht => by
      rw [hS]
      rcases Nat.lt_or_ge t l.length with hlt | hge
      · rw [List.getElem?_eq_getElem hlt]
        exact rank_hi l k t _ hu ht (List.getElem?_eq_getElem hlt)
      · rw [List.getElem?_eq_none hge]
        exact lt_irrefl k
    have hcut : Lib.bsGo (fun t => Op.bytesLess (S t).toList k.toList) n 0 n = rank l k := Lib.bsGo_spec _ (rank l k) hless1 hless2 n 0 n (by omega) (Nat.zero_le _) (by have := rank_le l k; omega)
    have hb : decide (rank l k < n ∧ S (rank l k) = k) = hit l k := by
      rw [Bool.eq_iff_iff, decide_eq_true_iff]
      unfold hit
      constructor
      · rintro ⟨h1, h2⟩
        rw [hS, List.getElem?_eq_getElem (by omega)] at h2
        rw [List.getElem?_eq_getElem (by omega)]
        simpa using h2
      · intro h1
        cases hl : l[rank l k]? with
        | none => rw [hl] at h1; cases h1
        | some a =>
          rw [hl] at h1
          refine ⟨by have := (List.getElem?_eq_some_iff.1 hl).1; omega, ?_⟩
          rw [hS, hl]
          simpa using h1
    refine (Any2.slices_BinarySearch_string Try.lays2_26 g 0 n c S k w (by omega) hc).mono ?_
    rintro e w' ⟨he, q, rfl⟩
    rw [hcut, hb] at he
    exact ⟨he, (Fr.refl w).drewN q⟩
theorem delete_walk {B g n c i : Nat} {l : List ByteArray} {w : World} (h : w.ownsRow B 9 1 (.slice (some ⟨g, 0, none⟩) n c) n (strV l)) (hi : i < n) :
    Calls Try.prog 56 #[.slice (some ⟨g, 0, none⟩) n c, .int .i64 i, .int .i64 ((i : Int) + 1)] w fun e w' => e = .returned (.slice (some ⟨g, 0, none⟩) (n - 1) c) ∧ w'.ownsRow B 9 1 (.slice (some ⟨g, 0, none⟩) (n - 1) c) (n - 1) (strV (l.take i ++ l.drop (i + 1))) ∧ But (fun k => k = g) w w' := by
  obtain ⟨cur, hg, hBg, hnc, hcm, hcs, hl, hat⟩ := own1 h
  have hll : l.length = n := by unfold strV at hl; rw [List.length_map] at hl; exact hl
  obtain ⟨S, hS⟩ : ∃ S : Nat → ByteArray, ∀ t, S t = (l[t]?).getD default := ⟨_, fun _ => rfl⟩
  have hc : ∀ j, j < n → w.cell? ⟨g, 0 + j, none⟩ = some (.string (S j)) := fun j hj => by
    refine cells_of1 h j _ ?_
    unfold strV
    rw [List.getElem?_map, hS, List.getElem?_eq_getElem (by omega)]
    rfl
  have hstr : (Lib.strsOf S n).map encStr = strV l := by
    apply List.ext_getElem?
    intro t
    unfold Lib.strsOf strV
    rw [List.getElem?_map, List.getElem?_map, List.getElem?_map]
    by_cases ht : t < n
    · rw [List.getElem?_range ht, List.getElem?_eq_getElem (by omega)]
      simp [encStr, hS, List.getElem?_eq_getElem (show t < l.length by omega)]
    · rw [List.getElem?_eq_none (by simpa using ht), List.getElem?_eq_none (by omega)]
      rfl
  refine (Any.slices_Delete_string_cells Try.lays2_24 g 0 n c i (i + 1) S w hnc (by unfold maxLen at hcm; omega) (by omega) (by omega) hc (fun j _ => frozen_at hg _)).mono ?_
  rintro e w' ⟨he, q, rfl⟩
  have hM : ((Lib.strsOf S n).take i ++ (Lib.strsOf S n).drop (i + 1) ++ List.replicate (i + 1 - i) []).map encStr = strV (l.take i ++ l.drop (i + 1)) ++ [encStr []] := by
    rw [List.map_append, List.map_append, List.map_take, List.map_drop, hstr, show i + 1 - i = 1 by omega]
    unfold strV
    rw [List.map_append, List.map_take, List.map_drop]
    rfl
  rw [hM]
  have k1 := setCells_block (strV (l.take i ++ l.drop (i + 1)) ++ [encStr []]) 0 (w.drewN q) cur hg
  have hlen : (strV (l.take i ++ l.drop (i + 1))).length = n - 1 := by unfold strV; simp; omega
  refine ⟨?_, own1_of k1 hBg hlen (by omega) hcm (by rw [sets_size]; exact hcs) (fun k hk => ?_), (But.of_fr ((Fr.refl w).drewN q)).trans (But.sets _ _ _ _)⟩
  · rw [he, show n - (i + 1 - i) = n - 1 by omega]
  · rw [sets_at, if_pos ⟨Nat.zero_le _, by rw [List.length_append, hlen]; omega, by omega⟩, Nat.sub_zero, List.getElem?_append_left (by omega)]
end Go.Proofs.Ytgdmkiobidnhnaa
