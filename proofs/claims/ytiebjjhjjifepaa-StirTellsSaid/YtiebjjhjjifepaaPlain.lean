/-
  The numbers of the texts and the places of the ways, in plain Lean: no program in sight. Conditions: none.
-/
import Derived.WalkKit
import Derived.WalkSpells
namespace Go.Proofs.Ytiebjjhjjifepaa
open Go.RowKit

def mx (n c : Nat) : Nat := (n ^^^ c) * 1099511628211 % 18446744073709551616
/-- A number with a byte more. -/
def more (n c : Nat) : Nat := mx n c ^^^ mx n c / 536870912
def sumF (seed : Nat) (l : List UInt8) : Nat := l.foldl (fun n c => more n c.toNat) (seed ^^^ 14695981039346656037)

theorem mx_lt (n c : Nat) : mx n c < 18446744073709551616 := Nat.mod_lt _ (by omega)
theorem xor_lt {a b : Nat} (ha : a < 18446744073709551616) (hb : b < 18446744073709551616) : a ^^^ b < 18446744073709551616 :=
  Nat.xor_lt_two_pow (n := 64) (by omega) (by omega)
theorem more_lt (n c : Nat) : more n c < 18446744073709551616 :=
  xor_lt (mx_lt n c) (Nat.lt_of_le_of_lt (Nat.div_le_self _ _) (mx_lt n c))
theorem sumF_lt (seed : Nat) (l : List UInt8) (h : seed < 18446744073709551616) : sumF seed l < 18446744073709551616 := by
  unfold sumF
  have hs : seed ^^^ 14695981039346656037 < 18446744073709551616 := xor_lt h (by omega)
  generalize seed ^^^ 14695981039346656037 = m at hs
  induction l generalizing m with
  | nil => exact hs
  | cons c l ih => exact ih _ (more_lt _ _)
theorem sumF_snoc (seed : Nat) (l : List UInt8) (c : UInt8) : sumF seed (l ++ [c]) = more (sumF seed l) c.toNat := by
  unfold sumF
  rw [List.foldl_append, List.foldl_cons, List.foldl_nil]

theorem mx_val (n c : Nat) (hn : n < 18446744073709551616) (hc : c < 256) :
    IntKind.u64.wrap (bits .xor .u64 (n : Int) (c : Int) * 1099511628211) = ((mx n c : Nat) : Int) := by
  rw [bits_xor_u64_nat n c hn (by omega), IntKind.wrap_u64]
  unfold mx
  generalize n ^^^ c = x
  omega
theorem more_val (n c : Nat) (hn : n < 18446744073709551616) (hc : c < 256) :
    bits .xor .u64 (IntKind.u64.wrap (bits .xor .u64 (n : Int) (c : Int) * 1099511628211)) (IntKind.u64.wrap (bits .xor .u64 (n : Int) (c : Int) * 1099511628211) / 536870912) = ((more n c : Nat) : Int) := by
  rw [mx_val n c hn hc]
  have hx := mx_lt n c
  unfold more
  generalize mx n c = x at hx ⊢
  have h : ((x : Int) / 536870912) = ((x / 536870912 : Nat) : Int) := by omega
  rw [h]
  exact bits_xor_u64_nat _ _ hx (by omega)
theorem more_val' (n c : Nat) (hn : n < 18446744073709551616) (hc : c < 256) :
    bits .xor .u64 (IntKind.u64.wrap (bits .xor .u64 (n : Int) (c : Int) * 1099511628211)) (IntKind.u64.wrap ((IntKind.u64.wrap (bits .xor .u64 (n : Int) (c : Int) * 1099511628211)).tdiv 536870912)) = ((more n c : Nat) : Int) := by
  rw [← more_val n c hn hc, mx_val n c hn hc]
  have h := mx_lt n c
  rw [IntWalk.u64_quo _ _ ⟨by omega, by omega, by omega⟩]

/-- Where a way begins. -/
def start (n : Nat) (width : Int) : Int := if width < 1 then 0 else (n : Int) % width
theorem start_pos (n : Nat) {width : Int} (h : ¬ width < 1) : start n width = (n : Int) % width := by simp [start, h]
theorem start_neg (n : Nat) {width : Int} (h : width < 1) : start n width = 0 := by simp [start, h]
theorem start_bd (n : Nat) (width : Int) : 0 ≤ start n width ∧ (1 ≤ width → start n width < width) := by
  unfold start
  split
  · exact ⟨by omega, fun h => by omega⟩
  · exact ⟨Int.emod_nonneg _ (by omega), fun h => Int.emod_lt_of_pos _ (by omega)⟩
/-- A place of a way. -/
def place (n : Nat) (width i : Int) : Int := if i < 0 ∨ width ≤ i then -1 else (start n width + i) % width
theorem place_out (n : Nat) {width i : Int} (h : i < 0 ∨ width ≤ i) : place n width i = -1 := by simp only [place, if_pos h]
theorem place_in (n : Nat) {width i : Int} (h1 : 0 ≤ i) (h2 : i < width) : place n width i = (start n width + i) % width := by
  simp only [place, if_neg (show ¬ (i < 0 ∨ width ≤ i) by omega)]
theorem place_low (n : Nat) {width i : Int} (h1 : 0 ≤ i) (h2 : i < width) (h : start n width + i < width) : place n width i = start n width + i := by
  rw [place_in n h1 h2]; have := start_bd n width; exact Int.emod_eq_of_lt (by omega) h
theorem place_high (n : Nat) {width i : Int} (h1 : 0 ≤ i) (h2 : i < width) (h : width ≤ start n width + i) : place n width i = start n width + i - width := by
  rw [place_in n h1 h2]
  have hb := start_bd n width
  have h3 := hb.2 (by omega)
  rw [← Int.sub_emod_right]
  exact Int.emod_eq_of_lt (by omega) (by omega)
theorem place_bd (n : Nat) {width i : Int} (h1 : 0 ≤ i) (h2 : i < width) : 0 ≤ place n width i ∧ place n width i < width := by
  rw [place_in n h1 h2]; exact ⟨Int.emod_nonneg _ (by omega), Int.emod_lt_of_pos _ (by omega)⟩
theorem place_zero (n : Nat) {width : Int} (h : 1 ≤ width) : place n width 0 = start n width := by
  have := start_bd n width
  rw [place_low n (by omega) (by omega) (by omega)]; omega
/-- The next place of a way, as the loop has it. -/
theorem place_succ (n : Nat) {width i : Int} (h1 : 0 ≤ i) (h2 : i + 1 < width) :
    place n width (i + 1) = if place n width i + 1 = width then 0 else place n width i + 1 := by
  have hb := start_bd n width
  have h3 := hb.2 (by omega)
  rcases Int.lt_or_le (start n width + (i + 1)) width with h | h
  · rw [place_low n (by omega) h2 h, place_low n h1 (by omega) (by omega), if_neg (by omega)]; omega
  · rw [place_high n (by omega) h2 h]
    rcases Int.lt_or_le (start n width + i) width with h' | h'
    · rw [place_low n h1 (by omega) h', if_pos (by omega)]; omega
    · rw [place_high n h1 (by omega) h', if_neg (by omega)]; omega
theorem place_inj (n : Nat) {width i j : Int} (hi : 0 ≤ i) (hi' : i < width) (hj : 0 ≤ j) (hj' : j < width) (h : place n width i = place n width j) : i = j := by
  have hb := start_bd n width
  have h3 := hb.2 (by omega)
  rcases Int.lt_or_le (start n width + i) width with a | a <;> rcases Int.lt_or_le (start n width + j) width with b | b
  · rw [place_low n hi hi' a, place_low n hj hj' b] at h; omega
  · rw [place_low n hi hi' a, place_high n hj hj' b] at h; omega
  · rw [place_high n hi hi' a, place_low n hj hj' b] at h; omega
  · rw [place_high n hi hi' a, place_high n hj hj' b] at h; omega
/-- The place at which the loop stands when k rounds are over. -/
def cur (n : Nat) (width : Int) (k : Nat) : Int := (start n width + k) % width
theorem cur_zero (n : Nat) {width : Int} (h : 1 ≤ width) : cur n width 0 = start n width := by
  have hb := start_bd n width
  have := hb.2 h
  unfold cur
  exact (Int.emod_eq_of_lt (by omega) (by omega)).trans (by omega)
theorem cur_bd (n : Nat) {width : Int} (k : Nat) (h : 1 ≤ width) : 0 ≤ cur n width k ∧ cur n width k < width :=
  ⟨Int.emod_nonneg _ (by omega), Int.emod_lt_of_pos _ (by omega)⟩
theorem cur_succ (n : Nat) {width : Int} (k : Nat) (h : 1 ≤ width) : cur n width (k + 1) = if cur n width k + 1 = width then 0 else cur n width k + 1 := by
  have hb := cur_bd n k h
  have e : cur n width (k + 1) = (cur n width k + 1) % width := by
    unfold cur
    rw [Int.emod_add_emod]
    congr 1
    omega
  rw [e]
  split
  · rename_i h1; rw [h1]; exact Int.emod_self
  · exact Int.emod_eq_of_lt (by omega) (by omega)
theorem place_cur (n : Nat) {width : Int} {k : Nat} (h : (k : Int) < width) : place n width k = cur n width k := place_in n (by omega) h
/-- The first k places. -/
def places (n : Nat) (width : Int) (k : Nat) : List Int := (List.range k).map (cur n width)
theorem places_succ (n : Nat) (width : Int) (k : Nat) : places n width (k + 1) = places n width k ++ [cur n width k] := by simp [places, List.range_succ]
theorem places_length (n : Nat) (width : Int) (k : Nat) : (places n width k).length = k := by simp [places]
theorem places_get (n : Nat) (width : Int) (k i : Nat) (h : i < k) : (places n width k)[i]? = some (cur n width i) := by simp [places, h]
end Go.Proofs.Ytiebjjhjjifepaa
