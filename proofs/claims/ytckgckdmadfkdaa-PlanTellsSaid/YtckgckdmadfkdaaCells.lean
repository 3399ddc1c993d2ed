/-
  The document's cells: which thing stands in which, the walks of the document's Right and Cells. Conditions: none but that the numbers fit their kinds.
-/
import Derived.Test.YtckgckdmadfkdaaApart1
namespace Go.Proofs.Ytckgckdmadfkdaa
open Go.RowKit

/-- What stands in a cell: its name, its number. -/
def cellOf (p a k : Nat) : ByteArray × Nat :=
  if k = 0 then ({ data := #[101, 112, 111, 99, 104] }, 0)
  else if k = 1 then ({ data := #[113, 117, 101, 117, 101] }, 0)
  else if k = 2 then ({ data := #[100, 114, 97, 105, 110, 101, 100] }, 0)
  else if k < 3 + p then ({ data := #[112, 105, 110] }, k - 3)
  else if k < 3 + p + a then ({ data := #[114, 105, 110, 103] }, k - 3 - p)
  else if (k - 3 - p - a) % 2 = 0 then ({ data := #[107, 101, 121] }, (k - 3 - p - a) / 2)
  else ({ data := #[104, 101, 97, 100] }, (k - 3 - p - a) / 2)
theorem cellOf_pin (p a k : Nat) (h : k < p) : cellOf p a (3 + k) = ({ data := #[112, 105, 110] }, k) := by
  unfold cellOf
  rw [if_neg (by omega), if_neg (by omega), if_neg (by omega), if_pos (by omega)]
  congr 1; omega
theorem cellOf_ring (p a k : Nat) (h : k < a) : cellOf p a (3 + p + k) = ({ data := #[114, 105, 110, 103] }, k) := by
  unfold cellOf
  rw [if_neg (by omega), if_neg (by omega), if_neg (by omega), if_neg (by omega), if_pos (by omega)]
  congr 1; omega
theorem cellOf_key (p a k : Nat) : cellOf p a (3 + p + a + 2 * k) = ({ data := #[107, 101, 121] }, k) := by
  unfold cellOf
  rw [if_neg (by omega), if_neg (by omega), if_neg (by omega), if_neg (by omega), if_neg (by omega), if_pos (by omega)]
  congr 1; omega
theorem cellOf_head (p a k : Nat) : cellOf p a (3 + p + a + 2 * k + 1) = ({ data := #[104, 101, 97, 100] }, k) := by
  unfold cellOf
  rw [if_neg (by omega), if_neg (by omega), if_neg (by omega), if_neg (by omega), if_neg (by omega), if_neg (by omega)]
  congr 1; omega

def cellsL (p a n : Nat) : List Value := (List.range n).flatMap fun k => [.string (cellOf p a k).1, .int .i64 ((cellOf p a k).2 : Nat)]
theorem cellsL_succ (p a n : Nat) : cellsL p a (n + 1) = cellsL p a n ++ [.string (cellOf p a n).1, .int .i64 ((cellOf p a n).2 : Nat)] := by simp [cellsL, List.range_succ]
theorem cellsL_len (p a n : Nat) : (cellsL p a n).length = 2 * n := by
  induction n with
  | zero => rfl
  | succ n ih => rw [cellsL_succ, List.length_append, ih]; simp; omega
theorem cellsL_name (p a n k : Nat) (h : k < n) : (cellsL p a n)[2 * k]? = some (.string (cellOf p a k).1) := by
  induction n with
  | zero => omega
  | succ n ih =>
    rw [cellsL_succ]
    by_cases hk : k < n
    · rw [List.getElem?_append_left (by rw [cellsL_len]; omega)]; exact ih hk
    · obtain rfl : k = n := by omega
      rw [List.getElem?_append_right (by rw [cellsL_len]; omega), cellsL_len]; simp
theorem cellsL_num (p a n k : Nat) (h : k < n) : (cellsL p a n)[2 * k + 1]? = some (.int .i64 ((cellOf p a k).2 : Nat)) := by
  induction n with
  | zero => omega
  | succ n ih =>
    rw [cellsL_succ]
    by_cases hk : k < n
    · rw [List.getElem?_append_left (by rw [cellsL_len]; omega)]; exact ih hk
    · obtain rfl : k = n := by omega
      rw [List.getElem?_append_right (by rw [cellsL_len]; omega), cellsL_len]; simp [show 2 * k + 1 - 2 * k = 1 by omega]

/-- The row of cells while it is gathered. -/
structure Ce (p a B : Nat) (W : World) (v : Value) (n : Nat) (wr : World) : Prop where
  row : wr.ownsRow (B + 1) 38 2 v n (cellsL p a n)
  below : Below (B + 1) W wr
  size : B + 1 ≤ wr.heap.size
theorem Ce.alloc {p a B : Nat} {W : World} {v : Value} {n : Nat} {w : World} (h : Ce p a B W v n w) (o : Obj) : Ce p a B W v n (w.alloc o) :=
  ⟨h.row.alloc o, h.below.alloc h.size o, by have := h.size; simp; omega⟩
theorem Ce.append {p a B : Nat} {W : World} {v v' : Value} {n m : Nat} {w w1 : World} {news : List Value} (h : Ce p a B W v n w) (hown : w1.ownsRow (B + 1) 38 2 v' (n + m) (cellsL p a n ++ news)) (hn : cellsL p a n ++ news = cellsL p a (n + m))
    (hg : w.grownBy w1 v.ownBlock) : Ce p a B W v' (n + m) w1 :=
  ⟨by rw [← hn]; exact hown, h.below.grown hg h.size (fun j hj => (h.row.lt j hj).1), Nat.le_trans h.size hg.size⟩
theorem info38 : (Try.prog.info? 38).map (fun i => (i.zero, i.size, i.bytes)) = some (some (.agg #[.string ByteArray.empty, .int .i64 0]), 2, 24) := by kernel_rfl
theorem cells_four_new (w : World) (x y z u : Value) (t : TypeId) : ∀ j r, [x, y, z, u][j]? = some r → (w.alloc (.cells #[x, y, z, u] t)).cell? ((⟨w.heap.size, 0, none⟩ : Addr).add j) = some r := by
  intro j r hj
  match j, hj with
  | 0, hj => simp at hj; subst hj; simp [Addr.add]
  | 1, hj => simp at hj; subst hj; simp [Addr.add]
  | 2, hj => simp at hj; subst hj; simp [Addr.add]
  | 3, hj => simp at hj; subst hj; simp [Addr.add]
end Go.Proofs.Ytckgckdmadfkdaa
