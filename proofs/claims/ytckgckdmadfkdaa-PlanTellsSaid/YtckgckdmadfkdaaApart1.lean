/-
  What PlanApart's loops keep: the row of cells that were told so far, the row of counts, the config. Conditions: none.
-/
import Derived.Test.YtckgckdmadfkdaaAwake
import Derived.Deep.AppendLies
import Derived.Deep.OwnRows
import Derived.Maps.AppendAt
import Derived.Lib.SmallJoins
namespace Go.Proofs.Ytckgckdmadfkdaa
open Go.RowKit

def iota (n : Nat) : List Value := (List.range n).map fun i : Nat => Value.int .i64 i
theorem iota_len (n : Nat) : (iota n).length = n := by simp [iota]
theorem iota_succ (n : Nat) : iota (n + 1) = iota n ++ [.int .i64 (n : Int)] := by simp [iota, List.range_succ]
theorem iota_get (n i : Nat) (h : i < n) : (iota n)[i]? = some (.int .i64 (i : Int)) := by simp [iota, h]
/-- The counts when k cells have been met. -/
def counts (k : Nat) : List Value := (List.range 300).map fun i => Value.int .i64 (if i < k then 1 else 0)
theorem counts_len (k : Nat) : (counts k).length = 300 := by simp [counts]
theorem counts_get (k i : Nat) (h : i < 300) : (counts k)[i]? = some (.int .i64 (if i < k then 1 else 0)) := by simp [counts, h]
theorem counts_set (k : Nat) : counts (k + 1) = (counts k).set k (.int .i64 1) := by
  apply List.ext_getElem?
  intro i
  by_cases hi : i < 300
  · rw [counts_get _ i hi, List.getElem?_set, counts_get _ i hi]
    by_cases h : k = i
    · subst h; simp [counts_len, hi]
    · have e : (i < k + 1) = (i < k) := by simp; omega
      simp only [h, if_false, e]
  · rw [List.getElem?_eq_none (by rw [counts_len]; omega), List.getElem?_eq_none (by rw [List.length_set, counts_len]; omega)]
theorem counts_zero : (madeCells #[Value.int .i64 0] 300).toList = counts 0 := by
  kernel_rfl

theorem info3 : (Try.prog.info? 3).map (fun i => (i.zero, i.size, i.bytes)) = some (some (.int .i64 0), 1, 8) := by kernel_rfl
theorem mk300 (w : World) : (Instr.makeSlice 28 (.int .i64 300) (.int .i64 300)).run Try.prog w = .ok (.slice (some ⟨w.heap.size, 0, none⟩) 300 300) (w.alloc (.cells (madeCells #[.int .i64 0] 300) 3)) :=
  run_make_row' (P := Try.prog) 28 3 (.int .i64 0) 8 Try.underlying28 info3 rfl .i64 .i64 300 (by omega) (by omega) w

/-- B: the config's block; g0: the block of the counts; v: the row of cells, n of them; k have been counted. -/
structure St (B g0 : Nat) (W : World) (v : Value) (n k : Nat) (wr : World) : Prop where
  row : wr.ownsRow (B + 1) 3 1 v n (iota n)
  seen : wr.ownsRow (B + 1) 3 1 (.slice (some ⟨g0, 0, none⟩) 300 300) 300 (counts k)
  apart : v.ownBlock ≠ some g0
  below : Below (B + 1) W wr
  size : B + 1 ≤ wr.heap.size

theorem owns_fr {w w' : World} {base e size n : Nat} {v : Value} {xs : List Value} (h : w.ownsRow base e size v n xs) (hf : Fr w w') : w'.ownsRow base e size v n xs :=
  h.kept ⟨hf.below.os, hf.below.tape, hf.below.output, hf.size, fun _ hk _ => hf.heap hk⟩ (.inr (fun hh => by
    have := (h.lt w.heap.size hh).2; omega) : v.ownBlock = none ∨ v.ownBlock ≠ some w.heap.size)
theorem St.fr {B g0 : Nat} {W : World} {v : Value} {n k : Nat} {w w' : World} (h : St B g0 W v n k w) (hf : Fr w w') : St B g0 W v n k w' :=
  ⟨owns_fr h.row hf, owns_fr h.seen hf, h.apart, h.below.trans (hf.below_of h.size), Nat.le_trans h.size hf.size⟩
theorem St.lt {B g0 : Nat} {W : World} {v : Value} {n k : Nat} {w : World} (h : St B g0 W v n k w) : g0 < w.heap.size := (h.seen.lt g0 rfl).2
theorem St.append {B g0 : Nat} {W : World} {v v' : Value} {n m k : Nat} {w w1 : World} {news : List Value} (h : St B g0 W v n k w) (hown : w1.ownsRow (B + 1) 3 1 v' (n + m) (iota n ++ news)) (hn : iota n ++ news = iota (n + m))
    (hg : w.grownBy w1 v.ownBlock) {g : Nat} (hv : v'.ownBlock = some g) (hat : v.ownBlock = some g ∨ g = w.heap.size) : St B g0 W v' (n + m) k w1 := by
  have hl := h.lt
  refine ⟨by rw [← hn]; exact hown, h.seen.kept hg (.inr (Ne.symm h.apart)), ?_, h.below.grown hg h.size (fun j hj => (h.row.lt j hj).1), Nat.le_trans h.size hg.size⟩
  rw [hv]
  rcases hat with hat | hat
  · rw [← hat]; exact h.apart
  · simp; omega

theorem St.count {B g0 g n cap k : Nat} {W w : World} (h : St B g0 W (.slice (some ⟨g, 0, none⟩) n cap) n k w) : St B g0 W (.slice (some ⟨g, 0, none⟩) n cap) n (k + 1) (w.setCell ⟨g0, k, none⟩ (.int .i64 1)) := by
  obtain ⟨h1, h2⟩ := h.seen.stored k (.int .i64 1)
  rw [← counts_set] at h1
  exact ⟨h.row.kept h2 (.inr h.apart), h1, h.apart, h.below.setCell (p := ⟨g0, k, none⟩) (h.seen.lt g0 rfl).1 _, by simpa [World.setCell] using h.size⟩
theorem cells_two_new (w : World) (x y : Value) (t : TypeId) : ∀ j u, [x, y][j]? = some u → (w.alloc (.cells #[x, y] t)).cell? ((⟨w.heap.size, 0, none⟩ : Addr).add j) = some u := by
  intro j u hj
  match j, hj with
  | 0, hj => simp at hj; subst hj; simp [Addr.add]
  | 1, hj => simp at hj; subst hj; simp [Addr.add]
theorem iota_two (n : Nat) : iota n ++ [.int .i64 (n : Int), .int .i64 ((n + 1 : Nat) : Int)] = iota (n + 2) := by
  rw [iota_succ (n + 1), iota_succ n, List.append_assoc]
  rfl

/-- The config's cells, wherever what lies at or below its block stays. -/
theorem cfg_below (a p s q t e : Int) (w W : World) (hW : Fr (w.alloc (.cells #[.int .i64 a, .int .i64 p, .int .i64 s, .int .i64 q, .int .i64 t, .int .u64 e] 24)) W) :
    ∀ o, o < 6 → ∀ w', Below (w.heap.size + 1) W w' → w'.cell? ⟨w.heap.size, o, none⟩ = #[Value.int .i64 a, .int .i64 p, .int .i64 s, .int .i64 q, .int .i64 t, .int .u64 e][o]? := by
  intro o ho w' hw'
  rw [hw'.cell (by simp), hW.cell (by simp)]
  simp
end Go.Proofs.Ytckgckdmadfkdaa
