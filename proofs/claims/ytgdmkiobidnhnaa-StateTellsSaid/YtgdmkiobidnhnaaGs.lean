/-
  Guards and steps, as they lie in memory; the boxes of a loop over a function that grows a row. Conditions: none.
-/
import Derived.Test.YtgdmkiobidnhnaaIterI
import Derived.Test.YtgdmkiobidnhnaaRest
namespace Go.Proofs.Ytgdmkiobidnhnaa
open Go.RowKit Go.Shelf

/-- A guard. -/
structure Gd where
  k : Int
  key : ByteArray
  val : ByteArray
/-- A step. -/
structure Sp where
  k : Int
  key : ByteArray
  val : ByteArray
  old : ByteArray
  n : Int
def gdV (g : Gd) : List Value := [.int .i64 g.k, .string g.key, .string g.val]
def spV (s : Sp) : List Value := [.int .i64 s.k, .string s.key, .string s.val, .string s.old, .int .i64 s.n]
def gdL (l : List Gd) : List Value := l.flatMap gdV
def spL (l : List Sp) : List Value := l.flatMap spV
theorem gd_cells {w : World} {a : Option Addr} {n c : Nat} {m : List Gd} (h : Sl w (.slice a n c) n 3 (gdL m)) {i : Nat} {x : Gd} (hi : m[i]? = some x) (hl : m.length = n) :
    ∃ b o, a = some ⟨b, o, none⟩ ∧ b < w.heap.size ∧ n ≤ c ∧ ∀ w', Below w.heap.size w w' → w'.cell? ⟨b, o + i * 3, none⟩ = some (.int .i64 x.k) ∧ w'.cell? ⟨b, o + i * 3 + 1, none⟩ = some (.string x.key) ∧ w'.cell? ⟨b, o + i * 3 + 2, none⟩ = some (.string x.val) := by
  have hlt := (List.getElem?_eq_some_iff.1 hi).1
  obtain ⟨b, o, rfl, hb, hnc, hcs⟩ := h.get (by omega)
  have at' : ∀ j, j < 3 → (gdL m)[i * 3 + j]? = (gdV x)[j]? := fun j hj => by
    unfold gdL; rw [stride_get gdV 3 (fun _ => rfl) m i j hj, hi]; rfl
  refine ⟨b, o, rfl, hb, hnc, fun w' hw' => ⟨?_, ?_, ?_⟩⟩
  · rw [World.cell?_of_block (hw'.block b hb), hcs (i * 3) _ (by rw [show i * 3 = i * 3 + 0 from rfl, at' 0 (by decide)]; rfl)]
  · rw [Nat.add_assoc, World.cell?_of_block (hw'.block b hb), hcs (i * 3 + 1) _ (by rw [at' 1 (by decide)]; rfl)]
  · rw [Nat.add_assoc, World.cell?_of_block (hw'.block b hb), hcs (i * 3 + 2) _ (by rw [at' 2 (by decide)]; rfl)]
theorem sp_cells {w : World} {a : Option Addr} {n c : Nat} {m : List Sp} (h : Sl w (.slice a n c) n 5 (spL m)) {i : Nat} {x : Sp} (hi : m[i]? = some x) (hl : m.length = n) :
    ∃ b o, a = some ⟨b, o, none⟩ ∧ b < w.heap.size ∧ n ≤ c ∧ ∀ w', Below w.heap.size w w' → w'.cell? ⟨b, o + i * 5, none⟩ = some (.int .i64 x.k) ∧ w'.cell? ⟨b, o + i * 5 + 1, none⟩ = some (.string x.key) ∧ w'.cell? ⟨b, o + i * 5 + 2, none⟩ = some (.string x.val) ∧
      w'.cell? ⟨b, o + i * 5 + 3, none⟩ = some (.string x.old) ∧ w'.cell? ⟨b, o + i * 5 + 4, none⟩ = some (.int .i64 x.n) := by
  have hlt := (List.getElem?_eq_some_iff.1 hi).1
  obtain ⟨b, o, rfl, hb, hnc, hcs⟩ := h.get (by omega)
  have at' : ∀ j, j < 5 → (spL m)[i * 5 + j]? = (spV x)[j]? := fun j hj => by
    unfold spL; rw [stride_get spV 5 (fun _ => rfl) m i j hj, hi]; rfl
  refine ⟨b, o, rfl, hb, hnc, fun w' hw' => ⟨?_, ?_, ?_, ?_, ?_⟩⟩
  · rw [World.cell?_of_block (hw'.block b hb), hcs (i * 5) _ (by rw [show i * 5 = i * 5 + 0 from rfl, at' 0 (by decide)]; rfl)]
  · rw [Nat.add_assoc, World.cell?_of_block (hw'.block b hb), hcs (i * 5 + 1) _ (by rw [at' 1 (by decide)]; rfl)]
  · rw [Nat.add_assoc, World.cell?_of_block (hw'.block b hb), hcs (i * 5 + 2) _ (by rw [at' 2 (by decide)]; rfl)]
  · rw [Nat.add_assoc, World.cell?_of_block (hw'.block b hb), hcs (i * 5 + 3) _ (by rw [at' 3 (by decide)]; rfl)]
  · rw [Nat.add_assoc, World.cell?_of_block (hw'.block b hb), hcs (i * 5 + 4) _ (by rw [at' 4 (by decide)]; rfl)]
/-- What a loop over a function finds and leaves, where it grows a row that a box holds. -/
def BxI {α : Type} (Bx : Nat) (t e : TypeId) (z : Nat) (len : List α → Nat) (f : List α → List Value) (Bt : Nat) (bt : TypeId) (u : Value) (w : World) (pre : List α) (W : World) : Prop :=
  (∃ v, Boxed W Bx t v ∧ W.ownsRow Bx e z v (len pre) (f pre) ∧ True) ∧ Boxed W Bt bt u ∧ Below Bx w W
theorem BxI.own {α : Type} (Bx : Nat) (t e : TypeId) (z : Nat) (len : List α → Nat) (f : List α → List Value) (Bt : Nat) (bt : TypeId) (u : Value) (w : World) (D : Nat) (h1 : Bx ≤ w.heap.size) (h2 : Bx ≤ D) : OwnFrom D (BxI Bx t e z len f Bt bt u w) :=
  OwnFrom.and ((holdsRow_own Bx Bx t e z len f (fun _ _ => True)).from _) (OwnFrom.and ((boxed_own Bt bt (fun _ : List α => u)).from _) (ownFrom_below h1 h2))
/-- Behind an append into the box, and the store. -/
theorem box_keeps {W w1 : World} {Bx Bt : Nat} {bt : TypeId} {u v v' : Value} {tmp : Obj} (hb : Boxed W Bt bt u) (hne : some Bt ≠ v.ownBlock) (hx : Bt ≠ Bx) (hg : (W.alloc tmp).grownBy w1 v.ownBlock) :
    Boxed (w1.setCell ⟨Bx, 0, none⟩ v') Bt bt u ∧ KeepsC ⟨Bt, 0, none⟩ W (w1.setCell ⟨Bx, 0, none⟩ v') := by
  have h2 : Boxed (w1.setCell ⟨Bx, 0, none⟩ v') Bt bt u := ((hb.alloc tmp).kept hg hne).kept (grownBy_setCell' w1 Bx v') (by intro e; exact hx (by cases e; rfl))
  refine ⟨h2, fun x hx => ?_⟩
  rw [hb.cell] at hx
  rw [h2.cell]; exact hx
theorem rank_none {α : Type} : ∀ (l : List (ByteArray × α)), rank l ⟨#[]⟩ = 0
  | [] => rfl
  | a :: r => by
    unfold rank
    rw [if_neg]
    rw [lt_iff]
    have e : (⟨#[]⟩ : ByteArray).toList = [] := by simp
    rw [e]
    exact List.not_lt_nil a.1.toList
theorem keysV_push {α : Type} (l : List (ByteArray × α)) (a : ByteArray × α) : keysV (l ++ [a]) = keysV l ++ [.string a.1] := by simp [keysV]
theorem cells_own_new (w : World) (x : Value) (t : TypeId) : ∀ j r, [x][j]? = some r → (w.alloc (.cells #[x] t)).cell? ((⟨w.heap.size, 0, none⟩ : Addr).add j) = some r := by
  intro j r hj
  rw [add_at, cell_at (heap_alloc_new w _)]
  simpa using hj
namespace I
theorem From_any (p : Option Addr) (key : ByteArray) (w : World) :
    Calls Try.prog 77 #[.pointer p, .string key] w fun e w' => e = .returned (.func (.func 83) #[] #[.pointer (some ⟨w.heap.size, 0, none⟩), .pointer (some ⟨w.heap.size + 1, 0, none⟩)]) ∧
      w' = (w.alloc (.cells #[.pointer p] 92)).alloc (.cells #[.string key] 9) := by
  go_enter Try.func77, Try.ntmps77
  go_wp2
  go_ret
  exact ⟨rfl, rfl⟩
theorem Kp.t {n0 Bt : Nat} {A B C : World} (h : Kp n0 Bt A B) (k : Kp n0 Bt B C) : Kp n0 Bt A C := ⟨h.1.trans k.1, h.2.t k.2⟩
theorem from_stops (N : Nat) (Bt Bk n0 T : Nat) (l : Ps) (hn : l.length ≤ 1000000) (key : ByteArray) (w : World)
    (hBt : w.cell? ⟨Bt, 0, none⟩ = some (.pointer (some ⟨T, 0, none⟩))) (hBk : w.cell? ⟨Bk, 0, none⟩ = some (.string key)) (hb1 : Bt < w.heap.size) (hb2 : Bk < w.heap.size) (hn0 : n0 ≤ w.heap.size) (hs : Seen n0 T l w) :
    SeqStopsK Fence.wide N Try.prog 83 #[.pointer (some ⟨Bt, 0, none⟩), .pointer (some ⟨Bk, 0, none⟩)] (fun x : ByteArray × Int => #[Value.string x.1, .int .i64 x.2]) (Kp n0 Bt) (fun ys => ys = l.drop (rank l key))
      (fun pre => ∃ k, k ≤ (l.drop (rank l key)).length ∧ pre = (l.drop (rank l key)).take k) (l.drop (rank l key)).length w := fun lp J Jx W hW hA _ hY h0 => by
  have hc1 := (hW.cell (p := ⟨Bt, 0, none⟩) hb1).trans hBt
  have hc2 := (hW.cell (p := ⟨Bk, 0, none⟩) hb2).trans hBk
  exact fromFn_in N lp Bt Bk n0 T l hn key J Jx W.heap.size hA hY W hc1 hc2 (hs.below (hW.mono hn0)) h0
end I
end Go.Proofs.Ytgdmkiobidnhnaa
