/-
  Two maps and a row of pairs beside one another, and one more block. Conditions: the memory is as it says.
-/
import Derived.Test.YtgdmkiobidnhnaaAwake
namespace Go.Proofs.Ytgdmkiobidnhnaa
open Go.RowKit

theorem owns_but' {w w' : World} {B e z n : Nat} {v : Value} {xs : List Value} {G : Nat → Prop} (h : w.ownsRow B e z v n xs) (hb : But G w w') (hn : ∀ k, v.ownBlock = some k → ¬ G k) : w'.ownsRow B e z v n xs := by
  rcases h.2 with ⟨hv, h0⟩ | ⟨g, cap, cur, hv, hg, hh, r⟩
  · exact ⟨h.1, .inl ⟨hv, h0⟩⟩
  · exact ⟨h.1, .inr ⟨g, cap, cur, hv, hg, (hb.heap g (Array.getElem?_eq_some_iff.1 hh).1 (hn g (by rw [hv]; rfl))).trans hh, r⟩⟩
theorem Tb.mono {B B' T : Nat} {F : Nat → Prop} {l : Ps} {w : World} (h : Tb B F T l w) (hB : B' ≤ B) : Tb B' F T l w := by
  obtain ⟨ks, vs, hT, hk, hv, hkv, hF, hBT, hu⟩ := h
  exact ⟨ks, vs, hT, owns_mono hk hB, owns_mono hv hB, hkv, hF, by omega, hu⟩
theorem hit_get {l : Ps} (hu : Up l) (k : ByteArray) : hit l k = (get l k).isSome := by
  rw [get_eq l k hu]
  cases h : hit l k with
  | false => rfl
  | true =>
    obtain ⟨v, hv⟩ := hit_at h
    rw [if_pos rfl, hv]; rfl
theorem put_len (l : Ps) (k v : ByteArray) : (put l k v).length ≤ l.length + 1 := by
  rw [put_eq]; split
  · simp
  · have := rank_le l k; simp; omega
theorem del_len (l : Ps) (k : ByteArray) : (del l k).length ≤ l.length := List.length_filter_le _ _
/-- Two maps, a row, a block. -/
structure Core (N T U : Nat) (v : Value) (E : Option Nat) (cs : Array Value) (l1 l2 l3 : Ps) (w0 w : World) (F G : Nat → Prop) : Prop where
  t : Tb N F T l1 w
  u : Tb N G U l2 w
  tu : ∀ k, F k → ¬ G k
  row : w.ownsRow N 42 2 v l3.length (pairsL l3)
  rf : ∀ k, v.ownBlock = some k → ¬ F k
  rg : ∀ k, v.ownBlock = some k → ¬ G k
  bel : Below N w0 w
  ex : ∀ b, E = some b → w.heap[b]? = some (.cells cs 31) ∧ ¬ F b ∧ ¬ G b ∧ v.ownBlock ≠ some b
def L3 (N T U : Nat) (v : Value) (E : Option Nat) (cs : Array Value) (l1 l2 l3 : Ps) (w0 w : World) : Prop := ∃ F G, Core N T U v E cs l1 l2 l3 w0 w F G
section
variable {N T U : Nat} {E : Option Nat} {v : Value} {cs : Array Value} {l1 l2 l3 : Ps} {w0 w w' : World}
theorem L3.swap (h : L3 N T U v E cs l1 l2 l3 w0 w) : L3 N U T v E cs l2 l1 l3 w0 w := by
  obtain ⟨F, G, h⟩ := h
  exact ⟨G, F, h.u, h.t, fun k hg hf => h.tu k hf hg, h.row, h.rg, h.rf, h.bel, fun b hb => have ⟨a, c, d, e⟩ := h.ex b hb; ⟨a, d, c, e⟩⟩
theorem L3.le (h : L3 N T U v E cs l1 l2 l3 w0 w) : N ≤ w.heap.size := by
  obtain ⟨F, G, h⟩ := h; exact h.t.le
theorem L3.fr (h : L3 N T U v E cs l1 l2 l3 w0 w) (hf : Fr w w') : L3 N T U v E cs l1 l2 l3 w0 w' := by
  obtain ⟨F, G, h⟩ := h
  exact ⟨F, G, h.t.fr hf, h.u.fr hf, h.tu, owns_fr h.row hf, h.rf, h.rg, h.bel.trans (hf.below_of h.t.le), fun b hb => have ⟨a, c⟩ := h.ex b hb; ⟨(hf.heap (Array.getElem?_eq_some_iff.1 a).1).trans a, c⟩⟩
theorem L3.upT (h : L3 N T U v E cs l1 l2 l3 w0 w) : Up l1 := by
  obtain ⟨F, G, h⟩ := h; exact h.t.up
theorem L3.sl {a : Option Addr} {n c : Nat} (h : L3 N T U (.slice a n c) E cs l1 l2 l3 w0 w) (hn : l3.length = n) : Sl w (.slice a n c) n 2 (pairsL l3) := by
  obtain ⟨F, G, h⟩ := h
  have := owns_sl h.row
  rw [hn] at this; exact this
theorem L3.newBlock (h : L3 N T U v E cs l1 l2 l3 w0 w) (cs' : Array Value) : L3 N T U v (some w.heap.size) cs' l1 l2 l3 w0 (w.alloc (.cells cs' 31)) := by
  obtain ⟨F, G, h⟩ := h
  have hf := (Fr.refl w).alloc (.cells cs' 31)
  exact ⟨F, G, h.t.fr hf, h.u.fr hf, h.tu, owns_fr h.row hf, h.rf, h.rg, h.bel.trans (hf.below_of h.t.le), fun b hb => by cases hb; exact ⟨heap_alloc_new w _, fun hc => by have := (h.t.lt _ hc).2; omega, fun hc => by have := (h.u.lt _ hc).2; omega, fun hc => by have := (h.row.lt _ hc).2; omega⟩⟩
theorem Core.tb {F G F' : Nat → Prop} {l1' : Ps} (h : Core N T U v E cs l1 l2 l3 w0 w F G) (ht : Tb N F' T l1' w') (hs : ∀ k, F' k → F k ∨ w.heap.size ≤ k) (hb : But F w w') : L3 N T U v E cs l1' l2 l3 w0 w' := by
  refine ⟨F', G, ht, h.u.but hb (fun k hg hf => h.tu k hf hg), fun k hf hg => ?_, owns_but' h.row hb h.rf, fun k hk hf => ?_, h.rg, h.bel.trans (h.t.below hb), fun b hE => ?_⟩
  · rcases hs k hf with h1 | h1
    · exact h.tu k h1 hg
    · have := (h.u.lt k hg).2; omega
  · rcases hs k hf with h1 | h1
    · exact h.rf k hk h1
    · have := (h.row.lt k hk).2; omega
  · obtain ⟨x1, x2, x3, x4⟩ := h.ex b hE
    have hlt := (Array.getElem?_eq_some_iff.1 x1).1
    refine ⟨(hb.heap b hlt x2).trans x1, fun hf => ?_, x3, x4⟩
    rcases hs b hf with h1 | h1
    · exact x2 h1
    · omega
theorem L3.putT (h : L3 N T U v E cs l1 l2 l3 w0 w) (hn : l1.length ≤ 100000) (k x : ByteArray) : Calls Try.prog 16 #[.pointer (some ⟨T, 0, none⟩), .string k, .string x] w fun e w' => e = .returned (.tuple #[]) ∧ L3 N T U v E cs (put l1 k x) l2 l3 w0 w' := by
  obtain ⟨F, G, h⟩ := h
  exact (put_tb h.t hn k x).mono fun e w' ⟨h1, F', h2, h3, h4⟩ => ⟨h1, h.tb h2 h3 h4⟩
theorem L3.putU (h : L3 N T U v E cs l1 l2 l3 w0 w) (hn : l2.length ≤ 100000) (k x : ByteArray) : Calls Try.prog 16 #[.pointer (some ⟨U, 0, none⟩), .string k, .string x] w fun e w' => e = .returned (.tuple #[]) ∧ L3 N T U v E cs l1 (put l2 k x) l3 w0 w' :=
  (h.swap.putT hn k x).mono fun _ _ ⟨h1, h2⟩ => ⟨h1, h2.swap⟩
theorem L3.delT (h : L3 N T U v E cs l1 l2 l3 w0 w) (hn : l1.length ≤ 100000) (k : ByteArray) : Calls Try.prog 18 #[.pointer (some ⟨T, 0, none⟩), .string k] w fun e w' => e = .returned (.bool (get l1 k).isSome) ∧ L3 N T U v E cs (del l1 k) l2 l3 w0 w' := by
  obtain ⟨F, G, h⟩ := h
  rw [← hit_get h.t.up]
  exact (del_tb h.t hn k).mono fun e w' ⟨h1, h2, h4⟩ => ⟨h1, h.tb h2 (fun _ h => .inl h) h4⟩
theorem L3.delU (h : L3 N T U v E cs l1 l2 l3 w0 w) (hn : l2.length ≤ 100000) (k : ByteArray) : Calls Try.prog 18 #[.pointer (some ⟨U, 0, none⟩), .string k] w fun e w' => e = .returned (.bool (get l2 k).isSome) ∧ L3 N T U v E cs l1 (del l2 k) l3 w0 w' :=
  (h.swap.delT hn k).mono fun _ _ ⟨h1, h2⟩ => ⟨h1, h2.swap⟩
theorem L3.getT (h : L3 N T U v E cs l1 l2 l3 w0 w) (hn : l1.length ≤ 100000) (k : ByteArray) : Calls Try.prog 15 #[.pointer (some ⟨T, 0, none⟩), .string k] w fun e w' => e = .returned (.tuple #[.string ((get l1 k).getD ⟨#[]⟩), .bool (get l1 k).isSome]) ∧ L3 N T U v E cs l1 l2 l3 w0 w' := by
  have h0 := h
  obtain ⟨F, G, h⟩ := h
  exact (get_tb h.t (by omega) k).mono fun e w' ⟨h1, h2⟩ => ⟨h1, h0.fr h2⟩
theorem L3.lenT (h : L3 N T U v E cs l1 l2 l3 w0 w) : Calls Try.prog 20 #[.pointer (some ⟨T, 0, none⟩)] w fun e w' => e = .returned (.int .i64 l1.length) ∧ w = w' := by
  obtain ⟨F, G, h⟩ := h; exact len_tb h.t
theorem L3.list {v' : Value} {l3' : Ps} (h : L3 N T U v E cs l1 l2 l3 w0 w) (hf : Fr w w') (hr : w'.ownsRow w.heap.size 42 2 v' l3'.length (pairsL l3')) : L3 N T U v' E cs l1 l2 l3' w0 w' := by
  obtain ⟨F, G, h⟩ := h
  exact ⟨F, G, h.t.fr hf, h.u.fr hf, h.tu, owns_mono hr h.t.le, fun k hk hc => by have := (h.t.lt _ hc).2; have := (hr.lt k hk).1; omega, fun k hk hc => by have := (h.u.lt _ hc).2; have := (hr.lt k hk).1; omega, h.bel.trans (hf.below_of h.t.le),
    fun b hb => by
      obtain ⟨x1, x2, x3, x4⟩ := h.ex b hb
      have hlt := (Array.getElem?_eq_some_iff.1 x1).1
      exact ⟨(hf.heap hlt).trans x1, x2, x3, fun hk => by have := (hr.lt b hk).1; omega⟩⟩
theorem L3.rget {a : Option Addr} {n c : Nat} (h : L3 N T U (.slice a n c) E cs l1 l2 l3 w0 w) (hl : l3.length = n) (hn : n ≤ 100000) (k : ByteArray) : Calls Try.prog 14 #[.slice a n c, .string k] w fun e w' => e = .returned (.tuple #[.string ((get l3 k).getD ⟨#[]⟩), .bool (get l3 k).isSome]) ∧ L3 N T U (.slice a n c) E cs l1 l2 l3 w0 w' :=
  (rget_walk l3 (h.sl hl) hl (by omega) k).mono fun _ _ ⟨h1, h2⟩ => ⟨h1, h.fr h2⟩
theorem L3.rput {a : Option Addr} {n c : Nat} (h : L3 N T U (.slice a n c) E cs l1 l2 l3 w0 w) (hl : l3.length = n) (hu : Up l3) (hn : n ≤ 100000) (k x : ByteArray) : Calls Try.prog 17 #[.slice a n c, .string k, .string x] w fun e w' => ∃ a' n' c', e = .returned (.slice a' n' c') ∧ (put l3 k x).length = n' ∧ L3 N T U (.slice a' n' c') E cs l1 l2 (put l3 k x) w0 w' :=
  (rput_walk l3 hu (h.sl hl) hl hn k x).mono fun _ _ ⟨a', c', h1, h2, h3⟩ => ⟨a', _, c', h1, rfl, h.list h3 h2⟩
theorem L3.rdel {a : Option Addr} {n c : Nat} (h : L3 N T U (.slice a n c) E cs l1 l2 l3 w0 w) (hl : l3.length = n) (hn : n ≤ 100000) (k : ByteArray) : Calls Try.prog 19 #[.slice a n c, .string k] w fun e w' => ∃ a' n' c', e = .returned (.slice a' n' c') ∧ (del l3 k).length = n' ∧ L3 N T U (.slice a' n' c') E cs l1 l2 (del l3 k) w0 w' :=
  (rdel_walk l3 (h.sl hl) hl (by omega) k).mono fun _ _ ⟨a', c', h1, h2, h3⟩ => ⟨a', _, c', h1, rfl, h.list h3 h2⟩
/-- All of a map beside the row, when the row is the same. -/
theorem L3.allT (h : L3 N T U v E cs l1 l2 l3 w0 w) (hl : l1.length ≤ 2000) : Calls Try.prog 23 #[.pointer (some ⟨T, 0, none⟩)] w fun e w' => ∃ a n c, e = .returned (.slice a n c) ∧ l1.length = n ∧ Sl w' (.slice a n c) n 2 (pairsL l1) ∧ L3 N T U v E cs l1 l2 l3 w0 w' := by
  have h0 := h
  obtain ⟨F, G, h⟩ := h
  exact (all_walk h.t hl).mono fun e w' ⟨a, c, h1, h2, h3⟩ => ⟨a, _, c, h1, rfl, owns_sl h2, h0.fr h3⟩
theorem L3.cells {k : Int} {x y : ByteArray} {b : Nat} (h : L3 N T U v (some b) #[.int .i64 k, .string x, .string y] l1 l2 l3 w0 w) : w.cell? ⟨b, 0, none⟩ = some (.int .i64 k) ∧ w.cell? ⟨b, 1, none⟩ = some (.string x) ∧ w.cell? ⟨b, 2, none⟩ = some (.string y) := by
  obtain ⟨F, G, h⟩ := h
  obtain ⟨e, _⟩ := h.ex b rfl
  exact ⟨cell_at e 0, cell_at e 1, cell_at e 2⟩
theorem L3.below (h : L3 N T U v E cs l1 l2 l3 w0 w) : Below N w0 w := by
  obtain ⟨F, G, h⟩ := h; exact h.bel
end
/-- Something that is done. -/
structure Opn where
  k : Int
  key : ByteArray
  val : ByteArray
def opV (o : Opn) : List Value := [.int .i64 o.k, .string o.key, .string o.val]
def opL (l : List Opn) : List Value := l.flatMap opV
theorem op_cells {w : World} {a : Option Addr} {n c : Nat} {m : List Opn} (h : Sl w (.slice a n c) n 3 (opL m)) {i : Nat} {x : Opn} (hi : m[i]? = some x) (hl : m.length = n) :
    ∃ b o, a = some ⟨b, o, none⟩ ∧ n ≤ c ∧ ∀ w', Below w.heap.size w w' → w'.cell? ⟨b, o + i * 3, none⟩ = some (.int .i64 x.k) ∧ w'.cell? ⟨b, o + i * 3 + 1, none⟩ = some (.string x.key) ∧ w'.cell? ⟨b, o + i * 3 + 2, none⟩ = some (.string x.val) := by
  have hlt := (List.getElem?_eq_some_iff.1 hi).1
  obtain ⟨b, o, rfl, hb, hnc, hcs⟩ := h.get (by omega)
  have at' : ∀ j, j < 3 → (opL m)[i * 3 + j]? = (opV x)[j]? := fun j hj => by
    unfold opL; rw [stride_get opV 3 (fun _ => rfl) m i j hj, hi]; rfl
  refine ⟨b, o, rfl, hnc, fun w' hw' => ⟨?_, ?_, ?_⟩⟩
  · rw [World.cell?_of_block (hw'.block b hb), hcs (i * 3) _ (by rw [show i * 3 = i * 3 + 0 from rfl, at' 0 (by decide)]; rfl)]
  · rw [Nat.add_assoc, World.cell?_of_block (hw'.block b hb), hcs (i * 3 + 1) _ (by rw [at' 1 (by decide)]; rfl)]
  · rw [Nat.add_assoc, World.cell?_of_block (hw'.block b hb), hcs (i * 3 + 2) _ (by rw [at' 2 (by decide)]; rfl)]
end Go.Proofs.Ytgdmkiobidnhnaa
