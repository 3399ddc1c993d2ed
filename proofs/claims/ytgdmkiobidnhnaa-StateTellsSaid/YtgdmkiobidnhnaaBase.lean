/-
  Frames that keep all blocks but some, what a slice reads, stores as a block sees them. Conditions: none.
-/
import Derived.Test.YtgdmkiobidnhnaaShelf
import Derived.Test.YtgdmkiobidnhnaaFr
import Derived.Deep.AppendLies
import Derived.Deep.OwnRows
import Derived.Below
import Derived.OneCell
import Derived.StillTailTactics
import Derived.IntWalk
namespace Go.Proofs.Ytgdmkiobidnhnaa
open Go.RowKit

/-! ### Lists whose elements have as many cells each -/
theorem stride_get {α : Type} (f : α → List Value) (z : Nat) (hf : ∀ x, (f x).length = z) : ∀ (l : List α) (i j : Nat), j < z → (l.flatMap f)[i * z + j]? = (l[i]?).bind fun x => (f x)[j]?
  | [], i, j, _ => by simp
  | x :: l, 0, j, hj => by
    rw [List.flatMap_cons, List.getElem?_append_left (by rw [hf]; omega)]
    simp
  | x :: l, i + 1, j, hj => by
    rw [List.flatMap_cons, List.getElem?_append_right (by rw [hf, Nat.succ_mul]; omega), hf]
    have : (i + 1) * z + j - z = i * z + j := by rw [Nat.succ_mul]; omega
    rw [this, stride_get f z hf l i j hj]
    simp
theorem stride_len {α : Type} (f : α → List Value) (z : Nat) (hf : ∀ x, (f x).length = z) : ∀ (l : List α), (l.flatMap f).length = l.length * z
  | [] => by simp
  | x :: l => by rw [List.flatMap_cons, List.length_append, hf, stride_len f z hf l, List.length_cons, Nat.succ_mul]; omega

/-! ### All blocks but some are kept -/
structure But (F : Nat → Prop) (w w' : World) : Prop where
  os : w'.os = w.os
  tape : w'.tape = w.tape
  output : w'.output = w.output
  size : w.heap.size ≤ w'.heap.size
  heap : ∀ k, k < w.heap.size → ¬ F k → w'.heap[k]? = w.heap[k]?
theorem But.refl (F : Nat → Prop) (w : World) : But F w w := ⟨rfl, rfl, rfl, Nat.le_refl _, fun _ _ _ => rfl⟩
theorem But.mix {F G H : Nat → Prop} {a b c : World} (h : But F a b) (k : But G b c) (hF : ∀ x, x < a.heap.size → F x → H x) (hG : ∀ x, x < a.heap.size → G x → H x) : But H a c :=
  ⟨k.os.trans h.os, k.tape.trans h.tape, k.output.trans h.output, Nat.le_trans h.size k.size, fun x hx hn =>
    (k.heap x (Nat.lt_of_lt_of_le hx h.size) fun hg => hn (hG x hx hg)).trans (h.heap x hx fun hg => hn (hF x hx hg))⟩
theorem But.trans {F : Nat → Prop} {a b c : World} (h : But F a b) (k : But F b c) : But F a c := h.mix k (fun _ _ h => h) fun _ _ h => h
theorem But.of_fr {F : Nat → Prop} {w w' : World} (h : Fr w w') : But F w w' := ⟨h.below.os, h.below.tape, h.below.output, h.size, fun _ hk _ => h.heap hk⟩
theorem But.of_grown {w w' : World} {g : Option Nat} (h : w.grownBy w' g) : But (fun k => g = some k) w w' := ⟨h.os, h.tape, h.output, h.size, fun k hk hn => h.block k hk fun e => hn e.symm⟩
theorem But.grown {w w' : World} {g : Nat} (h : But (fun k => k = g) w w') : w.grownBy w' (some g) := ⟨h.os, h.tape, h.output, h.size, fun k hk hn => h.heap k hk fun e => hn (by rw [e])⟩
theorem But.fr {F : Nat → Prop} {w w' : World} (h : But F w w') (hn : ∀ k, k < w.heap.size → ¬ F k) : Fr w w' := ⟨h.os, h.tape, h.output, h.size, fun k hk => h.heap k hk (hn k hk)⟩
theorem But.below {F : Nat → Prop} {B : Nat} {w w' : World} (h : But F w w') (hB : B ≤ w.heap.size) (hn : ∀ k, k < B → ¬ F k) : Below B w w' := ⟨h.os, h.tape, h.output, h.size, fun k hk => h.heap k (Nat.lt_of_lt_of_le hk hB) (hn k hk)⟩
theorem But.set (w : World) (p : Addr) (v : Value) : But (fun k => k = p.block) w (w.setCell p v) :=
  ⟨rfl, rfl, rfl, by simp [World.setCell], fun k _ hn => Below.heap_setCell _ _ _ k hn⟩
theorem But.draw (F : Nat → Prop) (w : World) (n : Nat) : But F w { w with drawn := n } := ⟨rfl, rfl, rfl, Nat.le_refl _, fun _ _ _ => rfl⟩
/-! ### What a slice reads -/
/-- The value is a slice of n elements of z cells each: these cells. -/
def Sl (w : World) (v : Value) (n z : Nat) (cs : List Value) : Prop :=
  ∃ a c, v = .slice a n c ∧ cs.length = n * z ∧ n ≤ c ∧ (n = 0 ∨ ∃ b o, a = some ⟨b, o, none⟩ ∧ b < w.heap.size ∧ ∀ j u, cs[j]? = some u → w.cell? ⟨b, o + j, none⟩ = some u)
theorem Sl.kept {w w' : World} {v : Value} {n z : Nat} {cs : List Value} (h : Sl w v n z cs) (hk : ∀ k, v.ownBlock = some k → k < w.heap.size → w'.heap[k]? = w.heap[k]?) (hs : w.heap.size ≤ w'.heap.size) : Sl w' v n z cs := by
  obtain ⟨a, c, rfl, hl, hc, h⟩ := h
  refine ⟨a, c, rfl, hl, hc, ?_⟩
  rcases h with h | ⟨b, o, rfl, hb, h⟩
  · exact .inl h
  · refine .inr ⟨b, o, rfl, Nat.lt_of_lt_of_le hb hs, fun j u hu => ?_⟩
    rw [World.cell?_of_block (hk b rfl hb)]
    exact h j u hu

theorem owns_fr {w w' : World} {base e size n : Nat} {v : Value} {xs : List Value} (h : w.ownsRow base e size v n xs) (hf : Fr w w') : w'.ownsRow base e size v n xs :=
  h.kept ⟨hf.below.os, hf.below.tape, hf.below.output, hf.size, fun _ hk _ => hf.heap hk⟩ (.inr (fun hh => by
    have := (h.lt w.heap.size hh).2; omega) : v.ownBlock = none ∨ v.ownBlock ≠ some w.heap.size)
theorem parts {e : TypeId} {n s b : Nat} (h : (Try.prog.info? e).map (fun i => (i.zero.map fun z => z.cells.size, i.size, i.bytes)) = some (some n, s, b)) :
    ∃ i z, Try.prog.info? e = some i ∧ i.zero = some z ∧ z.cells.size = n ∧ i.size = s ∧ i.bytes = b := by
  cases hi : Try.prog.info? e with
  | none => rw [hi] at h; cases h
  | some i =>
    rw [hi] at h
    simp only [Option.map_some, Option.some.injEq, Prod.mk.injEq] at h
    obtain ⟨h1, h2, h3⟩ := h
    cases hz : i.zero with
    | none => rw [hz] at h1; cases h1
    | some z => rw [hz] at h1; exact ⟨i, z, rfl, hz, by simpa using h1, h2, h3⟩

theorem add_at (b o j : Nat) : (⟨b, o, none⟩ : Addr).add j = ⟨b, o + j, none⟩ := by
  unfold Addr.add; split <;> simp_all
theorem wpList_copy {ops : Array Oper} {rest : List Oper} {o : Oper} {a : Act} {Q : Exit → Act → World → Prop} {w w' : World} {X v' : Value} (hgd : o.guard = none) (s x : Operand) (t : TypeId)
    (ho : o.op = .call { callee := .builtin .append, args := #[s, x], argTypes := #[t, t] }) (hs : a.eval s = .slice none 0 0) (hx : a.eval x = X)
    (hr : (Builtin.append_ #[t, t] o.type #[.slice none 0 0, X]).run Try.prog w = .ok v' w') (h : wpList Try.prog ops Q rest (a.put o.dst v') w') : wpList Try.prog ops Q (o :: rest) a w := by
  refine wpList_plain hgd fun K hK => ?_
  unfold Oper.wp execOp
  simp only [ho, resolve, invoke, builtin, Sem.run_bind, Sem.run_pure, Result.andThen_ok, List.map_toArray, List.map_cons, List.map_nil, hs, hx, hr]
  exact hK _ _ h
theorem bytes_ok {n k : Nat} (h : n ≤ 1000000) (hk : k ≤ 64) : n * k ≤ 140737488355328 := Nat.le_trans (Nat.mul_le_mul h hk) (by decide)
theorem Sl.form {w : World} {v : Value} {n z : Nat} {cs : List Value} (h : Sl w v n z cs) : ∃ a c, v = .slice a n c ∧ n ≤ c ∧ Sl w (.slice a n c) n z cs := by
  obtain ⟨a, c, rfl, h1, h2, h3⟩ := h
  exact ⟨a, c, rfl, h2, ⟨a, c, rfl, h1, h2, h3⟩⟩
theorem set_block {w : World} {b : Nat} {cs : Array Value} {t : TypeId} {fr : Nat × Nat} (h : w.heap[b]? = some (.cells cs t fr)) (j : Nat) (v : Value) : (w.setCell ⟨b, j, none⟩ v).heap[b]? = some (.cells (cs.setIfInBounds j v) t fr) := by
  obtain ⟨hl, hk⟩ := Array.getElem?_eq_some_iff.1 h
  show (w.heap.modify b _)[b]? = _
  rw [Array.getElem?_eq_getElem (by rw [Array.size_modify]; exact hl), Array.getElem_modify_self, hk]
  rfl
theorem frozen_at {w : World} {b : Nat} {cs : Array Value} {t : TypeId} (h : w.heap[b]? = some (.cells cs t)) (j : Nat) : w.frozen? ⟨b, j, none⟩ = false := by
  simp [World.frozen?, h]
theorem cell_at {w : World} {b : Nat} {cs : Array Value} {t : TypeId} (h : w.heap[b]? = some (.cells cs t)) (j : Nat) : w.cell? ⟨b, j, none⟩ = cs[j]? := cell_of_row w b j cs t _ h
theorem owns_sl {w : World} {base e size n : Nat} {v : Value} {xs : List Value} (h : w.ownsRow base e size v n xs) : Sl w v n size xs := by
  have hl := h.1
  rcases h.2 with ⟨rfl, rfl⟩ | ⟨g, cap, cur, rfl, q1, q2, q3, q4⟩
  · exact ⟨none, 0, rfl, hl, Nat.le_refl _, .inl rfl⟩
  · refine ⟨_, cap, rfl, hl, q3, .inr ⟨g, 0, rfl, (Array.getElem?_eq_some_iff.1 q2).1, fun j u hu => ?_⟩⟩
    rw [Nat.zero_add]
    have := h.cells (g := g) rfl j u hu
    rw [add_at, Nat.zero_add] at this
    exact this
/-- Many stores, as the block sees them. -/
def sets (cs : Array Value) (o : Nat) : List Value → Array Value
  | [] => cs
  | v :: r => sets (cs.setIfInBounds o v) (o + 1) r
theorem setCells_block {b : Nat} {t : TypeId} {fr : Nat × Nat} : ∀ (vs : List Value) (o : Nat) (w : World) (cs : Array Value), w.heap[b]? = some (.cells cs t fr) → (w.setCells b o vs).heap[b]? = some (.cells (sets cs o vs) t fr)
  | [], _, _, _, h => h
  | v :: r, o, w, _, h => setCells_block r (o + 1) (w.setCell ⟨b, o, none⟩ v) _ (set_block h o v)
theorem sets_size : ∀ (vs : List Value) (cs : Array Value) (o : Nat), (sets cs o vs).size = cs.size
  | [], _, _ => rfl
  | v :: r, _, o => by rw [sets, sets_size r]; simp
theorem sets_take (m : Nat) : ∀ (vs : List Value) (cs : Array Value) (o : Nat), m ≤ o → (sets cs o vs).toList.take m = cs.toList.take m
  | [], _, _, _ => rfl
  | v :: r, _, o, h => by
    rw [sets, sets_take m r _ _ (by omega), Array.toList_setIfInBounds, List.take_set, List.set_eq_of_length_le]
    rw [List.length_take]; omega
theorem But.sets (b : Nat) : ∀ (vs : List Value) (o : Nat) (w : World), But (fun k => k = b) w (w.setCells b o vs)
  | [], _, w => But.refl _ w
  | v :: r, o, w => (But.set w ⟨b, o, none⟩ v).trans (But.sets b r (o + 1) _)
theorem owns_mono {w : World} {B B' e z n : Nat} {v : Value} {xs : List Value} (h : w.ownsRow B e z v n xs) (hB : B' ≤ B) : w.ownsRow B' e z v n xs := by
  refine ⟨h.1, ?_⟩
  rcases h.2 with h | ⟨g, cap, cur, q0, q1, q2⟩
  · exact .inl h
  · exact .inr ⟨g, cap, cur, q0, Nat.le_trans hB q1, q2⟩
theorem Sl.fr {w w' : World} {v : Value} {n z : Nat} {cs : List Value} (h : Sl w v n z cs) (hf : Fr w w') : Sl w' v n z cs := h.kept (fun _ _ hl => hf.heap hl) hf.size
/-- A slice's cells, at each place that is there. -/
theorem Sl.get {w : World} {a : Option Addr} {n c z : Nat} {cs : List Value} (h : Sl w (.slice a n c) n z cs) (hn : 0 < n) : ∃ b o, a = some ⟨b, o, none⟩ ∧ b < w.heap.size ∧ n ≤ c ∧ ∀ j u, cs[j]? = some u → w.cell? ⟨b, o + j, none⟩ = some u := by
  obtain ⟨a', c', e, _, hc, h | h⟩ := h
  · omega
  · cases e; obtain ⟨b, o, h1, h2, h3⟩ := h; exact ⟨b, o, h1, h2, hc, h3⟩
theorem But.mono {F G : Nat → Prop} {w w' : World} (h : But F w w') (hs : ∀ k, F k → G k) : But G w w' := h.mix (But.refl (fun _ => False) _) (fun _ _ h => hs _ h) (fun _ _ h => h.elim)
end Go.Proofs.Ytgdmkiobidnhnaa
