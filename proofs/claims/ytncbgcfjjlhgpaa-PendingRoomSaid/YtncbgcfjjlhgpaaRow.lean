/-
  What the row's memory says: entries, their guards and steps, the row itself; and frames that keep all blocks but some. Conditions: none.
-/
import Derived.Test.YtncbgcfjjlhgpaaMap
import Derived.Test.YtncbgcfjjlhgpaaFr
import Derived.Deep.AppendLies
import Derived.Below
namespace Go.Proofs.Ytncbgcfjjlhgpaa
open Go.RowKit

/-! ### Lists whose elements have as many cells each -/
theorem stride_get {α : Type} (f : α → List Value) (z : Nat) (hf : ∀ x, (f x).length = z) : ∀ (l : List α) (i j : Nat), j < z → (l.flatMap f)[i * z + j]? = (l[i]?).bind fun x => (f x)[j]?
  | [], i, j, _ => by simp
  | x :: l, 0, j, hj => by
    rw [List.flatMap_cons, List.getElem?_append_left (by rw [hf]; omega)]
    simp
  | x :: l, i + 1, j, hj => by
    rw [List.flatMap_cons, List.getElem?_append_right (by rw [hf, Nat.succ_mul]; omega), hf]
    have : (i + 1) * z + j - z = i * z + j := by rw [Nat.succ_mul]; omega
    rw [this, stride_get f z hf l i j hj]
    simp
theorem stride_len {α : Type} (f : α → List Value) (z : Nat) (hf : ∀ x, (f x).length = z) : ∀ (l : List α), (l.flatMap f).length = l.length * z
  | [] => by simp
  | x :: l => by rw [List.flatMap_cons, List.length_append, hf, stride_len f z hf l, List.length_cons, Nat.succ_mul]; omega

/-! ### All blocks but some are kept -/
structure But (F : Nat → Prop) (w w' : World) : Prop where
  os : w'.os = w.os
  tape : w'.tape = w.tape
  output : w'.output = w.output
  size : w.heap.size ≤ w'.heap.size
  heap : ∀ k, k < w.heap.size → ¬ F k → w'.heap[k]? = w.heap[k]?
theorem But.refl (F : Nat → Prop) (w : World) : But F w w := ⟨rfl, rfl, rfl, Nat.le_refl _, fun _ _ _ => rfl⟩
theorem But.mix {F G H : Nat → Prop} {a b c : World} (h : But F a b) (k : But G b c) (hF : ∀ x, x < a.heap.size → F x → H x) (hG : ∀ x, x < a.heap.size → G x → H x) : But H a c :=
  ⟨k.os.trans h.os, k.tape.trans h.tape, k.output.trans h.output, Nat.le_trans h.size k.size, fun x hx hn =>
    (k.heap x (Nat.lt_of_lt_of_le hx h.size) fun hg => hn (hG x hx hg)).trans (h.heap x hx fun hg => hn (hF x hx hg))⟩
theorem But.trans {F : Nat → Prop} {a b c : World} (h : But F a b) (k : But F b c) : But F a c := h.mix k (fun _ _ h => h) fun _ _ h => h
theorem But.of_fr {F : Nat → Prop} {w w' : World} (h : Fr w w') : But F w w' := ⟨h.below.os, h.below.tape, h.below.output, h.size, fun _ hk _ => h.heap hk⟩
theorem But.of_grown {w w' : World} {g : Option Nat} (h : w.grownBy w' g) : But (fun k => g = some k) w w' := ⟨h.os, h.tape, h.output, h.size, fun k hk hn => h.block k hk fun e => hn e.symm⟩
theorem But.grown {w w' : World} {g : Nat} (h : But (fun k => k = g) w w') : w.grownBy w' (some g) := ⟨h.os, h.tape, h.output, h.size, fun k hk hn => h.heap k hk fun e => hn (by rw [e])⟩
theorem But.fr {F : Nat → Prop} {w w' : World} (h : But F w w') (hn : ∀ k, k < w.heap.size → ¬ F k) : Fr w w' := ⟨h.os, h.tape, h.output, h.size, fun k hk => h.heap k hk (hn k hk)⟩
theorem But.below {F : Nat → Prop} {B : Nat} {w w' : World} (h : But F w w') (hB : B ≤ w.heap.size) (hn : ∀ k, k < B → ¬ F k) : Below B w w' := ⟨h.os, h.tape, h.output, h.size, fun k hk => h.heap k (Nat.lt_of_lt_of_le hk hB) (hn k hk)⟩
theorem But.put (w : World) (b : Nat) (x : Obj) : But (fun k => k = b) w (Put w b x) :=
  ⟨rfl, rfl, rfl, by simp [Put], fun k _ hn => by
    have hne : b ≠ k := fun e => hn e.symm
    simp only [Put, Array.getElem?_setIfInBounds]
    rw [if_neg hne]⟩
theorem But.set (w : World) (p : Addr) (v : Value) : But (fun k => k = p.block) w (w.setCell p v) :=
  ⟨rfl, rfl, rfl, by simp [World.setCell], fun k _ hn => Below.heap_setCell _ _ _ k hn⟩
theorem But.draw (F : Nat → Prop) (w : World) (n : Nat) : But F w { w with drawn := n } := ⟨rfl, rfl, rfl, Nat.le_refl _, fun _ _ _ => rfl⟩
theorem MapF.kept {w w' : World} {b : Nat} {f : Int → Int → Int} (h : MapF w b f) (hk : w'.heap[b]? = w.heap[b]?) : MapF w' b f := by
  obtain ⟨l, clock, hm, hf⟩ := h
  exact ⟨l, clock, ⟨hk.trans hm.heap, hm.born, hm.sep⟩, hf⟩
theorem MapF.lt {w : World} {b : Nat} {f : Int → Int → Int} (h : MapF w b f) : b < w.heap.size := by
  obtain ⟨l, clock, hm, _⟩ := h; exact hm.lt

/-! ### What a slice reads -/
/-- The value is a slice of n elements of z cells each: these cells. -/
def Sl (w : World) (v : Value) (n z : Nat) (cs : List Value) : Prop :=
  ∃ a c, v = .slice a n c ∧ cs.length = n * z ∧ n ≤ c ∧ (n = 0 ∨ ∃ b o, a = some ⟨b, o, none⟩ ∧ b < w.heap.size ∧ ∀ j u, cs[j]? = some u → w.cell? ⟨b, o + j, none⟩ = some u)
theorem Sl.kept {w w' : World} {v : Value} {n z : Nat} {cs : List Value} (h : Sl w v n z cs) (hk : ∀ k, v.ownBlock = some k → k < w.heap.size → w'.heap[k]? = w.heap[k]?) (hs : w.heap.size ≤ w'.heap.size) : Sl w' v n z cs := by
  obtain ⟨a, c, rfl, hl, hc, h⟩ := h
  refine ⟨a, c, rfl, hl, hc, ?_⟩
  rcases h with h | ⟨b, o, rfl, hb, h⟩
  · exact .inl h
  · refine .inr ⟨b, o, rfl, Nat.lt_of_lt_of_le hb hs, fun j u hu => ?_⟩
    rw [World.cell?_of_block (hk b rfl hb)]
    exact h j u hu

/-- A guard, a step. -/
structure Gd where
  k : Int
  key : ByteArray
  val : ByteArray
structure Sp where
  k : Int
  key : ByteArray
  val : ByteArray
  old : ByteArray
  n : Int
def gdV (g : Gd) : List Value := [.int .i64 g.k, .string g.key, .string g.val]
def spV (s : Sp) : List Value := [.int .i64 s.k, .string s.key, .string s.val, .string s.old, .int .i64 s.n]
def gdL (l : List Gd) : List Value := l.flatMap gdV
def spL (l : List Sp) : List Value := l.flatMap spV
theorem gdL_at (l : List Gd) (i j : Nat) (hj : j < 3) : (gdL l)[i * 3 + j]? = (l[i]?).bind fun x => (gdV x)[j]? := stride_get gdV 3 (fun _ => rfl) l i j hj
theorem spL_at (l : List Sp) (i j : Nat) (hj : j < 5) : (spL l)[i * 5 + j]? = (l[i]?).bind fun x => (spV x)[j]? := stride_get spV 5 (fun _ => rfl) l i j hj
theorem gdL_len (l : List Gd) : (gdL l).length = l.length * 3 := stride_len gdV 3 (fun _ => rfl) l
theorem spL_len (l : List Sp) : (spL l).length = l.length * 5 := stride_len spV 5 (fun _ => rfl) l
theorem gdL_one (l : List Gd) : ∀ u ∈ gdL l, u.oneCell' = true := by
  intro u hu
  obtain ⟨x, _, hx⟩ := List.mem_flatMap.1 hu
  simp only [gdV, List.mem_cons, List.not_mem_nil, or_false] at hx
  rcases hx with rfl | rfl | rfl <;> rfl
theorem spL_one (l : List Sp) : ∀ u ∈ spL l, u.oneCell' = true := by
  intro u hu
  obtain ⟨x, _, hx⟩ := List.mem_flatMap.1 hu
  simp only [spV, List.mem_cons, List.not_mem_nil, or_false] at hx
  rcases hx with rfl | rfl | rfl | rfl | rfl <;> rfl

/-- What an entry says: its name, its guards, its steps. -/
structure Cn where
  o : Int
  s : Int
  gs : List Gd
  ss : List Sp
/-- An entry in memory: what it says, and the two slices that say it. -/
structure Et where
  c : Cn
  g : Value
  st : Value
def etV (e : Et) : List Value := [.int .i64 e.c.o, .int .i64 e.c.s, e.g, e.st]
def etL (l : List Et) : List Value := l.flatMap etV
theorem etL_at (l : List Et) (i j : Nat) (hj : j < 4) : (etL l)[i * 4 + j]? = (l[i]?).bind fun x => (etV x)[j]? := stride_get etV 4 (fun _ => rfl) l i j hj
theorem etL_len (l : List Et) : (etL l).length = l.length * 4 := stride_len etV 4 (fun _ => rfl) l
structure EtOk (w : World) (e : Et) : Prop where
  g : Sl w e.g e.c.gs.length 3 (gdL e.c.gs)
  st : Sl w e.st e.c.ss.length 5 (spL e.c.ss)
/-- Neither of an entry's slices lies in such a block. -/
def Et.off (F : Nat → Prop) (e : Et) : Prop := (∀ k, e.g.ownBlock = some k → ¬ F k) ∧ (∀ k, e.st.ownBlock = some k → ¬ F k)
/-- Both slices of an entry lie in blocks below. -/
def Et.below (B : Nat) (e : Et) : Prop := (∀ k, e.g.ownBlock = some k → k < B) ∧ (∀ k, e.st.ownBlock = some k → k < B)
theorem Et.below.mono {B B' : Nat} {e : Et} (h : e.below B) (hB : B ≤ B') : e.below B' := ⟨fun k hk => Nat.lt_of_lt_of_le (h.1 k hk) hB, fun k hk => Nat.lt_of_lt_of_le (h.2 k hk) hB⟩
theorem EtOk.kept {F : Nat → Prop} {w w' : World} {e : Et} (h : EtOk w e) (ho : e.off F) (hb : But F w w') : EtOk w' e :=
  ⟨h.g.kept (fun k hk hlt => hb.heap k hlt (ho.1 k hk)) hb.size, h.st.kept (fun k hk hlt => hb.heap k hlt (ho.2 k hk)) hb.size⟩
theorem EtOk.fr {w w' : World} {e : Et} (h : EtOk w e) (hf : Fr w w') : EtOk w' e :=
  ⟨h.g.kept (fun _ _ hlt => hf.heap hlt) hf.size, h.st.kept (fun _ _ hlt => hf.heap hlt) hf.size⟩

/-! ### The row -/
def has (l : List Cn) (o s : Int) : Bool := l.any fun c => c.o == o && c.s == s
def inOf (l : List Cn) (o s : Int) : Int := if has l o s = true then 1 else 0
/-- The blocks that a row writes to: its own, its map's, its list's. -/
def Of (R mb : Nat) (v : Value) (k : Nat) : Prop := k = R ∨ k = mb ∨ v.ownBlock = some k
structure Rw (B R mb : Nat) (v : Value) (most : Int) (es : List Et) (w : World) : Prop where
  cells : w.heap[R]? = some (.cells #[.int .i64 most, v, .map (some mb)] 30)
  map : MapF w mb (inOf (es.map Et.c))
  row : w.ownsRow B 40 4 v es.length (etL es)
  ok : ∀ e ∈ es, EtOk w e
  off : ∀ e ∈ es, e.off (Of R mb v)
  lt : ∀ e ∈ es, e.below w.heap.size
  R : B ≤ R
  mb : B ≤ mb
theorem Rw.apart {B R mb : Nat} {v : Value} {most : Int} {es : List Et} {w : World} (h : Rw B R mb v most es w) : R ≠ mb := by
  intro e
  obtain ⟨l, clock, hm, _⟩ := h.map
  have := h.cells
  rw [e, hm.heap] at this
  cases this
theorem Rw.ltR {B R mb : Nat} {v : Value} {most : Int} {es : List Et} {w : World} (h : Rw B R mb v most es w) : R < w.heap.size := (Array.getElem?_eq_some_iff.1 h.cells).1
theorem owns_fr {w w' : World} {base e size n : Nat} {v : Value} {xs : List Value} (h : w.ownsRow base e size v n xs) (hf : Fr w w') : w'.ownsRow base e size v n xs :=
  h.kept ⟨hf.below.os, hf.below.tape, hf.below.output, hf.size, fun _ hk _ => hf.heap hk⟩ (.inr (fun hh => by
    have := (h.lt w.heap.size hh).2; omega) : v.ownBlock = none ∨ v.ownBlock ≠ some w.heap.size)
theorem Rw.fr {B R mb : Nat} {v : Value} {most : Int} {es : List Et} {w w' : World} (h : Rw B R mb v most es w) (hf : Fr w w') : Rw B R mb v most es w' :=
  ⟨(hf.heap h.ltR).trans h.cells, h.map.kept (hf.heap h.map.lt), owns_fr h.row hf, fun e he => (h.ok e he).fr hf, h.off, fun e he => (h.lt e he).mono hf.size, h.R, h.mb⟩
theorem Rw.at {B R mb : Nat} {v : Value} {most : Int} {es : List Et} {w : World} (h : Rw B R mb v most es w) (o : Nat) : w.cell? ⟨R, o, none⟩ = #[Value.int .i64 most, v, .map (some mb)][o]? := by
  rw [cell_of_row w R o _ 30 _ h.cells]
end Go.Proofs.Ytncbgcfjjlhgpaa
