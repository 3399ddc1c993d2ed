/-
  Lists of entries: those that a call made, and those that it reads. Conditions: none.
-/
import Derived.Test.YtncbgcfjjlhgpaaMid
namespace Go.Proofs.Ytncbgcfjjlhgpaa
open Go.RowKit

theorem owns_sl {w : World} {base e size n : Nat} {v : Value} {xs : List Value} (h : w.ownsRow base e size v n xs) : Sl w v n size xs := by
  have hl := h.1
  rcases h.2 with ⟨rfl, rfl⟩ | ⟨g, cap, cur, rfl, q1, q2, q3, q4⟩
  · exact ⟨none, 0, rfl, hl, Nat.le_refl _, .inl rfl⟩
  · refine ⟨_, cap, rfl, hl, q3, .inr ⟨g, 0, rfl, (Array.getElem?_eq_some_iff.1 q2).1, fun j u hu => ?_⟩⟩
    rw [Nat.zero_add]
    have := h.cells (g := g) rfl j u hu
    rw [add_at, Nat.zero_add] at this
    exact this
/-- A list that is read. -/
structure Rd (w : World) (v : Value) (es : List Et) : Prop where
  sl : Sl w v es.length 4 (etL es)
  ok : ∀ e ∈ es, EtOk w e
theorem Rd.fr {w w' : World} {v : Value} {es : List Et} (h : Rd w v es) (hf : Fr w w') : Rd w' v es := ⟨h.sl.kept (fun _ _ hl => hf.heap hl) hf.size, fun e he => (h.ok e he).fr hf⟩
theorem Rd.form {w : World} {v : Value} {es : List Et} (h : Rd w v es) : ∃ a c, v = .slice a es.length c := by
  obtain ⟨a, c, e, _⟩ := h.sl; exact ⟨a, c, e⟩
theorem Rd.at {w : World} {a : Option Addr} {n c : Nat} {es : List Et} (h : Rd w (.slice a n c) es) {k : Nat} {e : Et} (hk : es[k]? = some e) :
    ∃ b o, a = some ⟨b, o, none⟩ ∧ b < w.heap.size ∧ n = es.length ∧ ∀ j, j < 4 → w.cell? ⟨b, o + (k * 4 + j), none⟩ = (etV e)[j]? := by
  obtain ⟨a', c', he, hl, hc, hh⟩ := h.sl
  cases he
  have hlt := (List.getElem?_eq_some_iff.1 hk).1
  rcases hh with h0 | ⟨b, o, rfl, hb, hcs⟩
  · omega
  · refine ⟨b, o, rfl, hb, rfl, fun j hj => ?_⟩
    have h1 : (etL es)[k * 4 + j]? = (etV e)[j]? := by rw [etL_at es k j hj, hk]; rfl
    have h2 : j < (etV e).length := hj
    rw [List.getElem?_eq_getElem h2] at h1 ⊢
    exact hcs _ _ h1
/-- A list that a call made. -/
structure Lst (B : Nat) (w : World) (v : Value) (es : List Et) : Prop where
  row : w.ownsRow B 40 4 v es.length (etL es)
  ok : ∀ e ∈ es, EtOk w e
  off : ∀ e ∈ es, e.off (fun k => v.ownBlock = some k)
  lt : ∀ e ∈ es, e.below w.heap.size
theorem Lst.rd {B : Nat} {w : World} {v : Value} {es : List Et} (h : Lst B w v es) : Rd w v es := ⟨owns_sl h.row, h.ok⟩
theorem Rw.rd {B R mb : Nat} {v : Value} {most : Int} {es : List Et} {w : World} (h : Rw B R mb v most es w) : Rd w v es := ⟨owns_sl h.row, h.ok⟩
theorem Lst.fr {B : Nat} {w w' : World} {v : Value} {es : List Et} (h : Lst B w v es) (hf : Fr w w') : Lst B w' v es := ⟨owns_fr h.row hf, fun e he => (h.ok e he).fr hf, h.off, fun e he => (h.lt e he).mono hf.size⟩
theorem Lst.nil (B : Nat) (w : World) : Lst B w (.slice none 0 0) [] := ⟨⟨rfl, .inl ⟨rfl, rfl⟩⟩, fun _ h => ((by cases h)), fun _ h => ((by cases h)), fun _ h => ((by cases h))⟩
theorem Lst.from {B : Nat} {w : World} {v : Value} {es : List Et} (h : Lst B w v es) : ∀ k, v.ownBlock = some k → B ≤ k := fun k hk => (h.row.lt k hk).1
theorem Lst.mono {B B' : Nat} {w : World} {v : Value} {es : List Et} (h : Lst B w v es) (hB : B' ≤ B) : Lst B' w v es := by
  refine ⟨⟨h.row.1, ?_⟩, h.ok, h.off, h.lt⟩
  rcases h.row.2 with h | ⟨g, cap, cur, q0, q1, q2⟩
  · exact .inl h
  · exact .inr ⟨g, cap, cur, q0, Nat.le_trans hB q1, q2⟩
/-- Nothing old is touched by a store into the list. -/
theorem Lst.grow {B : Nat} {w0 w w' : World} {v : Value} {es : List Et} (h : Lst B w v es) (hf : Fr w0 w) (hB : w0.heap.size ≤ B) (hb : But (fun k => v.ownBlock = some k) w w') : Fr w0 w' :=
  ((But.of_fr (F := fun _ => False) hf).mix hb (H := fun k => v.ownBlock = some k) (fun _ _ h => h.elim) (fun _ _ h => h)).fr fun k hk hc => by
    have := h.from k hc; omega
theorem etL_push (es : List Et) (y : Et) : etL (es ++ [y]) = etL es ++ etV y := by simp [etL]
theorem Lst.push {B : Nat} {w w' : World} {v : Value} {es : List Et} {A : Obj} {g' n cap' : Nat} (h : Lst B w v es) (y : Et) (hy : EtOk w y) (hyl : y.below w.heap.size) (hyo : y.off (fun k => v.ownBlock = some k)) (hn : es.length = n)
    (hown : w'.ownsRow B 40 4 (.slice (some ⟨g', 0, none⟩) (n + 1) cap') (n + 1) (etL es ++ etV y)) (hg : (w.alloc A).grownBy w' v.ownBlock) (hat : v.ownBlock = some g' ∨ g' = (w.alloc A).heap.size) :
    Lst B w' (.slice (some ⟨g', 0, none⟩) (n + 1) cap') (es ++ [y]) ∧ But (fun k => v.ownBlock = some k) w w' := by
  have hb : But (fun k => v.ownBlock = some k) w w' := (But.of_fr ((Fr.refl w).alloc A)).trans (But.of_grown hg)
  have hsz : (w.alloc A).heap.size = w.heap.size + 1 := by simp
  have key : ∀ x : Et, x.below w.heap.size → x.off (fun k => v.ownBlock = some k) → x.off (fun k => (Value.slice (some ⟨g', 0, none⟩) (n + 1) cap').ownBlock = some k) := by
    intro x hx ho
    constructor
    · intro k hk hc
      obtain rfl : g' = k := by simpa [Value.ownBlock] using hc
      rcases hat with hat | hat
      · exact ho.1 _ hk hat
      · have := hx.1 _ hk; omega
    · intro k hk hc
      obtain rfl : g' = k := by simpa [Value.ownBlock] using hc
      rcases hat with hat | hat
      · exact ho.2 _ hk hat
      · have := hx.2 _ hk; omega
  have hmem : ∀ {e : Et}, e ∈ es ++ [y] → e ∈ es ∨ e = y := fun {e} he => (List.mem_append.1 he).imp id List.mem_singleton.1
  refine ⟨⟨?_, ?_, ?_, ?_⟩, hb⟩
  · rw [etL_push, show (es ++ [y]).length = n + 1 by simp [hn]]; exact hown
  · intro e he
    rcases hmem he with he | rfl
    · exact (h.ok e he).kept (h.off e he) hb
    · exact hy.kept hyo hb
  · intro e he
    rcases hmem he with he | rfl
    · exact key e (h.lt e he) (h.off e he)
    · exact key e hyl hyo
  · intro e he
    rcases hmem he with he | rfl
    · exact (h.lt e he).mono hb.size
    · exact hyl.mono hb.size

/-- clone, its result written out. -/
def CloneAt (W : World) (c : Cn) (e : Ending) (w' : World) : Prop :=
  ∃ an ac bn bc, e = .returned (.agg #[.int .i64 c.o, .int .i64 c.s, .slice an c.gs.length ac, .slice bn c.ss.length bc]) ∧ EtOk w' ⟨c, .slice an c.gs.length ac, .slice bn c.ss.length bc⟩ ∧ Et.from W.heap.size ⟨c, .slice an c.gs.length ac, .slice bn c.ss.length bc⟩ ∧ Et.below w'.heap.size ⟨c, .slice an c.gs.length ac, .slice bn c.ss.length bc⟩ ∧ Fr W w'
theorem clone_at {w : World} (x : Et) (h : EtOk w x) (h1 : x.c.gs.length ≤ 1000000) (h2 : x.c.ss.length ≤ 1000000) : Calls Try.prog 22 #[.agg #[.int .i64 x.c.o, .int .i64 x.c.s, x.g, x.st]] w (CloneAt w x.c) :=
  (clone_walk x h h1 h2).mono fun e w' ⟨y, h1, h2, h3, h4, h6, h5⟩ => by
    obtain ⟨yc, yg, yst⟩ := y
    obtain rfl : yc = x.c := h1
    have hg := h3.g
    have hst := h3.st
    dsimp only at hg hst
    obtain ⟨an, ac, e1, _, _⟩ := hg.form
    obtain ⟨bn, bc, e2, _, _⟩ := hst.form
    subst e1 e2
    exact ⟨an, ac, bn, bc, h2, h3, h4, h6, h5⟩

/-! ### Who is told -/
def mem (ids : List (Int × Int)) (o s : Int) : Bool := ids.any fun p => p.1 == o && p.2 == s
def left (ids : List (Int × Int)) (l : List Cn) : List Cn := l.filter fun c => !mem ids c.o c.s
theorem cnt_pos (ids : List (Int × Int)) (o s : Int) : decide (0 < cnt ids o s) = mem ids o s := by
  unfold cnt mem
  rw [Bool.eq_iff_iff, decide_eq_true_iff, List.any_eq_true]
  constructor
  · intro h
    have : 0 < ids.countP (fun p => p.1 == o && p.2 == s) := by omega
    obtain ⟨p, hp, hq⟩ := List.countP_pos_iff.1 this
    exact ⟨p, hp, hq⟩
  · rintro ⟨p, hp, hq⟩
    have := List.countP_pos_iff (p := fun p : Int × Int => p.1 == o && p.2 == s) |>.2 ⟨p, hp, hq⟩
    omega
theorem left_yes {ids : List (Int × Int)} {l : List Cn} {k : Nat} {c : Cn} (hk : l[k]? = some c) (h : mem ids c.o c.s = false) : left ids (l.take (k + 1)) = left ids (l.take k) ++ [c] := by
  unfold left; rw [List.take_add_one, hk]; simp [h]
theorem left_no {ids : List (Int × Int)} {l : List Cn} {k : Nat} {c : Cn} (hk : l[k]? = some c) (h : mem ids c.o c.s = true) : left ids (l.take (k + 1)) = left ids (l.take k) := by
  unfold left; rw [List.take_add_one, hk]; simp [h]
theorem left_le (ids : List (Int × Int)) (l : List Cn) : (left ids l).length ≤ l.length := List.length_filter_le _ _
theorem map_take_get {es : List Et} {k : Nat} {e : Et} (hk : es[k]? = some e) : (es.map Et.c)[k]? = some e.c := by rw [List.getElem?_map, hk]; rfl
end Go.Proofs.Ytncbgcfjjlhgpaa
