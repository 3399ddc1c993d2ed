/-
  A map whose keys are names (two ints each) and whose elements are ints: what a look-up, a store and an increment do to it. Conditions: none.
-/
import Derived.Test.YtncbgcfjjlhgpaaRows
import Derived.WalkKit
import Derived.WalkSpells
import Derived.WalkLawsBesides
import Derived.Laws.StructEq
namespace Go.Proofs.Ytncbgcfjjlhgpaa
open Go.RowKit

def idV (o s : Int) : Value := .agg #[.int .i64 o, .int .i64 s]
theorem equal_id (o s o' s' : Int) (w : World) : (Op.equal 34 (idV o s) (idV o' s')).run Try.prog w = .ok (o == o' && s == s') w := by
  unfold idV
  simp only [Op.equal, Op.maxDepth]
  go_simp
  by_cases h1 : o = o' <;> by_cases h2 : s = s' <;> simp [h1, h2]

/-- An entry: the name, the element, the number under which it was born. -/
structure En where
  o : Int
  s : Int
  v : Int
  b : Nat
def En.mk' (e : En) : MapEntry := { key := idV e.o e.s, val := .int .i64 e.v, born := e.b }
def En.is (o s : Int) (e : En) : Bool := o == e.o && s == e.s

theorem findAsking_run (o s : Int) (w : World) : ∀ (l : List En) (i : Nat), (Instr.findAsking 34 (idV o s) (l.map En.mk') i).run Try.prog w = .ok ((l.findIdx? (En.is o s)).map fun j => (i + j, Value.int .i64 ((l[j]?.map En.v).getD 0))) w
  | [], i => by simp [Instr.findAsking, Sem.run_pure]
  | e :: l, i => by
    simp only [List.map_cons, Instr.findAsking, Sem.run_bind]
    show ((Op.equal 34 (idV o s) (idV e.o e.s)).run Try.prog w).andThen _ = _
    rw [equal_id]
    simp only [Result.andThen_ok, List.findIdx?_cons]
    by_cases h : En.is o s e = true
    · have h' : (o == e.o && s == e.s) = true := h
      simp [h, h', Sem.run_pure, En.mk']
    · have h0 : En.is o s e = false := by simpa using h
      have h' : (o == e.o && s == e.s) = false := h0
      simp only [h0, h', Bool.false_eq_true, if_false]
      rw [findAsking_run o s w l (i + 1)]
      cases l.findIdx? (En.is o s) <;> simp
      omega

theorem findKey_run (o s : Int) (l : List En) (w : World) : (Instr.findKey 34 (idV o s) (l.map En.mk')).run Try.prog w = .ok ((l.findIdx? (En.is o s)).map fun j => (j, Value.int .i64 ((l[j]?.map En.v).getD 0))) w := by
  unfold Instr.findKey
  simp only [Sem.run_bind, run_underlying Try.underlying34, Result.andThen_ok]
  cases l with
  | nil => simp [Instr.findNow, Sem.run_pure]
  | cons e l =>
    simp only [List.map_cons, Instr.findNow, Instr.sameNow]
    have h := findAsking_run o s w (e :: l) 0
    simp only [List.map_cons, Nat.zero_add] at h
    exact h

def idx (l : List En) (o s : Int) : Option Nat := l.findIdx? (En.is o s)
def valAt (l : List En) (o s : Int) : Int := ((l.find? (En.is o s)).map En.v).getD 0
theorem idx_some {l : List En} {o s : Int} {j : Nat} (h : idx l o s = some j) : ∃ e, l[j]? = some e ∧ e.o = o ∧ e.s = s ∧ l.find? (En.is o s) = some e := by
  unfold idx at h
  obtain ⟨hj, h1, h2⟩ := List.findIdx?_eq_some_iff_getElem.1 h
  have h1' : En.is o s l[j] = true := h1
  simp only [En.is, Bool.and_eq_true, beq_iff_eq] at h1'
  refine ⟨l[j], List.getElem?_eq_getElem hj, h1'.1.symm, h1'.2.symm, ?_⟩
  rw [List.find?_eq_some_iff_getElem]
  exact ⟨h1, j, hj, rfl, fun k hk => by have := h2 k hk; simpa using this⟩
theorem idx_none {l : List En} {o s : Int} (h : idx l o s = none) : l.find? (En.is o s) = none ∧ ∀ e ∈ l, ¬ (e.o = o ∧ e.s = s) := by
  unfold idx at h
  rw [List.findIdx?_eq_none_iff] at h
  refine ⟨List.find?_eq_none.2 fun e he => by simp [h e he], fun e he hc => ?_⟩
  have := h e he
  simp [En.is, hc.1, hc.2] at this

/-- Block b is a map of these entries. -/
structure MapL (w : World) (b : Nat) (l : List En) (clock : Nat) : Prop where
  heap : w.heap[b]? = some (.map (l.map En.mk').toArray clock)
  born : ∀ e ∈ l, e.b < clock
  sep : l.Pairwise fun x y => x.b ≠ y.b
theorem MapL.lt {w : World} {b : Nat} {l : List En} {clock : Nat} (h : MapL w b l clock) : b < w.heap.size := (Array.getElem?_eq_some_iff.1 h.heap).1

theorem checkKey_run' (e : Bool) (n : Nat) (o s : Int) (w : World) : (Instr.checkKey e (n + 2) 34 (idV o s)).run Try.prog w = .ok () w := by
  unfold idV
  simp [Instr.checkKey, run_underlying Try.underlying34, run_underlying Try.underlying3, part, sizeOf, typeInfo, Sem.run_pure]
theorem checkKey_run (e : Bool) (o s : Int) (w : World) : (Instr.checkKey e 10000 34 (idV o s)).run Try.prog w = .ok () w := checkKey_run' e 9998 o s w

theorem zero3 (w : World) : (zeroValue 3).run Try.prog w = .ok (.int .i64 0) w := by kernel_rfl

theorem lookup_run {w : World} {b : Nat} {l : List En} {clock : Nat} (h : MapL w b l clock) (o s : Int) :
    (Instr.lookup 28 (.map (some b)) (idV o s) false).run Try.prog w = .ok (.int .i64 (valAt l o s)) w := by
  unfold Instr.lookup
  simp only [Sem.run_bind, run_underlying Try.underlying28, Result.andThen_ok, MapKept.run_getObj_map h.heap, Sem.run_pure, checkKey_run, findKey_run]
  cases hi : idx l o s with
  | none =>
    unfold idx at hi
    simp [hi, valAt, (idx_none hi).1]
  | some j =>
    obtain ⟨e, h1, _, _, h4⟩ := idx_some hi
    unfold idx at hi
    simp [hi, Sem.run_pure, valAt, h1, h4]

/-- The entries with a name's element set. -/
def setAt (l : List En) (j : Nat) (v : Int) : List En := l.modify j fun e => { e with v := v }
theorem map_modify_mk (l : List En) (j : Nat) (v : Int) : ((l.map En.mk').toArray.modify j fun e => { e with val := .int .i64 v }) = ((setAt l j v).map En.mk').toArray := by
  unfold setAt
  apply Array.ext'
  rw [Array.toList_modify, List.toList_toArray, List.toList_toArray]
  apply List.ext_getElem?
  intro i
  simp only [List.getElem?_modify, List.getElem?_map]
  by_cases h : j = i
  · simp only [h, if_true]; cases l[i]? <;> rfl
  · simp only [h, if_false]; cases l[i]? <;> rfl
theorem map_modify_same (l : List En) (j : Nat) (e : En) (hj : l[j]? = some e) (v : Int) :
    ((l.map En.mk').toArray.modify j fun x => { x with key := idV e.o e.s, val := .int .i64 v }) = ((setAt l j v).map En.mk').toArray := by
  rw [← map_modify_mk]
  apply Array.ext'
  rw [Array.toList_modify, Array.toList_modify, List.toList_toArray]
  apply List.ext_getElem?
  intro i
  simp only [List.getElem?_modify, List.getElem?_map]
  by_cases h : j = i
  · subst h; simp only [if_true, hj]; rfl
  · simp only [h, if_false]
theorem map_key_same (l : List En) (j : Nat) (e : En) (hj : l[j]? = some e) :
    ((l.map En.mk').toArray.modify j fun x => { x with key := idV e.o e.s }) = (l.map En.mk').toArray := by
  apply Array.ext'
  rw [Array.toList_modify, List.toList_toArray]
  apply List.ext_getElem?
  intro i
  simp only [List.getElem?_modify, List.getElem?_map]
  by_cases h : j = i
  · subst h; simp only [if_true, hj]; rfl
  · simp only [h, if_false]; cases l[i]? <;> rfl
theorem setAt_born (l : List En) (j : Nat) (v : Int) : (setAt l j v).map En.b = l.map En.b := by
  unfold setAt
  apply List.ext_getElem?
  intro i
  simp only [List.getElem?_map, List.getElem?_modify]
  by_cases h : j = i
  · simp only [h, if_true]; cases l[i]? <;> rfl
  · simp only [h, if_false]; cases l[i]? <;> rfl
theorem MapL.sep' {w : World} {b : Nat} {l : List En} {clock : Nat} (h : MapL w b l clock) : (l.map En.b).Pairwise (· ≠ ·) := List.pairwise_map.2 h.sep
theorem sep_of {l : List En} (h : (l.map En.b).Pairwise (· ≠ ·)) : l.Pairwise fun x y => x.b ≠ y.b := List.pairwise_map.1 h
theorem born_of {l : List En} {clock : Nat} (h : ∀ x ∈ l.map En.b, x < clock) : ∀ e ∈ l, e.b < clock := fun _ he => h _ (List.mem_map_of_mem he)

/-- What a map's block says: each name's element, 0 where there is none. -/
def MapF (w : World) (b : Nat) (f : Int → Int → Int) : Prop := ∃ l clock, MapL w b l clock ∧ ∀ o s, valAt l o s = f o s
def upd (f : Int → Int → Int) (o s v : Int) : Int → Int → Int := fun o' s' => if o' = o ∧ s' = s then v else f o' s'

theorem valAt_cons (e : En) (l : List En) (o s : Int) : valAt (e :: l) o s = if e.o = o ∧ e.s = s then e.v else valAt l o s := by
  unfold valAt
  by_cases h : e.o = o ∧ e.s = s
  · have : En.is o s e = true := by simp [En.is, h.1, h.2]
    simp [this, h]
  · have : En.is o s e = false := by
      simp only [En.is, Bool.and_eq_false_iff, beq_eq_false_iff_ne]
      by_cases h1 : o = e.o
      · exact Or.inr fun h2 => h ⟨h1.symm, h2.symm⟩
      · exact Or.inl h1
    simp [this, h]
theorem is_iff (e : En) (o s : Int) : En.is o s e = true ↔ (e.o = o ∧ e.s = s) := by
  simp only [En.is, Bool.and_eq_true, beq_iff_eq]
  exact ⟨fun h => ⟨h.1.symm, h.2.symm⟩, fun h => ⟨h.1.symm, h.2.symm⟩⟩
theorem valAt_setAt {o s : Int} (v : Int) (o' s' : Int) : ∀ {l : List En} {j : Nat}, idx l o s = some j → valAt (setAt l j v) o' s' = if o' = o ∧ s' = s then v else valAt l o' s'
  | [], j, h => by simp [idx] at h
  | e :: l, j, h => by
    unfold idx at h
    rw [List.findIdx?_cons] at h
    by_cases he : En.is o s e = true
    · rw [if_pos he] at h
      obtain rfl : 0 = j := by simpa using h
      have hh := (is_iff _ _ _).1 he
      show valAt (({ e with v := v } : En) :: l) o' s' = _
      rw [valAt_cons, valAt_cons]
      show (if e.o = o' ∧ e.s = s' then v else _) = _
      rw [hh.1, hh.2]
      by_cases hc : o' = o ∧ s' = s
      · rw [if_pos ⟨hc.1.symm, hc.2.symm⟩, if_pos hc]
      · rw [if_neg fun hd => hc ⟨hd.1.symm, hd.2.symm⟩, if_neg hc, if_neg fun hd => hc ⟨hd.1.symm, hd.2.symm⟩]
    · rw [if_neg he] at h
      obtain ⟨k, hk, rfl⟩ : ∃ k, idx l o s = some k ∧ k + 1 = j := by
        unfold idx
        cases hq : l.findIdx? (En.is o s) with
        | none => rw [hq] at h; cases h
        | some k => rw [hq] at h; exact ⟨k, rfl, by simpa using h⟩
      have ih := valAt_setAt (l := l) (j := k) v o' s' hk
      show valAt (e :: setAt l k v) o' s' = _
      rw [valAt_cons, valAt_cons, ih]
      by_cases hc : o' = o ∧ s' = s
      · have : ¬ (e.o = o' ∧ e.s = s') := fun hd => he ((is_iff _ _ _).2 ⟨hd.1.trans hc.1, hd.2.trans hc.2⟩)
        rw [if_neg this, if_pos hc, if_pos hc]
      · rw [if_neg hc, if_neg hc]
theorem valAt_push {o s : Int} (v : Int) (c : Nat) (o' s' : Int) : ∀ {l : List En}, idx l o s = none → valAt (l ++ [⟨o, s, v, c⟩]) o' s' = if o' = o ∧ s' = s then v else valAt l o' s'
  | [], _ => by
    show valAt [⟨o, s, v, c⟩] o' s' = _
    rw [valAt_cons]
    show (if o = o' ∧ s = s' then v else _) = _
    by_cases hc : o' = o ∧ s' = s
    · rw [if_pos ⟨hc.1.symm, hc.2.symm⟩, if_pos hc]
    · rw [if_neg fun hd => hc ⟨hd.1.symm, hd.2.symm⟩, if_neg hc]
  | e :: l, h => by
    obtain ⟨_, hn⟩ := idx_none h
    have he := hn e (List.mem_cons_self ..)
    have hl : idx l o s = none := by
      unfold idx; rw [List.findIdx?_eq_none_iff]
      intro x hx
      have := hn x (List.mem_cons_of_mem _ hx)
      simpa using fun hc => this ((is_iff _ _ _).1 hc)
    show valAt (e :: (l ++ [⟨o, s, v, c⟩])) o' s' = _
    rw [valAt_cons, valAt_cons, valAt_push v c o' s' hl]
    by_cases hc : o' = o ∧ s' = s
    · rw [if_pos hc, if_neg fun hd => he ⟨hd.1.trans hc.1, hd.2.trans hc.2⟩]
      split <;> rfl
    · rw [if_neg hc]
      split <;> rfl

theorem stays_run (o s : Int) (w : World) : (Instr.keyThatStays (idV o s) (idV o s)).run Try.prog w = .ok (idV o s) w := by
  have h : Instr.sameBits 10000 (idV o s) (idV o s) = true := by
    unfold idV
    rw [Instr.sameBits]
    simp [Instr.sameBits]
  unfold Instr.keyThatStays
  rw [if_pos h]
  rfl

theorem setAt_mem {l : List En} {o s : Int} {j : Nat} (h : idx l o s = some j) : ∃ e, l[j]? = some e ∧ idV e.o e.s = idV o s := by
  obtain ⟨e, h1, h2, h3, _⟩ := idx_some h
  exact ⟨e, h1, by rw [h2, h3]⟩
theorem heap_set {w : World} {b : Nat} (x : Obj) (h : b < w.heap.size) : (w.heap.setIfInBounds b x)[b]? = some x := by
  simp [h]
theorem MapL.setAt {w : World} {b : Nat} {l : List En} {clock : Nat} (h : MapL w b l clock) (j : Nat) (v : Int) :
    MapL { w with heap := w.heap.setIfInBounds b (.map ((setAt l j v).map En.mk').toArray clock) } b (Ytncbgcfjjlhgpaa.setAt l j v) clock :=
  ⟨heap_set _ h.lt, born_of (by rw [setAt_born]; intro x hx; obtain ⟨e, he, rfl⟩ := List.mem_map.1 hx; exact h.born e he), sep_of (by rw [setAt_born]; exact h.sep')⟩
theorem MapL.push {w : World} {b : Nat} {l : List En} {clock : Nat} (h : MapL w b l clock) (o s v : Int) :
    MapL { w with heap := w.heap.setIfInBounds b (.map ((l ++ [(⟨o, s, v, clock⟩ : En)]).map En.mk').toArray (clock + 1)) } b (l ++ [⟨o, s, v, clock⟩]) (clock + 1) := by
  refine ⟨heap_set _ h.lt, ?_, ?_⟩
  · intro e he
    rcases List.mem_append.1 he with he | he
    · exact Nat.lt_succ_of_lt (h.born e he)
    · rw [List.mem_singleton.1 he]; exact Nat.lt_succ_self clock
  · rw [List.pairwise_append]
    refine ⟨h.sep, List.pairwise_singleton _ _, ?_⟩
    intro x hx y hy
    rw [List.mem_singleton.1 hy]
    exact Nat.ne_of_lt (h.born x hx)
/-- A world that has another object in one block. -/
def Put (w : World) (b : Nat) (x : Obj) : World := { w with heap := w.heap.setIfInBounds b x }

theorem mapUpdate_run {w : World} {b : Nat} {f : Int → Int → Int} (h : MapF w b f) (o s v : Int) :
    ∃ x, (Instr.mapUpdate 28 (.map (some b)) (idV o s) (.int .i64 v)).run Try.prog w = .ok () (Put w b x) ∧ MapF (Put w b x) b (upd f o s v) := by
  obtain ⟨l, clock, hm, hf⟩ := h
  unfold Instr.mapUpdate
  simp only [Sem.run_bind, run_underlying Try.underlying28, Result.andThen_ok, MapKept.run_getObj_map hm.heap, checkKey_run, findKey_run]
  cases hi : idx l o s with
  | none =>
    refine ⟨.map ((l ++ [(⟨o, s, v, clock⟩ : En)]).map En.mk').toArray (clock + 1), ?_, l ++ [(⟨o, s, v, clock⟩ : En)], clock + 1, hm.push o s v, fun o' s' => ?_⟩
    · unfold idx at hi
      simp only [hi, Option.map_none]
      rw [MapKept.run_setObj_map _ hm.heap]
      unfold Put
      congr 4
      simp [En.mk']
    · rw [valAt_push v clock o' s' hi, hf]; rfl
  | some j =>
    obtain ⟨e, h1, h2⟩ := setAt_mem hi
    refine ⟨.map ((setAt l j v).map En.mk').toArray clock, ?_, setAt l j v, clock, hm.setAt j v, fun o' s' => ?_⟩
    · unfold idx at hi
      have hk : ((((l.map En.mk').toArray[j]?).map (·.key)).getD (idV o s)) = idV o s := by
        rw [List.getElem?_toArray, List.getElem?_map, h1]; exact h2
      simp only [hi, Option.map_some, hk, Sem.run_bind, stays_run, Result.andThen_ok]
      rw [MapKept.run_setObj_map _ hm.heap, ← h2, map_modify_same l j e h1 v]
      rfl
    · rw [valAt_setAt v o' s' hi, hf]; rfl

/-- The entry that an increment holds: its stamp tells it. -/
def MapAt (w : World) (b : Nat) (f : Int → Int → Int) (o s : Int) (st : Nat) : Prop := ∃ l clock j e, MapL w b l clock ∧ (∀ o s, valAt l o s = f o s) ∧ idx l o s = some j ∧ l[j]? = some e ∧ e.b = st
theorem idx_push {l : List En} {o s : Int} (h : idx l o s = none) (v : Int) (c : Nat) : idx (l ++ [⟨o, s, v, c⟩]) o s = some l.length := by
  unfold idx at h ⊢
  rw [List.findIdx?_append, h]
  simp [List.findIdx?_cons, En.is]
theorem mapEntry_run {w : World} {b : Nat} {f : Int → Int → Int} (h : MapF w b f) (o s : Int) :
    ∃ x st, (Instr.mapEntry 28 (.map (some b)) (idV o s)).run Try.prog w = .ok (.tuple #[.int .i64 (f o s), goInt (st : Nat)]) (Put w b x) ∧ MapAt (Put w b x) b f o s st := by
  obtain ⟨l, clock, hm, hf⟩ := h
  unfold Instr.mapEntry
  simp only [Sem.run_bind, run_underlying Try.underlying28, Result.andThen_ok, MapKept.run_getObj_map hm.heap, checkKey_run, findKey_run]
  cases hi : idx l o s with
  | none =>
    have hz : f o s = 0 := by rw [← hf]; unfold valAt; rw [(idx_none hi).1]; rfl
    refine ⟨.map ((l ++ [(⟨o, s, 0, clock⟩ : En)]).map En.mk').toArray (clock + 1), clock, ?_, l ++ [(⟨o, s, 0, clock⟩ : En)], clock + 1, l.length, ⟨o, s, 0, clock⟩, hm.push o s 0, fun o' s' => ?_, idx_push hi 0 clock, by simp, rfl⟩
    · unfold idx at hi
      simp only [hi, Option.map_none, Sem.run_bind, zero3, Result.andThen_ok, hz]
      rw [MapKept.run_setObj_map _ hm.heap]
      simp only [Result.andThen_ok, Sem.run_pure]
      unfold Put
      congr 4
      simp [En.mk']
    · rw [valAt_push 0 clock o' s' hi]
      by_cases hc : o' = o ∧ s' = s
      · rw [if_pos hc, hc.1, hc.2, hz]
      · rw [if_neg hc, hf]
  | some j =>
    obtain ⟨e, h1, h2⟩ := setAt_mem hi
    obtain ⟨e', h1', _, _, h4⟩ := idx_some hi
    obtain rfl : e = e' := by rw [h1] at h1'; exact Option.some.inj h1'
    have hz : f o s = e.v := by rw [← hf]; unfold valAt; rw [h4]; rfl
    have hm' : MapL (Put w b (.map (l.map En.mk').toArray clock)) b l clock := ⟨heap_set _ hm.lt, hm.born, hm.sep⟩
    refine ⟨.map (l.map En.mk').toArray clock, e.b, ?_, l, clock, j, e, hm', hf, hi, h1, rfl⟩
    unfold idx at hi
    have hk : ((((l.map En.mk').toArray[j]?).map (·.key)).getD (idV o s)) = idV o s := by
      rw [List.getElem?_toArray, List.getElem?_map, h1]; exact h2
    have hb : ((((l.map En.mk').toArray[j]?).map (fun x => (x.born : Int))).getD 0) = (e.b : Int) := by
      rw [List.getElem?_toArray, List.getElem?_map, h1]; rfl
    simp only [hi, Option.map_some, hk, hb, Sem.run_bind, stays_run, Result.andThen_ok]
    rw [MapKept.run_setObj_map _ hm.heap, ← h2, map_key_same l j e h1]
    simp only [Result.andThen_ok, Sem.run_pure, h1, Option.map_some, Option.getD_some, hz]
    rfl
theorem findStamp {l : List En} (h : l.Pairwise fun x y => x.b ≠ y.b) : ∀ {j : Nat} {e : En}, l[j]? = some e → (l.map En.mk').findIdx? (fun x => (x.born : Int) == (e.b : Int)) = some j := by
  induction l with
  | nil => intro j e h; simp at h
  | cons x l ih =>
    intro j e hj
    rw [List.pairwise_cons] at h
    rw [List.map_cons, List.findIdx?_cons]
    cases j with
    | zero =>
      obtain rfl : x = e := by simpa using hj
      simp [En.mk']
    | succ j =>
      have hj' : l[j]? = some e := by simpa using hj
      have hne := h.1 e (List.mem_of_getElem? hj')
      have hn : (((En.mk' x).born : Int) == (e.b : Int)) = false := by
        rw [beq_eq_false_iff_ne]
        exact fun hc => hne (Int.ofNat.inj hc)
      rw [hn, ih h.2 hj']
      rfl
theorem entryStore_run {w : World} {b : Nat} {f : Int → Int → Int} {o s : Int} {st : Nat} (h : MapAt w b f o s st) (v : Int) :
    ∃ x, (Instr.entryStore 28 (.map (some b)) (goInt (st : Nat)) (.int .i64 v)).run Try.prog w = .ok () (Put w b x) ∧ MapF (Put w b x) b (upd f o s v) := by
  obtain ⟨l, clock, j, e, hm, hf, hi, h1, rfl⟩ := h
  refine ⟨.map ((setAt l j v).map En.mk').toArray clock, ?_, setAt l j v, clock, hm.setAt j v, fun o' s' => by rw [valAt_setAt v o' s' hi, hf]; rfl⟩
  have hs : ((l.map En.mk').toArray.findIdx? fun x => (x.born : Int) == (e.b : Int)) = some j := by
    rw [List.findIdx?_toArray]; exact findStamp hm.sep h1
  unfold Instr.entryStore
  simp only [Sem.run_bind, Result.andThen_ok, MapKept.run_getObj_map hm.heap, asInt, asIntOf, goInt, Sem.run_pure, hs]
  rw [MapKept.run_setObj_map _ hm.heap, map_modify_mk]
  rfl
theorem lookupF {w : World} {b : Nat} {f : Int → Int → Int} (h : MapF w b f) (o s : Int) : (Instr.lookup 28 (.map (some b)) (idV o s) false).run Try.prog w = .ok (.int .i64 (f o s)) w := by
  obtain ⟨l, clock, hm, hf⟩ := h
  rw [lookup_run hm, hf]
theorem lookupNil (o s : Int) (w : World) : (Instr.lookup 28 (.map none) (idV o s) false).run Try.prog w = .ok (.int .i64 0) w := by
  unfold Instr.lookup
  simp only [Sem.run_bind, run_underlying Try.underlying28, Result.andThen_ok, checkKey_run, Sem.run_pure]
  kernel_rfl
end Go.Proofs.Ytncbgcfjjlhgpaa
