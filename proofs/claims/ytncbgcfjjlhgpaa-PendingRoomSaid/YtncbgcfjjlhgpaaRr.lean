/-
  The row and its footprint: what each of its methods does to what it says. Conditions: the row is as it says.
-/
import Derived.Test.YtncbgcfjjlhgpaaDrop
import Derived.Test.YtncbgcfjjlhgpaaWo
namespace Go.Proofs.Ytncbgcfjjlhgpaa
open Go.RowKit

/-- All blocks of a row: those that it writes to, and its entries' own lists. -/
def Fo (R mb : Nat) (v : Value) (es : List Et) (k : Nat) : Prop := Of R mb v k ∨ ∃ e ∈ es, e.g.ownBlock = some k ∨ e.st.ownBlock = some k
/-- A row that says this. -/
def Rr (B : Nat) (F : Nat → Prop) (R : Nat) (most : Int) (cs : List Cn) (w : World) : Prop :=
  ∃ mb v es, es.map Et.c = cs ∧ Rw B R mb v most es w ∧ F = Fo R mb v es ∧ (∀ e ∈ es, e.from B) ∧ 0 ≤ most ∧ most ≤ 32 ∧ cs.length ≤ 32 ∧ Fits cs
theorem Rr.lt {B R : Nat} {F : Nat → Prop} {most : Int} {cs : List Cn} {w : World} (h : Rr B F R most cs w) : ∀ k, F k → B ≤ k ∧ k < w.heap.size := by
  obtain ⟨mb, v, es, rfl, h, rfl, hfr, _⟩ := h
  intro k hk
  rcases hk with (rfl | rfl | hk) | ⟨e, he, hk | hk⟩
  · exact ⟨h.R, h.ltR⟩
  · exact ⟨h.mb, h.map.lt⟩
  · exact h.row.lt k hk
  · exact ⟨(hfr e he).1 k hk, (h.lt e he).1 k hk⟩
  · exact ⟨(hfr e he).2 k hk, (h.lt e he).2 k hk⟩
theorem Rr.le {B R : Nat} {F : Nat → Prop} {most : Int} {cs : List Cn} {w : World} (h : Rr B F R most cs w) : B ≤ w.heap.size := by
  obtain ⟨mb, v, es, rfl, h, rfl, _⟩ := h
  have := h.R; have := h.ltR; omega
theorem Rr.fr {B R : Nat} {F : Nat → Prop} {most : Int} {cs : List Cn} {w w' : World} (h : Rr B F R most cs w) (hf : Fr w w') : Rr B F R most cs w' := by
  obtain ⟨mb, v, es, h1, h, h2⟩ := h
  exact ⟨mb, v, es, h1, h.fr hf, h2⟩
/-- Stores elsewhere. -/
theorem Rr.but {B R : Nat} {F G : Nat → Prop} {most : Int} {cs : List Cn} {w w' : World} (h : Rr B F R most cs w) (hb : But G w w') (hn : ∀ k, F k → ¬ G k) : Rr B F R most cs w' := by
  obtain ⟨mb, v, es, h1, h, rfl, h2⟩ := h
  have key : ∀ k, Fo R mb v es k → k < w.heap.size → w'.heap[k]? = w.heap[k]? := fun k hk hl => hb.heap k hl (hn k hk)
  refine ⟨mb, v, es, h1, ⟨?_, ?_, ?_, ?_, h.off, fun e he => (h.lt e he).mono hb.size, h.R, h.mb⟩, rfl, h2⟩
  · exact (key R (.inl (.inl rfl)) h.ltR).trans h.cells
  · exact h.map.kept (key mb (.inl (.inr (.inl rfl))) h.map.lt)
  · rcases h.row.2 with ⟨hv, h0⟩ | ⟨g, cap, cur, hv, hg, hh, r⟩
    · exact ⟨h.row.1, .inl ⟨hv, h0⟩⟩
    · exact ⟨h.row.1, .inr ⟨g, cap, cur, hv, hg, (key g (.inl (.inr (.inr (by rw [hv]; rfl)))) (Array.getElem?_eq_some_iff.1 hh).1).trans hh, r⟩⟩
  · intro e he
    exact ⟨(h.ok e he).g.kept (fun k hk hl => key k (.inr ⟨e, he, .inl hk⟩) hl) hb.size, (h.ok e he).st.kept (fun k hk hl => key k (.inr ⟨e, he, .inr hk⟩) hl) hb.size⟩
theorem But.mono {F G : Nat → Prop} {w w' : World} (h : But F w w') (hs : ∀ k, F k → G k) : But G w w' := h.mix (But.refl (fun _ => False) _) (fun _ _ h => hs _ h) (fun _ _ h => h.elim)
theorem Rr.below {B R : Nat} {F : Nat → Prop} {most : Int} {cs : List Cn} {w w' : World} (h : Rr B F R most cs w) (hb : But F w w') : Below B w w' := hb.below h.le fun k hk hF => by have := (h.lt k hF).1; omega
def NewR (W : World) (m : Int) (e : Ending) (w' : World) : Prop := ∃ R F, e = .returned (.pointer (some ⟨R, 0, none⟩)) ∧ Rr W.heap.size F R (most' m) [] w' ∧ Fr W w'
theorem new_rr (m : Int) (w : World) : Calls Try.prog 8 #[.int .i64 m] w (NewR w m) :=
  (new_walk m w).mono fun _ _ ⟨R, mb, h1, h2, h3⟩ => ⟨R, _, h1, ⟨mb, _, [], rfl, h2, rfl, (fun _ h => (by cases h)), by unfold most'; omega, by unfold most'; omega, Nat.zero_le _, (fun _ h => (by cases h))⟩, h3⟩
/-- Does an entry come in? -/
def adds (most : Int) (cs : List Cn) (c : Cn) : Bool := decide (1 ≤ most - cs.length) && !has cs c.o c.s
def addC (most : Int) (cs : List Cn) (c : Cn) : List Cn := if adds most cs c = true then cs ++ [c] else cs
def AddR (B : Nat) (F : Nat → Prop) (R : Nat) (most : Int) (cs : List Cn) (c : Cn) (W : World) (e : Ending) (w' : World) : Prop :=
  e = .returned (.bool (adds most cs c)) ∧ ∃ F', Rr B F' R most (addC most cs c) w' ∧ (∀ k, F' k → F k ∨ W.heap.size ≤ k) ∧ But F W w'
theorem add_rr {B R : Nat} {F : Nat → Prop} {most : Int} {cs : List Cn} {w : World} (h : Rr B F R most cs w) (x : Et) (hx : EtOk w x) (g1 : x.c.gs.length ≤ 1000000) (g2 : x.c.ss.length ≤ 1000000) :
    Calls Try.prog 10 #[.pointer (some ⟨R, 0, none⟩), .agg #[.int .i64 x.c.o, .int .i64 x.c.s, x.g, x.st]] w (AddR B F R most cs x.c w) := by
  have hB := h.le
  obtain ⟨mb, v, es, hcs, h, rfl, hfr, h0, h1, hl, hft⟩ := h
  have hlen : es.length = cs.length := by rw [← hcs, List.length_map]
  by_cases hc : adds most cs x.c = true
  · have hc' := hc
    unfold adds at hc'
    simp only [Bool.and_eq_true, decide_eq_true_eq, Bool.not_eq_true'] at hc'
    refine (add_yes x h hx g1 g2 h0 h1 (by omega) (by omega) (by rw [hcs]; exact hc'.2)).mono ?_
    rintro e w' ⟨rfl, v', y, hy, hyf, hr, ho, hb⟩
    refine ⟨by rw [hc], _, ⟨mb, v', es ++ [y], ?_, hr, rfl, ?_, h0, h1, ?_, ?_⟩, ?_, hb.mono (fun _ h => .inl h)⟩
    · unfold addC; rw [if_pos hc, List.map_append, hcs, List.map_singleton, hy]
    · intro e he
      rcases List.mem_append.1 he with he | he
      · exact hfr e he
      · rw [List.mem_singleton.1 he]
        exact ⟨fun k hk => Nat.le_trans hB (hyf.1 k hk), fun k hk => Nat.le_trans hB (hyf.2 k hk)⟩
    · unfold addC; rw [if_pos hc]; simp; omega
    · unfold addC; rw [if_pos hc]
      intro c hcm
      rcases List.mem_append.1 hcm with hcm | hcm
      · exact hft c hcm
      · rw [List.mem_singleton.1 hcm]; exact ⟨g1, g2⟩
    · intro k hk
      rcases hk with (hk | hk | hk) | ⟨e, he, hk⟩
      · exact .inl (.inl (.inl hk))
      · exact .inl (.inl (.inr (.inl hk)))
      · rcases ho with ho | ⟨k', ho, hk'⟩
        · exact .inl (.inl (.inr (.inr (by rw [← ho]; exact hk))))
        · rw [ho] at hk; cases hk; exact .inr hk'
      · rcases List.mem_append.1 he with he | he
        · exact .inl (.inr ⟨e, he, hk⟩)
        · rw [List.mem_singleton.1 he] at hk
          exact .inr (hk.elim (hyf.1 k) (hyf.2 k))
  · have hno : most - es.length < 1 ∨ has (es.map Et.c) x.c.o x.c.s = true := by
      unfold adds at hc
      rw [hcs, hlen]
      cases hh : has cs x.c.o x.c.s with
      | true => exact .inr rfl
      | false =>
        rw [hh] at hc
        simp only [Bool.not_false, Bool.and_true, decide_eq_true_eq] at hc
        exact .inl (by omega)
    refine (add_no x h h0 h1 (by omega) hno).mono ?_
    rintro e w' ⟨rfl, hf⟩
    have he : adds most cs x.c = false := by simpa using hc
    refine ⟨by rw [he], _, ⟨mb, v, es, ?_, h.fr hf, rfl, hfr, h0, h1, ?_, ?_⟩, fun _ h => .inl h, But.of_fr hf⟩
    · unfold addC; rw [if_neg hc]; exact hcs
    · unfold addC; rw [if_neg hc]; exact hl
    · unfold addC; rw [if_neg hc]; exact hft
def DropR (B : Nat) (F : Nat → Prop) (R : Nat) (most : Int) (cs : List Cn) (ids : List (Int × Int)) (W : World) (e : Ending) (w' : World) : Prop :=
  e = .returned (.int .i64 (cs.length - (left ids cs).length)) ∧ ∃ F', Rr B F' R most (left ids cs) w' ∧ (∀ k, F' k → F k) ∧ But F W w'
theorem drop_rr {B R : Nat} {F : Nat → Prop} {most : Int} {cs : List Cn} {w : World} (h : Rr B F R most cs w) {m c : Nat} {ia : Option Addr} (ids : List (Int × Int)) (hi : Sl w (.slice ia m c) m 2 (idL ids)) (hm : m ≤ 1000000) :
    Calls Try.prog 14 #[.pointer (some ⟨R, 0, none⟩), .slice ia m c] w (DropR B F R most cs ids w) := by
  obtain ⟨mb, v, es, hcs, h, rfl, hfr, h0, h1, hl, hft⟩ := h
  have hlen : es.length = cs.length := by rw [← hcs, List.length_map]
  have hsl : (stay ids es).length = (left ids cs).length := by rw [← hcs, ← stay_map, List.length_map]
  refine (drop_walk h (by omega) ids hi hm).mono ?_
  rintro e w' ⟨rfl, v', hr, ho, hb⟩
  have hsub : ∀ e ∈ stay ids es, e ∈ es := fun e he => (List.mem_filter.1 he).1
  refine ⟨by rw [hlen, hsl], _, ⟨mb, v', stay ids es, by rw [stay_map, hcs], hr, rfl, fun e he => hfr e (hsub e he), h0, h1, ?_, ?_⟩, ?_, hb.mono fun _ h => .inl h⟩
  · have := left_le ids cs; omega
  · intro c hc; exact hft c (List.mem_filter.1 hc).1
  · intro k hk
    rcases hk with (hk | hk | hk) | ⟨e, he, hk⟩
    · exact .inl (.inl hk)
    · exact .inl (.inr (.inl hk))
    · exact .inl (.inr (.inr (by rw [← ho]; exact hk)))
    · exact .inr ⟨e, hsub e he, hk⟩
theorem wo_rr {B R : Nat} {F : Nat → Prop} {most : Int} {cs : List Cn} {w : World} (h : Rr B F R most cs w) {m c : Nat} {ia : Option Addr} (ids : List (Int × Int)) (hi : Sl w (.slice ia m c) m 2 (idL ids)) (hm : m ≤ 1000000) :
    Calls Try.prog 13 #[.pointer (some ⟨R, 0, none⟩), .slice ia m c] w (WoPost w.heap.size cs ids w) := by
  obtain ⟨mb, v, es, rfl, h, rfl, hfr, h0, h1, hl, hft⟩ := h
  exact without_walk h (by rw [List.length_map] at hl; omega) hft ids hi hm
theorem all_rr {B R : Nat} {F : Nat → Prop} {most : Int} {cs : List Cn} {w : World} (h : Rr B F R most cs w) : Calls Try.prog 21 #[.pointer (some ⟨R, 0, none⟩)] w (WoPost w.heap.size cs [] w) := by
  obtain ⟨mb, v, es, rfl, h, rfl, hfr, h0, h1, hl, hft⟩ := h
  exact all_walk h (by rw [List.length_map] at hl; omega) hft
theorem len_rr {B R : Nat} {F : Nat → Prop} {most : Int} {cs : List Cn} {w : World} (h : Rr B F R most cs w) : Calls Try.prog 15 #[.pointer (some ⟨R, 0, none⟩)] w fun e w' => e = .returned (.int .i64 cs.length) ∧ Fr w w' := by
  obtain ⟨mb, v, es, rfl, h, rfl, hfr, h0, h1, hl, hft⟩ := h
  rw [List.length_map]
  exact (len_walk h).mono fun _ _ ⟨h1, h2⟩ => ⟨h1, h2 ▸ Fr.refl _⟩
theorem room_rr {B R : Nat} {F : Nat → Prop} {most : Int} {cs : List Cn} {w : World} (h : Rr B F R most cs w) : Calls Try.prog 16 #[.pointer (some ⟨R, 0, none⟩)] w fun e w' => e = .returned (.int .i64 (most - cs.length)) ∧ Fr w w' := by
  obtain ⟨mb, v, es, rfl, h, rfl, hfr, h0, h1, hl, hft⟩ := h
  rw [List.length_map] at hl ⊢
  exact room_walk h h0 h1 (by omega)
theorem has_rr {B R : Nat} {F : Nat → Prop} {most : Int} {cs : List Cn} {w : World} (h : Rr B F R most cs w) (o s : Int) : Calls Try.prog 18 #[.pointer (some ⟨R, 0, none⟩), .agg #[.int .i64 o, .int .i64 s]] w fun e w' => e = .returned (.bool (has cs o s)) ∧ Fr w w' := by
  obtain ⟨mb, v, es, rfl, h, rfl, hfr, h0, h1, hl, hft⟩ := h
  exact has_walk h o s
/-- Add where there is no room. -/
theorem add_full {p : Option Addr} {m : Int} {w : World} (o s : Int) (g st : Value) (hr : ∀ w', Fr w w' → Calls Try.prog 16 #[.pointer p] w' fun e w'' => e = .returned (.int .i64 m) ∧ Fr w' w'') (hm : m < 1) :
    Calls Try.prog 10 #[.pointer p, .agg #[.int .i64 o, .int .i64 s, g, st]] w fun e w' => e = .returned (.bool false) ∧ Fr w w' := by
  have f1 := (Fr.refl w).alloc (.cells #[.int .i64 o, .int .i64 s, g, st] 40)
  have hroom := hr _ f1
  go_enter Try.func10, Try.ntmps10
  go_wp2_with fail
  refine hroom.mono ?_
  rintro e w2 ⟨rfl, f2⟩
  go_wp2_with fail
  go_ret
  exact ⟨rfl, f1.trans f2⟩
theorem add_nil (o s : Int) (g st : Value) (w : World) : Calls Try.prog 10 #[.pointer none, .agg #[.int .i64 o, .int .i64 s, g, st]] w fun e w' => e = .returned (.bool false) ∧ Fr w w' :=
  add_full o s g st (fun w' _ => (room_nil w').mono fun _ _ ⟨h1, h2⟩ => ⟨h1, h2 ▸ Fr.refl _⟩) (by decide)
end Go.Proofs.Ytncbgcfjjlhgpaa
