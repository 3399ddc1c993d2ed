/-
  The closure that Drop hands to the library, and the library's IndexFunc at it. Conditions: the memory is as it says.
-/
import Derived.Test.YtncbgcfjjlhgpaaLists
import Derived.Shelf.Abstract
namespace Go.Proofs.Ytncbgcfjjlhgpaa
open Go.RowKit

theorem SetR.but {B S : Nat} {F : Nat → Prop} {w w' : World} {f : Int → Int → Int} (h : SetR B w S f) (hb : But F w w') (hn : ∀ k, B ≤ k → ¬ F k) : SetR B w' S f := by
  have hl := h.lt
  obtain ⟨h0, mo, h1, h2⟩ := h
  refine ⟨h0, mo, (hb.heap _ hl (hn _ h0)).trans h1, ?_⟩
  rcases h2 with h2 | ⟨b, e, hbb, hne, hm⟩
  · exact .inl h2
  · exact .inr ⟨b, e, hbb, hne, hm.kept (hb.heap _ hm.lt (hn _ hbb))⟩
/-- What the closure reads: the boxes of the set and of the row, the row, the set; and the map that it writes. -/
structure Cl (B1 G X S R mb : Nat) (most : Int) (v : Value) (ids : List (Int × Int)) (f : Int → Int → Int) (w : World) : Prop where
  g : w.heap[G]? = some (.cells #[.pointer (some ⟨S, 0, none⟩)] 62)
  x : w.heap[X]? = some (.cells #[.pointer (some ⟨R, 0, none⟩)] 26)
  r : w.heap[R]? = some (.cells #[.int .i64 most, v, .map (some mb)] 30)
  s : SetR B1 w S (cnt ids)
  m : MapF w mb f
  gB : B1 ≤ G
  xB : B1 ≤ X
  mbB : mb < B1
  rB : R < B1
  apart : R ≠ mb
theorem Cl.but {B1 G X S R mb : Nat} {most : Int} {v : Value} {ids : List (Int × Int)} {f f' : Int → Int → Int} {w w' : World} {F : Nat → Prop} (h : Cl B1 G X S R mb most v ids f w) (hb : But F w w') (hn : ∀ k, B1 ≤ k → ¬ F k) (hR : ¬ F R) (hm : MapF w' mb f') : Cl B1 G X S R mb most v ids f' w' :=
  ⟨(hb.heap _ (Array.getElem?_eq_some_iff.1 h.g).1 (hn _ h.gB)).trans h.g, (hb.heap _ (Array.getElem?_eq_some_iff.1 h.x).1 (hn _ h.xB)).trans h.x, (hb.heap _ (Array.getElem?_eq_some_iff.1 h.r).1 hR).trans h.r, h.s.but hb hn, hm, h.gB, h.xB, h.mbB, h.rB, h.apart⟩
theorem Cl.mapped {B1 G X S R mb : Nat} {most : Int} {v : Value} {ids : List (Int × Int)} {f f' : Int → Int → Int} {w w' : World} (h : Cl B1 G X S R mb most v ids f w) (hb : But (fun k => k = mb) w w') (hm : MapF w' mb f') : Cl B1 G X S R mb most v ids f' w' :=
  h.but hb (fun k hk e => by have := h.mbB; omega) h.apart hm
/-- The map behind a name that was asked. -/
def after (ids : List (Int × Int)) (f : Int → Int → Int) (o s : Int) : Int → Int → Int := if mem ids o s = true then upd f o s 0 else f
def CloPost (mb : Nat) (ids : List (Int × Int)) (f : Int → Int → Int) (o s : Int) (W : World) (e : Ending) (w' : World) : Prop :=
  e = .returned (.bool (mem ids o s)) ∧ MapF w' mb (after ids f o s) ∧ But (fun k => k = mb) W w'
theorem clo_walk {B1 G X S R mb : Nat} {most : Int} {v : Value} {ids : List (Int × Int)} {f : Int → Int → Int} {w : World} (h : Cl B1 G X S R mb most v ids f w) (o s : Int) (g st : Value) :
    Calls Try.prog 27 #[.agg #[.int .i64 o, .int .i64 s, g, st], .pointer (some ⟨G, 0, none⟩), .pointer (some ⟨X, 0, none⟩)] w (CloPost mb ids f o s w) := by
  have fa := (Fr.refl w).alloc (.cells #[.int .i64 o, .int .i64 s, g, st] 40)
  have ba := heap_alloc_new w (.cells #[.int .i64 o, .int .i64 s, g, st] 40)
  have h1 := h.mapped (But.of_fr fa) (h.m.kept (fa.heap h.m.lt))
  have hhas := shas_walk o s h1.s
  rw [cnt_pos] at hhas
  have c0 : (w.alloc (.cells #[.int .i64 o, .int .i64 s, g, st] 40)).cell? ⟨G, 0, none⟩ = some (.pointer (some ⟨S, 0, none⟩)) := cell_at h1.g 0
  have c1 : (w.alloc (.cells #[.int .i64 o, .int .i64 s, g, st] 40)).cell? ⟨w.heap.size, 0, none⟩ = some (.int .i64 o) := cell_at ba 0
  have c2 : (w.alloc (.cells #[.int .i64 o, .int .i64 s, g, st] 40)).cell? ⟨w.heap.size, 1, none⟩ = some (.int .i64 s) := cell_at ba 1
  have hN : w.heap.size < (w.alloc (.cells #[.int .i64 o, .int .i64 s, g, st] 40)).heap.size := by simp
  go_enter Try.func27, Try.ntmps27
  go_wp2_with fail
  refine hhas.mono ?_
  rintro e w2 ⟨rfl, f2⟩
  have h2 := h1.mapped (But.of_fr f2) (h1.m.kept (f2.heap h1.m.lt))
  have b2 := (f2.heap hN).trans ba
  have f3 := fa.trans f2
  clear h h1 hhas c0 c1 c2 ba fa f2 hN
  cases hme : mem ids o s with
  | false =>
    go_wp2_with fail
    go_ret
    exact ⟨by rw [hme]; rfl, by unfold after; rw [if_neg (by rw [hme]; decide)]; exact h2.m, But.of_fr f3⟩
  | true =>
    have d0 : w2.cell? ⟨X, 0, none⟩ = some (.pointer (some ⟨R, 0, none⟩)) := cell_at h2.x 0
    have d1 : w2.cell? ⟨R, 2, none⟩ = some (.map (some mb)) := cell_at h2.r 2
    have d2 : w2.cell? ⟨w.heap.size, 0, none⟩ = some (.int .i64 o) := cell_at b2 0
    have d3 : w2.cell? ⟨w.heap.size, 1, none⟩ = some (.int .i64 s) := cell_at b2 1
    have f4 : Fr w2 w2.drew := (Fr.refl w2).drewN 1
    have hm3 := h2.m.kept (f4.heap h2.m.lt)
    obtain ⟨Y, hY, hm4⟩ := mapUpdate_run hm3 o s 0
    unfold idV at hY
    clear h2 b2 hm3
    have HM := Go.Lib.hid hme
    clear hme
    go_wp2_with fail
    go_still_tail 6, (by kernel_rfl)
    change wpList _ _ _ _ _ w2.drew
    have u := (But.of_fr (F := fun k => k = mb) (f3.trans f4)).trans (But.put w2.drew mb Y)
    generalize w2.drew = w3 at *
    go_wp2
    go_ret
    exact ⟨by rw [HM.out]; rfl, by unfold after; rw [if_pos HM.out]; exact hm4, u⟩
/-! ### IndexFunc -/
theorem enters27 : Enters Try.prog 27 := enters_of Try.func27 (by kernel_rfl) rfl
/-- No entry's name is told. -/
def none_ (ids : List (Int × Int)) (es : List Et) : Prop := ∀ e ∈ es, mem ids e.c.o e.c.s = false
def IdxPost (mb : Nat) (ids : List (Int × Int)) (f : Int → Int → Int) (es : List Et) (W : World) (e : Ending) (w' : World) : Prop :=
  But (fun k => k = mb) W w' ∧ ((e = .returned (.int .i64 (-1)) ∧ none_ ids es ∧ MapF w' mb f) ∨
    ∃ (j : Nat) (x : Et), es[j]? = some x ∧ e = .returned (.int .i64 j) ∧ none_ ids (es.take j) ∧ mem ids x.c.o x.c.s = true ∧ MapF w' mb (upd f x.c.o x.c.s 0))
theorem none_step {ids : List (Int × Int)} {es : List Et} {k : Nat} {e : Et} (h : none_ ids (es.take k)) (hk : es[k]? = some e) (he : mem ids e.c.o e.c.s = false) : none_ ids (es.take (k + 1)) := by
  intro x hx
  rw [List.take_add_one, hk] at hx
  rcases List.mem_append.1 hx with hx | hx
  · exact h x hx
  · simp at hx; rw [hx]; exact he
theorem idx_walk {B1 G X S R mb : Nat} {most : Int} {v : Value} {ids : List (Int × Int)} {f : Int → Int → Int} {w : World} (h : Cl B1 G X S R mb most v ids f w) {a : Option Addr} {n c : Nat} {es : List Et} (hs : Sl w (.slice a n c) n 4 (etL es)) (hn : n ≤ 1000) (hl : es.length = n)
    (hoff : (Value.slice a n c).ownBlock ≠ some mb) :
    Calls Try.prog 29 #[.slice a n c, .func (.func 27) #[] #[.pointer (some ⟨G, 0, none⟩), .pointer (some ⟨X, 0, none⟩)]] w (IdxPost mb ids f es w) := by
  have eg := enters27
  unfold Enters at eg
  go_enter Try.func29, Try.ntmps29
  go_wp2_with fail
  go_loopw [8] (fun i wk => ∃ (k : Nat), k ≤ n ∧ i = .int .i64 k ∧ none_ ids (es.take k) ∧ Cl B1 G X S R mb most v ids f wk ∧ But (fun k => k = mb) w wk) (fun i _ => n - (intOf i).toNat)
  case atStart => exact ⟨0, Nat.zero_le _, rfl, (by intro e he; simp at he), h, But.refl _ _⟩
  case round =>
    obtain ⟨k, hk, rfl, hno, hc, hb⟩ := hrel
    by_cases hlt : k < n
    · obtain ⟨e, he⟩ : ∃ e, es[k]? = some e := ⟨_, List.getElem?_eq_getElem (by omega)⟩
      obtain ⟨b, o, rfl, hbl, hcs⟩ : ∃ b o, a = some ⟨b, o, none⟩ ∧ b < w.heap.size ∧ ∀ j u, (etL es)[j]? = some u → w.cell? ⟨b, o + j, none⟩ = some u := by
        obtain ⟨a', c', e, _, _, h | h⟩ := hs
        · omega
        · cases e; exact h
      have hbm : b ≠ mb := fun e => hoff (by rw [← e]; rfl)
      have cc : ∀ j, j < 4 → wr.cell? ⟨b, o + (k * 4 + j), none⟩ = (etV e)[j]? := fun j hj => by
        rw [World.cell?_of_block (hb.heap b hbl hbm)]
        have h1 : (etL es)[k * 4 + j]? = (etV e)[j]? := by rw [etL_at es k j hj, he]; rfl
        have h2 : j < (etV e).length := hj
        rw [List.getElem?_eq_getElem h2] at h1 ⊢
        exact hcs _ _ h1
      have c0 := cc 0 (by decide)
      have c1 := cc 1 (by decide)
      have c2 := cc 2 (by decide)
      have c3 := cc 3 (by decide)
      clear cc hcs
      obtain ⟨⟨eo, es', gs, ss⟩, g, st⟩ := e
      dsimp only [etV] at c0 c1 c2 c3
      simp only [List.getElem?_cons_zero, List.getElem?_cons_succ, Nat.add_zero, ← Nat.add_assoc] at c0 c1 c2 c3
      have hcl := clo_walk hc eo es' g st
      have HH := Go.Lib.hid (And.intro hno he)
      clear hno he hs hoff h
      cases hme : mem ids eo es' with
      | true =>
        have HM := Go.Lib.hid hme
        clear hme
        go_wp2_with (go_at_fn 27; refine hcl.mono ?_; rintro e w4 ⟨rfl, hm4, hb4⟩; (try rw [HM.out]))
        go_ret
        refine ⟨hb.trans hb4, .inr ⟨k, _, HH.out.2, rfl, HH.out.1, HM.out, ?_⟩⟩
        unfold after at hm4
        rw [if_pos HM.out] at hm4
        exact hm4
      | false =>
        have HM := Go.Lib.hid hme
        clear hme
        go_wp2_with (go_at_fn 27; refine hcl.mono ?_; rintro e w4 ⟨rfl, hm4, hb4⟩; (try rw [HM.out]))
        unfold after at hm4
        rw [if_neg (by rw [HM.out]; decide)] at hm4
        go_roundw
        case rel => exact ⟨k + 1, by omega, by go_num, none_step HH.out.1 HH.out.2 HM.out, hc.mapped hb4 hm4, hb.trans hb4⟩
        case measure => simp [intOf]; omega
    · obtain rfl : n = k := by omega
      have ht : es.take n = es := List.take_of_length_le (by omega)
      rw [ht] at hno
      have HH := Go.Lib.hid (And.intro hno hl)
      clear hno hs hoff h hl ht
      go_wp2_with fail
      go_ret
      exact ⟨hb, .inl ⟨rfl, HH.out.1, hc.m⟩⟩
end Go.Proofs.Ytncbgcfjjlhgpaa
