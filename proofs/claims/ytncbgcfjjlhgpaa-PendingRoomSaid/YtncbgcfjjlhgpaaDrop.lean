/-
  The walk of the row's Drop. Conditions: the row and the names are as they say.
-/
import Derived.Test.YtncbgcfjjlhgpaaDel
import Derived.Test.YtncbgcfjjlhgpaaAdd
namespace Go.Proofs.Ytncbgcfjjlhgpaa
open Go.RowKit

theorem SetR.mono {B B' S : Nat} {w : World} {f : Int → Int → Int} (h : SetR B w S f) (hB : B' ≤ B) : SetR B' w S f := by
  obtain ⟨h0, mo, h1, h2⟩ := h
  refine ⟨Nat.le_trans hB h0, mo, h1, ?_⟩
  rcases h2 with h2 | ⟨b, e, hb, hn, hm⟩
  · exact .inl h2
  · exact .inr ⟨b, e, Nat.le_trans hB hb, hn, hm⟩
theorem drop_nil {m c : Nat} {ia : Option Addr} (w : World) : Calls Try.prog 14 #[.pointer none, .slice ia m c] w fun e w' => e = .returned (.int .i64 0) ∧ Fr w w' := by
  have f1 := (Fr.refl w).alloc (.cells #[.pointer none] 26)
  go_enter Try.func14, Try.ntmps14
  go_wp2_with fail
  go_ret
  exact ⟨rfl, f1⟩
def DropPost (B R mb : Nat) (v : Value) (most : Int) (ids : List (Int × Int)) (es : List Et) (W : World) (e : Ending) (w' : World) : Prop :=
  e = .returned (.int .i64 (es.length - (stay ids es).length)) ∧ ∃ v', Rw B R mb v' most (stay ids es) w' ∧ v'.ownBlock = v.ownBlock ∧ But (Of R mb v) W w'
theorem Rw.formed {B R mb : Nat} {v : Value} {most : Int} {es : List Et} {w : World} (h : Rw B R mb v most es w) : Formed es := by
  intro e he
  obtain ⟨a, c, e1, _, _⟩ := (h.ok e he).g.form
  obtain ⟨a', c', e2, _, _⟩ := (h.ok e he).st.form
  exact ⟨⟨_, _, _, e1⟩, ⟨_, _, _, e2⟩⟩
theorem dropped {B R mb : Nat} {v v' : Value} {most : Int} {es : List Et} {ids : List (Int × Int)} {w w4 : World} (h : Rw B R mb v most es w) (hrow : w4.ownsRow B 40 4 v' (stay ids es).length (etL (stay ids es))) (hm : MapF w4 mb (dropF ids es (inOf (es.map Et.c)))) (hb : But (fun k => k = mb ∨ v.ownBlock = some k) w w4) (ho : v'.ownBlock = v.ownBlock) :
    Rw B R mb v' most (stay ids es) (w4.setCell ⟨R, 1, none⟩ v') ∧ But (Of R mb v) w (w4.setCell ⟨R, 1, none⟩ v') := by
  have hR : ¬ (R = mb ∨ v.ownBlock = some R) := fun e => e.elim h.apart h.ne.1
  have hR4 := (hb.heap R h.ltR hR).trans h.cells
  have u := But.set w4 ⟨R, 1, none⟩ v'
  have hb5 : But (Of R mb v) w (w4.setCell ⟨R, 1, none⟩ v') := hb.mix u (fun _ _ h => h.elim (fun h => .inr (.inl h)) (fun h => .inr (.inr h))) (fun _ _ h => .inl h)
  have hsub : ∀ e ∈ stay ids es, e ∈ es := fun e he => (List.mem_filter.1 he).1
  have hof : ∀ k, Of R mb v' k = Of R mb v k := fun k => by unfold Of; rw [ho]
  refine ⟨⟨set_block hR4 1 v', ?_, ?_, ?_, ?_, fun e he => (h.lt e (hsub e he)).mono hb5.size, h.R, h.mb⟩, hb5⟩
  · rw [← drop_in]
    exact hm.kept (u.heap mb hm.lt (fun e => h.apart e.symm))
  · exact ownsRow_setCell_other hrow (by rw [ho]; exact h.ne.1) _
  · intro e he
    exact (h.ok e (hsub e he)).kept (h.off e (hsub e he)) hb5
  · intro e he
    have := h.off e (hsub e he)
    exact ⟨fun k hk hc => this.1 k hk (hof k ▸ hc), fun k hk hc => this.2 k hk (hof k ▸ hc)⟩
theorem del_facts {B1 B G X S R mb : Nat} {v : Value} {most : Int} {es : List Et} {ids : List (Int × Int)} {f : Int → Int → Int} {w w4 : World} (h : Rw B R mb v most es w) (hc : Cl B1 G X S R mb most v ids f w) (hlo : ∀ k, v.ownBlock = some k → B ≤ k ∧ k < B1) (hb : But (fun k => k = mb ∨ v.ownBlock = some k) w w4) :
    w4.cell? ⟨X, 0, none⟩ = some (.pointer (some ⟨R, 0, none⟩)) ∧ w4.cell? ⟨R, 1, none⟩ = some v ∧ w4.frozen? ⟨R, 1, none⟩ = false ∧ w4.heap[X]? = some (.cells #[.pointer (some ⟨R, 0, none⟩)] 26) := by
  have hX : w4.heap[X]? = some (.cells #[.pointer (some ⟨R, 0, none⟩)] 26) := (hb.heap _ (Array.getElem?_eq_some_iff.1 hc.x).1 (by
    rintro (h | h)
    · have := hc.mbB; have := hc.xB; omega
    · have := (hlo _ h).2; have := hc.xB; omega)).trans hc.x
  have hR := (hb.heap R h.ltR (fun e => e.elim h.apart h.ne.1)).trans h.cells
  exact ⟨cell_at hX 0, cell_at hR 1, frozen_at hR 1, hX⟩
set_option maxHeartbeats 4000000 in
theorem drop_walk {B R mb : Nat} {v : Value} {most : Int} {es : List Et} {w : World} (h : Rw B R mb v most es w) (hl : es.length ≤ 1000) {m c : Nat} {ia : Option Addr} (ids : List (Int × Int)) (hi : Sl w (.slice ia m c) m 2 (idL ids)) (hm : m ≤ 1000000) :
    Calls Try.prog 14 #[.pointer (some ⟨R, 0, none⟩), .slice ia m c] w (DropPost B R mb v most ids es w) := by
  obtain ⟨n, hn⟩ : ∃ n, es.length = n := ⟨_, rfl⟩
  obtain ⟨a, cp, hv⟩ := h.rd.form
  rw [hn] at hv hl
  subst hv
  have f1 := (Fr.refl w).alloc (.cells #[.pointer (some ⟨R, 0, none⟩)] 26)
  have b1 := heap_alloc_new w (.cells #[.pointer (some ⟨R, 0, none⟩)] 26)
  have hz1 : (w.alloc (.cells #[.pointer (some ⟨R, 0, none⟩)] 26)).heap.size = w.heap.size + 1 := by simp
  have hi1 : Sl (w.alloc (.cells #[.pointer (some ⟨R, 0, none⟩)] 26)) (.slice ia m c) m 2 (idL ids) := hi.kept (fun _ _ hl => f1.heap hl) f1.size
  have hof := of_walk ids hi1 hm
  have h1 := h.fr f1
  go_enter Try.func14, Try.ntmps14
  have c0 : (w.alloc (.cells #[.pointer (some ⟨R, 0, none⟩)] 26)).cell? ⟨w.heap.size, 0, none⟩ = some (.pointer (some ⟨R, 0, none⟩)) := cell_at b1 0
  have c1 : (w.alloc (.cells #[.pointer (some ⟨R, 0, none⟩)] 26)).cell? ⟨R, 1, none⟩ = some (.slice a n cp) := h1.at 1
  go_wp2_with fail
  refine hof.mono ?_
  rintro e w2 ⟨S, rfl, hS, f2⟩
  clear hof c0 c1 hi hi1
  have f12 := f1.trans f2
  have f23 := (Fr.refl w2).alloc (.cells #[.pointer (some ⟨S, 0, none⟩)] 62)
  have b3 := heap_alloc_new w2 (.cells #[.pointer (some ⟨S, 0, none⟩)] 62)
  have hz3 : (w2.alloc (.cells #[.pointer (some ⟨S, 0, none⟩)] 62)).heap.size = w2.heap.size + 1 := by simp
  have f3 := f12.trans f23
  have x3 := (f23.heap (by have := f2.size; omega)).trans ((f2.heap (by omega)).trans b1)
  have hz2 := f2.size
  have h3 := h.fr f3
  have hcl : Cl w.heap.size w2.heap.size w.heap.size S R mb most (.slice a n cp) ids (inOf (es.map Et.c)) (w2.alloc (.cells #[.pointer (some ⟨S, 0, none⟩)] 62)) :=
    ⟨b3, x3, h3.cells, (hS.fr f23).mono (by omega), h3.map, by omega, Nat.le_refl _, h.map.lt, h.ltR, h.apart⟩
  have hlo := h.row.lt
  clear h1 b3 x3 hS f23 b1 f1
  go_wp2_with fail
  generalize w2.alloc (.cells #[.pointer (some ⟨S, 0, none⟩)] 62) = w3 at *
  have r0 : Fr w3 w3.drew := Fr.drew (Fr.refl w3)
  have h4 := h3.fr r0
  have hc4 := hcl.mapped (But.of_fr r0) h4.map
  have e0 : w3.drew.cell? ⟨w.heap.size, 0, none⟩ = some (.pointer (some ⟨R, 0, none⟩)) := cell_at hc4.x 0
  have e1 : w3.drew.cell? ⟨R, 1, none⟩ = some (.slice a n cp) := cell_at hc4.r 1
  have hrow := h4.row
  rw [hn] at hrow
  have hdel := del_walk hc4 hrow hl hn h4.formed h4.ne.2 h4.ne.1 (fun k hk => (hlo k hk).2)
  have HH := Go.Lib.hid (And.intro h4 (And.intro hc4 (And.intro hn (And.intro (f3.trans r0) hlo))))
  clear hrow h3 h hcl hc4 h4 hn hlo f3 f12
  go_region_law (first | (go_simp; go_at_call 26; refine hdel.mono ?_; rintro e w4 ⟨a5, n5, cp5, rfl, hn5, hrow5, hm5, hb5, ho5⟩; have H5 := Go.Lib.hid (And.intro hn5 (And.intro hrow5 ho5)); clear hn5 hrow5 ho5; obtain ⟨k0, k1, k2, k3⟩ := del_facts HH.out.1 HH.out.2.1 HH.out.2.2.2.2 hb5))
  all_goals
    obtain ⟨h4, hc4, hn, f4, hlo⟩ := HH.out
    obtain ⟨hn5, hrow5, ho5⟩ := H5.out
    obtain ⟨h5, hb6⟩ := dropped h4 (hn5 ▸ hrow5) hm5 hb5 ho5
    have k4 : (w4.setCell ⟨R, 1, none⟩ (.slice a5 n5 cp5)).cell? ⟨w.heap.size, 0, none⟩ = some (.pointer (some ⟨R, 0, none⟩)) := cell_at (((But.set w4 ⟨R, 1, none⟩ _).heap _ (Array.getElem?_eq_some_iff.1 k3).1 (by have := h4.R; have := hc4.rB; show w.heap.size ≠ R; omega)).trans k3) 0
    have k5 : (w4.setCell ⟨R, 1, none⟩ (.slice a5 n5 cp5)).cell? ⟨R, 1, none⟩ = some (.slice a5 n5 cp5) := h5.at 1
    have hsl := stay_le ids es
    rw [← hn5, hn] at hsl
    generalize w4.setCell ⟨R, 1, none⟩ (.slice a5 n5 cp5) = w5 at *
    clear h4 hc4 hlo hrow5 hdel HH H5 k0 k1 k2 k3 e0 e1 hm5
    have hu : IntKind.i64.wrap ((n : Int) - n5) = (n : Int) - n5 := IntWalk.i64_in _ (by omega)
    have H6 := Go.Lib.hid (And.intro hn hn5)
    clear hn hn5
    go_wp2_with fail
    go_ret
    exact ⟨by rw [H6.out.1, ← H6.out.2]; rfl, _, h5, ho5, (But.of_fr f4).trans hb6⟩
end Go.Proofs.Ytncbgcfjjlhgpaa
