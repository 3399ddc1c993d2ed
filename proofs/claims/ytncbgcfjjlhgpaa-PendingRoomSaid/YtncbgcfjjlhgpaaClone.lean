/-
  The walk of clone: an entry whose lists are its own. Conditions: none beyond what the slices read.
-/
import Derived.Test.YtncbgcfjjlhgpaaSets2
import Derived.Deep.OwnRows
namespace Go.Proofs.Ytncbgcfjjlhgpaa
open Go.RowKit

theorem append_none35 (ty : Nat) (a : Option Addr) (c : Nat) (w : World) : (Builtin.append_ #[35, 35] ty #[.slice none 0 0, .slice a 0 c]).run Try.prog w = .ok (.slice none 0 0) w := by cases a <;> kernel_rfl
theorem append_none36 (ty : Nat) (a : Option Addr) (c : Nat) (w : World) : (Builtin.append_ #[36, 36] ty #[.slice none 0 0, .slice a 0 c]).run Try.prog w = .ok (.slice none 0 0) w := by cases a <;> kernel_rfl
theorem info57 : (Try.prog.info? 57).map (fun i => (i.zero.map fun z => z.cells.size, i.size, i.bytes)) = some (some 3, 3, 40) := by kernel_rfl
theorem info59 : (Try.prog.info? 59).map (fun i => (i.zero.map fun z => z.cells.size, i.size, i.bytes)) = some (some 5, 5, 64) := by kernel_rfl
theorem info40 : (Try.prog.info? 40).map (fun i => (i.zero.map fun z => z.cells.size, i.size, i.bytes)) = some (some 4, 4, 64) := by kernel_rfl
theorem parts {e : TypeId} {n s b : Nat} (h : (Try.prog.info? e).map (fun i => (i.zero.map fun z => z.cells.size, i.size, i.bytes)) = some (some n, s, b)) :
    ∃ i z, Try.prog.info? e = some i ∧ i.zero = some z ∧ z.cells.size = n ∧ i.size = s ∧ i.bytes = b := by
  cases hi : Try.prog.info? e with
  | none => rw [hi] at h; cases h
  | some i =>
    rw [hi] at h
    simp only [Option.map_some, Option.some.injEq, Prod.mk.injEq] at h
    obtain ⟨h1, h2, h3⟩ := h
    cases hz : i.zero with
    | none => rw [hz] at h1; cases h1
    | some z => rw [hz] at h1; exact ⟨i, z, rfl, hz, by simpa using h1, h2, h3⟩

theorem add_at (b o j : Nat) : (⟨b, o, none⟩ : Addr).add j = ⟨b, o + j, none⟩ := by
  unfold Addr.add; split <;> simp_all
/-- append onto nil: a slice of its own with the same cells. -/
theorem run_copy {w : World} (t e : TypeId) (size bytes : Nat) (ty : TypeId) (ht : Try.prog.underlying t = some (.slice e)) (hi : (Try.prog.info? e).map (fun i => (i.zero.map fun z => z.cells.size, i.size, i.bytes)) = some (some size, size, bytes)) (hsz : 0 < size)
    (h0 : ∀ a c w, (Builtin.append_ #[t, t] ty #[.slice none 0 0, .slice a 0 c]).run Try.prog w = .ok (.slice none 0 0) w)
    {a : Option Addr} {n c : Nat} {cs : List Value} (h : Sl w (.slice a n c) n size cs) (h1 : ∀ u ∈ cs, u.oneCell' = true) (hn : n ≤ maxLen) (hb : n * bytes ≤ 140737488355328) (d : Nat) :
    ∃ v' w', (Builtin.append_ #[t, t] ty #[.slice none 0 0, .slice a n d]).run Try.prog w = .ok v' w' ∧ Sl w' v' n size cs ∧ (∀ k, v'.ownBlock = some k → w.heap.size ≤ k ∧ k < w'.heap.size) ∧ Fr w w' := by
  obtain ⟨a', c', e1, hl, hc, h⟩ := h
  cases e1
  rcases h with rfl | ⟨b, o, rfl, hlt, hcs⟩
  · have : cs = [] := by simpa using hl
    subst this
    exact ⟨_, w, h0 a d w, ⟨none, 0, rfl, by simp, Nat.le_refl _, .inl rfl⟩, (by intro k hk; cases hk), Fr.refl w⟩
  · obtain ⟨i, z, hi1, hi2, hi3, hi4, hi5⟩ := parts hi
    have hown : w.ownsRow w.heap.size e size (.slice none 0 0) 0 [] := ⟨by simp, .inl ⟨rfl, rfl⟩⟩
    obtain ⟨v', w', hr, g1, g2, g3, g4⟩ := run_append_own_at w w.heap.size t ty e i z size bytes ht hi1 hi2 hi4 hi5 hi3 hsz (.slice none 0 0) 0 [] hown ⟨b, o, none⟩ n d cs hl
      (fun j u hu => by rw [add_at]; exact hcs j u hu) h1 (by omega) (by simpa using hb) (Nat.le_refl _)
    simp only [Nat.zero_add, List.nil_append] at g1
    refine ⟨v', w', hr, ?_, fun k hk => g1.lt k hk, ⟨g2.os, g2.tape, g2.output, g2.size, fun k hk => g2.block k hk (by simp [Value.ownBlock])⟩⟩
    rcases g1.2 with ⟨rfl, rfl⟩ | ⟨g, cap, cur, rfl, q1, q2, q3, q4⟩
    · exact ⟨none, 0, rfl, hl, Nat.le_refl _, .inl rfl⟩
    · refine ⟨_, cap, rfl, hl, q3, .inr ⟨g, 0, rfl, (Array.getElem?_eq_some_iff.1 q2).1, fun j u hu => ?_⟩⟩
      rw [Nat.zero_add]
      have := g1.cells (g := g) rfl j u hu
      rw [add_at, Nat.zero_add] at this
      exact this
theorem wpList_copy {ops : Array Oper} {rest : List Oper} {o : Oper} {a : Act} {Q : Exit → Act → World → Prop} {w w' : World} {X v' : Value} (hgd : o.guard = none) (s x : Operand) (t : TypeId)
    (ho : o.op = .call { callee := .builtin .append, args := #[s, x], argTypes := #[t, t] }) (hs : a.eval s = .slice none 0 0) (hx : a.eval x = X)
    (hr : (Builtin.append_ #[t, t] o.type #[.slice none 0 0, X]).run Try.prog w = .ok v' w') (h : wpList Try.prog ops Q rest (a.put o.dst v') w') : wpList Try.prog ops Q (o :: rest) a w := by
  refine wpList_plain hgd fun K hK => ?_
  unfold Oper.wp execOp
  simp only [ho, resolve, invoke, builtin, Sem.run_bind, Sem.run_pure, Result.andThen_ok, List.map_toArray, List.map_cons, List.map_nil, hs, hx, hr]
  exact hK _ _ h
/-- The slices of an entry lie in blocks from there on. -/
def Et.from (B : Nat) (e : Et) : Prop := (∀ k, e.g.ownBlock = some k → B ≤ k) ∧ (∀ k, e.st.ownBlock = some k → B ≤ k)
theorem bytes_ok {n k : Nat} (h : n ≤ 1000000) (hk : k ≤ 64) : n * k ≤ 140737488355328 := Nat.le_trans (Nat.mul_le_mul h hk) (by decide)
theorem Sl.form {w : World} {v : Value} {n z : Nat} {cs : List Value} (h : Sl w v n z cs) : ∃ a c, v = .slice a n c ∧ n ≤ c ∧ Sl w (.slice a n c) n z cs := by
  obtain ⟨a, c, rfl, h1, h2, h3⟩ := h
  exact ⟨a, c, rfl, h2, ⟨a, c, rfl, h1, h2, h3⟩⟩
theorem set_block {w : World} {b : Nat} {cs : Array Value} {t : TypeId} {fr : Nat × Nat} (h : w.heap[b]? = some (.cells cs t fr)) (j : Nat) (v : Value) : (w.setCell ⟨b, j, none⟩ v).heap[b]? = some (.cells (cs.setIfInBounds j v) t fr) := by
  obtain ⟨hl, hk⟩ := Array.getElem?_eq_some_iff.1 h
  show (w.heap.modify b _)[b]? = _
  rw [Array.getElem?_eq_getElem (by rw [Array.size_modify]; exact hl), Array.getElem_modify_self, hk]
  rfl
theorem frozen_at {w : World} {b : Nat} {cs : Array Value} {t : TypeId} (h : w.heap[b]? = some (.cells cs t)) (j : Nat) : w.frozen? ⟨b, j, none⟩ = false := by
  simp [World.frozen?, h]
theorem cell_at {w : World} {b : Nat} {cs : Array Value} {t : TypeId} (h : w.heap[b]? = some (.cells cs t)) (j : Nat) : w.cell? ⟨b, j, none⟩ = cs[j]? := cell_of_row w b j cs t _ h
def ClonePost (W : World) (c : Cn) (e : Ending) (w' : World) : Prop := ∃ x : Et, x.c = c ∧ e = .returned (.agg (etV x).toArray) ∧ EtOk w' x ∧ x.from W.heap.size ∧ x.below w'.heap.size ∧ Fr W w'
set_option maxHeartbeats 2000000 in
theorem clone_walk {w : World} (x : Et) (h : EtOk w x) (h1 : x.c.gs.length ≤ 1000000) (h2 : x.c.ss.length ≤ 1000000) : Calls Try.prog 22 #[.agg #[.int .i64 x.c.o, .int .i64 x.c.s, x.g, x.st]] w (ClonePost w x.c) := by
  obtain ⟨c, g, st⟩ := x
  obtain ⟨hg, hs⟩ := h
  dsimp only at hg hs h1 h2 ⊢
  obtain ⟨ga, gc, rfl, hgc, hg⟩ := hg.form
  obtain ⟨sa, sc, rfl, hsc, hs⟩ := hs.form
  have f1 := (Fr.refl w).alloc (.cells #[.int .i64 c.o, .int .i64 c.s, .slice ga c.gs.length gc, .slice sa c.ss.length sc] 40)
  have h0 := heap_alloc_new w (.cells #[.int .i64 c.o, .int .i64 c.s, .slice ga c.gs.length gc, .slice sa c.ss.length sc] 40)
  go_enter Try.func22, Try.ntmps22
  go_wp2_with fail
  obtain ⟨A, hA⟩ : ∃ A, A = Obj.cells #[.int .i64 c.o, .int .i64 c.s, .slice ga c.gs.length gc, .slice sa c.ss.length sc] 40 := ⟨_, rfl⟩
  rw [← hA] at f1 h0 ⊢
  have hz0 : (w.alloc A).heap.size = w.heap.size + 1 := by simp
  obtain ⟨W, hW⟩ : ∃ W, W = w.alloc A := ⟨_, rfl⟩
  rw [← hW] at f1 h0 hz0 ⊢
  obtain ⟨Z, hZ⟩ : ∃ Z, Z = Obj.cells #[.int .i64 0, .int .i64 0, .slice none 0 0, .slice none 0 0] 40 := ⟨_, rfl⟩
  rw [← hZ]
  have f2 := (Fr.refl W).alloc Z
  have h3 := heap_alloc_new W Z
  rw [hz0] at h3
  replace h3 := h3.trans (congrArg some hZ)
  have h4 := (f2.heap (by omega)).trans h0
  replace h4 := h4.trans (congrArg some hA)
  have hz1 : (W.alloc Z).heap.size = w.heap.size + 2 := by simp [hz0]
  replace f2 := f1.trans f2
  generalize W.alloc Z = W2 at *
  clear hA hZ hW h0 f1 hz0
  replace hg := hg.kept (fun k _ hk => f2.heap hk) f2.size
  replace hs := hs.kept (fun k _ hk => f2.heap hk) f2.size
  have hsb : ∀ k, (Value.slice sa c.ss.length sc).ownBlock = some k → c.ss.length ≠ 0 → k < w.heap.size := by
    obtain ⟨_, _, e, _, _, h⟩ := ‹Sl w (.slice sa c.ss.length sc) c.ss.length 5 (spL c.ss)›
    cases e
    rcases h with h | ⟨b, o, rfl, hb, _⟩
    · intro k _ hn; exact absurd h hn
    · intro k hk _; cases hk; exact hb
  obtain ⟨gn, hgn⟩ : ∃ gn, c.gs.length = gn := ⟨_, rfl⟩
  obtain ⟨sn, hsn⟩ : ∃ sn, c.ss.length = sn := ⟨_, rfl⟩
  rw [hgn] at hg h1 hgc h4 ⊢
  rw [hsn] at hs h2 hsc h4 hsb ⊢
  have c0 : ∀ j, j < 4 → ∀ w', Fr W2 w' → w'.cell? ⟨w.heap.size, j, none⟩ = #[Value.int .i64 c.o, .int .i64 c.s, .slice ga gn gc, .slice sa sn sc][j]? := fun j _ w' hw' => cell_at ((hw'.heap (by omega)).trans h4) j
  refine wp_region_class (Fr W2) (by kernel_rfl) (by kernel_rfl) (Fr.draw _) ?_
  repeat (first
    | (refine wpQuiet_val rfl ?_
       apply Exists.intro
       refine ⟨?_, ?_⟩
       focus (intro w' hw'; go_simp; (try go_bits); with_reducible rfl)
       simp only [Act.put, List.setIfInBounds_toArray, List.set_cons_zero, List.set_cons_succ])
    | (refine wpQuiet_pass rfl ?_
       simp only [Act.put, List.setIfInBounds_toArray, List.set_cons_zero, List.set_cons_succ]))
  refine wpQuiet_nil ?_
  intro w2 f3
  have hg2 := hg.kept (fun k _ hk => f3.heap hk) f3.size
  obtain ⟨v', w3, hr, g1, g2, f4⟩ := run_copy 35 57 3 40 35 Try.underlying35 info57 (by decide) (append_none35 35) hg2 (gdL_one _) (by unfold maxLen; omega) (bytes_ok h1 (by decide)) gn
  obtain ⟨va, vc, rfl, _, g1⟩ := g1.form
  have f5 := f3.trans f4
  have e3 := (f5.heap (by omega)).trans h4
  have k0 : w3.frozen? ⟨w.heap.size, 2, none⟩ = false := frozen_at e3 2
  have k2 := c0 2 (by decide) w2 f3
  have b4 := set_block e3 2 (.slice va gn vc)
  replace b4 : (w3.setCell ⟨w.heap.size, 2, none⟩ (.slice va gn vc)).heap[w.heap.size]? = some (.cells #[.int .i64 c.o, .int .i64 c.s, .slice va gn vc, .slice sa sn sc] 40) := b4
  have u4 := But.set w3 ⟨w.heap.size, 2, none⟩ (.slice va gn vc)
  have hs3 := hs.kept (fun k _ hk => f5.heap hk) f5.size
  have hs4 : Sl (w3.setCell ⟨w.heap.size, 2, none⟩ (.slice va gn vc)) (.slice sa sn sc) sn 5 (spL c.ss) := by
    by_cases hn : sn = 0
    · obtain ⟨a', c', e, l1, l2, h⟩ := hs3
      refine ⟨a', c', e, l1, l2, ?_⟩
      exact .inl hn
    · exact hs3.kept (fun k hk hl => u4.heap k hl (by have := hsb k hk hn; show k ≠ w.heap.size; omega)) u4.size
  obtain ⟨v2, w5, hr2, s1, s2, f6⟩ := run_copy 36 59 5 64 36 Try.underlying36 info59 (by decide) (append_none36 36) hs4 (spL_one _) (by unfold maxLen; omega) (bytes_ok h2 (by decide)) sn
  obtain ⟨ua, uc, rfl, _, s1⟩ := s1.form
  have k4 : w3.cell? ⟨w.heap.size, 3, none⟩ = some (.slice sa sn sc) := cell_at e3 3
  have sz3 : w.heap.size + 2 ≤ w3.heap.size := by have := f5.size; omega
  have sz4 := u4.size
  have e5 := (f6.heap (by omega)).trans b4
  have k5 : w5.frozen? ⟨w.heap.size, 3, none⟩ = false := frozen_at e5 3
  have k9 : w5.cell? ⟨w.heap.size, 3, none⟩ = some (.slice sa sn sc) := cell_at e5 3
  have k10 : w3.cell? ⟨w.heap.size, 2, none⟩ = some (.slice ga gn gc) := cell_at e3 2
  have k6 : w5.cell? ⟨w.heap.size, 0, none⟩ = some (.int .i64 c.o) := cell_at e5 0
  have k7 : w5.cell? ⟨w.heap.size, 1, none⟩ = some (.int .i64 c.s) := cell_at e5 1
  have k8 : w5.cell? ⟨w.heap.size, 2, none⟩ = some (.slice va gn vc) := cell_at e5 2
  have x3 : w5.heap[w.heap.size + 1]? = _ := (f6.heap (by omega)).trans ((u4.heap _ (by omega) (by simp)).trans ((f5.heap (by omega)).trans h3))
  have y0 : w5.cell? ⟨w.heap.size + 1, 0, none⟩ = some (.int .i64 0) := cell_at x3 0
  have y1 : w5.cell? ⟨w.heap.size + 1, 1, none⟩ = some (.int .i64 0) := cell_at x3 1
  have y2 : w5.cell? ⟨w.heap.size + 1, 2, none⟩ = some (.slice none 0 0) := cell_at x3 2
  have y3 : w5.cell? ⟨w.heap.size + 1, 3, none⟩ = some (.slice none 0 0) := cell_at x3 3
  have z0 : w5.frozen? ⟨w.heap.size + 1, 0, none⟩ = false := frozen_at x3 0
  have z1 : w5.frozen? ⟨w.heap.size + 1, 1, none⟩ = false := frozen_at x3 1
  have z2 : w5.frozen? ⟨w.heap.size + 1, 2, none⟩ = false := frozen_at x3 2
  have z3 : w5.frozen? ⟨w.heap.size + 1, 3, none⟩ = false := frozen_at x3 3
  have sz5 : w.heap.size + 2 ≤ w5.heap.size := by have := f6.size; omega
  clear c0
  go_wp2_with (at_builtin; first | refine wpList_copy rfl _ _ 35 rfl rfl rfl hr ?_ | refine wpList_copy rfl _ _ 36 rfl rfl rfl hr2 ?_)
  have q0 := But.set w5 ⟨w.heap.size, 3, none⟩ (.slice ua sn uc)
  have j0 := (q0.heap (w.heap.size + 1) (by omega) (by simp)).trans x3
  generalize w5.setCell ⟨w.heap.size, 3, none⟩ (.slice ua sn uc) = w6 at *
  have j1 := set_block j0 0 (.int .i64 c.o)
  have q1 := But.set w6 ⟨w.heap.size + 1, 0, none⟩ (.int .i64 c.o)
  generalize w6.setCell ⟨w.heap.size + 1, 0, none⟩ (.int .i64 c.o) = w7 at *
  have j2 := set_block j1 1 (.int .i64 c.s)
  have q2 := But.set w7 ⟨w.heap.size + 1, 1, none⟩ (.int .i64 c.s)
  generalize w7.setCell ⟨w.heap.size + 1, 1, none⟩ (.int .i64 c.s) = w8 at *
  have j3 := set_block j2 2 (.slice va gn vc)
  have q3 := But.set w8 ⟨w.heap.size + 1, 2, none⟩ (.slice va gn vc)
  generalize w8.setCell ⟨w.heap.size + 1, 2, none⟩ (.slice va gn vc) = w9 at *
  have j4 := set_block j3 3 (.slice ua sn uc)
  have q4 := But.set w9 ⟨w.heap.size + 1, 3, none⟩ (.slice ua sn uc)
  generalize w9.setCell ⟨w.heap.size + 1, 3, none⟩ (.slice ua sn uc) = w10 at *
  have r0 : But (fun k => k = w.heap.size ∨ k = w.heap.size + 1) w5 w10 :=
    ((((q0.mix q1 (fun _ _ h => .inl h) (fun _ _ h => .inr h)).mix q2 (fun _ _ h => h) (fun _ _ h => .inr h)).mix q3 (fun _ _ h => h) (fun _ _ h => .inr h)).mix q4 (fun _ _ h => h) (fun _ _ h => .inr h))
  have r1 : But (fun k => k = w.heap.size ∨ k = w.heap.size + 1) w3 w10 := (u4.mix (But.of_fr (F := fun _ => False) f6) (fun _ _ h => .inl h) (fun _ _ h => h.elim)).trans r0
  refine bodyPost_ret (results_cell_row rfl _ _ (w.heap.size + 1) 40 #[.int .i64 c.o, .int .i64 c.s, .slice va gn vc, .slice ua sn uc] (0, 0) _ rfl j4 Try.underlying40 rfl (by kernel_rfl)) rfl ?_
  refine ⟨⟨c, .slice va gn vc, .slice ua sn uc⟩, rfl, rfl, ⟨?_, ?_⟩, ⟨?_, ?_⟩, ⟨?_, ?_⟩, ?_⟩
  · show Sl _ _ c.gs.length _ _
    rw [hgn]
    exact g1.kept (fun k hk hl => r1.heap k hl (by have := g2 k hk; have := f3.size; omega)) r1.size
  · show Sl _ _ c.ss.length _ _
    rw [hsn]
    exact s1.kept (fun k hk hl => r0.heap k hl (by have := s2 k hk; omega)) r0.size
  · intro k hk; have := (g2 k hk).1; have := f3.size; omega
  · intro k hk; have := (s2 k hk).1; omega
  · intro k hk; have := (g2 k hk).2; have := r1.size; omega
  · intro k hk; have := (s2 k hk).2; have := r0.size; omega
  · exact ((But.of_fr (f2.trans f5)).trans r1).fr (fun k hk h => by omega)
end Go.Proofs.Ytncbgcfjjlhgpaa
