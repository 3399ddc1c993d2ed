/-
  A map's copy. Conditions: the map is as it says, and has at most a thousand keys.
-/
import Derived.Test.YtgdmkiobidnhnaaRanges
import Derived.Test.YtgdmkiobidnhnaaFence2
import Derived.Maps.OwnIn
import Derived.Deep.RegionHeld3
namespace Go.Proofs.Ytgdmkiobidnhnaa
open Go.RowKit Go.Shelf
set_option linter.unusedSimpArgs false
attribute [local go_sem] Oper.semAt_some wide_depth wide_fn

/-- What speaks of cells alone. -/
def Cst (P : World → Prop) : Prop := ∀ (W W' : World), (∀ (k : Nat) (cs : Array Value) (t : TypeId) (fr : Nat × Nat), W.heap[k]? = some (Obj.cells cs t fr) → W'.heap[k]? = some (Obj.cells cs t fr)) → W.heap.size ≤ W'.heap.size → P W → P W'
theorem Cst.own {β : Type} {I : β → World → Prop} {D : Nat} (h : ∀ s, Cst (I s)) : OwnFrom D I := fun s W W' row hs hg hr =>
  h s W W' (fun k cs t fr hk => by
    have hne : some k ≠ row := fun e => by
      obtain ⟨_, o, ho, hc⟩ := hr k e.symm
      rw [hk] at ho; cases ho; cases hc
    rw [hg.block k (Array.getElem?_eq_some_iff.1 hk).1 hne]; exact hk) hg.size hs
theorem cst_row (B e z n : Nat) (v : Value) (xs : List Value) : Cst fun W => W.ownsRow B e z v n xs := fun W W' hk _ h => by
  rcases h.2 with ⟨hv, h0⟩ | ⟨g, cap, cur, hv, hg, hh, r⟩
  · exact ⟨h.1, .inl ⟨hv, h0⟩⟩
  · exact ⟨h.1, .inr ⟨g, cap, cur, hv, hg, hk _ _ _ _ hh, r⟩⟩
theorem KeepsFrom.of_but {B : Nat} {F : Nat → Prop} {W W' : World} (h : But F W W') (hF : ∀ k, F k → ∃ cs t fr, W.heap[k]? = some (.cells cs t fr)) : KeepsFrom B W W' :=
  ⟨h.size, fun k o _ hk ho => by
    by_cases hf : F k
    · obtain ⟨cs, t, fr, hc⟩ := hF k hf
      rw [hk] at hc; cases hc; cases ho
    · rw [h.heap k (Array.getElem?_eq_some_iff.1 hk).1 hf]; exact hk⟩
theorem KeepsC.of_but {F : Nat → Prop} {W W' : World} {b o : Nat} (h : But F W W') (hF : ¬ F b) (hb : b < W.heap.size) : KeepsC ⟨b, o, none⟩ W W' := fun v hv => by
  rw [World.cell?_of_block (a := ⟨b, o, none⟩) (h.heap b hb hF)]; exact hv
theorem info9 : (Try.prog.info? 9).map (fun i => (i.zero.map fun z => z.cells.size, i.size, i.bytes)) = some (some 1, 1, 16) := by kernel_rfl
theorem append_none26 (ty : Nat) (c : Nat) (w : World) : (Builtin.append_ #[26, 26] ty #[.slice none 0 0, .slice none 0 c]).run Try.prog w = .ok (.slice none 0 0) w := by kernel_rfl
/-- All of a row is put behind none. -/
theorem wp_append_copy {w : World} {o : Oper} {a : Act} {K : Act → World → Prop} {Q : Exit → Act → World → Prop} (s x : Operand)
    (ho : o.op = .call { callee := .builtin .append, args := #[s, x], argTypes := #[26, 26] })
    (S n c c0 : Nat) (ad : Option Addr) (xs : List Value) (hs : a.eval s = .slice none 0 0) (hx : a.eval x = .slice ad n c) (hrow : w.ownsRow S 9 1 (.slice ad n c0) n xs) (h1 : ∀ u ∈ xs, u.oneCell' = true) (hn : n ≤ 1000000)
    (H : Nat) (hH : w.heap.size = H) (h : ∀ v' w', w'.ownsRow H 9 1 v' n xs → w.grownBy w' none → K (a.put o.dst v') w') : o.wp Try.prog a w K Q := by
  obtain ⟨i0, z0, hi0, hz0, hz1, hz2, hz3⟩ := parts info9
  subst hH
  unfold Oper.wp
  cases ad with
  | none =>
    have hn0 : n = 0 := by
      rcases hrow.2 with ⟨_, h0⟩ | ⟨g, cap, cur, hv, _⟩
      · exact h0
      · cases hv
    subst hn0
    have hxs : xs = [] := List.eq_nil_of_length_eq_zero (by rw [hrow.1])
    simp [execOp, ho, resolve, invoke, builtin, hs, hx, append_none26, Result.andThen]
    exact h _ _ ⟨by rw [hxs]; rfl, .inl ⟨rfl, rfl⟩⟩ (Fr.refl w).grown
  | some g =>
    have hl := hrow.1
    have hg : ∃ b, g = ⟨b, 0, none⟩ := by
      rcases hrow.2 with ⟨hv, _⟩ | ⟨b, cap, cur, hv, _⟩
      · cases hv
      · cases hv; exact ⟨b, rfl⟩
    obtain ⟨b, rfl⟩ := hg
    obtain ⟨v', w', hr, r1, r2, _, _⟩ := run_append_own_at (P := Try.prog) w w.heap.size 26 o.type 9 i0 z0 1 16 Try.underlying26 hi0 hz0 hz2 hz3 hz1 (by decide) (.slice none 0 0) 0 [] ⟨rfl, .inl ⟨rfl, rfl⟩⟩ ⟨b, 0, none⟩ n c xs (by rw [hl]) (fun j u hu => by rw [add_at]; exact cells_of1 hrow j u hu) h1 (by unfold maxLen; omega) (by omega) (Nat.le_refl _)
    simp [execOp, ho, resolve, invoke, builtin, hs, hx, hr, Result.andThen]
    rw [Nat.zero_add, List.nil_append] at r1
    exact h v' w' r1 r2
theorem new_ex (w : World) : Calls Try.prog 13 #[] w fun e w' => e = .returned (.pointer (some ⟨w.heap.size, 0, none⟩)) ∧ w' = w.alloc (.cells #[.slice none 0 0, .slice none 0 0] 28) := by
  go_enter Try.func13, Try.ntmps13
  go_wp2_with fail
  go_ret
  exact ⟨rfl, rfl⟩
/-- What the copy's loop finds and leaves. -/
def CpC (S Bt T n : Nat) (kv : Value) (l : Ps) (pre : Ps) (W : World) : Prop :=
  ∃ vs, W.heap[S]? = some (.cells #[kv, vs] 28) ∧ W.heap[S + 1]? = some (.cells #[.pointer (some ⟨S, 0, none⟩)] 24) ∧ W.heap[Bt]? = some (.cells #[.pointer (some ⟨T, 0, none⟩)] 24) ∧
    W.ownsRow S 9 1 kv n (keysV l) ∧ W.ownsRow S 9 1 vs pre.length (valsV pre) ∧ ∀ k, kv.ownBlock = some k → vs.ownBlock ≠ some k
theorem CpC.cst (S Bt T n : Nat) (kv : Value) (l : Ps) (pre : Ps) : Cst (CpC S Bt T n kv l pre) := fun W W' hk hz ⟨vs, h1, h2, h3, h4, h5, h6⟩ => ⟨vs, hk _ _ _ _ h1, hk _ _ _ _ h2, hk _ _ _ _ h3, cst_row _ _ _ _ _ _ W W' hk hz h4, cst_row _ _ _ _ _ _ W W' hk hz h5, h6⟩
theorem CpC.tb {S Bt T n : Nat} {kv : Value} {l pre : Ps} {W : World} (h : CpC S Bt T n kv l pre W) (he : pre = l) (hn : l.length = n) (hu : Up l) : ∃ G, Tb S G S l W := by
  subst he hn
  obtain ⟨vs, h1, _, _, h4, h5, h6⟩ := h
  exact ⟨_, kv, vs, h1, h4, h5, h6, rfl, Nat.le_refl _, hu⟩
def CpI (S Bt T n : Nat) (kv : Value) (l : Ps) (w : World) (pre : Ps) (W : World) : Prop := CpC S Bt T n kv l pre W ∧ Below S w W
theorem CpI.own (S Bt T n : Nat) (kv : Value) (l : Ps) (w : World) (D : Nat) (hS : S ≤ w.heap.size) (hD : S ≤ D) : OwnFrom D (CpI S Bt T n kv l w) :=
  OwnFrom.and (Cst.own fun pre => CpC.cst S Bt T n kv l pre) (ownFrom_below hS hD)
theorem kept_putObj {W : World} {D : Nat} {o : Obj} (hD : W.heap[D]? = some o) (ho : o.isCells = false) (o' : Obj) : ∀ (k : Nat) (cs : Array Value) (t : TypeId) (fr : Nat × Nat), W.heap[k]? = some (Obj.cells cs t fr) → (W.putObj D o').heap[k]? = some (Obj.cells cs t fr) := by
  intro k cs t fr hk
  have hne : k ≠ D := fun e => by subst e; rw [hD] at hk; cases hk; cases ho
  rw [(grownBy_putObj' W D o').block k (Array.getElem?_eq_some_iff.1 hk).1 (fun e => hne (by cases e; rfl))]; exact hk
theorem valsV_push (l : Ps) (a : ByteArray × ByteArray) : valsV (l ++ [a]) = valsV l ++ [.string a.2] := by simp [valsV]
theorem but_grown {W W' : World} {v : Value} (h : W.grownBy W' v.ownBlock) : But (fun k => v.ownBlock = some k) W W' := (But.of_grown h).mono fun _ h => h
section
variable {S M T n q : Nat} {kv vs : Value} {l : Ps} {W w6 w7 : World}
theorem cp_after {xs : List Value} (g1 : W.heap[S]? = some (.cells #[kv, vs] 28)) (g2 : W.heap[S + 1]? = some (.cells #[.pointer (some ⟨S, 0, none⟩)] 24)) (g5 : W.ownsRow S 9 1 vs q xs) (f6 : Fr W w6) (hgr : w6.grownBy w7 vs.ownBlock) :
    w7.heap[S]? = some (.cells #[kv, vs] 28) ∧ w7.heap[S + 1]? = some (.cells #[.pointer (some ⟨S, 0, none⟩)] 24) ∧ But (fun k => vs.ownBlock = some k) W w7 := by
  have hb : But (fun k => vs.ownBlock = some k) W w7 := (But.of_fr f6).trans (but_grown hgr)
  exact ⟨(hb.heap S (Array.getElem?_eq_some_iff.1 g1).1 (own_ne g5 g1 (by decide))).trans g1, (hb.heap (S + 1) (Array.getElem?_eq_some_iff.1 g2).1 (own_ne g5 g2 (by decide))).trans g2, hb⟩
theorem cp_body {w : World} {pre : Ps} {x1 x2 : ByteArray} {g cap : Nat} (hq : pre.length = q) (hMS : S + 1 < M ∧ S ≤ W.heap.size) (g1 : W.heap[S]? = some (.cells #[kv, vs] 28)) (g2 : W.heap[S + 1]? = some (.cells #[.pointer (some ⟨S, 0, none⟩)] 24))
    (g3 : W.heap[M]? = some (.cells #[.pointer (some ⟨T, 0, none⟩)] 24)) (g4 : W.ownsRow S 9 1 kv n (keysV l)) (g5 : W.ownsRow S 9 1 vs q (valsV pre)) (g6 : ∀ k, kv.ownBlock = some k → vs.ownBlock ≠ some k) (f6 : Fr W w6)
    (hown : w7.ownsRow S 9 1 (.slice (some ⟨g, 0, none⟩) (q + 1) cap) (q + 1) (valsV pre ++ [.string x2])) (hgr : w6.grownBy w7 vs.ownBlock) (hat : vs.ownBlock = some g ∨ g = w6.heap.size) (gb : Below S w W) (hSw : S = w.heap.size) {D : Nat} :
    KeepsFrom D W (w7.setCell ⟨S, 1, none⟩ (.slice (some ⟨g, 0, none⟩) (q + 1) cap)) ∧ Kp S M W (w7.setCell ⟨S, 1, none⟩ (.slice (some ⟨g, 0, none⟩) (q + 1) cap)) ∧ CpI S M T n kv l w (pre ++ [(x1, x2)]) (w7.setCell ⟨S, 1, none⟩ (.slice (some ⟨g, 0, none⟩) (q + 1) cap)) := by
  obtain ⟨p1, p2, hb⟩ := cp_after g1 g2 g5 f6 hgr
  have hset := But.set w7 ⟨S, 1, none⟩ (.slice (some ⟨g, 0, none⟩) (q + 1) cap)
  have hall : But (fun k => k = S ∨ vs.ownBlock = some k) W (w7.setCell ⟨S, 1, none⟩ (.slice (some ⟨g, 0, none⟩) (q + 1) cap)) := hb.mix hset (fun _ _ h => .inr h) (fun _ _ h => .inl h)
  have hM := (Array.getElem?_eq_some_iff.1 g3).1
  have hnM : ¬ (M = S ∨ vs.ownBlock = some M) := fun h => by
    rcases h with h | h
    · omega
    · exact own_ne g5 g3 (by decide) h
  have hbel : Below S W (w7.setCell ⟨S, 1, none⟩ (.slice (some ⟨g, 0, none⟩) (q + 1) cap)) := hall.below hMS.2 fun k hk h => by
    rcases h with h | h
    · omega
    · have := (g5.lt k h).1; omega
  have hfs := f6.size
  refine ⟨KeepsFrom.of_but hall fun k h => ?_, ⟨hbel, KeepsC.of_but hall hnM hM⟩, ⟨.slice (some ⟨g, 0, none⟩) (q + 1) cap, set_block p1 1 _, ?_, ?_, ?_, ?_, ?_⟩, gb.trans hbel⟩
  · rcases h with rfl | h
    · exact ⟨_, _, _, g1⟩
    · obtain ⟨cur, hc⟩ := own_type g5 h
      exact ⟨_, _, _, hc⟩
  · exact (hset.heap (S + 1) (Array.getElem?_eq_some_iff.1 p2).1 (by simp)).trans p2
  · exact (hall.heap M hM hnM).trans g3
  · refine owns_but g4 hall fun k hk h => ?_
    rcases h with rfl | h
    · exact own_ne g4 g1 (by decide) hk
    · exact g6 k hk h
  · rw [List.length_append, hq, valsV_push]
    exact owns_but hown hset fun k hk h => own_ne hown p1 (by decide) (hk.trans (by rw [h]))
  · intro k hk hc
    have e : some g = some k := hc
    injection e with e
    subst e
    rcases hat with h | h
    · exact g6 g hk h
    · have := (g4.lt g hk).2; omega
end
set_option maxRecDepth 100000 in
set_option maxHeartbeats 4000000 in
theorem copy_in (N : Nat) (hN : 6 ≤ N) {B T : Nat} {F : Nat → Prop} {l : Ps} {w : World} (h : Tb B F T l w) (hn : l.length ≤ 1000) :
    CallsIn Fence.wide N Try.prog 24 #[.pointer (some ⟨T, 0, none⟩)] w fun e W' => ∃ C G, e = .returned (.pointer (some ⟨C, 0, none⟩)) ∧ Tb w.heap.size G C l W' ∧ Below w.heap.size w W' := by
  obtain ⟨i0, z0, hi, hz0, hz1, hz2, hz3⟩ := parts info9
  have hseen := h.seen
  obtain ⟨ks, vs, hT, hk, hv, hkv, rfl, hB, hu⟩ := h
  have hTl := (Array.getElem?_eq_some_iff.1 hT).1
  obtain ⟨ka, kc, rfl⟩ := own_form hk
  have c0 : w.cell? ⟨T, 0, none⟩ = some (.slice ka l.length kc) := cell_at hT 0
  obtain ⟨n, hln⟩ : ∃ n, l.length = n := ⟨_, rfl⟩
  obtain ⟨S, hS⟩ : ∃ S, w.heap.size = S := ⟨_, rfl⟩
  have f1 := (Fr.refl w).alloc (.cells #[.slice none 0 0, .slice none 0 0] 28)
  have h1 := heap_alloc_new w (.cells #[.slice none 0 0, .slice none 0 0] 28)
  have f2 := (Fr.refl (w.alloc (.cells #[.slice none 0 0, .slice none 0 0] 28))).alloc (.cells #[.pointer (some ⟨S, 0, none⟩)] 24)
  have h2 := heap_alloc_new (w.alloc (.cells #[.slice none 0 0, .slice none 0 0] 28)) (.cells #[.pointer (some ⟨S, 0, none⟩)] 24)
  have hs1 : (w.alloc (.cells #[.slice none 0 0, .slice none 0 0] 28)).heap.size = S + 1 := by simp [hS]
  have hs2 : ((w.alloc (.cells #[.slice none 0 0, .slice none 0 0] 28)).alloc (.cells #[.pointer (some ⟨S, 0, none⟩)] 24)).heap.size = S + 2 := by simp [hS]
  rw [hs1] at h2
  rw [hS] at h1
  have h1' := (f2.heap (k := S) (by omega)).trans h1
  have f3 := f1.trans f2
  rw [hln] at hk c0 hn
  have hcap : n ≤ kc ∧ (ka = none → n = 0) := by
    rcases hk.2 with ⟨e, h0⟩ | ⟨g, cap, cur, e, _, _, h3, _⟩
    · cases e; exact ⟨by omega, fun _ => h0⟩
    · cases e; exact ⟨h3, fun e => (by cases e)⟩
  have hadd : (if n = 0 then ka else Option.map (fun x => x.add 0) ka) = ka := by
    split
    · rfl
    · cases ka with
      | none => rfl
      | some x => simp [Addr.add]
  have hkc := hcap.1
  have HS := Go.Lib.hid (And.intro hseen (And.intro hT (And.intro hk (And.intro hln (And.intro hu hTl)))))
  have HF := Go.Lib.hid (And.intro f3 (And.intro h1' h2))
  have HC := Go.Lib.hid hcap
  clear hT hk hv hkv hB hu hTl hln hseen hcap
  refine callsIn_of_wp_marks Try.func24 rfl trivial ?_ rfl
  simp only [Try.ntmps24, List.size_toArray, List.length_cons, List.length_nil, Nat.reduceAdd, Nat.reduceSub, Array.replicate_succ, Array.replicate_zero, List.push_toArray, List.append_toArray, List.nil_append, List.cons_append]
  clear f1 f2 f3 h1 h1' h2 hs1
  gi_wp2_with fail
  refine (callsIn_wide.2 (new_ex w)).mono ?_
  rintro e w' ⟨rfl, rfl⟩
  gi_wp2_with fail
  generalize (w.alloc (.cells #[.slice none 0 0, .slice none 0 0] 28)).alloc (.cells #[.pointer (some ⟨S, 0, none⟩)] 24) = W1 at *
  obtain ⟨f3, h1, h2⟩ := HF.out
  have f3' := (Fr.refl W1).drewN 1
  replace f3' : Fr W1 W1.drew := f3'
  have hTl : T < S := by obtain ⟨_, _, _, _, _, h⟩ := HS.out; omega
  have y0 : W1.cell? ⟨S + 1, 0, none⟩ = some (.pointer (some ⟨S, 0, none⟩)) := cell_at h2 0
  have y1 : W1.cell? ⟨S, 0, none⟩ = some (.slice none 0 0) := cell_at h1 0
  have y2 : W1.frozen? ⟨S, 0, none⟩ = false := frozen_at h1 0
  have y3 : W1.cell? ⟨T, 0, none⟩ = some (.slice ka n kc) := f3.cell' c0
  have z0 : W1.drew.cell? ⟨S + 1, 0, none⟩ = some (.pointer (some ⟨S, 0, none⟩)) := f3'.cell' y0
  have z1 : W1.drew.cell? ⟨S, 0, none⟩ = some (.slice none 0 0) := f3'.cell' y1
  have z3 : W1.drew.cell? ⟨T, 0, none⟩ = some (.slice ka n kc) := f3'.cell' y3
  refine wpIn_wide.2 (wp_region_noPanic (wp_region_held (S := fun W => W.cell? ⟨S + 1, 0, none⟩ = some (.pointer (some ⟨S, 0, none⟩)) ∧ W.cell? ⟨T, 0, none⟩ = some (.slice ka n kc)) (by kernel_rfl) ?_))
  have hSd : (fun W : World => W.cell? ⟨S + 1, 0, none⟩ = some (.pointer (some ⟨S, 0, none⟩)) ∧ W.cell? ⟨T, 0, none⟩ = some (.slice ka n kc)) W1.drew := ⟨z0, z3⟩
  change wpAnyH _ _ _ _ _ _ _ _ W1.drew
  generalize W1.drew = W2 at *
  simp only [List.size_toArray, List.length_cons, List.length_nil, Nat.reduceAdd, Array.replicate_succ, Array.replicate_zero, List.push_toArray, List.nil_append, List.cons_append]
  refine held_take 0 rfl (by kernel_rfl) (by kernel_rfl) (by kernel_rfl) (fun _ _ _ _ h => h) rfl hSd ?_
  apply Exists.intro
  refine ⟨?_, ?_⟩
  focus (intro w' hw'; obtain ⟨e0, e1⟩ := hw'; go_simp; with_reducible rfl)
  simp only [Act.put, List.setIfInBounds_toArray, List.set_cons_zero, List.set_cons_succ]
  refine held_take 1 rfl (by kernel_rfl) (by kernel_rfl) (by kernel_rfl) (fun _ _ _ _ h => h) rfl hSd ?_
  apply Exists.intro
  refine ⟨?_, ?_⟩
  focus (intro w' hw'; obtain ⟨e0, e1⟩ := hw'; go_simp; with_reducible rfl)
  simp only [Act.put, List.setIfInBounds_toArray, List.set_cons_zero, List.set_cons_succ]
  refine held_take 2 rfl (by kernel_rfl) (by kernel_rfl) (by kernel_rfl) (fun _ _ _ _ h => h) rfl hSd ?_
  apply Exists.intro
  refine ⟨?_, ?_⟩
  focus (intro w' hw'; obtain ⟨e0, e1⟩ := hw'; go_simp; with_reducible rfl)
  simp only [Act.put, List.setIfInBounds_toArray, List.set_cons_zero, List.set_cons_succ]
  refine held_take 3 rfl (by kernel_rfl) (by kernel_rfl) (by kernel_rfl) (fun _ _ _ _ h => h) rfl hSd ?_
  apply Exists.intro
  refine ⟨?_, ?_⟩
  focus (intro w' hw'; obtain ⟨e0, e1⟩ := hw'; go_simp; with_reducible rfl)
  simp only [Act.put, List.setIfInBounds_toArray, List.set_cons_zero, List.set_cons_succ]
  refine held_take 5 rfl (by kernel_rfl) (by kernel_rfl) (by kernel_rfl) (fun _ _ _ _ h => h) rfl hSd ?_
  apply Exists.intro
  refine ⟨?_, ?_⟩
  focus (intro w' hw'; obtain ⟨e0, e1⟩ := hw'; go_simp; with_reducible rfl)
  simp only [Act.put, List.setIfInBounds_toArray, List.set_cons_zero, List.set_cons_succ]
  refine held_take 6 rfl (by kernel_rfl) (by kernel_rfl) (by kernel_rfl) (fun _ _ _ _ h => h) rfl hSd ?_
  apply Exists.intro
  refine ⟨?_, ?_⟩
  focus (intro w' hw'; obtain ⟨e0, e1⟩ := hw'; go_simp; with_reducible rfl)
  simp only [Act.put, List.setIfInBounds_toArray, List.set_cons_zero, List.set_cons_succ]
  refine held_take 7 rfl (by kernel_rfl) (by kernel_rfl) (by kernel_rfl) (fun _ _ _ _ h => h) rfl hSd ?_
  apply Exists.intro
  refine ⟨?_, ?_⟩
  focus (intro w' hw'; obtain ⟨e0, e1⟩ := hw'; go_simp; with_reducible rfl)
  simp only [Act.put, List.setIfInBounds_toArray, List.set_cons_zero, List.set_cons_succ]
  refine held_take 8 rfl (by kernel_rfl) (by kernel_rfl) (by kernel_rfl) (fun _ _ _ _ h => h) rfl hSd ?_
  apply Exists.intro
  refine ⟨?_, ?_⟩
  focus (intro w' hw'; obtain ⟨e0, e1⟩ := hw'; go_simp; with_reducible rfl)
  simp only [Act.put, List.setIfInBounds_toArray, List.set_cons_zero, List.set_cons_succ]
  refine held_take 9 rfl (by kernel_rfl) (by kernel_rfl) (by kernel_rfl) (fun _ _ _ _ h => h) rfl hSd ?_
  apply Exists.intro
  refine ⟨?_, ?_⟩
  focus (intro w' hw'; obtain ⟨e0, e1⟩ := hw'; go_simp; with_reducible rfl)
  simp only [Act.put, List.setIfInBounds_toArray, List.set_cons_zero, List.set_cons_succ]
  refine held_take 10 rfl (by kernel_rfl) (by kernel_rfl) (by kernel_rfl) (fun _ _ _ _ h => h) rfl hSd ?_
  apply Exists.intro
  refine ⟨?_, ?_⟩
  focus (intro w' hw'; obtain ⟨e0, e1⟩ := hw'; go_simp; with_reducible rfl)
  simp only [Act.put, List.setIfInBounds_toArray, List.set_cons_zero, List.set_cons_succ]
  refine held_take 11 rfl (by kernel_rfl) (by kernel_rfl) (by kernel_rfl) (fun _ _ _ _ h => h) rfl hSd ?_
  apply Exists.intro
  refine ⟨?_, ?_⟩
  focus (intro w' hw'; obtain ⟨e0, e1⟩ := hw'; go_simp; with_reducible rfl)
  simp only [Act.put, List.setIfInBounds_toArray, List.set_cons_zero, List.set_cons_succ]
  refine held_step 4 rfl (by kernel_rfl) rfl (fun K hK => ?_)
  go_simp
  refine hK _ _ hSd ?_
  clear hK K
  simp only [Act.put, List.setIfInBounds_toArray, List.set_cons_zero, List.set_cons_succ]
  refine held_step 12 rfl (by kernel_rfl) rfl (fun K hK => ?_)
  have hrow2 := owns_fr HS.out.2.2.1 (f3.trans f3')
  refine wp_append_copy (.tmp 19) (.tmp 26) rfl B n n kc ka (keysV l) rfl rfl hrow2 (keysV_one l) (by omega) _ rfl ?_
  intro v' w3 hown hgr
  obtain ⟨va, vc, rfl⟩ := own_form hown
  have fr3 : Fr W2 w3 := (But.of_grown hgr).fr (fun k _ h => by cases h)
  have hSd3 : (fun W : World => W.cell? ⟨S + 1, 0, none⟩ = some (.pointer (some ⟨S, 0, none⟩)) ∧ W.cell? ⟨T, 0, none⟩ = some (.slice ka n kc)) w3 := ⟨fr3.cell' z0, fr3.cell' z3⟩
  refine hK _ _ hSd3 ?_
  clear hK K
  simp only [Act.put, List.setIfInBounds_toArray, List.set_cons_zero, List.set_cons_succ]
  refine held_take 13 rfl (by kernel_rfl) (by kernel_rfl) (by kernel_rfl) (fun _ _ _ _ h => h) rfl hSd3 ?_
  apply Exists.intro
  refine ⟨?_, ?_⟩
  focus (intro w' hw'; obtain ⟨e0, e1⟩ := hw'; go_simp; with_reducible rfl)
  simp only [Act.put, List.setIfInBounds_toArray, List.set_cons_zero, List.set_cons_succ]
  refine held_take 14 rfl (by kernel_rfl) (by kernel_rfl) (by kernel_rfl) (fun _ _ _ _ h => h) rfl hSd3 ?_
  apply Exists.intro
  refine ⟨?_, ?_⟩
  focus (intro w' hw'; obtain ⟨e0, e1⟩ := hw'; go_simp; with_reducible rfl)
  simp only [Act.put, List.setIfInBounds_toArray, List.set_cons_zero, List.set_cons_succ]
  refine held_step 15 rfl (by kernel_rfl) rfl (fun K hK => ?_)
  have hSlt : S < W2.heap.size := by have := (Array.getElem?_eq_some_iff.1 h1).1; have := f3'.size; omega
  have hSlt2 : S + 1 < W2.heap.size := by have := (Array.getElem?_eq_some_iff.1 h2).1; have := f3'.size; omega
  have q1 : w3.heap[S]? = some (.cells #[.slice none 0 0, .slice none 0 0] 28) := (fr3.heap hSlt).trans ((f3'.heap (Array.getElem?_eq_some_iff.1 h1).1).trans h1)
  have q2 : w3.heap[S + 1]? = some (.cells #[.pointer (some ⟨S, 0, none⟩)] 24) := (fr3.heap hSlt2).trans ((f3'.heap (Array.getElem?_eq_some_iff.1 h2).1).trans h2)
  have q3 := cell_at q1 0
  have q4 := frozen_at q1 0
  have b4 := But.set w3 ⟨S, 0, none⟩ (.slice va n vc)
  have q5 := set_block q1 0 (.slice va n vc)
  have q6 := (b4.heap (S + 1) (Array.getElem?_eq_some_iff.1 q2).1 (by simp)).trans q2
  have hSd4 : (fun W : World => W.cell? ⟨S + 1, 0, none⟩ = some (.pointer (some ⟨S, 0, none⟩)) ∧ W.cell? ⟨T, 0, none⟩ = some (.slice ka n kc)) (w3.setCell ⟨S, 0, none⟩ (.slice va n vc)) :=
    ⟨cell_at q6 0, (World.cell?_of_block (a := ⟨T, 0, none⟩) (b4.heap T (by have := fr3.size; omega) (by simp; omega))).trans (fr3.cell' z3)⟩
  go_simp
  refine hK _ _ hSd4 ?_
  clear hK K
  simp only [Act.put, List.setIfInBounds_toArray, List.set_cons_zero, List.set_cons_succ]
  refine wpAnyH_done (by kernel_rfl) (NoPanic.normal ?_) _
  have hfin : But (fun k => k = S) W1 (w3.setCell ⟨S, 0, none⟩ (.slice va n vc)) := (But.of_fr (f3'.trans fr3)).trans b4
  have hbel : Below S w (w3.setCell ⟨S, 0, none⟩ (.slice va n vc)) := ((hS ▸ f3 : Below S w W1)).trans (hfin.below (by have := (Array.getElem?_eq_some_iff.1 h1).1; omega) (fun k hk e => by omega))
  have hown4 : (w3.setCell ⟨S, 0, none⟩ (.slice va n vc)).ownsRow S 9 1 (.slice va n vc) n (keysV l) := owns_but (owns_mono hown (by omega)) b4 (fun k hk e => own_ne hown q1 (by decide) (hk.trans (by rw [e])))
  clear hSd hSd3 hSd4 z0 z1 z3 y0 y1 y2 y3 q1 q2 q3 q4 hown hgr hrow2
  generalize w3.setCell ⟨S, 0, none⟩ (.slice va n vc) = w4 at *
  gi_wp2_with fail
  refine (callsIn_wide.2 (From_any _ _ w4)).mono ?_
  rintro e w5 ⟨rfl, rfl⟩
  gi_wp2_with fail
  obtain ⟨M, hM⟩ : ∃ M, w4.heap.size = M := ⟨_, rfl⟩
  have m1 := heap_alloc_new w4 (.cells #[.pointer (some ⟨T, 0, none⟩)] 24)
  have ff1 := (Fr.refl w4).alloc (.cells #[.pointer (some ⟨T, 0, none⟩)] 24)
  have ff2 := (Fr.refl (w4.alloc (.cells #[.pointer (some ⟨T, 0, none⟩)] 24))).alloc (.cells #[.string ⟨#[]⟩] 9)
  have m2 := heap_alloc_new (w4.alloc (.cells #[.pointer (some ⟨T, 0, none⟩)] 24)) (.cells #[.string ⟨#[]⟩] 9)
  have hz1' : (w4.alloc (.cells #[.pointer (some ⟨T, 0, none⟩)] 24)).heap.size = M + 1 := by simp [hM]
  have hz2' : ((w4.alloc (.cells #[.pointer (some ⟨T, 0, none⟩)] 24)).alloc (.cells #[.string ⟨#[]⟩] 9)).heap.size = M + 2 := by simp [hM]
  rw [hM] at m1 ⊢
  rw [hz1'] at m2
  replace m1 := (ff2.heap (k := M) (by omega)).trans m1
  replace ff1 := ff1.trans ff2
  have hSM : S + 1 < M := by have := (Array.getElem?_eq_some_iff.1 q6).1; omega
  have q5' : w4.heap[S]? = some (.cells #[.slice va n vc, .slice none 0 0] 28) := q5
  generalize (w4.alloc (.cells #[.pointer (some ⟨T, 0, none⟩)] 24)).alloc (.cells #[.string ⟨#[]⟩] 9) = W5 at *
  replace hbel : Below S w W5 := hbel.trans (ff1.below_of (by omega))
  replace hown4 := owns_fr hown4 ff1
  replace q5' := (ff1.heap (by omega)).trans q5'
  replace q6 := (ff1.heap (by omega)).trans q6
  obtain ⟨hseen, hT, hk, hln, hu, hTl'⟩ := HS.out
  have hto : Told S (some ⟨T, 0, none⟩) l W5 := .inr ⟨T, rfl, (hS ▸ hseen).below hbel⟩
  have hSw := Go.Lib.hid hS.symm
  have hbx1 : W5.cell? ⟨M, 0, none⟩ = some (.pointer (some ⟨T, 0, none⟩)) := cell_at m1 0
  have hbx2 : W5.cell? ⟨M + 1, 0, none⟩ = some (.string ⟨#[]⟩) := cell_at m2 0
  have h0 : CpI S M T n (.slice va n vc) l w [] W5 := ⟨⟨.slice none 0 0, q5', q6, m1, hown4, ⟨rfl, .inl ⟨rfl, rfl⟩⟩, fun _ _ h => (by cases h)⟩, hbel⟩
  have HW := Go.Lib.hid (And.intro hln hu)
  have hl1 : l.length ≤ 1000000 := by omega
  clear hfin q5 b4 hSlt hSlt2 fr3 f3 f3' h1 h2 hseen hT hk hln hu hTl' hown4 q5' q6 hadd hkc HF HS HC
  refine wpIn_rangeFunc_ownG (w := W5) rfl (by omega) (gf := 73) (lb := #[.pointer (some ⟨M, 0, none⟩), .pointer (some ⟨M + 1, 0, none⟩)]) rfl trivial (enters_of Try.func73 (by kernel_rfl) rfl)
    (from_stops (N - 1) M (M + 1) S (some ⟨T, 0, none⟩) l hl1 ⟨#[]⟩ W5 hbx1 hbx2 (by omega) (by omega) (by omega) hto) Kp.t
    (fun W l o o' hl h ho hwk => ⟨belowK_b (w := w) (by omega) W l _ _ (by omega) h ho hwk, KeepsC.b W l o o' h ho⟩) (Below.refl _ _) (fun _ => rfl)
    (CpI S M T n (.slice va n vc) l w) (fun _ _ _ => False) (CpI.own _ _ _ _ _ _ _ _ (by omega) (by omega)) (fun _ _ _ _ _ h => h.elim)
    h0
    (fun x => { tmps := #[.pointer (some ⟨T, 0, none⟩), undef, .pointer none, .int .i64 n, .pointer (some ⟨S + 1, 0, none⟩), undef, .string x.2, .pointer (some ⟨T, 0, none⟩), .bool false,
      .pointer (some ⟨T, 0, none⟩), .pointer (some ⟨T, 0, none⟩), .pointer (some ⟨T, 0, none⟩), .slice ka n kc, .int .i64 n, .pointer (some ⟨S, 0, none⟩), .pointer (some ⟨S, 0, none⟩), .pointer (some ⟨S, 0, none⟩), .pointer (some ⟨S, 0, none⟩),
      .pointer (some ⟨S, 0, none⟩), .slice none 0 0, .pointer (some ⟨T, 0, none⟩), .pointer (some ⟨T, 0, none⟩), .pointer (some ⟨T, 0, none⟩), .slice ka n kc, .int .i64 n, .int .i64 n, .slice ka n n, .slice va n vc,
      .pointer (some ⟨S, 0, none⟩), .pointer (some ⟨S, 0, none⟩), .pointer (some ⟨T, 0, none⟩), .func (.func 73) #[] #[.pointer (some ⟨M, 0, none⟩), .pointer (some ⟨M + 1, 0, none⟩)],
      .string x.1, .string x.2, undef, undef, undef, undef, undef, undef, undef, undef, undef, undef, undef], defers := [] }) ?assign ?body ?done ?stop
  case assign =>
    intro l x W K hK
    gi_wp2
    exact hK
  case body =>
    rintro lp pre x W ⟨⟨vs, g1, g2, g3, g4, g5, g6⟩, gb⟩ hlt
    have hpl : pre.length ≤ 1000 := by rw [List.length_drop] at hlt; have := HW.out.1; omega
    obtain ⟨q, hq⟩ : ∃ q, pre.length = q := ⟨_, rfl⟩
    rw [hq] at g5 hpl
    obtain ⟨a2, c2, rfl⟩ := own_form g5
    obtain ⟨x1, x2⟩ := x
    have HQ := Go.Lib.hid hq
    clear hq hlt
    have hMS : S + 1 < M ∧ S ≤ W.heap.size := ⟨hSM, by have := (Array.getElem?_eq_some_iff.1 g1).1; omega⟩
    have y0 : W.cell? ⟨S + 1, 0, none⟩ = some (.pointer (some ⟨S, 0, none⟩)) := cell_at g2 0
    have fd : Fr W W.drew := (Fr.refl W).drewN 1
    gi_wp2_with fail
    refine wpIn_region_heldR (fun W' => W'.cell? ⟨S + 1, 0, none⟩ = some (.pointer (some ⟨S, 0, none⟩))) (by kernel_rfl) (by kernel_rfl) (fun ⟨_, _, h⟩ => h) ?_
    have hSd : (fun W' : World => W'.cell? ⟨S + 1, 0, none⟩ = some (.pointer (some ⟨S, 0, none⟩))) W.drew := fd.cell' y0
    have y1 : W.drew.cell? ⟨S, 1, none⟩ = some (.slice a2 q c2) := fd.cell' (cell_at g1 1)
    change wpAnyH _ _ _ _ _ _ _ _ W.drew
    generalize W.drew = wd at *
    simp only [List.size_toArray, List.length_cons, List.length_nil, Nat.reduceAdd, Array.replicate_succ, Array.replicate_zero, List.push_toArray, List.nil_append, List.cons_append]
    refine held_take 0 rfl (by kernel_rfl) (by kernel_rfl) (by kernel_rfl) (fun _ _ _ _ h => h) rfl hSd ?_
    apply Exists.intro
    refine ⟨?_, ?_⟩
    focus (intro w' hw'; obtain e0 := hw'; go_simp; with_reducible rfl)
    simp only [Act.put, List.setIfInBounds_toArray, List.set_cons_zero, List.set_cons_succ]
    refine held_take 1 rfl (by kernel_rfl) (by kernel_rfl) (by kernel_rfl) (fun _ _ _ _ h => h) rfl hSd ?_
    apply Exists.intro
    refine ⟨?_, ?_⟩
    focus (intro w' hw'; obtain e0 := hw'; go_simp; with_reducible rfl)
    simp only [Act.put, List.setIfInBounds_toArray, List.set_cons_zero, List.set_cons_succ]
    refine held_take 2 rfl (by kernel_rfl) (by kernel_rfl) (by kernel_rfl) (fun _ _ _ _ h => h) rfl hSd ?_
    apply Exists.intro
    refine ⟨?_, ?_⟩
    focus (intro w' hw'; obtain e0 := hw'; go_simp; with_reducible rfl)
    simp only [Act.put, List.setIfInBounds_toArray, List.set_cons_zero, List.set_cons_succ]
    refine held_take 3 rfl (by kernel_rfl) (by kernel_rfl) (by kernel_rfl) (fun _ _ _ _ h => h) rfl hSd ?_
    apply Exists.intro
    refine ⟨?_, ?_⟩
    focus (intro w' hw'; obtain e0 := hw'; go_simp; with_reducible rfl)
    simp only [Act.put, List.setIfInBounds_toArray, List.set_cons_zero, List.set_cons_succ]
    refine held_take 5 rfl (by kernel_rfl) (by kernel_rfl) (by kernel_rfl) (fun _ _ _ _ h => h) rfl hSd ?_
    apply Exists.intro
    refine ⟨?_, ?_⟩
    focus (intro w' hw'; obtain e0 := hw'; go_simp; with_reducible rfl)
    simp only [Act.put, List.setIfInBounds_toArray, List.set_cons_zero, List.set_cons_succ]
    have f6 := fd.alloc (.cells #[.string x2] 9)
    have f6' := (Fr.refl wd).alloc (.cells #[.string x2] 9)
    have hSd6 : (fun W' : World => W'.cell? ⟨S + 1, 0, none⟩ = some (.pointer (some ⟨S, 0, none⟩))) (wd.alloc (.cells #[.string x2] 9)) := f6'.cell' hSd
    have y2 := f6'.cell' y1
    refine held_two 4 6 rfl rfl (by kernel_rfl) rfl rfl (fun K hK => ?_) (fun K hK => ?_)
    · go_simp
      refine hK _ _ hSd ?_
      clear hK K
      simp only [Act.put, List.setIfInBounds_toArray, List.set_cons_zero, List.set_cons_succ]
      refine held_step 6 rfl (by kernel_rfl) rfl (fun K hK => ?_)
      go_simp
      refine hK _ _ hSd6 ?_
      clear hK K
      simp only [Act.put, List.setIfInBounds_toArray, List.set_cons_zero, List.set_cons_succ]
      refine held_step 7 rfl (by kernel_rfl) rfl (fun K hK => ?_)
      have hr6 := owns_fr g5 f6
      refine wp_append_lies _ (.tmp 38) (.tmp 40) 26 rfl S 9 i0 z0 1 16 Try.underlying26 hi hz0 hz2 hz3 hz1 (by decide) (.slice a2 q c2) q (valsV pre) rfl hr6 ⟨wd.heap.size, 0, none⟩ 1 1 [.string x2] rfl rfl (Go.cell_one_new _ _ _) (by simp [Value.oneCell']) (by decide) (by unfold maxLen; omega) (by omega) (by have := f6.size; omega) _ rfl ?_
      intro g cap w7 hown hgr hat hlt7
      obtain ⟨p1, p2, p3⟩ := cp_after g1 g2 g5 f6 hgr
      have hSd7 : (fun W : World => W.cell? ⟨S + 1, 0, none⟩ = some (.pointer (some ⟨S, 0, none⟩))) w7 := cell_at p2 0
      refine hK _ _ hSd7 ?_
      clear hK K
      simp only [Act.put, List.setIfInBounds_toArray, List.set_cons_zero, List.set_cons_succ]
      refine held_take 8 rfl (by kernel_rfl) (by kernel_rfl) (by kernel_rfl) (fun _ _ _ _ h => h) rfl hSd7 ?_
      apply Exists.intro
      refine ⟨?_, ?_⟩
      focus (intro w' hw'; obtain e0 := hw'; go_simp; with_reducible rfl)
      simp only [Act.put, List.setIfInBounds_toArray, List.set_cons_zero, List.set_cons_succ]
      refine held_take 9 rfl (by kernel_rfl) (by kernel_rfl) (by kernel_rfl) (fun _ _ _ _ h => h) rfl hSd7 ?_
      apply Exists.intro
      refine ⟨?_, ?_⟩
      focus (intro w' hw'; obtain e0 := hw'; go_simp; with_reducible rfl)
      simp only [Act.put, List.setIfInBounds_toArray, List.set_cons_zero, List.set_cons_succ]
      refine held_step 10 rfl (by kernel_rfl) rfl (fun K hK => ?_)
      have p4 := cell_at p1 1
      have p5 := frozen_at p1 1
      have hSd8 : (fun W : World => W.cell? ⟨S + 1, 0, none⟩ = some (.pointer (some ⟨S, 0, none⟩))) (w7.setCell ⟨S, 1, none⟩ (.slice (some ⟨g, 0, none⟩) (q + 1) cap)) := cell_at (((But.set w7 ⟨S, 1, none⟩ _).heap (S + 1) (Array.getElem?_eq_some_iff.1 p2).1 (by simp)).trans p2) 0
      go_simp
      refine hK _ _ hSd8 ?_
      clear hK K
      simp only [Act.put, List.setIfInBounds_toArray, List.set_cons_zero, List.set_cons_succ]
      refine wpAnyH_done (by kernel_rfl) ?_ _
      exact cp_body HQ.out hMS g1 g2 g3 g4 g5 g6 f6 hown hgr hat gb hSw.out
    · go_simp
      refine hK _ _ hSd6 ?_
      clear hK K
      simp only [Act.put, List.setIfInBounds_toArray, List.set_cons_zero, List.set_cons_succ]
      refine held_step 4 rfl (by kernel_rfl) rfl (fun K hK => ?_)
      go_simp
      refine hK _ _ hSd6 ?_
      clear hK K
      simp only [Act.put, List.setIfInBounds_toArray, List.set_cons_zero, List.set_cons_succ]
      refine held_step 7 rfl (by kernel_rfl) rfl (fun K hK => ?_)
      have hr6 := owns_fr g5 f6
      refine wp_append_lies _ (.tmp 38) (.tmp 40) 26 rfl S 9 i0 z0 1 16 Try.underlying26 hi hz0 hz2 hz3 hz1 (by decide) (.slice a2 q c2) q (valsV pre) rfl hr6 ⟨wd.heap.size, 0, none⟩ 1 1 [.string x2] rfl rfl (Go.cell_one_new _ _ _) (by simp [Value.oneCell']) (by decide) (by unfold maxLen; omega) (by omega) (by have := f6.size; omega) _ rfl ?_
      intro g cap w7 hown hgr hat hlt7
      obtain ⟨p1, p2, p3⟩ := cp_after g1 g2 g5 f6 hgr
      have hSd7 : (fun W : World => W.cell? ⟨S + 1, 0, none⟩ = some (.pointer (some ⟨S, 0, none⟩))) w7 := cell_at p2 0
      refine hK _ _ hSd7 ?_
      clear hK K
      simp only [Act.put, List.setIfInBounds_toArray, List.set_cons_zero, List.set_cons_succ]
      refine held_take 8 rfl (by kernel_rfl) (by kernel_rfl) (by kernel_rfl) (fun _ _ _ _ h => h) rfl hSd7 ?_
      apply Exists.intro
      refine ⟨?_, ?_⟩
      focus (intro w' hw'; obtain e0 := hw'; go_simp; with_reducible rfl)
      simp only [Act.put, List.setIfInBounds_toArray, List.set_cons_zero, List.set_cons_succ]
      refine held_take 9 rfl (by kernel_rfl) (by kernel_rfl) (by kernel_rfl) (fun _ _ _ _ h => h) rfl hSd7 ?_
      apply Exists.intro
      refine ⟨?_, ?_⟩
      focus (intro w' hw'; obtain e0 := hw'; go_simp; with_reducible rfl)
      simp only [Act.put, List.setIfInBounds_toArray, List.set_cons_zero, List.set_cons_succ]
      refine held_step 10 rfl (by kernel_rfl) rfl (fun K hK => ?_)
      have p4 := cell_at p1 1
      have p5 := frozen_at p1 1
      have hSd8 : (fun W : World => W.cell? ⟨S + 1, 0, none⟩ = some (.pointer (some ⟨S, 0, none⟩))) (w7.setCell ⟨S, 1, none⟩ (.slice (some ⟨g, 0, none⟩) (q + 1) cap)) := cell_at (((But.set w7 ⟨S, 1, none⟩ _).heap (S + 1) (Array.getElem?_eq_some_iff.1 p2).1 (by simp)).trans p2) 0
      go_simp
      refine hK _ _ hSd8 ?_
      clear hK K
      simp only [Act.put, List.setIfInBounds_toArray, List.set_cons_zero, List.set_cons_succ]
      refine wpAnyH_done (by kernel_rfl) ?_ _
      exact cp_body HQ.out hMS g1 g2 g3 g4 g5 g6 f6 hown hgr hat gb hSw.out
  case done =>
    rintro D ys W hD rfl ⟨hC, gb⟩ hK
    have hCd := CpC.cst _ _ _ _ _ _ _ W _ (kept_putObj hK rfl (.deferred none)) (grownBy_putObj' W D (.deferred none)).size hC
    obtain ⟨G, hG⟩ := hCd.tb (by rw [rank_empty, List.drop_zero]) HW.out.1 HW.out.2
    obtain ⟨vs, g1, g2, g3, g4, g5, g6⟩ := hC
    have y0 : W.cell? ⟨S + 1, 0, none⟩ = some (.pointer (some ⟨S, 0, none⟩)) := cell_at g2 0
    gi_wp2
    refine ⟨by simp, .inl ⟨_, _, rfl, run_takeDeferred hK, ?_⟩⟩
    exact ⟨_, results_tmp rfl _ _ _, S, G, rfl, by rw [hS]; exact hG, by rw [hS]; exact gb.trans (belowK_b (w := w) (by omega) W D _ _ (by omega) hK rfl rfl)⟩
  case stop =>
    rintro D c pre W hD _ h _
    exact h.elim
theorem copy_tb {B T : Nat} {F : Nat → Prop} {l : Ps} {w : World} (h : Tb B F T l w) (hn : l.length ≤ 1000) :
    Calls Try.prog 24 #[.pointer (some ⟨T, 0, none⟩)] w fun e W' => ∃ C G, e = .returned (.pointer (some ⟨C, 0, none⟩)) ∧ Tb w.heap.size G C l W' ∧ Fr w W' :=
  callsIn_wide.1 (copy_in 6 (Nat.le_refl _) h hn)
end Go.Proofs.Ytgdmkiobidnhnaa
