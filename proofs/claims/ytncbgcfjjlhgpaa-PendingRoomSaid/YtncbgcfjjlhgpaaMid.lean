/-
  Add, between the list's store and the map's. Conditions: none.
-/
import Derived.Test.YtncbgcfjjlhgpaaClone
import Derived.OneCell
namespace Go.Proofs.Ytncbgcfjjlhgpaa
open Go.RowKit

theorem Rw.ne {B R mb : Nat} {v : Value} {most : Int} {es : List Et} {w : World} (h : Rw B R mb v most es w) : v.ownBlock ≠ some R ∧ v.ownBlock ≠ some mb := by
  have hm := h.map
  obtain ⟨l, clock, hm, _⟩ := hm
  have hk : ∀ g, v.ownBlock = some g → ∃ c, w.heap[g]? = some (.cells c 40) := by
    intro g hg
    rcases h.row.2 with ⟨rfl, _⟩ | ⟨g', cap, cur, rfl, _, hh, _⟩
    · cases hg
    · cases hg; exact ⟨cur, hh⟩
  constructor
  · intro e; obtain ⟨c, hc⟩ := hk R e; rw [h.cells] at hc; cases hc
  · intro e; obtain ⟨c, hc⟩ := hk mb e; rw [hm.heap] at hc; cases hc
structure Mid (B R mb : Nat) (v v' : Value) (most : Int) (es : List Et) (y : Et) (w w' : World) : Prop where
  cells : w'.heap[R]? = some (.cells #[.int .i64 most, v', .map (some mb)] 30)
  map : MapF w' mb (inOf (es.map Et.c))
  row : w'.ownsRow B 40 4 v' (es ++ [y]).length (etL (es ++ [y]))
  ok : ∀ e ∈ es ++ [y], EtOk w' e
  off : ∀ e ∈ es ++ [y], e.off (Of R mb v')
  lt : ∀ e ∈ es ++ [y], e.below w'.heap.size
  but : But (Of R mb v) w w'
  own : v'.ownBlock = v.ownBlock ∨ ∃ k, v'.ownBlock = some k ∧ w.heap.size ≤ k
theorem add_arm {B R mb : Nat} {v : Value} {most : Int} {es : List Et} {w3 wn w6 : World} {A : Obj} (h : Rw B R mb v most es w3) (hf : Fr w3 wn) (hg : (wn.alloc A).grownBy w6 v.ownBlock) :
    But (Of R mb v) w3 w6 ∧ w6.heap[R]? = some (.cells #[.int .i64 most, v, .map (some mb)] 30) ∧ w6.cell? ⟨R, 1, none⟩ = some v ∧ w6.frozen? ⟨R, 1, none⟩ = false ∧ ∀ u, But (Of R mb v) w3 (w6.setCell ⟨R, 1, none⟩ u) := by
  have h1 : But (Of R mb v) w3 w6 := (But.of_fr (F := fun _ => False) (hf.alloc A)).mix (But.of_grown hg) (fun _ _ h => h.elim) (fun _ _ h => .inr (.inr h))
  have h2 : w6.heap[R]? = some (.cells #[.int .i64 most, v, .map (some mb)] 30) := by
    have hl := h.ltR
    have hs := (hf.alloc A).size
    rw [hg.block R (by omega) (fun e => h.ne.1 e.symm), (hf.alloc A).heap hl, h.cells]
  exact ⟨h1, h2, cell_at h2 1, frozen_at h2 1, fun u => h1.mix (But.set w6 _ u) (fun _ _ h => h) (fun _ _ h => .inl h)⟩
theorem add_mid {B R mb : Nat} {v : Value} {most : Int} {es : List Et} {w3 wn w6 : World} {A : Obj} (h : Rw B R mb v most es w3) (hf : Fr w3 wn) {y : Et} (hy : EtOk wn y) (hyf : y.from w3.heap.size) (hyl : y.below wn.heap.size) {g' n cap' : Nat} (hn : es.length = n)
    (hown : w6.ownsRow B 40 4 (.slice (some ⟨g', 0, none⟩) (n + 1) cap') (n + 1) (etL es ++ etV y)) (hg : (wn.alloc A).grownBy w6 v.ownBlock) (hat : v.ownBlock = some g' ∨ g' = (wn.alloc A).heap.size) :
    Mid B R mb v (.slice (some ⟨g', 0, none⟩) (n + 1) cap') most es y w3 (w6.setCell ⟨R, 1, none⟩ (.slice (some ⟨g', 0, none⟩) (n + 1) cap')) := by
  obtain ⟨hb6, hR6, _, _, hb7⟩ := add_arm h hf hg
  have hl := h.ltR
  have hml := h.map.lt
  have hfa := hf.alloc A
  have hsa := hfa.size
  have hsn := hf.size
  have hA : (wn.alloc A).heap.size = wn.heap.size + 1 := by simp
  have hRg : g' ≠ R := by
    rcases hown.2 with ⟨e, _⟩ | ⟨g, cap, cur, e, _, hh, _⟩
    · cases e
    · cases e; intro e; rw [e, hR6] at hh; cases hh
  have hvl : ∀ k, v.ownBlock = some k → k < w3.heap.size := fun k hk => (h.row.lt k hk).2
  have q := But.set w6 ⟨R, 1, none⟩ (.slice (some ⟨g', 0, none⟩) (n + 1) cap')
  have hoff : ∀ e : Et, (∀ k, e.g.ownBlock = some k → (k < w3.heap.size ∧ ¬ Of R mb v k) ∨ (w3.heap.size ≤ k ∧ k < wn.heap.size)) → (∀ k, e.st.ownBlock = some k → (k < w3.heap.size ∧ ¬ Of R mb v k) ∨ (w3.heap.size ≤ k ∧ k < wn.heap.size)) → e.off (Of R mb (.slice (some ⟨g', 0, none⟩) (n + 1) cap')) := by
    have key : ∀ k, (k < w3.heap.size ∧ ¬ Of R mb v k) ∨ (w3.heap.size ≤ k ∧ k < wn.heap.size) → ¬ Of R mb (.slice (some ⟨g', 0, none⟩) (n + 1) cap') k := by
      intro k hk hc
      rcases hk with ⟨k1, k2⟩ | ⟨k1, k2⟩
      · rcases hc with rfl | rfl | hc
        · exact k2 (.inl rfl)
        · exact k2 (.inr (.inl rfl))
        · obtain rfl : g' = k := by simpa [Value.ownBlock] using hc
          rcases hat with hat | hat
          · exact k2 (.inr (.inr hat))
          · omega
      · rcases hc with rfl | rfl | hc
        · omega
        · omega
        · obtain rfl : g' = k := by simpa [Value.ownBlock] using hc
          rcases hat with hat | hat
          · have := hvl _ hat; omega
          · omega
    exact fun e h1 h2 => ⟨fun k hk => key k (h1 k hk), fun k hk => key k (h2 k hk)⟩
  have hyk : ∀ k, w3.heap.size ≤ k → k < wn.heap.size → (w6.setCell ⟨R, 1, none⟩ (.slice (some ⟨g', 0, none⟩) (n + 1) cap')).heap[k]? = wn.heap[k]? := by
    intro k k1 k2
    have hs6 := hg.size
    rw [q.heap k (by omega) (by show k ≠ R; omega), hg.block k (by omega) (fun e => by have := hvl k e.symm; omega)]
    exact ((Fr.refl wn).alloc A).heap k2
  have hsz : wn.heap.size ≤ (w6.setCell ⟨R, 1, none⟩ (.slice (some ⟨g', 0, none⟩) (n + 1) cap')).heap.size := by
    have := q.size; have := hg.size; omega
  have hmem : ∀ {e : Et}, e ∈ es ++ [y] → e ∈ es ∨ e = y := fun {e} he => (List.mem_append.1 he).imp id List.mem_singleton.1
  have hrow : (es ++ [y]).length = n + 1 := by simp [hn]
  have hcells : etL (es ++ [y]) = etL es ++ etV y := by simp [etL]
  refine ⟨set_block hR6 1 _, ?_, ?_, ?_, ?_, ?_, hb7 _, ?_⟩
  · exact h.map.kept (by rw [q.heap mb (by have := hg.size; omega) (fun e => h.apart e.symm), hg.block mb (by omega) (fun e => h.ne.2 e.symm), hfa.heap hml])
  · rw [hrow, hcells]
    exact ownsRow_setCell_other hown (fun e => hRg (by simpa [Value.ownBlock] using e)) _
  · intro e he
    rcases hmem he with he | rfl
    · exact (h.ok e he).kept (h.off e he) (hb7 _)
    · exact ⟨hy.g.kept (fun k hk hl => hyk k (hyf.1 k hk) hl) hsz, hy.st.kept (fun k hk hl => hyk k (hyf.2 k hk) hl) hsz⟩
  · intro e he
    rcases hmem he with he | rfl
    · exact hoff e (fun k hk => .inl ⟨(h.lt e he).1 k hk, (h.off e he).1 k hk⟩) (fun k hk => .inl ⟨(h.lt e he).2 k hk, (h.off e he).2 k hk⟩)
    · exact hoff _ (fun k hk => .inr ⟨hyf.1 k hk, hyl.1 k hk⟩) (fun k hk => .inr ⟨hyf.2 k hk, hyl.2 k hk⟩)
  · intro e he
    rcases hmem he with he | rfl
    · exact (h.lt e he).mono (hb7 _).size
    · exact hyl.mono hsz
  · rcases hat with hat | hat
    · exact .inl hat.symm
    · exact .inr ⟨g', rfl, by omega⟩
end Go.Proofs.Ytncbgcfjjlhgpaa
