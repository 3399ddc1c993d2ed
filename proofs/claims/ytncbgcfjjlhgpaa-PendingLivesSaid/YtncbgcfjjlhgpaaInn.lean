/-
  What comes in, opened: names, guards, steps, entries, and rows of them. Conditions: none.
-/
import Derived.Test.YtncbgcfjjlhgpaaOrder
import Derived.Deep.Slices
import Derived.ProofKit
import Derived.OpenShut
namespace Go.Proofs.Ytncbgcfjjlhgpaa
open Go.RowKit Go.ChangeShapes Go.WideShapes

section
variable {H : Type} {enc : TypeId × Value → H} {W : World} {held : Bool} {fuel : Nat} {cs : List Value} {x : DataW H × List MemPlace}

/-- A slice whose elements are opened each. -/
theorem open_elems {α : Type} [Inhabited α] {Q : α → Prop} {t e : TypeId} {z : Nat} (f : α → List Value) (hz : ∀ y, (f y).length = z) (hz0 : 0 < z) (ht : Try.prog.underlying t = some (.slice e)) (hc : Try.prog.cellsOf e = z)
    (hopen : ∀ {fuel cs x}, DataW.trod enc Try.prog W 0 (fun _ => true) held fuel e cs = some x → ∃ y, cs = f y ∧ Q y) (h : DataW.trod enc Try.prog W 0 (fun _ => true) held fuel t cs = some x) :
    ∃ (a : Option Addr) (n c : Nat) (l : List α), cs = [.slice a n c] ∧ l.length = n ∧ Sl W (.slice a n c) n z (l.flatMap f) ∧ ∀ y ∈ l, Q y := by
  rcases Deep.open_slice ht h with ⟨rfl, _⟩ | ⟨a, len, cap, m, n, D, Pl, rfl, _, hlc, _, hm, _, hel⟩
  · exact ⟨none, 0, 0, [], rfl, rfl, ⟨none, 0, rfl, by simp, Nat.le_refl _, .inl rfl⟩, fun _ h => (by cases h)⟩
  · rw [if_pos rfl] at hm
    have he : ∀ i, i < len → ∃ y, W.cells? 0 (a.add (i * z)) z = some (f y) ∧ Q y := by
      intro i hi
      obtain ⟨cs', h1, h2⟩ := hel i (by omega)
      obtain ⟨y, rfl, hq⟩ := hopen h2
      rw [hc] at h1
      exact ⟨y, h1, hq⟩
    obtain ⟨Y, hY⟩ := Deep.choose_lt he
    refine ⟨some a, len, cap, (List.range len).map Y, rfl, by simp, ⟨some a, cap, rfl, by rw [stride_len f z hz]; simp, hlc, ?_⟩, ?_⟩
    · rcases Nat.eq_zero_or_pos len with h0 | hpos
      · exact .inl h0
      · right
        obtain ⟨_, _, hcell⟩ := World.cells?_some (hY 0 hpos).1
        have h0 := hcell 0 hz0
        rw [List.getElem?_eq_getElem (by rw [hz]; exact hz0)] at h0
        obtain ⟨b, o, spot⟩ := a
        have hspot : spot = none := by have := World.cell?_spot h0; simpa [Addr.add] using this
        subst hspot
        have hblt : b < W.heap.size := by
          have h1 : W.cell? ⟨b, o, none⟩ = some ((f (Y 0))[0]'(by rw [hz]; exact hz0)) := by
            have h2 := h0
            rw [Nat.zero_mul, add_at, add_at] at h2
            simpa using h2
          rcases Nat.lt_or_ge b W.heap.size with hl | hl
          · exact hl
          · simp [World.cell?, Array.getElem?_eq_none hl] at h1
        refine ⟨b, o, rfl, hblt, fun j u hu => ?_⟩
        have hjr : j = (j / z) * z + j % z := by rw [Nat.mul_comm]; exact (Nat.div_add_mod j z).symm
        have hr : j % z < z := Nat.mod_lt _ hz0
        rw [hjr, stride_get f z hz _ _ _ hr] at hu
        rcases Nat.lt_or_ge (j / z) len with hi | hi
        · rw [List.getElem?_map, List.getElem?_range hi] at hu
          obtain ⟨_, _, hcell⟩ := World.cells?_some (hY _ hi).1
          have h1 := hcell _ hr
          rw [add_at, add_at, Nat.add_assoc, ← hjr] at h1
          rw [h1]; exact hu
        · rw [List.getElem?_eq_none (by simpa using hi)] at hu
          cases hu
    · intro y hy
      obtain ⟨i, hi, rfl⟩ := List.mem_map.1 hy
      exact (hY i (List.mem_range.1 hi)).2
/-- A struct's fields. -/
theorem open_fields {t : TypeId} {fs : Array Field} {k : Nat} (ht : Try.prog.underlying t = some (.struct fs)) (hk : Try.prog.cellsOf t = k) (h : DataW.trod enc Try.prog W 0 (fun _ => true) held fuel t cs = some x) :
    cs.length = k ∧ ∃ n, ∀ (i : Nat) (f : Field), fs[i]? = some f → ∃ y, DataW.trod enc Try.prog W 0 (fun _ => true) held n f.type ((cs.drop f.offset).take (Try.prog.cellsOf f.type)) = some y := by
  obtain ⟨xs, n, _, _, hl, hlen, hf⟩ := DataW.trod_struct ht h
  refine ⟨by rw [hl, hk], n, fun i f hi => ?_⟩
  have := hf i f hi
  have hilt : i < fs.size := (Array.getElem?_eq_some_iff.1 hi).1
  rw [List.getElem?_eq_getElem (by omega)] at this
  exact ⟨_, this⟩
theorem open_id (h : DataW.trod enc Try.prog W 0 (fun _ => true) held fuel 34 cs = some x) : ∃ p : Int × Int, cs = idC p ∧ True := by
  obtain ⟨hl, n, hf⟩ := open_fields (k := 2) Try.underlying34 (by kernel_rfl) h
  match cs, hl with
  | [c0, c1], _ =>
    obtain ⟨_, h0⟩ := hf 0 _ rfl
    obtain ⟨_, h1⟩ := hf 1 _ rfl
    obtain ⟨a, ha, _⟩ := DataW.trod_int Try.underlying3 h0
    obtain ⟨b, hb, _⟩ := DataW.trod_int Try.underlying3 h1
    cases (show [c0] = [_] from ha)
    cases (show [c1] = [_] from hb)
    exact ⟨(a, b), rfl, trivial⟩
theorem open_guard (h : DataW.trod enc Try.prog W 0 (fun _ => true) held fuel 57 cs = some x) : ∃ g : Gd, cs = gdV g ∧ True := by
  obtain ⟨hl, n, hf⟩ := open_fields (k := 3) Try.underlying57 (by kernel_rfl) h
  match cs, hl with
  | [c0, c1, c2], _ =>
    obtain ⟨_, h0⟩ := hf 0 _ rfl
    obtain ⟨_, h1⟩ := hf 1 _ rfl
    obtain ⟨_, h2⟩ := hf 2 _ rfl
    obtain ⟨a, ha, _⟩ := DataW.trod_int Try.underlying3 h0
    obtain ⟨b, hb, _⟩ := DataW.trod_string Try.underlying9 h1
    obtain ⟨c, hc, _⟩ := DataW.trod_string Try.underlying9 h2
    cases (show [c0] = [_] from ha)
    cases (show [c1] = [_] from hb)
    cases (show [c2] = [_] from hc)
    exact ⟨⟨a, b, c⟩, rfl, trivial⟩
theorem open_step (h : DataW.trod enc Try.prog W 0 (fun _ => true) held fuel 59 cs = some x) : ∃ g : Sp, cs = spV g ∧ True := by
  obtain ⟨hl, n, hf⟩ := open_fields (k := 5) Try.underlying59 (by kernel_rfl) h
  match cs, hl with
  | [c0, c1, c2, c3, c4], _ =>
    obtain ⟨_, h0⟩ := hf 0 _ rfl
    obtain ⟨_, h1⟩ := hf 1 _ rfl
    obtain ⟨_, h2⟩ := hf 2 _ rfl
    obtain ⟨_, h3⟩ := hf 3 _ rfl
    obtain ⟨_, h4⟩ := hf 4 _ rfl
    obtain ⟨a, ha, _⟩ := DataW.trod_int Try.underlying3 h0
    obtain ⟨b, hb, _⟩ := DataW.trod_string Try.underlying9 h1
    obtain ⟨c, hc, _⟩ := DataW.trod_string Try.underlying9 h2
    obtain ⟨d, hd, _⟩ := DataW.trod_string Try.underlying9 h3
    obtain ⟨e, he, _⟩ := DataW.trod_int Try.underlying2 h4
    cases (show [c0] = [_] from ha)
    cases (show [c1] = [_] from hb)
    cases (show [c2] = [_] from hc)
    cases (show [c3] = [_] from hd)
    cases (show [c4] = [_] from he)
    exact ⟨⟨a, b, c, d, e⟩, rfl, trivial⟩
instance : Inhabited Gd := ⟨⟨0, default, default⟩⟩
instance : Inhabited Sp := ⟨⟨0, default, default, default, 0⟩⟩
instance : Inhabited Et := ⟨⟨⟨0, 0, [], []⟩, .int .i64 0, .int .i64 0⟩⟩
theorem open_entry (h : DataW.trod enc Try.prog W 0 (fun _ => true) held fuel 40 cs = some x) : ∃ e : Et, cs = etV e ∧ EtOk W e := by
  obtain ⟨hl, n, hf⟩ := open_fields (k := 4) Try.underlying40 (by kernel_rfl) h
  match cs, hl with
  | [c0, c1, c2, c3], _ =>
    obtain ⟨_, h0⟩ := hf 0 _ rfl
    obtain ⟨_, h1⟩ := hf 1 _ rfl
    obtain ⟨p, hp, _⟩ := open_id h0
    obtain ⟨hl2, n2, hf2⟩ := open_fields (k := 2) Try.underlying38 (by kernel_rfl) h1
    obtain ⟨_, g0⟩ := hf2 0 _ rfl
    obtain ⟨_, g1⟩ := hf2 1 _ rfl
    obtain ⟨a, m, c, gs, e1, l1, s1, _⟩ := open_elems (Q := fun _ => True) (z := 3) gdV (fun _ => rfl) (by decide) Try.underlying35 (by kernel_rfl) (fun h => open_guard h) g0
    obtain ⟨a', m', c', ss, e2, l2, s2, _⟩ := open_elems (Q := fun _ => True) (z := 5) spV (fun _ => rfl) (by decide) Try.underlying36 (by kernel_rfl) (fun h => open_step h) g1
    obtain ⟨o, s⟩ := p
    cases (show [c0, c1] = [.int .i64 o, .int .i64 s] from hp)
    cases (show [c2] = [_] from e1)
    cases (show [c3] = [_] from e2)
    subst l1 l2
    exact ⟨⟨⟨o, s, gs, ss⟩, _, _⟩, rfl, ⟨s1, s2⟩⟩
theorem open_entries {v : Value} {d : DataW H} {ps : List MemPlace} (hv : Value.okWide Try.prog W .any 0 22 v) (h : DataW.Trod enc Try.prog W 0 (fun _ => true) held 22 v d ps) : ∃ a n c es, v = .slice a n c ∧ es.length = n ∧ Rd W (.slice a n c) es := by
  obtain ⟨fuel, h⟩ := h
  obtain ⟨a, n, c, es, e1, l1, s1, q1⟩ := open_elems (z := 4) etV (fun _ => rfl) (by decide) Try.underlying22 (by kernel_rfl) (fun h => open_entry h) h
  obtain ⟨a', n', c', rfl⟩ := okWide_slice Try.underlying22 hv
  cases (show [Value.slice a' n' c'] = [_] from e1)
  exact ⟨a, n, c, es, rfl, l1, ⟨by rw [l1]; exact s1, q1⟩⟩
theorem open_ids {v : Value} {d : DataW H} {ps : List MemPlace} (hv : Value.okWide Try.prog W .any 0 42 v) (h : DataW.Trod enc Try.prog W 0 (fun _ => true) held 42 v d ps) : ∃ a n c ids, v = .slice a n c ∧ ids.length = n ∧ Sl W (.slice a n c) n 2 (idL ids) := by
  obtain ⟨fuel, h⟩ := h
  obtain ⟨a, n, c, es, e1, l1, s1, _⟩ := open_elems (Q := fun _ => True) (z := 2) idC (fun _ => rfl) (by decide) Try.underlying42 (by kernel_rfl) (fun h => open_id h) h
  obtain ⟨a', n', c', rfl⟩ := okWide_slice Try.underlying42 hv
  cases (show [Value.slice a' n' c'] = [_] from e1)
  exact ⟨a, n, c, es, rfl, l1, s1⟩
end
end Go.Proofs.Ytncbgcfjjlhgpaa
