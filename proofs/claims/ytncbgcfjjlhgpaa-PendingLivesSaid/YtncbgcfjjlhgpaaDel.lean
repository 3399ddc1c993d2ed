/-
  The library's DeleteFunc at the closure that Drop hands to it. Conditions: the memory is as it says.
-/
import Derived.Test.YtncbgcfjjlhgpaaClo
import Derived.Laws.IdiomCopy
namespace Go.Proofs.Ytncbgcfjjlhgpaa
open Go.RowKit

/-! ### Stores into a list that is owned -/
theorem etL_set (e : Et) : ∀ (l : List Et) (i : Nat), i < l.length → (((((etL l).set (i * 4) (.int .i64 e.c.o)).set (i * 4 + 1) (.int .i64 e.c.s)).set (i * 4 + 2) e.g).set (i * 4 + 3) e.st) = etL (l.set i e)
  | [], _, h => absurd h (Nat.not_lt_zero _)
  | x :: l, 0, _ => by simp [etL, etV]
  | x :: l, i + 1, h => by
    have ih := etL_set e l i (by simpa using h)
    have h0 : (i + 1) * 4 = i * 4 + 1 + 1 + 1 + 1 := by omega
    have hx : etL (x :: l) = .int .i64 x.c.o :: .int .i64 x.c.s :: x.g :: x.st :: etL l := by simp [etL, etV]
    have hy : etL ((x :: l).set (i + 1) e) = .int .i64 x.c.o :: .int .i64 x.c.s :: x.g :: x.st :: etL (l.set i e) := by simp [etL, etV]
    rw [hx, hy, ← ih, h0]
    have s1 : i * 4 + 1 + 1 + 1 + 1 + 1 = (i * 4 + 1) + 1 + 1 + 1 + 1 := rfl
    have s2 : i * 4 + 1 + 1 + 1 + 1 + 2 = (i * 4 + 2) + 1 + 1 + 1 + 1 := by omega
    have s3 : i * 4 + 1 + 1 + 1 + 1 + 3 = (i * 4 + 3) + 1 + 1 + 1 + 1 := by omega
    rw [s2, s3]
    simp only [List.set_cons_succ]
theorem own_block {w : World} {B n g cap : Nat} {xs : List Value} (h : w.ownsRow B 40 4 (.slice (some ⟨g, 0, none⟩) n cap) n xs) : ∃ cur, w.heap[g]? = some (.cells cur 40) ∧ n ≤ cap ∧ cap ≤ maxLen ∧ cur.size = cap * 4 ∧ cur.toList.take (n * 4) = xs ∧ B ≤ g := by
  rcases h.2 with ⟨e, _⟩ | ⟨g', cap', cur, e, hB, hg, h1, h2, h3, h4⟩
  · cases e
  · cases e; exact ⟨cur, hg, h1, h2, h3, h4, hB⟩
theorem own_put {w : World} {B n g cap : Nat} {l : List Et} (h : w.ownsRow B 40 4 (.slice (some ⟨g, 0, none⟩) n cap) n (etL l)) (hl : l.length = n) (i : Nat) (hi : i < n) (e : Et) :
    ((((w.setCell ⟨g, i * 4, none⟩ (.int .i64 e.c.o)).setCell ⟨g, i * 4 + 1, none⟩ (.int .i64 e.c.s)).setCell ⟨g, i * 4 + 2, none⟩ e.g).setCell ⟨g, i * 4 + 3, none⟩ e.st).ownsRow B 40 4 (.slice (some ⟨g, 0, none⟩) n cap) n (etL (l.set i e)) := by
  obtain ⟨cur, hg, h1, h2, h3, h4, hB⟩ := own_block h
  have k4 := set_block (set_block (set_block (set_block hg (i * 4) (.int .i64 e.c.o)) (i * 4 + 1) (.int .i64 e.c.s)) (i * 4 + 2) e.g) (i * 4 + 3) e.st
  refine ⟨by rw [etL_len, List.length_set, hl], .inr ⟨g, cap, _, rfl, hB, k4, h1, h2, by simpa using h3, ?_⟩⟩
  rw [← etL_set e l i (by omega), ← h4]
  simp only [Array.toList_setIfInBounds, List.take_set]
theorem own_at {w : World} {B n g cap : Nat} {l : List Et} (h : w.ownsRow B 40 4 (.slice (some ⟨g, 0, none⟩) n cap) n (etL l)) {k : Nat} {e : Et} (hk : l[k]? = some e) : ∀ j, j < 4 → w.cell? ⟨g, k * 4 + j, none⟩ = (etV e)[j]? := by
  intro j hj
  have h1 : (etL l)[k * 4 + j]? = (etV e)[j]? := by rw [etL_at l k j hj, hk]; rfl
  have h2 : j < (etV e).length := hj
  rw [List.getElem?_eq_getElem h2] at h1 ⊢
  have := h.cells (g := g) rfl _ _ h1
  rw [add_at, Nat.zero_add] at this
  exact this
theorem own_kept {w w' : World} {B n g cap : Nat} {xs : List Value} (h : w.ownsRow B 40 4 (.slice (some ⟨g, 0, none⟩) n cap) n xs) (hk : w'.heap[g]? = w.heap[g]?) : w'.ownsRow B 40 4 (.slice (some ⟨g, 0, none⟩) n cap) n xs := by
  obtain ⟨cur, hg, h1, h2, h3, h4, hB⟩ := own_block h
  exact ⟨h.1, .inr ⟨g, cap, cur, rfl, hB, hk.trans hg, h1, h2, h3, h4⟩⟩
/-- Many stores, as the block sees them. -/
def sets (cs : Array Value) (o : Nat) : List Value → Array Value
  | [] => cs
  | v :: r => sets (cs.setIfInBounds o v) (o + 1) r
theorem setCells_block {b : Nat} {t : TypeId} {fr : Nat × Nat} : ∀ (vs : List Value) (o : Nat) (w : World) (cs : Array Value), w.heap[b]? = some (.cells cs t fr) → (w.setCells b o vs).heap[b]? = some (.cells (sets cs o vs) t fr)
  | [], _, _, _, h => h
  | v :: r, o, w, _, h => setCells_block r (o + 1) (w.setCell ⟨b, o, none⟩ v) _ (set_block h o v)
theorem sets_size : ∀ (vs : List Value) (cs : Array Value) (o : Nat), (sets cs o vs).size = cs.size
  | [], _, _ => rfl
  | v :: r, _, o => by rw [sets, sets_size r]; simp
theorem sets_take (m : Nat) : ∀ (vs : List Value) (cs : Array Value) (o : Nat), m ≤ o → (sets cs o vs).toList.take m = cs.toList.take m
  | [], _, _, _ => rfl
  | v :: r, _, o, h => by
    rw [sets, sets_take m r _ _ (by omega), Array.toList_setIfInBounds, List.take_set, List.set_eq_of_length_le]
    rw [List.length_take]; omega
theorem But.sets (b : Nat) : ∀ (vs : List Value) (o : Nat) (w : World), But (fun k => k = b) w (w.setCells b o vs)
  | [], _, w => But.refl _ w
  | v :: r, o, w => (But.set w ⟨b, o, none⟩ v).trans (But.sets b r (o + 1) _)
/-- clear of a list's tail. -/
theorem run_clear40 {w : World} {b o m c : Nat} {cs : Array Value} (hm : 0 < m) (hb : w.heap[b]? = some (.cells cs 40)) (hsz : o + m * 4 ≤ cs.size) (ty : TypeId) :
    ∃ vs, (Builtin.clear_ #[22] ty #[.slice (some ⟨b, o, none⟩) m c]).run Try.prog w = .ok (.tuple #[]) (w.setCells b o vs) := by
  obtain ⟨vs, hvs⟩ : ∃ vs, vs = (Builtin.zeroCells #[.int .i64 0, .int .i64 0, .slice none 0 0, .slice none 0 0] m).toList := ⟨_, rfl⟩
  have hl : vs.length = m * 4 := by rw [hvs]; simp [Builtin.zeroCells]
  have h1 : ∀ v ∈ vs, v.oneCell' = true := by
    intro v hv
    rw [hvs] at hv
    simp only [Builtin.zeroCells, Array.toList_map, List.mem_map] at hv
    obtain ⟨i, _, rfl⟩ := hv
    have hi : i % 4 < 4 := Nat.mod_lt _ (by decide)
    show (#[Value.int .i64 0, .int .i64 0, .slice none 0 0, .slice none 0 0][i % 4]!).oneCell' = true
    generalize i % 4 = r at hi
    match r, hi with
    | 0, _ => rfl
    | 1, _ => rfl
    | 2, _ => rfl
    | 3, _ => rfl
  have hc : ∀ j, j < vs.length → (w.cell? ⟨b, o + 0 + j, none⟩).isSome = true := by
    intro j hj
    rw [cell_at hb]
    rw [Array.getElem?_eq_getElem (by omega)]
    rfl
  have hf : ∀ j, j < vs.length → w.frozen? ⟨b, o + 0 + j, none⟩ = false := fun j _ => frozen_at hb _
  have hst := run_storeCells_cells (P := Try.prog) b o vs 0 w hc hf h1
  rw [Nat.add_zero] at hst
  refine ⟨vs, ?_⟩
  obtain ⟨m, rfl⟩ : ∃ k, m = k + 1 := ⟨m - 1, by omega⟩
  rw [hvs] at hst ⊢
  simp [Builtin.clear_, run_underlying Try.underlying22, Value.cells, hst]
theorem wpList_clear {ops : Array Oper} {rest : List Oper} {o : Oper} {a : Act} {Q : Exit → Act → World → Prop} {w w' : World} {X v' : Value} (hgd : o.guard = none) (s : Operand) (t : TypeId)
    (ho : o.op = .call { callee := .builtin .clear, args := #[s], argTypes := #[t] }) (hs : a.eval s = X)
    (hr : (Builtin.clear_ #[t] o.type #[X]).run Try.prog w = .ok v' w') (h : wpList Try.prog ops Q rest (a.put o.dst v') w') : wpList Try.prog ops Q (o :: rest) a w := by
  refine wpList_plain hgd fun K hK => ?_
  unfold Oper.wp execOp
  simp only [ho, resolve, invoke, builtin, Sem.run_bind, Sem.run_pure, Result.andThen_ok, List.map_toArray, List.map_cons, List.map_nil, hs, hr]
  exact hK _ _ h
/-! ### What stays -/
def stay (ids : List (Int × Int)) (es : List Et) : List Et := es.filter fun e => !mem ids e.c.o e.c.s
theorem stay_map (ids : List (Int × Int)) (es : List Et) : (stay ids es).map Et.c = left ids (es.map Et.c) := by
  unfold stay left; rw [List.filter_map]; rfl
theorem stay_yes {ids : List (Int × Int)} {es : List Et} {k : Nat} {e : Et} (hk : es[k]? = some e) (h : mem ids e.c.o e.c.s = false) : stay ids (es.take (k + 1)) = stay ids (es.take k) ++ [e] := by
  unfold stay; rw [List.take_add_one, hk]; simp [h]
theorem stay_no {ids : List (Int × Int)} {es : List Et} {k : Nat} {e : Et} (hk : es[k]? = some e) (h : mem ids e.c.o e.c.s = true) : stay ids (es.take (k + 1)) = stay ids (es.take k) := by
  unfold stay; rw [List.take_add_one, hk]; simp [h]
theorem stay_all {ids : List (Int × Int)} {es : List Et} (h : none_ ids es) : stay ids es = es := by
  unfold stay; rw [List.filter_eq_self]; intro e he; simp [h e he]
theorem stay_le (ids : List (Int × Int)) (es : List Et) : (stay ids es).length ≤ es.length := List.length_filter_le _ _
/-- The map behind the names that were dropped. -/
def dropF (ids : List (Int × Int)) (es : List Et) (f : Int → Int → Int) : Int → Int → Int := fun o s => if (has (es.map Et.c) o s && mem ids o s) = true then 0 else f o s
theorem drop_step {ids : List (Int × Int)} {es : List Et} {k : Nat} {e : Et} (hk : es[k]? = some e) (f : Int → Int → Int) : after ids (dropF ids (es.take k) f) e.c.o e.c.s = dropF ids (es.take (k + 1)) f := by
  have hh : ∀ o s, has ((es.take (k + 1)).map Et.c) o s = (has ((es.take k).map Et.c) o s || (e.c.o == o && e.c.s == s)) := by
    intro o s
    rw [List.take_add_one, hk, List.map_append]
    unfold has
    rw [List.any_append]
    simp
  funext o s
  unfold after dropF
  rw [hh]
  by_cases hc : o = e.c.o ∧ s = e.c.s
  · obtain ⟨rfl, rfl⟩ := hc
    cases hm : mem ids e.c.o e.c.s with
    | true => simp [upd]
    | false => simp [hm]
  · have hb : (e.c.o == o && e.c.s == s) = false := by
      cases hb : (e.c.o == o && e.c.s == s) with
      | false => rfl
      | true =>
        simp only [Bool.and_eq_true, beq_iff_eq] at hb
        exact absurd ⟨hb.1.symm, hb.2.symm⟩ hc
    rw [hb, Bool.or_false]
    split
    · unfold upd; rw [if_neg hc]
    · rfl
theorem drop_none {ids : List (Int × Int)} {es : List Et} (h : none_ ids es) (f : Int → Int → Int) : dropF ids es f = f := by
  funext o s
  unfold dropF
  rw [if_neg]
  intro hh
  simp only [Bool.and_eq_true] at hh
  obtain ⟨c, hc, hq⟩ := List.any_eq_true.1 hh.1
  obtain ⟨e, he, rfl⟩ := List.mem_map.1 hc
  simp only [Bool.and_eq_true, beq_iff_eq] at hq
  have := h e he
  rw [hq.1, hq.2, hh.2] at this
  cases this
theorem drop_in (ids : List (Int × Int)) (es : List Et) : dropF ids es (inOf (es.map Et.c)) = inOf ((stay ids es).map Et.c) := by
  funext o s
  unfold dropF inOf
  have : has ((stay ids es).map Et.c) o s = (has (es.map Et.c) o s && !mem ids o s) := by
    rw [stay_map]
    unfold left has
    rw [List.any_filter, Bool.eq_iff_iff]
    simp only [List.any_eq_true, Bool.and_eq_true, beq_iff_eq]
    constructor
    · rintro ⟨c, hc, hm, h1, h2⟩
      rw [h1, h2] at hm
      exact ⟨⟨c, hc, h1, h2⟩, hm⟩
    · rintro ⟨⟨c, hc, h1, h2⟩, hm⟩
      rw [← h1, ← h2] at hm
      exact ⟨c, hc, hm, h1, h2⟩
  rw [this]
  cases has (es.map Et.c) o s <;> cases mem ids o s <;> rfl
/-- What the library's loop leaves ahead of the place k. -/
def mid (ids : List (Int × Int)) (es : List Et) (k : Nat) : List Et := stay ids (es.take k) ++ es.drop (stay ids (es.take k)).length
theorem mid_le (ids : List (Int × Int)) (es : List Et) (k : Nat) : (stay ids (es.take k)).length ≤ k := Nat.le_trans (stay_le _ _) (by rw [List.length_take]; omega)
theorem mid_len {ids : List (Int × Int)} {es : List Et} {k : Nat} (hk : k ≤ es.length) : (mid ids es k).length = es.length := by
  have := mid_le ids es k
  unfold mid; rw [List.length_append, List.length_drop]; omega
theorem mid_at (ids : List (Int × Int)) (es : List Et) (k j : Nat) (hj : (stay ids (es.take k)).length ≤ j) : (mid ids es k)[j]? = es[j]? := by
  unfold mid
  rw [List.getElem?_append_right hj, List.getElem?_drop]
  congr 1; omega
theorem mid_yes {ids : List (Int × Int)} {es : List Et} {k : Nat} {e : Et} (hk : es[k]? = some e) (h : mem ids e.c.o e.c.s = false) : (mid ids es k).set (stay ids (es.take k)).length e = mid ids es (k + 1) := by
  have hlt := (List.getElem?_eq_some_iff.1 hk).1
  have hle := mid_le ids es k
  unfold mid
  rw [stay_yes hk h, List.set_append_right _ _ (Nat.le_refl _), Nat.sub_self]
  have hd : ∀ m, m < es.length → (es.drop m).set 0 e = e :: es.drop (m + 1) := fun m hm => by rw [List.drop_eq_getElem_cons hm]; rfl
  rw [hd _ (by omega)]
  simp
theorem mid_no {ids : List (Int × Int)} {es : List Et} {k : Nat} {e : Et} (hk : es[k]? = some e) (h : mem ids e.c.o e.c.s = true) : mid ids es k = mid ids es (k + 1) := by
  unfold mid; rw [stay_no hk h]
/-- Slices, written out. -/
def Formed (es : List Et) : Prop := ∀ e ∈ es, (∃ a n c, e.g = .slice a n c) ∧ ∃ a n c, e.st = .slice a n c
def DelPost (mb B : Nat) (v : Value) (ids : List (Int × Int)) (f : Int → Int → Int) (es : List Et) (W : World) (e : Ending) (w' : World) : Prop :=
  ∃ a n c, e = .returned (.slice a n c) ∧ n = (stay ids es).length ∧ w'.ownsRow B 40 4 (.slice a n c) n (etL (stay ids es)) ∧ MapF w' mb (dropF ids es f) ∧ But (fun k => k = mb ∨ v.ownBlock = some k) W w' ∧ (Value.slice a n c).ownBlock = v.ownBlock
set_option maxHeartbeats 4000000 in
theorem del_walk {B B1 G X S R mb : Nat} {most : Int} {v : Value} {ids : List (Int × Int)} {f : Int → Int → Int} {w : World} (h : Cl B1 G X S R mb most v ids f w) {a : Option Addr} {n c : Nat} {es : List Et} (hs : w.ownsRow B 40 4 (.slice a n c) n (etL es)) (hn : n ≤ 1000) (hl : es.length = n) (hfm : Formed es)
    (ho1 : (Value.slice a n c).ownBlock ≠ some mb) (ho2 : (Value.slice a n c).ownBlock ≠ some R) (ho3 : ∀ k, (Value.slice a n c).ownBlock = some k → k < B1) :
    Calls Try.prog 26 #[.slice a n c, .func (.func 27) #[] #[.pointer (some ⟨G, 0, none⟩), .pointer (some ⟨X, 0, none⟩)]] w (DelPost mb B (.slice a n c) ids f es w) := by
  have hidx := idx_walk h (owns_sl hs) hn hl ho1
  have eg := enters27
  unfold Enters at eg
  go_enter Try.func26, Try.ntmps26
  go_wp2_with fail
  refine hidx.mono ?_
  rintro e w1 ⟨hb1, ⟨rfl, hno, hm1⟩ | ⟨j, x, hx, rfl, hno, hxm, hm1⟩⟩
  · clear hidx
    have HH := Go.Lib.hid (And.intro hno hl)
    clear hno hl
    go_wp2_with fail
    go_ret
    have hst := stay_all HH.out.1
    refine ⟨a, n, c, rfl, by rw [hst]; exact HH.out.2.symm, by rw [hst]; exact hs.kept hb1.grown (.inr ho1), by rw [drop_none HH.out.1]; exact hm1, hb1.mix (But.refl (fun _ => False) _) (fun _ _ h => .inl h) (fun _ _ h => h.elim), rfl⟩
  · have hjn : j < n := by have := (List.getElem?_eq_some_iff.1 hx).1; omega
    obtain ⟨g, hag⟩ : ∃ g, a = some ⟨g, 0, none⟩ := by
      rcases hs.2 with ⟨_, h0⟩ | ⟨g, _, _, e, _⟩
      · omega
      · cases e; exact ⟨g, rfl⟩
    subst hag
    have h1 := hs.kept hb1.grown (.inr ho1)
    have q1 : Cl B1 G X S R mb most v ids (dropF ids (es.take (j + 1)) f) w1 := h.mapped hb1 (by
      have := drop_step (ids := ids) hx f
      rw [drop_none hno] at this
      rw [← this]
      unfold after
      rw [if_pos hxm]
      exact hm1)
    have e1 : (stay ids (es.take (j + 1))).length = j := by rw [stay_no hx hxm, stay_all hno, List.length_take]; omega
    have e2 : mid ids es (j + 1) = es := by
      rw [← mid_no hx hxm]
      unfold mid
      rw [stay_all hno, List.length_take, Nat.min_eq_left (by omega), List.take_append_drop]
    have hgm : g ≠ mb := fun e => ho1 (by rw [← e]; rfl)
    have hgR : g ≠ R := fun e => ho2 (by rw [← e]; rfl)
    have hgB := ho3 g rfl
    have hub : But (fun k => k = mb ∨ k = g) w w1 := hb1.mix (But.refl (fun _ => False) _) (fun _ _ h => .inl h) (fun _ _ h => h.elim)
    clear hidx h hs hno hx hxm hm1 ho1 ho2 ho3 hb1
    have hj1 : (((j : Nat) : Int) == -1) = false := by rw [beq_eq_false_iff_ne]; omega
    go_wp2_with fail
    clear hj1
    go_loopw [5, 6] (fun i jj wk => ∃ (k : Nat), i = .int .i64 ((stay ids (es.take k)).length : Nat) ∧ jj = .int .i64 k ∧ (stay ids (es.take k)).length < k ∧ k ≤ n ∧ Cl B1 G X S R mb most v ids (dropF ids (es.take k) f) wk ∧ wk.ownsRow B 40 4 (.slice (some ⟨g, 0, none⟩) n c) n (etL (mid ids es k)) ∧ But (fun k => k = mb ∨ k = g) w wk) (fun _ jj _ => n - (intOf jj).toNat)
    case atStart => exact ⟨j + 1, by rw [e1], by go_num, by omega, by omega, q1, by rw [e2]; exact h1, hub⟩
    case round =>
      clear e1 e2 q1 h1 hub
      obtain ⟨k, rfl, rfl, hik, hk, hc, hs, hb⟩ := hrel
      obtain ⟨cur, hg, hcap, hcm, hcz, hct, hBg⟩ := own_block hs
      obtain ⟨i, hi⟩ : ∃ i, (stay ids (es.take k)).length = i := ⟨_, rfl⟩
      have hglt := (Array.getElem?_eq_some_iff.1 hg).1
      by_cases hlt : k < n
      · obtain ⟨e, he⟩ : ∃ e, es[k]? = some e := ⟨_, List.getElem?_eq_getElem (by omega)⟩
        obtain ⟨u, hu⟩ : ∃ u, es[i]? = some u := ⟨_, List.getElem?_eq_getElem (by omega)⟩
        have cc := own_at hs ((mid_at ids es k k (by omega)).trans he)
        have dd := own_at hs ((mid_at ids es k i (by omega)).trans hu)
        have hf1 := hfm e (List.mem_of_getElem? he)
        have hf2 := hfm u (List.mem_of_getElem? hu)
        have hst := drop_step (ids := ids) he f
        have hmy := fun h => mid_yes (ids := ids) he h
        have hmn := fun h => mid_no (ids := ids) he h
        have hsy := fun h => stay_yes (ids := ids) he h
        have hsn := fun h => stay_no (ids := ids) he h
        rw [hi] at hmy
        have hml : (mid ids es k).length = n := by rw [mid_len (by omega), hl]
        clear he hu hct hcz hcm hBg hfm
        obtain ⟨⟨eo, es', gs, ss⟩, eg', est⟩ := e
        obtain ⟨⟨uo, us', ugs, uss⟩, ug, ust⟩ := u
        obtain ⟨⟨a1, n1, c1, rfl⟩, ⟨a2, n2, c2, rfl⟩⟩ : (∃ a n c, eg' = .slice a n c) ∧ ∃ a n c, est = .slice a n c := hf1
        obtain ⟨⟨a3, n3, c3, rfl⟩, ⟨a4, n4, c4, rfl⟩⟩ : (∃ a n c, ug = .slice a n c) ∧ ∃ a n c, ust = .slice a n c := hf2
        dsimp only at hst hmy hmn hsy hsn
        have hput := fun (w' : World) (hw' : w'.heap[g]? = wr.heap[g]?) => own_put (own_kept hs hw') hml i (by omega) ⟨⟨eo, es', gs, ss⟩, .slice a1 n1 c1, .slice a2 n2 c2⟩
        dsimp only at hput
        have x0 := cc 0 (by decide)
        have x1 := cc 1 (by decide)
        have x2 := cc 2 (by decide)
        have x3 := cc 3 (by decide)
        have y0 := dd 0 (by decide)
        have y1 := dd 1 (by decide)
        have y2 := dd 2 (by decide)
        have y3 := dd 3 (by decide)
        simp only [etV, List.getElem?_cons_zero, List.getElem?_cons_succ, Nat.add_zero] at x0 x1 x2 x3 y0 y1 y2 y3
        clear cc dd
        rw [hi] at hik ⊢
        have fa := (Fr.refl wr).alloc (.cells #[.int .i64 eo, .int .i64 es', .slice a1 n1 c1, .slice a2 n2 c2] 40)
        have ba := heap_alloc_new wr (.cells #[.int .i64 eo, .int .i64 es', .slice a1 n1 c1, .slice a2 n2 c2] 40)
        have hcl := clo_walk (hc.mapped (But.of_fr fa) (hc.m.kept (fa.heap hc.m.lt))) eo es' (.slice a1 n1 c1) (.slice a2 n2 c2)
        have hNl : wr.heap.size < (wr.alloc (.cells #[.int .i64 eo, .int .i64 es', .slice a1 n1 c1, .slice a2 n2 c2] 40)).heap.size := by simp
        have hNm : wr.heap.size ≠ mb := by have := hc.m.lt; omega
        have HH := Go.Lib.hid (And.intro hi (And.intro hl (And.intro hml (And.intro hmy (And.intro hmn (And.intro hsy (And.intro hsn (And.intro hst hput))))))))
        have HS := Go.Lib.hid hs
        clear hi hl hml hmy hmn hsy hsn hst hput hs
        go_wp2_with fail
        refine hcl.mono ?_
        rintro e w4 ⟨rfl, hm4, hb4⟩
        obtain ⟨hi, hl, hml, hmy, hmn, hsy, hsn, hst, hput⟩ := HH.out
        clear hcl x0 x1 x2 x3
        have b4 := (hb4.heap _ hNl hNm).trans ba
        have hg4 : w4.heap[g]? = wr.heap[g]? := (hb4.heap g (by omega) hgm).trans (fa.heap hglt)
        have hc4 := (hc.mapped (But.of_fr fa) (hc.m.kept (fa.heap hc.m.lt))).mapped hb4 hm4
        rw [hst] at hc4
        have hub := hb.trans ((But.of_fr (F := fun k => k = mb ∨ k = g) fa).mix hb4 (fun _ _ h => h) (fun _ _ h => .inl h))
        cases hme : mem ids eo es' with
        | true =>
          have HM := Go.Lib.hid (And.intro hme (And.intro hi (And.intro (hmn hme) (hsn hme))))
          clear hme hi hl hml hmy hmn hsy hsn hst hput ba b4 y0 y1 y2 y3 HH
          go_wp2_with fail
          go_roundw
          case rel => exact ⟨k + 1, by rw [HM.out.2.2.2, HM.out.2.1], by go_num, by rw [HM.out.2.2.2, HM.out.2.1]; omega, by omega, hc4, HM.out.2.2.1 ▸ own_kept HS.out hg4, hub⟩
          case measure => simp [intOf]; omega
        | false =>
          have z0 : w4.cell? ⟨wr.heap.size, 0, none⟩ = some (.int .i64 eo) := cell_at b4 0
          have z1 : w4.cell? ⟨wr.heap.size, 1, none⟩ = some (.int .i64 es') := cell_at b4 1
          have z2 : w4.cell? ⟨wr.heap.size, 2, none⟩ = some (.slice a1 n1 c1) := cell_at b4 2
          have z3 : w4.cell? ⟨wr.heap.size, 3, none⟩ = some (.slice a2 n2 c2) := cell_at b4 3
          have r0 := (World.cell?_of_block (a := ⟨g, i * 4, none⟩) hg4).trans y0
          have r1 := (World.cell?_of_block (a := ⟨g, i * 4 + 1, none⟩) hg4).trans y1
          have r2 := (World.cell?_of_block (a := ⟨g, i * 4 + 2, none⟩) hg4).trans y2
          have r3 := (World.cell?_of_block (a := ⟨g, i * 4 + 3, none⟩) hg4).trans y3
          have t0 := frozen_at (hg4.trans hg) (i * 4)
          have t1 := frozen_at (hg4.trans hg) (i * 4 + 1)
          have t2 := frozen_at (hg4.trans hg) (i * 4 + 2)
          have t3 := frozen_at (hg4.trans hg) (i * 4 + 3)
          have HM := Go.Lib.hid (And.intro hme (And.intro hi (And.intro (hmy hme) (And.intro (hsy hme) (hput w4 hg4)))))
          clear hme hi hl hml hmy hmn hsy hsn hst hput ba b4 y0 y1 y2 y3 HH
          go_wp2_with fail
          have hput := HM.out.2.2.2.2
          have u5 : But (fun k => k = g) w4 ((((w4.setCell ⟨g, i * 4, none⟩ (.int .i64 eo)).setCell ⟨g, i * 4 + 1, none⟩ (.int .i64 es')).setCell ⟨g, i * 4 + 2, none⟩ (.slice a1 n1 c1)).setCell ⟨g, i * 4 + 3, none⟩ (.slice a2 n2 c2)) :=
            (((But.set w4 ⟨g, i * 4, none⟩ _).trans (But.set _ ⟨g, i * 4 + 1, none⟩ _)).trans (But.set _ ⟨g, i * 4 + 2, none⟩ _)).trans (But.set _ ⟨g, i * 4 + 3, none⟩ _)
          generalize (((w4.setCell ⟨g, i * 4, none⟩ (.int .i64 eo)).setCell ⟨g, i * 4 + 1, none⟩ (.int .i64 es')).setCell ⟨g, i * 4 + 2, none⟩ (.slice a1 n1 c1)).setCell ⟨g, i * 4 + 3, none⟩ (.slice a2 n2 c2) = w5 at *
          have hc5 := hc4.but u5 (fun k hk e => by omega) (fun e => hgR e.symm) (hc4.m.kept (u5.heap mb hc4.m.lt (fun e => hgm e.symm)))
          have hsl : (stay ids (es.take (k + 1))).length = i + 1 := by rw [HM.out.2.2.2.1, List.length_append, HM.out.2.1]; rfl
          refine ⟨⟨k + 1, by rw [hsl]; go_num, by go_num, by omega, by omega, hc5, ?_, hub.mix u5 (fun _ _ h => h) (fun _ _ h => .inr h)⟩, by simp [intOf]; omega⟩
          rw [← HM.out.2.2.1]
          exact hput
      · obtain rfl : n = k := by omega
        rw [hi] at hik ⊢
        obtain ⟨vs, hclr⟩ := run_clear40 (w := wr) (b := g) (o := i * 4) (m := n - i) (c := c - i) (by omega) hg (by omega) 0
        have b5 := setCells_block vs (i * 4) wr cur hg
        have u5 := But.sets g vs (i * 4) wr
        have HH := Go.Lib.hid (And.intro hi (And.intro hct (And.intro hcz (And.intro hl (And.intro hcm hBg)))))
        clear hi hct hcz hl hs hfm hcm hBg
        have hic : i ≤ c := by omega
        go_wp2_with (at_builtin; refine wpList_clear rfl _ 22 rfl rfl hclr ?_)
        go_ret
        obtain ⟨hi, hct, hcz, hl, hcm, hBg⟩ := HH.out
        have ht : es.take n = es := List.take_of_length_le (by omega)
        have hm := hc.m.kept (u5.heap mb hc.m.lt (fun e => hgm e.symm))
        unfold mid at hct
        rw [ht] at hi hct hm
        refine ⟨some ⟨g, 0, none⟩, i, c, rfl, hi.symm, ⟨by rw [etL_len, hi], .inr ⟨g, c, _, rfl, hBg, b5, hic, hcm, by rw [sets_size]; exact hcz, ?_⟩⟩, hm, ?_, rfl⟩
        · have h4 : (cur.toList.take (n * 4)).take (i * 4) = cur.toList.take (i * 4) := by rw [List.take_take, Nat.min_eq_left (by omega)]
          rw [sets_take _ _ _ _ (Nat.le_refl _), ← h4, hct]
          have h5 : etL (stay ids es ++ es.drop (stay ids es).length) = etL (stay ids es) ++ etL (es.drop (stay ids es).length) := by simp [etL]
          rw [h5, List.take_left' (by rw [etL_len, hi])]
        · exact hb.mix u5 (fun k _ h => h.imp id fun h => by rw [h]; rfl) (fun k _ h => .inr (by rw [h]; rfl))
end Go.Proofs.Ytncbgcfjjlhgpaa
