/-
  What changes from one state to another, and what changes make of one: the laws. No program in this text. Conditions: none.
-/
import Derived.Test.YtgdmkiobidnhnaaSt4
namespace Go.Proofs.Ytgdmkiobidnhnaa

section
variable {α : Type}
theorem get_none : ∀ {m : List (ByteArray × α)} {k : ByteArray}, (∀ x ∈ m, x.1 ≠ k) → get m k = none
  | [], _, _ => rfl
  | x :: r, k, h => by
    unfold get
    rw [if_neg (h x List.mem_cons_self)]
    exact get_none fun y hy => h y (List.mem_cons_of_mem _ hy)
theorem up_ne {a : ByteArray × α} {r : List (ByteArray × α)} (h : Up (a :: r)) : get r a.1 = none :=
  get_none fun x hx e => by have := h.hd x hx; rw [e, lt_irrefl] at this; cases this
theorem get_cons (a : ByteArray × α) (r : List (ByteArray × α)) (k : ByteArray) : get (a :: r) k = if a.1 = k then some a.2 else get r k := rfl
theorem get_put : ∀ (m : List (ByteArray × α)) (k : ByteArray) (v : α) (k' : ByteArray), get (put m k v) k' = if k = k' then some v else get m k'
  | [], k, v, k' => rfl
  | a :: r, k, v, k' => by
    unfold put
    split
    · rename_i h
      rw [get_cons, get_put r k v k', get_cons]
      by_cases h1 : a.1 = k'
      · have h2 : k ≠ k' := fun e => by rw [h1, e, lt_irrefl] at h; cases h
        rw [if_pos h1, if_neg h2, if_pos h1]
      · rw [if_neg h1, if_neg h1]
    · split
      · rename_i h1
        rw [get_cons, get_cons, h1]
        by_cases h2 : k = k'
        · rw [if_pos h2, if_pos h2]
        · rw [if_neg h2, if_neg h2, if_neg h2]
      · rw [get_cons]
theorem get_del : ∀ (m : List (ByteArray × α)) (k k' : ByteArray), get (del m k) k' = if k = k' then none else get m k'
  | [], k, k' => by simp [del, get]
  | a :: r, k, k' => by
    have ih := get_del r k k'
    unfold del at ih ⊢
    by_cases h : a.1 = k
    · rw [List.filter_cons_of_neg (by simp [h]), ih, get_cons, h]
      by_cases h2 : k = k'
      · rw [if_pos h2, if_pos h2]
      · rw [if_neg h2, if_neg h2, if_neg h2]
    · rw [List.filter_cons_of_pos (by simp [h]), get_cons, ih, get_cons]
      by_cases h1 : a.1 = k'
      · have h2 : k ≠ k' := fun e => h (h1.trans e.symm)
        rw [if_pos h1, if_neg h2, if_pos h1]
      · rw [if_neg h1, if_neg h1]
theorem up_get_ext : ∀ {l l' : List (ByteArray × α)}, Up l → Up l' → (∀ k, get l k = get l' k) → l = l'
  | [], [], _, _, _ => rfl
  | [], b :: s, _, _, h => by have := h b.1; rw [get_cons, if_pos rfl] at this; cases this
  | a :: r, [], _, _, h => by have := h a.1; rw [get_cons, if_pos rfl] at this; cases this
  | a :: r, b :: s, hu, hu', h => by
    have hk : a.1 = b.1 := by
      refine lt_tri ?_ ?_
      · cases hl : lt a.1 b.1 with
        | false => rfl
        | true =>
          have h1 := h a.1
          rw [get_cons, if_pos rfl, get_none fun x hx e => ?_] at h1
          · cases h1
          · rcases List.mem_cons.1 hx with e' | e'
            · rw [← e, e', lt_irrefl] at hl; cases hl
            · have := lt_trans hl (hu'.hd x e'); rw [e, lt_irrefl] at this; cases this
      · cases hl : lt b.1 a.1 with
        | false => rfl
        | true =>
          have h1 := h b.1
          rw [get_cons b s, if_pos rfl, get_none fun x hx e => ?_] at h1
          · cases h1
          · rcases List.mem_cons.1 hx with e' | e'
            · rw [← e, e', lt_irrefl] at hl; cases hl
            · have := lt_trans hl (hu.hd x e'); rw [e, lt_irrefl] at this; cases this
    have hv : a.2 = b.2 := by
      have h1 := h a.1
      rw [get_cons, if_pos rfl, get_cons, if_pos hk.symm] at h1
      exact Option.some.inj h1
    have hab : a = b := Prod.ext hk hv
    subst hab
    have ht : r = s := up_get_ext hu.tl hu'.tl fun k => by
      have h1 := h k
      rw [get_cons, get_cons] at h1
      by_cases hk : a.1 = k
      · rw [← hk, up_ne hu, up_ne hu']
      · rw [if_neg hk, if_neg hk] at h1; exact h1
    rw [ht]
theorem get_isSome : ∀ (m : List (ByteArray × α)) (k : ByteArray), (get m k).isSome = true ↔ k ∈ m.map Prod.fst
  | [], k => by simp [get]
  | a :: r, k => by
    rw [get_cons, List.map_cons, List.mem_cons]
    by_cases h : a.1 = k
    · rw [if_pos h]; simp [h]
    · rw [if_neg h, get_isSome r k]
      constructor
      · exact .inr
      · rintro (e | e)
        · exact absurd e.symm h
        · exact e
end
theorem eqC_iff (x y : Bool × ByteArray) : eqC x y = true ↔ x = y := by
  obtain ⟨x1, x2⟩ := x
  obtain ⟨y1, y2⟩ := y
  unfold eqC
  dsimp only
  rw [Bool.and_eq_true_iff, beq_iff_eq, beq_iff_eq]
  constructor
  · rintro ⟨rfl, h⟩; rw [list_ext h]
  · intro h; cases h; exact ⟨rfl, rfl⟩
theorem getC_iff (a b : Ps) (k : ByteArray) : getC b k = getC a k ↔ get a k = get b k := by
  unfold getC
  constructor
  · intro h
    have h1 : (get b k).isSome = (get a k).isSome := congrArg Prod.fst h
    have h2 : (get b k).getD ⟨#[]⟩ = (get a k).getD ⟨#[]⟩ := congrArg Prod.snd h
    cases ha : get a k with
    | none =>
      cases hb : get b k with
      | none => rfl
      | some v => rw [ha, hb] at h1; cases h1
    | some u =>
      cases hb : get b k with
      | none => rw [ha, hb] at h1; cases h1
      | some v => rw [ha, hb] at h2; simp at h2; rw [h2]
  · intro h; rw [h]
theorem get_difK (a b : Ps) (k : ByteArray) : ∀ (pre : Ps), get (difK a b pre) k = if (get pre k).isSome = true ∧ get a k ≠ get b k then some (getC b k) else none
  | [] => by simp [difK, get]
  | p :: r => by
    have ih := get_difK a b k r
    have hd : difK a b (p :: r) = if eqC (getC b p.1) (getC a p.1) = true then difK a b r else (p.1, getC b p.1) :: difK a b r := by
      unfold difK
      by_cases h : eqC (getC b p.1) (getC a p.1) = true
      · rw [List.filterMap_cons_none (by simp [h]), if_pos h]
      · rw [List.filterMap_cons_some (b := (p.1, getC b p.1)) (by simp [h]), if_neg h]
    rw [hd, get_cons p r]
    by_cases h : eqC (getC b p.1) (getC a p.1) = true
    · rw [if_pos h, ih]
      have he := (getC_iff a b p.1).1 ((eqC_iff _ _).1 h)
      by_cases hk : p.1 = k
      · rw [hk] at he
        rw [if_neg (fun h => h.2 he), if_neg (fun h => h.2 he)]
      · rw [if_neg hk]
    · rw [if_neg h, get_cons]
      have he : get a p.1 ≠ get b p.1 := fun e => h ((eqC_iff _ _).2 ((getC_iff a b p.1).2 e))
      by_cases hk : p.1 = k
      · rw [hk] at he ⊢
        rw [if_pos rfl, if_pos rfl, if_pos ⟨rfl, he⟩]
      · rw [if_neg hk, if_neg hk, ih]
theorem difK_mem (a b : Ps) : ∀ (pre : Ps) (c : ByteArray × (Bool × ByteArray)), c ∈ difK a b pre → c.1 ∈ pre.map Prod.fst := by
  intro pre c hc
  unfold difK at hc
  obtain ⟨p, hp, he⟩ := List.mem_filterMap.1 hc
  split at he
  · cases he
  · cases he; exact List.mem_map.2 ⟨p, hp, rfl⟩
theorem difK_up (a b : Ps) : ∀ (pre : Ps), Up pre → Up (difK a b pre)
  | [], _ => Up.nil
  | p :: r, h => by
    have hd : difK a b (p :: r) = if eqC (getC b p.1) (getC a p.1) = true then difK a b r else (p.1, getC b p.1) :: difK a b r := by
      unfold difK
      by_cases h : eqC (getC b p.1) (getC a p.1) = true
      · rw [List.filterMap_cons_none (by simp [h]), if_pos h]
      · rw [List.filterMap_cons_some (b := (p.1, getC b p.1)) (by simp [h]), if_neg h]
    rw [hd]
    split
    · exact difK_up a b r h.tl
    · refine List.pairwise_cons.2 ⟨fun c hc => ?_, difK_up a b r h.tl⟩
      obtain ⟨q, hq, e⟩ := List.mem_map.1 (difK_mem a b r c hc)
      rw [← e]; exact h.hd q hq
theorem uni_up : ∀ (b a : Ps), Up a → Up (uni a b)
  | [], _, h => h
  | x :: r, a, h => uni_up r (put a x.1 ⟨#[]⟩) (h.put _ _)
theorem mem_put' : ∀ (l : Ps) (k x : ByteArray) (v : ByteArray), x ∈ (put l k v).map Prod.fst ↔ x = k ∨ x ∈ l.map Prod.fst := by
  intro l k x v
  rw [← get_isSome, get_put, ← get_isSome]
  by_cases h : k = x
  · rw [if_pos h]; simp [h]
  · rw [if_neg h]
    constructor
    · exact .inr
    · rintro (e | e)
      · exact absurd e.symm h
      · exact e
theorem mem_uni : ∀ (b a : Ps) (x : ByteArray), x ∈ (uni a b).map Prod.fst ↔ x ∈ b.map Prod.fst ∨ x ∈ a.map Prod.fst
  | [], a, x => by simp [uni]
  | p :: r, a, x => by
    have h1 := mem_uni r (put a p.1 ⟨#[]⟩) x
    have h2 : uni a (p :: r) = uni (put a p.1 ⟨#[]⟩) r := rfl
    rw [h2, h1, mem_put', List.map_cons, List.mem_cons]
    constructor
    · rintro (h | h | h)
      · exact .inl (.inr h)
      · exact .inl (.inl h)
      · exact .inr h
    · rintro ((h | h) | h)
      · exact .inr (.inl h)
      · exact .inl h
      · exact .inr (.inr h)
theorem diff_up {a b : Ps} (h : Up a) : Up (diff a b) := difK_up a b _ (uni_up b a h)
/-- What a row of changes tells of a key. -/
theorem get_diff (a b : Ps) (k : ByteArray) : get (diff a b) k = if get a k = get b k then none else some (getC b k) := by
  unfold diff
  rw [get_difK]
  by_cases h : get a k = get b k
  · rw [if_pos h, if_neg (fun x => x.2 h)]
  · have hs : (get (uni a b) k).isSome = true := by
      rw [get_isSome, mem_uni, ← get_isSome, ← get_isSome]
      cases ha : get a k with
      | some v => exact .inr rfl
      | none =>
        cases hb : get b k with
        | some v => exact .inl rfl
        | none => rw [ha, hb] at h; exact absurd rfl h
    rw [if_neg h, if_pos ⟨hs, h⟩]
theorem get_step1 (m : Ps) (c : ByteArray × (Bool × ByteArray)) (k : ByteArray) : get (step1 m c) k = if c.1 = k then (if c.2.1 = true then some c.2.2 else none) else get m k := by
  unfold step1
  split
  · rw [get_put]
  · rw [get_del]
theorem get_patch : ∀ (L : Chs) (m : Ps) (k : ByteArray), Up L → get (patch m L) k = match get L k with | some c => (if c.1 = true then some c.2 else none) | none => get m k
  | [], m, k, _ => rfl
  | c :: r, m, k, h => by
    have h1 := get_patch r (step1 m c) k h.tl
    have h2 : patch m (c :: r) = patch (step1 m c) r := rfl
    rw [h2, h1, get_cons, get_step1]
    by_cases hk : c.1 = k
    · rw [if_pos hk, if_pos hk]
      have := up_ne h
      rw [hk] at this
      rw [this]
    · rw [if_neg hk, if_neg hk]
theorem patch_diff {a b : Ps} (ha : Up a) (hb : Up b) : patch a (diff a b) = b := by
  refine up_get_ext (patch_up _ _ ha) hb fun k => ?_
  rw [get_patch _ _ _ (diff_up ha), get_diff]
  by_cases h : get a k = get b k
  · rw [if_pos h]; exact h
  · rw [if_neg h]
    unfold getC
    cases hb : get b k with
    | none => rfl
    | some v => rfl
theorem diff_self {a : Ps} (ha : Up a) : diff a a = [] :=
  up_get_ext (diff_up ha) Up.nil fun k => by rw [get_diff, if_pos rfl]; rfl
theorem undo_diff {a b : Ps} (ha : Up a) (hb : Up b) : patch b (undo a (diff a b)) = a := by
  unfold undo
  rw [up_upB a ha, if_pos rfl, patch_diff ha hb, patch_diff hb ha]
/-- How often a key is told. -/
def cnt {α : Type} (l : List (ByteArray × α)) (k : ByteArray) : Nat := (l.filter fun c => decide (c.1 = k)).length
theorem cnt_up {α : Type} : ∀ {l : List (ByteArray × α)} (k : ByteArray), Up l → cnt l k = if (get l k).isSome = true then 1 else 0
  | [], k, _ => rfl
  | a :: r, k, h => by
    have ih := cnt_up k h.tl
    unfold cnt at ih ⊢
    by_cases hk : a.1 = k
    · rw [List.filter_cons_of_pos (by simp [hk]), List.length_cons, ih, get_cons, if_pos hk]
      have := up_ne h
      rw [hk] at this
      rw [this]; rfl
    · rw [List.filter_cons_of_neg (by simp [hk]), ih, get_cons, if_neg hk]
theorem cnt_take {α : Type} {l : List (ByteArray × α)} {j : Nat} {x : ByteArray × α} (k : ByteArray) (h : l[j]? = some x) : cnt (l.take (j + 1)) k = cnt (l.take j) k + if x.1 = k then 1 else 0 := by
  unfold cnt
  rw [List.take_add_one, h, List.filter_append, List.length_append]
  by_cases hk : x.1 = k <;> simp [hk]
end Go.Proofs.Ytgdmkiobidnhnaa
