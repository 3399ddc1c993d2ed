/-
  What changes from one state to another, gone through side by side: the same row. No program in this text. Conditions: the keys rise.
-/
import Derived.Test.YtgdmkiobidnhnaaChLaw
namespace Go.Proofs.Ytgdmkiobidnhnaa

def mdiff : Ps → Ps → Chs
  | [], [] => []
  | a :: r, [] => (a.1, (false, ⟨#[]⟩)) :: mdiff r []
  | [], b :: s => (b.1, (true, b.2)) :: mdiff [] s
  | a :: r, b :: s =>
    if lt a.1 b.1 = true then (a.1, (false, ⟨#[]⟩)) :: mdiff r (b :: s)
    else if lt b.1 a.1 = true then (b.1, (true, b.2)) :: mdiff (a :: r) s
    else if a.2.toList = b.2.toList then mdiff r s
    else (b.1, (true, b.2)) :: mdiff r s
termination_by a b => a.length + b.length
theorem md_nn : mdiff [] [] = [] := by rw [mdiff]
theorem md_cn (a : ByteArray × ByteArray) (r : Ps) : mdiff (a :: r) [] = (a.1, (false, ⟨#[]⟩)) :: mdiff r [] := by rw [mdiff]
theorem md_nc (b : ByteArray × ByteArray) (s : Ps) : mdiff [] (b :: s) = (b.1, (true, b.2)) :: mdiff [] s := by rw [mdiff]
theorem md_lt (a b : ByteArray × ByteArray) (r s : Ps) (h : lt a.1 b.1 = true) : mdiff (a :: r) (b :: s) = (a.1, (false, ⟨#[]⟩)) :: mdiff r (b :: s) := by rw [mdiff, if_pos h]
theorem md_gt (a b : ByteArray × ByteArray) (r s : Ps) (h : lt a.1 b.1 = false) (h2 : lt b.1 a.1 = true) : mdiff (a :: r) (b :: s) = (b.1, (true, b.2)) :: mdiff (a :: r) s := by rw [mdiff, if_neg (by rw [h]; decide), if_pos h2]
theorem md_eq (a b : ByteArray × ByteArray) (r s : Ps) (h : lt a.1 b.1 = false) (h2 : lt b.1 a.1 = false) (hv : a.2.toList = b.2.toList) : mdiff (a :: r) (b :: s) = mdiff r s := by rw [mdiff, if_neg (by rw [h]; decide), if_neg (by rw [h2]; decide), if_pos hv]
theorem md_ne (a b : ByteArray × ByteArray) (r s : Ps) (h : lt a.1 b.1 = false) (h2 : lt b.1 a.1 = false) (hv : ¬ a.2.toList = b.2.toList) : mdiff (a :: r) (b :: s) = (b.1, (true, b.2)) :: mdiff r s := by rw [mdiff, if_neg (by rw [h]; decide), if_neg (by rw [h2]; decide), if_neg hv]
theorem up_above {α : Type} {a : ByteArray × α} {r : List (ByteArray × α)} {k : ByteArray} (h : Up (a :: r)) (hk : lt k a.1 = true) : get (a :: r) k = none :=
  get_none fun x hx e => by
    rcases List.mem_cons.1 hx with e' | e'
    · rw [← e, e', lt_irrefl] at hk; cases hk
    · have := lt_trans hk (h.hd x e'); rw [e, lt_irrefl] at this; cases this
theorem get_mdiff (k : ByteArray) : ∀ (n : Nat) (a b : Ps), a.length + b.length = n → Up a → Up b → get (mdiff a b) k = if get a k = get b k then none else some (getC b k) := by
  intro n
  induction n using Nat.strongRecOn with
  | _ n ih =>
    intro a b hn ha hb
    cases a with
    | nil =>
      cases b with
      | nil => rw [md_nn, if_pos rfl]; rfl
      | cons y s =>
        have h1 := ih (s.length) (by simp at hn; omega) [] s (by simp) Up.nil hb.tl
        rw [md_nc, get_cons]
        by_cases hk : y.1 = k
        · rw [if_pos hk, if_neg (by rw [get_cons, if_pos hk]; intro e; cases e)]
          unfold getC
          rw [get_cons, if_pos hk]; rfl
        · have e1 : get (y :: s) k = get s k := by rw [get_cons, if_neg hk]
          rw [if_neg hk, h1, e1]
          unfold getC
          rw [e1]
    | cons x r =>
      cases b with
      | nil =>
        have h1 := ih (r.length) (by simp at hn; omega) r [] (by simp) ha.tl Up.nil
        rw [md_cn, get_cons]
        by_cases hk : x.1 = k
        · rw [if_pos hk, if_neg (by rw [get_cons, if_pos hk]; intro e; cases e)]
          rfl
        · have e1 : get (x :: r) k = get r k := by rw [get_cons, if_neg hk]
          rw [if_neg hk, h1, e1]
      | cons y s =>
        cases h1 : lt x.1 y.1 with
        | true =>
          have h2 := ih (r.length + (y :: s).length) (by simp at hn ⊢; omega) r (y :: s) rfl ha.tl hb
          rw [md_lt _ _ _ _ h1, get_cons]
          by_cases hk : x.1 = k
          · have e2 : get (y :: s) k = none := up_above hb (by rw [← hk]; exact h1)
            rw [if_pos hk, if_neg (by rw [get_cons, if_pos hk, e2]; intro e; cases e)]
            unfold getC
            rw [e2]; rfl
          · have e1 : get (x :: r) k = get r k := by rw [get_cons, if_neg hk]
            rw [if_neg hk, h2, e1]
        | false =>
          cases h2 : lt y.1 x.1 with
          | true =>
            have h3 := ih ((x :: r).length + s.length) (by simp at hn ⊢; omega) (x :: r) s rfl ha hb.tl
            rw [md_gt _ _ _ _ h1 h2, get_cons]
            by_cases hk : y.1 = k
            · have e2 : get (x :: r) k = none := up_above ha (by rw [← hk]; exact h2)
              rw [if_pos hk, if_neg (by rw [get_cons y, if_pos hk, e2]; intro e; cases e)]
              unfold getC
              rw [get_cons, if_pos hk]; rfl
            · have e1 : get (y :: s) k = get s k := by rw [get_cons, if_neg hk]
              rw [if_neg hk, h3, e1]
              unfold getC
              rw [e1]
          | false =>
            have hxy : x.1 = y.1 := lt_tri h1 h2
            have h3 := ih (r.length + s.length) (by simp at hn ⊢; omega) r s rfl ha.tl hb.tl
            by_cases hv : x.2.toList = y.2.toList
            · rw [md_eq _ _ _ _ h1 h2 hv, h3]
              by_cases hk : x.1 = k
              · have hk2 : y.1 = k := hxy.symm.trans hk
                have e1 := up_ne ha
                have e2 := up_ne hb
                rw [hk] at e1
                rw [hk2] at e2
                rw [e1, e2, if_pos rfl, if_pos]
                rw [get_cons, if_pos hk, get_cons, if_pos hk2, list_ext hv]
              · have hk2 : ¬ y.1 = k := fun e => hk (hxy.trans e)
                have e1 : get (x :: r) k = get r k := by rw [get_cons, if_neg hk]
                have e2 : get (y :: s) k = get s k := by rw [get_cons, if_neg hk2]
                rw [e1, e2]
                unfold getC
                rw [e2]
            · rw [md_ne _ _ _ _ h1 h2 hv, get_cons]
              by_cases hk : x.1 = k
              · have hk2 : y.1 = k := hxy.symm.trans hk
                rw [if_pos hk2, if_neg]
                · unfold getC
                  rw [get_cons, if_pos hk2]; rfl
                · rw [get_cons, if_pos hk, get_cons, if_pos hk2]
                  intro e; exact hv (by rw [Option.some.inj e])
              · have hk2 : ¬ y.1 = k := fun e => hk (hxy.trans e)
                have e1 : get (x :: r) k = get r k := by rw [get_cons, if_neg hk]
                have e2 : get (y :: s) k = get s k := by rw [get_cons, if_neg hk2]
                rw [if_neg hk2, h3, e1, e2]
                unfold getC
                rw [e2]
theorem mem_mdiff (k : ByteArray) : ∀ (n : Nat) (a b : Ps), a.length + b.length = n → k ∈ (mdiff a b).map Prod.fst → k ∈ a.map Prod.fst ∨ k ∈ b.map Prod.fst := by
  intro n
  induction n using Nat.strongRecOn with
  | _ n ih =>
    intro a b hn hk
    cases a with
    | nil =>
      cases b with
      | nil => rw [md_nn] at hk; cases hk
      | cons y s =>
        rw [md_nc, List.map_cons, List.mem_cons] at hk
        rcases hk with e | e
        · exact .inr (by rw [e]; exact List.mem_cons_self)
        · exact (ih s.length (by simp at hn; omega) [] s (by simp) e).imp id (List.mem_cons_of_mem _)
    | cons x r =>
      cases b with
      | nil =>
        rw [md_cn, List.map_cons, List.mem_cons] at hk
        rcases hk with e | e
        · exact .inl (by rw [e]; exact List.mem_cons_self)
        · exact (ih r.length (by simp at hn; omega) r [] (by simp) e).imp (List.mem_cons_of_mem _) id
      | cons y s =>
        cases h1 : lt x.1 y.1 with
        | true =>
          rw [md_lt _ _ _ _ h1, List.map_cons, List.mem_cons] at hk
          rcases hk with e | e
          · exact .inl (by rw [e]; exact List.mem_cons_self)
          · exact (ih (r.length + (y :: s).length) (by simp at hn ⊢; omega) r (y :: s) rfl e).imp (List.mem_cons_of_mem _) id
        | false =>
          cases h2 : lt y.1 x.1 with
          | true =>
            rw [md_gt _ _ _ _ h1 h2, List.map_cons, List.mem_cons] at hk
            rcases hk with e | e
            · exact .inr (by rw [e]; exact List.mem_cons_self)
            · exact (ih ((x :: r).length + s.length) (by simp at hn ⊢; omega) (x :: r) s rfl e).imp id (List.mem_cons_of_mem _)
          | false =>
            by_cases hv : x.2.toList = y.2.toList
            · rw [md_eq _ _ _ _ h1 h2 hv] at hk
              exact (ih (r.length + s.length) (by simp at hn ⊢; omega) r s rfl hk).imp (List.mem_cons_of_mem _) (List.mem_cons_of_mem _)
            · rw [md_ne _ _ _ _ h1 h2 hv, List.map_cons, List.mem_cons] at hk
              rcases hk with e | e
              · exact .inr (by rw [e]; exact List.mem_cons_self)
              · exact (ih (r.length + s.length) (by simp at hn ⊢; omega) r s rfl e).imp (List.mem_cons_of_mem _) (List.mem_cons_of_mem _)
theorem mdiff_above {a b : Ps} {k : ByteArray} (h1 : ∀ x ∈ a, lt k x.1 = true) (h2 : ∀ x ∈ b, lt k x.1 = true) : ∀ c ∈ mdiff a b, lt k c.1 = true := fun c hc => by
  rcases mem_mdiff c.1 _ a b rfl (List.mem_map.2 ⟨c, hc, rfl⟩) with h | h
  · obtain ⟨x, hx, e⟩ := List.mem_map.1 h
    rw [← e]; exact h1 x hx
  · obtain ⟨x, hx, e⟩ := List.mem_map.1 h
    rw [← e]; exact h2 x hx
theorem mdiff_up : ∀ (n : Nat) (a b : Ps), a.length + b.length = n → Up a → Up b → Up (mdiff a b) := by
  intro n
  induction n using Nat.strongRecOn with
  | _ n ih =>
    intro a b hn ha hb
    cases a with
    | nil =>
      cases b with
      | nil => rw [md_nn]; exact Up.nil
      | cons y s =>
        rw [md_nc]
        exact List.pairwise_cons.2 ⟨mdiff_above (fun _ h => (by cases h)) hb.hd, ih s.length (by simp at hn; omega) [] s (by simp) Up.nil hb.tl⟩
    | cons x r =>
      cases b with
      | nil =>
        rw [md_cn]
        exact List.pairwise_cons.2 ⟨mdiff_above ha.hd (fun _ h => (by cases h)), ih r.length (by simp at hn; omega) r [] (by simp) ha.tl Up.nil⟩
      | cons y s =>
        cases h1 : lt x.1 y.1 with
        | true =>
          rw [md_lt _ _ _ _ h1]
          refine List.pairwise_cons.2 ⟨mdiff_above ha.hd fun z hz => ?_, ih (r.length + (y :: s).length) (by simp at hn ⊢; omega) r (y :: s) rfl ha.tl hb⟩
          rcases List.mem_cons.1 hz with e | e
          · rw [e]; exact h1
          · exact lt_trans h1 (hb.hd z e)
        | false =>
          cases h2 : lt y.1 x.1 with
          | true =>
            rw [md_gt _ _ _ _ h1 h2]
            refine List.pairwise_cons.2 ⟨mdiff_above (fun z hz => ?_) hb.hd, ih ((x :: r).length + s.length) (by simp at hn ⊢; omega) (x :: r) s rfl ha hb.tl⟩
            rcases List.mem_cons.1 hz with e | e
            · rw [e]; exact h2
            · exact lt_trans h2 (ha.hd z e)
          | false =>
            have hxy : x.1 = y.1 := lt_tri h1 h2
            by_cases hv : x.2.toList = y.2.toList
            · rw [md_eq _ _ _ _ h1 h2 hv]
              exact ih (r.length + s.length) (by simp at hn ⊢; omega) r s rfl ha.tl hb.tl
            · rw [md_ne _ _ _ _ h1 h2 hv]
              exact List.pairwise_cons.2 ⟨mdiff_above (fun z hz => by rw [← hxy]; exact ha.hd z hz) hb.hd, ih (r.length + s.length) (by simp at hn ⊢; omega) r s rfl ha.tl hb.tl⟩
theorem mdiff_diff {a b : Ps} (ha : Up a) (hb : Up b) : mdiff a b = diff a b :=
  up_get_ext (mdiff_up _ a b rfl ha hb) (diff_up ha) fun k => by rw [get_mdiff k _ a b rfl ha hb, get_diff]
end Go.Proofs.Ytgdmkiobidnhnaa
