/-
  Pairs whose keys rise: putting in, taking out, looking. No program in this text. Conditions: none.
-/
import Derived.Test.YtgdmkiobidnhnaaBase
import Derived.Sort.Walk0
namespace Go.Proofs.Ytgdmkiobidnhnaa

def lt (a b : ByteArray) : Bool := Op.bytesLess a.toList b.toList
theorem lt_iff (a b : ByteArray) : lt a b = true ↔ a.toList < b.toList := by
  unfold lt; rw [bytesLess_eq, decide_eq_true_iff]
theorem list_ext {x y : ByteArray} (h : x.toList = y.toList) : x = y := by
  rw [ByteArray.toList_eq, ByteArray.toList_eq] at h
  cases x; cases y
  simp only [ByteArray.mk.injEq]
  exact Array.toList_inj.1 h
theorem lt_irrefl (a : ByteArray) : lt a a = false := by
  cases h : lt a a with
  | false => rfl
  | true => exact absurd ((lt_iff a a).1 h) (List.lt_irrefl _)
theorem lt_trans {a b c : ByteArray} (h : lt a b = true) (k : lt b c = true) : lt a c = true := (lt_iff a c).2 (List.lt_trans ((lt_iff a b).1 h) ((lt_iff b c).1 k))
theorem lt_asymm {a b : ByteArray} (h : lt a b = true) : lt b a = false := by
  cases k : lt b a with
  | false => rfl
  | true => have := lt_trans h k; rw [lt_irrefl] at this; cases this
theorem lt_tri {a b : ByteArray} (h : lt a b = false) (k : lt b a = false) : a = b := by
  apply list_ext
  have h1 : ¬ a.toList < b.toList := fun e => by rw [(lt_iff a b).2 e] at h; cases h
  have h2 : ¬ b.toList < a.toList := fun e => by rw [(lt_iff b a).2 e] at k; cases k
  exact List.le_antisymm h2 h1

variable {α : Type}
/-- Pairs whose keys rise. -/
def Up (l : List (ByteArray × α)) : Prop := l.Pairwise fun a b => lt a.1 b.1 = true
/-- How many keys stand ahead of one. -/
def rank : List (ByteArray × α) → ByteArray → Nat
  | [], _ => 0
  | a :: r, k => if lt a.1 k = true then rank r k + 1 else 0
def put : List (ByteArray × α) → ByteArray → α → List (ByteArray × α)
  | [], k, v => [(k, v)]
  | a :: r, k, v => if lt a.1 k = true then a :: put r k v else if a.1 = k then (k, v) :: r else (k, v) :: a :: r
def get : List (ByteArray × α) → ByteArray → Option α
  | [], _ => none
  | a :: r, k => if a.1 = k then some a.2 else get r k
def del (l : List (ByteArray × α)) (k : ByteArray) : List (ByteArray × α) := l.filter fun a => decide (a.1 ≠ k)
def tail (l : List (ByteArray × α)) (k : ByteArray) : List (ByteArray × α) := l.filter fun a => !lt a.1 k
theorem Up.tl {a : ByteArray × α} {r : List (ByteArray × α)} (h : Up (a :: r)) : Up r := (List.pairwise_cons.1 h).2
theorem Up.hd {a : ByteArray × α} {r : List (ByteArray × α)} (h : Up (a :: r)) : ∀ b ∈ r, lt a.1 b.1 = true := (List.pairwise_cons.1 h).1
theorem Up.nil : Up ([] : List (ByteArray × α)) := List.Pairwise.nil
theorem rank_le : ∀ (l : List (ByteArray × α)) (k : ByteArray), rank l k ≤ l.length
  | [], _ => Nat.le_refl _
  | a :: r, k => by
    unfold rank; split
    · have := rank_le r k; simpa using this
    · exact Nat.zero_le _
theorem rank_lo : ∀ (l : List (ByteArray × α)) (k : ByteArray) (t : Nat) (a : ByteArray × α), t < rank l k → l[t]? = some a → lt a.1 k = true
  | [], _, _, _, h, _ => absurd h (Nat.not_lt_zero _)
  | x :: r, k, t, a, h, ht => by
    unfold rank at h
    split at h
    · rename_i hx
      match t, ht with
      | 0, ht => cases ht; exact hx
      | t + 1, ht => exact rank_lo r k t a (by omega) (by simpa using ht)
    · exact absurd h (Nat.not_lt_zero _)
theorem rank_hi : ∀ (l : List (ByteArray × α)) (k : ByteArray) (t : Nat) (a : ByteArray × α), Up l → rank l k ≤ t → l[t]? = some a → lt a.1 k = false
  | [], _, _, _, _, _, ht => by simp at ht
  | x :: r, k, t, a, hu, h, ht => by
    unfold rank at h
    split at h
    · match t, ht with
      | 0, _ => omega
      | t + 1, ht => exact rank_hi r k t a hu.tl (by omega) (by simpa using ht)
    · rename_i hx
      have hx' : lt x.1 k = false := by simpa using hx
      match t, ht with
      | 0, ht => cases ht; exact hx'
      | t + 1, ht =>
        have hm : a ∈ r := List.mem_of_getElem? (by simpa using ht)
        have h1 := hu.hd a hm
        cases h2 : lt a.1 k with
        | false => rfl
        | true => rw [lt_trans h1 h2] at hx'; cases hx'
/-- The key is at its place. -/
def hit (l : List (ByteArray × α)) (k : ByteArray) : Bool := ((l[rank l k]?).map fun a => decide (a.1 = k)).getD false
theorem hit_at {l : List (ByteArray × α)} {k : ByteArray} (h : hit l k = true) : ∃ v, l[rank l k]? = some (k, v) := by
  unfold hit at h
  cases hl : l[rank l k]? with
  | none => rw [hl] at h; cases h
  | some a =>
    rw [hl] at h
    have : a.1 = k := by simpa using h
    exact ⟨a.2, by rw [← this]⟩
theorem put_eq : ∀ (l : List (ByteArray × α)) (k : ByteArray) (v : α), put l k v = if hit l k = true then l.set (rank l k) (k, v) else l.take (rank l k) ++ (k, v) :: l.drop (rank l k)
  | [], _, _ => rfl
  | a :: r, k, v => by
    have ih := put_eq r k v
    unfold put
    by_cases h : lt a.1 k = true
    · have hr : rank (a :: r) k = rank r k + 1 := by rw [rank, if_pos h]
      have hh : hit (a :: r) k = hit r k := by unfold hit; rw [hr]; rfl
      rw [if_pos h, hr, hh, ih]
      split <;> rfl
    · have hr : rank (a :: r) k = 0 := by rw [rank, if_neg h]
      rw [if_neg h, hr]
      by_cases he : a.1 = k
      · have hh : hit (a :: r) k = true := by unfold hit; rw [hr]; simpa using he
        rw [if_pos he, hh]; rfl
      · have hh : hit (a :: r) k = false := by unfold hit; rw [hr]; simpa using he
        rw [if_neg he, hh]; rfl
theorem get_eq : ∀ (l : List (ByteArray × α)) (k : ByteArray), Up l → get l k = if hit l k = true then (l[rank l k]?).map Prod.snd else none
  | [], _, _ => rfl
  | a :: r, k, hu => by
    have ih := get_eq r k hu.tl
    unfold get
    by_cases h : lt a.1 k = true
    · have hr : rank (a :: r) k = rank r k + 1 := by rw [rank, if_pos h]
      have hh : hit (a :: r) k = hit r k := by unfold hit; rw [hr]; rfl
      have hne : a.1 ≠ k := fun e => by rw [e, lt_irrefl] at h; cases h
      rw [if_neg hne, hr, hh, ih]; rfl
    · have hr : rank (a :: r) k = 0 := by rw [rank, if_neg h]
      by_cases he : a.1 = k
      · have hh : hit (a :: r) k = true := by unfold hit; rw [hr]; simpa using he
        rw [if_pos he, hr, hh]; rfl
      · have hh : hit (a :: r) k = false := by unfold hit; rw [hr]; simpa using he
        rw [if_neg he, hh]
        have : ∀ r : List (ByteArray × α), (∀ b ∈ r, lt k b.1 = true) → get r k = none := by
          intro r
          induction r with
          | nil => intro _; rfl
          | cons b r ih =>
            intro hb
            unfold get
            rw [if_neg (fun e => by have := hb b List.mem_cons_self; rw [e, lt_irrefl] at this; cases this)]
            exact ih fun c hc => hb c (List.mem_cons_of_mem _ hc)
        have hka : lt k a.1 = true := by
          cases hk : lt k a.1 with
          | true => rfl
          | false => exact absurd (lt_tri (by simpa using h) hk) he
        exact this r fun b hb => lt_trans hka (hu.hd b hb)
theorem del_eq : ∀ (l : List (ByteArray × α)) (k : ByteArray), Up l → del l k = if hit l k = true then l.take (rank l k) ++ l.drop (rank l k + 1) else l
  | [], _, _ => rfl
  | a :: r, k, hu => by
    have ih := del_eq r k hu.tl
    by_cases h : lt a.1 k = true
    · have hr : rank (a :: r) k = rank r k + 1 := by rw [rank, if_pos h]
      have hh : hit (a :: r) k = hit r k := by unfold hit; rw [hr]; rfl
      have hne : a.1 ≠ k := fun e => by rw [e, lt_irrefl] at h; cases h
      have hd : del (a :: r) k = a :: del r k := by unfold del; rw [List.filter_cons, if_pos (by simpa using hne)]
      rw [hd, hr, hh, ih]
      split <;> rfl
    · have hr : rank (a :: r) k = 0 := by rw [rank, if_neg h]
      have hka : a.1 ≠ k → lt k a.1 = true := fun he => by
        cases hk : lt k a.1 with
        | true => rfl
        | false => exact absurd (lt_tri (by simpa using h) hk) he
      have hrest : (∀ b ∈ r, lt k b.1 = true) → del r k = r := fun hb => by
        unfold del
        rw [List.filter_eq_self]
        intro b hm
        have := hb b hm
        simp only [decide_eq_true_eq]
        intro e; rw [e, lt_irrefl] at this; cases this
      by_cases he : a.1 = k
      · have hh : hit (a :: r) k = true := by unfold hit; rw [hr]; simpa using he
        have hd : del (a :: r) k = del r k := by unfold del; rw [List.filter_cons, if_neg (by simpa using he)]
        rw [hd, hr, hh, hrest (fun b hb => he ▸ hu.hd b hb)]; rfl
      · have hh : hit (a :: r) k = false := by unfold hit; rw [hr]; simpa using he
        have hd : del (a :: r) k = a :: del r k := by unfold del; rw [List.filter_cons, if_pos (by simpa using he)]
        rw [hd, hh, hrest (fun b hb => lt_trans (hka he) (hu.hd b hb))]; rfl
theorem tail_eq : ∀ (l : List (ByteArray × α)) (k : ByteArray), Up l → tail l k = l.drop (rank l k)
  | [], _, _ => rfl
  | a :: r, k, hu => by
    have ih := tail_eq r k hu.tl
    by_cases h : lt a.1 k = true
    · have hr : rank (a :: r) k = rank r k + 1 := by rw [rank, if_pos h]
      have ht : tail (a :: r) k = tail r k := by unfold tail; rw [List.filter_cons, if_neg (by simpa using h)]
      rw [ht, hr, ih]; rfl
    · have hr : rank (a :: r) k = 0 := by rw [rank, if_neg h]
      rw [hr, List.drop_zero]
      unfold tail
      rw [List.filter_eq_self]
      intro b hb
      have h' : lt a.1 k = false := by simpa using h
      rcases List.mem_cons.1 hb with rfl | hb
      · rw [h']; rfl
      · cases hk : lt b.1 k with
        | false => rfl
        | true => rw [lt_trans (hu.hd b hb) hk] at h'; cases h'
theorem put_mem : ∀ {l : List (ByteArray × α)} {k : ByteArray} {v : α} {b : ByteArray × α}, b ∈ put l k v → b ∈ l ∨ b = (k, v)
  | [], _, _, _, h => .inr (List.mem_singleton.1 h)
  | a :: r, k, v, b, h => by
    unfold put at h
    split at h
    · rcases List.mem_cons.1 h with rfl | h
      · exact .inl List.mem_cons_self
      · exact (put_mem h).imp (List.mem_cons_of_mem _) id
    · split at h
      · rcases List.mem_cons.1 h with rfl | h
        · exact .inr rfl
        · exact .inl (List.mem_cons_of_mem _ h)
      · rcases List.mem_cons.1 h with rfl | h
        · exact .inr rfl
        · exact .inl h
theorem Up.put : ∀ {l : List (ByteArray × α)} (_ : Up l) (k : ByteArray) (v : α), Up (put l k v)
  | [], _, k, v => List.pairwise_singleton _ _
  | a :: r, hu, k, v => by
    unfold Ytgdmkiobidnhnaa.put
    by_cases h : lt a.1 k = true
    · rw [if_pos h]
      refine List.pairwise_cons.2 ⟨fun b hb => ?_, hu.tl.put k v⟩
      rcases put_mem hb with hb | rfl
      · exact hu.hd b hb
      · exact h
    · rw [if_neg h]
      by_cases he : a.1 = k
      · rw [if_pos he]
        exact List.pairwise_cons.2 ⟨fun b hb => he ▸ hu.hd b hb, hu.tl⟩
      · rw [if_neg he]
        have hka : lt k a.1 = true := by
          cases hk : lt k a.1 with
          | true => rfl
          | false => exact absurd (lt_tri (by simpa using h) hk) he
        refine List.pairwise_cons.2 ⟨fun b hb => ?_, hu⟩
        rcases List.mem_cons.1 hb with rfl | hb
        · exact hka
        · exact lt_trans hka (hu.hd b hb)
theorem Up.del {l : List (ByteArray × α)} (h : Up l) (k : ByteArray) : Up (del l k) := List.Pairwise.filter _ h
theorem Up.tail {l : List (ByteArray × α)} (h : Up l) (k : ByteArray) : Up (tail l k) := List.Pairwise.filter _ h
end Go.Proofs.Ytgdmkiobidnhnaa
