/-
  The walk of PendingLives. Conditions: what comes in lies where it says.
-/
import Derived.Test.YtncbgcfjjlhgpaaDoc2
import Derived.Deep.RegionHeld3
namespace Go.Proofs.Ytncbgcfjjlhgpaa
open Go.RowKit

/-- A row that was never made: no room. -/
theorem uroom_walk {U : Nat} {w : World} (h : w.heap[U]? = some (.cells #[.int .i64 0, .slice none 0 0, .map none] 30)) : Calls Try.prog 16 #[.pointer (some ⟨U, 0, none⟩)] w fun e w' => e = .returned (.int .i64 0) ∧ Fr w w' := by
  have c0 : ∀ o, o < 3 → ∀ w', Fr w w' → w'.cell? ⟨U, o, none⟩ = #[Value.int .i64 0, .slice none 0 0, .map none][o]? := fun o _ w' hw' => cell_at ((hw'.heap (Array.getElem?_eq_some_iff.1 h).1).trans h) o
  go_enter Try.func16, Try.ntmps16
  go_wp2_with fail
  refine wp_region_class (Fr w) (by kernel_rfl) (by kernel_rfl) (Fr.draw _) ?_
  repeat (first
    | (refine wpQuiet_val rfl ?_
       apply Exists.intro
       refine ⟨?_, ?_⟩
       focus (intro w' hw'; go_simp; (try go_bits); with_reducible rfl)
       simp only [Act.put, List.setIfInBounds_toArray, List.set_cons_zero, List.set_cons_succ])
    | (refine wpQuiet_pass rfl ?_
       simp only [Act.put, List.setIfInBounds_toArray, List.set_cons_zero, List.set_cons_succ]))
  refine wpQuiet_nil ?_
  intro w2 f2
  go_wp2
  go_ret
  exact ⟨rfl, f2⟩
theorem uadd_walk {U : Nat} {w : World} (h : w.heap[U]? = some (.cells #[.int .i64 0, .slice none 0 0, .map none] 30)) (o s : Int) (g st : Value) : Calls Try.prog 10 #[.pointer (some ⟨U, 0, none⟩), .agg #[.int .i64 o, .int .i64 s, g, st]] w fun e w' => e = .returned (.bool false) ∧ Fr w w' :=
  add_full o s g st (fun _ hw' => uroom_walk ((hw'.heap (Array.getElem?_eq_some_iff.1 h).1).trans h)) (by decide)
/-- The document's list beside the row and the row that was never made. -/
structure Mm (B U : Nat) (F : Nat → Prop) (es : List Et) (w : World) (v : Value) (ms : List Et) : Prop where
  row : w.ownsRow B 40 4 v ms.length (etL ms)
  off : ∀ k, v.ownBlock = some k → ¬ F k
  sub : ∀ e ∈ ms, e ∈ es
  uz : w.heap[U]? = some (.cells #[.int .i64 0, .slice none 0 0, .map none] 30)
  uF : ¬ F U
  le : B ≤ w.heap.size
theorem Mm.fr {B U : Nat} {F : Nat → Prop} {es ms : List Et} {w w' : World} {v : Value} (h : Mm B U F es w v ms) (hf : Fr w w') : Mm B U F es w' v ms :=
  ⟨owns_fr h.row hf, h.off, h.sub, (hf.heap (Array.getElem?_eq_some_iff.1 h.uz).1).trans h.uz, h.uF, Nat.le_trans h.le hf.size⟩
theorem Mm.but {B U : Nat} {F F' : Nat → Prop} {es ms : List Et} {w w' : World} {v : Value} (h : Mm B U F es w v ms) (hb : But F w w') (hF : ∀ k, F' k → F k ∨ w.heap.size ≤ k) : Mm B U F' es w' v ms := by
  have hU := (Array.getElem?_eq_some_iff.1 h.uz).1
  refine ⟨?_, ?_, h.sub, (hb.heap U hU h.uF).trans h.uz, fun hc => ?_, Nat.le_trans h.le hb.size⟩
  · rcases h.row.2 with ⟨hv, h0⟩ | ⟨g, cap, cur, hv, hg, hh, r⟩
    · exact ⟨h.row.1, .inl ⟨hv, h0⟩⟩
    · exact ⟨h.row.1, .inr ⟨g, cap, cur, hv, hg, (hb.heap g (Array.getElem?_eq_some_iff.1 hh).1 (h.off g (by rw [hv]; rfl))).trans hh, r⟩⟩
  · intro k hk hc
    rcases hF k hc with h1 | h1
    · exact h.off k hk h1
    · have := (h.row.lt k hk).2; omega
  · rcases hF U hc with h1 | h1
    · exact h.uF h1
    · omega
theorem Mm.new {B U : Nat} {F : Nat → Prop} {es ms ms' : List Et} {w w' : World} {v v' : Value} (h : Mm B U F es w v ms) (hf : Fr w w') (hrow : w'.ownsRow w.heap.size 40 4 v' ms'.length (etL ms')) (hsub : ∀ e ∈ ms', e ∈ es) (hF : ∀ k, F k → k < w.heap.size) : Mm B U F es w' v' ms' :=
  ⟨owns_mono hrow h.le, fun k hk hc => by have := (hrow.lt k hk).1; have := hF k hc; omega, hsub, (hf.heap (Array.getElem?_eq_some_iff.1 h.uz).1).trans h.uz, h.uF, Nat.le_trans h.le hf.size⟩
/-- Whether an entry comes into the document's list, too. -/
def addM (most : Int) (ms : List Et) (x : Et) : List Et := if adds most (ms.map Et.c) x.c = true then ms ++ [x] else ms
theorem addM_map (most : Int) (ms : List Et) (x : Et) : (addM most ms x).map Et.c = addC most (ms.map Et.c) x.c := by
  unfold addM addC; split <;> simp
theorem Rd.formed {w : World} {v : Value} {es : List Et} (h : Rd w v es) : Formed es := by
  intro e he
  obtain ⟨a, c, e1, _, _⟩ := (h.ok e he).g.form
  obtain ⟨a', c', e2, _, _⟩ := (h.ok e he).st.form
  exact ⟨⟨_, _, _, e1⟩, ⟨_, _, _, e2⟩⟩
def RaddM (B U : Nat) (F : Nat → Prop) (es : List Et) (b : Bool) (ms : List Et) (W : World) (e : Ending) (w' : World) : Prop :=
  ∃ a c, e = .returned (.tuple #[.slice a ms.length c, .bool b]) ∧ Mm B U F es w' (.slice a ms.length c) ms ∧ Fr W w'
theorem radd_mm {B U : Nat} {F : Nat → Prop} {es ms : List Et} {w : World} {a : Option Addr} {n c : Nat} (m : Int) (h : Mm B U F es w (.slice a n c) ms) (hn : ms.length = n) (hn32 : n ≤ 1000) (hfe : Formed es) (hF : ∀ k, F k → k < w.heap.size) (x : Et) (hx : x ∈ es) :
    Calls Try.prog 9 #[.int .i64 m, .slice a n c, .agg #[.int .i64 x.c.o, .int .i64 x.c.s, x.g, x.st]] w (RaddM B U F es (adds (most' m) (ms.map Et.c) x.c) (addM (most' m) ms x) w) := by
  have hfm : Formed ms := fun e he => hfe e (h.sub e he)
  have hlm : (ms.map Et.c).length = n := by rw [List.length_map]; exact hn
  by_cases hd : most' m - n < 1
  · have ha : adds (most' m) (ms.map Et.c) x.c = false := by
      unfold adds; rw [hlm]
      have : decide (1 ≤ most' m - (n : Int)) = false := decide_eq_false (by omega)
      rw [this]; rfl
    have hm : addM (most' m) ms x = ms := by unfold addM; rw [ha]; rfl
    rw [ha, hm]
    refine (radd_full m x.c.o x.c.s x.g x.st hn32 hd).mono ?_
    rintro e w' ⟨rfl, hf⟩
    subst hn
    exact ⟨a, c, rfl, h.fr hf, hf⟩
  · refine (radd_walk m ms (by have := owns_sl h.row; rw [hn] at this; exact this) hn hfm hn32 x (fun e he => by rw [List.mem_singleton.1 he]; exact hfe x hx) hd).mono ?_
    rintro e w' (⟨hh, rfl, hf⟩ | ⟨hh, g, c', rfl, hrow, hf⟩)
    · have ha : adds (most' m) (ms.map Et.c) x.c = false := by unfold adds; rw [hh]; simp
      have hm : addM (most' m) ms x = ms := by unfold addM; rw [ha]; rfl
      rw [ha, hm]
      subst hn
      exact ⟨a, c, rfl, h.fr hf, hf⟩
    · have ha : adds (most' m) (ms.map Et.c) x.c = true := by
        unfold adds; rw [hh, hlm]
        have : decide (1 ≤ most' m - (n : Int)) = true := decide_eq_true (by omega)
        rw [this]; rfl
      have hm : addM (most' m) ms x = ms ++ [x] := by unfold addM; rw [ha]; rfl
      rw [ha, hm]
      have hl : (ms ++ [x]).length = n + 1 := by simp [hn]
      refine ⟨some ⟨g, 0, none⟩, c', by rw [hl], h.new hf (by rw [hl]; exact hrow) ?_ hF, hf⟩
      intro e he
      rcases List.mem_append.1 he with he | he
      · exact h.sub e he
      · rw [List.mem_singleton.1 he]; exact hx
end Go.Proofs.Ytncbgcfjjlhgpaa
