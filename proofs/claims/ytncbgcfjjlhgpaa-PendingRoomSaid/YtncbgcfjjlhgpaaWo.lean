/-
  The walks of the row's Without and All. Conditions: the row and the names are as they say.
-/
import Derived.Test.YtncbgcfjjlhgpaaLists
namespace Go.Proofs.Ytncbgcfjjlhgpaa
open Go.RowKit

theorem cells_four (w : World) (x y z u : Value) (t : TypeId) : ∀ j r, [x, y, z, u][j]? = some r → (w.alloc (.cells #[x, y, z, u] t)).cell? ((⟨w.heap.size, 0, none⟩ : Addr).add j) = some r := by
  intro j r hj
  rw [add_at, cell_at (heap_alloc_new w _)]
  simpa using hj
/-- What Without gives: the entries that stay, each with lists of its own. -/
def WoPost (B : Nat) (l : List Cn) (ids : List (Int × Int)) (W : World) (e : Ending) (w' : World) : Prop :=
  ∃ v' ys, e = .returned v' ∧ ys.map Et.c = left ids l ∧ Lst B w' v' ys ∧ Fr W w'
/-- The sizes of an entry's lists. -/
def Fits (l : List Cn) : Prop := ∀ c ∈ l, c.gs.length ≤ 1000000 ∧ c.ss.length ≤ 1000000
set_option maxHeartbeats 4000000 in
theorem without_walk {B R mb : Nat} {v : Value} {most : Int} {es : List Et} {w : World} (h : Rw B R mb v most es w) (hl : es.length ≤ 1000) (hft : Fits (es.map Et.c)) {m c : Nat} {ia : Option Addr} (ids : List (Int × Int)) (hi : Sl w (.slice ia m c) m 2 (idL ids)) (hm : m ≤ 1000000) :
    Calls Try.prog 13 #[.pointer (some ⟨R, 0, none⟩), .slice ia m c] w (WoPost w.heap.size (es.map Et.c) ids w) := by
  have hof := of_walk ids hi hm
  obtain ⟨i0, z0, hi0, hz0, hz1, hz2, hz3⟩ := parts info40
  go_enter Try.func13, Try.ntmps13
  go_wp2_with fail
  refine hof.mono ?_
  rintro e w1 ⟨S, rfl, hS, f1⟩
  have h1 := h.fr f1
  have hrd := h1.rd
  obtain ⟨a, cp, rfl⟩ := hrd.form
  have k1 : w1.cell? ⟨R, 1, none⟩ = some (.slice a es.length cp) := h1.at 1
  clear hof h h1 hi
  obtain ⟨n, hn⟩ : ∃ n, es.length = n := ⟨_, rfl⟩
  rw [hn] at hl k1 hrd
  go_wp2_with fail
  have hsz := f1.size
  generalize w.heap.size = H at *
  go_loopw [6, 18] (fun vo i wk => ∃ (k : Nat) (ys : List Et), k ≤ n ∧ i = .int .i64 k ∧ ys.map Et.c = left ids ((es.map Et.c).take k) ∧ Lst w1.heap.size wk vo ys ∧ Fr w1 wk) (fun _ i _ => n - (intOf i).toNat)
  case atStart => exact ⟨0, [], Nat.zero_le _, rfl, rfl, Lst.nil _ _, Fr.refl _⟩
  case round =>
    obtain ⟨k, ys, hk, rfl, hys, hls, hf⟩ := hrel
    by_cases hlt : k < n
    · obtain ⟨e, he⟩ : ∃ e, es[k]? = some e := ⟨_, List.getElem?_eq_getElem (by omega)⟩
      have hrk := hrd.fr hf
      obtain ⟨b, o, rfl, hb, -, hc⟩ := hrk.at he
      have hok := hrk.ok e (List.mem_of_getElem? he)
      have hsub := left_le ids ((es.map Et.c).take k)
      have hyn : ys.length ≤ k := by
        have h1 : ys.length = (left ids ((es.map Et.c).take k)).length := by rw [← hys, List.length_map]
        have h2 : ((es.map Et.c).take k).length ≤ k := by rw [List.length_take]; omega
        omega
      have hft1 := hft e.c (List.mem_map_of_mem (List.mem_of_getElem? he))
      have hgc := map_take_get he
      have c0 := hc 0 (by decide)
      have c1 := hc 1 (by decide)
      have c2 := hc 2 (by decide)
      have c3 := hc 3 (by decide)
      obtain ⟨⟨eo, es', gs, ss⟩, g, st⟩ := e
      obtain ⟨ga, gc, rfl⟩ : ∃ a c, g = .slice a gs.length c := by obtain ⟨a, c, h, _⟩ := hok.g.form; exact ⟨a, c, h⟩
      obtain ⟨sa, sc, rfl⟩ : ∃ a c, st = .slice a ss.length c := by obtain ⟨a, c, h, _⟩ := hok.st.form; exact ⟨a, c, h⟩
      dsimp only [etV] at c0 c1 c2 c3 hft1 hgc
      obtain ⟨p1, hp1⟩ : ∃ p, gs.length = p := ⟨_, rfl⟩
      obtain ⟨p2, hp2⟩ : ∃ p, ss.length = p := ⟨_, rfl⟩
      rw [hp1] at he hok c0 c1 c2 c3
      rw [hp2] at he hok c0 c1 c2 c3
      simp only [List.getElem?_cons_zero, List.getElem?_cons_succ, Nat.add_zero, ← Nat.add_assoc] at c0 c1 c2 c3
      have fa := (Fr.refl wr).alloc (.cells #[.int .i64 eo, .int .i64 es', .slice ga p1 gc, .slice sa p2 sc] 40)
      have ba := heap_alloc_new wr (.cells #[.int .i64 eo, .int .i64 es', .slice ga p1 gc, .slice sa p2 sc] 40)
      have hhas := shas_walk eo es' (hS.fr (hf.trans fa))
      rw [cnt_pos] at hhas
      have d0 : (wr.alloc (.cells #[.int .i64 eo, .int .i64 es', .slice ga p1 gc, .slice sa p2 sc] 40)).cell? ⟨wr.heap.size, 0, none⟩ = some (.int .i64 eo) := cell_at ba 0
      have d1 : (wr.alloc (.cells #[.int .i64 eo, .int .i64 es', .slice ga p1 gc, .slice sa p2 sc] 40)).cell? ⟨wr.heap.size, 1, none⟩ = some (.int .i64 es') := cell_at ba 1
      have HH := Go.Lib.hid (And.intro hys (And.intro hgc hft1))
      have HN := Go.Lib.hid hn
      have HZ := Go.Lib.hid hsz
      clear hys hgc hft1 he hsub hn hsz
      cases hme : mem ids eo es' with
      | true =>
        rw [hme] at hhas
        have HM := Go.Lib.hid hme
        clear hme
        clear hS hrd hc hok hrk ba
        go_wp2_with fail
        refine hhas.mono ?_
        rintro e w4 ⟨rfl, f4⟩
        go_wp2_with fail
        go_roundw
        case rel => exact ⟨k + 1, ys, by omega, by go_num, by rw [HH.out.1, left_no HH.out.2.1 HM.out], hls.fr (fa.trans f4), hf.trans (fa.trans f4)⟩
        case measure => simp [intOf]; omega
      | false =>
        rw [hme] at hhas
        have HM := Go.Lib.hid hme
        clear hme
        clear hS hc hrk
        go_wp2_with fail
        refine hhas.mono ?_
        rintro e w4 ⟨rfl, f4⟩
        have b4 := (f4.heap (by simp)).trans ba
        have q0 : w4.cell? ⟨wr.heap.size, 0, none⟩ = some (.int .i64 eo) := cell_at b4 0
        have q1 : w4.cell? ⟨wr.heap.size, 1, none⟩ = some (.int .i64 es') := cell_at b4 1
        have q2 : w4.cell? ⟨wr.heap.size, 2, none⟩ = some (.slice ga p1 gc) := cell_at b4 2
        have q3 : w4.cell? ⟨wr.heap.size, 3, none⟩ = some (.slice sa p2 sc) := cell_at b4 3
        have f5 := fa.trans f4
        have hcl := clone_at ⟨⟨eo, es', gs, ss⟩, .slice ga p1 gc, .slice sa p2 sc⟩ (hok.fr f5) HH.out.2.2.1 HH.out.2.2.2
        clear hhas c0 c1 c2 c3 d0 d1 ba fa
        go_wp2_with fail
        refine hcl.mono ?_
        rintro e w5 ⟨an, ac, bn, bc, rfl, hyo, hyf, hyl, f6⟩
        dsimp only at hyo hyf hyl
        rw [hp1, hp2] at hyo hyf hyl
        have hl5 := hls.fr (f5.trans f6)
        have hsz5 := (hf.trans (f5.trans f6)).size
        obtain ⟨p, hp⟩ : ∃ p, ys.length = p := ⟨_, rfl⟩
        have hrow5 := hl5.row
        rw [hp] at hrow5
        have f7 := f5.trans f6
        have hsz4 := f5.size
        have hlv := fun k hk => (hls.row.lt k hk).2
        dsimp only; rw [hp1, hp2]
        go_wp2_with (at_builtin; go_must (refine wpList_append_lies _ rfl _ _ 22 rfl w1.heap.size 40 i0 z0 4 64 Try.underlying22 hi0 hz0 hz2 hz3 hz1 (by decide) u6 p (etL ys) rfl (hrow5.alloc _) ⟨w5.heap.size, 0, none⟩ 1 1 [.int .i64 eo, .int .i64 es', .slice an p1 ac, .slice bn p2 bc] rfl rfl (cells_four _ _ _ _ _ _) (by simp [Value.oneCell']) (by omega) (by unfold maxLen; omega) (by omega) (by simp; omega) _ rfl ?_); intro g' cap' w6 hown hgrow hat hlt6)
        obtain ⟨hl6, b6⟩ := hl5.push _ hyo hyl ⟨fun k hk hc => by have := hyf.1 k hk; have := hlv k hc; omega, fun k hk hc => by have := hyf.2 k hk; have := hlv k hc; omega⟩ hp hown hgrow hat
        refine ⟨⟨k + 1, _, by omega, by go_num, ?_, hl6, hl5.grow (hf.trans f7) (Nat.le_refl _) b6⟩, by simp [intOf]; omega⟩
        rw [List.map_append, HH.out.1, left_yes HH.out.2.1 HM.out]
        rfl
    · obtain rfl : n = k := by omega
      have ht : (es.map Et.c).take n = es.map Et.c := by rw [List.take_of_length_le (by rw [List.length_map]; omega)]
      rw [ht] at hys
      go_wp2_with fail
      go_ret
      exact ⟨_, ys, rfl, hys, hls.mono hsz, f1.trans hf⟩
theorem all_walk {B R mb : Nat} {v : Value} {most : Int} {es : List Et} {w : World} (h : Rw B R mb v most es w) (hl : es.length ≤ 1000) (hft : Fits (es.map Et.c)) :
    Calls Try.prog 21 #[.pointer (some ⟨R, 0, none⟩)] w (WoPost w.heap.size (es.map Et.c) [] w) := by
  have hw := without_walk h hl hft (m := 0) (c := 0) (ia := none) [] ⟨none, 0, rfl, rfl, Nat.le_refl _, .inl rfl⟩ (Nat.zero_le _)
  go_enter Try.func21, Try.ntmps21
  go_wp2_with fail
  refine hw.mono ?_
  rintro e w1 ⟨v', ys, rfl, h1, h2, h3⟩
  go_wp2_with fail
  go_ret
  exact ⟨v', ys, rfl, h1, h2, h3⟩
theorem without_nil {m c : Nat} {ia : Option Addr} (w : World) : Calls Try.prog 13 #[.pointer none, .slice ia m c] w fun e w' => e = .returned (.slice none 0 0) ∧ w = w' := by
  go_enter Try.func13, Try.ntmps13
  go_wp2_with fail
  go_ret
  exact ⟨rfl, rfl⟩
theorem all_nil (w : World) : Calls Try.prog 21 #[.pointer none] w fun e w' => e = .returned (.slice none 0 0) ∧ w = w' := by
  have hw := without_nil (m := 0) (c := 0) (ia := none) w
  go_enter Try.func21, Try.ntmps21
  go_wp2_with fail
  refine hw.mono ?_
  rintro e w1 ⟨rfl, rfl⟩
  go_wp2_with fail
  go_ret
  exact ⟨rfl, rfl⟩
end Go.Proofs.Ytncbgcfjjlhgpaa
