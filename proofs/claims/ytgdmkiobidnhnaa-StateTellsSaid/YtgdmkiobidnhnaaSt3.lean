/-
  What changes from one state to another: the program's Diff. Conditions: the pairs lie where the slices say, at most five hundred of each.
-/
import Derived.Test.YtgdmkiobidnhnaaSt2
namespace Go.Proofs.Ytgdmkiobidnhnaa
open Go.RowKit Go.Shelf
set_option linter.unusedSimpArgs false
attribute [local go_sem] Oper.semAt_some wide_depth wide_fn

abbrev Chs := List (ByteArray × (Bool × ByteArray))
def chL (l : Chs) : List Value := l.flatMap fun c => [.string c.1, .bool c.2.1, .string c.2.2]
theorem chL_push (l : Chs) (c : ByteArray × (Bool × ByteArray)) : chL (l ++ [c]) = chL l ++ [.string c.1, .bool c.2.1, .string c.2.2] := by simp [chL]
def eqC (x y : Bool × ByteArray) : Bool := x.1 == y.1 && x.2.toList == y.2.toList
def getC (m : Ps) (k : ByteArray) : Bool × ByteArray := ((get m k).isSome, (get m k).getD ⟨#[]⟩)
def difK (a b : Ps) (pre : Ps) : Chs := pre.filterMap fun p => if eqC (getC b p.1) (getC a p.1) = true then none else some (p.1, getC b p.1)
def uni (a b : Ps) : Ps := b.foldl (fun m p => put m p.1 ⟨#[]⟩) a
def diff (a b : Ps) : Chs := difK a b (uni a b)
theorem uni_push (a b : Ps) (x : ByteArray × ByteArray) : uni a (b ++ [x]) = put (uni a b) x.1 ⟨#[]⟩ := by simp [uni]
theorem uni_len : ∀ (b a : Ps), (uni a b).length ≤ a.length + b.length
  | [], a => by simp [uni]
  | x :: r, a => by
    have h1 := uni_len r (put a x.1 ⟨#[]⟩)
    have h2 := put_len a x.1 ⟨#[]⟩
    simp only [uni, List.foldl_cons, List.length_cons] at h1 ⊢
    omega
theorem difK_push (a b pre : Ps) (x : ByteArray × ByteArray) : difK a b (pre ++ [x]) = if eqC (getC b x.1) (getC a x.1) = true then difK a b pre else difK a b pre ++ [(x.1, getC b x.1)] := by
  unfold difK
  rw [List.filterMap_append]
  split <;> simp [*]
theorem difK_len (a b pre : Ps) : (difK a b pre).length ≤ pre.length := List.length_filterMap_le _ _
theorem ch_neq (k : ByteArray) (x y : Bool) (s t : ByteArray) (w : World) : (binOp .neq 69 (.agg #[.string k, .bool x, .string s]) (.agg #[.string k, .bool y, .string t])).run Try.prog w = .ok (.bool (!eqC (x, s) (y, t))) w := by
  have h : (Op.equal 69 (.agg #[.string k, .bool x, .string s]) (.agg #[.string k, .bool y, .string t])).run Try.prog w = .ok (eqC (x, s) (y, t)) w := by
    simp only [Op.equal, Op.maxDepth, eqC]
    go_simp
    by_cases h2 : s.toList = t.toList <;> cases x <;> cases y <;> simp [h2]
  simp [binOp, h]
theorem info69 : (Try.prog.info? 69).map (fun i => (i.zero.map fun z => z.cells.size, i.size, i.bytes)) = some (some 3, 3, 40) := by kernel_rfl
theorem cells_three_new (w : World) (x y z : Value) (t : TypeId) : ∀ j r, [x, y, z][j]? = some r → (w.alloc (.cells #[x, y, z] t)).cell? ((⟨w.heap.size, 0, none⟩ : Addr).add j) = some r := by
  intro j r hj
  rw [add_at, cell_at (heap_alloc_new w _)]
  simpa using hj
theorem But.of_below {n : Nat} {w w' : World} (h : Below n w w') : But (fun k => n ≤ k) w w' := ⟨h.os, h.tape, h.output, h.size, fun k _ hn => h.block k (by omega)⟩
/-- A map that lies in old blocks, and may be looked into. -/
def Held (n0 T : Nat) (l : Ps) (W : World) : Prop := ∃ B F, Tb B F T l W ∧ ∀ k, F k → k < n0
theorem Held.below {n0 T : Nat} {l : Ps} {W W' : World} (h : Held n0 T l W) (hb : Below n0 W W') : Held n0 T l W' := by
  obtain ⟨B, F, h1, h2⟩ := h
  exact ⟨B, F, h1.but (But.of_below hb) fun k hk h => by have := h2 k hk; omega, h2⟩
theorem Held.mono {n0 n1 T : Nat} {l : Ps} {W : World} (h : Held n0 T l W) (hn : n0 ≤ n1) : Held n1 T l W := by
  obtain ⟨B, F, h1, h2⟩ := h
  exact ⟨B, F, h1, fun k hk => Nat.lt_of_lt_of_le (h2 k hk) hn⟩
theorem Held.now {n0 T : Nat} {l : Ps} {w : World} (h : Held n0 T l w) (hn : l.length ≤ 1000000) (k : ByteArray) : Calls Try.prog 67 #[.pointer (some ⟨T, 0, none⟩), .string k] w fun e w' => e = .returned (nowA l k) ∧ Fr w w' := by
  obtain ⟨B, F, h1, _⟩ := h; exact now_walk h1 hn k
theorem Tb.held {B T : Nat} {F : Nat → Prop} {l : Ps} {w : World} (h : Tb B F T l w) : Held w.heap.size T l w := ⟨B, F, h, fun k hk => (h.lt k hk).2⟩
/-- The three maps, and the boxes of two. -/
structure DI (N B3 P1 P2 T1 T2 T3 : Nat) (a b l : Ps) (w0 W : World) : Prop where
  h1 : Held B3 T1 a W
  h2 : Held B3 T2 b W
  h3 : ∃ F, Tb B3 F T3 l W ∧ ¬ F P1 ∧ ¬ F P2
  p1 : Boxed W P1 24 (.pointer (some ⟨T1, 0, none⟩))
  p2 : Boxed W P2 24 (.pointer (some ⟨T2, 0, none⟩))
  le : N ≤ B3 ∧ B3 ≤ W.heap.size
  bel : Below N w0 W
section
variable {N B3 P1 P2 T1 T2 T3 : Nat} {a b l : Ps} {w0 W W' : World}
theorem DI.fr (h : DI N B3 P1 P2 T1 T2 T3 a b l w0 W) (hf : Fr W W') : DI N B3 P1 P2 T1 T2 T3 a b l w0 W' := by
  obtain ⟨F, q1, q2, q3⟩ := h.h3
  exact ⟨h.h1.below (hf.below_of h.le.2), h.h2.below (hf.below_of h.le.2), ⟨F, q1.fr hf, q2, q3⟩, boxed_fr h.p1 hf, boxed_fr h.p2 hf, ⟨h.le.1, Nat.le_trans h.le.2 hf.size⟩, h.bel.trans (hf.below_of (Nat.le_trans h.le.1 h.le.2))⟩
theorem DI.put (h : DI N B3 P1 P2 T1 T2 T3 a b l w0 W) (hn : l.length ≤ 100000) (k : ByteArray) : Calls Try.prog 16 #[.pointer (some ⟨T3, 0, none⟩), .string k, .string ⟨#[]⟩] W fun e W' => e = .returned (.tuple #[]) ∧ DI N B3 P1 P2 T1 T2 T3 a b (put l k ⟨#[]⟩) w0 W' := by
  obtain ⟨F, q1, q2, q3⟩ := h.h3
  refine (put_tb q1 hn k ⟨#[]⟩).mono fun e W' ⟨e1, F', r1, r2, r3⟩ => ⟨e1, ?_⟩
  have hb := q1.below r3
  have hl1 := h.p1.lt
  have hl2 := h.p2.lt
  refine ⟨h.h1.below hb, h.h2.below hb, ⟨F', r1, fun hh => ?_, fun hh => ?_⟩, boxed_but h.p1 r3 q2, boxed_but h.p2 r3 q3, ⟨h.le.1, Nat.le_trans h.le.2 r3.size⟩, h.bel.trans (hb.mono h.le.1)⟩
  · rcases r2 _ hh with x | x
    · exact q2 x
    · omega
  · rcases r2 _ hh with x | x
    · exact q3 x
    · omega
end
def DiffPost (l : Chs) (W : World) (e : Ending) (w' : World) : Prop := ∃ a c, e = .returned (.slice a l.length c) ∧ w'.ownsRow W.heap.size 69 3 (.slice a l.length c) l.length (chL l) ∧ Fr W w'
theorem nil_post (W w' : World) (h : Fr W w') : DiffPost [] W (.returned (.slice none 0 0)) w' := ⟨none, 0, rfl, ⟨rfl, .inl ⟨rfl, rfl⟩⟩, h⟩
set_option maxRecDepth 20000 in
theorem diff_not {a b : Option Addr} {n c n2 c2 : Nat} {w : World} (m m2 : Ps) (h : Sl w (.slice a n c) n 2 (pairsL m)) (h2 : Sl w (.slice b n2 c2) n2 2 (pairsL m2)) (hl : m.length = n) (hl2 : m2.length = n2) (hn : n ≤ 500) (hn2 : n2 ≤ 500)
    (hu : (upB m && upB m2) = false) : Calls Try.prog 45 #[.slice a n c, .slice b n2 c2] w (DiffPost [] w) := by
  have hr1 := right_walk m h hl (by omega)
  cases hu1 : upB m with
  | false =>
    rw [hu1] at hr1
    clear h h2 hl hl2 hu
    go_enter Try.func45, Try.ntmps45
    go_wp2_with fail
    refine hr1.mono ?_
    rintro e w1 ⟨rfl, f1⟩
    clear hr1
    go_wp2_with fail
    go_ret
    exact nil_post _ _ f1
  | true =>
    rw [hu1] at hr1 hu
    have hu2 : upB m2 = false := by simpa using hu
    clear h hl hu
    go_enter Try.func45, Try.ntmps45
    go_wp2_with fail
    refine hr1.mono ?_
    rintro e w1 ⟨rfl, f1⟩
    have hr2 := right_walk m2 (h2.fr f1) hl2 (by omega)
    rw [hu2] at hr2
    clear hr1 h2 hl2
    go_wp2_with fail
    refine hr2.mono ?_
    rintro e w2 ⟨rfl, f2⟩
    replace f1 := f1.trans f2
    clear hr2 f2
    go_wp2_with fail
    go_ret
    exact nil_post _ _ f1
set_option maxRecDepth 100000 in
set_option maxHeartbeats 8000000 in
theorem diff_in (N0 : Nat) (hN0 : 6 ≤ N0) {a b : Option Addr} {n c n2 c2 : Nat} {w : World} (m m2 : Ps) (h : Sl w (.slice a n c) n 2 (pairsL m)) (h2 : Sl w (.slice b n2 c2) n2 2 (pairsL m2)) (hl : m.length = n) (hl2 : m2.length = n2) (hn : n ≤ 500) (hn2 : n2 ≤ 500)
    (hu : Up m) (hu2 : Up m2) : CallsIn Fence.wide N0 Try.prog 45 #[.slice a n c, .slice b n2 c2] w (DiffPost (diff m m2) w) := by
  obtain ⟨i0, z0, hi, hz0, hz1, hz2, hz3⟩ := parts info69
  have hq := eql_nilFunc
  obtain ⟨N, hN⟩ : ∃ N, w.heap.size = N := ⟨_, rfl⟩
  have hr1 := right_walk m h hl (by omega)
  rw [up_upB m hu] at hr1
  have HO := Go.Lib.hid (And.intro h (And.intro h2 (And.intro hl (And.intro hl2 (And.intro hu hu2)))))
  clear h h2 hl hl2 hu hu2
  refine callsIn_of_wp_marks Try.func45 rfl trivial ?_ rfl
  simp only [Try.ntmps45, List.size_toArray, List.length_cons, List.length_nil, Nat.reduceAdd, Nat.reduceSub, Array.replicate_succ, Array.replicate_zero, List.push_toArray, List.append_toArray, List.nil_append, List.cons_append]
  gi_wp2_with fail
  refine (callsIn_wide.2 hr1).mono ?_
  rintro e w1 ⟨rfl, f1⟩
  have hr2 := right_walk m2 (HO.out.2.1.fr f1) HO.out.2.2.2.1 (by omega)
  rw [up_upB m2 HO.out.2.2.2.2.2] at hr2
  clear hr1
  gi_wp2_with fail
  refine (callsIn_wide.2 hr2).mono ?_
  rintro e w2 ⟨rfl, f2⟩
  replace f1 := f1.trans f2
  clear hr2 f2
  gi_wp2_with fail
  refine (callsIn_wide.2 (load_walk m HO.out.2.2.2.2.1 (HO.out.1.fr f1) HO.out.2.2.1 (by omega))).mono ?_
  rintro e w3 ⟨T1, F1, rfl, t1, f3⟩
  have hT1 := t1.held
  replace f1 := f1.trans f3
  clear t1 f3
  gi_wp2_with fail
  refine (callsIn_wide.2 (load_walk m2 HO.out.2.2.2.2.2 (HO.out.2.1.fr f1) HO.out.2.2.2.1 (by omega))).mono ?_
  rintro e w4 ⟨T2, F2, rfl, t2, f3⟩
  have hT2 := t2.held
  replace hT1 := (hT1.below f3).mono f3.size
  replace f1 := f1.trans f3
  clear t2 f3
  gi_wp2_with fail
  refine (callsIn_wide.2 (load_walk m HO.out.2.2.2.2.1 (HO.out.1.fr f1) HO.out.2.2.1 (by omega))).mono ?_
  rintro e w5 ⟨T3, F3, rfl, t3, f3⟩
  obtain ⟨B3, hB3⟩ : ∃ B3, w4.heap.size = B3 := ⟨_, rfl⟩
  have hNB : N ≤ B3 := by have := f1.size; omega
  have hs5 := f3.size
  have f6 := (Fr.refl w5).alloc (.cells #[.pointer (some ⟨T1, 0, none⟩)] 24)
  have b6 := Boxed.new w5 24 (.pointer (some ⟨T1, 0, none⟩))
  have f7 := f6.alloc (.cells #[.pointer (some ⟨T2, 0, none⟩)] 24)
  have b7 := Boxed.new (w5.alloc (.cells #[.pointer (some ⟨T1, 0, none⟩)] 24)) 24 (.pointer (some ⟨T2, 0, none⟩))
  replace b6 := b6.alloc (.cells #[.pointer (some ⟨T2, 0, none⟩)] 24)
  simp only [World.size_alloc] at b7
  have hf5 : Below N w w5 := by have := f1.trans f3; rw [← hN]; exact this
  have hI : DI N B3 w5.heap.size (w5.heap.size + 1) T1 T2 T3 m m2 m w ((w5.alloc (.cells #[.pointer (some ⟨T1, 0, none⟩)] 24)).alloc (.cells #[.pointer (some ⟨T2, 0, none⟩)] 24)) := by
    have hb := f7.below_of (show B3 ≤ w5.heap.size by omega)
    have hb3 : Below B3 w4 w5 := by rw [← hB3]; exact f3
    rw [hB3] at hT1 hT2 t3
    refine ⟨(hT1.below hb3).below hb, (hT2.below hb3).below hb, ⟨F3, t3.fr f7, fun hh => ?_, fun hh => ?_⟩, b6, b7, ⟨hNB, by simp; omega⟩, hf5.trans (f7.below_of (by omega))⟩
    · have := (t3.lt _ hh).2; omega
    · have := (t3.lt _ hh).2; omega
  clear f1 f3 f6 f7 b6 b7 t3 hT1 hT2 hf5 hs5 hB3
  gi_wp2_with fail
  generalize (w5.alloc (.cells #[.pointer (some ⟨T1, 0, none⟩)] 24)).alloc (.cells #[.pointer (some ⟨T2, 0, none⟩)] 24) = w7 at *
  generalize w5.heap.size = P at *
  gi_loopw [29] (fun i wk => ∃ j : Nat, j ≤ n2 ∧ i = .int .i64 j ∧ DI N B3 P (P + 1) T1 T2 T3 m m2 (uni m (m2.take j)) w wk) (fun i _ => n2 - (intOf i).toNat)
  case atStart => exact ⟨0, Nat.zero_le _, rfl, hI⟩
  case round =>
    clear hI
    obtain ⟨j, hj, rfl, hI⟩ := hrel
    by_cases hlt : j < n2
    · obtain ⟨x, hx⟩ : ∃ x, m2[j]? = some x := ⟨_, List.getElem?_eq_getElem (by have := HO.out.2.2.2.1; omega)⟩
      have hf0 : Fr w wr := by have := hI.bel; show Below w.heap.size w wr; rw [hN]; exact this
      obtain ⟨bb, o, rfl, hbb, hnc, hcs⟩ := pair_cells HO.out.2.1 hx HO.out.2.2.2.1
      obtain ⟨c0, c1⟩ := hcs wr hf0
      have hlen := uni_len (m2.take j) m
      rw [List.length_take, HO.out.2.2.1] at hlen
      have f5 := (Fr.refl wr).alloc (.cells #[.string x.1, .string x.2] 42)
      have hp := (hI.fr f5).put (by omega) x.1
      have hst : m2.take (j + 1) = m2.take j ++ [x] := by rw [List.take_add_one, hx]; rfl
      rw [← uni_push, ← hst] at hp
      obtain ⟨x1, x2⟩ := x
      dsimp only at c0 c1 hp
      clear hcs hx hI f5 hf0 hst hlen
      gi_wp2_with fail
      refine (callsIn_wide.2 hp).mono ?_
      rintro e w6 ⟨rfl, hI⟩
      clear hp c0 c1
      gi_wp2_with fail
      go_roundw
      case rel => exact ⟨j + 1, by omega, by go_num, hI⟩
      case measure => simp [intOf]; omega
    · obtain rfl : n2 = j := by omega
      rw [List.take_of_length_le (by have := HO.out.2.2.2.1; omega)] at hI
      have hlen := uni_len m2 m
      rw [HO.out.2.2.1, HO.out.2.2.2.1] at hlen
      obtain ⟨l, hl⟩ : ∃ l, uni m m2 = l := ⟨_, rfl⟩
      have HU := Go.Lib.hid hl
      rw [hl] at hI hlen
      have hlen2 : l.length ≤ 1000 := by omega
      clear hl hlen hlt hj
      have f2 := (Fr.refl wr).alloc (.cells #[.slice none 0 0] 64)
      have b1 := Boxed.new wr 64 (.slice none 0 0)
      gi_wp2_with fail
      refine (callsIn_wide.2 (From_any _ _ _)).mono ?_
      rintro e w6 ⟨rfl, rfl⟩
      gi_wp2_with fail
      have f3 := f2.alloc (.cells #[.pointer (some ⟨T3, 0, none⟩)] 24)
      have f4 := f3.alloc (.cells #[.string ⟨#[]⟩] 9)
      have b2 := Boxed.new (wr.alloc (.cells #[.slice none 0 0] 64)) 24 (.pointer (some ⟨T3, 0, none⟩))
      have b3 := Boxed.new ((wr.alloc (.cells #[.slice none 0 0] 64)).alloc (.cells #[.pointer (some ⟨T3, 0, none⟩)] 24)) 9 (.string ⟨#[]⟩)
      replace b1 := (b1.alloc (.cells #[.pointer (some ⟨T3, 0, none⟩)] 24)).alloc (.cells #[.string ⟨#[]⟩] 9)
      replace b2 := b2.alloc (.cells #[.string ⟨#[]⟩] 9)
      have hs5 : (((wr.alloc (.cells #[.slice none 0 0] 64)).alloc (.cells #[.pointer (some ⟨T3, 0, none⟩)] 24)).alloc (.cells #[.string ⟨#[]⟩] 9)).heap.size = wr.heap.size + 3 := by simp
      simp only [World.size_alloc] at b2 b3
      generalize ((wr.alloc (.cells #[.slice none 0 0] 64)).alloc (.cells #[.pointer (some ⟨T3, 0, none⟩)] 24)).alloc (.cells #[.string ⟨#[]⟩] 9) = W5 at *
      obtain ⟨Bx, hBx⟩ : ∃ Bx, wr.heap.size = Bx := ⟨_, rfl⟩
      have hf4 : Below wr.heap.size wr W5 := f4
      rw [hBx] at b1 b2 b3 hs5 hf4 ⊢
      have HB := Go.Lib.hid hBx
      have h0 : BxI Bx 64 69 3 (fun p => (difK m m2 p).length) (fun p => chL (difK m m2 p)) (Bx + 1) 24 (.pointer (some ⟨T3, 0, none⟩)) wr ([] : Ps) W5 := ⟨⟨_, b1, ⟨rfl, .inl ⟨rfl, rfl⟩⟩, trivial⟩, b2, hf4⟩
      have hseen5 : Seen Bx T3 l W5 := by
        obtain ⟨F, q1, _⟩ := hI.h3
        have := q1.seen
        rw [hBx] at this
        exact this.below hf4
      have hwB : Bx ≤ wr.heap.size := by omega
      have HI := Go.Lib.hid hI
      clear f2 f3 f4 hf4 b1 hBx hI
      refine wpIn_rangeFunc_ownG (w := W5) rfl (by omega) (gf := 73) (lb := #[.pointer (some ⟨Bx + 1, 0, none⟩), .pointer (some ⟨Bx + 1 + 1, 0, none⟩)]) rfl trivial (enters_of Try.func73 (by kernel_rfl) rfl)
        (from_stops (N0 - 1) (Bx + 1) (Bx + 1 + 1) Bx (some ⟨T3, 0, none⟩) l (by omega) ⟨#[]⟩ W5 b2.cell b3.cell (by omega) (by omega) (by omega) (.inr ⟨T3, rfl, hseen5⟩)) Kp.t
        (fun W l o o' hl h ho hwk => ⟨belowK_b (w := wr) hwB W l _ _ (by have := HB.out; omega) h ho hwk, KeepsC.b W l o o' h ho⟩) (Below.refl _ _) (fun _ => rfl)
        (BxI Bx 64 69 3 (fun p => (difK m m2 p).length) (fun p => chL (difK m m2 p)) (Bx + 1) 24 (.pointer (some ⟨T3, 0, none⟩)) wr) (fun _ _ _ => False) (BxI.own _ _ _ _ _ _ _ _ _ _ _ hwB (by omega)) (fun _ _ _ _ _ h => h.elim)
        h0
        (fun x => { tmps := #[.slice a n c, .slice b n2 c2, undef, undef, .slice none 0 0, .pointer (some ⟨P, 0, none⟩), .pointer (some ⟨P + 1, 0, none⟩), .pointer (some ⟨T3, 0, none⟩), undef, u9, .pointer (some ⟨Bx, 0, none⟩), .string x.1, undef,
          .slice a n c, .bool true, .bool false, .bool false, .slice b n2 c2, .bool true, .bool false, .bool false, .slice a n c, .pointer (some ⟨T1, 0, none⟩), .slice b n2 c2, .pointer (some ⟨T2, 0, none⟩), .slice a n c, .pointer (some ⟨T3, 0, none⟩),
          .slice b n2 c2, .int .i64 n2, .int .i64 n2, .bool false, u31, u32, u33, u34, u35, u36, u37, .pointer (some ⟨T3, 0, none⟩), .func (.func 73) #[] #[.pointer (some ⟨Bx + 1, 0, none⟩), .pointer (some ⟨Bx + 1 + 1, 0, none⟩)],
          .string x.1, .string x.2, undef, undef, undef, undef, undef, undef, undef, undef, undef, undef, undef, undef, undef], defers := [] }) ?assign ?body ?done ?stop
      case assign =>
        intro l x W K hK
        gi_wp2
        exact hK
      case body =>
        rintro lp pre x W ⟨⟨v, hv, hrow, _⟩, hbt, hB⟩ hlt
        have hplen : (difK m m2 pre).length ≤ 1000 := by have := difK_len m m2 pre; rw [List.length_drop] at hlt; omega
        have hps := difK_push m m2 pre x
        obtain ⟨q, hq⟩ : ∃ q, (difK m m2 pre).length = q := ⟨_, rfl⟩
        dsimp only at hrow
        rw [hq] at hrow hplen
        obtain ⟨va, vc, rfl⟩ := own_form2 hrow
        have hPB : P < Bx ∧ P + 1 < Bx := by have h1 := HI.out.p1.lt; have h2 := HI.out.p2.lt; have := HB.out; omega
        have hle3 : B3 ≤ Bx := by have := HI.out.le.2; have := HB.out; omega
        have g1 := (HI.out.h1.mono hle3).below hB
        have g2 := (HI.out.h2.mono hle3).below hB
        have p1 : Boxed W P 24 (.pointer (some ⟨T1, 0, none⟩)) := (hB.block P hPB.1).trans HI.out.p1
        have p2 : Boxed W (P + 1) 24 (.pointer (some ⟨T2, 0, none⟩)) := (hB.block (P + 1) hPB.2).trans HI.out.p2
        obtain ⟨x1, x2⟩ := x
        dsimp only at hps
        have hn2 := g2.now (by have := HO.out.2.2.2.1; omega) x1
        have hn1 : ∀ w', Fr W w' → Calls Try.prog 67 #[.pointer (some ⟨T1, 0, none⟩), .string x1] w' fun e w2 => e = .returned (nowA m x1) ∧ Fr w' w2 := fun w' hw' => (g1.below (hw'.below_of (Nat.le_of_lt hv.lt))).now (by have := HO.out.2.2.1; omega) x1
        have hs2 : getC m2 x1 = ((get m2 x1).isSome, (get m2 x1).getD ⟨#[]⟩) := rfl
        have hs1 : getC m x1 = ((get m x1).isSome, (get m x1).getD ⟨#[]⟩) := rfl
        unfold nowA at hn1 hn2
        generalize (get m2 x1).isSome = i2 at *
        generalize (get m2 x1).getD ⟨#[]⟩ = v2 at *
        generalize (get m x1).isSome = i1 at *
        generalize (get m x1).getD ⟨#[]⟩ = v1 at *
        rw [hs1, hs2] at hps
        have hneq := ch_neq x1 i2 i1 v2 v1
        obtain ⟨r, hr⟩ : ∃ r, eqC (i2, v2) (i1, v1) = r := ⟨_, rfl⟩
        rw [hr] at hps hneq
        have d2 := p2.cell
        have HQ := Go.Lib.hid (And.intro hq (And.intro hps (And.intro hv (And.intro hrow (And.intro hbt hB)))))
        have hc0 := hv.cell
        clear hq hps hv hbt hB hs1 hs2 hr g1 g2 hlt hPB hle3 p2
        gi_wp2_with fail
        refine (callsIn_wide.2 hn2).mono ?_
        rintro e W1 ⟨rfl, e1⟩
        have f2 := e1.alloc (.cells #[.string x1, .bool i2, .string v2] 69)
        have bq := heap_alloc_new W1 (.cells #[.string x1, .bool i2, .string v2] 69)
        have hlt2 : W1.heap.size < (W1.alloc (.cells #[.string x1, .bool i2, .string v2] 69)).heap.size := by simp
        clear d2 hn2
        gi_wp2_with fail
        generalize W1.alloc (.cells #[.string x1, .bool i2, .string v2] 69) = W2 at *
        obtain ⟨Q, hQ⟩ : ∃ Q, W1.heap.size = Q := ⟨_, rfl⟩
        rw [hQ] at bq hlt2 ⊢
        have k0 : ∀ w', Fr W2 w' → w'.cell? ⟨Q, 0, none⟩ = some (.string x1) := fun w' hw' => cell_at ((hw'.heap hlt2).trans bq) 0
        have k1 : ∀ w', Fr W2 w' → w'.cell? ⟨Q, 1, none⟩ = some (.bool i2) := fun w' hw' => cell_at ((hw'.heap hlt2).trans bq) 1
        have k2 : ∀ w', Fr W2 w' → w'.cell? ⟨Q, 2, none⟩ = some (.string v2) := fun w' hw' => cell_at ((hw'.heap hlt2).trans bq) 2
        have k3 : ∀ w', Fr W2 w' → w'.cell? ⟨P, 0, none⟩ = some (.pointer (some ⟨T1, 0, none⟩)) := fun w' hw' => (f2.trans hw').cell' p1.cell
        have hcall : ∀ w', Fr W2 w' → Calls Try.prog 67 #[.pointer (some ⟨T1, 0, none⟩), .string x1] w' fun e w2 => e = .returned (.agg #[.string x1, .bool i1, .string v1]) ∧ Fr w' w2 := fun w' hw' => hn1 w' (f2.trans hw')
        clear e1 hn1 hQ p1
        cases r with
        | true =>
          refine wpIn_region_classR (Fr W2) (by kernel_rfl) (by kernel_rfl) (by kernel_rfl) (Fr.draw _) ?_
          repeat (first
            | (refine quietIn_valR rfl ?_
               apply Exists.intro
               refine ⟨?_, ?_⟩
               focus (intro w' hw'; go_simp; (try go_bits); with_reducible rfl)
               simp only [Act.put, List.setIfInBounds_toArray, List.set_cons_zero, List.set_cons_succ])
            | (refine quietIn_passR rfl ?_
               simp only [Act.put, List.setIfInBounds_toArray, List.set_cons_zero, List.set_cons_succ])
            | (refine quietIn_enterR rfl ?_
               apply Exists.intro
               apply Exists.intro
               apply Exists.intro
               refine ⟨?_, ?_, ?_⟩
               focus (intro w' hw'; go_simp; exact ⟨rfl, rfl⟩)
               focus (intro w' hw'; with_reducible first | exact qFr (by assumption) (hcall _ (by assumption)))
               simp only [Act.put, List.setIfInBounds_toArray, List.set_cons_zero, List.set_cons_succ]))
          refine wpQuietIn_nil ?_
          intro W3 f3
          have f4 := f2.trans f3
          clear k0 k1 k2 k3 hcall f3
          gi_wp2_with fail
          obtain ⟨hq, hps, hv, hrow', hbt, hB⟩ := HQ.out
          rw [if_pos trivial] at hps
          obtain ⟨s1, s2, s3, s4, s5, s6⟩ := box_skip (D := Bx + 3) hv hrow' hbt hB f4
          refine ⟨s1, s2, ⟨⟨_, s3, ?_, trivial⟩, s5, s6⟩⟩
          dsimp only
          rw [hps, hq]; exact s4
        | false =>
          refine wpIn_region_classR (Fr W2) (by kernel_rfl) (by kernel_rfl) (by kernel_rfl) (Fr.draw _) ?_
          repeat (first
            | (refine quietIn_valR rfl ?_
               apply Exists.intro
               refine ⟨?_, ?_⟩
               focus (intro w' hw'; go_simp; (try go_bits); with_reducible rfl)
               simp only [Act.put, List.setIfInBounds_toArray, List.set_cons_zero, List.set_cons_succ])
            | (refine quietIn_passR rfl ?_
               simp only [Act.put, List.setIfInBounds_toArray, List.set_cons_zero, List.set_cons_succ])
            | (refine quietIn_enterR rfl ?_
               apply Exists.intro
               apply Exists.intro
               apply Exists.intro
               refine ⟨?_, ?_, ?_⟩
               focus (intro w' hw'; go_simp; exact ⟨rfl, rfl⟩)
               focus (intro w' hw'; with_reducible first | exact qFr (by assumption) (hcall _ (by assumption)))
               simp only [Act.put, List.setIfInBounds_toArray, List.set_cons_zero, List.set_cons_succ]))
          refine wpQuietIn_nil ?_
          intro W3 f3
          have f4 := f2.trans f3
          have y0 := k0 W3 f3
          have y1 := k1 W3 f3
          have y2 := k2 W3 f3
          obtain ⟨_, _, hv, hrow', hbt, hB⟩ := HQ.out
          have hrow3 := owns_fr hrow f4
          have hc3 := f4.cell' hc0
          clear k0 k1 k2 k3 hcall f3 hv hrow' hbt hB hc0
          have HF := Go.Lib.hid f4
          clear f4 f2
          gi_wp2_with (gi_at_builtin; go_must (refine wpListIn_append_own_at _ rfl _ _ 64 rfl Bx 69 i0 z0 3 40 Try.underlying64 hi hz0 hz2 hz3 hz1 (by decide) _ _ _ rfl (hrow3.alloc _) ⟨W3.heap.size, 0, none⟩ 1 1 [.string x1, .bool i2, .string v2] rfl rfl (cells_three_new _ _ _ _ _) (by simp [Value.oneCell']) (by unfold maxLen; omega) (by omega) (by have h1 := HF.out.size; have h2 := HQ.out.2.2.1.lt; simp; omega) ?_); intro v' w1 hown' hgrow _ hat; obtain ⟨g', cap', rfl⟩ := ownsRow_succ hown'; obtain ⟨s1, s2, s3, s4, s5, s6, s7⟩ := box_step (D := W5.heap.size) HQ.out.2.2.1 HQ.out.2.2.2.1 HQ.out.2.2.2.2.1 HQ.out.2.2.2.2.2 (HF.out.alloc _) hgrow hown' (by decide) (by decide) (by omega); have hc1 := s1.cell; have hf1 := s1.frozen)
          obtain ⟨hq, hps, _⟩ := HQ.out
          rw [if_neg (by simp)] at hps
          refine ⟨s2, s3, ⟨⟨_, s4, ?_, trivial⟩, s6, s7⟩⟩
          dsimp only
          rw [hps, List.length_append, hq, chL_push]; exact s5
      case done =>
        rintro D ys W hD rfl ⟨⟨v, hv, hrow, _⟩, hbt, hB⟩ hK
        have hc := hv.cell
        dsimp only at hrow
        have hrow2 := ownsRow_putObj hrow (.deferred none) hK rfl
        have hbD := belowK_b (w := wr) hwB W D _ (.deferred none) (by have := HB.out; omega) hK rfl rfl
        have hfin : diff m m2 = difK m m2 l := by unfold diff; rw [HU.out]
        gi_wp2
        refine ⟨by simp, .inl ⟨_, _, rfl, run_takeDeferred hK, ?_⟩⟩
        rw [rank_none, List.drop_zero] at hrow2
        obtain ⟨va, vc, rfl⟩ := own_form2 hrow2
        have hNB3 : N ≤ Bx := by have h1 := HI.out.le; have := HB.out; omega
        refine ⟨_, results_tmp rfl _ _ _, va, vc, ?_, ?_, ?_⟩
        · rw [hfin]; rfl
        · rw [hfin, hN]; exact owns_mono hrow2 hNB3
        · show Below w.heap.size w _
          rw [hN]
          exact HI.out.bel.trans ((hB.trans hbD).mono hNB3)
      case stop =>
        rintro D c pre W hD _ h _
        exact h.elim
theorem diff_walk {a b : Option Addr} {n c n2 c2 : Nat} {w : World} (m m2 : Ps) (h : Sl w (.slice a n c) n 2 (pairsL m)) (h2 : Sl w (.slice b n2 c2) n2 2 (pairsL m2)) (hl : m.length = n) (hl2 : m2.length = n2) (hn : n ≤ 500) (hn2 : n2 ≤ 500)
    (hu : Up m) (hu2 : Up m2) : Calls Try.prog 45 #[.slice a n c, .slice b n2 c2] w (DiffPost (diff m m2) w) :=
  callsIn_wide.1 (diff_in 6 (Nat.le_refl _) m m2 h h2 hl hl2 hn hn2 hu hu2)
end Go.Proofs.Ytgdmkiobidnhnaa
