/-
  The keys of guards and of steps, rising, each once. Conditions: the guards and the steps lie where the slices say; at most a thousand of each.
-/
import Derived.Test.YtgdmkiobidnhnaaGs
namespace Go.Proofs.Ytgdmkiobidnhnaa
open Go.RowKit Go.Shelf
attribute [local go_sem] Oper.semAt_some wide_depth wide_fn

def noted (m : I.Ps) (ks : List ByteArray) : I.Ps := ks.foldl (fun m k => put m k 0) m
theorem iput_len (l : I.Ps) (k : ByteArray) (v : Int) : (put l k v).length ≤ l.length + 1 := by
  rw [put_eq]; split
  · simp
  · have := rank_le l k; simp; omega
theorem noted_len : ∀ (ks : List ByteArray) (m : I.Ps), (noted m ks).length ≤ m.length + ks.length
  | [], m => by simp [noted]
  | k :: r, m => by
    have h1 := noted_len r (put m k 0)
    have h2 := iput_len m k 0
    simp only [noted, List.foldl_cons, List.length_cons] at h1 ⊢
    omega
theorem noted_push (m : I.Ps) (ks : List ByteArray) (k : ByteArray) : noted m (ks ++ [k]) = put (noted m ks) k 0 := by simp [noted]
theorem noted_app (m : I.Ps) (a b : List ByteArray) : noted m (a ++ b) = noted (noted m a) b := by simp [noted]
theorem map_take_succ {α : Type} (f : α → ByteArray) {m : List α} {j : Nat} {x : α} (h : m[j]? = some x) : (m.take (j + 1)).map f = (m.take j).map f ++ [f x] := by
  rw [List.take_add_one, h]; simp
/-- The keys of rows of keys. -/
def keysOf (ks : List ByteArray) : List ByteArray := (noted [] ks).map Prod.fst
/-- The map that is noted in, and its box. -/
def NoteI (N P T : Nat) (l : I.Ps) (w0 w : World) : Prop :=
  ∃ F, I.Tb N F T l w ∧ ¬ F P ∧ w.heap[P]? = some (.cells #[.pointer (some ⟨T, 0, none⟩)] 92) ∧ N ≤ P ∧ Below N w0 w
section
variable {N P T : Nat} {l : I.Ps} {w0 w w' : World}
theorem NoteI.fr (h : NoteI N P T l w0 w) (hf : Fr w w') : NoteI N P T l w0 w' := by
  obtain ⟨F, h1, h2, h3, h4, h5⟩ := h
  exact ⟨F, h1.fr hf, h2, (hf.heap (Array.getElem?_eq_some_iff.1 h3).1).trans h3, h4, h5.trans (hf.below_of h1.le)⟩
theorem NoteI.cell (h : NoteI N P T l w0 w) : w.cell? ⟨P, 0, none⟩ = some (.pointer (some ⟨T, 0, none⟩)) := by
  obtain ⟨F, h1, h2, h3, h4, h5⟩ := h; exact cell_at h3 0
theorem NoteI.le (h : NoteI N P T l w0 w) : N ≤ w.heap.size := by
  obtain ⟨F, h1, _⟩ := h; exact h1.le
theorem NoteI.below (h : NoteI N P T l w0 w) : Below N w0 w := by
  obtain ⟨F, _, _, _, _, h⟩ := h; exact h
theorem NoteI.put (h : NoteI N P T l w0 w) (hn : l.length ≤ 100000) (k : ByteArray) : Calls Try.prog 75 #[.string k, .pointer (some ⟨P, 0, none⟩)] w fun e w' => e = .returned (.tuple #[]) ∧ NoteI N P T (put l k 0) w0 w' := by
  have hc := h.cell
  obtain ⟨F, h1, h2, h3, h4, h5⟩ := h
  have hp := I.put_tb h1 hn k 0
  have hkeep : ∀ F' w', I.Tb N F' T (Go.Proofs.Ytgdmkiobidnhnaa.put l k 0) w' → (∀ k, F' k → F k ∨ w.heap.size ≤ k) → But F w w' → NoteI N P T (Go.Proofs.Ytgdmkiobidnhnaa.put l k 0) w0 w' := fun F' w' q1 q2 q3 => by
    have hlt := (Array.getElem?_eq_some_iff.1 h3).1
    refine ⟨F', q1, fun hf => ?_, (q3.heap P hlt h2).trans h3, h4, h5.trans (h1.below q3)⟩
    rcases q2 P hf with h | h
    · exact h2 h
    · omega
  clear h1 h2 h3 h4 h5
  go_enter Try.func75, Try.ntmps75
  go_wp2_with fail
  refine hp.mono ?_
  rintro e w' ⟨rfl, F', q1, q2, q3⟩
  have hk := hkeep F' w' q1 q2 q3
  clear hkeep q1 q2 q3 hc hp
  go_wp2_with fail
  first | refine bodyPost_end (results_none rfl _ _ _) rfl ?_ | refine bodyPost_ret (results_none rfl _ _ _) rfl ?_
  exact ⟨rfl, hk⟩
theorem NoteI.seen (h : NoteI N P T l w0 w) : I.Seen w.heap.size T l w := by
  obtain ⟨F, h1, _⟩ := h; exact h1.seen
end
theorem note_start {w w1 : World} {T N : Nat} {F : Nat → Prop} (hN : w.heap.size = N) (ht : I.Tb N F T [] w1) (hf : Fr w w1) : NoteI N w1.heap.size T [] w (w1.alloc (.cells #[.pointer (some ⟨T, 0, none⟩)] 92)) := by
  have f1 := (Fr.refl w1).alloc (.cells #[.pointer (some ⟨T, 0, none⟩)] 92)
  refine ⟨F, ht.fr f1, fun h => ?_, heap_alloc_new w1 _, ht.le, ?_⟩
  · have := (ht.lt _ h).2; omega
  · have hb : Below w.heap.size w w1 := hf
    rw [hN] at hb
    exact hb.trans (f1.below_of ht.le)
theorem equalIn_nilFunc97 (d : Nat) (f : Fn) (b lb : Array Value) (w : World) : (Op.equalIn (d + 1) 97 (.func f b lb) .nilFunc).run Try.prog w = .ok false w := by
  simp [Op.equalIn, run_underlying Try.underlying97]
theorem eql_nilFunc97 (f : Fn) (b lb : Array Value) (w : World) : (binOp .eql 97 (.func f b lb) .nilFunc).run Try.prog w = .ok (.bool false) w := by
  simp only [binOp]
  simp [Op.equal, Op.maxDepth, equalIn_nilFunc97 9999]
theorem info9s : (Try.prog.info? 9).map (fun i => (i.zero.map fun z => z.cells.size, i.size, i.bytes)) = some (some 1, 1, 16) := by kernel_rfl
def TextsPost (l : List ByteArray) (W : World) (e : Ending) (w' : World) : Prop := ∃ a c, e = .returned (.slice a l.length c) ∧ w'.ownsRow W.heap.size 9 1 (.slice a l.length c) l.length (strV l) ∧ Fr W w'
set_option maxRecDepth 100000 in
set_option maxHeartbeats 4000000 in
theorem keys_in (N0 : Nat) (hN0 : 6 ≤ N0) {ga sa : Option Addr} {gn gc sn sc : Nat} {w : World} (gs : List Gd) (hg : Sl w (.slice ga gn gc) gn 3 (gdL gs)) (hgl : gs.length = gn) (hgn : gn ≤ 1000)
    (ss : List Sp) (hs : Sl w (.slice sa sn sc) sn 5 (spL ss)) (hsl : ss.length = sn) (hsn : sn ≤ 1000) :
    CallsIn Fence.wide N0 Try.prog 58 #[.slice ga gn gc, .slice sa sn sc] w (TextsPost (keysOf (gs.map Gd.key ++ ss.map Sp.key)) w) := by
  obtain ⟨i0, z0, hi, hz0, hz1, hz2, hz3⟩ := parts info9s
  have hq := eql_nilFunc97
  obtain ⟨N, hN⟩ : ∃ N, w.heap.size = N := ⟨_, rfl⟩
  have HG := Go.Lib.hid (And.intro hg hgl)
  have HS := Go.Lib.hid (And.intro hs hsl)
  clear hg hgl hs hsl
  refine callsIn_of_wp_marks Try.func58 rfl trivial ?_ rfl
  simp only [Try.ntmps58, List.size_toArray, List.length_cons, List.length_nil, Nat.reduceAdd, Nat.reduceSub, Array.replicate_succ, Array.replicate_zero, List.push_toArray, List.append_toArray, List.nil_append, List.cons_append]
  gi_wp2_with fail
  refine (callsIn_wide.2 (I.new_tb w)).mono ?_
  rintro e w1 ⟨T, F, rfl, ht, f1⟩
  rw [hN] at ht
  have h3 := note_start hN ht f1
  clear ht f1
  gi_wp2_with fail
  generalize w1.alloc (.cells #[.pointer (some ⟨T, 0, none⟩)] 92) = w2 at *
  generalize w1.heap.size = P at *
  gi_loopw [17] (fun i wk => ∃ j : Nat, j ≤ gn ∧ i = .int .i64 j ∧ NoteI N P T (noted [] ((gs.take j).map Gd.key)) w wk) (fun i _ => gn - (intOf i).toNat)
  case atStart => exact ⟨0, Nat.zero_le _, rfl, h3⟩
  case round =>
    clear h3
    obtain ⟨j, hj, rfl, h3⟩ := hrel
    by_cases hlt : j < gn
    · obtain ⟨x, hx⟩ : ∃ x, gs[j]? = some x := ⟨_, List.getElem?_eq_getElem (by have := HG.out.2; omega)⟩
      obtain ⟨b, o, rfl, hb, hnc, hcs⟩ := gd_cells HG.out.1 hx HG.out.2
      obtain ⟨c0, c1, c2⟩ := hcs wr (by rw [hN]; exact h3.below)
      have hmt := map_take_succ Gd.key hx
      have hll := noted_len ((gs.take j).map Gd.key) []
      rw [List.length_map, List.length_take] at hll
      obtain ⟨xk, xa, xv⟩ := x
      dsimp only at c0 c1 c2
      have f4 := (Fr.refl wr).alloc (.cells #[.int .i64 xk, .string xa, .string xv] 56)
      have hp := (h3.fr f4).put (by rw [List.length_nil] at hll; omega) xa
      have HP := Go.Lib.hid (And.intro hmt (And.intro hx (And.intro hll h3)))
      clear hmt hx hll h3 hcs f4
      gi_wp2_with fail
      refine (callsIn_wide.2 hp).mono ?_
      rintro e w5 ⟨rfl, h5⟩
      clear c0 c1 c2 hp
      gi_wp2_with fail
      go_roundw
      case rel => exact ⟨j + 1, by omega, by go_num, by rw [HP.out.1, noted_push]; exact h5⟩
      case measure => simp [intOf]; omega
    · obtain rfl : gn = j := by omega
      have hgt : (gs.take gn).map Gd.key = gs.map Gd.key := by rw [List.take_of_length_le (by have := HG.out.2; omega)]
      rw [hgt] at h3
      have HT := Go.Lib.hid hgt
      have hll := noted_len (gs.map Gd.key) []
      rw [List.length_map, HG.out.2] at hll
      obtain ⟨l1, hl1⟩ : ∃ l1, noted [] (gs.map Gd.key) = l1 := ⟨_, rfl⟩
      rw [hl1] at h3 hll
      have HL := Go.Lib.hid hl1
      have hln : l1.length ≤ 1000 := by rw [List.length_nil] at hll; omega
      clear hgt hll hl1 hlt
      gi_wp2_with fail
      gi_loopw [28] (fun i wk => ∃ j : Nat, j ≤ sn ∧ i = .int .i64 j ∧ NoteI N P T (noted l1 ((ss.take j).map Sp.key)) w wk) (fun i _ => sn - (intOf i).toNat)
      case atStart => exact ⟨0, Nat.zero_le _, rfl, h3⟩
      case round =>
        clear h3
        obtain ⟨j, hj, rfl, h3⟩ := hrel
        by_cases hlt : j < sn
        · obtain ⟨x, hx⟩ : ∃ x, ss[j]? = some x := ⟨_, List.getElem?_eq_getElem (by have := HS.out.2; omega)⟩
          obtain ⟨b, o, rfl, hb, hnc, hcs⟩ := sp_cells HS.out.1 hx HS.out.2
          obtain ⟨c0, c1, c2, c3, c4⟩ := hcs wr (by rw [hN]; exact h3.below)
          have hmt := map_take_succ Sp.key hx
          have hll := noted_len ((ss.take j).map Sp.key) l1
          rw [List.length_map, List.length_take] at hll
          obtain ⟨xk, xa, xv, xo, xn⟩ := x
          dsimp only at c0 c1 c2 c3 c4
          have f4 := (Fr.refl wr).alloc (.cells #[.int .i64 xk, .string xa, .string xv, .string xo, .int .i64 xn] 58)
          have hp := (h3.fr f4).put (by omega) xa
          have HP := Go.Lib.hid (And.intro hmt (And.intro hx (And.intro hll h3)))
          clear hmt hx hll h3 hcs f4
          gi_wp2_with fail
          refine (callsIn_wide.2 hp).mono ?_
          rintro e w5 ⟨rfl, h5⟩
          clear c0 c1 c2 c3 c4 hp
          gi_wp2_with fail
          go_roundw
          case rel => exact ⟨j + 1, by omega, by go_num, by rw [HP.out.1, noted_push]; exact h5⟩
          case measure => simp [intOf]; omega
        · obtain rfl : sn = j := by omega
          have hgt : (ss.take sn).map Sp.key = ss.map Sp.key := by rw [List.take_of_length_le (by have := HS.out.2; omega)]
          rw [hgt] at h3
          have hll := noted_len (ss.map Sp.key) l1
          rw [List.length_map, HS.out.2] at hll
          have hl2 : noted l1 (ss.map Sp.key) = noted [] (gs.map Gd.key ++ ss.map Sp.key) := by rw [noted_app, HL.out]
          obtain ⟨l, hl⟩ : ∃ l, noted l1 (ss.map Sp.key) = l := ⟨_, rfl⟩
          rw [hl] at h3 hll hl2
          have hlen : l.length ≤ 1000000 := by omega
          have HK := Go.Lib.hid (And.intro hl hl2)
          have hc := h3.cell
          have f2 := (Fr.refl wr).alloc (.cells #[.slice none 0 0] 26)
          have hc2 := f2.cell' hc
          have b1 := Boxed.new wr 26 (.slice none 0 0)
          clear hgt hll hl hl2 hlt
          gi_wp2_with fail
          refine (callsIn_wide.2 (I.From_any _ _ _)).mono ?_
          rintro e w6 ⟨rfl, rfl⟩
          gi_wp2_with fail
          have f3 := f2.alloc (.cells #[.pointer (some ⟨T, 0, none⟩)] 92)
          have f4 := f3.alloc (.cells #[.string ⟨#[]⟩] 9)
          have b2 := Boxed.new (wr.alloc (.cells #[.slice none 0 0] 26)) 92 (.pointer (some ⟨T, 0, none⟩))
          have b3 := Boxed.new ((wr.alloc (.cells #[.slice none 0 0] 26)).alloc (.cells #[.pointer (some ⟨T, 0, none⟩)] 92)) 9 (.string ⟨#[]⟩)
          replace b1 := (b1.alloc (.cells #[.pointer (some ⟨T, 0, none⟩)] 92)).alloc (.cells #[.string ⟨#[]⟩] 9)
          replace b2 := b2.alloc (.cells #[.string ⟨#[]⟩] 9)
          have hs5 : (((wr.alloc (.cells #[.slice none 0 0] 26)).alloc (.cells #[.pointer (some ⟨T, 0, none⟩)] 92)).alloc (.cells #[.string ⟨#[]⟩] 9)).heap.size = wr.heap.size + 3 := by simp
          simp only [World.size_alloc] at b2 b3
          generalize ((wr.alloc (.cells #[.slice none 0 0] 26)).alloc (.cells #[.pointer (some ⟨T, 0, none⟩)] 92)).alloc (.cells #[.string ⟨#[]⟩] 9) = W5 at *
          obtain ⟨Bx, hBx⟩ : ∃ Bx, wr.heap.size = Bx := ⟨_, rfl⟩
          have hseen := h3.seen
          have hNle := h3.le
          have hbel := h3.below
          have hf4 : Below wr.heap.size wr W5 := f4
          rw [hBx] at b1 b2 b3 hs5 hseen hNle hf4 ⊢
          have HE := Go.Lib.hid (And.intro hseen (And.intro hbel hf4))
          have HB := Go.Lib.hid hBx
          have h0 : BxI Bx 26 9 1 List.length keysV (Bx + 1) 92 (.pointer (some ⟨T, 0, none⟩)) wr ([] : I.Ps) W5 := ⟨⟨_, b1, ⟨rfl, .inl ⟨rfl, rfl⟩⟩, trivial⟩, b2, hf4⟩
          have hseen5 := hseen.below hf4
          have hwB : Bx ≤ wr.heap.size := by omega
          clear f2 f3 f4 hc hc2 hf4 hseen hbel h3 b1 hBx
          refine wpIn_rangeFunc_ownG (w := W5) rfl (by omega) (gf := 83) (lb := #[.pointer (some ⟨Bx + 1, 0, none⟩), .pointer (some ⟨Bx + 1 + 1, 0, none⟩)]) rfl trivial (enters_of Try.func83 (by kernel_rfl) rfl)
            (I.from_stops (N0 - 1) (Bx + 1) (Bx + 1 + 1) Bx T l hlen ⟨#[]⟩ W5 b2.cell b3.cell (by omega) (by omega) (by omega) hseen5) I.Kp.t
            (fun W l o o' hl h ho hwk => ⟨belowK_b (w := wr) hwB W l _ _ (by have := HB.out; omega) h ho hwk, KeepsC.b W l o o' h ho⟩) (Below.refl _ _) (fun _ => rfl)
            (BxI Bx 26 9 1 List.length keysV (Bx + 1) 92 (.pointer (some ⟨T, 0, none⟩)) wr) (fun _ _ _ => False) (BxI.own _ _ _ _ _ _ _ _ _ _ _ hwB (by omega)) (fun _ _ _ _ _ h => h.elim)
            h0
            (fun x => { tmps := #[.slice ga gn gc, .slice sa sn sc, undef, undef, .slice none 0 0, .pointer (some ⟨P, 0, none⟩), .func (.func 75) #[] #[.pointer (some ⟨P, 0, none⟩)], undef, u8, undef, u10,
              .pointer (some ⟨Bx, 0, none⟩), .string x.1, .pointer (some ⟨T, 0, none⟩), .func (.func 75) #[] #[.pointer (some ⟨P, 0, none⟩)], .slice ga gn gc, .int .i64 gn, .int .i64 gn, .bool false, u19, u20, u21, u22, u23, u24, u25,
              .slice sa sn sc, .int .i64 sn, .int .i64 sn, .bool false, u30, u31, u32, u33, u34, u35, u36, .pointer (some ⟨T, 0, none⟩), .func (.func 83) #[] #[.pointer (some ⟨Bx + 1, 0, none⟩), .pointer (some ⟨Bx + 1 + 1, 0, none⟩)],
              .string x.1, .int .i64 x.2, undef, undef, undef, undef, undef], defers := [] }) ?assign ?body ?done ?stop
          case assign =>
            intro l x W K hK
            gi_wp2
            exact hK
          case body =>
            rintro lp pre x W ⟨⟨v, hv, hrow, _⟩, hbt, hB⟩ hlt
            have hc := hv.cell
            have hplen : pre.length ≤ 1000000 := by rw [List.length_drop] at hlt; omega
            obtain ⟨q, hq⟩ : ∃ q, pre.length = q := ⟨_, rfl⟩
            rw [hq] at hrow hplen
            obtain ⟨a, c, rfl⟩ := own_form hrow
            have hne := hbt.not_row (by decide) hrow
            have hBW : Bx ≤ W.heap.size := Nat.le_of_lt hv.lt
            obtain ⟨x1, x2⟩ := x
            have HQ := Go.Lib.hid hq
            clear hq hlt
            gi_wp2_with (gi_at_builtin; go_must (refine wpListIn_append_own_at _ rfl _ _ 26 rfl Bx 9 i0 z0 1 16 Try.underlying26 hi hz0 hz2 hz3 hz1 (by decide) _ _ _ rfl (hrow.alloc _) ⟨W.heap.size, 0, none⟩ 1 1 [.string x1] rfl rfl (cells_own_new _ _ _) (by simp [Value.oneCell']) (by unfold maxLen; omega) (by omega) (by simp; omega) ?_); intro v' w1 hown' hgrow _ hat; obtain ⟨g', cap', rfl⟩ := ownsRow_succ hown'; obtain ⟨hv1, hv2, hr2, hk2, hb2⟩ := hv.appended (by decide) hrow hBW (Nat.le_refl _) hown' hgrow; obtain ⟨hk3, hk4⟩ := box_keeps (Bx := Bx) (v' := .slice (some ⟨g', 0, none⟩) (q + 1) cap') hbt hne (by omega) hgrow; have hc1 := hv1.cell; have hf1 := hv1.frozen)
            exact ⟨hk2.from _, ⟨hb2, hk4⟩, ⟨⟨_, hv2, by rw [List.length_append, HQ.out, keysV_push]; exact hr2, trivial⟩, hk3, hB.trans hb2⟩⟩
          case done =>
            rintro D ys W hD rfl ⟨⟨v, hv, hrow, _⟩, hbt, hB⟩ hK
            have hc := hv.cell
            obtain ⟨hseen, hbel, hf4⟩ := HE.out
            have hfin : keysOf (gs.map Gd.key ++ ss.map Sp.key) = l.map Prod.fst := by rw [keysOf, ← HK.out.2]
            have hrow2 := ownsRow_putObj hrow (.deferred none) hK rfl
            have hbD := belowK_b (w := wr) hwB W D _ (.deferred none) (by have := HB.out; omega) hK rfl rfl
            gi_wp2
            refine ⟨by simp, .inl ⟨_, _, rfl, run_takeDeferred hK, ?_⟩⟩
            rw [rank_none, List.drop_zero] at hrow2
            obtain ⟨a, c, rfl⟩ := own_form hrow2
            refine ⟨_, results_tmp rfl _ _ _, a, c, ?_, ?_, ?_⟩
            · rw [hfin, List.length_map]; rfl
            · have e : keysV l = strV (l.map Prod.fst) := by unfold keysV strV; rw [List.map_map]; rfl
              rw [hfin, List.length_map, hN, ← e]; exact owns_mono hrow2 hNle
            · show Below w.heap.size w _
              rw [hN]
              exact hbel.trans ((hB.trans hbD).mono hNle)
          case stop =>
            rintro D c pre W hD _ h _
            exact h.elim
theorem keys_walk {ga sa : Option Addr} {gn gc sn sc : Nat} {w : World} (gs : List Gd) (hg : Sl w (.slice ga gn gc) gn 3 (gdL gs)) (hgl : gs.length = gn) (hgn : gn ≤ 1000)
    (ss : List Sp) (hs : Sl w (.slice sa sn sc) sn 5 (spL ss)) (hsl : ss.length = sn) (hsn : sn ≤ 1000) :
    Calls Try.prog 58 #[.slice ga gn gc, .slice sa sn sc] w (TextsPost (keysOf (gs.map Gd.key ++ ss.map Sp.key)) w) :=
  callsIn_wide.1 (keys_in 6 (Nat.le_refl _) gs hg hgl hgn ss hs hsl hsn)
end Go.Proofs.Ytgdmkiobidnhnaa
