/-
  The walk of PendingLives. Conditions: what comes in lies where it says.
-/
import Derived.Test.YtncbgcfjjlhgpaaLives
namespace Go.Proofs.Ytncbgcfjjlhgpaa
open Go.RowKit

/-- A row of names, and the slice that says them. -/
structure Dr where
  v : Value
  l : List (Int × Int)
def DrOk (w : World) (d : Dr) : Prop := ∃ a c, d.v = .slice a d.l.length c ∧ Sl w (.slice a d.l.length c) d.l.length 2 (idL d.l)
def drV (d : Dr) : List Value := [d.v]
/-- What stands in memory between two steps. -/
structure Zz (B U R : Nat) (F : Nat → Prop) (es : List Et) (m : Int) (w0 w : World) (v : Value) (ms : List Et) : Prop where
  r : Rr B F R (most' m) (ms.map Et.c) w
  m : Mm B U F es w v ms
  f : Fr w0 w
theorem Zz.fr {B U R : Nat} {F : Nat → Prop} {es ms : List Et} {m : Int} {w0 w w' : World} {v : Value} (h : Zz B U R F es m w0 w v ms) (hf : Fr w w') : Zz B U R F es m w0 w' v ms := ⟨h.r.fr hf, h.m.fr hf, h.f.trans hf⟩
theorem Zz.len {B U R : Nat} {F : Nat → Prop} {es ms : List Et} {m : Int} {w0 w : World} {v : Value} (h : Zz B U R F es m w0 w v ms) : ms.length ≤ 32 := by
  obtain ⟨_, _, _, _, _, _, _, _, _, h6, _⟩ := h.r
  rw [List.length_map] at h6; exact h6
theorem Zz.fits {B U R : Nat} {F : Nat → Prop} {es ms : List Et} {m : Int} {w0 w : World} {v : Value} (h : Zz B U R F es m w0 w v ms) : Fits (ms.map Et.c) := by
  obtain ⟨_, _, _, _, _, _, _, _, _, _, h7⟩ := h.r
  exact h7
theorem Zz.rd {B U R : Nat} {F : Nat → Prop} {es ms : List Et} {m : Int} {w0 w : World} {v v0 : Value} (h : Zz B U R F es m w0 w v ms) (h0 : Rd w0 v0 es) : Rd w v ms := ⟨owns_sl h.m.row, fun e he => (h0.ok e (h.m.sub e he)).fr h.f⟩
theorem Zz.ids {B U R : Nat} {F : Nat → Prop} {es ms : List Et} {m : Int} {w0 w : World} {a : Option Addr} {n c : Nat} (h : Zz B U R F es m w0 w (.slice a n c) ms) (hn : ms.length = n) : Calls Try.prog 20 #[.slice a n c] w (Ids2 n ((ms.map Et.c).map idOf) w) :=
  ids2_walk ms (by have := owns_sl h.m.row; rw [hn] at this; exact this) hn (by have := h.len; omega)
theorem Zz.length {B U R : Nat} {F : Nat → Prop} {es ms : List Et} {m : Int} {w0 w : World} {v : Value} {n : Nat} (h : Zz B U R F es m w0 w v ms) (hn : ms.length = n) : Calls Try.prog 15 #[.pointer (some ⟨R, 0, none⟩)] w fun e w' => e = .returned (.int .i64 n) ∧ Fr w w' := by
  have := len_rr h.r
  rw [List.length_map, hn] at this
  exact this
theorem Zz.room {B U R : Nat} {F : Nat → Prop} {es ms : List Et} {m : Int} {w0 w : World} {v : Value} {n : Nat} (h : Zz B U R F es m w0 w v ms) (hn : ms.length = n) : Calls Try.prog 16 #[.pointer (some ⟨R, 0, none⟩)] w fun e w' => e = .returned (.int .i64 (most' m - n)) ∧ Fr w w' := by
  have := room_rr h.r
  rw [List.length_map, hn] at this
  exact this
def AskP (n : Nat) (hv : Bool) (o s : Int) (W : World) (e : Ending) (w' : World) : Prop :=
  ∃ a' c', e = .returned (.slice a' n c') ∧ Fr W w' ∧ ∀ w'', Fr w' w'' → Calls Try.prog 19 #[.slice a' n c', .agg #[.int .i64 o, .int .i64 s]] w'' fun e w3 => e = .returned (.bool hv) ∧ Fr w'' w3
/-- The row and the document's list say the same of a name. -/
theorem Zz.asks {B U R : Nat} {F : Nat → Prop} {es ms : List Et} {m : Int} {w0 w : World} {a : Option Addr} {n c : Nat} (h : Zz B U R F es m w0 w (.slice a n c) ms) (hn : ms.length = n) (o s : Int) :
    ∃ hv : Bool, (∀ w', Fr w w' → Calls Try.prog 18 #[.pointer (some ⟨R, 0, none⟩), .agg #[.int .i64 o, .int .i64 s]] w' fun e w2 => e = .returned (.bool hv) ∧ Fr w' w2) ∧
      ∀ w', Fr w w' → Calls Try.prog 20 #[.slice a n c] w' (AskP n hv o s w') := by
  refine ⟨has (ms.map Et.c) o s, fun w' hw' => has_rr (h.r.fr hw') o s, fun w' hw' => ((h.fr hw').ids hn).mono fun e w2 ⟨a', c', h1, h2, h3, h4⟩ => ⟨a', c', h1, h4, fun w3 hw3 => ?_⟩⟩
  have := rhas_walk _ (h2.fr hw3) h3 (by have := h.len; omega) o s
  rw [mem_ids] at this
  exact this
theorem rroom2_walk (m : Int) (n : Nat) (hn : n ≤ 1000) (w : World) : Calls Try.prog 17 #[.int .i64 m, .int .i64 n] w fun e w' => e = .returned (.int .i64 (most' m - n)) ∧ Fr w w' :=
  (rroom_walk m n hn w).mono fun _ _ ⟨h1, h2⟩ => ⟨h1, h2 ▸ Fr.refl _⟩
set_option maxRecDepth 20000 in
set_option maxHeartbeats 4000000 in
theorem pendingLives.walk (m : Int) {a : Option Addr} {n c : Nat} {da : Option Addr} {dn dc : Nat} {w : World} (es : List Et) (h : Rd w (.slice a n c) es) (hl : es.length = n) (ds : List Dr) (hd : Sl w (.slice da dn dc) dn 1 (ds.flatMap drV)) (hdl : ds.length = dn) (hdo : ∀ d ∈ ds, DrOk w d) :
    Calls Try.prog 3 #[.int .i64 m, .slice a n c, .slice da dn dc] w fun e w' => e = .returned (.bool true) ∧ Below w.heap.size w w' := by
  have hfew := few_walk es h hl
  have haw := fun w' => awake_walk w'
  go_enter Try.func3, Try.ntmps3
  go_wp2_with fail
  refine hfew.mono ?_
  rintro e w1 ⟨b, rfl, hbt, f1⟩
  clear hfew
  cases b with
  | false =>
    clear h hd hbt
    go_wp2_with fail
    refine (haw w1).mono ?_
    rintro e w2 ⟨rfl, f2⟩
    go_wp2_with fail
    go_ret
    exact ⟨rfl, f1.trans f2⟩
  | true =>
    obtain ⟨h24, hbr⟩ := hbt rfl
    by_cases hm : (24 : Int) < dn
    · clear h hd hbt hbr h24 hdl
      go_wp2_with fail
      refine (haw w1).mono ?_
      rintro e w2 ⟨rfl, f2⟩
      go_wp2_with fail
      go_ret
      exact ⟨rfl, f1.trans f2⟩
    · rw [hl] at h24
      have HH := Go.Lib.hid (And.intro h (And.intro hl (And.intro hd (And.intro hdl (And.intro hdo hbr)))))
      clear h hl hd hdl hdo hbr hbt
      go_wp2_with fail
      refine (new_rr m w1).mono ?_
      rintro e w2 ⟨R, F, rfl, hr, f2⟩
      have f3 := (Fr.refl w2).alloc (.cells #[.int .i64 0, .slice none 0 0, .map none] 30)
      have b3 := heap_alloc_new w2 (.cells #[.int .i64 0, .slice none 0 0, .map none] 30)
      have hz3 : (w2.alloc (.cells #[.int .i64 0, .slice none 0 0, .map none] 30)).heap.size = w2.heap.size + 1 := by simp
      go_wp2_with fail
      generalize w2.alloc (.cells #[.int .i64 0, .slice none 0 0, .map none] 30) = w3 at *
      have f4 := (Fr.refl w3).alloc (.cells #[] 40)
      have hnil := own_empty4 w3
      rw [hz3] at hnil
      have z0 : Zz w1.heap.size w2.heap.size R F es m w (w3.alloc (.cells #[] 40)) (.slice (some ⟨w2.heap.size + 1, 0, none⟩) 0 0) [] :=
        ⟨(hr.fr f3).fr f4, ⟨owns_mono hnil (by have := f2.size; omega), fun k hk hc => by
          obtain rfl : w2.heap.size + 1 = k := by simpa [Value.ownBlock] using hk
          have := (hr.lt _ hc).2
          omega, (fun e he => (by cases he)), (f4.heap (by omega)).trans b3, fun hc => by have := (hr.lt _ hc).2; omega, by have := f2.size; have := f3.size; have := f4.size; omega⟩, ((f1.trans f2).trans f3).trans f4⟩
      clear hr hnil b3 hz3
      generalize w2.heap.size = U at *
      have hw1 := f1.size
      go_loopw [9, 10] (fun v i wk => ∃ (k : Nat) (F : Nat → Prop) (ms : List Et), k ≤ n ∧ i = .int .i64 k ∧ Zz w1.heap.size U R F es m w wk v ms) (fun _ i _ => n - (intOf i).toNat)
      case atStart => exact ⟨0, F, [], Nat.zero_le _, rfl, z0⟩
      case round =>
        clear z0 f1 f2 f3 f4
        obtain ⟨k, F, ms, hk, rfl, hz⟩ := hrel
        obtain ⟨p, hp⟩ : ∃ p, ms.length = p := ⟨_, rfl⟩
        have hp32 := hz.len
        obtain ⟨va, vc, rfl⟩ : ∃ a c, u9 = .slice a p c := by obtain ⟨a, c, h, _⟩ := owns_sl hz.m.row; exact ⟨a, c, by rw [← hp]; exact h⟩
        by_cases hlt : k < n
        · obtain ⟨h, hl, hd, hdl, hdo, hbr⟩ := HH.out
          obtain ⟨e, he⟩ : ∃ e, es[k]? = some e := ⟨_, List.getElem?_eq_getElem (by omega)⟩
          have hsl := h.sl
          rw [hl] at hsl
          obtain ⟨b, oo, rfl, hb, hnc, hcs⟩ := hsl.get (by omega)
          have hok := h.ok e (List.mem_of_getElem? he)
          have hbe := hbr e (List.mem_of_getElem? he)
          have cc : ∀ w', Fr w w' → ∀ j, j < 4 → w'.cell? ⟨b, oo + (k * 4 + j), none⟩ = (etV e)[j]? := fun w' hw' j hj => by
            have h1 : (etL es)[k * 4 + j]? = (etV e)[j]? := by rw [etL_at es k j hj, he]; rfl
            have h2 : j < (etV e).length := hj
            rw [List.getElem?_eq_getElem h2] at h1 ⊢
            rw [World.cell?_of_block (hw'.heap hb)]
            exact hcs _ _ h1
          have hradd := radd_mm m hz.m hp (by omega) h.formed (fun k hk => (hz.r.lt k hk).2) e (List.mem_of_getElem? he)
          have hadd := fun (F : Nat → Prop) (cs : List Cn) (w' : World) (hr : Rr w1.heap.size F R (most' m) cs w') (hf : Fr w w') => add_rr hr e (hok.fr hf) (by omega) (by omega)
          have hma := addM_map (most' m) ms e
          clear hsl hcs he hbe hok
          obtain ⟨⟨eo, es', gs, ss⟩, g, st⟩ := e
          obtain ⟨ms4, hms4⟩ : ∃ ms4, addM (most' m) ms ⟨⟨eo, es', gs, ss⟩, g, st⟩ = ms4 := ⟨_, rfl⟩
          obtain ⟨ab, hab⟩ : ∃ ab, adds (most' m) (ms.map Et.c) ⟨eo, es', gs, ss⟩ = ab := ⟨_, rfl⟩
          dsimp only at hradd hma hadd
          rw [hms4, hab] at hradd
          rw [hms4] at hma
          have hx : ∀ w', Fr w w' → w'.cell? ⟨b, oo + k * 4, none⟩ = some (.int .i64 eo) ∧ w'.cell? ⟨b, oo + k * 4 + 1, none⟩ = some (.int .i64 es') ∧ w'.cell? ⟨b, oo + k * 4 + 2, none⟩ = some g ∧ w'.cell? ⟨b, oo + k * 4 + 3, none⟩ = some st := fun w' hw' =>
            ⟨cc w' hw' 0 (by decide), cc w' hw' 1 (by decide), cc w' hw' 2 (by decide), cc w' hw' 3 (by decide)⟩
          obtain ⟨x0, x1, x2, x3⟩ := hx wr hz.f
          have hadd1 := fun w' (hf : Fr wr w') => hadd F (ms.map Et.c) w' (hz.r.fr hf) (hz.f.trans hf)
          clear cc hadd h hl hd hdl hdo hbr hms4
          have H1 := Go.Lib.hid (And.intro hma (And.intro hab hz))
          clear hma hz hp
          go_wp2_with fail
          refine hradd.mono ?_
          rintro e w4 ⟨a4, c4, rfl, hm4, f4⟩
          have hadd2 := hadd1 w4 f4
          obtain ⟨y0, y1, y2, y3⟩ := hx w4 (H1.out.2.2.f.trans f4)
          clear hradd hadd1 x0 x1 x2 x3
          go_wp2_with fail
          refine hadd2.mono ?_
          rintro e w5 ⟨he5, F5, hr5, hF5, hb5⟩
          obtain ⟨hma, hab, hz⟩ := H1.out
          rw [hab] at he5
          subst he5
          rw [← hma] at hr5
          have hz5 : Zz w1.heap.size U R F5 es m w w5 (.slice a4 ms4.length c4) ms4 := ⟨hr5, hm4.but hb5 hF5, (hz.f.trans f4).below.trans (((hz.r.fr f4).below hb5).mono hw1)⟩
          have hua := uadd_walk hz5.m.uz eo es' g st
          obtain ⟨z0, z1, z2, z3⟩ := hx w5 hz5.f
          clear hma hab hz hr5 hm4 hb5 hF5 hadd2 y0 y1 y2 y3 H1 f4
          obtain ⟨p4, hp4⟩ : ∃ p4, ms4.length = p4 := ⟨_, rfl⟩
          rw [hp4] at hz5 ⊢
          have H5 := Go.Lib.hid (And.intro hz5 hp4)
          clear hz5 hp4
          go_wp2_with fail
          refine hua.mono ?_
          rintro e w6 ⟨rfl, f6⟩
          clear hua z0 z1 z2 z3
          have hz6 := H5.out.1.fr f6
          have hp4 := H5.out.2
          clear H5 f6
          by_cases hkd : k < dn
          case' neg =>
            have HZ := Go.Lib.hid (And.intro hz6 hp4)
            clear hz6 hp4
            go_wp2_with fail
            generalize w6 = wz at *
            generalize p4 = pz at *
          case' pos =>
            obtain ⟨h, hl, hd, hdl, hdo, hbr⟩ := HH.out
            obtain ⟨d, hdk⟩ : ∃ d, ds[k]? = some d := ⟨_, List.getElem?_eq_getElem (by omega)⟩
            obtain ⟨bd, od, rfl, hbd, hdc, hcd⟩ := hd.get (by omega)
            have hcl : ∀ w', Fr w w' → w'.cell? ⟨bd, od + k, none⟩ = some d.v := fun w' hw' => by
              rw [World.cell?_of_block (hw'.heap hbd)]
              refine hcd k _ ?_
              have := stride_get drV 1 (fun _ => rfl) ds k 0 (by decide)
              rw [Nat.mul_one, Nat.add_zero, hdk] at this
              exact this
            obtain ⟨ia, ic, hdv, hds⟩ := hdo d (List.mem_of_getElem? hdk)
            obtain ⟨q, hq⟩ : ∃ q, d.l.length = q := ⟨_, rfl⟩
            rw [hq] at hdv hds
            rw [hdv] at hcl
            obtain ⟨_, ids⟩ := d
            dsimp only at hdv hds hq
            subst hdv
            clear h hl hd hdl hdo hbr hcd hdk
            have d6 := hcl w6 hz6.f
            by_cases hq20 : q ≤ 20
            case' neg =>
              clear hcl
              have HZ := Go.Lib.hid (And.intro hz6 hp4)
              clear hz6 hp4
              go_wp2_with fail
              generalize w6 = wz at *
              generalize p4 = pz at *
            case' pos =>
              obtain ⟨h, hl, hd, hdl, hdo, hbr⟩ := HH.out
              have hs6 := owns_sl hz6.m.row
              rw [hp4] at hs6
              have hfm : Formed ms4 := fun e he => h.formed e (hz6.m.sub e he)
              have hp432 := hz6.len
              have hrwo := rwo_walk ms4 hs6 hp4 (by omega) hfm ids (hds.fr hz6.f) hq (by omega)
              have H6 := Go.Lib.hid (And.intro hz6 (And.intro hp4 (And.intro hds (And.intro hq h))))
              clear hz6 hp4 hds hq h hl hd hdl hdo hbr hs6 hfm
              go_wp2_with fail
              refine hrwo.mono ?_
              rintro e w7 ⟨a7, n7, c7, rfl, hn7, hrow7, f7⟩
              obtain ⟨hz6, hp4, hds, hq, h⟩ := H6.out
              have hz7 := hz6.fr f7
              have hm7 := hz6.m.new f7 (by rw [hn7] at hrow7; exact hrow7) (fun e he => hz6.m.sub e (List.mem_filter.1 he).1) (fun k hk => (hz6.r.lt k hk).2)
              have d7 := hcl w7 hz7.f
              have hwo := wo_rr hz7.r ids (hds.fr hz7.f) (by omega)
              rw [← hn7] at hm7
              have H7 := Go.Lib.hid (And.intro hz7 (And.intro hm7 (And.intro hp4 (And.intro hds (And.intro hq (And.intro h hn7))))))
              clear hz6 hz7 hm7 hp4 hds hq h hn7 hrow7 hrwo d6 f7 H6
              go_wp2_with fail
              refine hwo.mono ?_
              rintro e w8 ⟨v8, ys, rfl, hys, hls, f8⟩
              obtain ⟨hz7, hm7, hp4, hds, hq, h, hn7⟩ := H7.out
              have hyn : ys.length = n7 := by have := congrArg List.length hys; rw [← stay_map, List.length_map, List.length_map] at this; rw [hn7]; exact this
              obtain ⟨a8, c8, rfl⟩ : ∃ a c, v8 = .slice a n7 c := by obtain ⟨a, c, h⟩ := hls.rd.form; exact ⟨a, c, by rw [← hyn]; exact h⟩
              have hz8 := hz7.fr f8
              have hm8 := hm7.fr f8
              have hrd8 : Rd w8 (.slice a7 n7 c7) (stay ids ms4) := ⟨owns_sl hm8.row, fun e he => (h.ok e (hm8.sub e he)).fr hz8.f⟩
              have hft : Fits (ys.map Et.c) := by rw [hys]; intro c hc; exact hz8.fits c (List.mem_filter.1 hc).1
              have hn732 : n7 ≤ 32 := by rw [hn7]; exact Nat.le_trans (stay_le _ _) hp432
              have hsame := same_walk ys (stay ids ms4) hls.rd hrd8 hyn (by rw [hys, stay_map]) (by omega) hft
              have H8 := Go.Lib.hid (And.intro hz8 (And.intro hm8 (And.intro hp4 (And.intro hds (And.intro hq hn7)))))
              clear hz7 hz8 hm7 hm8 hp4 hds hq h hn7 hwo d7 f8 H7 hys hls hrd8 hft hyn
              go_wp2_with fail
              refine hsame.mono ?_
              rintro e w9 ⟨rfl, f9⟩
              obtain ⟨hz8, hm8, hp4, hds, hq, hn7⟩ := H8.out
              have hz9 := hz8.fr f9
              have hm9 := hm8.fr f9
              have d9 := hcl w9 hz9.f
              have H9 := Go.Lib.hid (And.intro hz9 (And.intro hm9 (And.intro hp4 (And.intro hds (And.intro hq hn7)))))
              clear hz8 hz9 hm8 hm9 hp4 hds hq hn7 hsame f9 H8
              go_wp2_with fail
              all_goals
                obtain ⟨hz9, hm9, hp4, hds, hq, hn7⟩ := H9.out
                first
                  | (refine (drop_rr hz9.r ids (hds.fr hz9.f) (by omega)).mono ?_
                     rintro e w10 ⟨he, F10, hr10, hF10, hb10⟩
                     have hll : (left ids (ms4.map Et.c)).length = n7 := by rw [hn7, ← stay_map, List.length_map]
                     rw [List.length_map, hp4, hll] at he
                     subst he
                     have hu : IntKind.i64.wrap ((p4 : Int) - n7) = (p4 : Int) - n7 := IntWalk.i64_in _ (by omega)
                     rw [← stay_map] at hr10
                     have hz10 : Zz w1.heap.size U R F10 es m w w10 (.slice a7 n7 c7) (stay ids ms4) := ⟨hr10, hm9.but hb10 (fun k hk => .inl (hF10 k hk)), hz9.f.below.trans ((hz9.r.below hb10).mono hw1)⟩
                     have HZ := Go.Lib.hid (And.intro hz10 hn7.symm)
                     clear hz10 hr10 hb10 hF10 hz9 hm9 hp4 hds hq hn7 hll H9 hcl d9
                     go_wp2_with fail
                     generalize w10 = wz at *
                     generalize n7 = pz at *)
                  | (have HZ := Go.Lib.hid (And.intro hz9 hp4)
                     clear hz9 hm9 hp4 hds hq hn7 H9 hcl d9
                     generalize w9 = wz at *
                     generalize p4 = pz at *)
          all_goals
            obtain ⟨hZ, hP⟩ := HZ.out
            have hx0 : ∀ w', Fr wz w' → w'.cell? ⟨b, oo + k * 4, none⟩ = some (.int .i64 eo) := fun w' hw' => (hx w' (hZ.f.trans hw')).1
            have hx1 : ∀ w', Fr wz w' → w'.cell? ⟨b, oo + k * 4 + 1, none⟩ = some (.int .i64 es') := fun w' hw' => (hx w' (hZ.f.trans hw')).2.1
            have hlenz := fun w' (hw' : Fr wz w') => (hZ.fr hw').length hP
            have hroomz := fun w' (hw' : Fr wz w') => (hZ.fr hw').room hP
            have hrrz := fun (w' : World) => rroom2_walk m pz (by have := hZ.len; omega) w'
            obtain ⟨hv, hhasz, hidsz⟩ := hZ.asks hP eo es'
            have hpz : pz ≤ 1000000 := by have := hZ.len; omega
            clear hZ hP
            obtain ⟨y, hy⟩ : ∃ y, most' m - (pz : Int) = y := ⟨_, rfl⟩
            rw [hy] at hroomz hrrz
            clear hy
            go_region_held3 (fun w' => Fr wz w') (first | assumption | exact Fr.drew (Fr.refl _)) (first | (go_at_call 15; refine (hlenz _ (by first | assumption | exact Fr.drew (Fr.refl _))).mono ?_; rintro e wn1 ⟨rfl, hf⟩; have hf1 : Fr wz wn1 := (by first | exact Fr.trans (Fr.drew (Fr.refl wz)) hf | exact Fr.trans (by assumption) hf); clear hf) | (go_at_call 16; refine (hroomz _ (by first | assumption | exact Fr.drew (Fr.refl _))).mono ?_; rintro e wn2 ⟨rfl, hf⟩; have hf2 : Fr wz wn2 := (by first | exact Fr.trans (by assumption) hf); clear hf) | (go_at_call 17; refine (hrrz _).mono ?_; rintro e wn3 ⟨rfl, hf⟩; have hf3 : Fr wz wn3 := (by first | exact Fr.trans (by assumption) hf); clear hf) | (go_at_call 18; refine (hhasz _ (by assumption)).mono ?_; rintro e wn4 ⟨rfl, hf⟩; have hf4 : Fr wz wn4 := (by first | exact Fr.trans (by assumption) hf); (try (have hg4 : Fr wi wn4 := hf)); clear hf) | (go_at_call 20; refine (hidsz _ (by assumption)).mono ?_; rintro e wi ⟨ai, ci, rfl, hf, hask⟩; have hf5 : Fr wz wi := (by first | exact Fr.trans (by assumption) hf); clear hf) | (go_at_call 19; refine (hask _ (by first | assumption | exact Fr.refl _)).mono ?_; rintro e wn6 ⟨rfl, hf⟩; have hf6 : Fr wz wn6 := (by first | exact Fr.trans (by assumption) hf); clear hf))
            all_goals
              go_wp2_with fail
              exact ⟨⟨k + 1, _, _, by omega, by go_num, HZ.out.1.fr (by assumption)⟩, by simp [intOf]; omega⟩
        · obtain rfl : n = k := by omega
          obtain ⟨h, hl, hd, hdl, hdo, hbr⟩ := HH.out
          have hall := all_rr hz.r
          have H9 := Go.Lib.hid (And.intro hz (And.intro hp h))
          clear hz hp h hl hd hdl hdo hbr
          go_wp2_with fail
          refine hall.mono ?_
          rintro e w4 ⟨v4, ys, rfl, hys, hls, f4⟩
          obtain ⟨hz, hp, h⟩ := H9.out
          rw [left_nil] at hys
          have hyn : ys.length = p := by have := congrArg List.length hys; rw [List.length_map, List.length_map] at this; rw [← hp]; exact this
          obtain ⟨a4, c4, rfl⟩ : ∃ a c, v4 = .slice a p c := by obtain ⟨a, c, h⟩ := hls.rd.form; exact ⟨a, c, by rw [← hyn]; exact h⟩
          have hz4 := hz.fr f4
          have hsame := same_walk ys ms hls.rd (hz4.rd h) hyn hys (by omega) (by rw [hys]; exact hz.fits)
          have H4 := Go.Lib.hid hz4
          clear hz hp h hyn hz4 hys hls f4 hall H9
          go_wp2_with fail
          refine hsame.mono ?_
          rintro e w5 ⟨rfl, f5⟩
          have hz5 := H4.out.fr f5
          have hur := uroom_walk hz5.m.uz
          have hf5 := hz5.f
          clear hz5 H4 hsame f5
          go_wp2_with fail
          refine hur.mono ?_
          rintro e w6 ⟨rfl, f6⟩
          go_wp2_with fail
          refine (haw w6).mono ?_
          rintro e w7 ⟨rfl, f7⟩
          go_wp2_with fail
          go_ret
          exact ⟨rfl, (hf5.trans f6).trans f7⟩
end Go.Proofs.Ytncbgcfjjlhgpaa
