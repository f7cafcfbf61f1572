/- The chapter's examples. -/
import Derived.Test.YtmfbblcipakaiaaGreatDoorGrpZ
import Derived.Test.YtmfbblcipakaiaaGreatDoorSame
import Derived.Test.YtmfbblcipakaiaaGreatDoorAdd
/-! ### The chapter's examples. -/
namespace Go.Proofs.YtmfbblcipakaiaaGreatDoor
open Go.RowKit

/-- the examples' groups, underway -/
structure WSt (w0 w : World) (g bm m : Nat) (L : List Ent) : Prop where
  pow : PowTab w0
  g0 : w0.heap.size ≤ g
  b0 : w0.heap.size ≤ bm
  old : Old w0 w
  is : ∃ B, GIs w g bm 1 1 m (gAdd gZero L) B
theorem WSt.step {w0 w w' : World} {g bm m : Nat} {L : List Ent} (h : WSt w0 w g bm m L) (o : Old w w') : WSt w0 w' g bm m L := ⟨h.pow, h.g0, h.b0, h.old.trans o, by obtain ⟨B, hB⟩ := h.is; exact ⟨B, hB.old o⟩⟩
theorem heap30 (w : World) (a b c : Obj) : (((w.alloc a).alloc b).alloc c).heap[w.heap.size]? = some a :=
  ((((Old.refl (w.alloc a)).alloc b).alloc c)).heap (heap_alloc_at (w := w) a)
theorem items_nil (w : World) : ItemsIs w (.slice none 0 0) [] := ⟨[], rfl, Sl.nil_ w, fun i hi => absurd hi (by simp)⟩
theorem ents_one {w : World} {g a1 b1 n1 n2 : Nat} {T : TypeId} {f : Nat × Nat} {e1 : Ent} (h : w.heap[g]? = some (.cells #[.slice (some ⟨a1, 0, none⟩) n1 n1, .slice (some ⟨b1, 0, none⟩) n2 n2, .int .i64 e1.w] T f))
    (k1 : RowIs w (.slice (some ⟨a1, 0, none⟩) n1 n1) e1.key) (v1 : RowIs w (.slice (some ⟨b1, 0, none⟩) n2 n2) e1.vals) : EntsIs w (.slice (some ⟨g, 0, none⟩) 1 1) [e1] :=
  ents_lit h (vs := [(.slice (some ⟨a1, 0, none⟩) n1 n1, .slice (some ⟨b1, 0, none⟩) n2 n2)]) rfl rfl rfl (by omega) (fun i hi hi' => by
    match i, hi with
    | 0, _ => exact ⟨k1, v1⟩)
theorem applied_st {w0 ws w : World} {g bm m : Nat} {L L' : List Ent} (v wv : Value) (l : List Ent) (want : List Item) (ev : Int) (hs : WSt w0 ws g bm m L) (ho : Old ws w) (hm : m ≤ 100) (hn : l.length ≤ 5) (hf : ∀ e ∈ l, EntFine e)
    (he : appErr 1 1 (gAdd gZero L) l = ev) (hd : Delta 1 1 (gAdd gZero L) (appF 1 1 (gAdd gZero L) l) want) (hL : appF 1 1 (gAdd gZero L) l = gAdd gZero L') (hl : EntsIs w v l) (hw : ItemsIs w wv want) :
    Calls Tryz.prog 48 #[.pointer (some ⟨g, 0, none⟩), .int .i64 ev, v, wv] w (fun x w' => x = .returned (.bool true) ∧ WSt w0 w' g bm (m + 5) L') := by
  have hs' := hs.step ho
  obtain ⟨B, hB⟩ := hs'.is
  refine (applied_run g bm 1 1 m _ B v wv l want ev w hB (by omega) (by omega) (by omega) hl (by omega) hf (hs.pow.old hs'.old) hw hd he).mono ?_
  rintro x w' ⟨rfl, ⟨B', hB'⟩, hc⟩
  rw [hL] at hB'
  have hb := hs.b0
  exact ⟨rfl, hs.pow, hs.g0, hs.b0, Below.trans hs'.old (Chg.below (lo := w0.heap.size) hc hs'.old.size (fun n hn e => by omega)), ⟨B', hB'.mono (by omega)⟩⟩
theorem rows_st {w0 w : World} {g bm m : Nat} {L : List Ent} (want : List Item) (hs : WSt w0 w g bm m L) (hm : m ≤ 100) (hz : RowsZ 1 1 (gAdd gZero L) want) :
    Calls Tryz.prog 18 #[.pointer (some ⟨g, 0, none⟩)] w (fun x w' => ∃ v, x = .returned v ∧ ItemsIs w' v want ∧ Old w w') := by
  obtain ⟨B, hB⟩ := hs.is
  refine (rows_run g bm 1 1 m _ B w hB (by omega) (by omega) (by omega)).mono ?_
  rintro x w' ⟨v, z, rfl, hi, hz', -, ho⟩
  exact ⟨v, rfl, (hz'.unique hz) ▸ hi.is, ho⟩

set_option maxRecDepth 100000 in
set_option maxHeartbeats 4000000 in
theorem works_run (w : World) (hp : PowTab w) : Calls Tryz.prog 20 #[] w (fun e w' => e = .returned (.bool true) ∧ Old w w') := by
  have HP := hide hp
  clear hp
  go_enter Tryz.func20, Tryz.ntmps20
  go_wp2_with fail
  refine (new_run 1 1 w).mono ?_
  rintro e w0 ⟨o0, (⟨hh, -⟩ | ⟨-, g, bm, rfl, hg, hb, hG⟩)⟩
  · exact absurd ⟨by omega, by omega, by omega, by omega⟩ hh
  have S0 : Hid (WSt w w0 g bm 0 []) := hide ⟨HP.out, hg, hb, o0, _, by
    have e0 : gAdd gZero [] = gZero := by funext k i; simp [gAdd, tot]
    rw [e0]; exact hG⟩
  clear o0 hg hb hG HP
  go_wp2_with fail
  refine (entry_run _ _ _ _).mono ?_
  rintro e w1 ⟨a1, b1, rfl, k1, v1, o1⟩
  have K1 := hide k1; have V1 := hide v1; have O1 := hide o1; clear k1 v1 o1
  go_wp2_with fail
  refine (entry_run _ _ _ _).mono ?_
  rintro e w2 ⟨a2, b2, rfl, k2, v2, o2⟩
  have K2 := hide k2; have V2 := hide v2; have O2 := hide o2; clear k2 v2 o2
  go_wp2_with fail
  refine (no_run _ _ _).mono ?_
  rintro e w3 ⟨a3, b3, rfl, k3, v3, o3⟩
  have K3 := hide k3; have V3 := hide v3; have O3 := hide o3; clear k3 v3 o3
  go_wp2_with fail
  refine (rw_run _ _ _ _ _).mono ?_
  rintro e w4 ⟨a4, n4, rfl, k4, o4⟩
  have K4 := hide k4; have O4 := hide o4; clear k4 o4
  go_wp2_with fail
  refine (rw_run _ _ _ _ _).mono ?_
  rintro e w5 ⟨a5, n5, rfl, k5, o5⟩
  have K5 := hide k5; have O5 := hide o5; clear k5 o5
  go_wp2_with fail
  refine (applied_st (L' := ([] ++ wl1)) _ _ wl1 ww1 0 S0.out ((((((((Old.refl _).trans O1.out).trans O2.out).trans O3.out).alloc _).trans O4.out).trans O5.out).alloc _) (by omega) (by decide) wfine1 wok1.err wok1.delta wok1.next (ents3 (((((Old.refl _).trans O4.out).trans O5.out).alloc _).heap (heap_alloc_at _)) (K1.out.old (((((((Old.refl _).trans O2.out).trans O3.out).alloc _).trans O4.out).trans O5.out).alloc _)) (V1.out.old (((((((Old.refl _).trans O2.out).trans O3.out).alloc _).trans O4.out).trans O5.out).alloc _)) (K2.out.old ((((((Old.refl _).trans O3.out).alloc _).trans O4.out).trans O5.out).alloc _)) (V2.out.old ((((((Old.refl _).trans O3.out).alloc _).trans O4.out).trans O5.out).alloc _)) (K3.out.old (((((Old.refl _).alloc _).trans O4.out).trans O5.out).alloc _)) (V3.out.old (((((Old.refl _).alloc _).trans O4.out).trans O5.out).alloc _))) (items2 (heap_alloc_at _) (K4.out.old (((Old.refl _).trans O5.out).alloc _)) (K5.out.old ((Old.refl _).alloc _)))).mono ?_
  rintro e u1 ⟨rfl, hu1⟩
  have S1 := hide hu1
  clear hu1 S0 K1 O1 V1 K2 O2 V2 K3 O3 V3 K4 O4 K5 O5
  go_wp2_with fail
  refine (entry_run _ _ _ _).mono ?_
  rintro e w6 ⟨a6, b6, rfl, k6, v6, o6⟩
  have K6 := hide k6; have V6 := hide v6; have O6 := hide o6; clear k6 v6 o6
  go_wp2_with fail
  refine (entry_run _ _ _ _).mono ?_
  rintro e w7 ⟨a7, b7, rfl, k7, v7, o7⟩
  have K7 := hide k7; have V7 := hide v7; have O7 := hide o7; clear k7 v7 o7
  go_wp2_with fail
  refine (applied_st (L' := (wl1 ++ wl2)) _ _ wl2 [] 0 S1.out ((((Old.refl _).trans O6.out).trans O7.out).alloc _) (by omega) (by decide) wfine2 wok2.err wok2.delta wok2.next (ents2 (heap_alloc_at _) (K6.out.old (((Old.refl _).trans O7.out).alloc _)) (V6.out.old (((Old.refl _).trans O7.out).alloc _)) (K7.out.old ((Old.refl _).alloc _)) (V7.out.old ((Old.refl _).alloc _))) (items_nil _)).mono ?_
  rintro e u2 ⟨rfl, hu2⟩
  have S2 := hide hu2
  clear hu2 S1 K6 O6 V6 K7 O7 V7
  go_wp2_with fail
  refine (no_run _ _ _).mono ?_
  rintro e w8 ⟨a8, b8, rfl, k8, v8, o8⟩
  have K8 := hide k8; have V8 := hide v8; have O8 := hide o8; clear k8 v8 o8
  go_wp2_with fail
  refine (rw_run _ _ _ _ _).mono ?_
  rintro e w9 ⟨a9, n9, rfl, k9, o9⟩
  have K9 := hide k9; have O9 := hide o9; clear k9 o9
  go_wp2_with fail
  refine (applied_st (L' := (wl1 ++ wl2 ++ wl3)) _ _ wl3 ww3 0 S2.out (((((Old.refl _).trans O8.out).alloc _).trans O9.out).alloc _) (by omega) (by decide) wfine3 wok3.err wok3.delta wok3.next (ents1 ((((Old.refl _).trans O9.out).alloc _).heap (heap_alloc_at _)) (K8.out.old ((((Old.refl _).alloc _).trans O9.out).alloc _)) (V8.out.old ((((Old.refl _).alloc _).trans O9.out).alloc _))) (items1 (heap_alloc_at _) (K9.out.old ((Old.refl _).alloc _)))).mono ?_
  rintro e u3 ⟨rfl, hu3⟩
  have S3 := hide hu3
  clear hu3 S2 K8 O8 V8 K9 O9
  go_wp2_with fail
  refine (entry_run _ _ _ _).mono ?_
  rintro e w10 ⟨a10, b10, rfl, k10, v10, o10⟩
  have K10 := hide k10; have V10 := hide v10; have O10 := hide o10; clear k10 v10 o10
  go_wp2_with fail
  refine (entry_run _ _ _ _).mono ?_
  rintro e w11 ⟨a11, b11, rfl, k11, v11, o11⟩
  have K11 := hide k11; have V11 := hide v11; have O11 := hide o11; clear k11 v11 o11
  go_wp2_with fail
  refine (rw_run _ _ _ _ _).mono ?_
  rintro e w12 ⟨a12, n12, rfl, k12, o12⟩
  have K12 := hide k12; have O12 := hide o12; clear k12 o12
  go_wp2_with fail
  refine (rw_run _ _ _ _ _).mono ?_
  rintro e w13 ⟨a13, n13, rfl, k13, o13⟩
  have K13 := hide k13; have O13 := hide o13; clear k13 o13
  go_wp2_with fail
  refine (applied_st (L' := wL4) _ _ wl4 ww4 0 S3.out (((((((Old.refl _).trans O10.out).trans O11.out).alloc _).trans O12.out).trans O13.out).alloc _) (by omega) (by decide) wfine4 wok4.err wok4.delta wok4.next (ents2 (((((Old.refl _).trans O12.out).trans O13.out).alloc _).heap (heap_alloc_at _)) (K10.out.old ((((((Old.refl _).trans O11.out).alloc _).trans O12.out).trans O13.out).alloc _)) (V10.out.old ((((((Old.refl _).trans O11.out).alloc _).trans O12.out).trans O13.out).alloc _)) (K11.out.old (((((Old.refl _).alloc _).trans O12.out).trans O13.out).alloc _)) (V11.out.old (((((Old.refl _).alloc _).trans O12.out).trans O13.out).alloc _))) (items2 (heap_alloc_at _) (K12.out.old (((Old.refl _).trans O13.out).alloc _)) (K13.out.old ((Old.refl _).alloc _)))).mono ?_
  rintro e u4 ⟨rfl, hu4⟩
  have S4 := hide hu4
  clear hu4 S3 K10 O10 V10 K11 O11 V11 K12 O12 K13 O13
  go_wp2_with fail
  refine (rows_st wwr S4.out (by omega) wrows4).mono ?_
  rintro e x1 ⟨xv, rfl, xi, xo⟩
  have XI := hide xi; have XO := hide xo
  obtain ⟨xA, xc, xvs, rfl, -⟩ := id xi.open_
  clear xo xi
  go_wp2_with fail
  refine (rw_run _ _ _ _ _).mono ?_
  rintro e w14 ⟨a14, n14, rfl, k14, o14⟩
  have K14 := hide k14; have O14 := hide o14; clear k14 o14
  go_wp2_with fail
  refine (eq_true _ _ wwr _ (XI.out.old (O14.out.alloc _)) (items1 (heap_alloc_at _) (K14.out.old ((Old.refl _).alloc _)))).mono ?_
  rintro e x2 ⟨rfl, x2o⟩
  have X2 := hide x2o
  have S4r := hide (S4.out.step (((XO.out.trans O14.out).alloc _).trans X2.out))
  clear x2o XI XO X2 K14 O14 S4
  go_wp2_with fail
  refine (entry_run _ _ _ _).mono ?_
  rintro e w15 ⟨a15, b15, rfl, k15, v15, o15⟩
  have K15 := hide k15; have V15 := hide v15; have O15 := hide o15; clear k15 v15 o15
  go_wp2_with fail
  refine (applied_st (L' := wL4) _ _ wl5 [] 50 S4r.out (((Old.refl _).trans O15.out).alloc _) (by omega) (by decide) wfine5 wbad5 (delta_err (by rw [wbad5]; decide)) (by unfold appF; rw [if_neg (by rw [wbad5]; decide)]) (ents1 (heap_alloc_at _) (K15.out.old ((Old.refl _).alloc _)) (V15.out.old ((Old.refl _).alloc _))) (items_nil _)).mono ?_
  rintro e u5 ⟨rfl, hu5⟩
  have S5 := hide hu5
  clear hu5 S4r K15 O15 V15
  go_wp2_with fail
  refine (entry_run _ _ _ _).mono ?_
  rintro e w16 ⟨a16, b16, rfl, k16, v16, o16⟩
  have K16 := hide k16; have V16 := hide v16; have O16 := hide o16; clear k16 v16 o16
  go_wp2_with fail
  refine (entry_run _ _ _ _).mono ?_
  rintro e w17 ⟨a17, b17, rfl, k17, v17, o17⟩
  have K17 := hide k17; have V17 := hide v17; have O17 := hide o17; clear k17 v17 o17
  go_wp2_with fail
  refine (applied_st (L' := (wL4 ++ wl6)) _ _ wl6 [] 0 S5.out ((((Old.refl _).trans O16.out).trans O17.out).alloc _) (by omega) (by decide) wfine6 wok6.err wok6.delta wok6.next (ents2 (heap_alloc_at _) (K16.out.old (((Old.refl _).trans O17.out).alloc _)) (V16.out.old (((Old.refl _).trans O17.out).alloc _)) (K17.out.old ((Old.refl _).alloc _)) (V17.out.old ((Old.refl _).alloc _))) (items_nil _)).mono ?_
  rintro e u6 ⟨rfl, hu6⟩
  have S6 := hide hu6
  clear hu6 S5 K16 O16 V16 K17 O17 V17
  go_wp2_with fail
  refine (rows_st wwr S6.out (by omega) wrows6).mono ?_
  rintro e x1 ⟨xv, rfl, xi, xo⟩
  have XI := hide xi; have XO := hide xo
  obtain ⟨xA, xc, xvs, rfl, -⟩ := id xi.open_
  clear xo xi
  go_wp2_with fail
  refine (rw_run _ _ _ _ _).mono ?_
  rintro e w18 ⟨a18, n18, rfl, k18, o18⟩
  have K18 := hide k18; have O18 := hide o18; clear k18 o18
  go_wp2_with fail
  refine (eq_true _ _ wwr _ (XI.out.old (O18.out.alloc _)) (items1 (heap_alloc_at _) (K18.out.old ((Old.refl _).alloc _)))).mono ?_
  rintro e x2 ⟨rfl, x2o⟩
  have X2 := hide x2o
  have S6r := hide (S6.out.step (((XO.out.trans O18.out).alloc _).trans X2.out))
  clear x2o XI XO X2 K18 O18 S6
  go_wp2_with fail
  refine (new_run (-1) 0 _).mono ?_
  rintro e y1 ⟨yo1, (⟨-, rfl⟩ | ⟨hh, -⟩)⟩
  rotate_left
  · omega
  have Y1 := hide yo1
  clear yo1
  go_wp2_with fail
  refine (new_run 0 17 _).mono ?_
  rintro e y2 ⟨yo2, (⟨-, rfl⟩ | ⟨hh, -⟩)⟩
  rotate_left
  · omega
  have S7 := hide ((S6r.out.step Y1.out).step yo2)
  clear yo2 Y1 S6r
  go_wp2_with fail
  refine (applied_st (L' := wL4 ++ wl6) _ _ wl7 [] 2 S7.out ((((Old.refl _).alloc _).alloc _).alloc _) (by omega) (by decide) wfine7 wbad7 (delta_err (by rw [wbad7]; decide)) (by unfold appF; rw [if_neg (by rw [wbad7]; decide)])
    (ents_one (heap3 _ _ _ _).2 (row_lit (heap30 _ _ _ _) (by rfl) (by rfl) (by omega)) (row_lit (heap3 _ _ _ _).1 (by rfl) (by rfl) (by omega))) (items_nil _)).mono ?_
  rintro e u7 ⟨rfl, hu7⟩
  have S8 := hide hu7
  clear hu7 S7
  go_wp2_with fail
  go_ret
  exact ⟨rfl, S8.out.old⟩
end Go.Proofs.YtmfbblcipakaiaaGreatDoor

/-! ### The laws' groups, made. -/
/-! ### The laws' groups, made. -/
namespace Go.Proofs.YtmfbblcipakaiaaGreatDoor
open Go.RowKit

def brg (i : Int) (n : Nat) : Nat := if i.tmod n < 0 then (i.tmod n + n).toNat else (i.tmod n).toNat
theorem brg_lt (i : Int) {n : Nat} (hn : 0 < n) : brg i n < n := by
  have h1 := Int.tmod_lt_of_pos i (show (0 : Int) < n by omega)
  unfold brg
  split <;> omega
set_option maxRecDepth 100000 in
theorem bring_is (i : Int) (n : Nat) (w : World) (hn : 0 < n) (hn' : n ≤ 1048576) :
    Calls Tryz.prog 22 #[.int .i64 i, .int .i64 n] w fun e w' => e = .returned (.int .i64 (brg i n)) ∧ w = w' := by
  have h1 := Int.tmod_lt_of_pos i (show (0 : Int) < n by omega)
  have h2 := Int.neg_tmod i n
  have h3 : -(n : Int) < i.tmod n := by
    have := Int.tmod_lt_of_pos (-i) (show (0 : Int) < n by omega)
    rw [h2] at this
    omega
  clear h2
  go_enter Tryz.func22, Tryz.ntmps22
  go_wp2_with fail
  · go_ret
    exact ⟨ret_int (by unfold brg; rw [if_pos (by omega)]; omega), rfl⟩
  · go_ret
    exact ⟨ret_int (by unfold brg; rw [if_neg (by omega)]; omega), rfl⟩
def MadePost (w : World) (K S : Nat) (e : Ending) (w' : World) : Prop :=
  ∃ g bm, e = .returned (.pointer (some ⟨g, 0, none⟩)) ∧ w.heap.size ≤ g ∧ w.heap.size ≤ bm ∧ GIs w' g bm K S 0 gZero (fun _ => False) ∧ Old w w'
theorem new_small (K S : Nat) (w : World) (hK : K ≤ 16) (hS : S ≤ 16) :
    Calls Tryz.prog 9 #[.int .i64 K, .int .i64 S] w fun e w' => ∃ g bm, e = .returned (.tuple #[.pointer (some ⟨g, 0, none⟩), .int .i64 0]) ∧ w.heap.size ≤ g ∧ w.heap.size ≤ bm ∧ GIs w' g bm K S 0 gZero (fun _ => False) ∧ Old w w' :=
  (new_run K S w).mono fun e w' ⟨ho, h⟩ => by
    rcases h with ⟨h, _⟩ | ⟨_, g, bm, h1, h2, h3, h4⟩
    · exact absurd ⟨by omega, by omega, by omega, by omega⟩ h
    · exact ⟨g, bm, h1, h2, h3, h4, ho⟩
set_option maxRecDepth 100000 in
set_option maxHeartbeats 1000000 in
theorem made_run (k0 k1 : Int) (w : World) : Calls Tryz.prog 21 #[.agg #[.int .i64 k0, .int .i64 k1]] w (MadePost w (brg k0 4) (brg k1 4)) := by
  have CB0 := hide (show ∀ w', Calls Tryz.prog 22 #[.int .i64 k0, .int .i64 4] w' fun e w2 => e = .returned (.int .i64 (brg k0 4)) ∧ w' = w2 from fun w' => bring_is k0 4 w' (by omega) (by omega))
  have CB1 := hide (show ∀ w', Calls Tryz.prog 22 #[.int .i64 k1, .int .i64 4] w' fun e w2 => e = .returned (.int .i64 (brg k1 4)) ∧ w' = w2 from fun w' => bring_is k1 4 w' (by omega) (by omega))
  have hK := brg_lt k0 (n := 4) (by omega)
  have hS := brg_lt k1 (n := 4) (by omega)
  generalize brg k0 4 = K at CB0 hK ⊢
  generalize brg k1 4 = S at CB1 hS ⊢
  have CN := hide (fun w' => new_small K S w' (by omega) (by omega))
  go_enter Tryz.func21, Tryz.ntmps21
  go_wp2_with fail
  have hb := heap_alloc_at (w := w) (.cells #[.int .i64 k0, .int .i64 k1] 22)
  have x0 : ∀ w', Old (w.alloc (.cells #[.int .i64 k0, .int .i64 k1] 22)) w' → w'.cell? ⟨w.heap.size, 0, none⟩ = some (.int .i64 k0) := fun w' h => h.cell ((cell_of_heap hb).trans rfl)
  have x1 : ∀ w', Old (w.alloc (.cells #[.int .i64 k0, .int .i64 k1] 22)) w' → w'.cell? ⟨w.heap.size, 1, none⟩ = some (.int .i64 k1) := fun w' h => h.cell ((cell_of_heap hb).trans rfl)
  clear hb
  go_region_held3 (fun w' => Old (w.alloc (.cells #[.int .i64 k0, .int .i64 k1] 22)) w')
    (first | (exact Old.drew (Old.refl _)) | (exact Old.trans (by assumption) (by assumption)))
    (first
      | (go_at_call 22; (with_reducible refine (CB0.out _).mono ?_); rintro e w1 ⟨rfl, rfl⟩)
      | (go_at_call 22; (with_reducible refine (CB1.out _).mono ?_); rintro e w2 ⟨rfl, rfl⟩)
      | (go_at_call 9; (with_reducible refine (CN.out _).mono ?_); rintro e w3 ⟨g, bm, rfl, hg, hbm, hG, ho3⟩)
      | (fail "none fits"))
  go_wp2_with fail
  go_ret
  have h1 : w.heap.size ≤ (w.alloc (.cells #[.int .i64 k0, .int .i64 k1] 22)).heap.size := by simp
  have hO : Old (w.alloc (.cells #[.int .i64 k0, .int .i64 k1] 22)) w3 := by assumption
  exact ⟨g, bm, rfl, Nat.le_trans h1 hg, Nat.le_trans h1 hbm, hG, Old.trans ((Old.refl _).alloc _) hO⟩
end Go.Proofs.YtmfbblcipakaiaaGreatDoor

/-! ### The laws' groups underway: what a call leaves. -/
namespace Go.Proofs.YtmfbblcipakaiaaGreatDoor
open Go.RowKit

structure LSt (w0 w : World) (g bm K S m : Nat) (f : Gf) : Prop where
  pow : PowTab w0
  g0 : w0.heap.size ≤ g
  b0 : w0.heap.size ≤ bm
  old : Old w0 w
  k3 : K ≤ 3
  s3 : S ≤ 3
  is : ∃ B, GIs w g bm K S m f B
theorem LSt.step {w0 w w' : World} {g bm K S m : Nat} {f : Gf} (h : LSt w0 w g bm K S m f) (o : Old w w') : LSt w0 w' g bm K S m f :=
  ⟨h.pow, h.g0, h.b0, h.old.trans o, h.k3, h.s3, by obtain ⟨B, hB⟩ := h.is; exact ⟨B, hB.old o⟩⟩
theorem LSt.mono {w0 w : World} {g bm K S m n : Nat} {f : Gf} (h : LSt w0 w g bm K S m f) (hn : m ≤ n) : LSt w0 w g bm K S n f :=
  ⟨h.pow, h.g0, h.b0, h.old, h.k3, h.s3, by obtain ⟨B, hB⟩ := h.is; exact ⟨B, hB.mono hn⟩⟩
theorem LSt.pow' {w0 w : World} {g bm K S m : Nat} {f : Gf} (h : LSt w0 w g bm K S m f) : PowTab w := h.pow.old h.old
theorem LSt.made {w0 w w' : World} {g bm K S : Nat} (hp : PowTab w0) (ho : Old w0 w) (hK : K < 4) (hS : S < 4) (hg : w.heap.size ≤ g) (hb : w.heap.size ≤ bm) (hG : GIs w' g bm K S 0 gZero (fun _ => False)) (o : Old w w') : LSt w0 w' g bm K S 0 gZero :=
  ⟨hp, Nat.le_trans ho.size hg, Nat.le_trans ho.size hb, ho.trans o, by omega, by omega, _, hG⟩
/-- a call that changed nothing but the groups' map -/
structure Turn (bm : Nat) (w w' : World) : Prop where
  chg : Chg (fun b => b = bm) w w'
  map : ∃ (n : Nat) (M : ByteArray → Option Value), MapIs Tryz.prog 9 w bm n M
theorem Turn.items {bm : Nat} {w w' : World} {v : Value} {l : List Item} (t : Turn bm w w') (h : ItemsIs w v l) : ItemsIs w' v l := by obtain ⟨n, M, hM⟩ := t.map; exact h.turn t.chg hM
theorem Turn.ents {bm : Nat} {w w' : World} {v : Value} {l : List Ent} (t : Turn bm w w') (h : EntsIs w v l) : EntsIs w' v l := by obtain ⟨n, M, hM⟩ := t.map; exact h.turn t.chg hM
theorem Turn.sl {bm : Nat} {w w' : World} {v : Value} {n : Nat} {xs : List Value} (t : Turn bm w w') (h : Sl w v n xs) : Sl w' v n xs := by
  obtain ⟨m, M, hM⟩ := t.map
  exact h.chg t.chg (fun b cs T f hh e => by subst e; exact map_ne hh hM rfl)
theorem Turn.other {w0 w w' : World} {bm g2 b2 K S m : Nat} {f : Gf} (t : Turn bm w w') (h : LSt w0 w g2 b2 K S m f) (hb : w0.heap.size ≤ bm) (hne : b2 ≠ bm) (hB : ∃ B, GIs w g2 b2 K S m f B ∧ ¬ B bm) : LSt w0 w' g2 b2 K S m f := by
  obtain ⟨B, hG, hn⟩ := hB
  obtain ⟨n, M, hM⟩ := t.map
  refine ⟨h.pow, h.g0, h.b0, Below.trans h.old (Chg.below (lo := w0.heap.size) t.chg h.old.size (fun n hn e => by omega)), h.k3, h.s3, B, hG.chg t.chg (fun e => ?_) hne (fun b _ hb e => hn (e ▸ hb))⟩
  obtain ⟨es, c, hes⟩ := hM.isMap
  have := hG.c0
  rw [e] at this
  unfold World.cell? at this
  simp [hes] at this
/-- the values of an Apply -/
def ApPost (w0 w : World) (g bm K S m : Nat) (f : Gf) (l : List Ent) (n : Int) (e : Ending) (w' : World) : Prop :=
  ∃ A c z, e = .returned (.tuple #[.slice A z.length c, .int .i64 n]) ∧ z.length ≤ c ∧ c ≤ maxLen ∧ ItemsIs w' (.slice A z.length c) z ∧ Delta K S f (appF K S f l) z ∧ z.length ≤ l.length * 2 ∧ LSt w0 w' g bm K S (m + l.length) (appF K S f l) ∧ Turn bm w w'
theorem lst_apply {w0 w : World} {g bm K S m : Nat} {f : Gf} (v : Value) (l : List Ent) (n : Int) (hs : LSt w0 w g bm K S m f) (hl : EntsIs w v l) (hm : m ≤ 10000) (hn : l.length ≤ 1000) (hf : ∀ e ∈ l, EntFine e) (he : appErr K S f l = n) :
    Calls Tryz.prog 12 #[.pointer (some ⟨g, 0, none⟩), v] w (ApPost w0 w g bm K S m f l n) := by
  obtain ⟨B, hB⟩ := hs.is
  have hk := hs.k3
  have h3 := hs.s3
  refine (apply_run g bm K S m f B v l w hB (by omega) (by omega) (by omega) hl (by omega) hf hs.pow').mono ?_
  rintro e w' ⟨h1, out, z, rfl, -, -, hi, hd, hz, hG, hc⟩
  obtain ⟨A, c, us, rfl, h4, h5, -⟩ := id hi.is.open_
  obtain ⟨M, hM⟩ := hB.map
  have hb := hs.b0
  rw [he]
  exact ⟨A, c, z, rfl, h4, h5, hi.is, hd, hz, ⟨hs.pow, hs.g0, hs.b0, Below.trans hs.old (Chg.below (lo := w0.heap.size) hc hs.old.size (fun n hn e => by omega)), hk, h3, _, hG⟩, hc, _, M, hM.map⟩
def RwPost (w : World) (K S m : Nat) (f : Gf) (e : Ending) (w' : World) : Prop :=
  ∃ A c z, e = .returned (.slice A z.length c) ∧ z.length ≤ c ∧ c ≤ maxLen ∧ ItemsIs w' (.slice A z.length c) z ∧ RowsZ K S f z ∧ z.length ≤ m ∧ Old w w'
theorem lst_rows {w0 w : World} {g bm K S m : Nat} {f : Gf} (hs : LSt w0 w g bm K S m f) (hm : m ≤ 10000) :
    Calls Tryz.prog 18 #[.pointer (some ⟨g, 0, none⟩)] w (RwPost w K S m f) := by
  obtain ⟨B, hB⟩ := hs.is
  have hk := hs.k3
  have h3 := hs.s3
  refine (rows_run g bm K S m f B w hB (by omega) (by omega) (by omega)).mono ?_
  rintro e w' ⟨v, z, rfl, hi, hz, hn, ho⟩
  obtain ⟨A, c, us, rfl, h4, h5, -⟩ := id hi.is.open_
  exact ⟨A, c, z, rfl, h4, h5, hi.is, hz, hn, ho⟩
def CutPost (w : World) (l : List Ent) (e : Ending) (w' : World) : Prop :=
  ∃ A c, e = .returned (.slice A l.length c) ∧ l.length ≤ c ∧ c ≤ maxLen ∧ EntsIs w' (.slice A l.length c) l ∧ Old w w'
theorem lst_cut {w : World} (v : Value) (l : List Ent) (hl : EntsIs w v l) : Calls Tryz.prog 11 #[v] w (CutPost w (cutEs l)) := by
  refine (cut_run v l w hl).mono ?_
  rintro e w' ⟨v, rfl, hi, ho⟩
  obtain ⟨A, c, us, vs, rfl, h4, h5, -⟩ := id hi.is.open_
  exact ⟨A, c, rfl, h4, h5, hi.is, ho⟩

/-! ### few items, of short rows -/
theorem delta_fine {K S n : Nat} {f g : Gf} {z : List Item} (h : Delta K S f g z) (hK : K ≤ 3) (hS : S ≤ 3) (hn : z.length ≤ n) : Fine n z where
  len := hn
  short := fun i hi => by
    have := delta_len h z[i] (List.getElem_mem hi)
    omega
  fits := fun x hx => by
    have h1 := wOf_mem h.ok.1 hx
    rw [h.wts] at h1
    rcases rowW_01 K S g x.row with h2 | h2 <;> rcases rowW_01 K S f x.row with h3 | h3 <;> rw [h2, h3] at h1 <;> rw [← h1] <;> decide
theorem RowsZ.delta {K S : Nat} {g : Gf} {z : List Item} (h : RowsZ K S g z) : Delta K S gZero g z := ⟨h.ok, fun r => by rw [h.wts, rowW_zero]; omega⟩
theorem same_refl (a : List Item) : sameItems a a = true := by simp [sameItems]
theorem same_true (va vb : Value) (a b : List Item) (w : World) (ha : ItemsIs w va a) (hb : ItemsIs w vb b) (hab : a = b) :
    Calls Tryz.prog 24 #[va, vb] w fun e w' => e = .returned (.bool true) ∧ Old w w' := by
  have := zset_Same va vb a b w ha hb
  rw [hab, same_refl] at this
  exact this
/-- lists of entries -/
def ListsIs (w : World) (v : Value) (ls : List (List Ent)) : Prop :=
  ∃ vs : List Value, vs.length = ls.length ∧ Sl w v ls.length vs ∧ ∀ i, (h : i < ls.length) → (h' : i < vs.length) → EntsIs w vs[i] ls[i]
end Go.Proofs.YtmfbblcipakaiaaGreatDoor
