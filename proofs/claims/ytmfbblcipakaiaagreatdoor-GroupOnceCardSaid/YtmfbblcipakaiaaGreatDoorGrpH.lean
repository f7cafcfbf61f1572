/- The chapter's examples. -/
import Derived.Test.YtmfbblcipakaiaaGreatDoorGrpZ
import Derived.Test.YtmfbblcipakaiaaGreatDoorGrpX
namespace Go.Proofs.YtmfbblcipakaiaaGreatDoor
open Go.RowKit

/-- the examples' groups, underway -/
structure WSt (w0 w : World) (g bm m : Nat) (L : List Ent) : Prop where
  pow : PowTab w0
  g0 : w0.heap.size ≤ g
  b0 : w0.heap.size ≤ bm
  old : Old w0 w
  is : ∃ B, GIs w g bm 1 1 m (gAdd gZero L) B
theorem WSt.step {w0 w w' : World} {g bm m : Nat} {L : List Ent} (h : WSt w0 w g bm m L) (o : Old w w') : WSt w0 w' g bm m L := ⟨h.pow, h.g0, h.b0, h.old.trans o, by obtain ⟨B, hB⟩ := h.is; exact ⟨B, hB.old o⟩⟩
theorem heap30 (w : World) (a b c : Obj) : (((w.alloc a).alloc b).alloc c).heap[w.heap.size]? = some a :=
  ((((Old.refl (w.alloc a)).alloc b).alloc c)).heap (heap_alloc_at (w := w) a)
theorem items_nil (w : World) : ItemsIs w (.slice none 0 0) [] := ⟨[], rfl, Sl.nil_ w, fun i hi => absurd hi (by simp)⟩
theorem ents_one {w : World} {g a1 b1 n1 n2 : Nat} {T : TypeId} {f : Nat × Nat} {e1 : Ent} (h : w.heap[g]? = some (.cells #[.slice (some ⟨a1, 0, none⟩) n1 n1, .slice (some ⟨b1, 0, none⟩) n2 n2, .int .i64 e1.w] T f))
    (k1 : RowIs w (.slice (some ⟨a1, 0, none⟩) n1 n1) e1.key) (v1 : RowIs w (.slice (some ⟨b1, 0, none⟩) n2 n2) e1.vals) : EntsIs w (.slice (some ⟨g, 0, none⟩) 1 1) [e1] :=
  ents_lit h (vs := [(.slice (some ⟨a1, 0, none⟩) n1 n1, .slice (some ⟨b1, 0, none⟩) n2 n2)]) rfl rfl rfl (by omega) (fun i hi hi' => by
    match i, hi with
    | 0, _ => exact ⟨k1, v1⟩)
theorem applied_st {w0 ws w : World} {g bm m : Nat} {L L' : List Ent} (v wv : Value) (l : List Ent) (want : List Item) (ev : Int) (hs : WSt w0 ws g bm m L) (ho : Old ws w) (hm : m ≤ 100) (hn : l.length ≤ 5) (hf : ∀ e ∈ l, EntFine e)
    (he : appErr 1 1 (gAdd gZero L) l = ev) (hd : Delta 1 1 (gAdd gZero L) (appF 1 1 (gAdd gZero L) l) want) (hL : appF 1 1 (gAdd gZero L) l = gAdd gZero L') (hl : EntsIs w v l) (hw : ItemsIs w wv want) :
    Calls Tryz.prog 48 #[.pointer (some ⟨g, 0, none⟩), .int .i64 ev, v, wv] w (fun x w' => x = .returned (.bool true) ∧ WSt w0 w' g bm (m + 5) L') := by
  have hs' := hs.step ho
  obtain ⟨B, hB⟩ := hs'.is
  refine (applied_run g bm 1 1 m _ B v wv l want ev w hB (by omega) (by omega) (by omega) hl (by omega) hf (hs.pow.old hs'.old) hw hd he).mono ?_
  rintro x w' ⟨rfl, ⟨B', hB'⟩, hc⟩
  rw [hL] at hB'
  have hb := hs.b0
  exact ⟨rfl, hs.pow, hs.g0, hs.b0, Below.trans hs'.old (Chg.below (lo := w0.heap.size) hc hs'.old.size (fun n hn e => by omega)), ⟨B', hB'.mono (by omega)⟩⟩
theorem rows_st {w0 w : World} {g bm m : Nat} {L : List Ent} (want : List Item) (hs : WSt w0 w g bm m L) (hm : m ≤ 100) (hz : RowsZ 1 1 (gAdd gZero L) want) :
    Calls Tryz.prog 18 #[.pointer (some ⟨g, 0, none⟩)] w (fun x w' => ∃ v, x = .returned v ∧ ItemsIs w' v want ∧ Old w w') := by
  obtain ⟨B, hB⟩ := hs.is
  refine (rows_run g bm 1 1 m _ B w hB (by omega) (by omega) (by omega)).mono ?_
  rintro x w' ⟨v, z, rfl, hi, hz', -, ho⟩
  exact ⟨v, rfl, (hz'.unique hz) ▸ hi.is, ho⟩

set_option maxRecDepth 100000 in
set_option maxHeartbeats 4000000 in
theorem works_run (w : World) (hp : PowTab w) : Calls Tryz.prog 20 #[] w (fun e w' => e = .returned (.bool true) ∧ Old w w') := by
  have HP := hide hp
  clear hp
  go_enter Tryz.func20, Tryz.ntmps20
  go_wp2_with fail
  refine (new_run 1 1 w).mono ?_
  rintro e w0 ⟨o0, (⟨hh, -⟩ | ⟨-, g, bm, rfl, hg, hb, hG⟩)⟩
  · exact absurd ⟨by omega, by omega, by omega, by omega⟩ hh
  have S0 : Hid (WSt w w0 g bm 0 []) := hide ⟨HP.out, hg, hb, o0, _, by
    have e0 : gAdd gZero [] = gZero := by funext k i; simp [gAdd, tot]
    rw [e0]; exact hG⟩
  clear o0 hg hb hG HP
  go_wp2_with fail
  refine (entry_run _ _ _ _).mono ?_
  rintro e w1 ⟨a1, b1, rfl, k1, v1, o1⟩
  have K1 := hide k1; have V1 := hide v1; have O1 := hide o1; clear k1 v1 o1
  go_wp2_with fail
  refine (entry_run _ _ _ _).mono ?_
  rintro e w2 ⟨a2, b2, rfl, k2, v2, o2⟩
  have K2 := hide k2; have V2 := hide v2; have O2 := hide o2; clear k2 v2 o2
  go_wp2_with fail
  refine (no_run _ _ _).mono ?_
  rintro e w3 ⟨a3, b3, rfl, k3, v3, o3⟩
  have K3 := hide k3; have V3 := hide v3; have O3 := hide o3; clear k3 v3 o3
  go_wp2_with fail
  refine (rw_run _ _ _ _ _).mono ?_
  rintro e w4 ⟨a4, n4, rfl, k4, o4⟩
  have K4 := hide k4; have O4 := hide o4; clear k4 o4
  go_wp2_with fail
  refine (rw_run _ _ _ _ _).mono ?_
  rintro e w5 ⟨a5, n5, rfl, k5, o5⟩
  have K5 := hide k5; have O5 := hide o5; clear k5 o5
  go_wp2_with fail
  refine (applied_st (L' := ([] ++ wl1)) _ _ wl1 ww1 0 S0.out ((((((((Old.refl _).trans O1.out).trans O2.out).trans O3.out).alloc _).trans O4.out).trans O5.out).alloc _) (by omega) (by decide) wfine1 wok1.err wok1.delta wok1.next (ents3 (((((Old.refl _).trans O4.out).trans O5.out).alloc _).heap (heap_alloc_at _)) (K1.out.old (((((((Old.refl _).trans O2.out).trans O3.out).alloc _).trans O4.out).trans O5.out).alloc _)) (V1.out.old (((((((Old.refl _).trans O2.out).trans O3.out).alloc _).trans O4.out).trans O5.out).alloc _)) (K2.out.old ((((((Old.refl _).trans O3.out).alloc _).trans O4.out).trans O5.out).alloc _)) (V2.out.old ((((((Old.refl _).trans O3.out).alloc _).trans O4.out).trans O5.out).alloc _)) (K3.out.old (((((Old.refl _).alloc _).trans O4.out).trans O5.out).alloc _)) (V3.out.old (((((Old.refl _).alloc _).trans O4.out).trans O5.out).alloc _))) (items2 (heap_alloc_at _) (K4.out.old (((Old.refl _).trans O5.out).alloc _)) (K5.out.old ((Old.refl _).alloc _)))).mono ?_
  rintro e u1 ⟨rfl, hu1⟩
  have S1 := hide hu1
  clear hu1 S0 K1 O1 V1 K2 O2 V2 K3 O3 V3 K4 O4 K5 O5
  go_wp2_with fail
  refine (entry_run _ _ _ _).mono ?_
  rintro e w6 ⟨a6, b6, rfl, k6, v6, o6⟩
  have K6 := hide k6; have V6 := hide v6; have O6 := hide o6; clear k6 v6 o6
  go_wp2_with fail
  refine (entry_run _ _ _ _).mono ?_
  rintro e w7 ⟨a7, b7, rfl, k7, v7, o7⟩
  have K7 := hide k7; have V7 := hide v7; have O7 := hide o7; clear k7 v7 o7
  go_wp2_with fail
  refine (applied_st (L' := (wl1 ++ wl2)) _ _ wl2 [] 0 S1.out ((((Old.refl _).trans O6.out).trans O7.out).alloc _) (by omega) (by decide) wfine2 wok2.err wok2.delta wok2.next (ents2 (heap_alloc_at _) (K6.out.old (((Old.refl _).trans O7.out).alloc _)) (V6.out.old (((Old.refl _).trans O7.out).alloc _)) (K7.out.old ((Old.refl _).alloc _)) (V7.out.old ((Old.refl _).alloc _))) (items_nil _)).mono ?_
  rintro e u2 ⟨rfl, hu2⟩
  have S2 := hide hu2
  clear hu2 S1 K6 O6 V6 K7 O7 V7
  go_wp2_with fail
  refine (no_run _ _ _).mono ?_
  rintro e w8 ⟨a8, b8, rfl, k8, v8, o8⟩
  have K8 := hide k8; have V8 := hide v8; have O8 := hide o8; clear k8 v8 o8
  go_wp2_with fail
  refine (rw_run _ _ _ _ _).mono ?_
  rintro e w9 ⟨a9, n9, rfl, k9, o9⟩
  have K9 := hide k9; have O9 := hide o9; clear k9 o9
  go_wp2_with fail
  refine (applied_st (L' := (wl1 ++ wl2 ++ wl3)) _ _ wl3 ww3 0 S2.out (((((Old.refl _).trans O8.out).alloc _).trans O9.out).alloc _) (by omega) (by decide) wfine3 wok3.err wok3.delta wok3.next (ents1 ((((Old.refl _).trans O9.out).alloc _).heap (heap_alloc_at _)) (K8.out.old ((((Old.refl _).alloc _).trans O9.out).alloc _)) (V8.out.old ((((Old.refl _).alloc _).trans O9.out).alloc _))) (items1 (heap_alloc_at _) (K9.out.old ((Old.refl _).alloc _)))).mono ?_
  rintro e u3 ⟨rfl, hu3⟩
  have S3 := hide hu3
  clear hu3 S2 K8 O8 V8 K9 O9
  go_wp2_with fail
  refine (entry_run _ _ _ _).mono ?_
  rintro e w10 ⟨a10, b10, rfl, k10, v10, o10⟩
  have K10 := hide k10; have V10 := hide v10; have O10 := hide o10; clear k10 v10 o10
  go_wp2_with fail
  refine (entry_run _ _ _ _).mono ?_
  rintro e w11 ⟨a11, b11, rfl, k11, v11, o11⟩
  have K11 := hide k11; have V11 := hide v11; have O11 := hide o11; clear k11 v11 o11
  go_wp2_with fail
  refine (rw_run _ _ _ _ _).mono ?_
  rintro e w12 ⟨a12, n12, rfl, k12, o12⟩
  have K12 := hide k12; have O12 := hide o12; clear k12 o12
  go_wp2_with fail
  refine (rw_run _ _ _ _ _).mono ?_
  rintro e w13 ⟨a13, n13, rfl, k13, o13⟩
  have K13 := hide k13; have O13 := hide o13; clear k13 o13
  go_wp2_with fail
  refine (applied_st (L' := wL4) _ _ wl4 ww4 0 S3.out (((((((Old.refl _).trans O10.out).trans O11.out).alloc _).trans O12.out).trans O13.out).alloc _) (by omega) (by decide) wfine4 wok4.err wok4.delta wok4.next (ents2 (((((Old.refl _).trans O12.out).trans O13.out).alloc _).heap (heap_alloc_at _)) (K10.out.old ((((((Old.refl _).trans O11.out).alloc _).trans O12.out).trans O13.out).alloc _)) (V10.out.old ((((((Old.refl _).trans O11.out).alloc _).trans O12.out).trans O13.out).alloc _)) (K11.out.old (((((Old.refl _).alloc _).trans O12.out).trans O13.out).alloc _)) (V11.out.old (((((Old.refl _).alloc _).trans O12.out).trans O13.out).alloc _))) (items2 (heap_alloc_at _) (K12.out.old (((Old.refl _).trans O13.out).alloc _)) (K13.out.old ((Old.refl _).alloc _)))).mono ?_
  rintro e u4 ⟨rfl, hu4⟩
  have S4 := hide hu4
  clear hu4 S3 K10 O10 V10 K11 O11 V11 K12 O12 K13 O13
  go_wp2_with fail
  refine (rows_st wwr S4.out (by omega) wrows4).mono ?_
  rintro e x1 ⟨xv, rfl, xi, xo⟩
  have XI := hide xi; have XO := hide xo
  obtain ⟨xA, xc, xvs, rfl, -⟩ := id xi.open_
  clear xo xi
  go_wp2_with fail
  refine (rw_run _ _ _ _ _).mono ?_
  rintro e w14 ⟨a14, n14, rfl, k14, o14⟩
  have K14 := hide k14; have O14 := hide o14; clear k14 o14
  go_wp2_with fail
  refine (eq_true _ _ wwr _ (XI.out.old (O14.out.alloc _)) (items1 (heap_alloc_at _) (K14.out.old ((Old.refl _).alloc _)))).mono ?_
  rintro e x2 ⟨rfl, x2o⟩
  have X2 := hide x2o
  have S4r := hide (S4.out.step (((XO.out.trans O14.out).alloc _).trans X2.out))
  clear x2o XI XO X2 K14 O14 S4
  go_wp2_with fail
  refine (entry_run _ _ _ _).mono ?_
  rintro e w15 ⟨a15, b15, rfl, k15, v15, o15⟩
  have K15 := hide k15; have V15 := hide v15; have O15 := hide o15; clear k15 v15 o15
  go_wp2_with fail
  refine (applied_st (L' := wL4) _ _ wl5 [] 50 S4r.out (((Old.refl _).trans O15.out).alloc _) (by omega) (by decide) wfine5 wbad5 (delta_err (by rw [wbad5]; decide)) (by unfold appF; rw [if_neg (by rw [wbad5]; decide)]) (ents1 (heap_alloc_at _) (K15.out.old ((Old.refl _).alloc _)) (V15.out.old ((Old.refl _).alloc _))) (items_nil _)).mono ?_
  rintro e u5 ⟨rfl, hu5⟩
  have S5 := hide hu5
  clear hu5 S4r K15 O15 V15
  go_wp2_with fail
  refine (entry_run _ _ _ _).mono ?_
  rintro e w16 ⟨a16, b16, rfl, k16, v16, o16⟩
  have K16 := hide k16; have V16 := hide v16; have O16 := hide o16; clear k16 v16 o16
  go_wp2_with fail
  refine (entry_run _ _ _ _).mono ?_
  rintro e w17 ⟨a17, b17, rfl, k17, v17, o17⟩
  have K17 := hide k17; have V17 := hide v17; have O17 := hide o17; clear k17 v17 o17
  go_wp2_with fail
  refine (applied_st (L' := (wL4 ++ wl6)) _ _ wl6 [] 0 S5.out ((((Old.refl _).trans O16.out).trans O17.out).alloc _) (by omega) (by decide) wfine6 wok6.err wok6.delta wok6.next (ents2 (heap_alloc_at _) (K16.out.old (((Old.refl _).trans O17.out).alloc _)) (V16.out.old (((Old.refl _).trans O17.out).alloc _)) (K17.out.old ((Old.refl _).alloc _)) (V17.out.old ((Old.refl _).alloc _))) (items_nil _)).mono ?_
  rintro e u6 ⟨rfl, hu6⟩
  have S6 := hide hu6
  clear hu6 S5 K16 O16 V16 K17 O17 V17
  go_wp2_with fail
  refine (rows_st wwr S6.out (by omega) wrows6).mono ?_
  rintro e x1 ⟨xv, rfl, xi, xo⟩
  have XI := hide xi; have XO := hide xo
  obtain ⟨xA, xc, xvs, rfl, -⟩ := id xi.open_
  clear xo xi
  go_wp2_with fail
  refine (rw_run _ _ _ _ _).mono ?_
  rintro e w18 ⟨a18, n18, rfl, k18, o18⟩
  have K18 := hide k18; have O18 := hide o18; clear k18 o18
  go_wp2_with fail
  refine (eq_true _ _ wwr _ (XI.out.old (O18.out.alloc _)) (items1 (heap_alloc_at _) (K18.out.old ((Old.refl _).alloc _)))).mono ?_
  rintro e x2 ⟨rfl, x2o⟩
  have X2 := hide x2o
  have S6r := hide (S6.out.step (((XO.out.trans O18.out).alloc _).trans X2.out))
  clear x2o XI XO X2 K18 O18 S6
  go_wp2_with fail
  refine (new_run (-1) 0 _).mono ?_
  rintro e y1 ⟨yo1, (⟨-, rfl⟩ | ⟨hh, -⟩)⟩
  rotate_left
  · omega
  have Y1 := hide yo1
  clear yo1
  go_wp2_with fail
  refine (new_run 0 17 _).mono ?_
  rintro e y2 ⟨yo2, (⟨-, rfl⟩ | ⟨hh, -⟩)⟩
  rotate_left
  · omega
  have S7 := hide ((S6r.out.step Y1.out).step yo2)
  clear yo2 Y1 S6r
  go_wp2_with fail
  refine (applied_st (L' := wL4 ++ wl6) _ _ wl7 [] 2 S7.out ((((Old.refl _).alloc _).alloc _).alloc _) (by omega) (by decide) wfine7 wbad7 (delta_err (by rw [wbad7]; decide)) (by unfold appF; rw [if_neg (by rw [wbad7]; decide)])
    (ents_one (heap3 _ _ _ _).2 (row_lit (heap30 _ _ _ _) (by rfl) (by rfl) (by omega)) (row_lit (heap3 _ _ _ _).1 (by rfl) (by rfl) (by omega))) (items_nil _)).mono ?_
  rintro e u7 ⟨rfl, hu7⟩
  have S8 := hide hu7
  clear hu7 S7
  go_wp2_with fail
  go_ret
  exact ⟨rfl, S8.out.old⟩
end Go.Proofs.YtmfbblcipakaiaaGreatDoor
