/- JshowSame: two tapes say the same just if Canon is the same; and Canon is read as what says the same. -/
import Derived.Test.YtmolmphbhdbcaaaGreatDoorBackW
import Derived.Test.YtmolmphbhdbcaaaGreatDoorSrtS
namespace Go.Proofs.YtmolmphbhdbcaaaGreatDoor
open Go.RowKit

theorem Shown.sorted {t : List Nd} {j : J} (h : Shown 5 t j) (hl : t.length ≤ 301) : Shown 5 j.sort.flat j.sort := by
  have e := h.flat
  have e2 : j.sort.flat.length = j.flat.length := sort_len.1 j
  refine shown_of h.may.sorted (Fine.sort (by rw [← e]; exact h.fine) e2) ?_
  rw [e2, ← e]
  have : t.length * (12 * 5 + 32) ≤ 301 * 92 := Nat.mul_le_mul hl (by omega)
  omega
theorem Shown.canon {t : List Nd} {j : J} (h : Shown 5 t j) (hl : t.length ≤ 301) : CanonT t j.sort.show 0 := .inr ⟨j, h.may, (h.sorted hl).says⟩
theorem sort_twice {t : List Nd} {j : J} (h : May t j) : j.sort.sort = j.sort := sort_srt.1 _ (srt_sort.1 j h.1.1)
/-- the texts are the same just if the tapes say the same -/
theorem canon_same {t u : List Nd} {j k : J} {B : Bool} (h : Shown 5 t j) (hl : t.length ≤ 301) (h' : Shown 5 u k) (hl' : u.length ≤ 301) (hB : SameT t u B) : B = decide (j.sort.show = k.sort.show) := by
  rw [hB.known h.may h'.may]
  unfold sameNds
  refine decide_eq_decide.2 ⟨fun e => by rw [flat_inj e], fun e => ?_⟩
  have s1 := h.sorted hl
  have s2 := h'.sorted hl'
  rw [show_inj s1.may s1.nums (by have := s1.len; omega) s2.may s2.nums e]
theorem bytes_same (a b : List UInt8) : ((⟨a.toArray⟩ : ByteArray) = ⟨b.toArray⟩) ↔ a = b := by
  constructor
  · intro e
    have := congrArg (fun x : ByteArray => x.data.toList) e
    simpa using this
  · rintro rfl; rfl
set_option maxRecDepth 100000 in
set_option maxHeartbeats 4000000 in
theorem jsame_walk (u v : Value) (l m : List Int) (same : Bool) (w : World) (h : NumsIs w u l) (h' : NumsIs w v m) (hT : Tabs w) (hE : Errs w) (hP : PowTab w) :
    Calls Tryz.prog 5 #[.agg #[u], .agg #[v], .bool same] w fun e w' => e = .returned (.bool true) ∧ Old w w' := by
  have HT := hide hT
  have HE := hide hE
  have HP := hide hP
  obtain ⟨W2, hW2⟩ : ∃ W, Hid ((w.alloc (.cells #[u] 33)).alloc (.cells #[v] 33) = W) := ⟨_, hide rfl⟩
  have O2 := hide (show Old w W2 by rw [← hW2.out]; exact Old.alloc (Old.alloc (Old.refl _) _) _)
  have CDA := hide (fun (w' : World) (o : Old W2 w') => drawn_run u l w' (Sl.old h (Old.trans O2.out o)) (hT.old (Old.trans O2.out o)))
  have CDB := hide (fun (w' : World) (o : Old W2 w') => drawn_run v m w' (Sl.old h' (Old.trans O2.out o)) (hT.old (Old.trans O2.out o)))
  have CWK := hide (fun (w' : World) (o : Old w w') => works_run w' (hT.old o) (hP.old o))
  have c1 : W2.cell? ⟨w.heap.size, 0, none⟩ = some u := by rw [← hW2.out]; go_simp
  have c2 : W2.cell? ⟨w.heap.size + 1, 0, none⟩ = some v := by rw [← hW2.out]; go_simp
  have hx1 : ∀ w', Old W2 w' → w'.cell? ⟨w.heap.size, 0, none⟩ = some u := fun w' o => o.cell c1
  have hx2 : ∀ w', Old W2 w' → w'.cell? ⟨w.heap.size + 1, 0, none⟩ = some v := fun w' o => o.cell c2
  clear h h' hT hE hP c1 c2
  go_enter Tryz.func5, Tryz.ntmps5
  go_wp2_with fail
  rw [hW2.out]
  go_region_held3 (fun w' => Old W2 w')
    (first | assumption | (exact Old.refl _) | (exact Old.drew (Old.refl _)) | (exact Old.trans (by assumption) (by assumption)))
    (first
      | (go_at_call 10; (with_reducible refine (CDA.out _ (by first | assumption | exact Old.refl _ | exact Old.drew (Old.refl _))).mono ?_); rintro e w30 ⟨v30, t30, j30, rfl, n30, m30, x30, d30, l30, o30⟩)
      | (go_at_call 10; (with_reducible refine (CDB.out _ (by first | assumption | exact Old.refl _ | exact Old.drew (Old.refl _))).mono ?_); rintro e w32 ⟨v32, t32, j32, rfl, n32, m32, x32, d32, l32, o32⟩))
  have O3 := hide (Old.trans O2.out (show Old W2 w32 by assumption))
  have SA := hide (shown_tiny m30 x30 l30)
  have SB := hide (shown_tiny m32 x32 l32)
  have NA := hide (show NodesIs w32 v30 t30 from (SlT.sl n30).old (by first | exact o32 | exact Old.trans (Old.drew (Old.refl _)) o32))
  have NB := hide (SlT.sl n32)
  have LA := hide l30
  have LB := hide l32
  clear n30 m30 x30 d30 l30 n32 m32 x32 d32 l32 hx1 hx2 CDA CDB
  go_upto_if 20 with fail
  go_cut [8] (fun uv wc => ∃ (t : List Nd) (k : J), Hid (Shown 5 t k) ∧ Hid (t.length ≤ 301) ∧ Hid (NodesIs wc uv t) ∧ Hid (NodesIs wc v30 t30) ∧ Hid (same = true → k = j30.sort) ∧ Hid (Old w wc))
  case first =>
    cases same with
    | false =>
      go_wp2_with fail
      go_meet
      exact ⟨t32, j32, SB, LB, NB, NA, hide (fun h => by cases h), O3⟩
    | true =>
      have CS := hide (sorted_run v30 t30 w32 NA.out SA.out.fine.texts (HT.out.old O3.out))
      go_wp2_with fail
      refine CS.out.mono ?_
      rintro e w4 ⟨ps, hps, v4, rfl, n4, o4⟩
      have FIN := hide (show ∃ (t : List Nd) (k : J), Hid (Shown 5 t k) ∧ Hid (t.length ≤ 301) ∧ Hid (NodesIs w4 v4 t) ∧ Hid (NodesIs w4 v30 t30) ∧ Hid (true = true → k = j30.sort) ∧ Hid (Old w w4) from by
        obtain ⟨j', hj', e⟩ := hps.good (chkT_may SA.out.may)
        have ej : j' = j30 := flat_inj (hj'.1.2.2.symm.trans SA.out.flat)
        subst ej
        refine ⟨_, _, hide (SA.out.sorted LA.out), hide ?_, hide ?_, hide (NA.out.old o4), hide (fun _ => rfl), hide (Old.trans O3.out o4)⟩
        · rw [sort_len.1, ← SA.out.flat]; exact LA.out
        · rw [← e]; exact SlT.sl n4)
      clear n4 hps o4
      go_wp2_with fail
      go_meet
      exact FIN.out
  case rest =>
  obtain ⟨t, k, SK, LK, NK, NA', HSM, OC⟩ := hcut
  obtain ⟨X, hX⟩ : ∃ X : ByteArray, Hid ((⟨j30.sort.show.toArray⟩ : ByteArray) = X) := ⟨_, hide rfl⟩
  obtain ⟨Y, hY⟩ : ∃ X : ByteArray, Hid ((⟨k.sort.show.toArray⟩ : ByteArray) = X) := ⟨_, hide rfl⟩
  obtain ⟨BB, hBB⟩ : ∃ BB : Bool, Hid (decide (j30.sort.show = k.sort.show) = BB) := ⟨_, hide rfl⟩
  have hxy : (X.toList == Y.toList) = BB := by
    rw [← hX.out, ← hY.out, ← hBB.out, Lib.toList_data, Lib.toList_data]
    simp only []
    rw [Bool.eq_iff_iff, beq_iff_eq, decide_eq_true_eq]
  have CA := hide (canon_run 5 v30 t30 _ 0 wc NA'.out SA.out.fine (HT.out.old OC.out) (HP.out.old OC.out) (SA.out.canon LA.out))
  unfold strE at CA
  rw [hX.out] at CA
  have SS := hide (SA.out.sorted LA.out)
  have HXL := hide (show parseV X.data.toList = .ok j30.sort by rw [← hX.out, out_list]; exact SS.out.back)
  have hXs : X.size ≤ 1000000 := by rw [← hX.out, out_size]; exact SS.out.len
  have HSB := hide (show BB = false → same = false from fun hb => by
    cases same with
    | false => rfl
    | true =>
      have e := HSM.out rfl
      have h1 := hBB.out
      rw [e, sort_twice SA.out.may, hb] at h1
      simp at h1)
  go_wp2_with fail
  refine CA.out.mono ?_
  rintro e w4 ⟨rfl, o4⟩
  have O4 := hide (Old.trans OC.out o4)
  have NA4 := hide (NA'.out.old o4)
  have NK4 := hide (NK.out.old o4)
  have CB := hide (canon_run 5 _ t _ 0 w4 NK4.out SK.out.fine (HT.out.old O4.out) (HP.out.old O4.out) (SK.out.canon LK.out))
  unfold strE at CB
  rw [hY.out] at CB
  clear o4 CA
  go_wp2_with fail
  refine CB.out.mono ?_
  rintro e w5 ⟨rfl, o5⟩
  have O5 := hide (Old.trans O4.out o5)
  have NA5 := hide (NA4.out.old o5)
  have NK5 := hide (NK4.out.old o5)
  clear o5 CB
  go_wp2_with fail
  refine (parse_ok X j30.sort w5 (by omega) HXL.out (HE.out.old O5.out) (HT.out.old O5.out)).mono ?_
  rintro e w6 ⟨⟨v6, rfl, n6⟩, o6⟩
  have O6 := hide (Old.trans O5.out o6)
  have NA6 := hide (NA5.out.old o6)
  have NK6 := hide (NK5.out.old o6)
  have NX6 := hide (SlT.sl n6)
  have CS := hide ((same_run v30 _ t30 t w6 NA6.out NK6.out SA.out.fine.texts SK.out.fine.texts (HT.out.old O6.out)).mono fun e w' (h : ∃ B, SameT t30 t B ∧ e = .returned (.bool B) ∧ Old w6 w') => (show e = .returned (.bool BB) ∧ Old w6 w' from by
    obtain ⟨B, hB, he, ho⟩ := h
    have := canon_same SA.out LA.out SK.out LK.out hB
    rw [hBB.out] at this
    rw [he, this]
    exact ⟨rfl, ho⟩))
  have CX := hide (fun (w' : World) (o : Old w6 w') => (same_run v6 v30 j30.sort.flat t30 w' (NX6.out.old o) (NA6.out.old o) SS.out.fine.texts SA.out.fine.texts (HT.out.old (Old.trans O6.out o))).mono fun e w'' (h : ∃ B, SameT j30.sort.flat t30 B ∧ e = .returned (.bool B) ∧ Old w' w'') => (show e = .returned (.bool true) ∧ Old w' w'' from by
    obtain ⟨B, hB, he, ho⟩ := h
    have := hB.known SS.out.may SA.out.may
    rw [sort_twice SA.out.may, same_self] at this
    rw [he, this]
    exact ⟨rfl, ho⟩))
  have CT := hide (fun (w' : World) (o : Old w6 w') => (sorted_run v30 t30 w' (NA6.out.old o) SA.out.fine.texts (HT.out.old (Old.trans O6.out o))).mono fun e w'' (h : ∃ ps, SortedT t30 ps ∧ NewNodes w' ps e w'') => (show ∃ v, e = .returned v ∧ NodesIs w'' v j30.sort.flat ∧ Old w' w'' from by
    obtain ⟨ps, hps, v4, he, n4, o4⟩ := h
    obtain ⟨j', hj', e2⟩ := hps.good (chkT_may SA.out.may)
    have ej : j' = j30 := flat_inj (hj'.1.2.2.symm.trans SA.out.flat)
    subst ej
    rw [e2] at n4
    exact ⟨v4, he, SlT.sl n4, o4⟩))
  clear n6 o6
  cases BB with
  | true =>
    go_wp2_with fail
    refine CS.out.mono ?_
    rintro e w7 ⟨rfl, o7⟩
    have O7 := hide o7
    clear o7
    go_wp2_with fail
    refine (CX.out w7 O7.out).mono ?_
    rintro e w8 ⟨rfl, o8⟩
    have O8 := hide (Old.trans O7.out o8)
    clear o8
    go_wp2_with fail
    refine (CT.out w8 O8.out).mono ?_
    rintro e w9 ⟨v9, rfl, n9, o9⟩
    have O9 := hide (Old.trans O8.out o9)
    have CE := hide (law_eq v6 v9 j30.sort.flat j30.sort.flat w9 (NX6.out.old O9.out) n9)
    rw [same_self] at CE
    clear n9 o9
    go_wp2_with fail
    refine CE.out.mono ?_
    rintro e w10 ⟨rfl, o10⟩
    have O10 := hide (Old.trans O6.out (Old.trans O9.out o10))
    clear o10
    go_wp2_with fail
    refine (CWK.out _ O10.out).mono ?_
    rintro e w11 ⟨rfl, o11⟩
    have O11 := hide (Old.trans O10.out o11)
    clear o11
    go_wp2_with fail
    go_ret
    exact ⟨rfl, O11.out⟩
  | false =>
    have hs0 := HSB.out rfl
    subst hs0
    go_wp2_with fail
    refine CS.out.mono ?_
    rintro e w7 ⟨rfl, o7⟩
    have O7 := hide o7
    clear o7
    go_wp2_with fail
    refine (CX.out w7 O7.out).mono ?_
    rintro e w8 ⟨rfl, o8⟩
    have O8 := hide (Old.trans O7.out o8)
    clear o8
    go_wp2_with fail
    refine (CT.out w8 O8.out).mono ?_
    rintro e w9 ⟨v9, rfl, n9, o9⟩
    have O9 := hide (Old.trans O8.out o9)
    have CE := hide (law_eq v6 v9 j30.sort.flat j30.sort.flat w9 (NX6.out.old O9.out) n9)
    rw [same_self] at CE
    clear n9 o9
    go_wp2_with fail
    refine CE.out.mono ?_
    rintro e w10 ⟨rfl, o10⟩
    have O10 := hide (Old.trans O6.out (Old.trans O9.out o10))
    clear o10
    go_wp2_with fail
    refine (CWK.out _ O10.out).mono ?_
    rintro e w11 ⟨rfl, o11⟩
    have O11 := hide (Old.trans O10.out o11)
    clear o11
    go_wp2_with fail
    go_ret
    exact ⟨rfl, O11.out⟩
end Go.Proofs.YtmolmphbhdbcaaaGreatDoor
