/- TapeDeep: a list around a value is one deeper, and has one node more. -/
import Derived.Test.YtkefhhnbkhijgaaDoorDrawn
import Derived.Test.YtkefhhnbkhijgaaDoorExam
namespace Go.Proofs.YtkefhhnbkhijgaaDoor
open Go.RowKit

/-- a list, an object, around a value -/
def inList (j : J) : J := .mk ⟨6, none_, 0, none_⟩ [j]
def inObj (k : ByteArray) (j : J) : J := .mk ⟨7, none_, 0, none_⟩ [j.rekey k]
theorem one_all {t : List Nd} {j : J} (h : May t j) : AllMay [t] [j] := by
  refine ⟨rfl, fun i h1 h2 => ?_⟩
  have : i = 0 := by simpa using h1
  subst this
  exact h
theorem one_flats (j : J) : J.flats [j] = j.flat := by simp [J.flats]
theorem list_in {t : List Nd} {j : J} (h : May t j) (hd : j.deep < 64) (hl : t.length < 4000) : ListT [t] (inList j).flat 0 := by
  have e := h.1.2.2
  refine .inr ⟨_, one_all h, .inr (.inr ⟨?_, by simp only [J.deeps]; omega, rfl, rfl⟩)⟩
  rw [one_flats, ← e]; omega
theorem list_out {t : List Nd} {j : J} (h : May t j) (hd : j.deep = 64) (hl : t.length < 4000) : ListT [t] [] 72 := by
  have e := h.1.2.2
  refine .inr ⟨_, one_all h, .inr (.inl ⟨?_, by simp only [J.deeps]; omega, rfl, rfl⟩)⟩
  rw [one_flats, ← e]; omega
theorem obj_err {k : ByteArray} {t : List Nd} {j : J} (h : May t j) (hk : vU k = true) : ∀ i, i < [t].length → objErr [k] [t] i = 0 := by
  intro i hi
  have : i = 0 := by simpa using hi
  subst this
  rw [objErr_chk (ks := [k]) (pl := [t]) (i := 0) (by simp) (by simp) (by simpa using hk) (by rw [hasKey_not]; simp)]
  exact chkT_may h
theorem obj_in {k : ByteArray} {t : List Nd} {j : J} (h : May t j) (hk : vU k = true) (hd : j.deep < 64) (hl : t.length < 4000) : ObjT [k] [t] (inObj k j).flat 0 := by
  have e := h.1.2.2
  refine .inr ⟨rfl, .inr ⟨obj_err h hk, _, one_all h, .inr (.inr ⟨?_, ?_, rfl, rfl⟩)⟩⟩
  · rw [rekeys_flats rfl, one_flats, ← e]; omega
  · rw [rekeys_deeps _ _ rfl]; simp only [J.deeps]; omega
theorem obj_out {k : ByteArray} {t : List Nd} {j : J} (h : May t j) (hk : vU k = true) (hd : j.deep = 64) (hl : t.length < 4000) : ObjT [k] [t] [] 72 := by
  have e := h.1.2.2
  refine .inr ⟨rfl, .inr ⟨obj_err h hk, _, one_all h, .inr (.inl ⟨?_, ?_, rfl, rfl⟩)⟩⟩
  · rw [rekeys_flats rfl, one_flats, ← e]; omega
  · rw [rekeys_deeps _ _ rfl]; simp only [J.deeps]; omega
theorem inList_may {t : List Nd} {j : J} (h : May t j) (hd : j.deep < 64) (hl : t.length < 4000) : May (inList j).flat (inList j) := by
  have e := h.1.2.2
  have h2 : J.Oks vU [j] := allMay_oks (one_all h)
  have h3 := allMay_keys (one_all h)
  refine ⟨⟨?_, rfl, rfl⟩, ?_, ?_⟩
  · unfold inList
    simp only [J.Ok]
    exact .inr (.inl ⟨by trivial, ⟨rfl, rfl⟩, h2, h3⟩)
  · rw [inList, flat_mk, List.length_cons, one_flats, ← e]; omega
  · simp only [inList, J.deep, J.deeps]; omega
theorem inObj_may {k : ByteArray} {t : List Nd} {j : J} (h : May t j) (hk : vU k = true) (hd : j.deep < 64) (hl : t.length < 4000) : May (inObj k j).flat (inObj k j) := by
  have e := h.1.2.2
  have h2 : J.Oks vU (rekeys [k] [j]) := rekeys_oks (allMay_oks (one_all h))
  refine ⟨⟨?_, rfl, rfl⟩, ?_, ?_⟩
  · unfold inObj
    simp only [J.Ok]
    refine .inr (.inr ⟨by trivial, ⟨rfl, rfl⟩, h2, ?_⟩)
    simp [rekey_key, keysOk, hk]
  · rw [inObj, flat_mk, List.length_cons, one_flats, rekey_size, ← e]; omega
  · simp only [inObj, J.deep, J.deeps, rekey_deep]; omega
theorem inList_len {t : List Nd} {j : J} (h : May t j) : (inList j).flat.length = t.length + 1 := by
  rw [inList, flat_mk, List.length_cons, one_flats, ← h.1.2.2]
theorem inObj_len {k : ByteArray} {t : List Nd} {j : J} (h : May t j) : (inObj k j).flat.length = t.length + 1 := by
  rw [inObj, flat_mk, List.length_cons, one_flats, rekey_size, ← h.1.2.2]
theorem inList_deep (j : J) : (inList j).deep = j.deep + 1 := by simp only [inList, J.deep, J.deeps]; omega
theorem inObj_deep (k : ByteArray) (j : J) : (inObj k j).deep = j.deep + 1 := by simp only [inObj, J.deep, J.deeps, rekey_deep]; omega
theorem inList_texts {t : List Nd} {j : J} (h : May t j) (hx : TextsOk t) : TextsOk (inList j).flat :=
  texts_root (texts_flats (allMay_texts (one_all h) (by simpa using hx)))
theorem inObj_texts {k : ByteArray} {t : List Nd} {j : J} (h : May t j) (hk : k.size ≤ maxLen) (hx : TextsOk t) : TextsOk (inObj k j).flat :=
  texts_root (texts_rekeys (ks := [k]) (js := [j]) (by simpa using hk) (allMay_texts (one_all h) (by simpa using hx)))
theorem may_pos {t : List Nd} {j : J} (h : May t j) : 0 < t.length := by rw [h.1.2.2]; exact flat_pos j
/-- Deep of a value that may be -/
theorem deep_may {v : Value} {t : List Nd} {j : J} {w : World} (ht : NodesIs w v t) (h : May t j) (hx : TextsOk t) (hT : Tabs w) {d : Int} (hd : (j.deep : Int) = d) :
    Calls Tryd.prog 35 #[v] w fun e w' => e = .returned (.int .i64 d) ∧ Old w w' := by
  subst hd
  have := deep_run v t w ht hx hT
  rwa [deepT_may h] at this
theorem one_parts {w : World} {v : Value} {t : List Nd} (h : NodesIs w v t) : ∀ p ∈ [(v, t)], NodesIs w p.1 p.2 := by
  intro p hp
  simp at hp
  subst hp
  exact h
theorem vU_k : vU ⟨#[107]⟩ = true := by kernel_rfl

set_option maxRecDepth 100000 in
set_option maxHeartbeats 4000000 in
theorem tapeDeep_run (u : Value) (l : List Int) (many : Int) (w : World) (h : NumsIs w u l) (hT : Tabs w) (WK : WorksOk) :
    Calls Tryd.prog 5 #[.agg #[u], .int .i64 many] w fun e w' => e = .returned (.bool true) ∧ Old w w' := by
  have HT := hide hT
  have CD := hide (fun w' (o : Old w w') => drawn_run u l w' (h.old o) (hT.old o))
  have CB := hide (fun w' => bring_run many 71 w' (by omega) (by omega))
  clear h hT
  go_enter Tryd.func5, Tryd.ntmps5
  go_wp2_with fail
  refine (CD.out _ (Old.alloc (Old.refl _) _)).mono ?_
  rintro e w1 ⟨v1, t0, j0, rfl, n1, m1, x1, d1, l1, o1⟩
  obtain ⟨n0, hn0⟩ : ∃ n, Hid (t0.length = n) := ⟨_, hide rfl⟩
  obtain ⟨A1, c1, rfl, q1, r1⟩ := nodes_form n1 hn0.out
  unfold maxLen at r1
  have p0 : 0 < n0 := by rw [← hn0.out]; exact may_pos m1
  have p1 : n0 ≤ 301 := by rw [← hn0.out]; exact l1
  have N1 := hide (SlT.sl n1)
  have M1 := hide m1
  have X1 := hide x1
  have O1 := hide (Old.trans (Old.alloc (Old.refl _) _) o1)
  clear n1 m1 x1 o1 d1 l1 CD
  go_wp2_with fail
  refine (CB.out _).mono ?_
  rintro e w2 ⟨⟨k0, hk0, rfl⟩, rfl⟩
  go_wp2_with fail
  go_loopw [5, 7] (fun tv i wr => ∃ (A : Option Addr) (c n k : Nat) (t : List Nd) (j : J), tv = .slice A n c ∧ i = .int .i64 k ∧ k ≤ 70 ∧ n ≤ c ∧ c ≤ 2 ^ 63 - 1 ∧ n + k ≤ 371 ∧ 0 < n ∧ Hid (t.length = n) ∧ Hid (NodesIs wr (.slice A n c) t) ∧ Hid (May t j) ∧ Hid (TextsOk t) ∧ Hid (Old w wr)) (fun _ i _ => (intOf i).toNat)
  case atStart => exact ⟨A1, c1, n0, k0, t0, j0, rfl, rfl, by omega, q1, r1, by omega, p0, hn0, N1, M1, X1, O1⟩
  case round =>
    obtain ⟨A, c, n, k, t, j, rfl, rfl, hk, hnc, hcm, hnk, hn, hl, HN, HM, HX, HO⟩ := hrel
    have HTR := hide (HT.out.old HO.out)
    have hlt : t.length < 4000 := by rw [hl.out]; omega
    obtain ⟨d, hd⟩ : ∃ d, Hid (j.deep = d) := ⟨_, hide rfl⟩
    have hd64 : d ≤ 64 := by rw [← hd.out]; exact HM.out.2.2
    have CDT := hide (fun w' (o : Old wr w') => deep_may (d := (d : Int)) (HN.out.old o) HM.out HX.out (HTR.out.old o) (by rw [hd.out]))
    rcases Nat.eq_zero_or_pos k with h0 | h0
    · subst h0
      have CW := hide (WK wr HTR.out)
      go_wp2_with fail
      refine CW.out.mono ?_
      rintro e w9 ⟨rfl, o9⟩
      have O9 := hide (Old.trans HO.out o9)
      go_wp2_with fail
      go_ret
      exact ⟨rfl, O9.out⟩
    · rcases Nat.lt_or_ge d 64 with hlt64 | hge
      · have hd6 : j.deep < 64 := by rw [hd.out]; exact hlt64
        have hu := inList_may HM.out hd6 hlt
        have ho := inObj_may (k := ⟨#[107]⟩) HM.out vU_k hd6 hlt
        have LT := hide (list_in HM.out hd6 hlt)
        have OT := hide (obj_in (k := ⟨#[107]⟩) HM.out vU_k hd6 hlt)
        have HX1 := hide (show ∀ p ∈ [t], TextsOk p by simpa using HX.out)
        have UX := hide (inList_texts HM.out HX.out)
        have OX := hide (inObj_texts (k := ⟨#[107]⟩) HM.out (by decide) HX.out)
        obtain ⟨D, hD⟩ : ∃ D, Hid (d + 1 = D) := ⟨_, hide rfl⟩
        obtain ⟨N, hN⟩ : ∃ N, Hid (n + 1 = N) := ⟨_, hide rfl⟩
        have UD := hide (show ((inList j).deep : Int) = (D : Int) by rw [inList_deep, hd.out, hD.out])
        have OD := hide (show ((inObj ⟨#[107]⟩ j).deep : Int) = (D : Int) by rw [inObj_deep, hd.out, hD.out])
        have UL := hide (show (inList j).flat.length = N by rw [inList_len HM.out, hl.out, hN.out])
        have OL := hide (show (inObj ⟨#[107]⟩ j).flat.length = N by rw [inObj_len HM.out, hl.out, hN.out])
        obtain ⟨U, hU⟩ : ∃ U, Hid ((inList j).flat = U) := ⟨_, hide rfl⟩
        obtain ⟨O, hO⟩ : ∃ U, Hid ((inObj ⟨#[107]⟩ j).flat = U) := ⟨_, hide rfl⟩
        rw [hU.out] at hu LT UX UL
        rw [hO.out] at ho OT OX OL
        have UM := hide hu
        have OM := hide ho
        have hwd : IntKind.i64.wrap ((d : Int) + 1) = (D : Int) := by rw [← hD.out]; exact (IntWalk.i64_in _ (by omega)).trans (by simp)
        have hwn : IntKind.i64.wrap ((n : Int) + 1) = (N : Int) := by rw [← hN.out]; exact (IntWalk.i64_in _ (by omega)).trans (by simp)
        have hwk : IntKind.i64.wrap ((k : Int) - 1) = ((k - 1 : Nat) : Int) := (IntWalk.i64_in _ (by omega)).trans (by omega)
        have hd4 : ((d : Int) == 64) = false := beq_eq_false_iff_ne.2 (by omega)
        have hkp : (k : Int) > 0 := by omega
        clear hd6 hlt hu ho
        go_wp2_with fail
        refine (list_run _ [t] U 0 _ (parts_lit _ [((.slice A n c), t)] _ rfl (one_parts (HN.out))) HX1.out (HTR.out.old (Old.alloc (Old.refl _) _)) LT.out).mono ?_
        rintro e w3 ⟨v3, rfl, n3, o3⟩
        obtain ⟨A3, c3, rfl, q3, r3⟩ := nodes_form n3 UL.out
        unfold maxLen at r3
        have O3 := hide (Old.trans (Old.alloc (Old.refl _) _) o3)
        have N3 := hide (SlT.sl n3)
        clear n3 o3
        go_wp2_with fail
        refine (obj_run _ _ [⟨#[107]⟩] [t] O 0 _ (Sl.old (texts_lit _ [⟨#[107]⟩] _ rfl) (Old.alloc (Old.refl _) _)) (by decide) (parts_lit _ [((.slice A n c), t)] _ (heap_next _ _) (one_parts (HN.out.old (Old.trans O3.out (Old.alloc (Old.refl _) _))))) HX1.out (HTR.out.old (Old.trans O3.out (Old.alloc (Old.alloc (Old.refl _) _) _))) OT.out).mono ?_
        rintro e w4 ⟨v4, rfl, n4, o4⟩
        obtain ⟨A4, c4, rfl, q4, r4⟩ := nodes_form n4 OL.out
        unfold maxLen at r4
        have T4 := Old.trans (Old.alloc (Old.alloc (Old.refl _) _) _) o4
        have O4 := hide (Old.trans O3.out T4)
        have N4 := hide (N3.out.old T4)
        have K4 := hide (SlT.sl n4)
        clear n4 o4 T4 N3
        have CDU := hide (fun w' (o : Old w4 w') => deep_may (d := (D : Int)) (N4.out.old o) UM.out UX.out ((HTR.out.old O4.out).old o) UD.out)
        have CDO := hide (fun w' (o : Old w4 w') => deep_may (d := (D : Int)) (K4.out.old o) OM.out OX.out ((HTR.out.old O4.out).old o) OD.out)
        go_wp2_with fail
        refine (CDT.out _ O4.out).mono ?_
        rintro e w5 ⟨rfl, o5⟩
        have P5 := hide o5
        clear o5
        go_wp2_with fail
        refine (CDU.out _ P5.out).mono ?_
        rintro e w6 ⟨rfl, o6⟩
        have P6 := hide (Old.trans P5.out o6)
        clear o6
        go_wp2_with fail
        refine (CDT.out _ (Old.trans O4.out P6.out)).mono ?_
        rintro e w7 ⟨rfl, o7⟩
        have P7 := hide (Old.trans P6.out o7)
        clear o7
        go_wp2_with fail
        refine (CDO.out _ P7.out).mono ?_
        rintro e w8 ⟨rfl, o8⟩
        have P8 := hide (Old.trans P7.out o8)
        clear o8
        go_wp2_with fail
        refine (CDU.out _ P8.out).mono ?_
        rintro e w9 ⟨rfl, o9⟩
        have P9 := hide (Old.trans P8.out o9)
        have N9 := hide (N4.out.old P9.out)
        have O9 := hide (Old.trans HO.out (Old.trans O4.out P9.out))
        clear o9
        go_wp2_with fail
        go_roundw
        case rel => exact ⟨A3, c3, N, k - 1, U, inList j, rfl, by first | rfl | rw [hwk], by omega, q3, r3, by have := hN.out; omega, by have := hN.out; omega, UL, N9, UM, UX, O9⟩
        case measure => simp [intOf]; omega
      · have hd6 : j.deep = 64 := by rw [hd.out]; omega
        obtain rfl : d = 64 := by omega
        have LT := hide (list_out HM.out hd6 hlt)
        have OT := hide (obj_out (k := ⟨#[107]⟩) HM.out vU_k hd6 hlt)
        have hX1 : ∀ p ∈ [t], TextsOk p := by simpa using HX.out
        have HX1 := hide hX1
        clear hX1 hd6 hlt
        go_wp2_with fail
        refine (list_run _ [t] [] 72 _ (parts_lit _ [((.slice A n c), t)] _ rfl (one_parts (HN.out))) HX1.out (HTR.out.old (Old.alloc (Old.refl _) _)) LT.out).mono ?_
        rintro e w3 ⟨v3, rfl, n3, o3⟩
        obtain ⟨A3, c3, rfl, q3, r3⟩ := nodes_form (m := 0) n3 rfl
        unfold maxLen at r3
        have O3 := hide (Old.trans (Old.alloc (Old.refl _) _) o3)
        clear n3 o3
        go_wp2_with fail
        refine (obj_run _ _ [⟨#[107]⟩] [t] [] 72 _ (Sl.old (texts_lit _ [⟨#[107]⟩] _ rfl) (Old.alloc (Old.refl _) _)) (by decide) (parts_lit _ [((.slice A n c), t)] _ (heap_next _ _) (one_parts (HN.out.old (Old.trans O3.out (Old.alloc (Old.refl _) _))))) HX1.out (HTR.out.old (Old.trans O3.out (Old.alloc (Old.alloc (Old.refl _) _) _))) OT.out).mono ?_
        rintro e w4 ⟨v4, rfl, n4, o4⟩
        obtain ⟨A4, c4, rfl, q4, r4⟩ := nodes_form (m := 0) n4 rfl
        unfold maxLen at r4
        have O4 := hide (Old.trans O3.out (Old.trans (Old.alloc (Old.alloc (Old.refl _) _) _) o4))
        clear n4 o4
        go_wp2_with fail
        refine (CDT.out _ O4.out).mono ?_
        rintro e w5 ⟨rfl, o5⟩
        have O5 := hide (Old.trans O4.out o5)
        clear o5
        go_wp2_with fail
        refine (WK _ (HTR.out.old O5.out)).mono ?_
        rintro e w6 ⟨rfl, o6⟩
        have O6 := hide (Old.trans HO.out (Old.trans O5.out o6))
        clear o6
        go_wp2_with fail
        go_ret
        exact ⟨rfl, O6.out⟩
end Go.Proofs.YtkefhhnbkhijgaaDoor
