/- TapeApart: what was put together is taken apart as it was. -/
import Derived.Test.YtkefhhnbkhijgaaDoorDrawn
import Derived.Test.YtkefhhnbkhijgaaDoorApartL
import Derived.Test.YtkefhhnbkhijgaaDoorOpenS
import Derived.Test.YtkefhhnbkhijgaaDoorExam
import Derived.Deep.RegionHeld3
namespace Go.Proofs.YtkefhhnbkhijgaaDoor
open Go.RowKit

def abs6 : List ByteArray := [letterAt 0, letterAt 1, letterAt 2, letterAt 3, letterAt 4, letterAt 5]
theorem abs6_all : (abs6.all fun s => vU s && decide (s.size ≤ 1)) = true := by kernel_rfl
theorem abs6_keys : KeysA abs6 where
  valid s hs := by have := List.all_eq_true.1 abs6_all s hs; simp at this; exact this.1
  nodup := by decide
  size s hs := by have := List.all_eq_true.1 abs6_all s hs; simp at this; unfold maxLen; omega
theorem KeysA.take {ks : List ByteArray} (h : KeysA ks) (k : Nat) : KeysA (ks.take k) where
  valid s hs := h.valid s (List.mem_of_mem_take hs)
  nodup := h.nodup.sublist (List.take_sublist _ _)
  size s hs := h.size s (List.mem_of_mem_take hs)
theorem abs6_len : abs6.length = 6 := rfl
theorem abs6_cut {i : Nat} (h : i < 6) : (⟨#[97, 98, 99, 100, 101, 102]⟩ : ByteArray).extract i (i + 1) = letterAt i := by
  have h5 : i = 0 ∨ i = 1 ∨ i = 2 ∨ i = 3 ∨ i = 4 ∨ i = 5 := by omega
  rcases h5 with rfl | rfl | rfl | rfl | rfl | rfl <;> rfl
theorem abs6_next {i : Nat} (h : i < 6) : abs6.take (i + 1) = abs6.take i ++ [letterAt i] := by
  have h5 : i = 0 ∨ i = 1 ∨ i = 2 ∨ i = 3 ∨ i = 4 ∨ i = 5 := by omega
  rcases h5 with rfl | rfl | rfl | rfl | rfl | rfl <;> rfl
/-- a seed's cell -/
theorem SeedsIs.at_ {w : World} {L : List (Value × List Int)} {A : Option Addr} {n c : Nat} (h : SeedsIs w (.slice A n c) L) {k : Nat} {p : Value × List Int} (hk : L[k]? = some p) : ∃ b off, A = some ⟨b, off, none⟩ ∧ w.cell? ⟨b, off + k, none⟩ = some p.1 ∧ NumsIs w p.1 p.2 := by
  obtain ⟨hkl, hks⟩ := List.getElem?_eq_some_iff.1 hk
  obtain ⟨⟨A2, cap, he, h1, h2, h3⟩, h4⟩ := h
  injection he with e1 e2 e3
  subst e1 e2 e3
  obtain ⟨b, off, rfl, hc⟩ := h3 (by intro e; simp at e; subst e; simp at hkl)
  exact ⟨b, off, rfl, hc k p.1 (by simp [hk]), h4 p (List.mem_of_getElem? hk)⟩
theorem SeedsIs.form {w : World} {v : Value} {L : List (Value × List Int)} (h : SeedsIs w v L) : ∃ A c, v = .slice A L.length c ∧ L.length ≤ c ∧ c ≤ maxLen := by
  obtain ⟨⟨A2, cap, he, h1, h2, h3⟩, h4⟩ := h
  exact ⟨A2, cap, he, h1, h2⟩

theorem text_form {base m : Nat} {w : World} {v : Value} {l : List ByteArray} (h : TextsOwn base w v l) (hm : l.length = m) : ∃ A cap, v = .slice A m cap ∧ m ≤ cap ∧ cap ≤ maxLen := by
  obtain ⟨A, cap, rfl, h1, h2, _⟩ := SlT.of_own h
  exact ⟨A, cap, by rw [hm], by omega, h2⟩
/-- texts of which the first are cut short -/
def cutTo (l : List ByteArray) (k : Nat) : List ByteArray := (l.take k).map (cutN 40) ++ l.drop k
theorem part_form {base : Nat} {w : World} {v : Value} {ps : List (List Nd)} {m : Nat} (h : PartsOwn base w v ps) (hm : ps.length = m) : ∃ A cap, v = .slice A m cap ∧ m ≤ cap ∧ cap ≤ maxLen := by
  obtain ⟨vs, _, h2, _⟩ := h
  obtain ⟨A, cap, rfl, h1, h2, _⟩ := SlT.of_own h2
  exact ⟨A, cap, by rw [hm], by omega, h2⟩
theorem part_cell {w : World} {A : Option Addr} {n c : Nat} {ps : List (List Nd)} (h : PartsIs w (.slice A n c) ps) {k : Nat} {p : List Nd} (hk : ps[k]? = some p) : ∃ b off A' c', A = some ⟨b, off, none⟩ ∧ w.cell? ⟨b, off + k, none⟩ = some (.slice A' p.length c') ∧ NodesIs w (.slice A' p.length c') p := by
  obtain ⟨hkl, hks⟩ := List.getElem?_eq_some_iff.1 hk
  obtain ⟨A2, cap, he, h1, h2, h3⟩ := h.open_
  injection he with e1 e2 e3
  subst e1 e2 e3
  obtain ⟨b, off, rfl, hc⟩ := h3.resolve_left (by omega)
  obtain ⟨A', c', g1, _, _, g2⟩ := hc k hkl
  rw [hks] at g1 g2
  exact ⟨b, off, A', c', rfl, g1, g2⟩

set_option maxRecDepth 100000 in
set_option maxHeartbeats 4000000 in
theorem tapeApart_run (v : Value) (l : List (Value × List Int)) (w : World) (h : SeedsIs w v l) (hT : Tabs w) (WK : WorksOk) :
    Calls Tryd.prog 4 #[v] w fun e w' => e = .returned (.bool true) ∧ Old w w' := by
  have HT := hide hT
  have HS := hide h
  obtain ⟨A, c, rfl, hlc, hcm⟩ := h.form
  unfold maxLen at hcm
  obtain ⟨L, hL⟩ : ∃ L, Hid (l.length = L) := ⟨_, hide rfl⟩
  rw [hL.out] at HS hlc ⊢
  have CW := hide (WK w hT)
  have CD := hide (fun (p : Value × List Int) w' (o : Old w w') (hp : NumsIs w p.1 p.2) => drawn_run p.1 p.2 w' (hp.old o) (HT.out.old o))
  clear h hT
  go_enter Tryd.func4, Tryd.ntmps4
  go_wp2_with fail
  refine CW.out.mono ?_
  rintro e w1 ⟨rfl, o1⟩
  have O1 := hide o1
  clear o1
  go_upto_block 0 with fail
  go_cut [3, 4, 5] (fun pv kv nv wc => ∃ (A3 A4 : Option Addr) (c3 c4 m Z : Nat) (pl : List (List Nd)) (js : List J), pv = .slice A3 m c3 ∧ kv = .slice A4 m c4 ∧ nv = .int .i64 Z ∧ m ≤ c3 ∧ c3 ≤ 2 ^ 63 - 1 ∧ m ≤ c4 ∧ c4 ≤ 2 ^ 63 - 1 ∧ m ≤ 6 ∧ Z ≤ 1807 ∧ Hid (pl.length = m) ∧ Hid (KidsA pl js 7 (301 * m)) ∧ Hid (Z = (J.flats js).length + 1) ∧ Hid (PartsIs wc (.slice A3 m c3) pl) ∧ Hid (TextsIs wc (.slice A4 m c4) (abs6.take m)) ∧ Hid (Old w wc))
  case first =>
    go_wp2_with fail
    go_loopw [3, 4, 5, 6] (fun pv kv nv i wr => ∃ (k Z : Nat) (pl : List (List Nd)) (js : List J), i = .int .i64 k ∧ nv = .int .i64 Z ∧ k ≤ L ∧ k ≤ 6 ∧ Z ≤ 1 + 301 * k ∧ Hid (pl.length = k) ∧ Hid (KidsA pl js 7 (301 * k)) ∧ Hid (Z = (J.flats js).length + 1) ∧ Hid (PartsOwn w.heap.size wr pv pl) ∧ Hid (TextsOwn w.heap.size wr kv (abs6.take k)) ∧ Hid (Old w wr)) (fun _ _ _ i _ => L - (intOf i).toNat)
    case atStart => exact ⟨0, 1, [], [], rfl, rfl, by omega, by omega, by omega, hide rfl, hide (KidsA.nil 7), hide rfl, hide (PartsOwn.nil_ _ _), hide (own_nil _ _ _ _), O1⟩
    case round =>
      obtain ⟨k, Z, pl, js, rfl, rfl, hk, hk6, hZ, hpl, HK, HZ, HPO, HTO, HO⟩ := hrel
      have FIN := hide (show ∃ (A3 A4 : Option Addr) (c3 c4 m Z' : Nat) (pl : List (List Nd)) (js : List J), u3 = .slice A3 m c3 ∧ u4 = .slice A4 m c4 ∧ (Value.int .i64 Z) = .int .i64 Z' ∧ m ≤ c3 ∧ c3 ≤ 2 ^ 63 - 1 ∧ m ≤ c4 ∧ c4 ≤ 2 ^ 63 - 1 ∧ m ≤ 6 ∧ Z' ≤ 1807 ∧ Hid (pl.length = m) ∧ Hid (KidsA pl js 7 (301 * m)) ∧ Hid (Z' = (J.flats js).length + 1) ∧ Hid (PartsIs wr (.slice A3 m c3) pl) ∧ Hid (TextsIs wr (.slice A4 m c4) (abs6.take m)) ∧ Hid (Old w wr) from by
        obtain ⟨A3, c3, rfl, a1, a2⟩ := part_form HPO.out hpl.out
        obtain ⟨A4, c4, rfl, b1, b2⟩ := text_form HTO.out (show (abs6.take k).length = k by simp [abs6_len]; omega)
        exact ⟨A3, A4, c3, c4, k, Z, pl, js, rfl, rfl, rfl, a1, a2, b1, b2, hk6, by omega, hpl, HK, HZ, hide HPO.out.is, hide (TextsOwn.is HTO.out), HO⟩)
      by_cases hlt : k < L
      · by_cases h6 : k < 6
        · have hkl : k < l.length := by rw [hL.out]; exact hlt
          obtain ⟨b0, f0, rfl, z0, z1⟩ := SeedsIs.at_ HS.out (List.getElem?_eq_getElem hkl)
          obtain ⟨⟨u, N⟩, hu⟩ : ∃ p, Hid (l[k] = p) := ⟨_, hide rfl⟩
          rw [hu.out] at z0 z1
          have e0 := HO.out.cell z0
          have CDD := hide (CD.out (u, N) wr HO.out z1)
          have hcut := abs6_cut h6
          have hwk : IntKind.i64.wrap ((k : Int) + 1) = (k : Int) + 1 := IntWalk.i64_in _ (by omega)
          have hl1 : pl.length + 1 ≤ 4194304 := by rw [hpl.out]; omega
          have hl2 : (abs6.take k).length + 1 ≤ 4194304 := by simp [abs6_len]; omega
          have hpk := hide hpl.out
          clear z0 z1
          go_wp2_with fail
          refine CDD.out.mono ?_
          rintro e w6 ⟨v6, t, j, rfl, n6, m6, x6, d6, l6, o6⟩
          obtain ⟨M, hM⟩ : ∃ M, Hid (t.length = M) := ⟨_, hide rfl⟩
          have hM3 : M ≤ 301 := by rw [← hM.out]; exact l6
          obtain ⟨A6, c6, rfl, q6, r6⟩ := nodes_form n6 hM.out
          unfold maxLen at r6
          have HK6 := hide (HK.out.next m6 x6 d6 (z' := 301 * (k + 1)) (by omega))
          have HZ6 := hide (show Z + M = (J.flats (js ++ [j])).length + 1 by
            rw [flats_append, flats_one, List.length_append, ← m6.1.2.2, hM.out, HZ.out]; omega)
          have HPL := hide (show (pl ++ [t]).length = k + 1 by simp [hpk.out])
          have hzm : IntKind.i64.wrap ((Z : Int) + (M : Int)) = ((Z + M : Nat) : Int) := (IntWalk.i64_in _ (by omega)).trans (by simp)
          have N6 := hide (SlT.mono (SlT.old n6 (Old.alloc (Old.refl _) (.cells #[.slice A6 M c6] 25))) HO.out.size)
          have OA := hide (Old.trans o6 (Old.alloc (Old.refl _) (.cells #[.slice A6 M c6] 25)))
          have HPO6 := hide (HPO.out.old OA.out)
          have OZA := hide (Old.trans HO.out OA.out)
          clear n6 m6 x6 d6 l6 o6 e0 CDD
          go_upto_region 13 with (at_builtin; refine wpList_plain rfl (fun K hK => ?_); refine step_push_part _ _ _ rfl w.heap.size _ pl rfl HPO6.out _ _ (.slice A6 M c6) t rfl (by go_simp) N6.out hl1 OZA.out.size ?_; intro v7 w7 own7 kept7; refine hK _ _ ?_; clear hK)
          have O7 := hide (kept7.old OZA.out (Nat.le_refl _))
          have P7 := hide own7
          have T7 := hide (Kept.own kept7 (own_old HTO.out OA.out) (by decide))
          clear own7 kept7
          go_upto_region 14 with (at_builtin; refine wpList_plain rfl (fun K hK => ?_); refine step_push_text _ _ _ rfl w.heap.size _ (abs6.take k) rfl (own_old T7.out (Old.alloc (Old.refl _) _)) _ _ (letterAt k) rfl (by go_simp) hl2 (O7.out.alloc _).size ?_; intro v8 w8 own8 kept8; refine hK _ _ ?_; clear hK)
          have O8 := hide (kept8.old (O7.out.alloc _) (Nat.le_refl _))
          have P8 := hide (PartsOwn.kept (P7.out.old (Old.alloc (Old.refl _) _)) kept8 (by decide) (by decide))
          have T8 := hide own8
          clear own8 kept8
          go_wp2_with fail
          go_roundw
          case rel => exact ⟨k + 1, Z + M, pl ++ [t], js ++ [j], by go_num, by first | rfl | rw [hzm], by omega, by omega, by omega, HPL, HK6, HZ6, P8, hide (by rw [abs6_next h6]; exact T8.out), O8⟩
          case measure => simp [intOf]; omega
        · have hk6' : ¬ (k : Int) < 6 := by omega
          go_wp2_with fail
          go_meet
          exact FIN.out
      · go_wp2_with fail
        go_meet
        exact FIN.out
  case rest =>
    obtain ⟨A3, A4, c3, c4, m, Z, pl, js, rfl, rfl, rfl, a1, a2, b1, b2, hm6, hZ, hpl, HK, HZ, HP, HKS, HO⟩ := hcut
    have KA := hide (abs6_keys.take m)
    have hkl : (abs6.take m).length = pl.length := by rw [hpl.out]; simp [abs6_len]; omega
    obtain ⟨ks, hks⟩ : ∃ ks, Hid (abs6.take m = ks) := ⟨_, hide rfl⟩
    rw [hks.out] at HKS KA hkl
    have HKL := hide hkl
    have HZ4 := hide (show 301 * m < 4000 by omega)
    have HTR := hide (HT.out.old HO.out)
    have LM := hide (HK.out.list_may (by omega) HZ4.out)
    have OM := hide (HK.out.obj_may (by omega) HZ4.out hkl KA.out)
    have LT := hide (HK.out.list (by omega) HZ4.out)
    have OT := hide (HK.out.obj (by omega) HZ4.out hkl KA.out)
    have LX := hide HK.out.list_texts
    have OX := hide (HK.out.obj_texts KA.out)
    have LL := hide (show (listOf js).flat.length = Z by rw [list_len, HZ.out])
    have OL := hide (show (objOf ks js).flat.length = Z by rw [HK.out.obj_len hkl, HZ.out])
    have PLI := hide (fun (i : Nat) (hi : i < pl.length) => HK.out.part_list (by omega) HZ4.out hi)
    have POI := hide (fun (i : Nat) (hi : i < pl.length) => HK.out.part_obj (by omega) HZ4.out HKL.out KA.out hi)
    have GOI := hide (fun (i : Nat) (hi : i < pl.length) (hk : i < ks.length) => HK.out.get_obj (by omega) HZ4.out HKL.out KA.out hi hk)
    have KL := hide (show kidsT (listOf js).flat (starts 1 js) from .inl ⟨_, _, LM.out, rfl⟩)
    have KO := hide (show kidsT (objOf ks js).flat (starts 1 js) from .inl ⟨_, _, OM.out, by rw [starts_rekeys _ _ _ (hkl.trans HK.out.may.1)]⟩)
    have SL := hide (show (starts 1 js).length = m by rw [starts_length, ← HK.out.may.1, hpl.out])
    have SA := hide (show ∀ (i : Nat), i < pl.length → (starts 1 js)[i]? = some (0 + 1 + (J.flats (js.take i)).length) from fun i hi => by
      have hj : i < js.length := by rw [← HK.out.may.1]; exact hi
      have := starts_at (a := 0 + 1) (l1 := js.take i) (l2 := js.drop (i + 1)) (j := js[i])
      rw [← List.drop_eq_getElem_cons hj, List.take_append_drop] at this
      rwa [show (js.take i).length = i by simp; omega] at this)
    obtain ⟨U, hU⟩ : ∃ U, Hid ((listOf js).flat = U) := ⟨_, hide rfl⟩
    obtain ⟨O, hO⟩ : ∃ U, Hid ((objOf ks js).flat = U) := ⟨_, hide rfl⟩
    obtain ⟨ST, hST⟩ : ∃ U, Hid (starts 1 js = U) := ⟨_, hide rfl⟩
    rw [hU.out] at LM LT LX LL PLI KL
    rw [hO.out] at OM OT OX OL POI GOI KO
    rw [hST.out] at KL KO SL SA
    have HX := hide HK.out.texts
    have HSZ := hide KA.out.size
    clear hkl
    go_wp2_with fail
    refine (list_run _ pl U 0 _ HP.out HX.out HTR.out LT.out).mono ?_
    rintro e w2 ⟨v2, rfl, n2, o2⟩
    obtain ⟨A5, c5, rfl, q5, r5⟩ := nodes_form n2 LL.out
    unfold maxLen at r5
    have O2 := hide o2
    have N2 := hide (SlT.sl n2)
    clear n2 o2
    go_wp2_with fail
    refine (obj_run _ _ ks pl O 0 _ (HKS.out.old O2.out) HSZ.out (HP.out.old O2.out) HX.out (HTR.out.old O2.out) OT.out).mono ?_
    rintro e w3 ⟨v3, rfl, n3, o3⟩
    obtain ⟨A6, c6, rfl, q6, r6⟩ := nodes_form n3 OL.out
    unfold maxLen at r6
    have O3 := hide (Old.trans O2.out o3)
    have M2 := hide (N2.out.old o3)
    have N3 := hide (SlT.sl n3)
    clear n3 o3 N2
    go_wp2_with fail
    refine (num_as (check_run _ U w3 M2.out LX.out (HTR.out.old O3.out)) (chkT_may LM.out)).mono ?_
    rintro e w4 ⟨rfl, o4⟩
    have O4 := hide (Old.trans O3.out o4)
    have M4 := hide (M2.out.old o4)
    have N4 := hide (N3.out.old o4)
    clear o4 M2 N3
    go_wp2_with fail
    refine (num_as (check_run _ O w4 N4.out OX.out (HTR.out.old O4.out)) (chkT_may OM.out)).mono ?_
    rintro e w5 ⟨rfl, o5⟩
    have O5 := hide (Old.trans O4.out o5)
    have M5 := hide (M4.out.old o5)
    have N5 := hide (N4.out.old o5)
    clear o5 M4 N4
    go_wp2_with fail
    refine (Kids_run _ U ST w5 M5.out LX.out (HTR.out.old O5.out) KL.out).mono ?_
    rintro e w6 ⟨v6, rfl, n6, o6⟩
    obtain ⟨A7, c7, rfl, q7, r7, k7⟩ := ints_cell n6 SL.out
    unfold maxLen at r7
    have O6 := hide (Old.trans O5.out o6)
    have M6 := hide (M5.out.old o6)
    have N6 := hide (N5.out.old o6)
    have I6 := hide (SlT.sl n6)
    have K7 := hide k7
    clear n6 o6 k7 M5 N5
    go_wp2_with fail
    refine (Kids_run _ O ST w6 N6.out OX.out (HTR.out.old O6.out) KO.out).mono ?_
    rintro e w7 ⟨v7, rfl, n7, o7⟩
    obtain ⟨A8, c8, rfl, q8, r8, k8⟩ := ints_cell n7 SL.out
    unfold maxLen at r8
    have O7 := hide (Old.trans O6.out o7)
    have M7 := hide (M6.out.old o7)
    have N7 := hide (N6.out.old o7)
    have I7 := hide (Sl.old I6.out o7)
    have J7 := hide (SlT.sl n7)
    have P7 := hide o7
    have K8 := hide k8
    clear n7 o7 k8 M6 N6
    go_wp2_with fail
    refine (ints_true _ _ ST w7 I7.out J7.out).mono ?_
    rintro e w8 ⟨rfl, o8⟩
    have O8 := hide (Old.trans O7.out o8)
    have M8 := hide (M7.out.old o8)
    have N8 := hide (N7.out.old o8)
    have P8 := hide (Old.trans P7.out o8)
    have R8 := hide o8
    clear o8 M7 N7
    go_wp2_with fail
    go_loopw [15] (fun i wr => ∃ k : Nat, i = .int .i64 k ∧ k ≤ m ∧ Hid (Old w8 wr)) (fun i _ => m - (intOf i).toNat)
    case atStart => exact ⟨0, rfl, by omega, hide (by first | exact Old.refl _ | exact Old.drew (Old.refl _))⟩
    case round =>
      obtain ⟨k, rfl, hk, HR⟩ := hrel
      have OR := hide (Old.trans O8.out HR.out)
      by_cases hlt : k < m
      · have hkP : k < pl.length := by rw [hpl.out]; exact hlt
        have hkK : k < ks.length := by rw [HKL.out]; exact hkP
        obtain ⟨b7, f7, A9, c9, rfl, x7, nn7⟩ := part_cell HP.out (List.getElem?_eq_getElem hkP)
        obtain ⟨P, hP⟩ : ∃ P, Hid (0 + 1 + (J.flats (js.take k)).length = P) := ⟨_, hide rfl⟩
        obtain ⟨t, ht⟩ : ∃ t, Hid (pl[k] = t) := ⟨_, hide rfl⟩
        obtain ⟨s, hs⟩ : ∃ s, Hid (ks[k] = s) := ⟨_, hide rfl⟩
        have sa := SA.out k hkP
        have pli := PLI.out k hkP
        have poi := POI.out k hkP
        have goi := GOI.out k hkP hkK
        rw [hP.out, ht.out] at pli poi
        rw [ht.out, hs.out] at goi
        rw [hP.out] at sa
        rw [ht.out] at x7 nn7
        obtain ⟨bp, fp, rfl, kp⟩ := K7.out.resolve_left (by omega)
        obtain ⟨bq, fq, rfl, kq⟩ := K8.out.resolve_left (by omega)
        obtain ⟨_, _, hke, _, _, hkc⟩ := HKS.out
        injection hke with e1 e2 e3
        subst e1 e3
        clear e2
        obtain ⟨bk, fk, rfl, kc⟩ := hkc (by intro e; have := congrArg List.length e; simp at this; subst this; simp at hkK)
        have ck := kc k (.string s) (by simp [List.getElem?_map, List.getElem?_eq_getElem hkK, hs.out])
        have ck0 := OR.out.cell ck
        have hx7 : ∀ w', Old wr w' → w'.cell? ⟨b7, f7 + k, none⟩ = some (.slice A9 t.length c9) := fun w' h => (Old.trans OR.out h).cell x7
        have hxp : ∀ w', Old wr w' → w'.cell? ⟨bp, fp + k, none⟩ = some (.int .i64 (P : Int)) := fun w' h => (Old.trans (Old.trans P8.out HR.out) h).cell (kp k P sa)
        have hxq : ∀ w', Old wr w' → w'.cell? ⟨bq, fq + k, none⟩ = some (.int .i64 (P : Int)) := fun w' h => (Old.trans (Old.trans R8.out HR.out) h).cell (kq k P sa)
        have CPA := hide (fun w' (h : Old wr w') => part_run _ U (P : Int) t w' (M8.out.old (Old.trans HR.out h)) LX.out (HTR.out.old (Old.trans OR.out h)) pli)
        have CPB := hide (fun w' (h : Old wr w') => part_run _ O (P : Int) t w' (N8.out.old (Old.trans HR.out h)) OX.out (HTR.out.old (Old.trans OR.out h)) poi)
        have CEQ := hide (fun w' (v : Value) (h : Old wr w') (n : NodesIs w' v t) => eq_true v _ t w' n (nn7.old (Old.trans OR.out h)))
        have CG := hide (get_run _ O s t true wr (N8.out.old HR.out) OX.out (HTR.out.old OR.out) goi)
        clear x7 nn7 sa pli poi goi kp kq ck kc hkc hs ht hkK hkP
        go_wp2_with fail
        refine CG.out.mono ?_
        rintro e w9 ⟨v9, rfl, n9, o9⟩
        have N9 := hide (SlT.sl n9)
        have O9 := hide o9
        have hy7 : ∀ w', Old w9 w' → w'.cell? ⟨b7, f7 + k, none⟩ = some (.slice A9 t.length c9) := fun w' h => hx7 w' (Old.trans o9 h)
        have hyp : ∀ w', Old w9 w' → w'.cell? ⟨bp, fp + k, none⟩ = some (.int .i64 (P : Int)) := fun w' h => hxp w' (Old.trans o9 h)
        have hyq : ∀ w', Old w9 w' → w'.cell? ⟨bq, fq + k, none⟩ = some (.int .i64 (P : Int)) := fun w' h => hxq w' (Old.trans o9 h)
        have DPA := hide (fun w' (h : Old w9 w') => CPA.out w' (Old.trans o9 h))
        have DPB := hide (fun w' (h : Old w9 w') => CPB.out w' (Old.trans o9 h))
        have DEQ := hide (fun w' (v : Value) (n : NodesIs w' v t) (h : Old w9 w') => CEQ.out w' v (Old.trans o9 h) n)
        have DEN := hide (fun w' (h : Old w9 w') => CEQ.out w' v9 (Old.trans o9 h) (N9.out.old h))
        clear n9 o9 ck0 CG hx7 hxp hxq CPA CPB CEQ
        go_wp2_with fail
        go_region_held3 (fun w' => Old w9 w')
          (first | assumption | (exact Old.drew (Old.refl _)) | (exact Old.trans (by assumption) (by assumption)))
          (first
            | (go_at_call 33; (with_reducible refine (DPA.out _ (by assumption)).mono ?_); rintro e w30 ⟨v30, rfl, n30, o30⟩)
            | (go_at_call 33; (with_reducible refine (DPB.out _ (by assumption)).mono ?_); rintro e w32 ⟨v32, rfl, n32, o32⟩)
            | (go_at_call 32; (with_reducible refine (DEQ.out _ v30 n30.sl (by assumption)).mono ?_); rintro e w31 ⟨rfl, o31⟩)
            | (go_at_call 32; (with_reducible refine (DEQ.out _ v32 n32.sl (by assumption)).mono ?_); rintro e w33 ⟨rfl, o33⟩)
            | (go_at_call 32; (with_reducible refine (DEN.out _ (by assumption)).mono ?_); rintro e w34 ⟨rfl, o34⟩))
        have OF := hide (Old.trans HR.out (Old.trans O9.out (show Old w9 w34 by assumption)))
        clear hy7 hyp hyq
        go_wp2_with fail
        go_roundw
        case rel => exact ⟨k + 1, by go_num, by omega, OF⟩
        case measure => simp [intOf]; omega
      · have OF := hide (Old.trans HO.out OR.out)
        go_wp2_with fail
        go_ret
        exact ⟨rfl, OF.out⟩
end Go.Proofs.YtkefhhnbkhijgaaDoor
