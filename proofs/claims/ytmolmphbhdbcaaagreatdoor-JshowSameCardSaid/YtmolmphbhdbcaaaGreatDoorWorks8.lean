/- The chapter's examples: what they are, and works. -/
import Derived.Test.YtmolmphbhdbcaaaGreatDoorExam
import Derived.Test.YtmolmphbhdbcaaaGreatDoorShowW
/-! ### The chapter's examples: what they are, and works. -/
namespace Go.Proofs.YtmolmphbhdbcaaaGreatDoor
open Go.RowKit

def srJ : J := .mk ⟨7, none_, 0, none_⟩ [.mk ⟨3, ⟨#[97]⟩, 0, none_⟩ [], exL]
theorem srMay : May srT srJ := by
  refine ⟨⟨?_, rfl, by simp [srT, srJ, exL, J.flat, J.flats]⟩, by simp [srT], by simp [srJ, exL, J.deep, J.deeps]⟩
  simp only [srJ, exL, J.Ok, J.Oks, leafOk, plainHd, keysOk, J.key, J.hd, List.map_cons, List.map_nil, vU_a, vU_b]
  simp [none_]
def emT : List Nd := [⟨6, none_, 0, none_, 1⟩]
theorem emMay : May emT (.mk ⟨6, none_, 0, none_⟩ []) := by
  refine ⟨⟨?_, rfl, by simp [emT, J.flat, J.flats]⟩, by simp [emT], by simp [J.deep, J.deeps]⟩
  simp [J.Ok, J.Oks, leafOk, plainHd]
theorem show_ok {t : List Nd} {j : J} {out : List UInt8} (h : May t j) (e : j.show = out) (hl : out.length ≤ 1000 := by decide) : ShowT t out 0 := by
  subst e
  exact .inr ⟨j, h, .inl ⟨by unfold maxText; omega, rfl, rfl⟩⟩
theorem exShow : ShowT exT [123, 34, 98, 34, 58, 91, 49, 44, 110, 117, 108, 108, 93, 44, 34, 97, 34, 58, 116, 114, 117, 101, 125] 0 := show_ok exMay (by kernel_rfl)
theorem srShow : ShowT srT [123, 34, 97, 34, 58, 116, 114, 117, 101, 44, 34, 98, 34, 58, 91, 49, 44, 110, 117, 108, 108, 93, 125] 0 := show_ok srMay (by kernel_rfl)
theorem exCanon : CanonT exT [123, 34, 97, 34, 58, 116, 114, 117, 101, 44, 34, 98, 34, 58, 91, 49, 44, 110, 117, 108, 108, 93, 125] 0 := by
  refine .inr ⟨exJ, exMay, ?_⟩
  rw [← exSorted (.inl ⟨exJ, exMay, rfl⟩)]
  exact srShow
theorem emShow : ShowT emT [91, 93] 0 := show_ok emMay (by kernel_rfl)
theorem niShow : ShowT [] [] 60 := .inl ⟨by decide +kernel, by kernel_rfl, rfl⟩
theorem inCanon : CanonT ((exT.drop 1).take 1) [] 60 := .inl ⟨by decide +kernel, by kernel_rfl, rfl⟩
theorem nuShow : ShowT (leafT 4 (-9223372036854775808) none_) [45, 57, 50, 50, 51, 51, 55, 50, 48, 51, 54, 56, 53, 52, 55, 55, 53, 56, 48, 56] 0 := show_ok (leafMay (.inr (.inl ⟨rfl, rfl⟩))) (by kernel_rfl)
theorem vU_q : vU ⟨#[34, 10]⟩ = true := by kernel_rfl
theorem qT : strT ⟨#[34, 10]⟩ = leafT 5 0 ⟨#[34, 10]⟩ := by unfold strT; rw [vU_q]; rfl
theorem quShow : ShowT (leafT 5 0 ⟨#[34, 10]⟩) [34, 92, 34, 92, 110, 34] 0 := show_ok (leafMay (.inr (.inr ⟨rfl, rfl, vU_q⟩))) (by kernel_rfl)
theorem room60 {n : Nat} (h : n ≤ 60) : n * (n * (12 * 60 + 32)) + 2 ≤ 1099511627776 := by
  have h1 := Nat.mul_le_mul_right (12 * 60 + 32) h
  have h2 := Nat.mul_le_mul h h1
  omega
theorem fine_lit (t : List Nd) (h : (t.all fun x => decide (x.key.size ≤ 60 ∧ x.s.size ≤ 60 ∧ -9223372036854775808 ≤ x.n ∧ x.n ≤ 9223372036854775807)) = true) (hl : t.length ≤ 60) : Fine 60 t where
  every := fun x hx => by simpa using List.all_eq_true.1 h x hx
  small := by omega
  room := room60 hl
theorem fine_few {t : List Nd} (h : NumsOk t) : Fine 60 (fewL t) where
  every := by
    intro x hx
    obtain ⟨y, hy, rfl⟩ := List.mem_map.1 hx
    have h1 : (cutN 40 y.key).size ≤ 40 := cutN_size 40 y.key
    have h2 : (cutN 60 y.s).size ≤ 60 := cutN_size 60 y.s
    have h3 := h y (List.mem_of_mem_take hy)
    simp only [cutNd]
    omega
  small := by omega
  room := room60 (fewL_len t)

set_option maxRecDepth 100000 in
set_option maxHeartbeats 400000 in
theorem shows_run (v : Value) (t : List Nd) (out : List UInt8) (w : World) (hn : NodesIs w v t) (G : Fine 60 t) (hT : Tabs w) (hP : PowTab w) (hs : ShowT t out 0) :
    Calls Tryz.prog 25 #[v, .string ⟨out.toArray⟩] w fun e w' => e = .returned (.bool true) ∧ Old w w' := by
  have CS := show_run 60 v t out 0 w hn G hT hP hs
  unfold strE at CS
  obtain ⟨A, n, cap, rfl⟩ : ∃ A n cap, v = .slice A n cap := by obtain ⟨A, cap, h, _⟩ := hn.nodes; exact ⟨A, _, cap, h⟩
  obtain ⟨S, hS⟩ : ∃ S : ByteArray, Hid (⟨out.toArray⟩ = S) := ⟨_, hide rfl⟩
  rw [hS.out] at CS ⊢
  clear hn G hT hP hs
  go_enter Tryz.func25, Tryz.ntmps25
  go_wp2_with fail
  refine CS.mono ?_
  rintro e w1 ⟨rfl, o1⟩
  have O1 := hide o1
  clear o1 CS
  go_wp2_with fail
  go_ret
  exact ⟨by first | rfl | simp, O1.out⟩

set_option maxRecDepth 100000 in
set_option maxHeartbeats 4000000 in
theorem works_run (w : World) (hT : Tabs w) (hP : PowTab w) : Calls Tryz.prog 8 #[] w fun e w' => e = .returned (.bool true) ∧ Old w w' := by
  have HT := hide hT
  have HP := hide hP
  clear hT hP
  go_enter Tryz.func8, Tryz.ntmps8
  go_wp2_with fail
  have E1 := hide ((nodes_lit w exT _ rfl 0 (Nat.zero_le _)).sl)
  have HB := hide (Old.alloc (Old.refl w) (.cells (ndVals exT).toArray 57))
  refine (canon_run 60 _ exT _ 0 _ E1.out (fine_lit exT (by decide) (by decide)) (HT.out.old HB.out) (PowTab.old HP.out HB.out) exCanon).mono ?_
  (try unfold strE)
  rintro e w1 ⟨rfl, o1⟩
  replace HB := hide (Old.trans HB.out o1)
  replace E1 := hide (E1.out.old o1)
  clear o1
  go_wp2_with fail
  refine (show_run 60 _ [] _ 60 _ (Sl.nil_ _) (fine_lit [] (by decide) (by decide)) (HT.out.old HB.out) (PowTab.old HP.out HB.out) niShow).mono ?_
  (try unfold strE)
  rintro e w2 ⟨rfl, o2⟩
  replace HB := hide (Old.trans HB.out o2)
  replace E1 := hide (E1.out.old o2)
  clear o2
  go_wp2_with fail
  refine (canon_run 60 _ ((exT.drop 1).take 1) _ 60 _ (Sl.piece E1.out 1 1 4 (by decide) (by decide) (by unfold maxLen; omega)) (fine_lit _ (by decide) (by decide)) (HT.out.old HB.out) (PowTab.old HP.out HB.out) inCanon).mono ?_
  (try unfold strE)
  rintro e w3 ⟨rfl, o3⟩
  replace HB := hide (Old.trans HB.out o3)
  replace E1 := hide (E1.out.old o3)
  clear o3
  go_wp2_with fail
  refine (shows_run _ exT _ _ E1.out (fine_lit exT (by decide) (by decide)) (HT.out.old HB.out) (PowTab.old HP.out HB.out) exShow).mono ?_
  (try unfold strE)
  rintro e w4 ⟨rfl, o4⟩
  replace HB := hide (Old.trans HB.out o4)
  replace E1 := hide (E1.out.old o4)
  clear o4
  go_wp2_with fail
  refine (num_run (-9223372036854775808) _).mono ?_
  rintro e w5 ⟨v5, rfl, n5, o5⟩
  obtain ⟨A5, c5, rfl, _, _⟩ := nodes_form n5 (show (leafT 4 (-9223372036854775808) none_).length = 1 from rfl)
  replace HB := hide (Old.trans HB.out o5)
  have N5 := hide (SlT.sl n5)
  clear n5 o5
  go_wp2_with fail
  refine (shows_run _ (leafT 4 (-9223372036854775808) none_) _ _ N5.out (fine_lit _ (by decide) (by decide)) (HT.out.old HB.out) (PowTab.old HP.out HB.out) nuShow).mono ?_
  rintro e w6 ⟨rfl, o6⟩
  replace HB := hide (Old.trans HB.out o6)
  clear o6
  go_wp2_with fail
  refine (str_as ⟨#[34, 10]⟩ (leafT 5 0 ⟨#[34, 10]⟩) _ (by decide) (HT.out.old HB.out) qT).mono ?_
  rintro e w7 ⟨v7, rfl, n7, o7⟩
  obtain ⟨A7, c7, rfl, _, _⟩ := nodes_form n7 (show (leafT 5 0 ⟨#[34, 10]⟩).length = 1 from rfl)
  replace HB := hide (Old.trans HB.out o7)
  have N7 := hide (SlT.sl n7)
  clear n7 o7
  go_wp2_with fail
  refine (shows_run _ (leafT 5 0 ⟨#[34, 10]⟩) _ _ N7.out (fine_lit _ (by decide) (by decide)) (HT.out.old HB.out) (PowTab.old HP.out HB.out) quShow).mono ?_
  rintro e w8 ⟨rfl, o8⟩
  replace HB := hide (Old.trans HB.out o8)
  clear o8
  go_wp2_with fail
  obtain ⟨w9, h9⟩ : ∃ w9, Hid (w8 = w9) := ⟨_, hide rfl⟩
  have NE := hide ((nodes_lit w8 emT _ rfl 0 (Nat.zero_le _)).sl)
  replace HB := hide (Old.alloc HB.out (.cells (ndVals emT).toArray 57))
  refine (shows_run _ (emT) _ _ NE.out (fine_lit _ (by decide) (by decide)) (HT.out.old HB.out) (PowTab.old HP.out HB.out) emShow).mono ?_
  rintro e w10 ⟨rfl, o10⟩
  replace HB := hide (Old.trans HB.out o10)
  clear o10
  go_wp2_with fail
  go_ret
  exact ⟨by first | rfl | simp, HB.out⟩
end Go.Proofs.YtmolmphbhdbcaaaGreatDoor
