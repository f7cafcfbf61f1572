/- The chapter's examples. -/
import Derived.Test.YtkefhhnbkhijgaaDoorExam
namespace Go.Proofs.YtkefhhnbkhijgaaDoor
open Go.RowKit

set_option maxRecDepth 100000 in
set_option maxHeartbeats 8000000 in
theorem works_run (w : World) (hT : Tabs w) : Calls Tryd.prog 26 #[] w fun e w' => e = .returned (.bool true) ∧ Old w w' := by
  have HB := hide (Old.refl w)
  have HT := hide hT
  clear hT
  go_enter Tryd.func26, Tryd.ntmps26
  go_wp2_with fail
  refine (example_run _).mono ?_
  rintro e w1 ⟨v1, rfl, n1, o1⟩
  obtain ⟨A1, c1, rfl, q1, r1⟩ := nodes_form (m := 5) n1 rfl
  unfold maxLen at r1
  have T := o1
  replace HB := hide (Old.trans HB.out T)
  clear T o1
  have E1 := hide (SlT.sl n1)
  clear n1
  go_wp2_with fail
  refine (example_run _).mono ?_
  rintro e w2 ⟨v2, rfl, n2, o2⟩
  obtain ⟨A2, c2, rfl, q2, r2⟩ := nodes_form (m := 5) n2 rfl
  unfold maxLen at r2
  obtain ⟨g2, f2, rfl, s1, s2, s3, s4⟩ := set_text (l1 := exT.take 4) (l2 := []) (x := ⟨3, ⟨#[97]⟩, 0, none_, 1⟩) (y := ⟨3, ⟨#[98]⟩, 0, none_, 1⟩) 1 4 ⟨#[98]⟩ n2 rfl (by omega) rfl
  have x1 := s2 1 _ rfl
  have y1 := s3 (f2 + 4 * 5 + 1)
  have o2' := o2.setCell (p := ⟨g2, f2 + 4 * 5 + 1, none⟩) s1 (.string ⟨#[98]⟩)
  have E2 := hide (SlT.sl s4)
  clear s1 s2 s3 s4 n2 o2
  obtain ⟨b1, f1, hA1, x10, x11, x12, x13, x14⟩ := nodes_cells E1.out (i := 2) rfl
  subst hA1
  obtain ⟨b1', f1', hA1, x20, x21, x22, x23, x24⟩ := nodes_cells E1.out (i := 3) rfl
  injection hA1 with hA1
  injection hA1 with hA1 hA2
  subst hA1 hA2
  replace x10 := Old.cell o2' x10; replace x11 := Old.cell o2' x11; replace x12 := Old.cell o2' x12; replace x13 := Old.cell o2' x13; replace x14 := Old.cell o2' x14
  replace x20 := Old.cell o2' x20; replace x21 := Old.cell o2' x21; replace x22 := Old.cell o2' x22; replace x23 := Old.cell o2' x23; replace x24 := Old.cell o2' x24
  replace HB := hide (Old.trans HB.out o2')
  replace E1 := hide (E1.out.old o2')
  clear o2'
  simp only [Nat.reduceMul] at x1 y1 x10 x11 x12 x13 x14 x20 x21 x22 x23 x24 E2 E1 HB
  go_wp2_with fail
  generalize w2.setCell ⟨g2, f2 + 20 + 1, none⟩ (.string ⟨#[98]⟩) = w3 at HB E1 E2 x10 x11 x12 x13 x14 x20 x21 x22 x23 x24 ⊢
  clear x1 y1
  go_region
  clear x10 x11 x12 x13 x14 x20 x21 x22 x23 x24
  have E3 := hide (show NodesIs (w3.alloc (.cells #[.int .i64 6, .string ⟨#[]⟩, .int .i64 0, .string ⟨#[]⟩, .int .i64 3, .int .i64 4, .string none_, .int .i64 1, .string none_, .int .i64 1, .int .i64 1, .string none_, .int .i64 0, .string none_, .int .i64 1] 57)).drew (.slice (some ⟨w3.heap.size, 0, none⟩) 3 3) ptT from SlT.sl (SlT.old (nodes_lit w3 ptT _ rfl 0 (Nat.zero_le _)) (Old.drew (Old.refl _))))
  have T : Old w3 (w3.alloc (.cells #[.int .i64 6, .string ⟨#[]⟩, .int .i64 0, .string ⟨#[]⟩, .int .i64 3, .int .i64 4, .string none_, .int .i64 1, .string none_, .int .i64 1, .int .i64 1, .string none_, .int .i64 0, .string none_, .int .i64 1] 57)).drew := Old.drew (Old.alloc (Old.refl _) _)
  replace HB := hide (Old.trans HB.out T)
  replace E1 := hide (show NodesIs _ _ exT from E1.out.old T)
  replace E2 := hide (show NodesIs _ _ twT from E2.out.old T)
  clear T
  generalize (w3.alloc (.cells #[.int .i64 6, .string ⟨#[]⟩, .int .i64 0, .string ⟨#[]⟩, .int .i64 3, .int .i64 4, .string none_, .int .i64 1, .string none_, .int .i64 1, .int .i64 1, .string none_, .int .i64 0, .string none_, .int .i64 1] 57)).drew = w4 at HB E1 E2 E3 ⊢
  obtain ⟨b3, hb3⟩ : ∃ b, w3.heap.size = b := ⟨_, rfl⟩
  rw [hb3] at E3 ⊢
  clear hb3
  go_wp2_with fail
  refine (get_run _ exT ⟨#[97]⟩ tyT true _ E1.out exTx (HT.out.old HB.out) exGetA).mono ?_
  rintro e w5 ⟨v5, rfl, n5, o5⟩
  have T := o5
  replace HB := hide (Old.trans HB.out T)
  replace E1 := hide (E1.out.old T)
  replace E2 := hide (E2.out.old T)
  replace E3 := hide (E3.out.old T)
  clear T o5
  have Ea := hide (SlT.sl n5)
  clear n5
  go_wp2_with fail
  refine (get_run _ exT ⟨#[99]⟩ [] false _ E1.out exTx (HT.out.old HB.out) exGetC).mono ?_
  rintro e w6 ⟨v6, rfl, n6, o6⟩
  have T := o6
  replace HB := hide (Old.trans HB.out T)
  replace E1 := hide (E1.out.old T)
  replace E2 := hide (E2.out.old T)
  replace E3 := hide (E3.out.old T)
  replace Ea := hide (Ea.out.old T)
  clear T o6
  have Ez := hide (SlT.sl n6)
  clear n6
  clear Ez
  go_wp2_with fail
  refine (null_run _).mono ?_
  rintro e w7 ⟨v7, rfl, n7, o7⟩
  obtain ⟨A7, c7, rfl, q7, r7⟩ := nodes_form (m := 1) n7 rfl
  unfold maxLen at r7
  have T := o7
  replace HB := hide (Old.trans HB.out T)
  replace E1 := hide (E1.out.old T)
  replace E2 := hide (E2.out.old T)
  replace E3 := hide (E3.out.old T)
  replace Ea := hide (Ea.out.old T)
  clear T o7
  have En := hide (SlT.sl n7)
  clear n7
  go_wp2_with fail
  refine (obj_run _ _ [⟨#[97]⟩, ⟨#[97]⟩] [nuT, nuT] [] 71 _ (Sl.old (texts_lit _ [⟨#[97]⟩, ⟨#[97]⟩] _ rfl) (Old.alloc (Old.refl _) _)) kTx (parts_lit _ [((.slice A7 1 c7), nuT), ((.slice A7 1 c7), nuT)] _ (heap_next _ _) (two_parts (En.out.old (Old.alloc (Old.refl _) _)) (En.out.old (Old.alloc (Old.refl _) _)))) nTx (HT.out.old (Old.trans HB.out (Old.alloc (Old.alloc (Old.refl _) _) _))) exTwice).mono ?_
  rintro e w8 ⟨v8, rfl, n8, o8⟩
  have T := (Old.trans (Old.alloc (Old.alloc (Old.refl _) _) _) o8)
  replace HB := hide (Old.trans HB.out T)
  replace E1 := hide (E1.out.old T)
  replace E2 := hide (E2.out.old T)
  replace E3 := hide (E3.out.old T)
  replace Ea := hide (Ea.out.old T)
  replace En := hide (En.out.old T)
  clear T o8
  have Ez := hide (SlT.sl n8)
  clear n8
  clear Ez
  go_wp2_with fail
  refine (obj_run _ _ [⟨#[97]⟩] [] [] 2 _ (texts_lit _ [⟨#[97]⟩] _ rfl) kTx1 (PartsIs.nil_ _) (by simp) (HT.out.old (Old.trans HB.out (Old.alloc (Old.refl _) _))) exArg).mono ?_
  rintro e w9 ⟨v9, rfl, n9, o9⟩
  have T := (Old.trans (Old.alloc (Old.refl _) _) o9)
  replace HB := hide (Old.trans HB.out T)
  replace E1 := hide (E1.out.old T)
  replace E2 := hide (E2.out.old T)
  replace E3 := hide (E3.out.old T)
  replace Ea := hide (Ea.out.old T)
  replace En := hide (En.out.old T)
  clear T o9
  have Ez := hide (SlT.sl n9)
  clear n9
  clear Ez
  go_wp2_with fail
  refine (num_run 1 _).mono ?_
  rintro e w10 ⟨v10, rfl, n10, o10⟩
  obtain ⟨A10, c10, rfl, q10, r10⟩ := nodes_form (m := 1) n10 rfl
  unfold maxLen at r10
  have T := o10
  replace HB := hide (Old.trans HB.out T)
  replace E1 := hide (E1.out.old T)
  replace E2 := hide (E2.out.old T)
  replace E3 := hide (E3.out.old T)
  replace Ea := hide (Ea.out.old T)
  replace En := hide (En.out.old T)
  clear T o10
  have Eo := hide (SlT.sl n10)
  clear n10
  go_wp2_with fail
  refine (list_run _ [leafT 4 1 none_, nuT] ptT 0 _ (parts_lit _ [((.slice A10 1 c10), leafT 4 1 none_), ((.slice A7 1 c7), nuT)] _ rfl (two_parts Eo.out En.out)) oTx (HT.out.old (Old.trans HB.out (Old.alloc (Old.refl _) _))) exList).mono ?_
  rintro e w11 ⟨v11, rfl, n11, o11⟩
  obtain ⟨A11, c11, rfl, q11, r11⟩ := nodes_form (m := 3) n11 rfl
  unfold maxLen at r11
  have T := (Old.trans (Old.alloc (Old.refl _) _) o11)
  replace HB := hide (Old.trans HB.out T)
  replace E1 := hide (E1.out.old T)
  replace E2 := hide (E2.out.old T)
  replace E3 := hide (E3.out.old T)
  replace Ea := hide (Ea.out.old T)
  replace En := hide (En.out.old T)
  replace Eo := hide (Eo.out.old T)
  clear T o11
  have El := hide (SlT.sl n11)
  clear n11
  clear Eo
  clear En
  go_wp2_with fail
  have K0 := hide (texts_lit w11 [⟨#[98]⟩, ⟨#[97]⟩] _ rfl)
  refine (bool_run true _).mono ?_
  rintro e w12 ⟨v12, rfl, n12, o12⟩
  replace K0 := hide (K0.out.old o12)
  obtain ⟨A12, c12, rfl, q12, r12⟩ := nodes_form (m := 1) n12 rfl
  unfold maxLen at r12
  have T := (Old.trans (Old.alloc (Old.refl _) _) o12)
  replace HB := hide (Old.trans HB.out T)
  replace E1 := hide (E1.out.old T)
  replace E2 := hide (E2.out.old T)
  replace E3 := hide (E3.out.old T)
  replace Ea := hide (Ea.out.old T)
  replace El := hide (El.out.old T)
  clear T o12
  have Eb := hide (SlT.sl n12)
  clear n12
  go_wp2_with fail
  refine (obj_run _ _ [⟨#[98]⟩, ⟨#[97]⟩] [ptT, tyT] exT 0 _ (K0.out.old (Old.alloc (Old.refl _) _)) kTx2 (parts_lit _ [((.slice A11 3 c11), ptT), ((.slice A12 1 c12), tyT)] _ rfl (two_parts El.out Eb.out)) pTx (HT.out.old (Old.trans HB.out (Old.alloc (Old.refl _) _))) exObj).mono ?_
  rintro e w13 ⟨v13, rfl, n13, o13⟩
  have T := (Old.trans (Old.alloc (Old.refl _) _) o13)
  replace HB := hide (Old.trans HB.out T)
  replace E1 := hide (E1.out.old T)
  replace E2 := hide (E2.out.old T)
  replace E3 := hide (E3.out.old T)
  replace Ea := hide (Ea.out.old T)
  replace El := hide (El.out.old T)
  replace Eb := hide (Eb.out.old T)
  replace K0 := hide (K0.out.old T)
  clear T o13
  have Eq := hide (SlT.sl n13)
  clear n13
  clear Eb
  clear K0
  go_wp2_with fail
  refine (num_as (check_run _ exT _ E1.out exTx (HT.out.old HB.out)) (chkT_may exMay)).mono ?_
  rintro e w14 ⟨rfl, o14⟩
  have T := o14
  replace HB := hide (Old.trans HB.out T)
  replace E1 := hide (E1.out.old T)
  replace E2 := hide (E2.out.old T)
  replace E3 := hide (E3.out.old T)
  replace Ea := hide (Ea.out.old T)
  replace El := hide (El.out.old T)
  replace Eq := hide (Eq.out.old T)
  clear T o14
  go_wp2_with fail
  refine (num_as (check_run _ (exT.take 4) _ (nodes_take (m := 4) E1.out rfl) exTx4 (HT.out.old HB.out)) (show _ = (60 : Int) by kernel_rfl)).mono ?_
  rintro e w15 ⟨rfl, o15⟩
  have T := o15
  replace HB := hide (Old.trans HB.out T)
  replace E1 := hide (E1.out.old T)
  replace E2 := hide (E2.out.old T)
  replace E3 := hide (E3.out.old T)
  replace Ea := hide (Ea.out.old T)
  replace El := hide (El.out.old T)
  replace Eq := hide (Eq.out.old T)
  clear T o15
  go_wp2_with fail
  refine (num_as (check_run _ [] _ (Sl.nil_ _) (by intro x hx; simp at hx) (HT.out.old HB.out)) (show _ = (60 : Int) by kernel_rfl)).mono ?_
  rintro e w16 ⟨rfl, o16⟩
  have T := o16
  replace HB := hide (Old.trans HB.out T)
  replace E1 := hide (E1.out.old T)
  replace E2 := hide (E2.out.old T)
  replace E3 := hide (E3.out.old T)
  replace Ea := hide (Ea.out.old T)
  replace El := hide (El.out.old T)
  replace Eq := hide (Eq.out.old T)
  clear T o16
  go_wp2_with fail
  refine (num_as (check_run _ twT _ E2.out twTx (HT.out.old HB.out)) (show _ = (60 : Int) by kernel_rfl)).mono ?_
  rintro e w17 ⟨rfl, o17⟩
  have T := o17
  replace HB := hide (Old.trans HB.out T)
  replace E1 := hide (E1.out.old T)
  replace E2 := hide (E2.out.old T)
  replace E3 := hide (E3.out.old T)
  replace Ea := hide (Ea.out.old T)
  replace El := hide (El.out.old T)
  replace Eq := hide (Eq.out.old T)
  clear T o17
  clear E2
  go_wp2_with fail
  refine (Kids_run _ exT [1, 4] _ E1.out exTx (HT.out.old HB.out) exKids).mono ?_
  rintro e w18 ⟨v18, rfl, n18, o18⟩
  have T := o18
  replace HB := hide (Old.trans HB.out T)
  replace E1 := hide (E1.out.old T)
  replace E3 := hide (E3.out.old T)
  replace Ea := hide (Ea.out.old T)
  replace El := hide (El.out.old T)
  replace Eq := hide (Eq.out.old T)
  clear T o18
  have Ek := hide (SlT.sl n18)
  clear n18
  go_wp2_with fail
  refine (ints_true _ _ [1, 4] _ (Ek.out.old (Old.alloc (Old.refl _) _)) (ints_lit _ [1, 4] _ rfl)).mono ?_
  rintro e w19 ⟨rfl, o19⟩
  have T := (Old.trans (Old.alloc (Old.refl _) _) o19)
  replace HB := hide (Old.trans HB.out T)
  replace E1 := hide (E1.out.old T)
  replace E3 := hide (E3.out.old T)
  replace Ea := hide (Ea.out.old T)
  replace El := hide (El.out.old T)
  replace Eq := hide (Eq.out.old T)
  replace Ek := hide (Ek.out.old T)
  clear T o19
  clear Ek
  go_wp2_with fail
  refine (num_as (deep_run _ exT _ E1.out exTx (HT.out.old HB.out)) (show ((deepT exT : Nat) : Int) = 3 by rw [deepT_may exMay]; rfl)).mono ?_
  rintro e w20 ⟨rfl, o20⟩
  have T := o20
  replace HB := hide (Old.trans HB.out T)
  replace E1 := hide (E1.out.old T)
  replace E3 := hide (E3.out.old T)
  replace Ea := hide (Ea.out.old T)
  replace El := hide (El.out.old T)
  replace Eq := hide (Eq.out.old T)
  clear T o20
  go_wp2_with fail
  have PART := hide (show ∀ w', Old w20 w' → Calls Tryd.prog 33 #[.slice (some ⟨b1, f1, none⟩) 5 c1, .int .i64 1] w' (NewNodes w' ptT) from fun w' h => part_run _ exT 1 ptT _ (E1.out.old h) exTx (HT.out.old (Old.trans HB.out h)) exPart)
  have SORT := hide (show ∀ w', Old w20 w' → Calls Tryd.prog 44 #[.slice (some ⟨b1, f1, none⟩) 5 c1] w' (NewNodes w' srT) from fun w' h => (sorted_run _ exT _ (E1.out.old h) exTx (HT.out.old (Old.trans HB.out h))).mono fun _ _ ⟨ps, h1, h2⟩ => by rw [exSorted h1]; exact h2)
  have STRA := hide (show ∀ w', Old w20 w' → Calls Tryd.prog 19 #[.string ⟨#[255]⟩] w' (NewNodes w' []) from fun w' h => str_as ⟨#[255]⟩ [] _ (by decide) (HT.out.old (Old.trans HB.out h)) (by kernel_rfl))
  have STRB := hide (show ∀ w', Old w20 w' → Calls Tryd.prog 19 #[.string ⟨#[120]⟩] w' (NewNodes w' (leafT 5 0 ⟨#[120]⟩)) from fun w' h => str_as ⟨#[120]⟩ (leafT 5 0 ⟨#[120]⟩) _ (by decide) (HT.out.old (Old.trans HB.out h)) (by kernel_rfl))
  obtain ⟨b9, f9, h9, z00, z01, z02, z03, z04⟩ := nodes_cells E1.out (i := 0) rfl
  injection h9 with h9
  injection h9 with h91 h92
  subst h91 h92
  simp only [Nat.reduceMul, Nat.add_zero] at z00 z01 z02 z03 z04
  have y00 := fun (w' : World) (h : Old w20 w') => Old.cell h z00
  have y01 := fun (w' : World) (h : Old w20 w') => Old.cell h z01
  have y02 := fun (w' : World) (h : Old w20 w') => Old.cell h z02
  have y03 := fun (w' : World) (h : Old w20 w') => Old.cell h z03
  have y04 := fun (w' : World) (h : Old w20 w') => Old.cell h z04
  clear z00 z01 z02 z03 z04
  obtain ⟨b9, f9, h9, z10, z11, z12, z13, z14⟩ := nodes_cells E1.out (i := 1) rfl
  injection h9 with h9
  injection h9 with h91 h92
  subst h91 h92
  simp only [Nat.reduceMul] at z10 z11 z12 z13 z14
  have y10 := fun (w' : World) (h : Old w20 w') => Old.cell h z10
  have y11 := fun (w' : World) (h : Old w20 w') => Old.cell h z11
  have y12 := fun (w' : World) (h : Old w20 w') => Old.cell h z12
  have y13 := fun (w' : World) (h : Old w20 w') => Old.cell h z13
  have y14 := fun (w' : World) (h : Old w20 w') => Old.cell h z14
  clear z10 z11 z12 z13 z14
  obtain ⟨b9, f9, h9, z20, z21, z22, z23, z24⟩ := nodes_cells E1.out (i := 2) rfl
  injection h9 with h9
  injection h9 with h91 h92
  subst h91 h92
  simp only [Nat.reduceMul] at z20 z21 z22 z23 z24
  have y20 := fun (w' : World) (h : Old w20 w') => Old.cell h z20
  have y21 := fun (w' : World) (h : Old w20 w') => Old.cell h z21
  have y22 := fun (w' : World) (h : Old w20 w') => Old.cell h z22
  have y23 := fun (w' : World) (h : Old w20 w') => Old.cell h z23
  have y24 := fun (w' : World) (h : Old w20 w') => Old.cell h z24
  clear z20 z21 z22 z23 z24
  obtain ⟨b9, f9, h9, z30, z31, z32, z33, z34⟩ := nodes_cells E1.out (i := 3) rfl
  injection h9 with h9
  injection h9 with h91 h92
  subst h91 h92
  simp only [Nat.reduceMul] at z30 z31 z32 z33 z34
  have y30 := fun (w' : World) (h : Old w20 w') => Old.cell h z30
  have y31 := fun (w' : World) (h : Old w20 w') => Old.cell h z31
  have y32 := fun (w' : World) (h : Old w20 w') => Old.cell h z32
  have y33 := fun (w' : World) (h : Old w20 w') => Old.cell h z33
  have y34 := fun (w' : World) (h : Old w20 w') => Old.cell h z34
  clear z30 z31 z32 z33 z34
  obtain ⟨b9, f9, h9, z40, z41, z42, z43, z44⟩ := nodes_cells E1.out (i := 4) rfl
  injection h9 with h9
  injection h9 with h91 h92
  subst h91 h92
  simp only [Nat.reduceMul] at z40 z41 z42 z43 z44
  have y40 := fun (w' : World) (h : Old w20 w') => Old.cell h z40
  have y41 := fun (w' : World) (h : Old w20 w') => Old.cell h z41
  have y42 := fun (w' : World) (h : Old w20 w') => Old.cell h z42
  have y43 := fun (w' : World) (h : Old w20 w') => Old.cell h z43
  have y44 := fun (w' : World) (h : Old w20 w') => Old.cell h z44
  clear z40 z41 z42 z43 z44
  have LIT : ∀ w' : World, NodesIs (w'.alloc (.cells #[.int .i64 7, .string none_, .int .i64 0, .string none_, .int .i64 5, .int .i64 3, .string ⟨#[97]⟩, .int .i64 0, .string none_, .int .i64 1, .int .i64 6, .string ⟨#[98]⟩, .int .i64 0, .string none_, .int .i64 3, .int .i64 4, .string none_, .int .i64 1, .string none_, .int .i64 1, .int .i64 1, .string none_, .int .i64 0, .string none_, .int .i64 1] 57)) (.slice (some ⟨w'.heap.size, 0, none⟩) 5 5) srT := fun w' => (nodes_lit w' srT _ rfl 0 (Nat.zero_le _)).sl
  simp only [List.append_eq, List.cons_append, List.nil_append]
  go_region_held3 (fun w' => Old w20 w')
    (first | assumption | (exact Old.drew (Old.refl _)) | (exact Old.alloc (by assumption) _) | (exact Old.trans (by assumption) (by assumption)))
    (first
      | (go_at_call 33; refine (PART.out _ (by assumption)).mono ?_; rintro e wa ⟨va, rfl, na, oa⟩)
      | (go_at_call_of 32 va; refine (eq_true _ _ ptT _ na.sl (E3.out.old (by assumption))).mono ?_; rintro e wa2 ⟨rfl, oa2⟩)
      | (go_at_call 16; refine (bool_run true _).mono ?_; rintro e wb ⟨vb, rfl, nb, ob⟩)
      | (go_at_call_of 32 vb; refine (eq_true _ _ tyT _ (Ea.out.old (by assumption)) nb.sl).mono ?_; rintro e wb2 ⟨rfl, ob2⟩)
      | (go_at_call 44; refine (SORT.out _ (by assumption)).mono ?_; rintro e wc ⟨vc, rfl, nc, oc⟩)
      | (go_at_call_of 32 vc; (first | (with_reducible refine (eq_true _ _ srT _ (nc.sl.old ((Old.refl _).alloc _)) (LIT _)).mono ?_) | (with_reducible refine (eq_true _ _ srT _ nc.sl ((LIT _).old oc)).mono ?_)); rintro e wc2 ⟨rfl, oc2⟩)
      | (go_at_call_of 32 A11; refine (eq_true _ _ ptT _ (El.out.old (by assumption)) (E3.out.old (by assumption))).mono ?_; rintro e wd ⟨rfl, od⟩)
      | (go_at_call_of 32 v13; refine (eq_true _ _ exT _ (Eq.out.old (by assumption)) (E1.out.old (by assumption))).mono ?_; rintro e wf ⟨rfl, of⟩)
      | (go_at_call_of 19 (Value.string ⟨#[255]⟩); refine (STRA.out _ (by assumption)).mono ?_; rintro e wg ⟨vg, rfl, ng, og⟩; obtain ⟨Ag, cg, rfl, qg, rg⟩ := nodes_form (m := 0) ng rfl; unfold maxLen at rg; clear ng)
      | (go_at_call_of 19 (Value.string ⟨#[120]⟩); refine (STRB.out _ (by assumption)).mono ?_; rintro e wh ⟨vh, rfl, nh, oh⟩; obtain ⟨Ah, ch, rfl, qh, rh⟩ := nodes_form (m := 1) nh rfl; unfold maxLen at rh; clear nh))
  all_goals clear y00 y01 y02 y03 y04 y10 y11 y12 y13 y14 y20 y21 y22 y23 y24 y30 y31 y32 y33 y34 y40 y41 y42 y43 y44
  all_goals go_wp2_with fail
  all_goals go_ret
  all_goals exact ⟨rfl, Old.trans HB.out (by assumption)⟩
end Go.Proofs.YtkefhhnbkhijgaaDoor
