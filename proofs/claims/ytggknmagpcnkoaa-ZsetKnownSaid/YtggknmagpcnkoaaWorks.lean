/- The chapter's examples. -/
import Derived.Test.YtggknmagpcnkoaaCut
namespace Go.Proofs.Ytggknmagpcnkoaa
open Go.RowKit

def litCells : List (Nat × ByteArray × Int) → List Value
  | [] => []
  | p :: ps => .slice (some ⟨p.1, 0, none⟩) 1 1 :: .int .i64 p.2.2 :: litCells ps
def litRows : List (Nat × ByteArray × Int) → List Value
  | [] => []
  | p :: ps => .slice (some ⟨p.1, 0, none⟩) 1 1 :: litRows ps
def litItems : List (Nat × ByteArray × Int) → List Item
  | [] => []
  | p :: ps => oneI p.2.1 p.2.2 :: litItems ps
theorem litRows_len (gs : List (Nat × ByteArray × Int)) : (litRows gs).length = gs.length := by
  induction gs with
  | nil => rfl
  | cons p ps ih => simp [litRows, ih]
theorem litItems_len (gs : List (Nat × ByteArray × Int)) : (litItems gs).length = gs.length := by
  induction gs with
  | nil => rfl
  | cons p ps ih => simp [litItems, ih]
theorem lit_vals (gs : List (Nat × ByteArray × Int)) : itemVals (litRows gs) (litItems gs) = litCells gs := by
  induction gs with
  | nil => rfl
  | cons p ps ih => simp [litRows, litItems, litCells, itemVals, ih, oneI]
theorem lit_rows {w : World} : ∀ (gs : List (Nat × ByteArray × Int)), (∀ p ∈ gs, RowIs w (.slice (some ⟨p.1, 0, none⟩) 1 1) [⟨false, 0, p.2.1⟩]) → ∀ i, (h : i < (litItems gs).length) → (h' : i < (litRows gs).length) → RowIs w (litRows gs)[i] (litItems gs)[i].row
  | [], _, i, h, _ => absurd h (by simp [litItems])
  | p :: ps, hp, 0, _, _ => hp p (by simp)
  | p :: ps, hp, i + 1, h, h' => by
    have := lit_rows ps (fun q hq => hp q (by simp [hq])) i (by simpa [litItems] using h) (by simpa [litRows] using h')
    simpa [litItems, litRows] using this
theorem lit_items (w : World) (gs : List (Nat × ByteArray × Int)) (h : ∀ p ∈ gs, RowIs w (.slice (some ⟨p.1, 0, none⟩) 1 1) [⟨false, 0, p.2.1⟩]) (hn : gs.length ≤ 1048576 := by simp) :
    ItemsIs (w.alloc (.cells (litCells gs).toArray 37)) (.slice (some ⟨w.heap.size, 0, none⟩) gs.length gs.length) (litItems gs) := by
  refine ⟨litRows gs, by rw [litRows_len, litItems_len], ⟨_, _, by rw [litItems_len], by rw [litItems_len]; exact Nat.le_refl _, by unfold maxLen; omega, fun _ => ⟨w.heap.size, 0, rfl, fun j u hu => ?_⟩⟩, fun i hi hi' => (lit_rows gs h i hi hi').old ((Old.refl w).alloc _)⟩
  rw [lit_vals] at hu
  rw [cell_of_heap (heap_new _ _ _ rfl)]
  simpa using hu
theorem lit_fine (gs : List (ByteArray × Int)) (h : (gs.all fun p => decide (fit p.2)) = true) (hn : gs.length ≤ 262144 := by decide) : Fine 262144 (gs.map fun p => oneI p.1 p.2) where
  len := by simpa using hn
  short := fun i hi => by simp [oneI]
  fits := fun x hx => by
    obtain ⟨p, hp, rfl⟩ := List.mem_map.1 hx
    exact of_decide_eq_true (List.all_eq_true.1 h p hp)
theorem ItemsIs.nil_ (w : World) : ItemsIs w (.slice none 0 0) [] := ⟨[], rfl, Sl.nil_ w, fun i hi => absurd hi (by simp)⟩
theorem calls_as {f : FuncId} {args : Array Value} {w : World} {l l' : List Item} {n n' : Int} (h : Calls Try.prog f args w (NewItems2 w l n)) (e1 : l = l') (e2 : n = n') : Calls Try.prog f args w (NewItems2 w l' n') := by
  subst e1 e2
  exact h
theorem check_as {f : FuncId} {args : Array Value} {w : World} {n n' : Int} (h : Calls Try.prog f args w fun e w' => e = .returned (.int .i64 n) ∧ Old w w') (e2 : n = n') : Calls Try.prog f args w fun e w' => e = .returned (.int .i64 n') ∧ Old w w' := by
  subst e2
  exact h
theorem get_as {f : FuncId} {args : Array Value} {w : World} {n n' : Int} (h : Calls Try.prog f args w fun e w' => e = .returned (.int .i64 n) ∧ Old w w') (e2 : n = n') : Calls Try.prog f args w fun e w' => e = .returned (.int .i64 n') ∧ Old w w' := by
  subst e2
  exact h
theorem is_true (va vb : Value) (a : List Item) (e : Int) (w : World) (ha : ItemsIs w va a) (hb : ItemsIs w vb a) :
    Calls Try.prog 41 #[va, .int .i64 e, .int .i64 e, vb] w fun x w' => x = .returned (.bool true) ∧ Old w w' := by
  have := is_run va vb a a e e w ha hb
  simpa [sameItems] using this
theorem row_lit (w : World) (s : ByteArray) (n : Nat) (h : w.heap.size = n) : RowIs (w.alloc (.cells #[.bool false, .int .i64 0, .string s] 49)) (.slice (some ⟨n, 0, none⟩) 1 1) [⟨false, 0, s⟩] :=
  row_one (Nat.le_refl _) (by omega) (by rw [cell_of_heap (heap_new _ _ _ h)]; rfl) (by rw [cell_of_heap (heap_new _ _ _ h)]; rfl) (by rw [cell_of_heap (heap_new _ _ _ h)]; rfl)

set_option maxRecDepth 100000 in
set_option maxHeartbeats 8000000 in
theorem works_run (w : World) : Calls Try.prog 21 #[] w fun e w' => e = .returned (.bool true) ∧ Old w w' := by
  have HB := hide (Old.refl w)
  go_enter Try.func21, Try.ntmps21
  go_wp2_with fail
  refine (one_run _ _ _).mono ?_
  rintro e w1 ⟨g1, rfl, r1, o1⟩
  have T := o1
  replace HB := hide (Old.trans HB.out T)
  have R1 := hide (show RowIs w1 (.slice (some ⟨g1, 0, none⟩) 1 1) [⟨false, 0, ⟨#[98]⟩⟩] from r1.sl)
  clear r1 o1 T
  go_wp2_with fail
  refine (one_run _ _ _).mono ?_
  rintro e w2 ⟨g2, rfl, r2, o2⟩
  have T := o2
  replace HB := hide (Old.trans HB.out T)
  replace R1 := hide (R1.out.old T)
  have R2 := hide (show RowIs w2 (.slice (some ⟨g2, 0, none⟩) 1 1) [⟨false, 0, ⟨#[97]⟩⟩] from r2.sl)
  clear r2 o2 T
  go_wp2_with fail
  refine (one_run _ _ _).mono ?_
  rintro e w3 ⟨g3, rfl, r3, o3⟩
  have T := o3
  replace HB := hide (Old.trans HB.out T)
  replace R1 := hide (R1.out.old T)
  replace R2 := hide (R2.out.old T)
  have R3 := hide (show RowIs w3 (.slice (some ⟨g3, 0, none⟩) 1 1) [⟨false, 0, ⟨#[98]⟩⟩] from r3.sl)
  clear r3 o3 T
  go_wp2_with fail
  refine (one_run _ _ _).mono ?_
  rintro e w4 ⟨g4, rfl, r4, o4⟩
  have T := o4
  replace HB := hide (Old.trans HB.out T)
  replace R1 := hide (R1.out.old T)
  replace R2 := hide (R2.out.old T)
  replace R3 := hide (R3.out.old T)
  have R4 := hide (show RowIs w4 (.slice (some ⟨g4, 0, none⟩) 1 1) [⟨false, 0, ⟨#[97]⟩⟩] from r4.sl)
  clear r4 o4 T
  go_wp2_with fail
  refine (calls_as (zset_Norm _ [oneI ⟨#[98]⟩ 1, oneI ⟨#[97]⟩ 2, oneI ⟨#[98]⟩ (-1), oneI ⟨#[97]⟩ 1] _ (lit_items _ [(g1, ⟨#[98]⟩, 1), (g2, ⟨#[97]⟩, 2), (g3, ⟨#[98]⟩, (-1)), (g4, ⟨#[97]⟩, 1)] (by intro p hp; simp only [List.mem_cons, List.not_mem_nil, or_false] at hp; rcases hp with rfl | rfl | rfl | rfl <;> first | exact R1.out | exact R2.out | exact R3.out | exact R4.out)) (by decide) (lit_fine [(⟨#[98]⟩, 1), (⟨#[97]⟩, 2), (⟨#[98]⟩, (-1)), (⟨#[97]⟩, 1)] (by decide)).short (lit_fine [(⟨#[98]⟩, 1), (⟨#[97]⟩, 2), (⟨#[98]⟩, (-1)), (⟨#[97]⟩, 1)] (by decide)).fits) (show _ = [oneI ⟨#[97]⟩ 3] by kernel_rfl) (show _ = (0 : Int) by kernel_rfl)).mono ?_
  rintro e w5 ⟨v5, rfl, i5, o5⟩
  have T := (Old.trans ((Old.refl _).alloc _) o5)
  replace HB := hide (Old.trans HB.out T)
  replace R1 := hide (R1.out.old T)
  replace R2 := hide (R2.out.old T)
  replace R3 := hide (R3.out.old T)
  replace R4 := hide (R4.out.old T)
  have Ia := hide (show ItemsIs w5 v5 [oneI ⟨#[97]⟩ 3] from i5.is)
  clear i5 o5 T
  clear R1
  clear R2
  clear R3
  clear R4
  go_wp2_with fail
  refine (one_run _ _ _).mono ?_
  rintro e w6 ⟨g6, rfl, r6, o6⟩
  have T := o6
  replace HB := hide (Old.trans HB.out T)
  replace Ia := hide (Ia.out.old T)
  have R6 := hide (show RowIs w6 (.slice (some ⟨g6, 0, none⟩) 1 1) [⟨false, 0, ⟨#[97]⟩⟩] from r6.sl)
  clear r6 o6 T
  go_wp2_with fail
  refine (one_run _ _ _).mono ?_
  rintro e w7 ⟨g7, rfl, r7, o7⟩
  have T := o7
  replace HB := hide (Old.trans HB.out T)
  replace Ia := hide (Ia.out.old T)
  replace R6 := hide (R6.out.old T)
  have R7 := hide (show RowIs w7 (.slice (some ⟨g7, 0, none⟩) 1 1) [⟨false, 0, ⟨#[97]⟩⟩] from r7.sl)
  clear r7 o7 T
  go_wp2_with fail
  refine (one_run _ _ _).mono ?_
  rintro e w8 ⟨g8, rfl, r8, o8⟩
  have T := o8
  replace HB := hide (Old.trans HB.out T)
  replace Ia := hide (Ia.out.old T)
  replace R6 := hide (R6.out.old T)
  replace R7 := hide (R7.out.old T)
  have R8 := hide (show RowIs w8 (.slice (some ⟨g8, 0, none⟩) 1 1) [⟨false, 0, ⟨#[97]⟩⟩] from r8.sl)
  clear r8 o8 T
  go_wp2_with fail
  refine (calls_as (zset_Norm _ [oneI ⟨#[97]⟩ 9223372036854775807, oneI ⟨#[97]⟩ 1, oneI ⟨#[97]⟩ (-1)] _ (lit_items _ [(g6, ⟨#[97]⟩, 9223372036854775807), (g7, ⟨#[97]⟩, 1), (g8, ⟨#[97]⟩, (-1))] (by intro p hp; simp only [List.mem_cons, List.not_mem_nil, or_false] at hp; rcases hp with rfl | rfl | rfl <;> first | exact R6.out | exact R7.out | exact R8.out)) (by decide) (lit_fine [(⟨#[97]⟩, 9223372036854775807), (⟨#[97]⟩, 1), (⟨#[97]⟩, (-1))] (by decide)).short (lit_fine [(⟨#[97]⟩, 9223372036854775807), (⟨#[97]⟩, 1), (⟨#[97]⟩, (-1))] (by decide)).fits) (show _ = [oneI ⟨#[97]⟩ 9223372036854775807] by kernel_rfl) (show _ = (0 : Int) by kernel_rfl)).mono ?_
  rintro e w9 ⟨v9, rfl, i9, o9⟩
  have T := (Old.trans ((Old.refl _).alloc _) o9)
  replace HB := hide (Old.trans HB.out T)
  replace Ia := hide (Ia.out.old T)
  replace R6 := hide (R6.out.old T)
  replace R7 := hide (R7.out.old T)
  replace R8 := hide (R8.out.old T)
  have Ib := hide (show ItemsIs w9 v9 [oneI ⟨#[97]⟩ 9223372036854775807] from i9.is)
  clear i9 o9 T
  clear R6
  clear R7
  clear R8
  go_wp2_with fail
  refine (one_run _ _ _).mono ?_
  rintro e w10 ⟨g10, rfl, r10, o10⟩
  have T := o10
  replace HB := hide (Old.trans HB.out T)
  replace Ia := hide (Ia.out.old T)
  replace Ib := hide (Ib.out.old T)
  have R10 := hide (show RowIs w10 (.slice (some ⟨g10, 0, none⟩) 1 1) [⟨false, 0, ⟨#[97]⟩⟩] from r10.sl)
  clear r10 o10 T
  go_wp2_with fail
  refine (one_run _ _ _).mono ?_
  rintro e w11 ⟨g11, rfl, r11, o11⟩
  have T := o11
  replace HB := hide (Old.trans HB.out T)
  replace Ia := hide (Ia.out.old T)
  replace Ib := hide (Ib.out.old T)
  replace R10 := hide (R10.out.old T)
  have R11 := hide (show RowIs w11 (.slice (some ⟨g11, 0, none⟩) 1 1) [⟨false, 0, ⟨#[97]⟩⟩] from r11.sl)
  clear r11 o11 T
  go_wp2_with fail
  refine (calls_as (zset_Norm _ [oneI ⟨#[97]⟩ 9223372036854775807, oneI ⟨#[97]⟩ 1] _ (lit_items _ [(g10, ⟨#[97]⟩, 9223372036854775807), (g11, ⟨#[97]⟩, 1)] (by intro p hp; simp only [List.mem_cons, List.not_mem_nil, or_false] at hp; rcases hp with rfl | rfl <;> first | exact R10.out | exact R11.out)) (by decide) (lit_fine [(⟨#[97]⟩, 9223372036854775807), (⟨#[97]⟩, 1)] (by decide)).short (lit_fine [(⟨#[97]⟩, 9223372036854775807), (⟨#[97]⟩, 1)] (by decide)).fits) (show _ = ([] : List Item) by kernel_rfl) (show _ = (50 : Int) by kernel_rfl)).mono ?_
  rintro e w12 ⟨v12, rfl, i12, o12⟩
  have T := (Old.trans ((Old.refl _).alloc _) o12)
  replace HB := hide (Old.trans HB.out T)
  replace Ia := hide (Ia.out.old T)
  replace Ib := hide (Ib.out.old T)
  replace R10 := hide (R10.out.old T)
  replace R11 := hide (R11.out.old T)
  have Ic := hide (show ItemsIs w12 v12 [] from i12.is)
  clear i12 o12 T
  clear R10
  clear R11
  go_wp2_with fail
  refine (calls_as (zset_Norm (.slice none 0 0) [] _ (ItemsIs.nil_ _) (by decide) (lit_fine [] (by decide)).short (lit_fine [] (by decide)).fits) (show _ = ([] : List Item) by kernel_rfl) (show _ = (0 : Int) by kernel_rfl)).mono ?_
  rintro e w13 ⟨v13, rfl, i13, o13⟩
  have T := o13
  replace HB := hide (Old.trans HB.out T)
  replace Ia := hide (Ia.out.old T)
  replace Ib := hide (Ib.out.old T)
  replace Ic := hide (Ic.out.old T)
  have Id := hide (show ItemsIs w13 v13 [] from i13.is)
  clear i13 o13 T
  go_wp2_with fail
  refine (one_run _ _ _).mono ?_
  rintro e w14 ⟨g14, rfl, r14, o14⟩
  have T := o14
  replace HB := hide (Old.trans HB.out T)
  replace Ia := hide (Ia.out.old T)
  replace Ib := hide (Ib.out.old T)
  replace Ic := hide (Ic.out.old T)
  replace Id := hide (Id.out.old T)
  have R14 := hide (show RowIs w14 (.slice (some ⟨g14, 0, none⟩) 1 1) [⟨false, 0, ⟨#[97]⟩⟩] from r14.sl)
  clear r14 o14 T
  go_wp2_with fail
  refine (is_true _ _ [oneI ⟨#[97]⟩ 3] 0 _ (Ia.out.old ((Old.refl _).alloc _)) (lit_items _ [(g14, ⟨#[97]⟩, 3)] (by intro p hp; simp only [List.mem_cons, List.not_mem_nil, or_false] at hp; rcases hp with rfl <;> first | exact R14.out))).mono ?_
  rintro e w15 ⟨rfl, o15⟩
  have T := (Old.trans ((Old.refl _).alloc _) o15)
  replace HB := hide (Old.trans HB.out T)
  replace Ia := hide (Ia.out.old T)
  replace Ib := hide (Ib.out.old T)
  replace Ic := hide (Ic.out.old T)
  replace Id := hide (Id.out.old T)
  replace R14 := hide (R14.out.old T)
  clear o15 T
  clear R14
  clear Ia
  go_wp2_with fail
  refine (one_run _ _ _).mono ?_
  rintro e w16 ⟨g16, rfl, r16, o16⟩
  have T := o16
  replace HB := hide (Old.trans HB.out T)
  replace Ib := hide (Ib.out.old T)
  replace Ic := hide (Ic.out.old T)
  replace Id := hide (Id.out.old T)
  have R16 := hide (show RowIs w16 (.slice (some ⟨g16, 0, none⟩) 1 1) [⟨false, 0, ⟨#[97]⟩⟩] from r16.sl)
  clear r16 o16 T
  go_wp2_with fail
  refine (is_true _ _ [oneI ⟨#[97]⟩ 9223372036854775807] 0 _ (Ib.out.old ((Old.refl _).alloc _)) (lit_items _ [(g16, ⟨#[97]⟩, 9223372036854775807)] (by intro p hp; simp only [List.mem_cons, List.not_mem_nil, or_false] at hp; rcases hp with rfl <;> first | exact R16.out))).mono ?_
  rintro e w17 ⟨rfl, o17⟩
  have T := (Old.trans ((Old.refl _).alloc _) o17)
  replace HB := hide (Old.trans HB.out T)
  replace Ib := hide (Ib.out.old T)
  replace Ic := hide (Ic.out.old T)
  replace Id := hide (Id.out.old T)
  replace R16 := hide (R16.out.old T)
  clear o17 T
  clear R16
  clear Ib
  go_wp2_with fail
  refine (is_true _ _ [] 50 _ (Ic.out.old (Old.refl _)) (ItemsIs.nil_ _)).mono ?_
  rintro e w18 ⟨rfl, o18⟩
  have T := o18
  replace HB := hide (Old.trans HB.out T)
  replace Ic := hide (Ic.out.old T)
  replace Id := hide (Id.out.old T)
  clear o18 T
  clear Ic
  go_wp2_with fail
  refine (is_true _ _ [] 0 _ (Id.out.old (Old.refl _)) (ItemsIs.nil_ _)).mono ?_
  rintro e w19 ⟨rfl, o19⟩
  have T := o19
  replace HB := hide (Old.trans HB.out T)
  replace Id := hide (Id.out.old T)
  clear o19 T
  clear Id
  go_wp2_with fail
  refine (one_run _ _ _).mono ?_
  rintro e w20 ⟨g20, rfl, r20, o20⟩
  have T := o20
  replace HB := hide (Old.trans HB.out T)
  have R20 := hide (show RowIs w20 (.slice (some ⟨g20, 0, none⟩) 1 1) [⟨false, 0, ⟨#[97]⟩⟩] from r20.sl)
  clear r20 o20 T
  go_wp2_with fail
  refine (one_run _ _ _).mono ?_
  rintro e w21 ⟨g21, rfl, r21, o21⟩
  have T := o21
  replace HB := hide (Old.trans HB.out T)
  replace R20 := hide (R20.out.old T)
  have R21 := hide (show RowIs w21 (.slice (some ⟨g21, 0, none⟩) 1 1) [⟨false, 0, ⟨#[98]⟩⟩] from r21.sl)
  clear r21 o21 T
  go_wp2_with fail
  have I0 := hide (lit_items _ [(g20, ⟨#[97]⟩, 1), (g21, ⟨#[98]⟩, 1)] (by intro p hp; simp only [List.mem_cons, List.not_mem_nil, or_false] at hp; rcases hp with rfl | rfl <;> first | exact R20.out | exact R21.out))
  refine (one_run _ _ _).mono ?_
  rintro e w22 ⟨g22, rfl, r22, o22⟩
  replace I0 := hide (I0.out.old o22)
  have T := (Old.trans ((Old.refl _).alloc _) o22)
  replace HB := hide (Old.trans HB.out T)
  replace R20 := hide (R20.out.old T)
  replace R21 := hide (R21.out.old T)
  have R22 := hide (show RowIs w22 (.slice (some ⟨g22, 0, none⟩) 1 1) [⟨false, 0, ⟨#[97]⟩⟩] from r22.sl)
  clear r22 o22 T
  clear R20
  clear R21
  go_wp2_with fail
  refine (calls_as (zset_Add _ _ [oneI ⟨#[97]⟩ 1, oneI ⟨#[98]⟩ 1] [oneI ⟨#[97]⟩ (-1)] _ (I0.out.old ((Old.refl _).alloc _)) (lit_items _ [(g22, ⟨#[97]⟩, (-1))] (by intro p hp; simp only [List.mem_cons, List.not_mem_nil, or_false] at hp; rcases hp with rfl <;> first | exact R22.out)) (lit_fine [(⟨#[97]⟩, 1), (⟨#[98]⟩, 1)] (by decide)) (lit_fine [(⟨#[97]⟩, (-1))] (by decide))) (show _ = [oneI ⟨#[98]⟩ 1] by kernel_rfl) (show _ = (0 : Int) by kernel_rfl)).mono ?_
  rintro e w23 ⟨v23, rfl, i23, o23⟩
  have T := (Old.trans ((Old.refl _).alloc _) o23)
  replace HB := hide (Old.trans HB.out T)
  replace R22 := hide (R22.out.old T)
  replace I0 := hide (I0.out.old T)
  have Ia := hide (show ItemsIs w23 v23 [oneI ⟨#[98]⟩ 1] from i23.is)
  clear i23 o23 T
  clear R22
  clear I0
  go_wp2_with fail
  refine (one_run _ _ _).mono ?_
  rintro e w24 ⟨g24, rfl, r24, o24⟩
  have T := o24
  replace HB := hide (Old.trans HB.out T)
  replace Ia := hide (Ia.out.old T)
  have R24 := hide (show RowIs w24 (.slice (some ⟨g24, 0, none⟩) 1 1) [⟨false, 0, ⟨#[98]⟩⟩] from r24.sl)
  clear r24 o24 T
  go_wp2_with fail
  refine (one_run _ _ _).mono ?_
  rintro e w25 ⟨g25, rfl, r25, o25⟩
  have T := o25
  replace HB := hide (Old.trans HB.out T)
  replace Ia := hide (Ia.out.old T)
  replace R24 := hide (R24.out.old T)
  have R25 := hide (show RowIs w25 (.slice (some ⟨g25, 0, none⟩) 1 1) [⟨false, 0, ⟨#[97]⟩⟩] from r25.sl)
  clear r25 o25 T
  go_wp2_with fail
  refine (calls_as (zset_Add _ (.slice none 0 0) [oneI ⟨#[98]⟩ 1, oneI ⟨#[97]⟩ 1] [] _ (lit_items _ [(g24, ⟨#[98]⟩, 1), (g25, ⟨#[97]⟩, 1)] (by intro p hp; simp only [List.mem_cons, List.not_mem_nil, or_false] at hp; rcases hp with rfl | rfl <;> first | exact R24.out | exact R25.out)) (ItemsIs.nil_ _) (lit_fine [(⟨#[98]⟩, 1), (⟨#[97]⟩, 1)] (by decide)) (lit_fine [] (by decide))) (show _ = ([] : List Item) by kernel_rfl) (show _ = (2 : Int) by kernel_rfl)).mono ?_
  rintro e w26 ⟨v26, rfl, i26, o26⟩
  have T := (Old.trans ((Old.refl _).alloc _) o26)
  replace HB := hide (Old.trans HB.out T)
  replace Ia := hide (Ia.out.old T)
  replace R24 := hide (R24.out.old T)
  replace R25 := hide (R25.out.old T)
  have Ib := hide (show ItemsIs w26 v26 [] from i26.is)
  clear i26 o26 T
  clear R24
  clear R25
  go_wp2_with fail
  refine (one_run _ _ _).mono ?_
  rintro e w27 ⟨g27, rfl, r27, o27⟩
  have T := o27
  replace HB := hide (Old.trans HB.out T)
  replace Ia := hide (Ia.out.old T)
  replace Ib := hide (Ib.out.old T)
  have R27 := hide (show RowIs w27 (.slice (some ⟨g27, 0, none⟩) 1 1) [⟨false, 0, ⟨#[97]⟩⟩] from r27.sl)
  clear r27 o27 T
  go_wp2_with fail
  have I0 := hide (lit_items _ [(g27, ⟨#[97]⟩, 9223372036854775807)] (by intro p hp; simp only [List.mem_cons, List.not_mem_nil, or_false] at hp; rcases hp with rfl <;> first | exact R27.out))
  refine (one_run _ _ _).mono ?_
  rintro e w28 ⟨g28, rfl, r28, o28⟩
  replace I0 := hide (I0.out.old o28)
  have T := (Old.trans ((Old.refl _).alloc _) o28)
  replace HB := hide (Old.trans HB.out T)
  replace Ia := hide (Ia.out.old T)
  replace Ib := hide (Ib.out.old T)
  replace R27 := hide (R27.out.old T)
  have R28 := hide (show RowIs w28 (.slice (some ⟨g28, 0, none⟩) 1 1) [⟨false, 0, ⟨#[97]⟩⟩] from r28.sl)
  clear r28 o28 T
  clear R27
  go_wp2_with fail
  refine (calls_as (zset_Add _ _ [oneI ⟨#[97]⟩ 9223372036854775807] [oneI ⟨#[97]⟩ 1] _ (I0.out.old ((Old.refl _).alloc _)) (lit_items _ [(g28, ⟨#[97]⟩, 1)] (by intro p hp; simp only [List.mem_cons, List.not_mem_nil, or_false] at hp; rcases hp with rfl <;> first | exact R28.out)) (lit_fine [(⟨#[97]⟩, 9223372036854775807)] (by decide)) (lit_fine [(⟨#[97]⟩, 1)] (by decide))) (show _ = ([] : List Item) by kernel_rfl) (show _ = (50 : Int) by kernel_rfl)).mono ?_
  rintro e w29 ⟨v29, rfl, i29, o29⟩
  have T := (Old.trans ((Old.refl _).alloc _) o29)
  replace HB := hide (Old.trans HB.out T)
  replace Ia := hide (Ia.out.old T)
  replace Ib := hide (Ib.out.old T)
  replace R28 := hide (R28.out.old T)
  replace I0 := hide (I0.out.old T)
  have Ic := hide (show ItemsIs w29 v29 [] from i29.is)
  clear i29 o29 T
  clear R28
  clear I0
  go_wp2_with fail
  refine (one_run _ _ _).mono ?_
  rintro e w30 ⟨g30, rfl, r30, o30⟩
  have T := o30
  replace HB := hide (Old.trans HB.out T)
  replace Ia := hide (Ia.out.old T)
  replace Ib := hide (Ib.out.old T)
  replace Ic := hide (Ic.out.old T)
  have R30 := hide (show RowIs w30 (.slice (some ⟨g30, 0, none⟩) 1 1) [⟨false, 0, ⟨#[98]⟩⟩] from r30.sl)
  clear r30 o30 T
  go_wp2_with fail
  refine (is_true _ _ [oneI ⟨#[98]⟩ 1] 0 _ (Ia.out.old ((Old.refl _).alloc _)) (lit_items _ [(g30, ⟨#[98]⟩, 1)] (by intro p hp; simp only [List.mem_cons, List.not_mem_nil, or_false] at hp; rcases hp with rfl <;> first | exact R30.out))).mono ?_
  rintro e w31 ⟨rfl, o31⟩
  have T := (Old.trans ((Old.refl _).alloc _) o31)
  replace HB := hide (Old.trans HB.out T)
  replace Ia := hide (Ia.out.old T)
  replace Ib := hide (Ib.out.old T)
  replace Ic := hide (Ic.out.old T)
  replace R30 := hide (R30.out.old T)
  clear o31 T
  clear R30
  clear Ia
  go_wp2_with fail
  refine (is_true _ _ [] 2 _ (Ib.out.old (Old.refl _)) (ItemsIs.nil_ _)).mono ?_
  rintro e w32 ⟨rfl, o32⟩
  have T := o32
  replace HB := hide (Old.trans HB.out T)
  replace Ib := hide (Ib.out.old T)
  replace Ic := hide (Ic.out.old T)
  clear o32 T
  clear Ib
  go_wp2_with fail
  refine (is_true _ _ [] 50 _ (Ic.out.old (Old.refl _)) (ItemsIs.nil_ _)).mono ?_
  rintro e w33 ⟨rfl, o33⟩
  have T := o33
  replace HB := hide (Old.trans HB.out T)
  replace Ic := hide (Ic.out.old T)
  clear o33 T
  clear Ic
  go_wp2_with fail
  refine (one_run _ _ _).mono ?_
  rintro e w34 ⟨g34, rfl, r34, o34⟩
  have T := o34
  replace HB := hide (Old.trans HB.out T)
  have R34 := hide (show RowIs w34 (.slice (some ⟨g34, 0, none⟩) 1 1) [⟨false, 0, ⟨#[97]⟩⟩] from r34.sl)
  clear r34 o34 T
  go_wp2_with fail
  refine (calls_as (zset_Neg _ [oneI ⟨#[97]⟩ 1] _ (lit_items _ [(g34, ⟨#[97]⟩, 1)] (by intro p hp; simp only [List.mem_cons, List.not_mem_nil, or_false] at hp; rcases hp with rfl <;> first | exact R34.out)) ((lit_fine [(⟨#[97]⟩, 1)] (by decide)).mono (by omega))) (show _ = [oneI ⟨#[97]⟩ (-1)] by kernel_rfl) (show _ = (0 : Int) by kernel_rfl)).mono ?_
  rintro e w35 ⟨v35, rfl, i35, o35⟩
  have T := (Old.trans ((Old.refl _).alloc _) o35)
  replace HB := hide (Old.trans HB.out T)
  replace R34 := hide (R34.out.old T)
  have Ia := hide (show ItemsIs w35 v35 [oneI ⟨#[97]⟩ (-1)] from i35.is)
  clear i35 o35 T
  clear R34
  go_wp2_with fail
  refine (one_run _ _ _).mono ?_
  rintro e w36 ⟨g36, rfl, r36, o36⟩
  have T := o36
  replace HB := hide (Old.trans HB.out T)
  replace Ia := hide (Ia.out.old T)
  have R36 := hide (show RowIs w36 (.slice (some ⟨g36, 0, none⟩) 1 1) [⟨false, 0, ⟨#[97]⟩⟩] from r36.sl)
  clear r36 o36 T
  go_wp2_with fail
  refine (calls_as (zset_Neg _ [oneI ⟨#[97]⟩ (-9223372036854775808)] _ (lit_items _ [(g36, ⟨#[97]⟩, (-9223372036854775808))] (by intro p hp; simp only [List.mem_cons, List.not_mem_nil, or_false] at hp; rcases hp with rfl <;> first | exact R36.out)) ((lit_fine [(⟨#[97]⟩, (-9223372036854775808))] (by decide)).mono (by omega))) (show _ = ([] : List Item) by kernel_rfl) (show _ = (50 : Int) by kernel_rfl)).mono ?_
  rintro e w37 ⟨v37, rfl, i37, o37⟩
  have T := (Old.trans ((Old.refl _).alloc _) o37)
  replace HB := hide (Old.trans HB.out T)
  replace Ia := hide (Ia.out.old T)
  replace R36 := hide (R36.out.old T)
  have Ib := hide (show ItemsIs w37 v37 [] from i37.is)
  clear i37 o37 T
  clear R36
  go_wp2_with fail
  refine (one_run _ _ _).mono ?_
  rintro e w38 ⟨g38, rfl, r38, o38⟩
  have T := o38
  replace HB := hide (Old.trans HB.out T)
  replace Ia := hide (Ia.out.old T)
  replace Ib := hide (Ib.out.old T)
  have R38 := hide (show RowIs w38 (.slice (some ⟨g38, 0, none⟩) 1 1) [⟨false, 0, ⟨#[97]⟩⟩] from r38.sl)
  clear r38 o38 T
  go_wp2_with fail
  refine (calls_as (zset_Scale 0 _ [oneI ⟨#[97]⟩ 5] _ (by decide) (lit_items _ [(g38, ⟨#[97]⟩, 5)] (by intro p hp; simp only [List.mem_cons, List.not_mem_nil, or_false] at hp; rcases hp with rfl <;> first | exact R38.out)) ((lit_fine [(⟨#[97]⟩, 5)] (by decide)).mono (by omega))) (show _ = ([] : List Item) by kernel_rfl) (show _ = (0 : Int) by kernel_rfl)).mono ?_
  rintro e w39 ⟨v39, rfl, i39, o39⟩
  have T := (Old.trans ((Old.refl _).alloc _) o39)
  replace HB := hide (Old.trans HB.out T)
  replace Ia := hide (Ia.out.old T)
  replace Ib := hide (Ib.out.old T)
  replace R38 := hide (R38.out.old T)
  have Ic := hide (show ItemsIs w39 v39 [] from i39.is)
  clear i39 o39 T
  clear R38
  go_wp2_with fail
  refine (one_run _ _ _).mono ?_
  rintro e w40 ⟨g40, rfl, r40, o40⟩
  have T := o40
  replace HB := hide (Old.trans HB.out T)
  replace Ia := hide (Ia.out.old T)
  replace Ib := hide (Ib.out.old T)
  replace Ic := hide (Ic.out.old T)
  have R40 := hide (show RowIs w40 (.slice (some ⟨g40, 0, none⟩) 1 1) [⟨false, 0, ⟨#[97]⟩⟩] from r40.sl)
  clear r40 o40 T
  go_wp2_with fail
  refine (calls_as (zset_Scale (-2) _ [oneI ⟨#[97]⟩ 1] _ (by decide) (lit_items _ [(g40, ⟨#[97]⟩, 1)] (by intro p hp; simp only [List.mem_cons, List.not_mem_nil, or_false] at hp; rcases hp with rfl <;> first | exact R40.out)) ((lit_fine [(⟨#[97]⟩, 1)] (by decide)).mono (by omega))) (show _ = [oneI ⟨#[97]⟩ (-2)] by kernel_rfl) (show _ = (0 : Int) by kernel_rfl)).mono ?_
  rintro e w41 ⟨v41, rfl, i41, o41⟩
  have T := (Old.trans ((Old.refl _).alloc _) o41)
  replace HB := hide (Old.trans HB.out T)
  replace Ia := hide (Ia.out.old T)
  replace Ib := hide (Ib.out.old T)
  replace Ic := hide (Ic.out.old T)
  replace R40 := hide (R40.out.old T)
  have Id := hide (show ItemsIs w41 v41 [oneI ⟨#[97]⟩ (-2)] from i41.is)
  clear i41 o41 T
  clear R40
  go_wp2_with fail
  refine (one_run _ _ _).mono ?_
  rintro e w42 ⟨g42, rfl, r42, o42⟩
  have T := o42
  replace HB := hide (Old.trans HB.out T)
  replace Ia := hide (Ia.out.old T)
  replace Ib := hide (Ib.out.old T)
  replace Ic := hide (Ic.out.old T)
  replace Id := hide (Id.out.old T)
  have R42 := hide (show RowIs w42 (.slice (some ⟨g42, 0, none⟩) 1 1) [⟨false, 0, ⟨#[97]⟩⟩] from r42.sl)
  clear r42 o42 T
  go_wp2_with fail
  refine (calls_as (zset_Scale 2 _ [oneI ⟨#[97]⟩ 4611686018427387904] _ (by decide) (lit_items _ [(g42, ⟨#[97]⟩, 4611686018427387904)] (by intro p hp; simp only [List.mem_cons, List.not_mem_nil, or_false] at hp; rcases hp with rfl <;> first | exact R42.out)) ((lit_fine [(⟨#[97]⟩, 4611686018427387904)] (by decide)).mono (by omega))) (show _ = ([] : List Item) by kernel_rfl) (show _ = (50 : Int) by kernel_rfl)).mono ?_
  rintro e w43 ⟨v43, rfl, i43, o43⟩
  have T := (Old.trans ((Old.refl _).alloc _) o43)
  replace HB := hide (Old.trans HB.out T)
  replace Ia := hide (Ia.out.old T)
  replace Ib := hide (Ib.out.old T)
  replace Ic := hide (Ic.out.old T)
  replace Id := hide (Id.out.old T)
  replace R42 := hide (R42.out.old T)
  have Ie := hide (show ItemsIs w43 v43 [] from i43.is)
  clear i43 o43 T
  clear R42
  go_wp2_with fail
  refine (one_run _ _ _).mono ?_
  rintro e w44 ⟨g44, rfl, r44, o44⟩
  have T := o44
  replace HB := hide (Old.trans HB.out T)
  replace Ia := hide (Ia.out.old T)
  replace Ib := hide (Ib.out.old T)
  replace Ic := hide (Ic.out.old T)
  replace Id := hide (Id.out.old T)
  replace Ie := hide (Ie.out.old T)
  have R44 := hide (show RowIs w44 (.slice (some ⟨g44, 0, none⟩) 1 1) [⟨false, 0, ⟨#[97]⟩⟩] from r44.sl)
  clear r44 o44 T
  go_wp2_with fail
  refine (is_true _ _ [oneI ⟨#[97]⟩ (-1)] 0 _ (Ia.out.old ((Old.refl _).alloc _)) (lit_items _ [(g44, ⟨#[97]⟩, (-1))] (by intro p hp; simp only [List.mem_cons, List.not_mem_nil, or_false] at hp; rcases hp with rfl <;> first | exact R44.out))).mono ?_
  rintro e w45 ⟨rfl, o45⟩
  have T := (Old.trans ((Old.refl _).alloc _) o45)
  replace HB := hide (Old.trans HB.out T)
  replace Ia := hide (Ia.out.old T)
  replace Ib := hide (Ib.out.old T)
  replace Ic := hide (Ic.out.old T)
  replace Id := hide (Id.out.old T)
  replace Ie := hide (Ie.out.old T)
  replace R44 := hide (R44.out.old T)
  clear o45 T
  clear R44
  clear Ia
  go_wp2_with fail
  refine (is_true _ _ [] 50 _ (Ib.out.old (Old.refl _)) (ItemsIs.nil_ _)).mono ?_
  rintro e w46 ⟨rfl, o46⟩
  have T := o46
  replace HB := hide (Old.trans HB.out T)
  replace Ib := hide (Ib.out.old T)
  replace Ic := hide (Ic.out.old T)
  replace Id := hide (Id.out.old T)
  replace Ie := hide (Ie.out.old T)
  clear o46 T
  clear Ib
  go_wp2_with fail
  refine (is_true _ _ [] 0 _ (Ic.out.old (Old.refl _)) (ItemsIs.nil_ _)).mono ?_
  rintro e w47 ⟨rfl, o47⟩
  have T := o47
  replace HB := hide (Old.trans HB.out T)
  replace Ic := hide (Ic.out.old T)
  replace Id := hide (Id.out.old T)
  replace Ie := hide (Ie.out.old T)
  clear o47 T
  clear Ic
  go_wp2_with fail
  refine (one_run _ _ _).mono ?_
  rintro e w48 ⟨g48, rfl, r48, o48⟩
  have T := o48
  replace HB := hide (Old.trans HB.out T)
  replace Id := hide (Id.out.old T)
  replace Ie := hide (Ie.out.old T)
  have R48 := hide (show RowIs w48 (.slice (some ⟨g48, 0, none⟩) 1 1) [⟨false, 0, ⟨#[97]⟩⟩] from r48.sl)
  clear r48 o48 T
  go_wp2_with fail
  refine (is_true _ _ [oneI ⟨#[97]⟩ (-2)] 0 _ (Id.out.old ((Old.refl _).alloc _)) (lit_items _ [(g48, ⟨#[97]⟩, (-2))] (by intro p hp; simp only [List.mem_cons, List.not_mem_nil, or_false] at hp; rcases hp with rfl <;> first | exact R48.out))).mono ?_
  rintro e w49 ⟨rfl, o49⟩
  have T := (Old.trans ((Old.refl _).alloc _) o49)
  replace HB := hide (Old.trans HB.out T)
  replace Id := hide (Id.out.old T)
  replace Ie := hide (Ie.out.old T)
  replace R48 := hide (R48.out.old T)
  clear o49 T
  clear R48
  clear Id
  go_wp2_with fail
  refine (is_true _ _ [] 50 _ (Ie.out.old (Old.refl _)) (ItemsIs.nil_ _)).mono ?_
  rintro e w50 ⟨rfl, o50⟩
  have T := o50
  replace HB := hide (Old.trans HB.out T)
  replace Ie := hide (Ie.out.old T)
  clear o50 T
  clear Ie
  go_wp2_with fail
  refine (one_run _ _ _).mono ?_
  rintro e w51 ⟨g51, rfl, r51, o51⟩
  have T := o51
  replace HB := hide (Old.trans HB.out T)
  have R51 := hide (show RowIs w51 (.slice (some ⟨g51, 0, none⟩) 1 1) [⟨false, 0, ⟨#[97]⟩⟩] from r51.sl)
  clear r51 o51 T
  go_wp2_with fail
  refine (check_as (zset_Check _ [oneI ⟨#[97]⟩ 0] _ (lit_items _ [(g51, ⟨#[97]⟩, 0)] (by intro p hp; simp only [List.mem_cons, List.not_mem_nil, or_false] at hp; rcases hp with rfl <;> first | exact R51.out))) (show _ = (2 : Int) by kernel_rfl)).mono ?_
  rintro e w52 ⟨rfl, o52⟩
  have T := (Old.trans ((Old.refl _).alloc _) o52)
  replace HB := hide (Old.trans HB.out T)
  replace R51 := hide (R51.out.old T)
  clear o52 T
  clear R51
  go_wp2_with fail
  refine (one_run _ _ _).mono ?_
  rintro e w53 ⟨g53, rfl, r53, o53⟩
  have T := o53
  replace HB := hide (Old.trans HB.out T)
  have R53 := hide (show RowIs w53 (.slice (some ⟨g53, 0, none⟩) 1 1) [⟨false, 0, ⟨#[97]⟩⟩] from r53.sl)
  clear r53 o53 T
  go_wp2_with fail
  refine (one_run _ _ _).mono ?_
  rintro e w54 ⟨g54, rfl, r54, o54⟩
  have T := o54
  replace HB := hide (Old.trans HB.out T)
  replace R53 := hide (R53.out.old T)
  have R54 := hide (show RowIs w54 (.slice (some ⟨g54, 0, none⟩) 1 1) [⟨false, 0, ⟨#[97]⟩⟩] from r54.sl)
  clear r54 o54 T
  go_wp2_with fail
  refine (get_as (zset_Get _ _ [oneI ⟨#[97]⟩ 1, oneI ⟨#[97]⟩ 2] [⟨false, 0, ⟨#[97]⟩⟩] _ (ItemsIs.old (lit_items _ [(g53, ⟨#[97]⟩, 1), (g54, ⟨#[97]⟩, 2)] (by intro p hp; simp only [List.mem_cons, List.not_mem_nil, or_false] at hp; rcases hp with rfl | rfl <;> first | exact R53.out | exact R54.out)) ((Old.refl _).alloc _)) (row_lit _ _ _ (by simp))) (show _ = (1 : Int) by kernel_rfl)).mono ?_
  rintro e w55 ⟨rfl, o55⟩
  have T := (Old.trans (((Old.refl _).alloc _).alloc _) o55)
  replace HB := hide (Old.trans HB.out T)
  replace R53 := hide (R53.out.old T)
  replace R54 := hide (R54.out.old T)
  clear o55 T
  clear R53
  clear R54
  go_wp2_with fail
  refine (one_run _ _ _).mono ?_
  rintro e w56 ⟨g56, rfl, r56, o56⟩
  have T := o56
  replace HB := hide (Old.trans HB.out T)
  have R56 := hide (show RowIs w56 (.slice (some ⟨g56, 0, none⟩) 1 1) [⟨false, 0, ⟨#[97]⟩⟩] from r56.sl)
  clear r56 o56 T
  go_wp2_with fail
  refine (get_as (zset_Get _ _ [oneI ⟨#[97]⟩ 1] [⟨false, 0, ⟨#[98]⟩⟩] _ (ItemsIs.old (lit_items _ [(g56, ⟨#[97]⟩, 1)] (by intro p hp; simp only [List.mem_cons, List.not_mem_nil, or_false] at hp; rcases hp with rfl <;> first | exact R56.out)) ((Old.refl _).alloc _)) (row_lit _ _ _ (by simp))) (show _ = (0 : Int) by kernel_rfl)).mono ?_
  rintro e w57 ⟨rfl, o57⟩
  have T := (Old.trans (((Old.refl _).alloc _).alloc _) o57)
  replace HB := hide (Old.trans HB.out T)
  replace R56 := hide (R56.out.old T)
  clear o57 T
  clear R56
  go_wp2_with fail
  go_ret
  exact ⟨rfl, HB.out⟩
end Go.Proofs.Ytggknmagpcnkoaa
