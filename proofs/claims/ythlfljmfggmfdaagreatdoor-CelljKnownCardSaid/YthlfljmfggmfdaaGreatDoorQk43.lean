/-  -/
import Derived.Test.YthlfljmfggmfdaaGreatDoorQk41
import Derived.Test.YthlfljmfggmfdaaGreatDoorQk42
/-! ###  -/
namespace Go.Proofs.YthlfljmfggmfdaaGreatDoor
open Go.RowKit
theorem fit_lit {l : List Nd} (h : (l.all fun x => decide (x.key.size ≤ 60) && decide (x.s.size ≤ 60) && decide (-9223372036854775808 ≤ x.n) && decide (x.n ≤ 9223372036854775807)) = true) : TextsOk l ∧ NdFit l := by
 constructor
 · intro x hx
   have := List.all_eq_true.1 h x hx
   simp only [Bool.and_eq_true, decide_eq_true_eq] at this
   unfold maxLen
   omega
 · intro x hx
   have := List.all_eq_true.1 h x hx
   simp only [Bool.and_eq_true, decide_eq_true_eq] at this
   exact ⟨⟨this.1.2, this.2⟩, by omega⟩
def wj0 : J := .mk ⟨7, none_, 0, none_⟩ [.mk ⟨2, ⟨#[116]⟩, 0, none_⟩ [], .mk ⟨5, ⟨#[98]⟩, 0, none_⟩ [], .mk ⟨5, ⟨#[115]⟩, 0, ⟨#[120]⟩⟩ [], .mk ⟨4, ⟨#[105, 100]⟩, (-1), none_⟩ []]
theorem wp0 : parseV (⟨#[123, 34, 116, 34, 58, 102, 97, 108, 115, 101, 44, 34, 98, 34, 58, 34, 34, 44, 34, 115, 34, 58, 34, 120, 34, 44, 34, 105, 100, 34, 58, 45, 49, 125]⟩ : ByteArray).data.toList = .ok wj0 := by kernel_rfl
theorem wf0 : TextsOk wj0.flat ∧ NdFit wj0.flat := fit_lit (by kernel_rfl)
theorem wr0 : RowOf exC wj0.flat [⟨false, -1, ⟨#[]⟩⟩, ⟨false, 0, ⟨#[120]⟩⟩, zc, zc] 0 := RowOf_is exC_named exC_kinds (parseV_may wp0) (by kernel_rfl)
def wj1 : J := .mk ⟨7, none_, 0, none_⟩ [.mk ⟨5, ⟨#[98]⟩, 0, none_⟩ [], .mk ⟨5, ⟨#[115]⟩, 0, ⟨#[120]⟩⟩ [], .mk ⟨4, ⟨#[105, 100]⟩, (-1), none_⟩ []]
theorem wp1 : parseV (⟨#[123, 34, 98, 34, 58, 34, 34, 44, 34, 115, 34, 58, 34, 120, 34, 44, 34, 105, 100, 34, 58, 45, 49, 125]⟩ : ByteArray).data.toList = .ok wj1 := by kernel_rfl
theorem wf1 : TextsOk wj1.flat ∧ NdFit wj1.flat := fit_lit (by kernel_rfl)
theorem wr1 : RowOf exC wj1.flat [] 200 := RowOf_is exC_named exC_kinds (parseV_may wp1) (by kernel_rfl)
def wj2 : J := .mk ⟨7, none_, 0, none_⟩ [.mk ⟨2, ⟨#[116]⟩, 0, none_⟩ [], .mk ⟨5, ⟨#[98]⟩, 0, none_⟩ [], .mk ⟨5, ⟨#[115]⟩, 0, ⟨#[120]⟩⟩ [], .mk ⟨4, ⟨#[105, 100]⟩, (-1), none_⟩ [], .mk ⟨4, ⟨#[117]⟩, 1, none_⟩ []]
theorem wp2 : parseV (⟨#[123, 34, 116, 34, 58, 102, 97, 108, 115, 101, 44, 34, 98, 34, 58, 34, 34, 44, 34, 115, 34, 58, 34, 120, 34, 44, 34, 105, 100, 34, 58, 45, 49, 44, 34, 117, 34, 58, 49, 125]⟩ : ByteArray).data.toList = .ok wj2 := by kernel_rfl
theorem wf2 : TextsOk wj2.flat ∧ NdFit wj2.flat := fit_lit (by kernel_rfl)
theorem wr2 : RowOf exC wj2.flat [] 200 := RowOf_is exC_named exC_kinds (parseV_may wp2) (by kernel_rfl)
def wj3 : J := .mk ⟨6, none_, 0, none_⟩ [.mk ⟨4, none_, 5, none_⟩ []]
theorem wp3 : parseV (⟨#[91, 53, 93]⟩ : ByteArray).data.toList = .ok wj3 := by kernel_rfl
theorem wf3 : TextsOk wj3.flat ∧ NdFit wj3.flat := fit_lit (by kernel_rfl)
theorem wr3 : RowOf exC wj3.flat [] 200 := RowOf_is exC_named exC_kinds (parseV_may wp3) (by kernel_rfl)
def wj4 : J := .mk ⟨7, none_, 0, none_⟩ [.mk ⟨4, ⟨#[105, 100]⟩, 2147483648, none_⟩ [], .mk ⟨5, ⟨#[115]⟩, 0, none_⟩ [], .mk ⟨5, ⟨#[98]⟩, 0, none_⟩ [], .mk ⟨3, ⟨#[116]⟩, 0, none_⟩ []]
theorem wp4 : parseV (oneT ⟨#[50, 49, 52, 55, 52, 56, 51, 54, 52, 56]⟩ ⟨#[34, 34]⟩ ⟨#[34, 34]⟩ ⟨#[116, 114, 117, 101]⟩ : ByteArray).data.toList = .ok wj4 := by kernel_rfl
theorem wf4 : TextsOk wj4.flat ∧ NdFit wj4.flat := fit_lit (by kernel_rfl)
theorem wr4 : RowOf exC wj4.flat [] 90 := RowOf_is exC_named exC_kinds (parseV_may wp4) (by kernel_rfl)
def wj5 : J := .mk ⟨7, none_, 0, none_⟩ [.mk ⟨1, ⟨#[105, 100]⟩, 0, none_⟩ [], .mk ⟨1, ⟨#[115]⟩, 0, none_⟩ [], .mk ⟨5, ⟨#[98]⟩, 0, none_⟩ [], .mk ⟨3, ⟨#[116]⟩, 0, none_⟩ []]
theorem wp5 : parseV (oneT ⟨#[110, 117, 108, 108]⟩ ⟨#[110, 117, 108, 108]⟩ ⟨#[34, 34]⟩ ⟨#[116, 114, 117, 101]⟩ : ByteArray).data.toList = .ok wj5 := by kernel_rfl
theorem wf5 : TextsOk wj5.flat ∧ NdFit wj5.flat := fit_lit (by kernel_rfl)
theorem wr5 : RowOf exC wj5.flat [] 90 := RowOf_is exC_named exC_kinds (parseV_may wp5) (by kernel_rfl)
def wj6 : J := .mk ⟨7, none_, 0, none_⟩ [.mk ⟨4, ⟨#[105, 100]⟩, 1, none_⟩ [], .mk ⟨4, ⟨#[115]⟩, 1, none_⟩ [], .mk ⟨5, ⟨#[98]⟩, 0, none_⟩ [], .mk ⟨3, ⟨#[116]⟩, 0, none_⟩ []]
theorem wp6 : parseV (oneT ⟨#[49]⟩ ⟨#[49]⟩ ⟨#[34, 34]⟩ ⟨#[116, 114, 117, 101]⟩ : ByteArray).data.toList = .ok wj6 := by kernel_rfl
theorem wf6 : TextsOk wj6.flat ∧ NdFit wj6.flat := fit_lit (by kernel_rfl)
theorem wr6 : RowOf exC wj6.flat [] 90 := RowOf_is exC_named exC_kinds (parseV_may wp6) (by kernel_rfl)
def wj7 : J := .mk ⟨7, none_, 0, none_⟩ [.mk ⟨4, ⟨#[105, 100]⟩, 1, none_⟩ [], .mk ⟨1, ⟨#[115]⟩, 0, none_⟩ [], .mk ⟨5, ⟨#[98]⟩, 0, ⟨#[48, 70]⟩⟩ [], .mk ⟨3, ⟨#[116]⟩, 0, none_⟩ []]
theorem wp7 : parseV (oneT ⟨#[49]⟩ ⟨#[110, 117, 108, 108]⟩ ⟨#[34, 48, 70, 34]⟩ ⟨#[116, 114, 117, 101]⟩ : ByteArray).data.toList = .ok wj7 := by kernel_rfl
theorem wf7 : TextsOk wj7.flat ∧ NdFit wj7.flat := fit_lit (by kernel_rfl)
theorem wr7 : RowOf exC wj7.flat [] 90 := RowOf_is exC_named exC_kinds (parseV_may wp7) (by kernel_rfl)
def wj8 : J := .mk ⟨7, none_, 0, none_⟩ [.mk ⟨4, ⟨#[105, 100]⟩, 1, none_⟩ [], .mk ⟨1, ⟨#[115]⟩, 0, none_⟩ [], .mk ⟨5, ⟨#[98]⟩, 0, ⟨#[48]⟩⟩ [], .mk ⟨3, ⟨#[116]⟩, 0, none_⟩ []]
theorem wp8 : parseV (oneT ⟨#[49]⟩ ⟨#[110, 117, 108, 108]⟩ ⟨#[34, 48, 34]⟩ ⟨#[116, 114, 117, 101]⟩ : ByteArray).data.toList = .ok wj8 := by kernel_rfl
theorem wf8 : TextsOk wj8.flat ∧ NdFit wj8.flat := fit_lit (by kernel_rfl)
theorem wr8 : RowOf exC wj8.flat [] 90 := RowOf_is exC_named exC_kinds (parseV_may wp8) (by kernel_rfl)
def wj9 : J := .mk ⟨7, none_, 0, none_⟩ [.mk ⟨4, ⟨#[105, 100]⟩, 1, none_⟩ [], .mk ⟨1, ⟨#[115]⟩, 0, none_⟩ [], .mk ⟨5, ⟨#[98]⟩, 0, none_⟩ [], .mk ⟨4, ⟨#[116]⟩, 1, none_⟩ []]
theorem wp9 : parseV (oneT ⟨#[49]⟩ ⟨#[110, 117, 108, 108]⟩ ⟨#[34, 34]⟩ ⟨#[49]⟩ : ByteArray).data.toList = .ok wj9 := by kernel_rfl
theorem wf9 : TextsOk wj9.flat ∧ NdFit wj9.flat := fit_lit (by kernel_rfl)
theorem wr9 : RowOf exC wj9.flat [] 90 := RowOf_is exC_named exC_kinds (parseV_may wp9) (by kernel_rfl)
def exR : List Cell := [⟨false, 5, ⟨#[]⟩⟩, ⟨true, 0, ⟨#[]⟩⟩, ⟨false, 0, ⟨#[0, 255]⟩⟩, ⟨false, 1, ⟨#[]⟩⟩]
def exQ : List Cell := [⟨false, 5, ⟨#[]⟩⟩, ⟨false, 0, ⟨#[97]⟩⟩]
theorem exR_err : rowErr vU exC exR = 0 := by kernel_rfl
theorem exR_tape : RowT exC exR (objC exC exR).flat 0 := RowT_fine exC_named exR_err (by decide)
theorem exR_show : ShowT (objC exC exR).flat [123, 34, 105, 100, 34, 58, 53, 44, 34, 115, 34, 58, 110, 117, 108, 108, 44, 34, 98, 34, 58, 34, 48, 48, 102, 102, 34, 44, 34, 116, 34, 58, 116, 114, 117, 101, 125] 0 := .inr ⟨_, objC_may exC_named exR_err (by decide), .inl ⟨by rw [show (objC exC exR).show = [123, 34, 105, 100, 34, 58, 53, 44, 34, 115, 34, 58, 110, 117, 108, 108, 44, 34, 98, 34, 58, 34, 48, 48, 102, 102, 34, 44, 34, 116, 34, 58, 116, 114, 117, 101, 125] from by kernel_rfl]; decide, by kernel_rfl, rfl⟩⟩
theorem exR_fine : Fine 60 (objC exC exR).flat where
 every := fun x hx => by
  have h : ((objC exC exR).flat.all fun x => decide (x.key.size ≤ 60 ∧ x.s.size ≤ 60 ∧ -9223372036854775808 ≤ x.n ∧ x.n ≤ 9223372036854775807)) = true := by kernel_rfl
  simpa using List.all_eq_true.1 h x hx
 small := by omega
 room := by decide
theorem exQ_tape : RowT exC exQ [] 100 := .inr (.inl ⟨exC_named, by decide, rfl, by decide⟩)
def exI : Col := ⟨0, ⟨#[105, 100]⟩, 2, false, zc⟩
theorem exI_tape : RowT [exI, exI] [zc, zc] [] 2 := .inl ⟨by decide +kernel, rfl, rfl⟩
inductive WkK where
 | eq (v : Value)
 | cols (l : List Col)
 | at_ (c : Col)
 | row (r : List Cell)
def WkK.good : WkK → Value → World → Prop
 | .eq u, v, _ => v = u
 | .cols l, v, w => ∃ A c, v = .slice A l.length c ∧ ColsIs w v l
 | .at_ x, v, w => ∃ b o, v = .pointer (some ⟨b, o, none⟩) ∧ ColAt w b o x
 | .row r, v, w => ∃ A c, v = .slice A r.length c ∧ RowIs w v r
theorem WkK.old {x : WkK} {v : Value} {w w' : World} (h : x.good v w) (o : Old w w') : x.good v w' := by
 cases x with
 | eq u => exact h
 | cols l => obtain ⟨A, c, h1, h2⟩ := h; exact ⟨A, c, h1, h2.old o⟩
 | at_ c => obtain ⟨b, q, h1, h2⟩ := h; exact ⟨b, q, h1, h2.old o⟩
 | row r => obtain ⟨A, c, h1, h2⟩ := h; exact ⟨A, c, h1, h2.old o⟩
theorem WkK.at' {KD : List WkK} {i : Nat} {y : WkK} {v : Value} {w : World} (h : KD[i]? = some y) (hy : y.good v w) : ∀ x, KD[i]? = some x → x.good v w := fun x hx => by
 rw [h] at hx
 cases hx
 exact hy
set_option maxRecDepth 100000 in
set_option maxHeartbeats 4000000 in
theorem works19_run (w : World) (hE : Errs w) (hT : Tabs w) (hP : PowTab w) : Calls Tryz.prog 23 #[] w (Ret (.bool true) w) := by
 have HE := hide hE
 have HT := hide hT
 have HP := hide hP
 clear hE hT hP
 have CX := hide (fun w' => example19_run w')
 have CI := hide (fun v w' (o : Old w w') (hr : RowIs w' v exQ) (cv : Value) (hc : ColsIs w' cv exC) => shown_no cv v exC exQ 100 w' hc hr exC_names (by decide) (HT.out.old o) exQ_tape (by decide))
 have CH := hide (fun v w' (o : Old w w') (hr : RowIs w' v exR) (cv : Value) (hc : ColsIs w' cv exC) => shown_ok cv v exC exR (objC exC exR).flat [123, 34, 105, 100, 34, 58, 53, 44, 34, 115, 34, 58, 110, 117, 108, 108, 44, 34, 98, 34, 58, 34, 48, 48, 102, 102, 34, 44, 34, 116, 34, 58, 116, 114, 117, 101, 125] 60 w' hc hr exC_names (by decide) (HT.out.old o) (PowTab.old HP.out o) exR_tape exR_fine exR_show)
 have CJ := hide (fun v w' (o : Old w w') (hr : RowIs w' v [zc, zc]) (cv : Value) (hc : ColsIs w' cv [exI, exI]) => shown_no cv v [exI, exI] [zc, zc] 2 w' hc hr (by intro c hc; simp at hc; subst hc; show _ ≤ maxLen; unfold maxLen; decide) (by decide) (HT.out.old o) exI_tape (by decide))
 have CR := hide (fun w' (o : Old w w') => reads19_run ⟨#[123, 34, 116, 34, 58, 102, 97, 108, 115, 101, 44, 34, 98, 34, 58, 34, 34, 44, 34, 115, 34, 58, 34, 120, 34, 44, 34, 105, 100, 34, 58, 45, 49, 125]⟩ wj0 _ _ w' (by decide) (HE.out.old o) (HT.out.old o) wp0 wf0.1 wf0.2 wr0)
 have CF1 := hide (fun w' (o : Old w w') => fails19_ok ⟨#[123, 34, 98, 34, 58, 34, 34, 44, 34, 115, 34, 58, 34, 120, 34, 44, 34, 105, 100, 34, 58, 45, 49, 125]⟩ wj1 200 w' (by decide) (HE.out.old o) (HT.out.old o) wp1 wf1.1 wf1.2 wr1)
 have CF2 := hide (fun w' (o : Old w w') => fails19_ok ⟨#[123, 34, 116, 34, 58, 102, 97, 108, 115, 101, 44, 34, 98, 34, 58, 34, 34, 44, 34, 115, 34, 58, 34, 120, 34, 44, 34, 105, 100, 34, 58, 45, 49, 44, 34, 117, 34, 58, 49, 125]⟩ wj2 200 w' (by decide) (HE.out.old o) (HT.out.old o) wp2 wf2.1 wf2.2 wr2)
 have CF3 := hide (fun w' (o : Old w w') => fails19_ok ⟨#[91, 53, 93]⟩ wj3 200 w' (by decide) (HE.out.old o) (HT.out.old o) wp3 wf3.1 wf3.2 wr3)
 have CO0 := hide (fun w' (o : Old w w') => one19_run ⟨#[50, 49, 52, 55, 52, 56, 51, 54, 52, 56]⟩ ⟨#[34, 34]⟩ ⟨#[34, 34]⟩ ⟨#[116, 114, 117, 101]⟩ wj4 w' (by decide) (by decide) (by decide) (by decide) (HE.out.old o) (HT.out.old o) wp4 wf4.1 wf4.2 wr4)
 have CO1 := hide (fun w' (o : Old w w') => one19_run ⟨#[110, 117, 108, 108]⟩ ⟨#[110, 117, 108, 108]⟩ ⟨#[34, 34]⟩ ⟨#[116, 114, 117, 101]⟩ wj5 w' (by decide) (by decide) (by decide) (by decide) (HE.out.old o) (HT.out.old o) wp5 wf5.1 wf5.2 wr5)
 have CO2 := hide (fun w' (o : Old w w') => one19_run ⟨#[49]⟩ ⟨#[49]⟩ ⟨#[34, 34]⟩ ⟨#[116, 114, 117, 101]⟩ wj6 w' (by decide) (by decide) (by decide) (by decide) (HE.out.old o) (HT.out.old o) wp6 wf6.1 wf6.2 wr6)
 have CO3 := hide (fun w' (o : Old w w') => one19_run ⟨#[49]⟩ ⟨#[110, 117, 108, 108]⟩ ⟨#[34, 48, 70, 34]⟩ ⟨#[116, 114, 117, 101]⟩ wj7 w' (by decide) (by decide) (by decide) (by decide) (HE.out.old o) (HT.out.old o) wp7 wf7.1 wf7.2 wr7)
 have CO4 := hide (fun w' (o : Old w w') => one19_run ⟨#[49]⟩ ⟨#[110, 117, 108, 108]⟩ ⟨#[34, 48, 34]⟩ ⟨#[116, 114, 117, 101]⟩ wj8 w' (by decide) (by decide) (by decide) (by decide) (HE.out.old o) (HT.out.old o) wp8 wf8.1 wf8.2 wr8)
 have CO5 := hide (fun w' (o : Old w w') => one19_run ⟨#[49]⟩ ⟨#[110, 117, 108, 108]⟩ ⟨#[34, 34]⟩ ⟨#[49]⟩ wj9 w' (by decide) (by decide) (by decide) (by decide) (HE.out.old o) (HT.out.old o) wp9 wf9.1 wf9.2 wr9)
 unfold Ret at *
 go_enter Tryz.func23, Tryz.ntmps23
 go_wp2_with fail
 refine (CX.out _).mono ?_
 rintro e w1 ⟨v1, rfl, c1, o1⟩
 obtain ⟨W1, hW1⟩ : ∃ W1, W1 = w1.alloc (.cells #[.bool false, .int .i64 5, .string ⟨#[]⟩, .bool true, .int .i64 0, .string ⟨#[]⟩, .bool false, .int .i64 0, .string ⟨#[0, 255]⟩, .bool false, .int .i64 1, .string ⟨#[]⟩] 38) := ⟨_, rfl⟩
 have R1 := hide (show RowIs W1 (.slice (some ⟨w1.heap.size, 0, none⟩) 4 4) exR by rw [hW1]; exact (cells_lit w1 exR _ rfl 4 rfl (by omega) _ (Nat.le_refl _)).sl)
 have O1 := hide (show Old w W1 by rw [hW1]; exact Old.alloc o1 _)
 have C1 := hide (show ColsIs W1 v1 exC by rw [hW1]; exact c1.sl.old (Old.alloc (Old.refl _) _))
 have CH1 := hide (CH.out _ W1 O1.out R1.out v1 C1.out)
 clear c1 o1
 go_wp2_with fail
 rw [← hW1]
 refine CH1.out.mono ?_
 rintro e w2 ⟨rfl, o2⟩
 have O2 := hide (Old.trans O1.out o2)
 clear o2 CH CH1 R1 C1 hW1
 go_wp2_with fail
 refine (CX.out _).mono ?_
 rintro e w3 ⟨v3, rfl, c3, o3⟩
 obtain ⟨W3, hW3⟩ : ∃ W3, W3 = w3.alloc (.cells #[.bool false, .int .i64 5, .string ⟨#[]⟩, .bool false, .int .i64 0, .string ⟨#[97]⟩] 38) := ⟨_, rfl⟩
 have R3 := hide (show RowIs W3 (.slice (some ⟨w3.heap.size, 0, none⟩) 2 2) exQ by rw [hW3]; exact (cells_lit w3 exQ _ rfl 2 rfl (by omega) _ (Nat.le_refl _)).sl)
 have O3 := hide (show Old w W3 by rw [hW3]; exact Old.alloc (Old.trans O2.out o3) _)
 have C3 := hide (show ColsIs W3 v3 exC by rw [hW3]; exact c3.sl.old (Old.alloc (Old.refl _) _))
 have CI1 := hide (CI.out _ W3 O3.out R3.out v3 C3.out)
 clear c3 o3
 go_wp2_with fail
 rw [← hW3]
 refine CI1.out.mono ?_
 rintro e w4 ⟨rfl, o4⟩
 have O4 := hide (Old.trans O3.out o4)
 clear o4 CI CI1 R3 C3 hW3
 go_wp2_with fail
 obtain ⟨KD, hKD⟩ : ∃ l : List WkK, l = [.cols exC, .at_ exI, .eq (.agg #[.int .i64 0, .string ⟨#[105, 100]⟩, .int .i64 2, .bool false, .bool false, .int .i64 0, .string ⟨#[]⟩]), .cols exC, .at_ exI, .eq (.agg #[.int .i64 0, .string ⟨#[105, 100]⟩, .int .i64 2, .bool false, .bool false, .int .i64 0, .string ⟨#[]⟩]), .cols [exI, exI], .eq (.agg #[.bool false, .int .i64 0, .string ⟨#[]⟩]), .eq (.agg #[.bool false, .int .i64 0, .string ⟨#[]⟩]), .row [zc, zc], .eq (.tuple #[.string ⟨#[]⟩, .int .i64 2]), .eq (.tuple #[.string ⟨#[]⟩, .int .i64 2]), .eq (.string ⟨#[]⟩), .eq (.int .i64 2), .eq (.string ⟨#[]⟩), .eq (.int .i64 2)] := ⟨_, rfl⟩
 have hkd : ∀ (i : Nat) (x : WkK), ([.cols exC, .at_ exI, .eq (.agg #[.int .i64 0, .string ⟨#[105, 100]⟩, .int .i64 2, .bool false, .bool false, .int .i64 0, .string ⟨#[]⟩]), .cols exC, .at_ exI, .eq (.agg #[.int .i64 0, .string ⟨#[105, 100]⟩, .int .i64 2, .bool false, .bool false, .int .i64 0, .string ⟨#[]⟩]), .cols [exI, exI], .eq (.agg #[.bool false, .int .i64 0, .string ⟨#[]⟩]), .eq (.agg #[.bool false, .int .i64 0, .string ⟨#[]⟩]), .row [zc, zc], .eq (.tuple #[.string ⟨#[]⟩, .int .i64 2]), .eq (.tuple #[.string ⟨#[]⟩, .int .i64 2]), .eq (.string ⟨#[]⟩), .eq (.int .i64 2), .eq (.string ⟨#[]⟩), .eq (.int .i64 2)] : List WkK)[i]? = some x → KD[i]? = some x := fun i x h => by rw [hKD]; exact h
 clear hKD
 refine region_dag_l (fun val => ⟨#[Value.bool false, Value.string { data := #[123, 34, 105, 100, 34, 58, 53, 44, 34, 115, 34, 58, 110, 117, 108, 108, 44, 34, 98, 34, 58, 34, 48, 48, 102, 102, 34, 44, 34, 116, 34, 58, 116, 114, 117, 101, 125] }, Value.int IntKind.i64 0, Value.string { data := #[] }, Value.int IntKind.i64 100, val 14, val 15, undef, undef, undef, Value.tuple #[Value.string { data := #[123, 34, 105, 100, 34, 58, 53, 44, 34, 115, 34, 58, 110, 117, 108, 108, 44, 34, 98, 34, 58, 34, 48, 48, 102, 102, 34, 44, 34, 116, 34, 58, 116, 114, 117, 101, 125] }, Value.int IntKind.i64 0], v1, Value.agg #[Value.bool false, Value.int IntKind.i64 5, Value.string { data := #[] }], Value.agg #[Value.bool true, Value.int IntKind.i64 0, Value.string { data := #[] }], Value.agg #[Value.bool false, Value.int IntKind.i64 0, Value.string { data := #[0, 255] }], Value.agg #[Value.bool false, Value.int IntKind.i64 1, Value.string { data := #[] }], Value.slice (some { block := w1.heap.size, off := 0 }) 4 4, Value.tuple #[Value.string { data := #[123, 34, 105, 100, 34, 58, 53, 44, 34, 115, 34, 58, 110, 117, 108, 108, 44, 34, 98, 34, 58, 34, 48, 48, 102, 102, 34, 44, 34, 116, 34, 58, 116, 114, 117, 101, 125] }, Value.int IntKind.i64 0], Value.string { data := #[123, 34, 105, 100, 34, 58, 53, 44, 34, 115, 34, 58, 110, 117, 108, 108, 44, 34, 98, 34, 58, 34, 48, 48, 102, 102, 34, 44, 34, 116, 34, 58, 116, 114, 117, 101, 125] }, Value.int IntKind.i64 0, Value.tuple #[Value.string { data := #[] }, Value.int IntKind.i64 100], v3, Value.agg #[Value.bool false, Value.int IntKind.i64 5, Value.string { data := #[] }], Value.agg #[Value.bool false, Value.int IntKind.i64 0, Value.string { data := #[97] }], Value.slice (some { block := w3.heap.size, off := 0 }) 2 2, Value.tuple #[Value.string { data := #[] }, Value.int IntKind.i64 100], Value.string { data := #[] }, Value.int IntKind.i64 100, val 11, val 0, val 1, val 2, val 3, val 4, val 5, val 6, val 7, val 8, val 9, val 10, val 12, val 13, undef, undef, undef, undef, undef, undef, undef, undef, undef, undef, undef, undef, undef, undef, undef, undef, undef, undef, undef, undef, undef, undef, undef, undef, undef, undef, undef, undef, undef, undef, undef, undef, undef, undef, undef, undef, undef, undef, undef, undef, undef, undef, undef, undef, undef, undef, undef, undef, undef, undef, undef, undef, undef, undef, undef, undef, undef, undef, undef, undef, undef, undef, undef, undef], []⟩) (fun i => ([undef, undef, undef, undef, undef, undef, undef, undef, undef, undef, undef, undef, undef, undef, undef, undef] : List Value).getD i undef) (fun (i : Nat) v w' => ∀ x, KD[i]? = some x → x.good v w') (by kernel_rfl) (by kernel_rfl) rfl ?_ (fun i v w' w'' o h x hx => WkK.old (h x hx) o) ?_ ?_
 · repeat' (first | exact True.intro | refine And.intro (fun _ _ => rfl) ?_)
 · refine ⟨?s0, ?s1, ?s2, ?s3, ?s4, ?s5, ?s6, ?s7, ?s8, ?s9, ?s10, ?s11, ?s12, ?s13, ?s14, ?s15, True.intro⟩
   case s0 =>
    intro val w2 ho hw K hK
    refine wp_enter (w' := w2) (by go_simp) ((CX.out w2).mono ?_)
    rintro e w5 ⟨v, rfl, c, o⟩
    have c2 := c.sl
    obtain ⟨A, cap, rfl, _⟩ := c
    exact ⟨_, rfl, hK _ _ o (WkK.at' (hkd 0 _ rfl) ⟨A, cap, rfl, c2⟩)⟩
   case s1 =>
    intro val w2 ho hw K hK
    have d0 := hw ⟨0, .data⟩ (by simp) rfl _ (hkd 0 _ rfl)
    obtain ⟨A, cap, h0, c0⟩ := d0
    rw [h0] at c0
    obtain ⟨A', cap', e', _, _, hcc⟩ := cols_form c0
    injection e' with e1 e2 e3
    subst e1
    obtain ⟨b, off, rfl, hq⟩ := hcc.resolve_left (by decide)
    have hat := hq 0 (by decide)
    rw [Nat.zero_mul, Nat.add_zero] at hat
    have hl4 : exC.length = 4 := rfl
    rw [hl4] at h0
    refine wp_value (v := .pointer (some ⟨b, off, none⟩)) (w' := w2) (by go_simp) (hK _ _ (Old.refl _) (WkK.at' (hkd 1 _ rfl) ⟨b, off, rfl, hat⟩))
   case s2 =>
    intro val w2 ho hw K hK
    have d1 := hw ⟨1, .data⟩ (by simp) rfl _ (hkd 1 _ rfl)
    obtain ⟨b, off, h0, ⟨q0, q1, q2, q3, q4, q5, q6⟩⟩ := d1
    refine wp_value (v := (.agg #[.int .i64 0, .string ⟨#[105, 100]⟩, .int .i64 2, .bool false, .bool false, .int .i64 0, .string ⟨#[]⟩])) (w' := w2) (by go_simp; exact ⟨rfl, rfl, rfl, rfl, rfl, rfl, rfl⟩) (hK _ _ (Old.refl _) (WkK.at' (hkd 2 _ rfl) rfl))
   case s3 =>
    intro val w2 ho hw K hK
    refine wp_enter (w' := w2) (by go_simp) ((CX.out w2).mono ?_)
    rintro e w5 ⟨v, rfl, c, o⟩
    have c2 := c.sl
    obtain ⟨A, cap, rfl, _⟩ := c
    exact ⟨_, rfl, hK _ _ o (WkK.at' (hkd 3 _ rfl) ⟨A, cap, rfl, c2⟩)⟩
   case s4 =>
    intro val w2 ho hw K hK
    have d3 := hw ⟨3, .data⟩ (by simp) rfl _ (hkd 3 _ rfl)
    obtain ⟨A, cap, h0, c0⟩ := d3
    rw [h0] at c0
    obtain ⟨A', cap', e', _, _, hcc⟩ := cols_form c0
    injection e' with e1 e2 e3
    subst e1
    obtain ⟨b, off, rfl, hq⟩ := hcc.resolve_left (by decide)
    have hat := hq 0 (by decide)
    rw [Nat.zero_mul, Nat.add_zero] at hat
    have hl4 : exC.length = 4 := rfl
    rw [hl4] at h0
    refine wp_value (v := .pointer (some ⟨b, off, none⟩)) (w' := w2) (by go_simp) (hK _ _ (Old.refl _) (WkK.at' (hkd 4 _ rfl) ⟨b, off, rfl, hat⟩))
   case s5 =>
    intro val w2 ho hw K hK
    have d4 := hw ⟨4, .data⟩ (by simp) rfl _ (hkd 4 _ rfl)
    obtain ⟨b, off, h0, ⟨q0, q1, q2, q3, q4, q5, q6⟩⟩ := d4
    refine wp_value (v := (.agg #[.int .i64 0, .string ⟨#[105, 100]⟩, .int .i64 2, .bool false, .bool false, .int .i64 0, .string ⟨#[]⟩])) (w' := w2) (by go_simp; exact ⟨rfl, rfl, rfl, rfl, rfl, rfl, rfl⟩) (hK _ _ (Old.refl _) (WkK.at' (hkd 5 _ rfl) rfl))
   case s6 =>
    intro val w2 ho hw K hK
    have d2 : val 2 = (.agg #[.int .i64 0, .string ⟨#[105, 100]⟩, .int .i64 2, .bool false, .bool false, .int .i64 0, .string ⟨#[]⟩]) := hw ⟨2, .data⟩ (by simp) rfl _ (hkd 2 _ rfl)
    have d5 : val 5 = (.agg #[.int .i64 0, .string ⟨#[105, 100]⟩, .int .i64 2, .bool false, .bool false, .int .i64 0, .string ⟨#[]⟩]) := hw ⟨5, .data⟩ (by simp) rfl _ (hkd 5 _ rfl)
    refine wp_value (v := .slice (some ⟨w2.heap.size, 0, none⟩) 2 2) (w' := w2.alloc (.cells #[.int .i64 0, .string ⟨#[105, 100]⟩, .int .i64 2, .bool false, .bool false, .int .i64 0, .string ⟨#[]⟩, .int .i64 0, .string ⟨#[105, 100]⟩, .int .i64 2, .bool false, .bool false, .int .i64 0, .string ⟨#[]⟩] 56)) (by go_simp) (hK _ _ (Old.alloc (Old.refl _) _) (WkK.at' (hkd 6 _ rfl) ⟨_, _, rfl, (cols_lit w2 [exI, exI] _ rfl 2 rfl (by omega) _ (Nat.le_refl _)).sl⟩))
   case s7 =>
    intro val w2 ho hw K hK
    refine wp_value (v := (.agg #[.bool false, .int .i64 0, .string ⟨#[]⟩])) (w' := w2) (by go_simp) (hK _ _ (Old.refl _) (WkK.at' (hkd 7 _ rfl) rfl))
   case s8 =>
    intro val w2 ho hw K hK
    refine wp_value (v := (.agg #[.bool false, .int .i64 0, .string ⟨#[]⟩])) (w' := w2) (by go_simp) (hK _ _ (Old.refl _) (WkK.at' (hkd 8 _ rfl) rfl))
   case s9 =>
    intro val w2 ho hw K hK
    have d7 : val 7 = (.agg #[.bool false, .int .i64 0, .string ⟨#[]⟩]) := hw ⟨7, .data⟩ (by simp) rfl _ (hkd 7 _ rfl)
    have d8 : val 8 = (.agg #[.bool false, .int .i64 0, .string ⟨#[]⟩]) := hw ⟨8, .data⟩ (by simp) rfl _ (hkd 8 _ rfl)
    refine wp_value (v := .slice (some ⟨w2.heap.size, 0, none⟩) 2 2) (w' := w2.alloc (.cells #[.bool false, .int .i64 0, .string ⟨#[]⟩, .bool false, .int .i64 0, .string ⟨#[]⟩] 38)) (by go_simp) (hK _ _ (Old.alloc (Old.refl _) _) (WkK.at' (hkd 9 _ rfl) ⟨_, _, rfl, (cells_lit w2 [zc, zc] _ rfl 2 rfl (by omega) _ (Nat.le_refl _)).sl⟩))
   case s10 =>
    intro val w2 ho hw K hK
    have d6 := hw ⟨6, .data⟩ (by simp) rfl _ (hkd 6 _ rfl)
    have d9 := hw ⟨9, .data⟩ (by simp) rfl _ (hkd 9 _ rfl)
    obtain ⟨A6, c6, h6, k6⟩ := d6
    obtain ⟨A9, c9, h9, k9⟩ := d9
    have CC := CJ.out (val 9) w2 (Old.trans O4.out ho) k9 (val 6) k6
    refine wp_enter (w' := w2) (by go_simp) (CC.mono ?_)
    rintro e w5 ⟨rfl, o⟩
    exact ⟨_, rfl, hK _ _ o (WkK.at' (hkd 10 _ rfl) rfl)⟩
   case s11 =>
    intro val w2 ho hw K hK
    have d10 : val 10 = (.tuple #[.string ⟨#[]⟩, .int .i64 2]) := hw ⟨10, .data⟩ (by simp) rfl _ (hkd 10 _ rfl)
    refine wp_value (v := (.tuple #[.string ⟨#[]⟩, .int .i64 2])) (w' := w2) (by go_simp) (hK _ _ (Old.refl _) (WkK.at' (hkd 11 _ rfl) rfl))
   case s12 =>
    intro val w2 ho hw K hK
    have d11 : val 11 = (.tuple #[.string ⟨#[]⟩, .int .i64 2]) := hw ⟨11, .data⟩ (by simp) rfl _ (hkd 11 _ rfl)
    refine wp_value (v := (.string ⟨#[]⟩)) (w' := w2) (by go_simp) (hK _ _ (Old.refl _) (WkK.at' (hkd 12 _ rfl) rfl))
   case s13 =>
    intro val w2 ho hw K hK
    have d11 : val 11 = (.tuple #[.string ⟨#[]⟩, .int .i64 2]) := hw ⟨11, .data⟩ (by simp) rfl _ (hkd 11 _ rfl)
    refine wp_value (v := (.int .i64 2)) (w' := w2) (by go_simp) (hK _ _ (Old.refl _) (WkK.at' (hkd 13 _ rfl) rfl))
   case s14 =>
    intro val w2 ho hw K hK
    have d12 : val 12 = (.string ⟨#[]⟩) := hw ⟨12, .data⟩ (by simp) rfl _ (hkd 12 _ rfl)
    refine wp_value (v := (.string ⟨#[]⟩)) (w' := w2) (by go_simp) (hK _ _ (Old.refl _) (WkK.at' (hkd 14 _ rfl) rfl))
   case s15 =>
    intro val w2 ho hw K hK
    have d13 : val 13 = (.int .i64 2) := hw ⟨13, .data⟩ (by simp) rfl _ (hkd 13 _ rfl)
    refine wp_value (v := (.int .i64 2)) (w' := w2) (by go_simp) (hK _ _ (Old.refl _) (WkK.at' (hkd 15 _ rfl) rfl))
 · intro val w5 ho hg
   have h14 : val 14 = (.string ⟨#[]⟩) := hg 14 (by decide) _ (hkd 14 _ rfl)
   have h15 : val 15 = (.int .i64 2) := hg 15 (by decide) _ (hkd 15 _ rfl)
   clear hg hkd
   dsimp only
   rw [h14, h15]
   have O5 := hide (Old.trans O4.out ho)
   clear h14 h15 ho CJ
   go_wp2_with fail
   refine (CR.out _ O5.out).mono ?_
   rintro e w6 ⟨v6, rfl, r6, o6⟩
   have O6 := hide (Old.trans O5.out o6)
   obtain ⟨A6, c6, rfl, r7⟩ := r6
   have R6 := hide (show RowIs w6 (.slice A6 4 c6) [⟨false, -1, ⟨#[]⟩⟩, ⟨false, 0, ⟨#[120]⟩⟩, zc, zc] from SlT.sl ⟨A6, c6, rfl, r7⟩)
   clear o6 r7 CR
   obtain ⟨W7, hW7⟩ : ∃ W7, W7 = w6.alloc (.cells #[.bool false, .int .i64 (-1), .string ⟨#[]⟩, .bool false, .int .i64 0, .string ⟨#[120]⟩, .bool false, .int .i64 0, .string ⟨#[]⟩, .bool false, .int .i64 0, .string ⟨#[]⟩] 38) := ⟨_, rfl⟩
   have O7 := hide (show Old w W7 by rw [hW7]; exact Old.alloc O6.out _)
   have CE := hide (eqRow (.slice A6 4 c6) (.slice (some ⟨w6.heap.size, 0, none⟩) 4 4) _ _ W7 (show RowIs W7 _ _ by rw [hW7]; exact R6.out.old (Old.alloc (Old.refl _) _)) (show RowIs W7 _ [⟨false, -1, ⟨#[]⟩⟩, ⟨false, 0, ⟨#[120]⟩⟩, zc, zc] by rw [hW7]; exact (cells_lit w6 _ _ rfl 4 rfl (by omega) _ (Nat.le_refl _)).sl))
   rw [show sameRow [⟨false, -1, ⟨#[]⟩⟩, ⟨false, 0, ⟨#[120]⟩⟩, zc, zc] [⟨false, -1, ⟨#[]⟩⟩, ⟨false, 0, ⟨#[120]⟩⟩, zc, zc] = true by simp [sameRow]] at CE
   go_wp2_with fail
   rw [← hW7]
   clear hW7
   refine CE.out.mono ?_
   rintro e w8 ⟨rfl, o8⟩
   have O8 := hide (Old.trans O7.out o8)
   clear o8 CE R6
   go_wp2_with fail
   refine (CF1.out _ O8.out).mono ?_
   rintro e w9 ⟨rfl, o9⟩
   have O9 := hide (Old.trans O8.out o9)
   clear o9
   go_wp2_with fail
   refine (CF2.out _ O9.out).mono ?_
   rintro e w10 ⟨rfl, o10⟩
   have O10 := hide (Old.trans O9.out o10)
   clear o10
   go_wp2_with fail
   refine (CF3.out _ O10.out).mono ?_
   rintro e w11 ⟨rfl, o11⟩
   have O11 := hide (Old.trans O10.out o11)
   clear o11
   go_wp2_with fail
   refine (CO0.out _ O11.out).mono ?_
   rintro e w12 ⟨rfl, o12⟩
   have O12 := hide (Old.trans O11.out o12)
   clear o12
   go_wp2_with fail
   refine (CO1.out _ O12.out).mono ?_
   rintro e w13 ⟨rfl, o13⟩
   have O13 := hide (Old.trans O12.out o13)
   clear o13
   go_wp2_with fail
   refine (CO2.out _ O13.out).mono ?_
   rintro e w14 ⟨rfl, o14⟩
   have O14 := hide (Old.trans O13.out o14)
   clear o14
   go_wp2_with fail
   refine (CO3.out _ O14.out).mono ?_
   rintro e w15 ⟨rfl, o15⟩
   have O15 := hide (Old.trans O14.out o15)
   clear o15
   go_wp2_with fail
   refine (CO4.out _ O15.out).mono ?_
   rintro e w16 ⟨rfl, o16⟩
   have O16 := hide (Old.trans O15.out o16)
   clear o16
   go_wp2_with fail
   refine (CO5.out _ O16.out).mono ?_
   rintro e w17 ⟨rfl, o17⟩
   have O17 := hide (Old.trans O16.out o17)
   clear o17
   go_wp2_with fail
   go_ret
   exact ⟨rfl, O17.out⟩
end Go.Proofs.YthlfljmfggmfdaaGreatDoor

/-! ###  -/
namespace Go.Proofs.YthlfljmfggmfdaaGreatDoor
open Go.RowKit
theorem neq_col (a : Col) (w : World) : (binOp .neq 56 (Co a) (Co a)).run Tryz.prog w = .ok (.bool false) w := by
 unfold Co
 rw [run_neq_struct, run_equalIn_agg _ _ _ _ _ colFields colStood]
 simp only [Program.fieldsOf, Tryz.underlying56]
 obtain ⟨x0, x1, x2, x3, ⟨x4, x5, x6⟩⟩ := a
 simp [go_sem]
set_option maxRecDepth 100000 in
set_option maxHeartbeats 1000000 in
theorem eqCols_same (va vb : Value) (l : List Col) (w : World) (ha : ColsIs w va l) (hb : ColsIs w vb l) :
 Calls Tryz.prog 22 #[va, vb] w (Ret (.bool true) w) := by
 unfold Ret
 have hG := colGuard
 obtain ⟨A, ca, rfl, hla, hma, ha⟩ := cols_form ha
 obtain ⟨B, cb, rfl, hlb, hmb, hb⟩ := cols_form hb
 unfold maxLen at hma hmb
 have HA := hide ha
 have HB := hide hb
 clear ha hb
 have hl' : ((l.length : Int) != (l.length : Int)) = false := by simp
 go_enter Tryz.func22, Tryz.ntmps22
 go_wp2_with fail
 go_loopw [5] (fun i wr => ∃ k : Nat, i = .int .i64 k ∧ k ≤ l.length ∧ Hid (Old w wr)) (fun i _ => l.length - (intOf i).toNat)
 case atStart => exact ⟨0, rfl, by omega, hide (Old.refl _)⟩
 case round =>
  obtain ⟨k, rfl, hk, HO⟩ := hrel
  by_cases hlt : k < l.length
  · have hli : (k : Int) < (l.length : Int) := by omega
    obtain ⟨b1, o1, rfl, hc1⟩ := HA.out.resolve_left (by omega)
    obtain ⟨b2, o2, rfl, hc2⟩ := HB.out.resolve_left (by omega)
    obtain ⟨x0, x1, x2, x3, x4, x5, x6⟩ := (hc1 k hlt).old HO.out
    obtain ⟨y0, y1, y2, y3, y4, y5, y6⟩ := (hc2 k hlt).old HO.out
    have hq := fun w' => neq_col l[k] w'
    unfold Co at hq
    generalize l[k] = x at *
    clear hc1 hc2
    go_wp2_with fail
    go_quiet (fail)
    clear x0 x1 x2 x3 x4 x5 x6 y0 y1 y2 y3 y4 y5 y6 hq
    go_wp2_with fail
    go_roundw
    case rel => exact ⟨k + 1, by go_num, by omega, hide (Old.drewN HO.out _)⟩
    case measure => simp [intOf]; omega
  · have hli : ¬ (k : Int) < (l.length : Int) := by omega
    go_wp2_with fail
    go_ret
    exact ⟨rfl, HO.out⟩
theorem sl_other {T T' lo n g i : Nat} {w : World} {v : Value} {xs : List Value} {cs : Array Value} {f : Nat × Nat} (h : SlT T lo w v n xs) (hg : w.heap[g]? = some (.cells cs T' f)) (hne : T ≠ T') (u : Value) : SlT T lo (w.setCell ⟨g, i, none⟩ u) v n xs := by
 obtain ⟨A, cap, rfl, h1, h2, h3⟩ := h
 refine ⟨A, cap, rfl, h1, h2, fun hx => ?_⟩
 obtain ⟨b, off, cs', rfl, hl, hh, hc⟩ := h3 hx
 refine ⟨b, off, cs', rfl, hl, ?_, hc⟩
 have hgb : g ≠ b := by
  rintro rfl
  rw [hg] at hh
  injection hh with hh
  injection hh with _ hh
  exact hne hh.symm
 rw [heap_set_other hgb]
 exact hh
theorem heap_set_here {g i : Nat} {w : World} {cs : Array Value} {T : Nat} {f : Nat × Nat} (hg : w.heap[g]? = some (.cells cs T f)) (u : Value) : ∃ cs', (w.setCell ⟨g, i, none⟩ u).heap[g]? = some (.cells cs' T f) := ⟨cs.setIfInBounds i u, by simp [World.setCell, Array.getElem?_modify, hg]⟩
theorem slT_block {T lo n : Nat} {w : World} {v : Value} {xs : List Value} (h : SlT T lo w v n xs) (hx : xs ≠ []) : ∃ b off cap cs f, v = .slice (some ⟨b, off, none⟩) n cap ∧ lo ≤ b ∧ w.heap[b]? = some (.cells cs T f) ∧ ∀ j u, xs[j]? = some u → w.cell? ⟨b, off + j, none⟩ = some u := by
 obtain ⟨A, cap, rfl, h1, h2, h3⟩ := h
 obtain ⟨b, off, cs', rfl, hl, hh, hc⟩ := h3 hx
 exact ⟨b, off, cap, cs', _, rfl, hl, hh, fun j u hu => (cell_of_heap hh).trans (hc j u hu)⟩
abbrev W5 (w : World) (g b : Nat) (v0 v1 v2 v3 v4 : Value) : World := ((((w.setCell ⟨g, b, none⟩ v0).setCell ⟨g, b + 1, none⟩ v1).setCell ⟨g, b + 2, none⟩ v2).setCell ⟨g, b + 3, none⟩ v3).setCell ⟨g, b + 4, none⟩ v4
abbrev W3 (w : World) (g b : Nat) (v0 v1 v2 : Value) : World := ((w.setCell ⟨g, b, none⟩ v0).setCell ⟨g, b + 1, none⟩ v1).setCell ⟨g, b + 2, none⟩ v2
end Go.Proofs.YthlfljmfggmfdaaGreatDoor
