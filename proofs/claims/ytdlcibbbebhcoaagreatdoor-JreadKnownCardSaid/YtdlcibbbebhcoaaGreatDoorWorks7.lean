/- The chapter's examples: what a text is read as; works. -/
import Derived.Test.YtdlcibbbebhcoaaGreatDoorJr13
import Derived.Test.YtdlcibbbebhcoaaGreatDoorChk
/-! ### The chapter's examples: what a text is read as; works. -/
namespace Go.Proofs.YtdlcibbbebhcoaaGreatDoor
open Go.RowKit

theorem sameNds_self (l : List Nd) : sameNds l l = true := by simp [sameNds]
set_option maxRecDepth 100000 in
theorem reads_ok (s : ByteArray) (v : Value) (l : List Nd) (j : J) (w : World) (hs : s.size ≤ 1073741824) (hE : Errs w) (hT : Tabs w) (hp : parseV s.data.toList = .ok j) (hj : j.flat = l) (hv : NodesIs w v l) (hl : l.length ≤ 4000) :
    Calls Tryz.prog 23 #[.string s, v] w fun e w' => e = .returned (.bool true) ∧ Old w w' := by
  have CP := hide ((jparse_run s w hs hE hT).mono fun e w' (h : JParsed w.heap.size s e w' ∧ Old w w') => (show (∃ A c, e = .returned (.tuple #[.slice A l.length c, .int .i64 0, .int .i64 0]) ∧ NodesIs w' (.slice A l.length c) l) ∧ Old w w' from ⟨by
    have h1 := h.1
    unfold JParsed at h1
    rw [hp] at h1
    obtain ⟨u, h2, h3⟩ := h1
    rw [hj] at h3
    have h4 := SlT.of_own h3
    obtain ⟨A, c, rfl, _⟩ := id h4
    exact ⟨A, c, h2, h4.sl⟩, h.2⟩))
  have hpos : 0 < l.length := by rw [← hj]; exact flat_pos j
  have HV := hide hv
  obtain ⟨A, ca, rfl, _, _, _⟩ := hv
  obtain ⟨n, hn⟩ : ∃ n, Hid (l.length = n) := ⟨_, hide rfl⟩
  rw [hn.out] at CP HV hpos hl ⊢
  have hpi : (0 : Int) < (n : Int) := by omega
  clear hp hj hE hT
  go_enter Tryz.func23, Tryz.ntmps23
  go_wp2_with fail
  refine CP.out.mono ?_
  rintro e w1 ⟨⟨A1, c1, rfl, n1⟩, o1⟩
  have O1 := hide o1
  have CE := hide (law_eq _ _ l l w1 n1 (HV.out.old o1))
  rw [sameNds_self] at CE
  clear o1 n1
  go_wp2_with fail
  refine CE.out.mono ?_
  rintro e w2 ⟨rfl, o2⟩
  have O2 := hide (Old.trans O1.out o2)
  clear o2
  go_wp2_with fail
  go_ret
  exact ⟨rfl, O2.out⟩
set_option maxRecDepth 100000 in
theorem fails_ok (s : ByteArray) (at_ c : Int) (p : Nat) (w : World) (hs : s.size ≤ 1073741824) (hE : Errs w) (hT : Tabs w) (hp : parseV s.data.toList = .error (p, c)) (ha : at_ = p) :
    Calls Tryz.prog 24 #[.string s, .int .i64 at_, .int .i64 c] w fun e w' => e = .returned (.bool true) ∧ Old w w' := by
  subst ha
  have CP := hide ((jparse_run s w hs hE hT).mono fun e w' (h : JParsed w.heap.size s e w' ∧ Old w w') => (show e = .returned (.tuple #[.slice none 0 0, .int .i64 (p : Int), .int .i64 c]) ∧ Old w w' from ⟨by
    have h1 := h.1
    unfold JParsed at h1
    rw [hp] at h1
    exact h1, h.2⟩))
  clear hp hE hT
  go_enter Tryz.func24, Tryz.ntmps24
  go_wp2_with fail
  refine CP.out.mono ?_
  rintro e w1 ⟨rfl, o1⟩
  have O1 := hide o1
  clear o1
  go_wp2_with fail
  go_ret
  exact ⟨rfl, O1.out⟩
def exJ7 : J := .mk ⟨7, none_, 0, none_⟩ [.mk ⟨6, ⟨#[97]⟩, 0, none_⟩ [oneJ 4 1 none_, oneJ 4 (-20) none_, oneJ 5 0 ⟨#[120, 10]⟩], .mk ⟨1, ⟨#[98]⟩, 0, none_⟩ []]
def exT7 : List Nd := [⟨7, none_, 0, none_, 6⟩, ⟨6, ⟨#[97]⟩, 0, none_, 4⟩, ⟨4, none_, 1, none_, 1⟩, ⟨4, none_, -20, none_, 1⟩, ⟨5, none_, 0, ⟨#[120, 10]⟩, 1⟩, ⟨1, ⟨#[98]⟩, 0, none_, 1⟩]
theorem exFlat7 : exJ7.flat = exT7 := by rfl
theorem exP0 : parseV (⟨#[123, 34, 97, 34, 58, 32, 91, 49, 44, 32, 45, 50, 48, 44, 32, 34, 120, 92, 110, 34, 93, 44, 32, 34, 98, 34, 58, 110, 117, 108, 108, 125]⟩ : ByteArray).data.toList = .ok exJ7 := by kernel_rfl
theorem exP1 : parseV (⟨#[48, 49]⟩ : ByteArray).data.toList = .error (1, 70) := by kernel_rfl
theorem exP2 : parseV (⟨#[49, 46, 53]⟩ : ByteArray).data.toList = .error (0, 73) := by kernel_rfl
theorem exP3 : parseV (⟨#[49, 46]⟩ : ByteArray).data.toList = .error (2, 70) := by kernel_rfl
theorem exP4 : parseV (⟨#[45]⟩ : ByteArray).data.toList = .error (1, 70) := by kernel_rfl
theorem exP5 : parseV (⟨#[49, 101, 43, 51]⟩ : ByteArray).data.toList = .error (0, 73) := by kernel_rfl
theorem exP6 : parseV (⟨#[57, 50, 50, 51, 51, 55, 50, 48, 51, 54, 56, 53, 52, 55, 55, 53, 56, 48, 56]⟩ : ByteArray).data.toList = .error (0, 73) := by kernel_rfl
theorem exP7 : parseV (⟨#[45, 57, 50, 50, 51, 51, 55, 50, 48, 51, 54, 56, 53, 52, 55, 55, 53, 56, 48, 56]⟩ : ByteArray).data.toList = .ok (oneJ 4 (-9223372036854775808) none_) := by kernel_rfl
theorem exQ0 : parseV (⟨#[91, 49, 44, 93]⟩ : ByteArray).data.toList = .error (3, 70) := by kernel_rfl
theorem exQ1 : parseV (⟨#[123, 34, 97, 34, 58, 49, 44, 34, 97, 34, 58, 50, 125]⟩ : ByteArray).data.toList = .error (7, 71) := by kernel_rfl
theorem exQ2 : parseV (⟨#[91, 34, 92, 120, 34, 93]⟩ : ByteArray).data.toList = .error (1, 41) := by kernel_rfl
theorem exQ3 : parseV (⟨#[116, 114, 117]⟩ : ByteArray).data.toList = .error (3, 70) := by kernel_rfl
theorem exQ4 : parseV (⟨#[]⟩ : ByteArray).data.toList = .error (0, 70) := by kernel_rfl
theorem exQ5 : parseV (⟨#[91, 49, 93, 32, 50]⟩ : ByteArray).data.toList = .error (4, 70) := by kernel_rfl
theorem exQ6 : parseV (⟨#[123, 34, 97, 34, 32, 49, 125]⟩ : ByteArray).data.toList = .error (5, 70) := by kernel_rfl
theorem exQ7 : parseV (⟨#[91, 91, 49, 46, 48, 120]⟩ : ByteArray).data.toList = .error (2, 73) := by kernel_rfl
theorem exQ8 : parseV (⟨#[91, 49, 32, 120]⟩ : ByteArray).data.toList = .error (3, 70) := by kernel_rfl
theorem exQ9 : parseV (⟨#[34, 97]⟩ : ByteArray).data.toList = .error (0, 3) := by kernel_rfl
theorem ex_lit (w : World) : NodesIs (w.alloc (.cells (ndVals exT7).toArray 33)) (.slice (some ⟨w.heap.size, 0, none⟩) exT7.length exT7.length) exT7 := by
  refine ⟨_, _, rfl, Nat.le_refl _, by unfold maxLen; decide, fun _ => ⟨w.heap.size, 0, rfl, fun j u hu => ?_⟩⟩
  rw [Nat.zero_add, cell_of_heap (heap_alloc_new w _)]
  simpa using hu
set_option maxRecDepth 100000 in
set_option maxHeartbeats 1000000 in
theorem works_run (w : World) (hE : Errs w) (hT : Tabs w) : Calls Tryz.prog 7 #[] w fun e w' => e = .returned (.bool true) ∧ Old w w' := by
  have HE := hide hE
  have HT := hide hT
  have X0 := hide (show NodesIs (w.alloc (.cells (ndVals exT7).toArray 33)) (.slice (some ⟨w.heap.size, 0, none⟩) exT7.length exT7.length) exT7 from (ex_lit w))
  have O0 := hide (Old.alloc (Old.refl w) (.cells (ndVals exT7).toArray 33))
  clear hE hT
  go_enter Tryz.func7, Tryz.ntmps7
  go_wp2_with fail
  refine (reads_ok ⟨#[123, 34, 97, 34, 58, 32, 91, 49, 44, 32, 45, 50, 48, 44, 32, 34, 120, 92, 110, 34, 93, 44, 32, 34, 98, 34, 58, 110, 117, 108, 108, 125]⟩ _ exT7 exJ7 _ (by decide) (HE.out.old O0.out) (HT.out.old O0.out) exP0 exFlat7 X0.out (by decide)).mono ?_
  rintro e w1 ⟨rfl, o1⟩
  have O1 := hide (Old.trans O0.out o1)
  clear o1
  go_wp2_with fail
  refine (fails_ok ⟨#[48, 49]⟩ 1 70 1 _ (by decide) (HE.out.old O1.out) (HT.out.old O1.out) exP1 (by decide)).mono ?_
  rintro e w2 ⟨rfl, o2⟩
  have O2 := hide (Old.trans O1.out o2)
  clear o2
  go_wp2_with fail
  refine (fails_ok ⟨#[49, 46, 53]⟩ 0 73 0 _ (by decide) (HE.out.old O2.out) (HT.out.old O2.out) exP2 (by decide)).mono ?_
  rintro e w3 ⟨rfl, o3⟩
  have O3 := hide (Old.trans O2.out o3)
  clear o3
  go_wp2_with fail
  refine (fails_ok ⟨#[49, 46]⟩ 2 70 2 _ (by decide) (HE.out.old O3.out) (HT.out.old O3.out) exP3 (by decide)).mono ?_
  rintro e w4 ⟨rfl, o4⟩
  have O4 := hide (Old.trans O3.out o4)
  clear o4
  go_wp2_with fail
  refine (fails_ok ⟨#[45]⟩ 1 70 1 _ (by decide) (HE.out.old O4.out) (HT.out.old O4.out) exP4 (by decide)).mono ?_
  rintro e w5 ⟨rfl, o5⟩
  have O5 := hide (Old.trans O4.out o5)
  clear o5
  go_wp2_with fail
  refine (fails_ok ⟨#[49, 101, 43, 51]⟩ 0 73 0 _ (by decide) (HE.out.old O5.out) (HT.out.old O5.out) exP5 (by decide)).mono ?_
  rintro e w6 ⟨rfl, o6⟩
  have O6 := hide (Old.trans O5.out o6)
  clear o6
  go_wp2_with fail
  refine (fails_ok ⟨#[57, 50, 50, 51, 51, 55, 50, 48, 51, 54, 56, 53, 52, 55, 55, 53, 56, 48, 56]⟩ 0 73 0 _ (by decide) (HE.out.old O6.out) (HT.out.old O6.out) exP6 (by decide)).mono ?_
  rintro e w7 ⟨rfl, o7⟩
  have O7 := hide (Old.trans O6.out o7)
  clear o7
  go_wp2_with fail
  refine (num_run (-9223372036854775808) _).mono ?_
  rintro e w8 ⟨v8, rfl, n8, o8⟩
  have O8 := hide (Old.trans O7.out o8)
  have N8 := hide n8.sl
  obtain ⟨A8, c8, rfl, _⟩ := id n8
  clear o8 n8
  go_wp2_with fail
  refine (reads_ok ⟨#[45, 57, 50, 50, 51, 51, 55, 50, 48, 51, 54, 56, 53, 52, 55, 55, 53, 56, 48, 56]⟩ _ (leafT 4 (-9223372036854775808) none_) _ _ (by decide) (HE.out.old O8.out) (HT.out.old O8.out) exP7 rfl N8.out (by decide)).mono ?_
  rintro e w9 ⟨rfl, o9⟩
  have O9 := hide (Old.trans O8.out o9)
  clear o9
  go_wp2_with fail
  refine (fails_ok ⟨#[91, 49, 44, 93]⟩ 3 70 3 _ (by decide) (HE.out.old O9.out) (HT.out.old O9.out) exQ0 (by decide)).mono ?_
  rintro e w10 ⟨rfl, o10⟩
  have O10 := hide (Old.trans O9.out o10)
  clear o10
  go_wp2_with fail
  refine (fails_ok ⟨#[123, 34, 97, 34, 58, 49, 44, 34, 97, 34, 58, 50, 125]⟩ 7 71 7 _ (by decide) (HE.out.old O10.out) (HT.out.old O10.out) exQ1 (by decide)).mono ?_
  rintro e w11 ⟨rfl, o11⟩
  have O11 := hide (Old.trans O10.out o11)
  clear o11
  go_wp2_with fail
  refine (fails_ok ⟨#[91, 34, 92, 120, 34, 93]⟩ 1 41 1 _ (by decide) (HE.out.old O11.out) (HT.out.old O11.out) exQ2 (by decide)).mono ?_
  rintro e w12 ⟨rfl, o12⟩
  have O12 := hide (Old.trans O11.out o12)
  clear o12
  go_wp2_with fail
  refine (fails_ok ⟨#[116, 114, 117]⟩ 3 70 3 _ (by decide) (HE.out.old O12.out) (HT.out.old O12.out) exQ3 (by decide)).mono ?_
  rintro e w13 ⟨rfl, o13⟩
  have O13 := hide (Old.trans O12.out o13)
  clear o13
  go_wp2_with fail
  refine (fails_ok ⟨#[]⟩ 0 70 0 _ (by decide) (HE.out.old O13.out) (HT.out.old O13.out) exQ4 (by decide)).mono ?_
  rintro e w14 ⟨rfl, o14⟩
  have O14 := hide (Old.trans O13.out o14)
  clear o14
  go_wp2_with fail
  refine (fails_ok ⟨#[91, 49, 93, 32, 50]⟩ 4 70 4 _ (by decide) (HE.out.old O14.out) (HT.out.old O14.out) exQ5 (by decide)).mono ?_
  rintro e w15 ⟨rfl, o15⟩
  have O15 := hide (Old.trans O14.out o15)
  clear o15
  go_wp2_with fail
  refine (fails_ok ⟨#[123, 34, 97, 34, 32, 49, 125]⟩ 5 70 5 _ (by decide) (HE.out.old O15.out) (HT.out.old O15.out) exQ6 (by decide)).mono ?_
  rintro e w16 ⟨rfl, o16⟩
  have O16 := hide (Old.trans O15.out o16)
  clear o16
  go_wp2_with fail
  refine (fails_ok ⟨#[91, 91, 49, 46, 48, 120]⟩ 2 73 2 _ (by decide) (HE.out.old O16.out) (HT.out.old O16.out) exQ7 (by decide)).mono ?_
  rintro e w17 ⟨rfl, o17⟩
  have O17 := hide (Old.trans O16.out o17)
  clear o17
  go_wp2_with fail
  refine (fails_ok ⟨#[91, 49, 32, 120]⟩ 3 70 3 _ (by decide) (HE.out.old O17.out) (HT.out.old O17.out) exQ8 (by decide)).mono ?_
  rintro e w18 ⟨rfl, o18⟩
  have O18 := hide (Old.trans O17.out o18)
  clear o18
  go_wp2_with fail
  refine (fails_ok ⟨#[34, 97]⟩ 0 3 0 _ (by decide) (HE.out.old O18.out) (HT.out.old O18.out) exQ9 (by decide)).mono ?_
  rintro e w19 ⟨rfl, o19⟩
  have O19 := hide (Old.trans O18.out o19)
  clear o19
  go_wp2_with fail
  go_ret
  exact ⟨rfl, O19.out⟩
end Go.Proofs.YtdlcibbbebhcoaaGreatDoor
