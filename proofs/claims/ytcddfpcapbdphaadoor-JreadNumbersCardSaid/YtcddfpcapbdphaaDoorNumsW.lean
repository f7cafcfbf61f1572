/- JreadNumbers' walk. -/
import Derived.Test.YtcddfpcapbdphaaDoorWorks7
import Derived.Test.YtcddfpcapbdphaaDoorNumsL
import Derived.Test.YtcddfpcapbdphaaDoorOpenR
import Derived.Lib.AppendIntMem
import Derived.Lib.ItoaLen
import Derived.Lib.ItoaMem
namespace Go.Proofs.YtcddfpcapbdphaaDoor
open Go.RowKit Go.ChangeShapes Go.WideShapes Go.Deep

abbrev PowTab (w : World) : Prop := Lib.TabIs Tryd.prog w "internal/strconv.uint64pow10" .u64 Lib.pow10Tab
theorem PowTab.old {w w' : World} (h : PowTab w) (o : Old w w') : PowTab w' := Go.Joins.tab_stays (g := 0) (by kernel_rfl) h o (Nat.le_refl _)
theorem format_run (n : Int) (h0 : -9223372036854775808 ≤ n) (h1 : n ≤ 9223372036854775807) (w : World) (ht : PowTab w) :
    Calls Tryd.prog 13 #[.int .i64 n, .int .i64 10] w fun e w' => e = .returned (.string ⟨(Lib.itoa n).toArray⟩) ∧ Old w w' :=
  (Tryd.strconv_FormatInt_10 n h0 h1 w ht).mono fun e w' ⟨he, k, os, hw⟩ => ⟨he, by rw [hw]; exact Lib.below_grow _ w (Nat.le_refl _) k os⟩
theorem itoa_run (n : Int) (h0 : -9223372036854775808 ≤ n) (h1 : n ≤ 9223372036854775807) (w : World) (ht : PowTab w) :
    Calls Tryd.prog 14 #[.int .i64 n] w fun e w' => e = .returned (.string ⟨(Lib.itoa n).toArray⟩) ∧ Old w w' :=
  (Tryd.strconv_Itoa n h0 h1 w ht).mono fun e w' ⟨he, k, os, hw⟩ => ⟨he, by rw [hw]; exact Lib.below_grow _ w (Nat.le_refl _) k os⟩
set_option maxRecDepth 100000 in
theorem bring_k (i n : Int) (w : World) (hn : 0 < n) (hn' : n ≤ 1048576) :
    Calls Tryd.prog 15 #[.int .i64 i, .int .i64 n] w fun e w' => (∃ k : Nat, (k : Int) < n ∧ e = .returned (.int .i64 k)) ∧ w = w' := by
  have h1 := Int.tmod_lt_of_pos i hn
  have h2 := Int.neg_tmod i n
  have h3 : -n < i.tmod n := by
    have := Int.tmod_lt_of_pos (-i) hn
    rw [h2] at this
    omega
  clear h2
  go_enter Tryd.func15, Tryd.ntmps15
  go_wp2_with fail
  · go_ret
    exact ⟨⟨(i.tmod n + n).toNat, by omega, ret_int (by omega)⟩, rfl⟩
  · go_ret
    exact ⟨⟨(i.tmod n).toNat, by omega, ret_int (by omega)⟩, rfl⟩
theorem app_list (a b : ByteArray) : (a ++ b).data.toList = a.data.toList ++ b.data.toList := by simp
theorem sevens (c : Nat) : Lib.repeatL [55] c = List.replicate c 55 := by
  induction c with
  | zero => rfl
  | succ c ih => rw [Lib.repeatL, ih, List.replicate_succ]; rfl
theorem txt_list (l : List UInt8) : (⟨l.toArray⟩ : ByteArray).data.toList = l := by simp
theorem txt_len (l : List UInt8) : (⟨l.toArray⟩ : ByteArray).size = l.length := by simp [ByteArray.size]
theorem repeat7 (m : Nat) (w : World) (hm : m ≤ 48) : Calls Tryd.prog 16 #[.string ⟨#[55]⟩, .int .i64 (m : Int)] w fun e w' => e = .returned (.string ⟨(List.replicate m 55).toArray⟩) ∧ Old w w' := by
  have h1 : (⟨#[55]⟩ : ByteArray).size = 1 := rfl
  have h2 : (⟨#[55]⟩ : ByteArray).data.toList = [55] := rfl
  have h := Tryd.strings_Repeat ⟨#[55]⟩ m w (by omega) (by rw [h1]; omega)
  rw [h2, sevens] at h
  exact h
set_option maxRecDepth 100000 in
set_option maxHeartbeats 4000000 in
theorem jnumbers_walk (n more a : Int) (W : World) (h0 : -9223372036854775808 ≤ n ∧ n ≤ 9223372036854775807) (hT : Tabs W) (hE : Errs W) (hP : PowTab W) :
    Calls Tryd.prog 5 #[.int .i64 n, .int .i64 more, .int .i64 a] W fun e w' => e = .returned (.bool true) ∧ Old W w' := by
  have HT := hide hT
  have HE := hide hE
  have HP := hide hP
  have HN := hide h0
  have C1 := hide (format_run n h0.1 h0.2 W hP)
  obtain ⟨S, hS⟩ : ∃ S : ByteArray, Hid (⟨(Lib.itoa n).toArray⟩ = S) := ⟨_, hide rfl⟩
  have HS := hide (show S.data.toList = Lib.itoa n by rw [← hS.out])
  have HSl := hide (show S.size = (Lib.itoa n).length by rw [← hS.out]; exact txt_len _)
  have hSs : S.size ≤ 21 := by rw [HSl.out]; exact Lib.itoa_length_le n h0.1 h0.2
  rw [hS.out] at C1
  clear hT hE hP h0
  go_enter Tryd.func5, Tryd.ntmps5
  go_wp2_with fail
  refine C1.out.mono ?_
  rintro e w1 ⟨rfl, o1⟩
  have O1 := hide o1
  clear o1 C1
  go_wp2_with fail
  refine (bring_k a 1000 _ (by decide) (by decide)).mono ?_
  rintro e w2 ⟨⟨k, hk, rfl⟩, rfl⟩
  have C3 := hide (itoa_run (k : Int) (by omega) (by omega) w1 (PowTab.old HP.out O1.out))
  obtain ⟨D, hD⟩ : ∃ D : ByteArray, Hid (⟨(Lib.itoa (k : Int)).toArray⟩ = D) := ⟨_, hide rfl⟩
  obtain ⟨dl, hdl⟩ : ∃ dl, Hid (Lib.itoa (k : Int) = dl) := ⟨_, hide rfl⟩
  have HD := hide (show D.data.toList = dl by rw [← hD.out, ← hdl.out])
  have hDs : D.size ≤ 21 := by rw [← hD.out, txt_len]; exact Lib.itoa_length_le _ (by omega) (by omega)
  have hdd : (∀ x ∈ dl, isDig x = true) ∧ dl ≠ [] := by
    rw [← hdl.out, Lib.itoa_nonneg]
    exact ⟨dec_all _, dec_ne _⟩
  have HDD := hide hdd
  have HDl := hide (show dl.length ≤ 21 by rw [← HD.out, list_size]; exact hDs)
  rw [hD.out] at C3
  clear hdd
  go_wp2_with fail
  refine C3.out.mono ?_
  rintro e w3 ⟨rfl, o3⟩
  have O3 := hide (Old.trans O1.out o3)
  clear o3 C3 hk
  go_wp2_with fail
  refine (bring_k more 30 _ (by decide) (by decide)).mono ?_
  rintro e w4 ⟨⟨c, hc, rfl⟩, rfl⟩
  obtain ⟨m, hm⟩ : ∃ m : Nat, Hid (19 + c = m) := ⟨_, hide rfl⟩
  have hm1 : 19 ≤ m := by rw [← hm.out]; exact Nat.le_add_right _ _
  have hm2 : m ≤ 48 := by have := hm.out; omega
  have C5 := hide (repeat7 m w3 hm2)
  obtain ⟨R, hR⟩ : ∃ R : ByteArray, Hid (⟨(List.replicate m 55).toArray⟩ = R) := ⟨_, hide rfl⟩
  have HRl := hide (show R.data.toList = List.replicate m 55 by rw [← hR.out])
  have hRs : R.size ≤ 48 := by
    have := congrArg List.length HRl.out
    rw [list_size, List.length_replicate] at this
    omega
  rw [hR.out] at C5
  have e19 : (m : Int) = 19 + (c : Int) := by have := hm.out; omega
  rw [e19] at C5
  clear e19
  go_wp2_with fail
  refine C5.out.mono ?_
  rintro e w5 ⟨rfl, o5⟩
  have O5 := hide (Old.trans O3.out o5)
  clear o5 C5
  go_upto_if 22 with fail
  go_cut [9] (fun lv wc => ∃ L : ByteArray, lv = .string L ∧ L.size ≤ 100 ∧ Hid (parseV L.data.toList = .error (0, 73)) ∧ wc = w5)
  case first =>
    by_cases hn0 : n = 0
    · have hz : (n == 0) = true := by simpa using hn0
      have PL := hide (show parseV (⟨#[49]⟩ ++ (S ++ R) : ByteArray).data.toList = .error (0, 73) by
        rw [app_list, app_list, HS.out, HRl.out, hn0]
        exact nums_20 (by omega) (by have := HSl.out; rw [hn0] at this; simp only [List.length_cons, List.length_append, List.length_replicate]; omega))
      have hsz : (⟨#[49]⟩ ++ (S ++ R) : ByteArray).size ≤ 100 := by simp [ByteArray.size_append]; have : (⟨#[49]⟩ : ByteArray).size = 1 := rfl; omega
      clear hn0
      go_wp2_with fail
      go_meet
      exact ⟨_, rfl, hsz, PL, rfl⟩
    · have hz : (n == 0) = false := by simpa using hn0
      have PL := hide (show parseV (S ++ R : ByteArray).data.toList = .error (0, 73) by
        rw [app_list, HS.out, HRl.out]
        exact nums_2 hn0 (by omega) (by have := HSl.out; simp only [List.length_append, List.length_replicate]; omega))
      have hsz : (S ++ R : ByteArray).size ≤ 100 := by simp [ByteArray.size_append]; omega
      clear hn0
      go_wp2_with fail
      go_meet
      exact ⟨_, rfl, hsz, PL, rfl⟩
  case rest =>
    obtain ⟨L, rfl, hL, PL, rfl⟩ := hcut
    have HSL := hide (show (Lib.itoa n).length ≤ 21 by rw [← HSl.out]; exact hSs)
    go_wp2_with fail
    refine (num_run n _).mono ?_
    rintro e w6 ⟨v6, rfl, n6, o6⟩
    have O6 := hide (Old.trans O5.out o6)
    have N6 := hide n6.sl
    obtain ⟨A6, c6, rfl, _⟩ := id n6
    clear o6 n6
    go_wp2_with fail
    refine (reads_ok S _ (leafT 4 n none_) (oneJ 4 n none_) _ (by omega) (HE.out.old O6.out) (HT.out.old O6.out) (by rw [HS.out]; exact parse_itoa n HN.out.1 HN.out.2 (by have := HSL.out; omega)) rfl N6.out (by simp [leafT])).mono ?_
    rintro e w7 ⟨rfl, o7⟩
    have O7 := hide (Old.trans O6.out o7)
    clear o7
    go_wp2_with fail
    refine (fails_ok L 0 73 0 _ (by omega) (HE.out.old O7.out) (HT.out.old O7.out) PL.out rfl).mono ?_
    rintro e w8 ⟨rfl, o8⟩
    have O8 := hide (Old.trans O7.out o8)
    clear o8
    go_wp2_with fail
    refine (fails_ok _ 0 73 0 _ (by simp [ByteArray.size_append]; have : (⟨#[46]⟩ : ByteArray).size = 1 := rfl; omega) (HE.out.old O8.out) (HT.out.old O8.out) (by
      rw [app_list, app_list, HS.out, HD.out, List.append_assoc]
      exact nums_3 (d := dl) HDD.out.1 HDD.out.2 (by have := HSL.out; have := HDl.out; simp only [List.length_append, List.length_cons]; omega)) rfl).mono ?_
    rintro e w9 ⟨rfl, o9⟩
    have O9 := hide (Old.trans O8.out o9)
    clear o9
    go_wp2_with fail
    refine (fails_ok _ 1 73 1 _ (by simp [ByteArray.size_append]; have : (⟨#[32]⟩ : ByteArray).size = 1 := rfl; have : (⟨#[101]⟩ : ByteArray).size = 1 := rfl; omega) (HE.out.old O9.out) (HT.out.old O9.out) (by
      rw [app_list, app_list, app_list, HS.out, HD.out, List.append_assoc, List.append_assoc]
      exact nums_4 (d := dl) HDD.out.1 HDD.out.2 (by have := HSL.out; have := HDl.out; simp only [List.length_append, List.length_cons]; omega)) rfl).mono ?_
    rintro e w10 ⟨rfl, o10⟩
    have O10 := hide (Old.trans O9.out o10)
    clear o10
    go_wp2_with fail
    refine (fails_ok _ 0 73 0 _ (by simp [ByteArray.size_append]; have : (⟨#[69, 45]⟩ : ByteArray).size = 2 := rfl; omega) (HE.out.old O10.out) (HT.out.old O10.out) (by
      rw [app_list, app_list, HS.out, HD.out, List.append_assoc]
      exact nums_5 (d := dl) HDD.out.1 HDD.out.2 (by have := HSL.out; have := HDl.out; simp only [List.length_append, List.length_cons]; omega)) rfl).mono ?_
    rintro e w11 ⟨rfl, o11⟩
    have O11 := hide (Old.trans O10.out o11)
    clear o11
    go_wp2_with fail
    refine (fails_ok _ _ 70 (2 + (Lib.itoa n).length) _ (by simp [ByteArray.size_append]; have : (⟨#[91]⟩ : ByteArray).size = 1 := rfl; have : (⟨#[46, 93]⟩ : ByteArray).size = 2 := rfl; omega) (HE.out.old O11.out) (HT.out.old O11.out) (by
      rw [app_list, app_list, HS.out, List.append_assoc]
      exact nums_6 (by have := HSL.out; simp only [List.length_append, List.length_cons, List.length_nil]; omega)) (by rw [HSl.out]; omega)).mono ?_
    rintro e w12 ⟨rfl, o12⟩
    have O12 := hide (Old.trans O11.out o12)
    clear o12
    go_wp2_with fail
    refine (fails_ok _ _ 70 ((Lib.itoa n).length + 1) _ (by simp [ByteArray.size_append]; have : (⟨#[101]⟩ : ByteArray).size = 1 := rfl; omega) (HE.out.old O12.out) (HT.out.old O12.out) (by
      rw [app_list, HS.out]
      exact nums_7 (by have := HSL.out; simp only [List.length_append, List.length_cons, List.length_nil]; omega)) (by rw [HSl.out]; omega)).mono ?_
    rintro e w13 ⟨rfl, o13⟩
    have O13 := hide (Old.trans O12.out o13)
    clear o13
    go_wp2_with fail
    refine (fails_ok _ _ 70 ((Lib.itoa n).length + 2) _ (by simp [ByteArray.size_append]; have : (⟨#[101, 43]⟩ : ByteArray).size = 2 := rfl; omega) (HE.out.old O13.out) (HT.out.old O13.out) (by
      rw [app_list, HS.out]
      exact nums_8 (by have := HSL.out; simp only [List.length_append, List.length_cons, List.length_nil]; omega)) (by rw [HSl.out]; omega)).mono ?_
    rintro e w14 ⟨rfl, o14⟩
    have O14 := hide (Old.trans O13.out o14)
    clear o14
    go_wp2_with fail
    refine (works_run _ (HE.out.old O14.out) (HT.out.old O14.out)).mono ?_
    rintro e w15 ⟨rfl, o15⟩
    have O15 := hide (Old.trans O14.out o15)
    clear o15
    go_wp2_with fail
    go_ret
    exact ⟨rfl, O15.out⟩
theorem pow_eq : (Rows.laid_internal_strconv_uint64pow10 : DataW Unit) = Lib.tabData .u64 Lib.pow10Tab := by kernel_rfl
theorem tabIs_reads {P : Program} {W : World} {name : String} {k : IntKind} {zs : List Int} {g : Nat} {t e : TypeId} {n : Nat}
    (hg : P.globalNamed name = some g) (hty : (P.globals[g]?).map (·.type) = some t) (ht : P.underlying t = some (.array n e)) (he : P.underlying e = some (.int k)) (hce : P.cellsOf e = 1) (hct : P.cellsOf t = n)
    (h : Lib.VarReads P W name (Lib.tabData k zs)) : Lib.TabIs P W name k zs := by
  obtain ⟨g', t', cs, fuel, p, hg', ht', hvar, hd⟩ := h
  obtain rfl := Option.some.inj (hg.symm.trans hg')
  obtain rfl := Option.some.inj (hty.symm.trans ht')
  unfold Lib.TabIs
  rw [hvar, ← Lib.cells_of_tab ht he hce hct hd]
theorem seven_pow {W : World} (h : laidMetH Tryd.prog laidSeven W) : PowTab W := by
  rw [Go.MakeChecks.laidMetH_plain _ _ _ (by kernel_rfl)] at h
  have h2 := Lib.laidMet.reads h (.tail _ (.tail _ (.head _)))
  rw [pow_eq] at h2
  exact tabIs_reads (g := 0) (t := 130) (e := 103) (n := 20) (by kernel_rfl) (by kernel_rfl) (by kernel_rfl) Tryd.underlying103 (by kernel_rfl) (by kernel_rfl) h2
theorem i64_of_wf {n : Int} (h : (Lit.int .i64 n).wf = true) : -9223372036854775808 ≤ n ∧ n ≤ 9223372036854775807 := by
  simp [Lit.wf, IntKind.min, IntKind.max, IntKind.signed, IntKind.bits] at h
  omega
end Go.Proofs.YtcddfpcapbdphaaDoor
