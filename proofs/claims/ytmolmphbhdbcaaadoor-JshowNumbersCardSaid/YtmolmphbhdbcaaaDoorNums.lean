/- JshowNumbers: a number's text grows by a digit. -/
import Derived.Test.YtmolmphbhdbcaaaDoorWorks8
namespace Go.Proofs.YtmolmphbhdbcaaaDoor
open Go.RowKit

def bringN (i n : Int) : Nat := if i.tmod n < 0 then (i.tmod n + n).toNat else (i.tmod n).toNat
theorem bringN_lt {i : Int} {n : Nat} (hn : 0 < n) : bringN i n < n := by
  have h1 := Int.tmod_lt_of_pos i (show (0 : Int) < n by omega)
  unfold bringN
  split <;> omega
set_option maxRecDepth 100000 in
theorem bring_at (i n : Int) (w : World) (hn : 0 < n) (hn' : n ≤ 1048576) :
    Calls Tryd.prog 16 #[.int .i64 i, .int .i64 n] w fun e w' => e = .returned (.int .i64 (bringN i n)) ∧ w = w' := by
  have h1 := Int.tmod_lt_of_pos i hn
  have h2 := Int.neg_tmod i n
  have h3 : -n < i.tmod n := by
    have := Int.tmod_lt_of_pos (-i) hn
    rw [h2] at this
    omega
  clear h2
  obtain ⟨B, hB⟩ : ∃ B, Hid (bringN i n = B) := ⟨_, hide rfl⟩
  rw [hB.out]
  have hbb := hB.out
  unfold bringN at hbb
  have HB := hide hbb
  clear hbb
  go_enter Tryd.func16, Tryd.ntmps16
  go_wp2_with fail
  · go_ret
    have := HB.out
    rw [if_pos (by omega)] at this
    subst this
    exact ⟨ret_int (by omega), rfl⟩
  · go_ret
    have := HB.out
    rw [if_neg (by omega)] at this
    subst this
    exact ⟨ret_int (by omega), rfl⟩

theorem itoa_digit {k : Nat} (h : k < 10) : Lib.itoa (k : Int) = [UInt8.ofNat (48 + k)] := by
  unfold Lib.itoa
  rw [if_neg (by omega), Int.toNat_natCast, Lib.decDigits_one h]
theorem itoa_pos {u : Nat} (h : 0 < u) : Lib.itoa (u : Int) = decD u := by
  unfold decD Lib.itoa
  rw [if_neg (by omega), if_neg (by omega), Int.toNat_natCast]
theorem itoa_neg {u : Nat} (h : 0 < u) : Lib.itoa (-(u : Int)) = 45 :: decD u := by
  unfold decD Lib.itoa
  rw [if_pos (by omega), if_neg (by omega)]
  simp
theorem decD_grow {u k : Nat} (h : 0 < u) (hk : k < 10) : decD (10 * u + k) = decD u ++ [UInt8.ofNat (48 + k)] := by
  rw [decD_step (by omega), show (10 * u + k) / 10 = u by omega, show (10 * u + k) % 10 = k by omega]
theorem itoa_grow {n : Int} {k : Nat} (hn : 0 < n) (hk : k < 10) : Lib.itoa (10 * n + k) = Lib.itoa n ++ [UInt8.ofNat (48 + k)] := by
  obtain ⟨u, rfl⟩ : ∃ u : Nat, n = (u : Int) := ⟨n.toNat, by omega⟩
  rw [show (10 * (u : Int) + (k : Int)) = ((10 * u + k : Nat) : Int) by omega, itoa_pos (by omega), itoa_pos (by omega), decD_grow (by omega) hk]
theorem itoa_sink {n : Int} {k : Nat} (hn : n < 0) (hk : k < 10) : Lib.itoa (10 * n + -(k : Int)) = Lib.itoa n ++ [UInt8.ofNat (48 + k)] := by
  obtain ⟨u, rfl⟩ : ∃ u : Nat, n = -(u : Int) := ⟨n.natAbs, by omega⟩
  rw [show (10 * -(u : Int) + -(k : Int)) = -((10 * u + k : Nat) : Int) by omega, itoa_neg (by omega), itoa_neg (by omega), decD_grow (by omega) hk]
  rfl
theorem num_show {n : Int} (h : -9223372036854775808 ≤ n ∧ n ≤ 9223372036854775807) : ShowT (leafT 4 n none_) (Lib.itoa n) 0 :=
  show_ok (leafMay (.inr (.inl ⟨rfl, rfl⟩))) (by simp [leafJ, J.show]) (by have := itoa_len h.1 h.2; omega)
theorem num_fine {n : Int} (h : -9223372036854775808 ≤ n ∧ n ≤ 9223372036854775807) : Fine 60 (leafT 4 n none_) where
  every := fun x hx => by
    rw [leafT, List.mem_singleton] at hx
    subst hx
    exact ⟨show none_.size ≤ 60 by decide, show none_.size ≤ 60 by decide, h.1, h.2⟩
  small := by omega
  room := room60 (by simp [leafT])

set_option maxRecDepth 100000 in
set_option maxHeartbeats 4000000 in
theorem jnumbers_walk (n0 dg : Int) (w : World) (h0 : -9223372036854775808 ≤ n0 ∧ n0 ≤ 9223372036854775807) (hT : Tabs w) (hP : PowTab w) :
    Calls Tryd.prog 4 #[.int .i64 n0, .int .i64 dg] w fun e w' => e = .returned (.bool true) ∧ Old w w' := by
  have CB := hide (fun w' => bring_at dg 10 w' (by omega) (by omega))
  have hk10 := bringN_lt (i := dg) (n := 10) (by omega)
  simp only [Int.cast_ofNat_Int] at hk10
  obtain ⟨k, hk⟩ : ∃ k, Hid (bringN dg 10 = k) := ⟨_, hide rfl⟩
  rw [hk.out] at CB hk10
  obtain ⟨n, hn⟩ : ∃ n, Hid (n0.tdiv 10 = n) := ⟨_, hide rfl⟩
  have hnb : -922337203685477580 ≤ n ∧ n ≤ 922337203685477580 := by
    have := hn.out
    rcases Int.le_total 0 n0 with h | h
    · rw [Int.tdiv_eq_ediv_of_nonneg h] at this
      omega
    · have e : (-n0).tdiv 10 = -n := by rw [Int.neg_tdiv, this]
      rw [Int.tdiv_eq_ediv_of_nonneg (by omega)] at e
      omega
  have hq := hn.out
  have NS := hide (num_show (n := n) (by omega))
  have NF := hide (num_fine (n := n) (by omega))
  obtain ⟨S, hS⟩ : ∃ S : ByteArray, Hid (⟨(Lib.itoa n).toArray⟩ = S) := ⟨_, hide rfl⟩
  have hsz : S.size ≤ 20 := by
    have := itoa_len (n := n) (by omega) (by omega)
    rw [← hS.out]
    simpa [ByteArray.size] using this
  have HT := hide hT
  have HP := hide hP
  have hdig := dig_at hk10
  clear hT hP
  have e48 : (48 + UInt8.ofNat k : UInt8) = UInt8.ofNat (48 + k) := by simp
  rcases Int.lt_trichotomy n 0 with hz | hz | hz
  · have hz3 : (n == 0) = false := beq_eq_false_iff_ne.2 (by omega)
    have hneg : ¬ n > 922337203685477579 := by omega
    have hwant : S ++ ⟨#[UInt8.ofNat (48 + k)]⟩ = ⟨(Lib.itoa (10 * n + -(k : Int))).toArray⟩ := by
      rw [itoa_sink hz hk10, ← hS.out]
      apply ByteArray.ext
      simp
    rw [← e48] at hwant
    have HW := hide hwant
    clear hwant e48
    by_cases gb : n < -922337203685477579
    · have gb2 : ¬ (n > 0) := by omega
      go_enter Tryd.func4, Tryd.ntmps4
      go_wp2_with fail
      refine (CB.out _).mono ?_
      rintro e w1 ⟨rfl, rfl⟩
      go_wp2_with fail
      refine (num_run n _).mono ?_
      rintro e w1 ⟨v1, rfl, n1, o1⟩
      obtain ⟨A1, c1, rfl, _, _⟩ := nodes_form n1 (show (leafT 4 n none_).length = 1 from rfl)
      have N1 := hide (SlT.sl n1)
      have HB := hide o1
      clear n1 o1
      go_wp2_with fail
      refine (show_run 60 _ (leafT 4 n none_) _ 0 _ N1.out NF.out (HT.out.old HB.out) (PowTab.old HP.out HB.out) NS.out).mono ?_
      unfold strE
      rintro e w2 ⟨rfl, o2⟩
      replace HB := hide (Old.trans HB.out o2)
      clear o2 N1
      rw [hS.out]
      go_wp2_with fail
      refine (CB.out _).mono ?_
      rintro e w3 ⟨rfl, rfl⟩
      go_wp2_with fail
      refine (CB.out _).mono ?_
      rintro e w3 ⟨rfl, rfl⟩
      go_wp2_with fail
      refine (works_run _ (HT.out.old HB.out) (PowTab.old HP.out HB.out)).mono ?_
      rintro e w5 ⟨rfl, o5⟩
      replace HB := hide (Old.trans HB.out o5)
      clear o5
      go_wp2_with fail
      go_ret
      exact ⟨by first | rfl | simp, HB.out⟩
    · have gb2 : ¬ (n > 0) := by omega
      go_enter Tryd.func4, Tryd.ntmps4
      go_wp2_with fail
      refine (CB.out _).mono ?_
      rintro e w1 ⟨rfl, rfl⟩
      go_wp2_with fail
      refine (num_run n _).mono ?_
      rintro e w1 ⟨v1, rfl, n1, o1⟩
      obtain ⟨A1, c1, rfl, _, _⟩ := nodes_form n1 (show (leafT 4 n none_).length = 1 from rfl)
      have N1 := hide (SlT.sl n1)
      have HB := hide o1
      clear n1 o1
      go_wp2_with fail
      refine (show_run 60 _ (leafT 4 n none_) _ 0 _ N1.out NF.out (HT.out.old HB.out) (PowTab.old HP.out HB.out) NS.out).mono ?_
      unfold strE
      rintro e w2 ⟨rfl, o2⟩
      replace HB := hide (Old.trans HB.out o2)
      clear o2 N1
      rw [hS.out]
      go_wp2_with fail
      refine (CB.out _).mono ?_
      rintro e w3 ⟨rfl, rfl⟩
      go_wp2_with fail
      refine (CB.out _).mono ?_
      rintro e w3 ⟨rfl, rfl⟩
      go_wp2_with fail
      refine (num_run (10 * n + -(k : Int)) _).mono ?_
      rintro e w4 ⟨v4, rfl, n4, o4⟩
      obtain ⟨A4, c4, rfl, _, _⟩ := nodes_form n4 (show (leafT 4 (10 * n + -(k : Int)) none_).length = 1 from rfl)
      have N4 := hide (SlT.sl n4)
      replace HB := hide (Old.trans HB.out o4)
      clear n4 o4
      go_wp2_with fail
      rw [HW.out]
      refine (shows_run _ (leafT 4 (10 * n + -(k : Int)) none_) _ _ N4.out (num_fine (by omega)) (HT.out.old HB.out) (PowTab.old HP.out HB.out) (num_show (by omega))).mono ?_
      rintro e w6 ⟨rfl, o6⟩
      replace HB := hide (Old.trans HB.out o6)
      clear o6 N4
      go_wp2_with fail
      refine (works_run _ (HT.out.old HB.out) (PowTab.old HP.out HB.out)).mono ?_
      rintro e w5 ⟨rfl, o5⟩
      replace HB := hide (Old.trans HB.out o5)
      clear o5
      go_wp2_with fail
      go_ret
      exact ⟨by first | rfl | simp, HB.out⟩
  · subst hz
    have hS0 : (⟨#[48]⟩ : ByteArray) = S := by rw [← hS.out]; kernel_rfl
    subst hS0
    have hwant : (⟨#[48]⟩ ++ ⟨#[UInt8.ofNat (48 + k)]⟩ : ByteArray).extract 1 2 = ⟨(Lib.itoa (k : Int)).toArray⟩ := by
      rw [itoa_digit hk10]
      apply ByteArray.ext
      simp
    have hcz : (⟨#[48]⟩ ++ ⟨#[UInt8.ofNat (48 + k)]⟩ : ByteArray).size = 2 := by simp [ByteArray.size]
    rw [← e48] at hwant
    have HW := hide hwant
    clear hwant e48
    go_enter Tryd.func4, Tryd.ntmps4
    go_wp2_with fail
    refine (CB.out _).mono ?_
    rintro e w1 ⟨rfl, rfl⟩
    go_wp2_with fail
    refine (num_run 0 _).mono ?_
    rintro e w1 ⟨v1, rfl, n1, o1⟩
    obtain ⟨A1, c1, rfl, _, _⟩ := nodes_form n1 (show (leafT 4 0 none_).length = 1 from rfl)
    have N1 := hide (SlT.sl n1)
    have HB := hide o1
    clear n1 o1
    go_wp2_with fail
    refine (show_run 60 _ (leafT 4 0 none_) _ 0 _ N1.out NF.out (HT.out.old HB.out) (PowTab.old HP.out HB.out) NS.out).mono ?_
    unfold strE
    rintro e w2 ⟨rfl, o2⟩
    replace HB := hide (Old.trans HB.out o2)
    clear o2 N1
    rw [hS.out]
    go_wp2_with fail
    refine (CB.out _).mono ?_
    rintro e w3 ⟨rfl, rfl⟩
    go_wp2_with fail
    refine (CB.out _).mono ?_
    rintro e w3 ⟨rfl, rfl⟩
    go_wp2_with fail
    refine (num_run (k : Int) _).mono ?_
    rintro e w4 ⟨v4, rfl, n4, o4⟩
    obtain ⟨A4, c4, rfl, _, _⟩ := nodes_form n4 (show (leafT 4 (k : Int) none_).length = 1 from rfl)
    have N4 := hide (SlT.sl n4)
    replace HB := hide (Old.trans HB.out o4)
    clear n4 o4
    go_wp2_with fail
    rw [HW.out]
    refine (shows_run _ (leafT 4 (k : Int) none_) _ _ N4.out (num_fine (by omega)) (HT.out.old HB.out) (PowTab.old HP.out HB.out) (num_show (by omega))).mono ?_
    rintro e w6 ⟨rfl, o6⟩
    replace HB := hide (Old.trans HB.out o6)
    clear o6 N4
    go_wp2_with fail
    refine (works_run _ (HT.out.old HB.out) (PowTab.old HP.out HB.out)).mono ?_
    rintro e w5 ⟨rfl, o5⟩
    replace HB := hide (Old.trans HB.out o5)
    clear o5
    go_wp2_with fail
    go_ret
    exact ⟨by first | rfl | simp, HB.out⟩
  · have hz2 : ¬ n < 0 := by omega
    have hz3 : (n == 0) = false := beq_eq_false_iff_ne.2 (by omega)
    have hneg : ¬ n < -922337203685477579 := by omega
    have hwant : S ++ ⟨#[UInt8.ofNat (48 + k)]⟩ = ⟨(Lib.itoa (10 * n + (k : Int))).toArray⟩ := by
      rw [itoa_grow hz hk10, ← hS.out]
      apply ByteArray.ext
      simp
    rw [← e48] at hwant
    have HW := hide hwant
    clear hwant e48
    by_cases gb : n > 922337203685477579
    · have gb2 : ¬ (n < 0) := by omega
      go_enter Tryd.func4, Tryd.ntmps4
      go_wp2_with fail
      refine (CB.out _).mono ?_
      rintro e w1 ⟨rfl, rfl⟩
      go_wp2_with fail
      refine (num_run n _).mono ?_
      rintro e w1 ⟨v1, rfl, n1, o1⟩
      obtain ⟨A1, c1, rfl, _, _⟩ := nodes_form n1 (show (leafT 4 n none_).length = 1 from rfl)
      have N1 := hide (SlT.sl n1)
      have HB := hide o1
      clear n1 o1
      go_wp2_with fail
      refine (show_run 60 _ (leafT 4 n none_) _ 0 _ N1.out NF.out (HT.out.old HB.out) (PowTab.old HP.out HB.out) NS.out).mono ?_
      unfold strE
      rintro e w2 ⟨rfl, o2⟩
      replace HB := hide (Old.trans HB.out o2)
      clear o2 N1
      rw [hS.out]
      go_wp2_with fail
      refine (CB.out _).mono ?_
      rintro e w3 ⟨rfl, rfl⟩
      go_wp2_with fail
      refine (CB.out _).mono ?_
      rintro e w3 ⟨rfl, rfl⟩
      go_wp2_with fail
      refine (works_run _ (HT.out.old HB.out) (PowTab.old HP.out HB.out)).mono ?_
      rintro e w5 ⟨rfl, o5⟩
      replace HB := hide (Old.trans HB.out o5)
      clear o5
      go_wp2_with fail
      go_ret
      exact ⟨by first | rfl | simp, HB.out⟩
    · have gb2 : ¬ (n < 0) := by omega
      go_enter Tryd.func4, Tryd.ntmps4
      go_wp2_with fail
      refine (CB.out _).mono ?_
      rintro e w1 ⟨rfl, rfl⟩
      go_wp2_with fail
      refine (num_run n _).mono ?_
      rintro e w1 ⟨v1, rfl, n1, o1⟩
      obtain ⟨A1, c1, rfl, _, _⟩ := nodes_form n1 (show (leafT 4 n none_).length = 1 from rfl)
      have N1 := hide (SlT.sl n1)
      have HB := hide o1
      clear n1 o1
      go_wp2_with fail
      refine (show_run 60 _ (leafT 4 n none_) _ 0 _ N1.out NF.out (HT.out.old HB.out) (PowTab.old HP.out HB.out) NS.out).mono ?_
      unfold strE
      rintro e w2 ⟨rfl, o2⟩
      replace HB := hide (Old.trans HB.out o2)
      clear o2 N1
      rw [hS.out]
      go_wp2_with fail
      refine (CB.out _).mono ?_
      rintro e w3 ⟨rfl, rfl⟩
      go_wp2_with fail
      refine (CB.out _).mono ?_
      rintro e w3 ⟨rfl, rfl⟩
      go_wp2_with fail
      refine (num_run (10 * n + (k : Int)) _).mono ?_
      rintro e w4 ⟨v4, rfl, n4, o4⟩
      obtain ⟨A4, c4, rfl, _, _⟩ := nodes_form n4 (show (leafT 4 (10 * n + (k : Int)) none_).length = 1 from rfl)
      have N4 := hide (SlT.sl n4)
      replace HB := hide (Old.trans HB.out o4)
      clear n4 o4
      go_wp2_with fail
      rw [HW.out]
      refine (shows_run _ (leafT 4 (10 * n + (k : Int)) none_) _ _ N4.out (num_fine (by omega)) (HT.out.old HB.out) (PowTab.old HP.out HB.out) (num_show (by omega))).mono ?_
      rintro e w6 ⟨rfl, o6⟩
      replace HB := hide (Old.trans HB.out o6)
      clear o6 N4
      go_wp2_with fail
      refine (works_run _ (HT.out.old HB.out) (PowTab.old HP.out HB.out)).mono ?_
      rintro e w5 ⟨rfl, o5⟩
      replace HB := hide (Old.trans HB.out o5)
      clear o5
      go_wp2_with fail
      go_ret
      exact ⟨by first | rfl | simp, HB.out⟩
end Go.Proofs.YtmolmphbhdbcaaaDoor
