/- JshowKnown: long texts, and the walk. -/
import Derived.Test.YtmolmphbhdbcaaaDoorShowsW
import Derived.Test.YtmolmphbhdbcaaaDoorRep
import Derived.Lib.ValidLaws
namespace Go.Proofs.YtmolmphbhdbcaaaDoor
open Go.RowKit

/-- so many of one byte -/
def repB (n : Nat) (b : UInt8) : ByteArray := ⟨(List.replicate n b).toArray⟩
theorem repB_size (n : Nat) (b : UInt8) : (repB n b).size = n := by simp [repB, ByteArray.size]
theorem repB_vU (n : Nat) {b : UInt8} (h : b.toNat < 128) : vU (repB n b) = true := by
  unfold vU
  have e : (repB n b).data.toList = List.replicate n b := by simp [repB]
  rw [e, Lib.validD_ascii n _ (fun x hx => by
    have := List.eq_of_mem_replicate (List.mem_of_mem_take hx)
    rw [this]; exact h)]
  simp [Lib.validD, Lib.validGoD]
theorem repB_strT (n : Nat) {b : UInt8} (h : b.toNat < 128) : strT (repB n b) = leafT 5 0 (repB n b) := by unfold strT; rw [repB_vU n h]; rfl
theorem repB_run (b : UInt8) (c : Nat) (z : Int) (w : World) (hz : z = c) (hc : c ≤ 2097152) : Calls Tryd.prog 24 #[.string ⟨#[b]⟩, .int .i64 z] w fun e w' => e = .returned (.string (repB c b)) ∧ Old w w' := by
  subst hz
  have h := Tryd.strings_Repeat ⟨#[b]⟩ c w (by omega) (by show 1 * c ≤ _; omega)
  have e : Lib.repeatL (⟨#[b]⟩ : ByteArray).data.toList c = List.replicate c b := by
    have := Lib.repeatL_replicate b 1 c
    rw [Nat.mul_one] at this
    exact this
  rw [e] at h
  exact h
theorem escL_rep (n : Nat) (b : UInt8) (k : Nat) (h : (esc1 b).length = k) : (escL (List.replicate n b)).length = k * n := by
  induction n with
  | zero => rfl
  | succ n ih =>
    rw [List.replicate_succ, show escL (b :: List.replicate n b) = esc1 b ++ escL (List.replicate n b) by simp [escL], List.length_append, ih, h, Nat.mul_succ]
    omega
theorem quote_rep (n : Nat) (b : UInt8) (k : Nat) (h : (esc1 b).length = k) : (quoteL (repB n b)).length = k * n + 2 := by
  have e : (repB n b).data.toList = List.replicate n b := by simp [repB]
  simp only [quoteL, List.length_cons, List.length_append, List.length_nil, e, escL_rep n b k h]
theorem strShow (s : ByteArray) : (leafJ 5 0 s).show = quoteL s := by simp [leafJ, J.show]
theorem strMay {s : ByteArray} (h : vU s = true) : May (leafT 5 0 s) (leafJ 5 0 s) := leafMay (.inr (.inr ⟨rfl, rfl, h⟩))
theorem str_show_ok {s : ByteArray} (h : vU s = true) (hl : (quoteL s).length ≤ 1048576) : ShowT (leafT 5 0 s) (quoteL s) 0 := .inr ⟨_, strMay h, .inl ⟨by rw [strShow]; exact hl, by rw [strShow], rfl⟩⟩
theorem str_show_big {s : ByteArray} (h : vU s = true) (hl : 1048576 < (quoteL s).length) : ShowT (leafT 5 0 s) [] 5 := .inr ⟨_, strMay h, .inr ⟨by rw [strShow]; exact hl, rfl, rfl⟩⟩
theorem leaf_sort (s : ByteArray) : (leafJ 5 0 s).sort.flat = leafT 5 0 s := by simp [leafJ, J.sort, J.sorts, leafT, J.flat, J.flats]
theorem str_canon_big {s : ByteArray} (h : vU s = true) (hl : 1048576 < (quoteL s).length) : CanonT (leafT 5 0 s) [] 5 := .inr ⟨_, strMay h, by rw [leaf_sort]; exact str_show_big h hl⟩
theorem str_fine {s : ByteArray} (h : s.size ≤ 1048576) : Fine 1048576 (leafT 5 0 s) where
  every := by
    intro x hx
    simp [leafT] at hx
    subst hx
    exact ⟨Nat.zero_le _, h, by show (-9223372036854775808 : Int) ≤ 0; omega, by show (0 : Int) ≤ 9223372036854775807; omega⟩
  small := by omega
  room := by simp [leafT]
/-- two texts in a list -/
def twoJ (s : ByteArray) : J := .mk ⟨6, none_, 0, none_⟩ [leafJ 5 0 s, leafJ 5 0 s]
theorem twoAll {s : ByteArray} (h : vU s = true) : AllMay [leafT 5 0 s, leafT 5 0 s] [leafJ 5 0 s, leafJ 5 0 s] := two_may (strMay h) (strMay h)
theorem twoFlats (s : ByteArray) : (J.flats [leafJ 5 0 s, leafJ 5 0 s]).length = 2 := by simp [leafJ, J.flats, J.flat]
theorem twoMay {s : ByteArray} (h : vU s = true) : May (twoJ s).flat (twoJ s) := by
  refine ⟨⟨?_, rfl, rfl⟩, ?_, ?_⟩
  · unfold twoJ
    simp only [J.Ok, J.Oks, leafJ, leafOk, plainHd, J.key, J.hd, h]
    simp
  · rw [twoJ, flat_mk, List.length_cons, twoFlats]; omega
  · simp [twoJ, leafJ, J.deep, J.deeps]
theorem twoList {s : ByteArray} (h : vU s = true) : ListT [leafT 5 0 s, leafT 5 0 s] (twoJ s).flat 0 :=
  .inr ⟨_, twoAll h, .inr (.inr ⟨by rw [twoFlats]; omega, by simp [leafJ, J.deep, J.deeps], rfl, rfl⟩)⟩
theorem twoBig {s : ByteArray} (h : vU s = true) (hl : 524288 ≤ s.size) : ShowT (twoJ s).flat [] 5 := by
  refine .inr ⟨_, twoMay h, .inr ⟨?_, rfl, rfl⟩⟩
  have h1 := (quoteL_len s).1
  have e : (twoJ s).show = 91 :: (quoteL s ++ (44 :: quoteL s) ++ [93]) := by simp [twoJ, J.show, J.shows, leafJ]
  rw [e]
  simp only [List.length_cons, List.length_append, List.length_nil]
  unfold maxText
  omega
theorem twoFine {s : ByteArray} (h : s.size ≤ 1048576) : Fine 1048576 (twoJ s).flat where
  every := by
    intro x hx
    simp [twoJ, leafJ, J.flat, J.flats] at hx
    rcases hx with rfl | rfl
    · exact ⟨Nat.zero_le _, Nat.zero_le _, by show (-9223372036854775808 : Int) ≤ 0; omega, by show (0 : Int) ≤ 9223372036854775807; omega⟩
    · exact ⟨Nat.zero_le _, h, by show (-9223372036854775808 : Int) ≤ 0; omega, by show (0 : Int) ≤ 9223372036854775807; omega⟩
  small := by omega
  room := by rw [twoJ, flat_mk, List.length_cons, twoFlats]; omega
theorem twoLen (s : ByteArray) : (twoJ s).flat.length = 3 := by rw [twoJ, flat_mk, List.length_cons, twoFlats]
theorem twoTx {s : ByteArray} (h : s.size ≤ 1048576) : ∀ p ∈ [leafT 5 0 s, leafT 5 0 s], TextsOk p := by
  intro p hp
  have : p = leafT 5 0 s := by simpa using hp
  subst this
  exact (str_fine h).texts
theorem num_ok (k n : Int) (key s : ByteArray) (z : Int) (h : -9223372036854775808 ≤ n ∧ n ≤ 9223372036854775807) : NumsOk [⟨k, key, n, s, z⟩] := by
  intro x hx
  simp at hx
  subst hx
  exact h

set_option maxRecDepth 100000 in
set_option maxHeartbeats 4000000 in
theorem jknown_walk (w : World) (hT : Tabs w) (hP : PowTab w) :
    Calls Tryd.prog 7 #[] w fun e w' => e = .returned (.bool true) ∧ Old w w' := by
  have HT := hide hT
  have HP := hide hP
  have CS := hide (fun (v : Value) (t : List Nd) w' (o : Old w w') (hn : NodesIs w' v t) (hk : NumsOk t) => jshows_walk v t w' hn hk (HT.out.old o) (PowTab.old HP.out o))
  clear hT hP
  go_enter Tryd.func7, Tryd.ntmps7
  go_upto_region 1 with fail
  go_cut [1] (fun ev wc => ∃ b, ev = .slice (some ⟨b, 0, none⟩) 12 12 ∧ Hid (∀ k : Nat, k < 12 → ∃ n : Int, (-9223372036854775808 ≤ n ∧ n ≤ 9223372036854775807) ∧ wc.cell? ⟨b, k, none⟩ = some (.int .i64 n)) ∧ Hid (Old w wc))
  case first =>
    go_wp2_with fail
    go_meet
    refine ⟨_, rfl, hide (fun k hk => ?_), hide (Old.alloc (Old.refl _) _)⟩
    rw [cell_of_heap (heap_alloc_new _ _)]
    have h10 : k = 0 ∨ k = 1 ∨ k = 2 ∨ k = 3 ∨ k = 4 ∨ k = 5 ∨ k = 6 ∨ k = 7 ∨ k = 8 ∨ k = 9 ∨ k = 10 ∨ k = 11 := by omega
    rcases h10 with rfl | rfl | rfl | rfl | rfl | rfl | rfl | rfl | rfl | rfl | rfl | rfl <;> exact ⟨_, by omega, rfl⟩
  case rest =>
    obtain ⟨b, rfl, HC, HO⟩ := hcut
    obtain ⟨w1, hw1⟩ : ∃ w1, wc = w1 := ⟨_, rfl⟩
    subst hw1
    go_wp2_with fail
    go_loopw [2] (fun i wr => ∃ k : Nat, i = .int .i64 k ∧ k ≤ 12 ∧ Hid (Old wc wr)) (fun i _ => 12 - (intOf i).toNat)
    case atStart => exact ⟨0, rfl, by omega, hide (Old.refl _)⟩
    case round =>
      obtain ⟨k, rfl, hk, HR⟩ := hrel
      by_cases hlt : k < 12
      · obtain ⟨n, hn, hc⟩ := HC.out k hlt
        have HN := hide hn
        have e0 := HR.out.cell hc
        clear hn hc
        go_wp2_with fail
        refine (num_run n _).mono ?_
        rintro e w2 ⟨v2, rfl, n2, o2⟩
        have N2 := hide n2.sl
        have O2 := hide (Old.trans HR.out o2)
        clear n2 o2 e0
        go_wp2_with fail
        refine (CS.out v2 _ w2 (Old.trans HO.out O2.out) N2.out (num_ok _ _ _ _ _ HN.out)).mono ?_
        rintro e w3 ⟨rfl, o3⟩
        have O3 := hide (Old.trans O2.out o3)
        clear o3
        go_wp2_with fail
        go_roundw
        case rel => exact ⟨k + 1, by go_num, by omega, O3⟩
        case measure => simp [intOf]; omega
      · have HOR := hide (Old.trans HO.out HR.out)
        clear HC HO HR
        go_wp2_with fail
        go_loopw [3] (fun i ws => ∃ k : Nat, i = .int .i64 k ∧ k ≤ 256 ∧ Hid (Old w ws)) (fun i _ => 256 - (intOf i).toNat)
        case atStart => exact ⟨0, rfl, by omega, HOR⟩
        case round =>
          obtain ⟨c, rfl, hc, HS⟩ := hrel
          by_cases hlt2 : c < 256
          · have hlt2' : (c : Int) < 256 := by omega
            obtain ⟨B, hB⟩ : ∃ B, Hid (strOfNums [(c : Int)] = B) := ⟨_, hide rfl⟩
            have KC := run_convert_bytes_arg (P := Tryd.prog) (wr.alloc (.cells #[.int .u8 (c : Int)] 5)) 48 5 Tryd.underlying48 Tryd.underlying5 wr.heap.size 0 1 1 [(c : Int)] rfl (fun i hi => by match i, hi with | 0, _ => go_simp) 9 Tryd.underlying9
            rw [hB.out] at KC
            go_upto_region 10 with fail
            go_cut [4] (fun bv wc => bv = .string B ∧ Hid (Old w wc))
            case first =>
              go_wp2_with fail
              go_meet
              exact ⟨rfl, hide (Old.alloc HS.out _)⟩
            case rest =>
              obtain ⟨rfl, HX⟩ := hcut
              obtain ⟨w4, hw4⟩ : ∃ w4, wc = w4 := ⟨_, rfl⟩
              subst hw4
              clear KC
              have N4 := hide ((nodes_lit wc [⟨5, none_, 0, B, 1⟩] _ rfl 0 (Nat.zero_le _) (by simp)).sl)
              go_wp2_with fail
              refine (CS.out _ [⟨5, none_, 0, B, 1⟩] _ (Old.alloc HX.out _) N4.out (num_ok _ _ _ _ _ (by omega))).mono ?_
              rintro e w5 ⟨rfl, o5⟩
              have O5 := hide (Old.trans (Old.alloc HX.out _) o5)
              clear o5 N4
              have N5 := hide ((nodes_lit w5 [⟨7, none_, 0, none_, 2⟩, ⟨1, B, 0, none_, 1⟩] _ rfl 0 (Nat.zero_le _) (by simp)).sl)
              go_wp2_with fail
              refine (CS.out _ [⟨7, none_, 0, none_, 2⟩, ⟨1, B, 0, none_, 1⟩] _ (Old.alloc O5.out _) N5.out (fun x hx => by simp at hx; rcases hx with rfl | rfl <;> simp)).mono ?_
              rintro e w6 ⟨rfl, o6⟩
              have O6 := hide (Old.trans (Old.alloc O5.out _) o6)
              clear o6 N5
              have N6 := hide ((nodes_lit w6 [⟨c, none_, 0, none_, 1⟩] _ rfl 0 (Nat.zero_le _) (by simp)).sl)
              go_wp2_with fail
              refine (CS.out _ [⟨c, none_, 0, none_, 1⟩] _ (Old.alloc O6.out _) N6.out (num_ok _ _ _ _ _ (by omega))).mono ?_
              rintro e w7 ⟨rfl, o7⟩
              have O7 := hide (Old.trans (Old.alloc O6.out _) o7)
              clear o7 N6
              go_wp2_with fail
              go_roundw
              case rel => exact ⟨c + 1, by go_num, by omega, O7⟩
              case measure => simp [intOf]; omega
          · have hge : ¬ (c : Int) < 256 := by omega
            obtain ⟨R1, h1⟩ : ∃ R, Hid (repB 1048574 97 = R) := ⟨_, hide rfl⟩
            obtain ⟨R2, h2⟩ : ∃ R, Hid (repB 1048575 97 = R) := ⟨_, hide rfl⟩
            obtain ⟨R3, h3⟩ : ∃ R, Hid (repB 174763 0 = R) := ⟨_, hide rfl⟩
            obtain ⟨R4, h4⟩ : ∃ R, Hid (repB 524288 97 = R) := ⟨_, hide rfl⟩
            have v1 := hide (repB_vU 1048574 (b := 97) (by decide))
            have v2 := hide (repB_vU 1048575 (b := 97) (by decide))
            have v3 := hide (repB_vU 174763 (b := 0) (by decide))
            have v4 := hide (repB_vU 524288 (b := 97) (by decide))
            have q1 := hide (quote_rep 1048574 97 1 rfl)
            have q2 := hide (quote_rep 1048575 97 1 rfl)
            have q3 := hide (quote_rep 174763 0 6 rfl)
            have s1 := hide (repB_size 1048574 97)
            have s2 := hide (repB_size 1048575 97)
            have s3 := hide (repB_size 174763 0)
            have s4 := hide (repB_size 524288 97)
            have C1 := hide (fun w' => repB_run 97 1048574 1048574 w' rfl (by omega))
            have C2 := hide (fun w' => repB_run 97 1048575 1048575 w' rfl (by omega))
            have C3 := hide (fun w' => repB_run 0 174763 174763 w' rfl (by omega))
            have C4 := hide (fun w' => repB_run 97 524288 524288 w' rfl (by omega))
            rw [h1.out] at v1 q1 s1 C1
            rw [h2.out] at v2 q2 s2 C2
            rw [h3.out] at v3 q3 s3 C3
            rw [h4.out] at v4 s4 C4
            have T := hide (fun (R : ByteArray) w' (o : Old w w') (hv : vU R = true) (hs : R.size ≤ 1048576) => str_as R (leafT 5 0 R) w' (by omega) (HT.out.old o) (by unfold strT; rw [hv]; rfl))
            obtain ⟨X1, hX1⟩ : ∃ X, Hid (quoteL R1 = X) := ⟨_, hide rfl⟩
            have S1 := hide (str_show_ok v1.out (by have := q1.out; omega))
            rw [hX1.out] at S1 q1
            obtain ⟨Y1, hY1⟩ : ∃ Y : ByteArray, Hid (⟨X1.toArray⟩ = Y) := ⟨_, hide rfl⟩
            have hY1s : Y1.size = 1048576 := by rw [← hY1.out]; have := q1.out; simp [ByteArray.size]; omega
            have hY1s' : ((Y1.size : Int) == 1048576) = true := by rw [hY1s]; rfl
            have S2 := hide (str_show_big v2.out (by have := q2.out; omega))
            have S3 := hide (str_canon_big v3.out (by have := q3.out; omega))
            have S4 := hide (twoBig v4.out (by have := s4.out; omega))
            have L4 := hide (twoList v4.out)
            have F1 := hide (str_fine (s := R1) (by have := s1.out; omega))
            have F2 := hide (str_fine (s := R2) (by have := s2.out; omega))
            have F3 := hide (str_fine (s := R3) (by have := s3.out; omega))
            have F4 := hide (twoFine (s := R4) (by have := s4.out; omega))
            have X4 := hide (twoTx (s := R4) (by have := s4.out; omega))
            have hY := hide hY1s
            clear hY1s h1 h2 h3 h4 q2 q3
            go_wp2_with fail
            refine (C1.out _).mono ?_
            rintro e a1 ⟨rfl, o1⟩
            have A1 := hide (Old.trans HS.out o1)
            clear o1 C1
            go_wp2_with fail
            refine (T.out R1 _ A1.out v1.out (by have := s1.out; omega)).mono ?_
            rintro e a2 ⟨u2, rfl, m2, o2⟩
            obtain ⟨P2, p2, rfl, _, _⟩ := nodes_form m2 rfl
            have A2 := hide (Old.trans A1.out o2)
            have M2 := hide m2.sl
            clear m2 o2
            go_wp2_with fail
            refine (show_run 1048576 _ _ _ 0 _ M2.out F1.out (HT.out.old A2.out) (PowTab.old HP.out A2.out) S1.out).mono ?_
            unfold strE
            rw [hY1.out]
            rintro e a3 ⟨rfl, o3⟩
            have A3 := hide (Old.trans A2.out o3)
            clear o3 M2
            go_wp2_with fail
            refine (C2.out _).mono ?_
            rintro e a4 ⟨rfl, o4⟩
            have A4 := hide (Old.trans A3.out o4)
            clear o4 C2
            go_wp2_with fail
            refine (T.out R2 _ A4.out v2.out (by have := s2.out; omega)).mono ?_
            rintro e a5 ⟨u5, rfl, m5, o5⟩
            obtain ⟨P5, p5, rfl, _, _⟩ := nodes_form m5 rfl
            have A5 := hide (Old.trans A4.out o5)
            have M5 := hide m5.sl
            clear m5 o5
            go_wp2_with fail
            refine (show_run 1048576 _ _ _ 5 _ M5.out F2.out (HT.out.old A5.out) (PowTab.old HP.out A5.out) S2.out).mono ?_
            unfold strE
            rintro e a6 ⟨rfl, o6⟩
            have A6 := hide (Old.trans A5.out o6)
            clear o6 M5
            go_wp2_with fail
            refine (C3.out _).mono ?_
            rintro e a7 ⟨rfl, o7⟩
            have A7 := hide (Old.trans A6.out o7)
            clear o7 C3
            go_wp2_with fail
            refine (T.out R3 _ A7.out v3.out (by have := s3.out; omega)).mono ?_
            rintro e a8 ⟨u8, rfl, m8, o8⟩
            obtain ⟨P8, p8, rfl, _, _⟩ := nodes_form m8 rfl
            have A8 := hide (Old.trans A7.out o8)
            have M8 := hide m8.sl
            clear m8 o8
            go_wp2_with fail
            refine (canon_run 1048576 _ _ _ 5 _ M8.out F3.out (HT.out.old A8.out) (PowTab.old HP.out A8.out) S3.out).mono ?_
            unfold strE
            rintro e a9 ⟨rfl, o9⟩
            have A9 := hide (Old.trans A8.out o9)
            clear o9 M8
            go_wp2_with fail
            refine (C4.out _).mono ?_
            rintro e b1 ⟨rfl, o1⟩
            have B1 := hide (Old.trans A9.out o1)
            clear o1 C4
            go_wp2_with fail
            refine (T.out R4 _ B1.out v4.out (by have := s4.out; omega)).mono ?_
            rintro e b2 ⟨u2, rfl, m2, o2⟩
            obtain ⟨P9, p9, rfl, _, _⟩ := nodes_form m2 rfl
            have B2 := hide (Old.trans B1.out o2)
            have M9 := hide m2.sl
            clear m2 o2
            have PL := hide (parts_lit b2 [(.slice P9 (leafT 5 0 R4).length p9, leafT 5 0 R4), (.slice P9 (leafT 5 0 R4).length p9, leafT 5 0 R4)] _ rfl (fun p hp => by
              have : p = (.slice P9 (leafT 5 0 R4).length p9, leafT 5 0 R4) := by simpa using hp
              subst this
              exact M9.out))
            go_wp2_with fail
            refine (list_run _ [leafT 5 0 R4, leafT 5 0 R4] (twoJ R4).flat 0 _ PL.out X4.out (HT.out.old (Old.alloc B2.out _)) L4.out).mono ?_
            rintro e b3 ⟨u3, rfl, m3, o3⟩
            obtain ⟨Q3, q3, rfl, _, _⟩ := nodes_form m3 (twoLen R4)
            have B3 := hide (Old.trans (Old.alloc B2.out _) o3)
            have M3 := hide m3.sl
            clear m3 o3
            go_wp2_with fail
            refine (show_run 1048576 _ _ _ 5 _ M3.out F4.out (HT.out.old B3.out) (PowTab.old HP.out B3.out) S4.out).mono ?_
            unfold strE
            rintro e b4 ⟨rfl, o4⟩
            have B4 := hide (Old.trans B3.out o4)
            clear o4 M3
            go_wp2_with fail
            refine (works_run _ (HT.out.old B4.out) (PowTab.old HP.out B4.out)).mono ?_
            rintro e b5 ⟨rfl, o5⟩
            have B5 := hide (Old.trans B4.out o5)
            clear o5
            go_wp2_with fail
            go_ret
            exact ⟨by first | rfl | simp, B5.out⟩
end Go.Proofs.YtmolmphbhdbcaaaDoor
