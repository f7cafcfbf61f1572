/- JreadKnown's walk. -/
import Derived.Test.YtdlcibbbebhcoaaGreatDoorKnwL
import Derived.Test.YtdlcibbbebhcoaaGreatDoorReadsW
import Derived.Laws.IdiomStrings
/-! ### JreadKnown's walk. -/
namespace Go.Proofs.YtdlcibbbebhcoaaGreatDoor
open Go.RowKit

/-- a row of short texts -/
def RowAt (g n : Nat) (w : World) : Prop := ∀ i, i < n → ∃ t : ByteArray, w.cell? ⟨g, i, none⟩ = some (.string t) ∧ t.size ≤ 40
theorem RowAt.old {g n : Nat} {w w' : World} (h : RowAt g n w) (o : Old w w') : RowAt g n w' := fun i hi => by
  obtain ⟨t, a, b⟩ := h i hi
  exact ⟨t, o.cell a, b⟩
def StrsB (cs : Array Value) : Bool := cs.toList.all fun v => match v with | .string t => decide (t.size ≤ 40) | _ => false
theorem strs_at (w : World) (cs : Array Value) (T : TypeId) (n : Nat) (h : StrsB cs = true) (hn : cs.size = n) : RowAt w.heap.size n (w.alloc (.cells cs T)) := by
  subst hn
  intro i hi
  rw [cell_of_heap (heap_alloc_new w _)]
  have hm : cs[i] ∈ cs.toList := by simp
  have hb := List.all_eq_true.1 h _ hm
  have e : cs[i]? = some cs[i] := Array.getElem?_eq_getElem hi
  rw [e]
  generalize cs[i] = v at hb
  cases v with
  | string t => exact ⟨t, rfl, of_decide_eq_true hb⟩
  | _ => simp at hb
theorem known_parse (u : ByteArray) (l : List UInt8) (hu : u.data.toList = l) (hs : u.size ≤ 1073741824) (p : Nat) (pi ci : Int) (hr : resOf l = (p, ci)) (hpi : (p : Int) = pi) (w : World) (hE : Errs w) (hT : Tabs w) :
    Calls Tryz.prog 5 #[.string u] w fun e w' => (∃ A m c, e = .returned (.tuple #[.slice A m c, .int .i64 pi, .int .i64 ci])) ∧ Old w w' := by
  subst hpi
  have e1 : p = (resOf l).1 := by rw [hr]
  have e2 : ci = (resOf l).2 := by rw [hr]
  rw [e1, e2]
  clear hr e1 e2
  refine (jparse_run u w hs hE hT).mono ?_
  rintro e w' ⟨h, o⟩
  refine ⟨?_, o⟩
  unfold JParsed at h
  rw [hu] at h
  unfold resOf
  cases hp : parseV l with
  | error x =>
    obtain ⟨p, c⟩ := x
    rw [hp] at h
    exact ⟨none, 0, 0, h⟩
  | ok j =>
    rw [hp] at h
    obtain ⟨v, h1, h2⟩ := h
    obtain ⟨A, c, rfl, _⟩ := SlT.of_own h2
    exact ⟨A, _, c, h1⟩
theorem rep_run (q : ByteArray) (l : List UInt8) (hq : q.data.toList = l) (n : Nat) (w : World) (hn : l.length * n ≤ 140737488355328) (hn2 : n ≤ 9223372036854775807) :
    Calls Tryz.prog 6 #[.string q, .int .i64 (n : Int)] w fun e w' => e = .returned (.string (bT (Lib.repeatL l n))) ∧ Old w w' := by
  have h := Tryz.strings_Repeat q n w hn2 (by rw [← list_size, hq]; exact hn)
  rw [hq] at h
  exact h
theorem rep_size (l : List UInt8) (n : Nat) : (bT (Lib.repeatL l n)).size = n * l.length := by rw [bT_size, Lib.repeatL_length]
theorem app_bT (a b : List UInt8) : bT a ++ bT b = bT (a ++ b) := by
  have h : (bT a ++ bT b : ByteArray).data = (bT (a ++ b)).data := by apply Array.toList_inj.1; simp [bT]
  exact ByteArray.ext h
theorem list_bT (l : List UInt8) : (bT l).data.toList = l := by simp [bT]
theorem wrap_u8 (c : Nat) (hc : c < 256) : IntKind.u8.wrap (c : Int) = (c : Int) := by
  have e : IntKind.u8.wrap (c : Int) = (c : Int) % 256 := by
    unfold IntKind.wrap
    rw [if_neg (by simp [show IntKind.u8.signed = false from rfl])]
    rfl
  rw [e]
  omega
theorem one_byte (w : World) (c : Nat) (hc : c < 256) : (convert 23 9 (.slice (some ⟨w.heap.size, 0, none⟩) 1 1)).run Tryz.prog (w.alloc (.cells #[.int .u8 (c : Int)] 5)) = .ok (.string ⟨[UInt8.ofNat c].toArray⟩) (w.alloc (.cells #[.int .u8 (c : Int)] 5)) := by
  refine run_convert_bytes_back _ _ _ 5 ⟨w.heap.size, 0, none⟩ 1 [UInt8.ofNat c] Tryz.underlying23 Tryz.underlying5 Tryz.underlying9 fun j hj => ?_
  obtain rfl : j = 0 := by simpa using hj
  have e : ((UInt8.ofNat c).toNat : Int) = (c : Int) := by rw [UInt8.toNat_ofNat_of_lt' hc]
  simp only [List.getElem_cons_zero]
  rw [e]
  exact (cell_of_heap (heap_alloc_new w _)).trans rfl
set_option maxRecDepth 100000 in
set_option maxHeartbeats 4000000 in
theorem jknown_walk (W : World) (hT : Tabs W) (hE : Errs W) : Calls Tryz.prog 3 #[] W fun e w' => e = .returned (.bool true) ∧ Old W w' := by
  have HE := hide hE
  have HT := hide hT
  have CJ := hide (fun (s : ByteArray) (w : World) (o : Old W w) => (jreads_walk s w (hT.old o) (hE.old o)).mono fun e w' h => (show e = .returned (.bool true) ∧ Old w w' from h))
  clear hE hT
  obtain ⟨g0, hg0⟩ : ∃ g0, Hid (W.heap.size = g0) := ⟨_, hide rfl⟩
  go_enter Tryz.func3, Tryz.ntmps3
  go_wp2_with fail
  go_loopw [2] (fun cv wr => ∃ c : Nat, cv = .int .i64 c ∧ c ≤ 256 ∧ Hid (RowAt W.heap.size 24 wr) ∧ Hid (Old W wr)) (fun cv _ => 256 - (intOf cv).toNat)
  case atStart => exact ⟨0, rfl, by omega, hide (strs_at W _ 9 24 (by kernel_rfl) rfl), hide (Old.alloc (Old.refl _) _)⟩
  case round =>
    obtain ⟨c, rfl, hc, HR, HO⟩ := hrel
    by_cases hlt : c < 256
    · have hci : (c : Int) < 256 := by omega
      have hcw : IntKind.u8.wrap (c : Int) = (c : Int) := wrap_u8 c hlt
      have hcv := one_byte wr c hlt
      obtain ⟨bb, hbb⟩ : ∃ bb : ByteArray, (⟨[UInt8.ofNat c].toArray⟩ : ByteArray) = bb := ⟨_, rfl⟩
      have hbs : bb.size ≤ 1 := by rw [← hbb]; exact Nat.le_refl _
      rw [hbb] at hcv
      clear hbb
      obtain ⟨w0, hw0⟩ : ∃ x, x = wr := ⟨_, rfl⟩
      subst hw0
      go_wp2_with fail
      go_loopw [4] (fun iv wr => ∃ i : Nat, iv = .int .i64 i ∧ i ≤ 24 ∧ Hid (RowAt W.heap.size 24 wr) ∧ Hid (Old W wr)) (fun iv _ => 24 - (intOf iv).toNat)
      case atStart => exact ⟨0, rfl, by omega, hide (HR.out.old (Old.alloc (Old.refl _) _)), hide (Old.alloc HO.out _)⟩
      case round =>
        obtain ⟨i, rfl, hi, HR2, HO2⟩ := hrel
        by_cases hli : i < 24
        · obtain ⟨t, ht, hts⟩ := HR2.out i hli
          have hlii : (i : Int) < 24 := by omega
          have Q0 := hide (Old.refl wr)
          have C1 := hide (fun s => CJ.out s wr (Old.trans HO2.out Q0.out))
          go_wp2_with fail
          refine (C1.out _).mono ?_
          rintro e w1 ⟨rfl, o1⟩
          have Q1 := hide (Old.trans Q0.out o1)
          clear o1 C1
          have C2 := hide (fun s => CJ.out s w1 (Old.trans HO2.out Q1.out))
          have y2 := Q1.out.cell ht
          go_wp2_with fail
          refine (C2.out _).mono ?_
          rintro e w2 ⟨rfl, o2⟩
          have Q2 := hide (Old.trans Q1.out o2)
          clear o2 C2
          have C3 := hide (fun s => CJ.out s w2 (Old.trans HO2.out Q2.out))
          have y3 := Q2.out.cell ht
          go_wp2_with fail
          refine (C3.out _).mono ?_
          rintro e w3 ⟨rfl, o3⟩
          have Q3 := hide (Old.trans Q2.out o3)
          clear o3 C3
          have C4 := hide (fun s => CJ.out s w3 (Old.trans HO2.out Q3.out))
          have y4 := Q3.out.cell ht
          go_wp2_with fail
          refine (C4.out _).mono ?_
          rintro e w4 ⟨rfl, o4⟩
          have Q4 := hide (Old.trans Q3.out o4)
          clear o4 C4
          have RN := hide (HR2.out.old Q4.out)
          have ON := hide (Old.trans HO2.out Q4.out)
          go_wp2_with fail
          go_roundw
          case rel => exact ⟨i + 1, by go_num, by omega, RN, ON⟩
          case measure => simp [intOf]; omega
        · have hlii : ¬ (i : Int) < 24 := by omega
          go_wp2_with fail
          go_roundw
          case rel => exact ⟨c + 1, by go_num, by omega, HR2, HO2⟩
          case measure => simp [intOf]; omega
    · have hci : ¬ (c : Int) < 256 := by omega
      obtain ⟨w0, hw0⟩ : ∃ x, x = wr := ⟨_, rfl⟩
      subst hw0
      have HS0 := hide (show W.heap.size ≤ w0.heap.size from HO.out.size)
      clear HR
      go_wp2_with fail
      go_loopw [6] (fun iv wr => ∃ i : Nat, iv = .int .i64 i ∧ i ≤ 25 ∧ Hid (RowAt w0.heap.size 25 wr) ∧ Hid (Old W wr)) (fun iv _ => 25 - (intOf iv).toNat)
      case atStart => exact ⟨0, rfl, by omega, hide (strs_at w0 _ 9 25 (by kernel_rfl) rfl), hide (Old.alloc HO.out _)⟩
      case round =>
        obtain ⟨i, rfl, hi, HR2, HO2⟩ := hrel
        by_cases hli : i < 25
        · obtain ⟨t, ht, hts⟩ := HR2.out i hli
          have hlii : (i : Int) < 25 := by omega
          have Q0 := hide (Old.refl wr)
          have C1 := hide (fun s => CJ.out s wr (Old.trans HO2.out Q0.out))
          go_wp2_with fail
          refine (C1.out _).mono ?_
          rintro e w1 ⟨rfl, o1⟩
          have Q1 := hide (Old.trans Q0.out o1)
          clear o1 C1
          have C2 := hide (fun s => CJ.out s w1 (Old.trans HO2.out Q1.out))
          have y2 := Q1.out.cell ht
          go_wp2_with fail
          refine (C2.out _).mono ?_
          rintro e w2 ⟨rfl, o2⟩
          have Q2 := hide (Old.trans Q1.out o2)
          clear o2 C2
          have C3 := hide (fun s => CJ.out s w2 (Old.trans HO2.out Q2.out))
          have y3 := Q2.out.cell ht
          go_wp2_with fail
          refine (C3.out _).mono ?_
          rintro e w3 ⟨rfl, o3⟩
          have Q3 := hide (Old.trans Q2.out o3)
          clear o3 C3
          have C4 := hide (fun s => CJ.out s w3 (Old.trans HO2.out Q3.out))
          have y4 := Q3.out.cell ht
          go_wp2_with fail
          refine (C4.out _).mono ?_
          rintro e w4 ⟨rfl, o4⟩
          have Q4 := hide (Old.trans Q3.out o4)
          clear o4 C4
          have RN := hide (HR2.out.old Q4.out)
          have ON := hide (Old.trans HO2.out Q4.out)
          go_wp2_with fail
          go_roundw
          case rel => exact ⟨i + 1, by go_num, by omega, RN, ON⟩
          case measure => simp [intOf]; omega
        · have hlii : ¬ (i : Int) < 25 := by omega
          obtain ⟨w1, hw1⟩ : ∃ x, x = wr := ⟨_, rfl⟩
          subst hw1
          have HOW := HO2
          clear HR2 HO2 HO HS0
          go_wp2_with fail
          go_loopw [7] (fun iv wr => ∃ n : Nat, iv = .int .i64 n ∧ 62 ≤ n ∧ n ≤ 67 ∧ Hid (Old W wr)) (fun iv _ => 67 - (intOf iv).toNat)
          case atStart => exact ⟨62, rfl, by omega, by omega, HOW⟩
          case round =>
            clear HOW
            obtain ⟨n, rfl, hn1, hn2, HO⟩ := hrel
            by_cases hlt : n < 67
            · have hni : (n : Int) < 67 := by omega
              have hn1i : (62 : Int) ≤ (n : Int) := by omega
              obtain ⟨a, ha⟩ : ∃ a, Hid (bT (Lib.repeatL [91] n) = a) := ⟨_, hide rfl⟩
              obtain ⟨b, hb⟩ : ∃ b, Hid (bT (Lib.repeatL [93] n) = b) := ⟨_, hide rfl⟩
              obtain ⟨c, hc⟩ : ∃ c, Hid (bT (Lib.repeatL [123, 34, 97, 34, 58] n) = c) := ⟨_, hide rfl⟩
              obtain ⟨d, hd⟩ : ∃ d, Hid (bT (Lib.repeatL [125] n) = d) := ⟨_, hide rfl⟩
              have has : a.size ≤ 70 := by rw [← ha.out, rep_size]; simp; omega
              have hbs : b.size ≤ 70 := by rw [← hb.out, rep_size]; simp; omega
              have hcs : c.size ≤ 350 := by rw [← hc.out, rep_size]; simp; omega
              have hds : d.size ≤ 70 := by rw [← hd.out, rep_size]; simp; omega
              have CA := fun w => rep_run ⟨#[91]⟩ [91] rfl n w (by simp; omega) (by omega)
              have CB := fun w => rep_run ⟨#[93]⟩ [93] rfl n w (by simp; omega) (by omega)
              have CC := fun w => rep_run ⟨#[123, 34, 97, 34, 58]⟩ [123, 34, 97, 34, 58] rfl n w (by simp; omega) (by omega)
              have CD := fun w => rep_run ⟨#[125]⟩ [125] rfl n w (by simp; omega) (by omega)
              rw [ha.out] at CA
              rw [hb.out] at CB
              rw [hc.out] at CC
              rw [hd.out] at CD
              have hu : (a ++ b).data.toList = deepK n := by rw [← ha.out, ← hb.out, app_bT, list_bT]; rfl
              have hus : (a ++ b).size ≤ 1073741824 := by rw [← list_size, hu]; unfold deepK; rw [List.length_append, Lib.repeatL_length, Lib.repeatL_length]; simp; omega
              have RES : Hid (n ≤ 64 ∧ resOf (deepK n) = (0, 0)) ∨ Hid (¬ n ≤ 64 ∧ resOf (deepK n) = (64, 72)) := by
                have h5 : n = 62 ∨ n = 63 ∨ n = 64 ∨ n = 65 ∨ n = 66 := by omega
                rcases h5 with rfl | rfl | rfl | rfl | rfl
                · exact .inl (hide ⟨by omega, deep_62⟩)
                · exact .inl (hide ⟨by omega, deep_63⟩)
                · exact .inl (hide ⟨by omega, deep_64⟩)
                · exact .inr (hide ⟨by omega, deep_65⟩)
                · exact .inr (hide ⟨by omega, deep_66⟩)
              have CP : ∃ pi ci : Int, Hid (∀ w, Old W w → Calls Tryz.prog 5 #[.string (a ++ b)] w fun e w' => (∃ A m c, e = .returned (.tuple #[.slice A m c, .int .i64 pi, .int .i64 ci])) ∧ Old w w') ∧ ((n : Int) ≤ 64 ∧ decide ((n : Int) ≤ 64) = true ∧ ci = 0 ∧ pi = 0 ∨ ¬ (n : Int) ≤ 64 ∧ decide ((n : Int) ≤ 64) = false ∧ ci = 72 ∧ pi = 64) := by
                rcases RES with RES | RES
                · refine ⟨0, 0, hide fun w o => known_parse (a ++ b) (deepK n) hu hus _ _ _ RES.out.2 rfl w (HE.out.old o) (HT.out.old o), .inl ?_⟩
                  have h : (n : Int) ≤ 64 := by (have := RES.out.1; omega)
                  exact ⟨h, decide_eq_true h, rfl, rfl⟩
                · refine ⟨64, 72, hide fun w o => known_parse (a ++ b) (deepK n) hu hus _ _ _ RES.out.2 rfl w (HE.out.old o) (HT.out.old o), .inr ?_⟩
                  have h : ¬ (n : Int) ≤ 64 := by (have := RES.out.1; omega)
                  exact ⟨h, decide_eq_false h, rfl, rfl⟩
              have CA := hide CA
              have CB := hide CB
              have CC := hide CC
              have CD := hide CD
              clear hu hus RES
              obtain ⟨pi, ci, CP, HR⟩ := CP
              rcases HR with ⟨r1, r2, rfl, rfl⟩ | ⟨r1, r2, rfl, rfl⟩
              all_goals
                go_wp2_with fail
                refine (CA.out _).mono ?_
                rintro e w2 ⟨rfl, o2⟩
                have O2 := hide (Old.trans HO.out o2)
                clear o2
                go_wp2_with fail
                refine (CB.out _).mono ?_
                rintro e w3 ⟨rfl, o3⟩
                have O3 := hide (Old.trans O2.out o3)
                clear o3
                go_wp2_with fail
                refine (CP.out _ O3.out).mono ?_
                rintro e w4 ⟨⟨A4, m4, c4, rfl⟩, o4⟩
                have O4 := hide (Old.trans O3.out o4)
                clear o4
                go_wp2_with fail
                refine (CC.out _).mono ?_
                rintro e w5 ⟨rfl, o5⟩
                have O5 := hide (Old.trans O4.out o5)
                clear o5
                go_wp2_with fail
                refine (CD.out _).mono ?_
                rintro e w6 ⟨rfl, o6⟩
                have O6 := hide (Old.trans O5.out o6)
                clear o6
                go_wp2_with fail
                refine (CJ.out _ _ O6.out).mono ?_
                rintro e w7 ⟨rfl, o7⟩
                have O7 := hide (Old.trans O6.out o7)
                clear o7
                go_wp2_with fail
                go_roundw
                case rel => exact ⟨n + 1, by go_num, by omega, by omega, O7⟩
                case measure => simp [intOf]; omega
            · have hni : ¬ (n : Int) < 67 := by omega
              obtain ⟨w1, hw1⟩ : ∃ x, x = wr := ⟨_, rfl⟩
              subst hw1
              obtain ⟨a, ha⟩ : ∃ a, Hid (bT (Lib.repeatL [44, 49] 3998) = a) := ⟨_, hide rfl⟩
              obtain ⟨b, hb⟩ : ∃ b, Hid (bT (Lib.repeatL [44, 49] 3999) = b) := ⟨_, hide rfl⟩
              obtain ⟨c, hc⟩ : ∃ c, Hid (bT (Lib.repeatL [32] 1048577) = c) := ⟨_, hide rfl⟩
              obtain ⟨d, hd⟩ : ∃ d, Hid (bT (Lib.repeatL [32] 1048575) = d) := ⟨_, hide rfl⟩
              have has : a.size ≤ 8000 := by rw [← ha.out, rep_size]; simp
              have hbs : b.size ≤ 8000 := by rw [← hb.out, rep_size]; simp
              have hcs : c.size ≤ 1048577 := by rw [← hc.out, rep_size]; simp
              have hds : d.size ≤ 1048577 := by rw [← hd.out, rep_size]; simp
              have CA : ∀ w, Calls Tryz.prog 6 #[.string ⟨#[44, 49]⟩, .int .i64 3998] w fun e w' => e = .returned (.string a) ∧ Old w w' := fun w => by
                have h := rep_run ⟨#[44, 49]⟩ [44, 49] rfl 3998 w (by simp) (by omega)
                rw [ha.out] at h
                exact h
              have CB : ∀ w, Calls Tryz.prog 6 #[.string ⟨#[44, 49]⟩, .int .i64 3999] w fun e w' => e = .returned (.string b) ∧ Old w w' := fun w => by
                have h := rep_run ⟨#[44, 49]⟩ [44, 49] rfl 3999 w (by simp) (by omega)
                rw [hb.out] at h
                exact h
              have CC : ∀ w, Calls Tryz.prog 6 #[.string ⟨#[32]⟩, .int .i64 1048577] w fun e w' => e = .returned (.string c) ∧ Old w w' := fun w => by
                have h := rep_run ⟨#[32]⟩ [32] rfl 1048577 w (by simp) (by omega)
                rw [hc.out] at h
                exact h
              have CD : ∀ w, Calls Tryz.prog 6 #[.string ⟨#[32]⟩, .int .i64 1048575] w fun e w' => e = .returned (.string d) ∧ Old w w' := fun w => by
                have h := rep_run ⟨#[32]⟩ [32] rfl 1048575 w (by simp) (by omega)
                rw [hd.out] at h
                exact h
              have sz : ∀ (u : ByteArray) (l : List UInt8), u.data.toList = l → l.length ≤ 1073741824 → u.size ≤ 1073741824 := fun u l h h2 => by rw [← list_size, h]; exact h2
              have ua : (⟨#[91, 49]⟩ ++ a ++ ⟨#[93]⟩ : ByteArray).data.toList = 91 :: 49 :: onesR 3998 := by
                rw [← ha.out, show (⟨#[91, 49]⟩ : ByteArray) = bT [91, 49] from rfl, show (⟨#[93]⟩ : ByteArray) = bT [93] from rfl, app_bT, app_bT, list_bT]
                rfl
              have ub : (⟨#[91, 49]⟩ ++ b ++ ⟨#[93]⟩ : ByteArray).data.toList = 91 :: 49 :: onesR 3999 := by
                rw [← hb.out, show (⟨#[91, 49]⟩ : ByteArray) = bT [91, 49] from rfl, show (⟨#[93]⟩ : ByteArray) = bT [93] from rfl, app_bT, app_bT, list_bT]
                rfl
              have uc : c.data.toList = Lib.repeatL [32] 1048577 := by rw [← hc.out, list_bT]
              have ud : (d ++ ⟨#[49]⟩ : ByteArray).data.toList = Lib.repeatL [32] 1048575 ++ [49] := by
                rw [← hd.out, show (⟨#[49]⟩ : ByteArray) = bT [49] from rfl, app_bT, list_bT]
              have PA := fun w (o : Old W w) => known_parse _ _ ua (sz _ _ ua (by simp only [List.length_cons, onesR_len]; omega)) _ 0 0 (ones_ok 3998 (by omega)) rfl w (HE.out.old o) (HT.out.old o)
              have PB := fun w (o : Old W w) => known_parse _ _ ub (sz _ _ ub (by simp only [List.length_cons, onesR_len]; omega)) _ 7999 5 (ones_bad) rfl w (HE.out.old o) (HT.out.old o)
              have PC := fun w (o : Old W w) => known_parse _ _ uc (sz _ _ uc (by rw [Lib.repeatL_length]; simp)) _ 0 5 (spaces_much 1048577 (by omega)) rfl w (HE.out.old o) (HT.out.old o)
              have PD := fun w (o : Old W w) => known_parse _ _ ud (sz _ _ ud (by rw [List.length_append, Lib.repeatL_length]; simp)) _ 0 0 (spaces_some 1048575 (by omega)) rfl w (HE.out.old o) (HT.out.old o)
              have CA := hide CA
              have CB := hide CB
              have CC := hide CC
              have CD := hide CD
              have PA := hide PA
              have PB := hide PB
              have PC := hide PC
              have PD := hide PD
              clear sz ua ub uc ud
              go_wp2_with fail
              refine (CA.out _).mono ?_
              rintro e w2 ⟨rfl, o2⟩
              have O2 := hide (Old.trans HO.out o2)
              clear o2
              go_wp2_with fail
              refine (PA.out _ O2.out).mono ?_
              rintro e w3 ⟨⟨A3, m3, c3, rfl⟩, o3⟩
              have O3 := hide (Old.trans O2.out o3)
              clear o3
              go_wp2_with fail
              refine (CB.out _).mono ?_
              rintro e w4 ⟨rfl, o4⟩
              have O4 := hide (Old.trans O3.out o4)
              clear o4
              go_wp2_with fail
              refine (PB.out _ O4.out).mono ?_
              rintro e w5 ⟨⟨A5, m5, c5, rfl⟩, o5⟩
              have O5 := hide (Old.trans O4.out o5)
              clear o5
              go_wp2_with fail
              refine (CC.out _).mono ?_
              rintro e w6 ⟨rfl, o6⟩
              have O6 := hide (Old.trans O5.out o6)
              clear o6
              go_wp2_with fail
              refine (PC.out _ O6.out).mono ?_
              rintro e w7 ⟨⟨A7, m7, c7, rfl⟩, o7⟩
              have O7 := hide (Old.trans O6.out o7)
              clear o7
              go_wp2_with fail
              refine (CD.out _).mono ?_
              rintro e w8 ⟨rfl, o8⟩
              have O8 := hide (Old.trans O7.out o8)
              clear o8
              go_wp2_with fail
              refine (PD.out _ O8.out).mono ?_
              rintro e w9 ⟨⟨A9, m9, c9, rfl⟩, o9⟩
              have O9 := hide (Old.trans O8.out o9)
              clear o9
              have CW := hide (works_run w9 (HE.out.old O9.out) (HT.out.old O9.out))
              go_wp2_with fail
              refine CW.out.mono ?_
              rintro e w10 ⟨rfl, o10⟩
              have O10 := hide (Old.trans O9.out o10)
              clear o10
              go_wp2_with fail
              go_ret
              exact ⟨rfl, O10.out⟩
end Go.Proofs.YtdlcibbbebhcoaaGreatDoor
