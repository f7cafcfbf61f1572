/-  -/
import Derived.Test.YthlfljmfggmfdaaGreatDoorQk11
import Derived.Test.YthlfljmfggmfdaaGreatDoorQk13
import Derived.Maps.OwnSet
import Derived.Deep.CutBlock
import Derived.Deep.DeepCutAuto
import Derived.Laws.IdiomStrings
/-! ###  -/
namespace Go.Proofs.YthlfljmfggmfdaaGreatDoor
open Go.RowKit
theorem WBs.old {T : TypeId} {B b : Nat} {l : List UInt8} {w w' : World} (h : WBs T B b l w) (o : Old w w') : WBs T B b l w' := by
 have go : ∀ p, Lib.BuilderAtF T 5 B b p (Lib.byteCells l) w → Lib.BuilderAtF T 5 B b p (Lib.byteCells l) w' := by
  rintro p ⟨hB, v, hb, hown, hne⟩
  refine ⟨hB, v, o.heap hb, ⟨hown.1, ?_⟩, hne⟩
  rcases hown.2 with h | ⟨g, cap, cur, fz, hv, hg, hh, r⟩
  · exact .inl h
  · exact .inr ⟨g, cap, cur, fz, hv, hg, o.heap hh, r⟩
 exact h.imp (go _) (go _)
theorem and15 {r : Nat} (h : r < 32) : bits BinOp.and IntKind.i32 (r : Int) 15 = ((r % 16 : Nat) : Int) := by
 have key : ∀ k : _root_.Fin 32, bits BinOp.and IntKind.i32 ((k.val : Nat) : Int) 15 = ((k.val % 16 : Nat) : Int) := by decide +kernel
 exact key ⟨r, h⟩
theorem hex_at {k : Nat} (h : k < 16) : (⟨#[48, 49, 50, 51, 52, 53, 54, 55, 56, 57, 97, 98, 99, 100, 101, 102]⟩ : ByteArray).extract k (k + 1) = ⟨#[hexB k]⟩ := by
 have key : ∀ k : _root_.Fin 16, (⟨#[48, 49, 50, 51, 52, 53, 54, 55, 56, 57, 97, 98, 99, 100, 101, 102]⟩ : ByteArray).extract k.val (k.val + 1) = ⟨#[hexB k.val]⟩ := by decide +kernel
 exact key ⟨k, h⟩
def restL (s : ByteArray) (pos : Nat) : List UInt8 := s.data.toList.drop pos
def litTo (s : ByteArray) (pos : Nat) : List UInt8 := 34 :: escL (s.data.toList.take pos)
theorem litTo_len (s : ByteArray) (pos : Nat) : (litTo s pos).length ≤ 1 + 6 * s.size := by
 have h := (escL_len (s.data.toList.take pos)).2
 have e : s.data.toList.length = s.size := Array.length_toList
 rw [List.length_take, e] at h
 simp only [litTo, List.length_cons]
 omega
theorem litTo_next (s : ByteArray) (pos n : Nat) : litTo s (pos + n) = litTo s pos ++ escL ((restL s pos).take n) := by
 unfold litTo restL
 rw [List.take_add, escL_append]
 rfl
theorem litTo_all (s : ByteArray) : litTo s s.size ++ [34] = quoteL s := by
 have e : s.data.toList.length = s.size := Array.length_toList
 unfold litTo quoteL
 rw [List.take_of_length_le (by omega)]
 rfl
set_option maxRecDepth 100000 in
set_option maxHeartbeats 4000000 in
theorem quote_ok (s : ByteArray) (w : World) (hs : s.size ≤ 17592186044416) (hv : vU s = true) (hT : Tabs w) :
 Calls Tryz.prog 122 #[.string s] w fun e w' => e = .returned (.tuple #[.string ⟨(quoteL s).toArray⟩, .int .i64 0]) ∧ Old w w' := by
 have CV := utf_Valid s w (by omega) hT
 rw [hv] at CV
 have HV := hide (show Lib.validD (restL s 0) = true from hv)
 clear hT hv
 go_enter Tryz.func122, Tryz.ntmps122
 go_wp2_with fail
 refine CV.mono ?_
 rintro e w1 ⟨rfl, o1⟩
 clear CV
 have O1 := hide o1
 clear o1
 go_wp2_with fail
 refine (wb_WriteByte 91 (.inl rfl) w1.heap.size w1.heap.size [] 34 _ (Lib.IsBuilderF.of (Lib.fresh_isBuilder _ _ w1)) (by simp) (by simp)).mono ?_
 rintro e w2 ⟨rfl, h2, k2⟩
 go_wp2_with fail
 refine (short_run w2).mono ?_
 rintro e w3 ⟨bm, rfl, hb1, hb2, hm3, o3⟩
 obtain ⟨B, hB⟩ : ∃ B, Hid (w1.heap.size = B) := ⟨_, hide rfl⟩
 obtain ⟨it, hit⟩ : ∃ it, Hid (w3.heap.size = it) := ⟨_, hide rfl⟩
 have hB2 : B < w2.heap.size := by
  have := k2.below.size
  rw [← hB.out]
  simp at this
  omega
 have HW := hide (show WBs 91 B B (litTo s 0) (w3.iter s 0) by
  have h3 := WBs.old h2 (Old.alloc o3 (.stringIter s 0))
  rw [hB.out] at h3
  exact h3)
 have HI := hide (show (w3.iter s 0).heap[it]? = some (.stringIter s 0) by rw [← hit.out]; exact World.iter_heap w3 s 0)
 have HM := hide (show MapTwo bm (w3.iter s 0) from hm3.same fun o ho => (Old.alloc (Old.refl w3) (.stringIter s 0)).heap ho)
 have HK := hide (show Old w1 (w3.iter s 0) from Old.alloc (((Below.refl w1.heap.size w1).alloc (Nat.le_refl _) _).trans (k2.below.trans (Below.mono o3 (by rw [hB.out]; omega)))) _)
 have hbm : bm < it := by rw [← hit.out]; exact hb2
 have hBi : B < it := by rw [← hit.out]; exact Nat.lt_of_lt_of_le hB2 o3.size
 have hBm : B ≠ bm := by omega
 clear h2 k2 hm3 o3 hb1 hb2
 go_wp2_with fail
 rw [hB.out, hit.out]
 go_loopw [] (fun wr => ∃ pos, pos ≤ s.size ∧ Hid (WBs 91 B B (litTo s pos) wr) ∧ Hid (wr.heap[it]? = some (.stringIter s pos)) ∧ Hid (MapTwo bm wr) ∧ Hid (Lib.validD (restL s pos) = true) ∧ Hid (Old w1 wr)) (fun wr => s.size - wr.iterPos it)
 case atStart => exact ⟨0, Nat.zero_le _, HW, HI, HM, HV, HK⟩
 case round =>
  clear HW HI HM HV HK
  obtain ⟨pos, hpos, HW, HI, HM, HV, HK⟩ := hrel
  have hll := litTo_len s pos
  have hBw : B ≤ wr.heap.size := by have := (Array.getElem?_eq_some_iff.1 HI.out).1; omega
  by_cases hp : pos < s.size
  · have hne : restL s pos ≠ [] := by
     intro e
     have := congrArg List.length e
     have e2 : s.data.toList.length = s.size := Array.length_toList
     rw [restL, List.length_drop, e2] at this
     simp at this
     omega
    have hnx : ∀ ty, (Instr.next (.pointer (some ⟨it, 0, none⟩)) true ty).run Tryz.prog wr = _ := fun ty => Lib.run_next_any_at wr it s pos ty HI.out hp
    obtain ⟨RA, HV2⟩ := valid_step HV.out hne
    have hdec : Lib.decodeL (restL s pos) = Utf8.decode s pos := Lib.decodeL_drop s pos
    rw [hdec] at RA HV2
    have er := esc_rune RA
    obtain ⟨r, hr⟩ : ∃ r, Hid ((Utf8.decode s pos).1 = r) := ⟨_, hide rfl⟩
    obtain ⟨n, hn⟩ : ∃ n, Hid ((Utf8.decode s pos).2 = n) := ⟨_, hide rfl⟩
    simp only [hr.out, hn.out] at hnx RA HV2 er
    have hnle : pos + n ≤ s.size := by
     have h := RA.le
     have e2 : s.data.toList.length = s.size := Array.length_toList
     rw [restL, List.length_drop, e2] at h
     omega
    have hn1 := RA.pos
    have hrm := RA.most
    have HV3 := hide (show Lib.validD (restL s (pos + n)) = true by unfold restL at HV2 ⊢; rwa [List.drop_drop] at HV2)
    have W2 := hide (show WBs 91 B B (litTo s pos) (wr.iterAt it s (pos + n)) from HW.out.iterAt HI.out _)
    have I2 := hide (Lib.iterAt_heap wr it s pos (pos + n) HI.out)
    have K2 := hide (show Old w1 (wr.iterAt it s (pos + n)) from Lib.below_iterAt HK.out (k := it) (by rw [hB.out]; omega) s (pos + n))
    have M2 := hide (show MapTwo bm (wr.iterAt it s (pos + n)) from HM.out.same fun o ho => by rw [Lib.iterAt_other _ _ _ _ _ (by omega)]; exact ho)
    have hkey : keyOf Tryz.prog 21 (.int .i32 r) = some (.int .i32 r) := Maps.keyOf_int_mk Tryz.underlying21 (WalkArith.wf_i32 (by omega))
    have hsz : B ≤ (wr.iterAt it s (pos + n)).heap.size := by rw [Lib.iterAt_size]; exact hBw
    clear hdec RA HV2 HV hne
    have hhas := dTwo_has r
    rcases htw : twoOf r with _ | c0
    · rw [htw] at hhas er
      simp only [Option.isSome_none] at hhas
      by_cases hr32 : r < 32
      · simp only [if_pos hr32] at er
        have hr32' : (r : Int) < 32 := by omega
        have hand := and15 hr32
        go_wp2_with (at_lookup; refine wpList_lookup_own_ok_int _ rfl _ _ 214 rfl 21 5 .u8 (Maps.int_keyed Tryz.underlying21) Tryz.underlying214 Tryz.underlying5 (Tryz.zeroValue5 _) bm 7 dTwo rfl M2.out _ _ rfl hkey ?_; intro c hat hwf)
        refine region_later_tail 14 (by kernel_rfl) (by kernel_rfl) ?_
        simp only [List.take_succ_cons, List.take_zero, List.drop_succ_cons, List.drop_zero]
        repeat (go_big_quiet_step (fail))
        refine wpQuiet_nil ?_
        rintro wz ⟨⟨_, hwz⟩, rfl⟩
        have WZ := hide (WBs.old W2.out hwz)
        have IZ := hide (hwz.heap I2.out)
        have MZ := hide (M2.out.same fun o ho => hwz.heap ho)
        have KZ := hide (Old.trans K2.out hwz)
        have hszz : B ≤ wz.heap.size := Nat.le_trans hsz hwz.size
        have x1 := hex_at (k := r / 16) (by omega)
        have x2 := hex_at (k := r % 16) (by omega)
        go_wp2_with fail
        refine (wb_WriteString 91 (.inl rfl) B B (litTo s pos) ⟨#[92, 117, 48, 48, hexB (r / 16), hexB (r % 16)]⟩ _ WZ.out (by simp [ByteArray.size]; omega) hszz).mono ?_
        rintro e w5 ⟨rfl, h5, k5⟩
        have H5 := hide (show WBs 91 B B (litTo s (pos + n)) w5 by rw [litTo_next, er]; exact h5)
        have I5 := hide (k5.others _ _ IZ.out (by simp; omega) (by simp))
        have M5 := hide (show MapTwo bm w5 by
         obtain ⟨es, clock, hb, F, hs, hD⟩ := MZ.out
         exact ⟨es, clock, k5.others _ _ hb (by simp; omega) (by simp), F, hs, hD⟩)
        have K5 := hide (show Old w1 w5 from Below.trans KZ.out (by rw [hB.out]; exact k5.below))
        clear h5 k5
        go_wp2_with fail
        go_roundw
        case rel => exact ⟨pos + n, hnle, H5, I5, M5, HV3, K5⟩
        case measure =>
         simp only [World.iterPos, I5.out, HI.out]
         omega
      · simp only [if_neg hr32] at er
        have hr32' : ¬ (r : Int) < 32 := by omega
        go_wp2_with (at_lookup; refine wpList_lookup_own_ok_int _ rfl _ _ 214 rfl 21 5 .u8 (Maps.int_keyed Tryz.underlying21) Tryz.underlying214 Tryz.underlying5 (Tryz.zeroValue5 _) bm 7 dTwo rfl M2.out _ _ rfl hkey ?_; intro c hat hwf)
        refine (wb_WriteRune 91 (.inl rfl) B B (litTo s pos) r (by omega) (by omega) _ W2.out (by omega) hsz).mono ?_
        rintro e w5 ⟨⟨v5, rfl⟩, h5, k5⟩
        have H5 := hide (show WBs 91 B B (litTo s (pos + n)) w5 by rw [litTo_next, er]; exact h5)
        have I5 := hide (k5.others _ _ I2.out (by simp; omega) (by simp))
        have M5 := hide (show MapTwo bm w5 by
         obtain ⟨es, clock, hb, F, hs, hD⟩ := M2.out
         exact ⟨es, clock, k5.others _ _ hb (by simp; omega) (by simp), F, hs, hD⟩)
        have K5 := hide (show Old w1 w5 from Below.trans K2.out (by rw [hB.out]; exact k5.below))
        clear h5 k5
        go_wp2_with fail
        go_roundw
        case rel => exact ⟨pos + n, hnle, H5, I5, M5, HV3, K5⟩
        case measure =>
         simp only [World.iterPos, I5.out, HI.out]
         omega
    · rw [htw] at hhas er
      simp only [Option.isSome_some] at hhas
      have hc0 : c0 = 34 ∨ c0 = 92 ∨ c0 = 98 ∨ c0 = 102 ∨ c0 = 110 ∨ c0 = 114 ∨ c0 = 116 := by
       unfold twoOf at htw
       repeat' split at htw
       all_goals first | (injection htw with htw; omega) | cases htw
      rcases hc0 with rfl | rfl | rfl | rfl | rfl | rfl | rfl
      · have hat0 : dTwo.atKey (.int .i32 r) (.lit (.int .u8 0)) = .lit (.int .u8 34) := dTwo_at r _ htw
        clear htw
        have IZ := I2
        have MZ := M2
        have KZ := K2
        go_wp2_with (at_lookup; refine wpList_lookup_own_ok_int _ rfl _ _ 214 rfl 21 5 .u8 (Maps.int_keyed Tryz.underlying21) Tryz.underlying214 Tryz.underlying5 (Tryz.zeroValue5 _) bm 7 dTwo rfl M2.out _ _ rfl hkey ?_; intro c hat hwf; obtain rfl : c = 34 := (by rw [hat0] at hat; injection hat with h1; injection h1 with _ h2; exact h2.symm))
        refine (wb_WriteString 91 (.inl rfl) B B (litTo s pos) ⟨#[92, 34]⟩ _ W2.out (by simp [ByteArray.size]; omega) hsz).mono ?_
        rintro e w5 ⟨rfl, h5, k5⟩
        have H5 := hide (show WBs 91 B B (litTo s (pos + n)) w5 by rw [litTo_next, er]; exact h5)
        have I5 := hide (k5.others _ _ IZ.out (by simp; omega) (by simp))
        have M5 := hide (show MapTwo bm w5 by
         obtain ⟨es, clock, hb, F, hs, hD⟩ := MZ.out
         exact ⟨es, clock, k5.others _ _ hb (by simp; omega) (by simp), F, hs, hD⟩)
        have K5 := hide (show Old w1 w5 from Below.trans KZ.out (by rw [hB.out]; exact k5.below))
        clear h5 k5
        go_wp2_with fail
        go_roundw
        case rel => exact ⟨pos + n, hnle, H5, I5, M5, HV3, K5⟩
        case measure =>
         simp only [World.iterPos, I5.out, HI.out]
         omega
      · have hat0 : dTwo.atKey (.int .i32 r) (.lit (.int .u8 0)) = .lit (.int .u8 92) := dTwo_at r _ htw
        clear htw
        have IZ := I2
        have MZ := M2
        have KZ := K2
        go_wp2_with (at_lookup; refine wpList_lookup_own_ok_int _ rfl _ _ 214 rfl 21 5 .u8 (Maps.int_keyed Tryz.underlying21) Tryz.underlying214 Tryz.underlying5 (Tryz.zeroValue5 _) bm 7 dTwo rfl M2.out _ _ rfl hkey ?_; intro c hat hwf; obtain rfl : c = 92 := (by rw [hat0] at hat; injection hat with h1; injection h1 with _ h2; exact h2.symm))
        refine (wb_WriteString 91 (.inl rfl) B B (litTo s pos) ⟨#[92, 92]⟩ _ W2.out (by simp [ByteArray.size]; omega) hsz).mono ?_
        rintro e w5 ⟨rfl, h5, k5⟩
        have H5 := hide (show WBs 91 B B (litTo s (pos + n)) w5 by rw [litTo_next, er]; exact h5)
        have I5 := hide (k5.others _ _ IZ.out (by simp; omega) (by simp))
        have M5 := hide (show MapTwo bm w5 by
         obtain ⟨es, clock, hb, F, hs, hD⟩ := MZ.out
         exact ⟨es, clock, k5.others _ _ hb (by simp; omega) (by simp), F, hs, hD⟩)
        have K5 := hide (show Old w1 w5 from Below.trans KZ.out (by rw [hB.out]; exact k5.below))
        clear h5 k5
        go_wp2_with fail
        go_roundw
        case rel => exact ⟨pos + n, hnle, H5, I5, M5, HV3, K5⟩
        case measure =>
         simp only [World.iterPos, I5.out, HI.out]
         omega
      · have hat0 : dTwo.atKey (.int .i32 r) (.lit (.int .u8 0)) = .lit (.int .u8 98) := dTwo_at r _ htw
        clear htw
        have IZ := I2
        have MZ := M2
        have KZ := K2
        go_wp2_with (at_lookup; refine wpList_lookup_own_ok_int _ rfl _ _ 214 rfl 21 5 .u8 (Maps.int_keyed Tryz.underlying21) Tryz.underlying214 Tryz.underlying5 (Tryz.zeroValue5 _) bm 7 dTwo rfl M2.out _ _ rfl hkey ?_; intro c hat hwf; obtain rfl : c = 98 := (by rw [hat0] at hat; injection hat with h1; injection h1 with _ h2; exact h2.symm))
        refine (wb_WriteString 91 (.inl rfl) B B (litTo s pos) ⟨#[92, 98]⟩ _ W2.out (by simp [ByteArray.size]; omega) hsz).mono ?_
        rintro e w5 ⟨rfl, h5, k5⟩
        have H5 := hide (show WBs 91 B B (litTo s (pos + n)) w5 by rw [litTo_next, er]; exact h5)
        have I5 := hide (k5.others _ _ IZ.out (by simp; omega) (by simp))
        have M5 := hide (show MapTwo bm w5 by
         obtain ⟨es, clock, hb, F, hs, hD⟩ := MZ.out
         exact ⟨es, clock, k5.others _ _ hb (by simp; omega) (by simp), F, hs, hD⟩)
        have K5 := hide (show Old w1 w5 from Below.trans KZ.out (by rw [hB.out]; exact k5.below))
        clear h5 k5
        go_wp2_with fail
        go_roundw
        case rel => exact ⟨pos + n, hnle, H5, I5, M5, HV3, K5⟩
        case measure =>
         simp only [World.iterPos, I5.out, HI.out]
         omega
      · have hat0 : dTwo.atKey (.int .i32 r) (.lit (.int .u8 0)) = .lit (.int .u8 102) := dTwo_at r _ htw
        clear htw
        have IZ := I2
        have MZ := M2
        have KZ := K2
        go_wp2_with (at_lookup; refine wpList_lookup_own_ok_int _ rfl _ _ 214 rfl 21 5 .u8 (Maps.int_keyed Tryz.underlying21) Tryz.underlying214 Tryz.underlying5 (Tryz.zeroValue5 _) bm 7 dTwo rfl M2.out _ _ rfl hkey ?_; intro c hat hwf; obtain rfl : c = 102 := (by rw [hat0] at hat; injection hat with h1; injection h1 with _ h2; exact h2.symm))
        refine (wb_WriteString 91 (.inl rfl) B B (litTo s pos) ⟨#[92, 102]⟩ _ W2.out (by simp [ByteArray.size]; omega) hsz).mono ?_
        rintro e w5 ⟨rfl, h5, k5⟩
        have H5 := hide (show WBs 91 B B (litTo s (pos + n)) w5 by rw [litTo_next, er]; exact h5)
        have I5 := hide (k5.others _ _ IZ.out (by simp; omega) (by simp))
        have M5 := hide (show MapTwo bm w5 by
         obtain ⟨es, clock, hb, F, hs, hD⟩ := MZ.out
         exact ⟨es, clock, k5.others _ _ hb (by simp; omega) (by simp), F, hs, hD⟩)
        have K5 := hide (show Old w1 w5 from Below.trans KZ.out (by rw [hB.out]; exact k5.below))
        clear h5 k5
        go_wp2_with fail
        go_roundw
        case rel => exact ⟨pos + n, hnle, H5, I5, M5, HV3, K5⟩
        case measure =>
         simp only [World.iterPos, I5.out, HI.out]
         omega
      · have hat0 : dTwo.atKey (.int .i32 r) (.lit (.int .u8 0)) = .lit (.int .u8 110) := dTwo_at r _ htw
        clear htw
        have IZ := I2
        have MZ := M2
        have KZ := K2
        go_wp2_with (at_lookup; refine wpList_lookup_own_ok_int _ rfl _ _ 214 rfl 21 5 .u8 (Maps.int_keyed Tryz.underlying21) Tryz.underlying214 Tryz.underlying5 (Tryz.zeroValue5 _) bm 7 dTwo rfl M2.out _ _ rfl hkey ?_; intro c hat hwf; obtain rfl : c = 110 := (by rw [hat0] at hat; injection hat with h1; injection h1 with _ h2; exact h2.symm))
        refine (wb_WriteString 91 (.inl rfl) B B (litTo s pos) ⟨#[92, 110]⟩ _ W2.out (by simp [ByteArray.size]; omega) hsz).mono ?_
        rintro e w5 ⟨rfl, h5, k5⟩
        have H5 := hide (show WBs 91 B B (litTo s (pos + n)) w5 by rw [litTo_next, er]; exact h5)
        have I5 := hide (k5.others _ _ IZ.out (by simp; omega) (by simp))
        have M5 := hide (show MapTwo bm w5 by
         obtain ⟨es, clock, hb, F, hs, hD⟩ := MZ.out
         exact ⟨es, clock, k5.others _ _ hb (by simp; omega) (by simp), F, hs, hD⟩)
        have K5 := hide (show Old w1 w5 from Below.trans KZ.out (by rw [hB.out]; exact k5.below))
        clear h5 k5
        go_wp2_with fail
        go_roundw
        case rel => exact ⟨pos + n, hnle, H5, I5, M5, HV3, K5⟩
        case measure =>
         simp only [World.iterPos, I5.out, HI.out]
         omega
      · have hat0 : dTwo.atKey (.int .i32 r) (.lit (.int .u8 0)) = .lit (.int .u8 114) := dTwo_at r _ htw
        clear htw
        have IZ := I2
        have MZ := M2
        have KZ := K2
        go_wp2_with (at_lookup; refine wpList_lookup_own_ok_int _ rfl _ _ 214 rfl 21 5 .u8 (Maps.int_keyed Tryz.underlying21) Tryz.underlying214 Tryz.underlying5 (Tryz.zeroValue5 _) bm 7 dTwo rfl M2.out _ _ rfl hkey ?_; intro c hat hwf; obtain rfl : c = 114 := (by rw [hat0] at hat; injection hat with h1; injection h1 with _ h2; exact h2.symm))
        refine (wb_WriteString 91 (.inl rfl) B B (litTo s pos) ⟨#[92, 114]⟩ _ W2.out (by simp [ByteArray.size]; omega) hsz).mono ?_
        rintro e w5 ⟨rfl, h5, k5⟩
        have H5 := hide (show WBs 91 B B (litTo s (pos + n)) w5 by rw [litTo_next, er]; exact h5)
        have I5 := hide (k5.others _ _ IZ.out (by simp; omega) (by simp))
        have M5 := hide (show MapTwo bm w5 by
         obtain ⟨es, clock, hb, F, hs, hD⟩ := MZ.out
         exact ⟨es, clock, k5.others _ _ hb (by simp; omega) (by simp), F, hs, hD⟩)
        have K5 := hide (show Old w1 w5 from Below.trans KZ.out (by rw [hB.out]; exact k5.below))
        clear h5 k5
        go_wp2_with fail
        go_roundw
        case rel => exact ⟨pos + n, hnle, H5, I5, M5, HV3, K5⟩
        case measure =>
         simp only [World.iterPos, I5.out, HI.out]
         omega
      · have hat0 : dTwo.atKey (.int .i32 r) (.lit (.int .u8 0)) = .lit (.int .u8 116) := dTwo_at r _ htw
        clear htw
        have IZ := I2
        have MZ := M2
        have KZ := K2
        go_wp2_with (at_lookup; refine wpList_lookup_own_ok_int _ rfl _ _ 214 rfl 21 5 .u8 (Maps.int_keyed Tryz.underlying21) Tryz.underlying214 Tryz.underlying5 (Tryz.zeroValue5 _) bm 7 dTwo rfl M2.out _ _ rfl hkey ?_; intro c hat hwf; obtain rfl : c = 116 := (by rw [hat0] at hat; injection hat with h1; injection h1 with _ h2; exact h2.symm))
        refine (wb_WriteString 91 (.inl rfl) B B (litTo s pos) ⟨#[92, 116]⟩ _ W2.out (by simp [ByteArray.size]; omega) hsz).mono ?_
        rintro e w5 ⟨rfl, h5, k5⟩
        have H5 := hide (show WBs 91 B B (litTo s (pos + n)) w5 by rw [litTo_next, er]; exact h5)
        have I5 := hide (k5.others _ _ IZ.out (by simp; omega) (by simp))
        have M5 := hide (show MapTwo bm w5 by
         obtain ⟨es, clock, hb, F, hs, hD⟩ := MZ.out
         exact ⟨es, clock, k5.others _ _ hb (by simp; omega) (by simp), F, hs, hD⟩)
        have K5 := hide (show Old w1 w5 from Below.trans KZ.out (by rw [hB.out]; exact k5.below))
        clear h5 k5
        go_wp2_with fail
        go_roundw
        case rel => exact ⟨pos + n, hnle, H5, I5, M5, HV3, K5⟩
        case measure =>
         simp only [World.iterPos, I5.out, HI.out]
         omega
  · have hnx : ∀ ty, (Instr.next (.pointer (some ⟨it, 0, none⟩)) true ty).run Tryz.prog wr = _ := fun ty => Lib.run_next_end_at wr it s pos ty HI.out hp
    have hps : pos = s.size := by omega
    have hq := litTo_all s
    rw [← hps] at hq
    clear hps
    have hql := (quoteL_len s).2
    go_wp2_with fail
    refine (wb_WriteByte 91 (.inl rfl) B B (litTo s pos) 34 _ HW.out (by omega) hBw).mono ?_
    rintro e w5 ⟨rfl, h5, k5⟩
    rw [hq] at h5
    go_wp2_with fail
    refine (wb_String 91 B B (quoteL s) _ h5 (by simp [quoteL])).mono ?_
    rintro e w6 ⟨rfl, h6, k6⟩
    have OF := hide (Old.trans O1.out (Below.trans HK.out (by rw [hB.out]; exact k5.below.trans k6.below)))
    clear h5 k5 h6 k6
    go_wp2_with fail
    go_ret2
    exact ⟨rfl, OF.out⟩
end Go.Proofs.YthlfljmfggmfdaaGreatDoor

/-! ###  -/
namespace Go.Proofs.YthlfljmfggmfdaaGreatDoor
open Go.RowKit
def Mk (o : Obj) : Prop := ∃ cur e fz, o = .cells cur e fz ∧ cur.size < fz.2
def MkKept (w w' : World) : Prop := ∀ (G : Nat) (o : Obj), w.heap[G]? = some o → Mk o → w'.heap[G]? = some o
theorem MkKept.refl (w : World) : MkKept w w := fun _ _ h _ => h
theorem MkKept.trans {a b c : World} (h : MkKept a b) (k : MkKept b c) : MkKept a c := fun G o h1 h2 => k G o (h G o h1 h2) h2
theorem mk_two {x y : Value} {T : TypeId} : ¬ Mk (.cells #[x, y] T (0, 0)) := by
 rintro ⟨cur, e, fz, h, hl⟩
 injection h with h1 h2 h3
 subst h1 h3
 simp at hl
theorem MkKept.setCell {a w : World} (h : MkKept a w) {p : Addr} {o : Obj} (hp : w.heap[p.block]? = some o) (ho : ¬ Mk o) (u : Value) : MkKept a (w.setCell p u) := by
 intro G x hx hm
 have h1 := h G x hx hm
 by_cases hG : G = p.block
 · subst hG
   rw [hp] at h1
   injection h1 with h1
   subst h1
   exact absurd hm ho
 · rw [setCell_heap_out _ _ _ _ hG]
   exact h1
theorem own_not_mk {w : World} {B : Nat} {e : TypeId} {v : Value} {n G : Nat} {xs : List Value} {o : Obj} (h : w.ownsRowF B e 1 v n xs) (hG : w.heap[G]? = some o) (hm : Mk o) : some G ≠ v.ownBlock := by
 rcases h.2 with ⟨rfl, _⟩ | ⟨g, cap, cur, fz, rfl, _, hg, hfz, hn, _, hc, _⟩
 · simp [Value.ownBlock]
 · intro hE
   simp [Value.ownBlock] at hE
   subst hE
   rw [hG] at hg
   injection hg with hg
   obtain ⟨cur', e', fz', he, hl⟩ := hm
   rw [hg] at he
   injection he with h1 h2 h3
   subst h1 h3
   omega
theorem wb_copyM (T : TypeId) (hT : BT T) (B b : Nat) (bs : List Value) (w : World) (h : Lib.IsBuilderF T 5 B b bs w) :
 Calls Tryz.prog 120 #[.pointer (some ⟨b, 0, none⟩)] w fun e w' => e = .returned (.tuple #[]) ∧ Lib.BuilderAtF T 5 B b (.pointer (some ⟨b, 0, none⟩)) bs w' ∧ WKept B b w w' ∧ MkKept w w' := by
 rcases h with h | h
 · refine (wb_copy_fresh T hT b w h.cell0 h.shape h.frozen0).mono ?_
   rintro e w' ⟨rfl, rfl⟩
   obtain ⟨_, v, hbk, _, _⟩ := id h
   exact ⟨rfl, h.used _, ⟨(Below.refl B w).setCell (p := ⟨b, 0, none⟩) h.1 _, (Lib.OthersKept.refl _ _ w).setCell ⟨b, 0, none⟩ rfl _⟩, (MkKept.refl w).setCell (p := ⟨b, 0, none⟩) hbk mk_two _⟩
 · refine (wb_copy_used b w h.cell0).mono ?_
   rintro e w' ⟨rfl, rfl⟩
   exact ⟨rfl, h, WKept.refl _ _ _, MkKept.refl _⟩
set_option maxHeartbeats 2000000 in
set_option maxRecDepth 100000 in
theorem wb_WriteByteM (T : TypeId) (hT : BT T) (B b : Nat) (l : List UInt8) (c : UInt8) (w : World) (h : WBs T B b l w) (hlen : l.length + 1 ≤ 140737488355328) (hBw : B ≤ w.heap.size) :
 Calls Tryz.prog 173 #[.pointer (some ⟨b, 0, none⟩), .int .u8 c.toNat] w fun e w' => e = .returned .nilIface ∧ WBs T B b (l ++ [c]) w' ∧ WKept B b w w' ∧ MkKept w w' := by
 obtain ⟨n, hn⟩ : ∃ n, Hid ((Lib.byteCells l).length = n) := ⟨_, hide rfl⟩
 have hl0 := Lib.byteCells_length l
 rw [hn.out] at hl0
 rw [← hl0] at hlen
 clear hl0
 have CC := wb_copyM T hT B b _ w h
 have hne := hT.ne
 obtain ⟨x, hx⟩ : ∃ x : Int, Hid ((c.toNat : Int) = x) := ⟨_, hide rfl⟩
 rw [hx.out]
 clear h
 obtain ⟨i0, hi, hz0, hz1, hz2⟩ := info_parts infoB
 go_enter Tryz.func173, Tryz.ntmps173
 go_wp2_with fail
 refine CC.mono ?_
 rintro e w1 ⟨rfl, ⟨hB, v, hbk, hown, hno⟩, ⟨hb1, hk1⟩, hm1⟩
 rw [hn.out] at hown
 clear CC
 have c1 : w1.cell? ⟨b, 1, none⟩ = some v := by rw [Lib.cell_of_heap hbk]; rfl
 go_wp2_with (at_builtin; refine wpList_append_ownF _ rfl _ _ 57 rfl B 5 i0 (.int .u8 0) 1 1 Tryz.underlying57 hi hz0 hz1 hz2 rfl (by decide) _ _ _ rfl (hown.alloc _) ⟨w1.heap.size, 0, none⟩ 1 1 [.int .u8 x] rfl rfl ?c1 ?c2 ?c3 ?c4 ?c5 ?_)
 case c1 =>
  intro j u hj
  match j, hj with
  | 0, hj => simp at hj; subst hj; simp [Addr.add]
 case c2 => intro u hu; simp at hu; subst hu; rfl
 case c3 => unfold maxLen; omega
 case c4 => omega
 case c5 => have := hb1.size; simp; omega
 intro v' w2 hown' hgrow _
 have hlt : b < w1.heap.size := (Array.getElem?_eq_some_iff.1 hbk).1
 have hb2 : w2.heap[b]? = some (.cells #[.pointer (some ⟨b, 0, none⟩), v] T (0, 0)) := by
  rw [hgrow.block b (by simp; omega) (fun e => hno e.symm), Lib.alloc_old w1 _ b hlt]
  exact hbk
 have hm2 : MkKept w w2 := by
  refine hm1.trans fun G o hG hm => ?_
  have hGl : G < w1.heap.size := (Array.getElem?_eq_some_iff.1 hG).1
  rw [hgrow.block G (by simp; omega) (own_not_mk hown hG hm), Lib.alloc_old w1 _ G hGl]
  exact hG
 have d1 : w2.cell? ⟨b, 1, none⟩ = some v := by rw [Lib.cell_of_heap hb2]; rfl
 have f1 : w2.frozen? ⟨b, 1, none⟩ = false := Lib.frozen_of_heap hb2 1
 obtain ⟨A', cap', rfl⟩ := wb_form hown'
 have HM2 := hide hm2
 clear hm2 hm1
 go_wp2
 go_ret
 refine ⟨rfl, .inr ?_, ⟨?_, ((hk1.alloc _).grown hgrow (Lib.ownsRowF_kind (hown.alloc _))).setCell ⟨b, 1, none⟩ rfl _⟩, HM2.out.setCell (p := ⟨b, 1, none⟩) hb2 mk_two _⟩
 · rw [Lib.byteCells_append, show Lib.byteCells [c] = [.int .u8 x] by simp [Lib.byteCells, hx.out]]
   exact Lib.BuilderAtF.put (T := T) (e := 5) hB hb2 (bs' := Lib.byteCells l ++ [.int .u8 x]) (by rw [List.length_append, hn.out]; exact hown') hne
 · exact ((hb1.alloc (by have := hb1.size; omega) _).grown hgrow (by have := hb1.size; simp; omega) (fun k hk => (hown.lt k hk).1)).setCell (p := ⟨b, 1, none⟩) hB _
end Go.Proofs.YthlfljmfggmfdaaGreatDoor

/-! ###  -/
namespace Go.Proofs.YthlfljmfggmfdaaGreatDoor
open Go.RowKit
theorem bytesRow_at (s : ByteArray) (cap k : Nat) (h : k < s.size) : (bytesRow s cap)[k]? = some (.int .u8 ((s.get! k).toNat : Int)) := by
 have hd : k < s.data.size := h
 unfold bytesRow
 rw [Array.getElem?_append_left (by simpa using hd), Array.getElem?_map, Array.getElem?_eq_getElem hd]
 show some (Value.int .u8 (s.data[k].toNat : Int)) = some (.int .u8 ((s.data[k]!).toNat : Int))
 rw [getElem!_pos s.data k hd]
theorem mk_bytes (s : ByteArray) (cap : Nat) (e : TypeId) : Mk (.cells (bytesRow s cap) e ((bytesRow s cap).size, (bytesRow s cap).size + 1)) := ⟨_, _, _, rfl, Nat.lt_succ_self _⟩
theorem hexG {k : Nat} (h : k < HexS.size) : HexS[k]'h = hexB k := by
 have key : ∀ k : _root_.Fin 16, ((HexS : ByteArray)[k.val]'k.isLt) = hexB k.val := by decide +kernel
 exact key ⟨k, h⟩
set_option maxRecDepth 100000 in
set_option maxHeartbeats 2000000 in
theorem hex_run (c : Cell) (hs : c.s.size ≤ 1073741824) (w : World) : Calls Tryz.prog 146 #[Cl c] w (Ret (.string ⟨(120 :: hexL c.s.data.toList).toArray⟩) w) := by
 unfold Ret
 obtain ⟨cn, cI, s⟩ := c
 unfold Cl
 simp only at hs ⊢
 have CV := fun w' => run_bytes_of_string (P := Tryz.prog) w' 9 57 5 s Tryz.underlying9 Tryz.underlying57 Tryz.underlying5
 obtain ⟨w1, hw1⟩ : ∃ w1, w1 = w.alloc (.cells #[.bool cn, .int .i64 cI, .string s] 38) := ⟨_, rfl⟩
 have O1 : Hid (Old w w1) := hide (by rw [hw1]; exact Old.alloc (Old.refl _) _)
 have y1 := hide (show w1.cell? ⟨w.heap.size, 2, none⟩ = some (.string s) by rw [hw1]; exact cell_of_heap (heap_alloc_new _ _))
 have hsz1 : w1.heap.size = w.heap.size + 1 := by rw [hw1]; simp
 go_enter Tryz.func146, Tryz.ntmps146
 go_wp2_with fail
 rw [← hw1]
 rw [← hsz1]
 refine (wb_WriteString 91 (.inl rfl) w1.heap.size w1.heap.size [] ⟨#[120]⟩ _ (Lib.IsBuilderF.of (Lib.fresh_isBuilder _ _ w1)) (by simp [ByteArray.size]) (by simp)).mono ?_
 rintro e w2 ⟨rfl, h2, k2⟩
 have O2 : Hid (Old w1 w2) := hide (Below.trans (Old.alloc (Old.refl _) _) k2.below)
 have y2 := Old.cell O2.out y1.out
 have CV2 := CV w2
 obtain ⟨cap, hcap⟩ : ∃ cap, cap = grownCap w2 s.size 0 5 := ⟨_, rfl⟩
 rw [← hcap] at CV2
 obtain ⟨B, hB⟩ : ∃ B, B = w1.heap.size := ⟨_, rfl⟩
 obtain ⟨G, hG⟩ : ∃ G, G = w2.heap.size := ⟨_, rfl⟩
 obtain ⟨w3, hw3⟩ : ∃ w3, w3 = w2.drew.alloc (.cells (bytesRow s cap) 5 ((bytesRow s cap).size, (bytesRow s cap).size + 1)) := ⟨_, rfl⟩
 have o3 : Old w2 w3 := by rw [hw3]; exact Old.alloc (Old.drew (Old.refl _)) _
 have O3 : Hid (Old w1 w3) := hide (Old.trans O2.out o3)
 have W3 : Hid (WBs 91 B B (120 :: hexL (s.data.toList.take 0)) w3) := hide (by rw [hB]; exact WBs.old h2 o3)
 have M3 : Hid (w3.heap[G]? = some (.cells (bytesRow s cap) 5 ((bytesRow s cap).size, (bytesRow s cap).size + 1))) := hide (by rw [hw3, hG]; exact heap_alloc_new w2.drew _)
 have hB3 : B ≤ w3.heap.size := by rw [hB]; exact O3.out.size
 rw [← hG, ← hw3] at CV2
 rw [← hB]
 have HB := hide hB
 have HS1 := hide hsz1
 clear CV hcap hw3 hG h2 k2 hB hsz1 hw1
 go_wp2_with fail
 go_loopw [11] (fun iv wr => ∃ k : Nat, iv = .int .i64 k ∧ k ≤ s.size ∧ Hid (WBs 91 B B (120 :: hexL (s.data.toList.take k)) wr) ∧ Hid (wr.heap[G]? = some (.cells (bytesRow s cap) 5 ((bytesRow s cap).size, (bytesRow s cap).size + 1))) ∧ B ≤ wr.heap.size ∧ Hid (Below B w3 wr)) (fun iv _ => s.size - (intOf iv).toNat)
 case atStart => exact ⟨0, rfl, Nat.zero_le _, W3, M3, hB3, hide (Below.refl _ _)⟩
 case round =>
  obtain ⟨k, rfl, hk, HW, HM, hBw, HO⟩ := hrel
  by_cases hlt : k < s.size
  · have HN := hide (hexL_next s k hlt)
    have hgk := (cell_of_heap (i := k) HM.out).trans (bytesRow_at s cap k hlt)
    obtain ⟨b, hb⟩ : ∃ b, Hid (s.get! k = b) := ⟨_, hide rfl⟩
    rw [hb.out] at hgk HN
    obtain ⟨m, hm⟩ : ∃ m, Hid (b.toNat / 16 = m) := ⟨_, hide rfl⟩
    obtain ⟨r, hr⟩ : ∃ r, Hid (b.toNat % 16 = r) := ⟨_, hide rfl⟩
    have hbt := b.toNat_lt
    have hm16 : m < 16 := by have := hm.out; omega
    have hr16 : r < 16 := by have := hr.out; omega
    have z1 : ∀ h, (HexS : ByteArray)[b.toNat / 16]'h = hexB m := fun h => (hexG (k := b.toNat / 16) h).trans (by rw [hm.out])
    have z2 : ∀ h, (HexS : ByteArray)[b.toNat % 16]'h = hexB r := fun h => (hexG (k := b.toNat % 16) h).trans (by rw [hr.out])
    rw [hm.out, hr.out] at HN
    have hli : (k : Int) < (s.size : Int) := by omega
    go_wp2_with fail
    refine (wb_WriteByteM 91 (.inl rfl) B B _ (hexB m) wr HW.out (by rw [List.length_cons, hexL_len, List.length_take]; have : s.data.toList.length = s.size := Array.length_toList; omega) hBw).mono ?_
    rintro e w4 ⟨rfl, h4, k4, q4⟩
    have HW4 := hide h4
    have HM4 := hide (q4 _ _ HM.out (mk_bytes _ _ _))
    have HO4 := hide (Below.trans HO.out k4.below)
    have hB4 : B ≤ w4.heap.size := Nat.le_trans hBw k4.below.size
    clear h4 k4 q4
    go_wp2_with fail
    refine (wb_WriteByteM 91 (.inl rfl) B B _ (hexB r) w4 HW4.out (by rw [List.length_append, List.length_cons, hexL_len, List.length_take]; have : s.data.toList.length = s.size := Array.length_toList; simp only [List.length_cons, List.length_nil]; omega) hB4).mono ?_
    rintro e w5 ⟨rfl, h5, k5, q5⟩
    have HW5 := hide (show WBs 91 B B (120 :: hexL (s.data.toList.take (k + 1))) w5 by
     rw [HN.out]
     have := h5
     rw [List.append_assoc] at this
     exact this)
    have HM5 := hide (q5 _ _ HM4.out (mk_bytes _ _ _))
    have HO5 := hide (Below.trans HO4.out k5.below)
    have hB5 : B ≤ w5.heap.size := Nat.le_trans hB4 k5.below.size
    clear h5 k5 q5
    go_wp2_with fail
    go_roundw
    case rel => exact ⟨k + 1, by go_num, by omega, HW5, HM5, hB5, HO5⟩
    case measure => simp [intOf]; omega
  · have hli : ¬ (k : Int) < (s.size : Int) := by omega
    have HE := hide (show WBs 91 B B (120 :: hexL s.data.toList) wr by
     have := HW.out
     rw [List.take_of_length_le (by rw [show s.data.toList.length = s.size from Array.length_toList]; omega)] at this
     exact this)
    have hwB : w.heap.size ≤ B := by rw [HB.out, HS1.out]; omega
    have OE := hide (show Old w wr from Below.trans (Old.trans O1.out O3.out) (Below.mono HO.out hwB))
    go_wp2_with fail
    refine (wb_String 91 B B _ wr HE.out (by simp)).mono ?_
    rintro e w6 ⟨rfl, _, k6⟩
    have O6 := hide (Below.trans OE.out (Below.mono k6.below hwB))
    clear k6
    go_wp2_with fail
    go_ret
    exact ⟨rfl, O6.out⟩
end Go.Proofs.YthlfljmfggmfdaaGreatDoor
