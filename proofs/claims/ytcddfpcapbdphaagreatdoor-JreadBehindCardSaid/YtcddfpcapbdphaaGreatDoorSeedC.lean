/- utf.Quote: the walk. -/
import Derived.Test.YtcddfpcapbdphaaGreatDoorWB
import Derived.Test.YtcddfpcapbdphaaGreatDoorShortW
import Derived.Maps.OwnSet
import Derived.Deep.CutBlock
import Derived.Deep.DeepCutAuto
import Derived.Test.YtcddfpcapbdphaaGreatDoorTail
import Derived.Test.YtcddfpcapbdphaaGreatDoorWorks7
import Derived.Test.YtcddfpcapbdphaaGreatDoorSeedB
import Derived.Test.YtcddfpcapbdphaaGreatDoorOpenR
import Derived.Lib.AppendIntMem
import Derived.Lib.ItoaLen
import Derived.Lib.ItoaMem
import Derived.Test.YtcddfpcapbdphaaGreatDoorGrow
import Derived.Test.YtcddfpcapbdphaaGreatDoorUnquW
import Derived.IntWalk
import Derived.Deep.RegionHeld3
/-! ### utf.Quote: the walk. -/
namespace Go.Proofs.YtcddfpcapbdphaaGreatDoor
open Go.RowKit

theorem WBs.old {T : TypeId} {B b : Nat} {l : List UInt8} {w w' : World} (h : WBs T B b l w) (o : Old w w') : WBs T B b l w' := by
  have go : ∀ p, Lib.BuilderAtF T 5 B b p (Lib.byteCells l) w → Lib.BuilderAtF T 5 B b p (Lib.byteCells l) w' := by
    rintro p ⟨hB, v, hb, hown, hne⟩
    refine ⟨hB, v, o.heap hb, ⟨hown.1, ?_⟩, hne⟩
    rcases hown.2 with h | ⟨g, cap, cur, fz, hv, hg, hh, r⟩
    · exact .inl h
    · exact .inr ⟨g, cap, cur, fz, hv, hg, o.heap hh, r⟩
  exact h.imp (go _) (go _)
def hexS : ByteArray := ⟨#[48, 49, 50, 51, 52, 53, 54, 55, 56, 57, 97, 98, 99, 100, 101, 102]⟩
theorem and15 {r : Nat} (h : r < 32) : bits BinOp.and IntKind.i32 (r : Int) 15 = ((r % 16 : Nat) : Int) := by
  have key : ∀ k : _root_.Fin 32, bits BinOp.and IntKind.i32 ((k.val : Nat) : Int) 15 = ((k.val % 16 : Nat) : Int) := by decide +kernel
  exact key ⟨r, h⟩
theorem hex_at {k : Nat} (h : k < 16) : (⟨#[48, 49, 50, 51, 52, 53, 54, 55, 56, 57, 97, 98, 99, 100, 101, 102]⟩ : ByteArray).extract k (k + 1) = ⟨#[hexB k]⟩ := by
  have key : ∀ k : _root_.Fin 16, (⟨#[48, 49, 50, 51, 52, 53, 54, 55, 56, 57, 97, 98, 99, 100, 101, 102]⟩ : ByteArray).extract k.val (k.val + 1) = ⟨#[hexB k.val]⟩ := by decide +kernel
  exact key ⟨k, h⟩
/-- the text from a place on -/
def restL (s : ByteArray) (pos : Nat) : List UInt8 := s.data.toList.drop pos
/-- a literal's beginning -/
def litTo (s : ByteArray) (pos : Nat) : List UInt8 := 34 :: escL (s.data.toList.take pos)
theorem litTo_len (s : ByteArray) (pos : Nat) : (litTo s pos).length ≤ 1 + 6 * s.size := by
  have h := (escL_len (s.data.toList.take pos)).2
  have e : s.data.toList.length = s.size := Array.length_toList
  rw [List.length_take, e] at h
  simp only [litTo, List.length_cons]
  omega
theorem litTo_next (s : ByteArray) (pos n : Nat) : litTo s (pos + n) = litTo s pos ++ escL ((restL s pos).take n) := by
  unfold litTo restL
  rw [List.take_add, escL_append]
  rfl
theorem litTo_all (s : ByteArray) : litTo s s.size ++ [34] = quoteL s := by
  have e : s.data.toList.length = s.size := Array.length_toList
  unfold litTo quoteL
  rw [List.take_of_length_le (by omega)]
  rfl
set_option maxRecDepth 100000 in
set_option maxHeartbeats 4000000 in
theorem quote_ok (s : ByteArray) (w : World) (hs : s.size ≤ 17592186044416) (hv : vU s = true) (hT : Tabs w) :
    Calls Tryz.prog 76 #[.string s] w fun e w' => e = .returned (.tuple #[.string ⟨(quoteL s).toArray⟩, .int .i64 0]) ∧ Old w w' := by
  have CV := utf_Valid s w (by omega) hT
  rw [hv] at CV
  have HV := hide (show Lib.validD (restL s 0) = true from hv)
  clear hT hv
  go_enter Tryz.func76, Tryz.ntmps76
  go_wp2_with fail
  refine CV.mono ?_
  rintro e w1 ⟨rfl, o1⟩
  clear CV
  have O1 := hide o1
  clear o1
  go_wp2_with fail
  refine (wb_WriteByte 59 (.inl rfl) w1.heap.size w1.heap.size [] 34 _ (Lib.IsBuilderF.of (Lib.fresh_isBuilder _ _ w1)) (by simp) (by simp)).mono ?_
  rintro e w2 ⟨rfl, h2, k2⟩
  go_wp2_with fail
  refine (short_run w2).mono ?_
  rintro e w3 ⟨bm, rfl, hb1, hb2, hm3, o3⟩
  obtain ⟨B, hB⟩ : ∃ B, Hid (w1.heap.size = B) := ⟨_, hide rfl⟩
  obtain ⟨it, hit⟩ : ∃ it, Hid (w3.heap.size = it) := ⟨_, hide rfl⟩
  have hB2 : B < w2.heap.size := by
    have := k2.below.size
    rw [← hB.out]
    simp at this
    omega
  have HW := hide (show WBs 59 B B (litTo s 0) (w3.iter s 0) by
    have h3 := WBs.old h2 (Old.alloc o3 (.stringIter s 0))
    rw [hB.out] at h3
    exact h3)
  have HI := hide (show (w3.iter s 0).heap[it]? = some (.stringIter s 0) by rw [← hit.out]; exact World.iter_heap w3 s 0)
  have HM := hide (show MapTwo bm (w3.iter s 0) from hm3.same fun o ho => (Old.alloc (Old.refl w3) (.stringIter s 0)).heap ho)
  have HK := hide (show Old w1 (w3.iter s 0) from Old.alloc (((Below.refl w1.heap.size w1).alloc (Nat.le_refl _) _).trans (k2.below.trans (Below.mono o3 (by rw [hB.out]; omega)))) _)
  have hbm : bm < it := by rw [← hit.out]; exact hb2
  have hBi : B < it := by rw [← hit.out]; exact Nat.lt_of_lt_of_le hB2 o3.size
  have hBm : B ≠ bm := by omega
  clear h2 k2 hm3 o3 hb1 hb2
  go_wp2_with fail
  rw [hB.out, hit.out]
  go_loopw [] (fun wr => ∃ pos, pos ≤ s.size ∧ Hid (WBs 59 B B (litTo s pos) wr) ∧ Hid (wr.heap[it]? = some (.stringIter s pos)) ∧ Hid (MapTwo bm wr) ∧ Hid (Lib.validD (restL s pos) = true) ∧ Hid (Old w1 wr)) (fun wr => s.size - wr.iterPos it)
  case atStart => exact ⟨0, Nat.zero_le _, HW, HI, HM, HV, HK⟩
  case round =>
    clear HW HI HM HV HK
    obtain ⟨pos, hpos, HW, HI, HM, HV, HK⟩ := hrel
    have hll := litTo_len s pos
    have hBw : B ≤ wr.heap.size := by have := (Array.getElem?_eq_some_iff.1 HI.out).1; omega
    by_cases hp : pos < s.size
    · have hne : restL s pos ≠ [] := by
        intro e
        have := congrArg List.length e
        have e2 : s.data.toList.length = s.size := Array.length_toList
        rw [restL, List.length_drop, e2] at this
        simp at this
        omega
      have hnx : ∀ ty, (Instr.next (.pointer (some ⟨it, 0, none⟩)) true ty).run Tryz.prog wr = _ := fun ty => Lib.run_next_any_at wr it s pos ty HI.out hp
      obtain ⟨RA, HV2⟩ := valid_step HV.out hne
      have hdec : Lib.decodeL (restL s pos) = Utf8.decode s pos := Lib.decodeL_drop s pos
      rw [hdec] at RA HV2
      have er := esc_rune RA
      obtain ⟨r, hr⟩ : ∃ r, Hid ((Utf8.decode s pos).1 = r) := ⟨_, hide rfl⟩
      obtain ⟨n, hn⟩ : ∃ n, Hid ((Utf8.decode s pos).2 = n) := ⟨_, hide rfl⟩
      simp only [hr.out, hn.out] at hnx RA HV2 er
      have hnle : pos + n ≤ s.size := by
        have h := RA.le
        have e2 : s.data.toList.length = s.size := Array.length_toList
        rw [restL, List.length_drop, e2] at h
        omega
      have hn1 := RA.pos
      have hrm := RA.most
      have HV3 := hide (show Lib.validD (restL s (pos + n)) = true by unfold restL at HV2 ⊢; rwa [List.drop_drop] at HV2)
      have W2 := hide (show WBs 59 B B (litTo s pos) (wr.iterAt it s (pos + n)) from HW.out.iterAt HI.out _)
      have I2 := hide (Lib.iterAt_heap wr it s pos (pos + n) HI.out)
      have K2 := hide (show Old w1 (wr.iterAt it s (pos + n)) from Lib.below_iterAt HK.out (k := it) (by rw [hB.out]; omega) s (pos + n))
      have M2 := hide (show MapTwo bm (wr.iterAt it s (pos + n)) from HM.out.same fun o ho => by rw [Lib.iterAt_other _ _ _ _ _ (by omega)]; exact ho)
      have hkey : keyOf Tryz.prog 21 (.int .i32 r) = some (.int .i32 r) := Maps.keyOf_int_mk Tryz.underlying21 (WalkArith.wf_i32 (by omega))
      have hsz : B ≤ (wr.iterAt it s (pos + n)).heap.size := by rw [Lib.iterAt_size]; exact hBw
      clear hdec RA HV2 HV hne
      have hhas := dTwo_has r
      rcases htw : twoOf r with _ | c0
      · rw [htw] at hhas er
        simp only [Option.isSome_none] at hhas
        by_cases hr32 : r < 32
        · simp only [if_pos hr32] at er
          have hr32' : (r : Int) < 32 := by omega
          have hand := and15 hr32
          go_wp2_with (at_lookup; refine wpList_lookup_own_ok_int _ rfl _ _ 145 rfl 21 5 .u8 (Maps.int_keyed Tryz.underlying21) Tryz.underlying145 Tryz.underlying5 (Tryz.zeroValue5 _) bm 7 dTwo rfl M2.out _ _ rfl hkey ?_; intro c hat hwf)
          refine region_later_tail 14 (by kernel_rfl) (by kernel_rfl) ?_
          simp only [List.take_succ_cons, List.take_zero, List.drop_succ_cons, List.drop_zero]
          repeat (go_big_quiet_step (fail))
          refine wpQuiet_nil ?_
          rintro wz ⟨⟨_, hwz⟩, rfl⟩
          have WZ := hide (WBs.old W2.out hwz)
          have IZ := hide (hwz.heap I2.out)
          have MZ := hide (M2.out.same fun o ho => hwz.heap ho)
          have KZ := hide (Old.trans K2.out hwz)
          have hszz : B ≤ wz.heap.size := Nat.le_trans hsz hwz.size
          have x1 := hex_at (k := r / 16) (by omega)
          have x2 := hex_at (k := r % 16) (by omega)
          go_wp2_with fail
          refine (wb_WriteString 59 (.inl rfl) B B (litTo s pos) ⟨#[92, 117, 48, 48, hexB (r / 16), hexB (r % 16)]⟩ _ WZ.out (by simp [ByteArray.size]; omega) hszz).mono ?_
          rintro e w5 ⟨rfl, h5, k5⟩
          have H5 := hide (show WBs 59 B B (litTo s (pos + n)) w5 by rw [litTo_next, er]; exact h5)
          have I5 := hide (k5.others _ _ IZ.out (by simp; omega) (by simp))
          have M5 := hide (show MapTwo bm w5 by
            obtain ⟨es, clock, hb, F, hs, hD⟩ := MZ.out
            exact ⟨es, clock, k5.others _ _ hb (by simp; omega) (by simp), F, hs, hD⟩)
          have K5 := hide (show Old w1 w5 from Below.trans KZ.out (by rw [hB.out]; exact k5.below))
          clear h5 k5
          go_wp2_with fail
          go_roundw
          case rel => exact ⟨pos + n, hnle, H5, I5, M5, HV3, K5⟩
          case measure =>
            simp only [World.iterPos, I5.out, HI.out]
            omega
        · simp only [if_neg hr32] at er
          have hr32' : ¬ (r : Int) < 32 := by omega
          go_wp2_with (at_lookup; refine wpList_lookup_own_ok_int _ rfl _ _ 145 rfl 21 5 .u8 (Maps.int_keyed Tryz.underlying21) Tryz.underlying145 Tryz.underlying5 (Tryz.zeroValue5 _) bm 7 dTwo rfl M2.out _ _ rfl hkey ?_; intro c hat hwf)
          refine (wb_WriteRune 59 (.inl rfl) B B (litTo s pos) r (by omega) (by omega) _ W2.out (by omega) hsz).mono ?_
          rintro e w5 ⟨⟨v5, rfl⟩, h5, k5⟩
          have H5 := hide (show WBs 59 B B (litTo s (pos + n)) w5 by rw [litTo_next, er]; exact h5)
          have I5 := hide (k5.others _ _ I2.out (by simp; omega) (by simp))
          have M5 := hide (show MapTwo bm w5 by
            obtain ⟨es, clock, hb, F, hs, hD⟩ := M2.out
            exact ⟨es, clock, k5.others _ _ hb (by simp; omega) (by simp), F, hs, hD⟩)
          have K5 := hide (show Old w1 w5 from Below.trans K2.out (by rw [hB.out]; exact k5.below))
          clear h5 k5
          go_wp2_with fail
          go_roundw
          case rel => exact ⟨pos + n, hnle, H5, I5, M5, HV3, K5⟩
          case measure =>
            simp only [World.iterPos, I5.out, HI.out]
            omega
      · rw [htw] at hhas er
        simp only [Option.isSome_some] at hhas
        have hc0 : c0 = 34 ∨ c0 = 92 ∨ c0 = 98 ∨ c0 = 102 ∨ c0 = 110 ∨ c0 = 114 ∨ c0 = 116 := by
          unfold twoOf at htw
          repeat' split at htw
          all_goals first | (injection htw with htw; omega) | cases htw
        rcases hc0 with rfl | rfl | rfl | rfl | rfl | rfl | rfl
        · have hat0 : dTwo.atKey (.int .i32 r) (.lit (.int .u8 0)) = .lit (.int .u8 34) := dTwo_at r _ htw
          clear htw
          have IZ := I2
          have MZ := M2
          have KZ := K2
          go_wp2_with (at_lookup; refine wpList_lookup_own_ok_int _ rfl _ _ 145 rfl 21 5 .u8 (Maps.int_keyed Tryz.underlying21) Tryz.underlying145 Tryz.underlying5 (Tryz.zeroValue5 _) bm 7 dTwo rfl M2.out _ _ rfl hkey ?_; intro c hat hwf; obtain rfl : c = 34 := (by rw [hat0] at hat; injection hat with h1; injection h1 with _ h2; exact h2.symm))
          refine (wb_WriteString 59 (.inl rfl) B B (litTo s pos) ⟨#[92, 34]⟩ _ W2.out (by simp [ByteArray.size]; omega) hsz).mono ?_
          rintro e w5 ⟨rfl, h5, k5⟩
          have H5 := hide (show WBs 59 B B (litTo s (pos + n)) w5 by rw [litTo_next, er]; exact h5)
          have I5 := hide (k5.others _ _ IZ.out (by simp; omega) (by simp))
          have M5 := hide (show MapTwo bm w5 by
            obtain ⟨es, clock, hb, F, hs, hD⟩ := MZ.out
            exact ⟨es, clock, k5.others _ _ hb (by simp; omega) (by simp), F, hs, hD⟩)
          have K5 := hide (show Old w1 w5 from Below.trans KZ.out (by rw [hB.out]; exact k5.below))
          clear h5 k5
          go_wp2_with fail
          go_roundw
          case rel => exact ⟨pos + n, hnle, H5, I5, M5, HV3, K5⟩
          case measure =>
            simp only [World.iterPos, I5.out, HI.out]
            omega
        · have hat0 : dTwo.atKey (.int .i32 r) (.lit (.int .u8 0)) = .lit (.int .u8 92) := dTwo_at r _ htw
          clear htw
          have IZ := I2
          have MZ := M2
          have KZ := K2
          go_wp2_with (at_lookup; refine wpList_lookup_own_ok_int _ rfl _ _ 145 rfl 21 5 .u8 (Maps.int_keyed Tryz.underlying21) Tryz.underlying145 Tryz.underlying5 (Tryz.zeroValue5 _) bm 7 dTwo rfl M2.out _ _ rfl hkey ?_; intro c hat hwf; obtain rfl : c = 92 := (by rw [hat0] at hat; injection hat with h1; injection h1 with _ h2; exact h2.symm))
          refine (wb_WriteString 59 (.inl rfl) B B (litTo s pos) ⟨#[92, 92]⟩ _ W2.out (by simp [ByteArray.size]; omega) hsz).mono ?_
          rintro e w5 ⟨rfl, h5, k5⟩
          have H5 := hide (show WBs 59 B B (litTo s (pos + n)) w5 by rw [litTo_next, er]; exact h5)
          have I5 := hide (k5.others _ _ IZ.out (by simp; omega) (by simp))
          have M5 := hide (show MapTwo bm w5 by
            obtain ⟨es, clock, hb, F, hs, hD⟩ := MZ.out
            exact ⟨es, clock, k5.others _ _ hb (by simp; omega) (by simp), F, hs, hD⟩)
          have K5 := hide (show Old w1 w5 from Below.trans KZ.out (by rw [hB.out]; exact k5.below))
          clear h5 k5
          go_wp2_with fail
          go_roundw
          case rel => exact ⟨pos + n, hnle, H5, I5, M5, HV3, K5⟩
          case measure =>
            simp only [World.iterPos, I5.out, HI.out]
            omega
        · have hat0 : dTwo.atKey (.int .i32 r) (.lit (.int .u8 0)) = .lit (.int .u8 98) := dTwo_at r _ htw
          clear htw
          have IZ := I2
          have MZ := M2
          have KZ := K2
          go_wp2_with (at_lookup; refine wpList_lookup_own_ok_int _ rfl _ _ 145 rfl 21 5 .u8 (Maps.int_keyed Tryz.underlying21) Tryz.underlying145 Tryz.underlying5 (Tryz.zeroValue5 _) bm 7 dTwo rfl M2.out _ _ rfl hkey ?_; intro c hat hwf; obtain rfl : c = 98 := (by rw [hat0] at hat; injection hat with h1; injection h1 with _ h2; exact h2.symm))
          refine (wb_WriteString 59 (.inl rfl) B B (litTo s pos) ⟨#[92, 98]⟩ _ W2.out (by simp [ByteArray.size]; omega) hsz).mono ?_
          rintro e w5 ⟨rfl, h5, k5⟩
          have H5 := hide (show WBs 59 B B (litTo s (pos + n)) w5 by rw [litTo_next, er]; exact h5)
          have I5 := hide (k5.others _ _ IZ.out (by simp; omega) (by simp))
          have M5 := hide (show MapTwo bm w5 by
            obtain ⟨es, clock, hb, F, hs, hD⟩ := MZ.out
            exact ⟨es, clock, k5.others _ _ hb (by simp; omega) (by simp), F, hs, hD⟩)
          have K5 := hide (show Old w1 w5 from Below.trans KZ.out (by rw [hB.out]; exact k5.below))
          clear h5 k5
          go_wp2_with fail
          go_roundw
          case rel => exact ⟨pos + n, hnle, H5, I5, M5, HV3, K5⟩
          case measure =>
            simp only [World.iterPos, I5.out, HI.out]
            omega
        · have hat0 : dTwo.atKey (.int .i32 r) (.lit (.int .u8 0)) = .lit (.int .u8 102) := dTwo_at r _ htw
          clear htw
          have IZ := I2
          have MZ := M2
          have KZ := K2
          go_wp2_with (at_lookup; refine wpList_lookup_own_ok_int _ rfl _ _ 145 rfl 21 5 .u8 (Maps.int_keyed Tryz.underlying21) Tryz.underlying145 Tryz.underlying5 (Tryz.zeroValue5 _) bm 7 dTwo rfl M2.out _ _ rfl hkey ?_; intro c hat hwf; obtain rfl : c = 102 := (by rw [hat0] at hat; injection hat with h1; injection h1 with _ h2; exact h2.symm))
          refine (wb_WriteString 59 (.inl rfl) B B (litTo s pos) ⟨#[92, 102]⟩ _ W2.out (by simp [ByteArray.size]; omega) hsz).mono ?_
          rintro e w5 ⟨rfl, h5, k5⟩
          have H5 := hide (show WBs 59 B B (litTo s (pos + n)) w5 by rw [litTo_next, er]; exact h5)
          have I5 := hide (k5.others _ _ IZ.out (by simp; omega) (by simp))
          have M5 := hide (show MapTwo bm w5 by
            obtain ⟨es, clock, hb, F, hs, hD⟩ := MZ.out
            exact ⟨es, clock, k5.others _ _ hb (by simp; omega) (by simp), F, hs, hD⟩)
          have K5 := hide (show Old w1 w5 from Below.trans KZ.out (by rw [hB.out]; exact k5.below))
          clear h5 k5
          go_wp2_with fail
          go_roundw
          case rel => exact ⟨pos + n, hnle, H5, I5, M5, HV3, K5⟩
          case measure =>
            simp only [World.iterPos, I5.out, HI.out]
            omega
        · have hat0 : dTwo.atKey (.int .i32 r) (.lit (.int .u8 0)) = .lit (.int .u8 110) := dTwo_at r _ htw
          clear htw
          have IZ := I2
          have MZ := M2
          have KZ := K2
          go_wp2_with (at_lookup; refine wpList_lookup_own_ok_int _ rfl _ _ 145 rfl 21 5 .u8 (Maps.int_keyed Tryz.underlying21) Tryz.underlying145 Tryz.underlying5 (Tryz.zeroValue5 _) bm 7 dTwo rfl M2.out _ _ rfl hkey ?_; intro c hat hwf; obtain rfl : c = 110 := (by rw [hat0] at hat; injection hat with h1; injection h1 with _ h2; exact h2.symm))
          refine (wb_WriteString 59 (.inl rfl) B B (litTo s pos) ⟨#[92, 110]⟩ _ W2.out (by simp [ByteArray.size]; omega) hsz).mono ?_
          rintro e w5 ⟨rfl, h5, k5⟩
          have H5 := hide (show WBs 59 B B (litTo s (pos + n)) w5 by rw [litTo_next, er]; exact h5)
          have I5 := hide (k5.others _ _ IZ.out (by simp; omega) (by simp))
          have M5 := hide (show MapTwo bm w5 by
            obtain ⟨es, clock, hb, F, hs, hD⟩ := MZ.out
            exact ⟨es, clock, k5.others _ _ hb (by simp; omega) (by simp), F, hs, hD⟩)
          have K5 := hide (show Old w1 w5 from Below.trans KZ.out (by rw [hB.out]; exact k5.below))
          clear h5 k5
          go_wp2_with fail
          go_roundw
          case rel => exact ⟨pos + n, hnle, H5, I5, M5, HV3, K5⟩
          case measure =>
            simp only [World.iterPos, I5.out, HI.out]
            omega
        · have hat0 : dTwo.atKey (.int .i32 r) (.lit (.int .u8 0)) = .lit (.int .u8 114) := dTwo_at r _ htw
          clear htw
          have IZ := I2
          have MZ := M2
          have KZ := K2
          go_wp2_with (at_lookup; refine wpList_lookup_own_ok_int _ rfl _ _ 145 rfl 21 5 .u8 (Maps.int_keyed Tryz.underlying21) Tryz.underlying145 Tryz.underlying5 (Tryz.zeroValue5 _) bm 7 dTwo rfl M2.out _ _ rfl hkey ?_; intro c hat hwf; obtain rfl : c = 114 := (by rw [hat0] at hat; injection hat with h1; injection h1 with _ h2; exact h2.symm))
          refine (wb_WriteString 59 (.inl rfl) B B (litTo s pos) ⟨#[92, 114]⟩ _ W2.out (by simp [ByteArray.size]; omega) hsz).mono ?_
          rintro e w5 ⟨rfl, h5, k5⟩
          have H5 := hide (show WBs 59 B B (litTo s (pos + n)) w5 by rw [litTo_next, er]; exact h5)
          have I5 := hide (k5.others _ _ IZ.out (by simp; omega) (by simp))
          have M5 := hide (show MapTwo bm w5 by
            obtain ⟨es, clock, hb, F, hs, hD⟩ := MZ.out
            exact ⟨es, clock, k5.others _ _ hb (by simp; omega) (by simp), F, hs, hD⟩)
          have K5 := hide (show Old w1 w5 from Below.trans KZ.out (by rw [hB.out]; exact k5.below))
          clear h5 k5
          go_wp2_with fail
          go_roundw
          case rel => exact ⟨pos + n, hnle, H5, I5, M5, HV3, K5⟩
          case measure =>
            simp only [World.iterPos, I5.out, HI.out]
            omega
        · have hat0 : dTwo.atKey (.int .i32 r) (.lit (.int .u8 0)) = .lit (.int .u8 116) := dTwo_at r _ htw
          clear htw
          have IZ := I2
          have MZ := M2
          have KZ := K2
          go_wp2_with (at_lookup; refine wpList_lookup_own_ok_int _ rfl _ _ 145 rfl 21 5 .u8 (Maps.int_keyed Tryz.underlying21) Tryz.underlying145 Tryz.underlying5 (Tryz.zeroValue5 _) bm 7 dTwo rfl M2.out _ _ rfl hkey ?_; intro c hat hwf; obtain rfl : c = 116 := (by rw [hat0] at hat; injection hat with h1; injection h1 with _ h2; exact h2.symm))
          refine (wb_WriteString 59 (.inl rfl) B B (litTo s pos) ⟨#[92, 116]⟩ _ W2.out (by simp [ByteArray.size]; omega) hsz).mono ?_
          rintro e w5 ⟨rfl, h5, k5⟩
          have H5 := hide (show WBs 59 B B (litTo s (pos + n)) w5 by rw [litTo_next, er]; exact h5)
          have I5 := hide (k5.others _ _ IZ.out (by simp; omega) (by simp))
          have M5 := hide (show MapTwo bm w5 by
            obtain ⟨es, clock, hb, F, hs, hD⟩ := MZ.out
            exact ⟨es, clock, k5.others _ _ hb (by simp; omega) (by simp), F, hs, hD⟩)
          have K5 := hide (show Old w1 w5 from Below.trans KZ.out (by rw [hB.out]; exact k5.below))
          clear h5 k5
          go_wp2_with fail
          go_roundw
          case rel => exact ⟨pos + n, hnle, H5, I5, M5, HV3, K5⟩
          case measure =>
            simp only [World.iterPos, I5.out, HI.out]
            omega
    · have hnx : ∀ ty, (Instr.next (.pointer (some ⟨it, 0, none⟩)) true ty).run Tryz.prog wr = _ := fun ty => Lib.run_next_end_at wr it s pos ty HI.out hp
      have hps : pos = s.size := by omega
      have hq := litTo_all s
      rw [← hps] at hq
      clear hps
      have hql := (quoteL_len s).2
      go_wp2_with fail
      refine (wb_WriteByte 59 (.inl rfl) B B (litTo s pos) 34 _ HW.out (by omega) hBw).mono ?_
      rintro e w5 ⟨rfl, h5, k5⟩
      rw [hq] at h5
      go_wp2_with fail
      refine (wb_String 59 B B (quoteL s) _ h5 (by simp [quoteL])).mono ?_
      rintro e w6 ⟨rfl, h6, k6⟩
      have OF := hide (Old.trans O1.out (Below.trans HK.out (by rw [hB.out]; exact k5.below.trans k6.below)))
      clear h5 k5 h6 k6
      go_wp2_with fail
      go_ret2
      exact ⟨rfl, OF.out⟩
set_option maxRecDepth 100000 in
theorem quote_bad (s : ByteArray) (w : World) (hs : s.size ≤ 17592186044416) (hv : vU s = false) (hT : Tabs w) :
    Calls Tryz.prog 76 #[.string s] w fun e w' => e = .returned (.tuple #[.string ⟨#[]⟩, .int .i64 40]) ∧ Old w w' := by
  have CV := utf_Valid s w (by omega) hT
  rw [hv] at CV
  clear hT hv
  go_enter Tryz.func76, Tryz.ntmps76
  go_wp2_with fail
  refine CV.mono ?_
  rintro e w1 ⟨rfl, o1⟩
  have O1 := hide o1
  clear o1 CV
  go_wp2_with fail
  go_ret2
  exact ⟨rfl, O1.out⟩
end Go.Proofs.YtcddfpcapbdphaaGreatDoor

/-! ### JreadNumbers' walk. -/
namespace Go.Proofs.YtcddfpcapbdphaaGreatDoor
open Go.RowKit Go.ChangeShapes Go.WideShapes Go.Deep

abbrev PowTab (w : World) : Prop := Lib.TabIs Tryz.prog w "internal/strconv.uint64pow10" .u64 Lib.pow10Tab
theorem PowTab.old {w w' : World} (h : PowTab w) (o : Old w w') : PowTab w' := Go.Joins.tab_stays (g := 3) (by kernel_rfl) h o (Nat.le_refl _)
theorem format_run (n : Int) (h0 : -9223372036854775808 ≤ n) (h1 : n ≤ 9223372036854775807) (w : World) (ht : PowTab w) :
    Calls Tryz.prog 53 #[.int .i64 n, .int .i64 10] w fun e w' => e = .returned (.string ⟨(Lib.itoa n).toArray⟩) ∧ Old w w' :=
  (Tryz.strconv_FormatInt_10 n h0 h1 w ht).mono fun e w' ⟨he, k, os, hw⟩ => ⟨he, by rw [hw]; exact Lib.below_grow _ w (Nat.le_refl _) k os⟩
theorem itoa_run (n : Int) (h0 : -9223372036854775808 ≤ n) (h1 : n ≤ 9223372036854775807) (w : World) (ht : PowTab w) :
    Calls Tryz.prog 57 #[.int .i64 n] w fun e w' => e = .returned (.string ⟨(Lib.itoa n).toArray⟩) ∧ Old w w' :=
  (Tryz.strconv_Itoa n h0 h1 w ht).mono fun e w' ⟨he, k, os, hw⟩ => ⟨he, by rw [hw]; exact Lib.below_grow _ w (Nat.le_refl _) k os⟩
set_option maxRecDepth 100000 in
theorem bring_k (i n : Int) (w : World) (hn : 0 < n) (hn' : n ≤ 1048576) :
    Calls Tryz.prog 11 #[.int .i64 i, .int .i64 n] w fun e w' => (∃ k : Nat, (k : Int) < n ∧ e = .returned (.int .i64 k)) ∧ w = w' := by
  have h1 := Int.tmod_lt_of_pos i hn
  have h2 := Int.neg_tmod i n
  have h3 : -n < i.tmod n := by
    have := Int.tmod_lt_of_pos (-i) hn
    rw [h2] at this
    omega
  clear h2
  go_enter Tryz.func11, Tryz.ntmps11
  go_wp2_with fail
  · go_ret
    exact ⟨⟨(i.tmod n + n).toNat, by omega, ret_int (by omega)⟩, rfl⟩
  · go_ret
    exact ⟨⟨(i.tmod n).toNat, by omega, ret_int (by omega)⟩, rfl⟩
theorem app_list (a b : ByteArray) : (a ++ b).data.toList = a.data.toList ++ b.data.toList := by simp
theorem sevens (c : Nat) : Lib.repeatL [55] c = List.replicate c 55 := by
  induction c with
  | zero => rfl
  | succ c ih => rw [Lib.repeatL, ih, List.replicate_succ]; rfl
theorem txt_list (l : List UInt8) : (⟨l.toArray⟩ : ByteArray).data.toList = l := by simp
theorem txt_len (l : List UInt8) : (⟨l.toArray⟩ : ByteArray).size = l.length := by simp [ByteArray.size]
theorem repeat7 (m : Nat) (w : World) (hm : m ≤ 48) : Calls Tryz.prog 8 #[.string ⟨#[55]⟩, .int .i64 (m : Int)] w fun e w' => e = .returned (.string ⟨(List.replicate m 55).toArray⟩) ∧ Old w w' := by
  have h1 : (⟨#[55]⟩ : ByteArray).size = 1 := rfl
  have h2 : (⟨#[55]⟩ : ByteArray).data.toList = [55] := rfl
  have h := Tryz.strings_Repeat ⟨#[55]⟩ m w (by omega) (by rw [h1]; omega)
  rw [h2, sevens] at h
  exact h
theorem pow_eq : (Rows.laid_internal_strconv_uint64pow10 : DataW Unit) = Lib.tabData .u64 Lib.pow10Tab := by kernel_rfl
theorem tabIs_reads {P : Program} {W : World} {name : String} {k : IntKind} {zs : List Int} {g : Nat} {t e : TypeId} {n : Nat}
    (hg : P.globalNamed name = some g) (hty : (P.globals[g]?).map (·.type) = some t) (ht : P.underlying t = some (.array n e)) (he : P.underlying e = some (.int k)) (hce : P.cellsOf e = 1) (hct : P.cellsOf t = n)
    (h : Lib.VarReads P W name (Lib.tabData k zs)) : Lib.TabIs P W name k zs := by
  obtain ⟨g', t', cs, fuel, p, hg', ht', hvar, hd⟩ := h
  obtain rfl := Option.some.inj (hg.symm.trans hg')
  obtain rfl := Option.some.inj (hty.symm.trans ht')
  unfold Lib.TabIs
  rw [hvar, ← Lib.cells_of_tab ht he hce hct hd]
theorem seven_pow {W : World} (h : laidMetH Tryz.prog laidSeven W) : PowTab W := by
  rw [Go.MakeChecks.laidMetH_plain _ _ _ (by kernel_rfl)] at h
  have h2 := Lib.laidMet.reads h (.tail _ (.tail _ (.head _)))
  rw [pow_eq] at h2
  exact tabIs_reads (g := 3) (t := 169) (e := 94) (n := 20) (by kernel_rfl) (by kernel_rfl) (by kernel_rfl) Tryz.underlying94 (by kernel_rfl) (by kernel_rfl) h2
theorem i64_of_wf {n : Int} (h : (Lit.int .i64 n).wf = true) : -9223372036854775808 ≤ n ∧ n ≤ 9223372036854775807 := by
  simp [Lit.wf, IntKind.min, IntKind.max, IntKind.signed, IntKind.bits] at h
  omega
end Go.Proofs.YtcddfpcapbdphaaGreatDoor

/-! ### The statements' own inputs: a seed in its box: next, blank, word. -/
/-! ### The statements' own inputs: a seed in its box: next, blank, word. -/
namespace Go.Proofs.YtcddfpcapbdphaaGreatDoor
open Go.RowKit

/-- all but the blocks p and q as it was -/
structure Two (p q : Nat) (w w' : World) : Prop where
  os : w'.os = w.os
  tape : w'.tape = w.tape
  output : w'.output = w.output
  size : w.heap.size ≤ w'.heap.size
  block : ∀ k, k < w.heap.size → k ≠ p → k ≠ q → w'.heap[k]? = w.heap[k]?
namespace Two
variable {p q : Nat} {a b c : World}
theorem refl (p q : Nat) (w : World) : Two p q w w := ⟨rfl, rfl, rfl, Nat.le_refl _, fun _ _ _ _ => rfl⟩
theorem trans (h : Two p q a b) (k : Two p q b c) : Two p q a c :=
  ⟨k.os.trans h.os, k.tape.trans h.tape, k.output.trans h.output, Nat.le_trans h.size k.size, fun i h1 h2 h3 => (k.block i (Nat.lt_of_lt_of_le h1 h.size) h2 h3).trans (h.block i h1 h2 h3)⟩
theorem old (h : Two p q a b) (k : Old b c) : Two p q a c :=
  ⟨k.os.trans h.os, k.tape.trans h.tape, k.output.trans h.output, Nat.le_trans h.size k.size, fun i h1 h2 h3 => (k.block i (Nat.lt_of_lt_of_le h1 h.size)).trans (h.block i h1 h2 h3)⟩
theorem grown (h : Two p q a b) (k : b.grownBy c (some q)) : Two p q a c :=
  ⟨k.os.trans h.os, k.tape.trans h.tape, k.output.trans h.output, Nat.le_trans h.size k.size, fun i h1 h2 h3 => (k.block i (Nat.lt_of_lt_of_le h1 h.size) (fun e => h3 (by injection e))).trans (h.block i h1 h2 h3)⟩
theorem grownNew (h : Two p q a b) {g : Nat} (hg : a.heap.size ≤ g) (k : b.grownBy c (some g)) : Two p q a c :=
  ⟨k.os.trans h.os, k.tape.trans h.tape, k.output.trans h.output, Nat.le_trans h.size k.size, fun i h1 h2 h3 => (k.block i (Nat.lt_of_lt_of_le h1 h.size) (fun e => by injection e with e; omega)).trans (h.block i h1 h2 h3)⟩
theorem drewN (h : Two p q a b) (n : Nat) : Two p q a (b.drewN n) := ⟨h.os, h.tape, h.output, h.size, h.block⟩
theorem setBox (h : Two p q a b) (i : Nat) (u : Value) : Two p q a (b.setCell ⟨p, i, none⟩ u) := by
  have hB : RowKit.Below b.heap.size b b := Below.refl _ _
  refine ⟨h.os, h.tape, h.output, by simpa using h.size, fun k h1 h2 h3 => ?_⟩
  rw [← h.block k h1 h2 h3]
  simp [World.setCell, Array.getElem?_modify, Ne.symm h2]
theorem below (h : Two p q a b) {B : Nat} (hB : B ≤ a.heap.size) (hp : B ≤ p) (hq : B ≤ q) : Below B a b :=
  ⟨h.os, h.tape, h.output, h.size, fun k hk => h.block k (by omega) (by omega) (by omega)⟩
theorem cell (h : Two p q a b) {x : Addr} {v : Value} (hc : a.cell? x = some v) (hp : x.block ≠ p) (hq : x.block ≠ q) : b.cell? x = some v :=
  (World.cell?_of_block (w := a) (h.block x.block (World.block_lt_of_cell? a x hc) hp hq)).trans hc
end Two

def numVals (l : List Int) : List Value := l.map fun n => .int .i64 n
/-- a slice value that is these numbers -/
abbrev NumsIs (w : World) (v : Value) (l : List Int) : Prop := Sl w v l.length (numVals l)
/-- a seed in its box: the numbers that are left -/
structure SeedIs (sb : Nat) (w : World) (N : List Int) : Prop where
  box : ∃ A c, w.cell? ⟨sb, 0, none⟩ = some (.slice A N.length c) ∧ N.length ≤ c ∧ c ≤ maxLen ∧ (N ≠ [] → ∃ b off, A = some ⟨b, off, none⟩ ∧ b < sb ∧ ∀ j u, N[j]? = some u → w.cell? ⟨b, off + j, none⟩ = some (.int .i64 u))
  free : w.frozen? ⟨sb, 0, none⟩ = false
theorem SeedIs.old {sb : Nat} {w w' : World} {N : List Int} (h : SeedIs sb w N) (k : Old w w') : SeedIs sb w' N := by
  obtain ⟨⟨A, c, h1, h2, h3, h4⟩, h5⟩ := h
  refine ⟨⟨A, c, k.cell h1, h2, h3, fun hne => ?_⟩, k.frozen h1 h5⟩
  obtain ⟨b, off, rfl, hb, hc⟩ := h4 hne
  exact ⟨b, off, rfl, hb, fun j u hu => k.cell (hc j u hu)⟩
theorem SeedIs.below {sb B : Nat} {w w' : World} {N : List Int} (h : SeedIs sb w N) (k : RowKit.Below B w w') (hs : sb < B) : SeedIs sb w' N := by
  obtain ⟨⟨A, c, h1, h2, h3, h4⟩, h5⟩ := h
  refine ⟨⟨A, c, (k.cell hs).trans h1, h2, h3, fun hne => ?_⟩, (k.frozen hs).trans h5⟩
  obtain ⟨b, off, rfl, hb, hc⟩ := h4 hne
  exact ⟨b, off, rfl, hb, fun j u hu => (k.cell (show b < B by omega)).trans (hc j u hu)⟩
theorem Two.then_below {sb : Nat} {a b c : World} (h : Two sb sb a b) (k : RowKit.Below a.heap.size b c) : Two sb sb a c :=
  ⟨k.os.trans h.os, k.tape.trans h.tape, k.output.trans h.output, Nat.le_trans h.size k.size, fun i h1 h2 h3 => (k.block i h1).trans (h.block i h1 h2 h3)⟩
theorem Two.one_size {sb : Nat} {w w' : World} (h : Two sb sb w w') : w.heap.size ≤ w'.heap.size := h.size
theorem SlT.two {T lo n : Nat} {sb : Nat} {w w' : World} {v : Value} {xs : List Value} (h : SlT T lo w v n xs) (k : Two sb sb w w') (hs : sb < lo) : SlT T lo w' v n xs := by
  obtain ⟨A, cap, rfl, h1, h2, h3⟩ := h
  refine ⟨A, cap, rfl, h1, h2, fun hx => ?_⟩
  obtain ⟨b, off, cs, rfl, hl, hh, hc⟩ := h3 hx
  refine ⟨b, off, cs, rfl, hl, ?_, hc⟩
  rw [k.block b (block_lt hh) (by omega) (by omega)]
  exact hh
theorem own_two {base T size n : Nat} {sb : Nat} {w w' : World} {v : Value} {xs : List Value} (h : w.ownsRow base T size v n xs) (k : Two sb sb w w') (hs : sb < base) : w'.ownsRow base T size v n xs := by
  obtain ⟨hl, h2⟩ := h
  refine ⟨hl, ?_⟩
  rcases h2 with h2 | ⟨g, cap, cur, rfl, hb, hh, r⟩
  · exact .inl h2
  · refine .inr ⟨g, cap, cur, rfl, hb, ?_, r⟩
    rw [k.block g (block_lt hh) (by omega) (by omega)]
    exact hh
theorem PartsOwn.two {base sb : Nat} {w w' : World} {v : Value} {ps : List (List Nd)} (h : PartsOwn base w v ps) (k : Two sb sb w w') (hs : sb < base) : PartsOwn base w' v ps := by
  obtain ⟨vs, h1, h2, h3⟩ := h
  exact ⟨vs, h1, own_two h2 k hs, fun i hi hi' => (h3 i hi hi').two k hs⟩

set_option maxRecDepth 100000 in
theorem bring_run (i n : Int) (w : World) (hn : 0 < n) (hn' : n ≤ 1125899906842624) :
    Calls Tryz.prog 11 #[.int .i64 i, .int .i64 n] w fun e w' => (∃ k : Nat, (k : Int) < n ∧ e = .returned (.int .i64 k)) ∧ w = w' := by
  have h1 := Int.tmod_lt_of_pos i hn
  have h2 := Int.neg_tmod i n
  have h3 : -n < i.tmod n := by
    have := Int.tmod_lt_of_pos (-i) hn
    rw [h2] at this
    omega
  clear h2
  go_enter Tryz.func11, Tryz.ntmps11
  go_wp2_with fail
  · go_ret
    exact ⟨⟨(i.tmod n + n).toNat, by omega, ret_int (by omega)⟩, rfl⟩
  · go_ret
    exact ⟨⟨(i.tmod n).toNat, by omega, ret_int (by omega)⟩, rfl⟩
/-- what next hands back -/
def NextT (n : Int) (sb : Nat) (w : World) (N : List Int) (e : Ending) (w' : World) : Prop := ∃ k : Nat, (k : Int) < n ∧ e = .returned (.int .i64 k) ∧ SeedIs sb w' N.tail ∧ Two sb sb w w'
theorem next_nil {n : Int} {sb : Nat} {w : World} (h : SeedIs sb w []) (hn : 0 < n) : NextT n sb w [] (.returned (.int .i64 0)) w := ⟨0, by omega, rfl, h, Two.refl _ _ _⟩
theorem next_cons {n : Int} {sb : Nat} {w : World} {x : Int} {xs : List Int} {k : Nat} {A : Option Addr} {c : Nat} {A0 : Value} (h0 : w.cell? ⟨sb, 0, none⟩ = some A0) (hf : w.frozen? ⟨sb, 0, none⟩ = false) (hk : (k : Int) < n) (hc : xs.length ≤ c) (hm : c ≤ maxLen)
    (ha : xs ≠ [] → ∃ b off, A = some ⟨b, off, none⟩ ∧ b < sb ∧ ∀ j u, xs[j]? = some u → w.cell? ⟨b, off + j, none⟩ = some (.int .i64 u)) : NextT n sb w (x :: xs) (.returned (.int .i64 k)) (w.setCell ⟨sb, 0, none⟩ (.slice A xs.length c)) := by
  refine ⟨k, hk, rfl, ⟨⟨A, c, World.cell?_setCell_same _ _ _ h0, hc, hm, fun hne => ?_⟩, by rw [World.frozen?_setCell]; exact hf⟩, (Two.refl sb sb w).setBox 0 _⟩
  obtain ⟨b, off, rfl, hb, hu⟩ := ha hne
  refine ⟨b, off, rfl, hb, fun j u hj => ?_⟩
  refine ((Two.refl sb sb w).setBox 0 _).cell (hu j u hj) (by show b ≠ sb; omega) (by show b ≠ sb; omega)

set_option maxRecDepth 100000 in
set_option maxHeartbeats 1000000 in
theorem seed_next (n : Int) (sb : Nat) (N : List Int) (w : World) (h : SeedIs sb w N) (hn : 0 < n) (hn' : n ≤ 1125899906842624) :
    Calls Tryz.prog 50 #[.pointer (some ⟨sb, 0, none⟩), .int .i64 n] w (NextT n sb w N) := by
  have H := hide h
  obtain ⟨⟨A, c, h1, h2, h3, h4⟩, h5⟩ := h
  unfold maxLen at h3
  cases N with
  | nil =>
    simp only [List.length_nil] at h1
    clear h4
    go_enter Tryz.func50, Tryz.ntmps50
    go_wp2_with fail
    go_ret
    exact next_nil H.out hn
  | cons x xs =>
    obtain ⟨b, off, rfl, hb, hu⟩ := h4 (by simp)
    have x0 := hu 0 x rfl
    have HU := hide hu
    obtain ⟨m, hm⟩ : ∃ m, Hid (xs.length = m) := ⟨_, hide rfl⟩
    have HB := hide hb
    simp only [List.length_cons, hm.out] at h1 h2
    rw [Nat.add_zero] at x0
    have CB := hide (bring_run x n w hn (by omega))
    clear hu h4 hb
    by_cases hc : c = 1
    · subst hc
      obtain rfl : m = 0 := by omega
      have hx : xs = [] := List.eq_nil_of_length_eq_zero hm.out
      have FIN := hide (fun (k : Nat) (hk : (k : Int) < n) (A : Option Addr) (c : Nat) (hc : c ≤ maxLen) => next_cons (n := n) (sb := sb) (w := w) (x := x) (xs := xs) (k := k) (A := A) (c := c) h1 h5 hk (by rw [hx]; exact Nat.zero_le _) hc (fun h => absurd hx h))
      rw [hm.out] at FIN
      clear hx
      go_enter Tryz.func50, Tryz.ntmps50
      go_wp2_with fail
      refine CB.out.mono ?_
      rintro e w' ⟨⟨k, hk, rfl⟩, rfl⟩
      go_wp2_with fail
      go_ret
      exact FIN.out k hk _ _ (by unfold maxLen; omega)
    · have FIN := hide (fun (k : Nat) (hk : (k : Int) < n) => next_cons (n := n) (sb := sb) (w := w) (x := x) (xs := xs) (k := k) (A := some ⟨b, off + 1, none⟩) (c := c - 1) h1 h5 hk (by rw [hm.out]; omega) (by unfold maxLen; omega) (fun _ => ⟨b, off + 1, rfl, HB.out, fun j u hj => by
        have := HU.out (j + 1) u (by simpa using hj)
        rwa [show off + 1 + j = off + (j + 1) by omega]⟩))
      rw [hm.out] at FIN
      have hc1 : ¬ (c : Int) = 1 := by omega
      go_enter Tryz.func50, Tryz.ntmps50
      go_wp2_with fail
      refine CB.out.mono ?_
      rintro e w' ⟨⟨k, hk, rfl⟩, rfl⟩
      go_wp2_with fail
      go_ret
      exact FIN.out k hk
theorem SeedIs.lt {sb : Nat} {w : World} {N : List Int} (h : SeedIs sb w N) : sb < w.heap.size := by
  obtain ⟨⟨A, c, h1, _⟩, _⟩ := h
  exact World.block_lt_of_cell? w _ h1
theorem Two.after_old {sb : Nat} {a b c : World} (h : Old a b) (k : Two sb sb b c) : Two sb sb a c := ((Two.refl sb sb a).old h).trans k
theorem tail_len (N : List Int) : N.tail.length ≤ N.length := by simp
theorem six_at (k : Nat) (hk : k < 6) : ∃ B : ByteArray, (#[.string ⟨#[]⟩, .string ⟨#[]⟩, .string ⟨#[32]⟩, .string ⟨#[10]⟩, .string ⟨#[9, 13, 32]⟩, .string ⟨#[]⟩] : Array Value)[k]? = some (.string B) ∧ Blanks B.data.toList ∧ B.size ≤ 3 := by
  have h6 : k = 0 ∨ k = 1 ∨ k = 2 ∨ k = 3 ∨ k = 4 ∨ k = 5 := by omega
  rcases h6 with rfl | rfl | rfl | rfl | rfl | rfl <;> exact ⟨_, rfl, by unfold Blanks; decide, by decide⟩
/-- what blank hands back -/
def BlankT (sb : Nat) (w : World) (N : List Int) (e : Ending) (w' : World) : Prop := ∃ B : ByteArray, e = .returned (.string B) ∧ Blanks B.data.toList ∧ B.size ≤ 3 ∧ SeedIs sb w' N.tail ∧ Two sb sb w w'
set_option maxRecDepth 100000 in
set_option maxHeartbeats 1000000 in
theorem blank_run (sb : Nat) (N : List Int) (w : World) (h : SeedIs sb w N) :
    Calls Tryz.prog 56 #[.pointer (some ⟨sb, 0, none⟩)] w (BlankT sb w N) := by
  have H := hide h
  have hsw := h.lt
  obtain ⟨O, hO⟩ : ∃ O : Array Value, Hid (O = #[.string ⟨#[]⟩, .string ⟨#[]⟩, .string ⟨#[32]⟩, .string ⟨#[10]⟩, .string ⟨#[9, 13, 32]⟩, .string ⟨#[]⟩]) := ⟨_, hide rfl⟩
  have HX := hide (show ∀ k : Nat, k < 6 → ∃ B : ByteArray, O[k]? = some (.string B) ∧ Blanks B.data.toList ∧ B.size ≤ 3 from fun k hk => by rw [hO.out]; exact six_at k hk)
  clear h
  go_enter Tryz.func56, Tryz.ntmps56
  go_wp2_with fail
  rw [← hO.out]
  refine (seed_next 6 sb N _ (H.out.old (Old.alloc (Old.refl _) _)) (by omega) (by omega)).mono ?_
  rintro e w3 ⟨k2, hk2, rfl, s3, t3⟩
  obtain ⟨B, hB, hB1, hB2⟩ := HX.out k2 (by omega)
  have hcell : w3.cell? ⟨w.heap.size, k2, none⟩ = some (.string B) := t3.cell ((cell_of_heap (heap_alloc_new w _)).trans hB) (by show w.heap.size ≠ sb; omega) (by show w.heap.size ≠ sb; omega)
  have FIN := hide (show BlankT sb w N (.returned (.string B)) w3 from ⟨B, rfl, hB1, hB2, s3, Two.after_old (Old.alloc (Old.refl _) _) t3⟩)
  clear s3 t3 hB hB1
  go_wp2_with fail
  go_ret
  exact FIN.out
/-- what word hands back -/
def WordT (sb : Nat) (w : World) (N : List Int) (e : Ending) (w' : World) : Prop := ∃ (s q : ByteArray) (N' : List Int), e = .returned (.tuple #[.string s, .string q]) ∧ (s, q) ∈ wordsAll ∧ N'.length ≤ N.length ∧ SeedIs sb w' N' ∧ Two sb sb w w'
theorem word_a {k : Nat} {s q : ByteArray} (h1 : says[k]? = some s) (h2 : spells[k]? = some q) : (s, q) ∈ wordsAll := by
  refine List.mem_append_left _ ?_
  have : (says.zip spells)[k]? = some (s, q) := by simp [List.getElem?_zip_eq_some, h1, h2]
  exact List.mem_of_getElem? this
theorem word_b {k : Nat} {s : ByteArray} (h1 : says[k]? = some s) : (s, (⟨(quoteL s).toArray⟩ : ByteArray)) ∈ wordsAll :=
  List.mem_append_right _ (List.mem_map.2 ⟨s, List.mem_of_getElem? h1, rfl⟩)
theorem says_valid : (says.all fun s => vU s) = true := by kernel_rfl
set_option maxRecDepth 100000 in
set_option maxHeartbeats 4000000 in
theorem seedword_run (W0 : World) (hT : Tabs W0) (sb : Nat) (hsb : W0.heap.size ≤ sb) (N : List Int) (w : World) (h : SeedIs sb w N) (hW : Old W0 w) :
    Calls Tryz.prog 54 #[.pointer (some ⟨sb, 0, none⟩)] w (WordT sb w N) := by
  have C8 := hide (seed_next 8 sb N w h (by omega) (by omega))
  have HT := hide hT
  have HW := hide hW
  clear h hT hW
  go_enter Tryz.func54, Tryz.ntmps54
  go_wp2_with fail
  refine C8.out.mono ?_
  rintro e w1 ⟨k0, hk0, rfl, s1, t1⟩
  have S1 := hide s1
  have T1 := hide t1
  clear s1 t1 C8
  go_upto_region 2 with fail
  go_cut [5] (fun sv wc => ∃ s : ByteArray, sv = .string s ∧ Hid (says[k0]? = some s) ∧ Hid (Old w1 wc))
  case first =>
    have h8 : k0 = 0 ∨ k0 = 1 ∨ k0 = 2 ∨ k0 = 3 ∨ k0 = 4 ∨ k0 = 5 ∨ k0 = 6 ∨ k0 = 7 := by omega
    clear hk0
    rcases h8 with rfl | rfl | rfl | rfl | rfl | rfl | rfl | rfl
    all_goals
      go_wp2_with fail
      go_meet
      exact ⟨_, rfl, hide rfl, hide (Old.alloc (Old.refl _) _)⟩
  case rest =>
  obtain ⟨s, rfl, HS, OC1⟩ := hcut
  go_upto_region 3 with fail
  go_cut [6] (fun qv wd => ∃ q : ByteArray, qv = .string q ∧ Hid (spells[k0]? = some q) ∧ Hid (Old w1 wd))
  case first =>
    have h8 : k0 = 0 ∨ k0 = 1 ∨ k0 = 2 ∨ k0 = 3 ∨ k0 = 4 ∨ k0 = 5 ∨ k0 = 6 ∨ k0 = 7 := by omega
    clear hk0
    rcases h8 with rfl | rfl | rfl | rfl | rfl | rfl | rfl | rfl
    all_goals
      go_wp2_with fail
      go_meet
      exact ⟨_, rfl, hide rfl, hide (Old.alloc OC1.out _)⟩
  case rest =>
    clear OC1
    obtain ⟨q, rfl, HQ, OC⟩ := hcut
    have hv : vU s = true := List.all_eq_true.1 says_valid s (List.mem_of_getElem? HS.out)
    have OW := hide (show Old W0 wc from Old.trans (Below.trans HW.out (T1.out.below (B := W0.heap.size) HW.out.size hsb hsb)) OC.out)
    have hz : s.size ≤ 4 := (word_lit (word_a HS.out HQ.out)).2.2.2.1
    have CQ := hide (quote_ok s wc (by omega) hv (HT.out.old OW.out))
    have HM := hide (And.intro (word_a HS.out HQ.out) (word_b HS.out))
    obtain ⟨Q, hQ⟩ : ∃ Q : ByteArray, Hid ((⟨(quoteL s).toArray⟩ : ByteArray) = Q) := ⟨_, hide rfl⟩
    rw [hQ.out] at CQ HM
    have S2 := hide (S1.out.old OC.out)
    have T2 := hide (T1.out.old OC.out)
    clear hv hz hk0
    go_wp2_with fail
    refine CQ.out.mono ?_
    rintro e w2 ⟨rfl, o2⟩
    have S3 := hide (S2.out.old o2)
    have T3 := hide (T2.out.old o2)
    clear o2 CQ
    go_wp2_with fail
    refine (seed_next 2 sb N.tail w2 S3.out (by omega) (by omega)).mono ?_
    rintro e w3 ⟨k2, hk2, rfl, s3, t3⟩
    have S4 := hide s3
    have T4 := hide (T3.out.trans t3)
    have HN := hide (show N.tail.tail.length ≤ N.length from Nat.le_trans (tail_len _) (tail_len _))
    clear s3 t3
    by_cases h0 : k2 = 0
    · subst h0
      go_wp2_with fail
      go_ret2
      exact ⟨s, Q, _, rfl, HM.out.2, HN.out, S4.out, T4.out⟩
    · have hb : ((k2 : Int) == 0) = false := beq_eq_false_iff_ne.2 (by omega)
      go_wp2_with fail
      go_ret2
      exact ⟨s, q, _, rfl, HM.out.1, HN.out, S4.out, T4.out⟩
end Go.Proofs.YtcddfpcapbdphaaGreatDoor

/-! ### The statements' own inputs: the value of a seed, as text and tape; what is drawn. -/
namespace Go.Proofs.YtcddfpcapbdphaaGreatDoor
open Go.RowKit

/-- what a value of a seed is -/
def ValueT (deep sb : Nat) (w : World) (N : List Int) (e : Ending) (w' : World) : Prop :=
  ∃ (v : Value) (S : ByteArray) (j : J) (N' : List Int), e = .returned (.tuple #[.string S, v]) ∧ NodesT w.heap.size w' v j.flat ∧ Txt S.data.toList j ∧ S.size + 40 ≤ 64 * j.flat.length ∧ j.deep + deep ≤ 8 ∧ j.flat.length + 2 * N'.length ≤ 1 + 2 * N.length ∧ N'.length ≤ N.length ∧ SeedIs sb w' N' ∧ Two sb sb w w'
theorem one_flat (k n : Int) (s : ByteArray) : (oneJ k n s).flat = leafT k n s := rfl
theorem value_leaf {deep sb : Nat} {w w1 w' : World} {N N' : List Int} {v : Value} {k n : Int} {s S : ByteArray} (hd : deep ≤ 7) (h : NodesT w1.heap.size w' v (leafT k n s)) (ht : Txt S.data.toList (oneJ k n s)) (hs : S.size ≤ 21) (hN : N'.length ≤ N.length) (h1 : SeedIs sb w1 N') (h2 : Two sb sb w w1) (o : Old w1 w') :
    ValueT deep sb w N (.returned (.tuple #[.string S, v])) w' := by
  have e1 := one_deep k n s
  have e2 := one_len k n s
  exact ⟨v, S, _, N', rfl, by rw [one_flat]; exact h.mono h2.size, ht, by omega, by omega, by omega, hN, h1.old o, h2.old o⟩
theorem dig_itoa {m : Nat} (h : m < 5) : (⟨(Lib.itoa (m : Int)).toArray⟩ : ByteArray) = ⟨#[UInt8.ofNat (48 + m)]⟩ := by
  have h5 : m = 0 ∨ m = 1 ∨ m = 2 ∨ m = 3 ∨ m = 4 := by omega
  rcases h5 with rfl | rfl | rfl | rfl | rfl <;> exact congrArg (fun l : List UInt8 => (⟨l.toArray⟩ : ByteArray)) (by decide +kernel)
theorem lit_unq {l s : List UInt8} (h : litV l = .ok (s, [])) : unqV l = .ok (s, []) := by
  unfold litV at h
  split at h
  · cases h
  · rename_i c r
    split at h
    · cases h
    · split at h
      · cases h
      · rename_i x hx
        injection h with h
        rw [hx, h]

theorem text_form {base m : Nat} {w : World} {v : Value} {l : List ByteArray} (h : TextsOwn base w v l) (hm : l.length = m) : ∃ A cap, v = .slice A m cap ∧ m ≤ cap ∧ cap ≤ maxLen := by
  obtain ⟨A, cap, rfl, h1, h2, _⟩ := SlT.of_own h
  exact ⟨A, cap, by rw [hm], by omega, h2⟩
theorem part_form {base : Nat} {w : World} {v : Value} {ps : List (List Nd)} {m : Nat} (h : PartsOwn base w v ps) (hm : ps.length = m) : ∃ A cap, v = .slice A m cap ∧ m ≤ cap ∧ cap ≤ maxLen := by
  obtain ⟨vs, _, h2, _⟩ := h
  obtain ⟨A, cap, rfl, h1, h2, _⟩ := SlT.of_own h2
  exact ⟨A, cap, by rw [hm], by omega, h2⟩

theorem keysM_snoc (ps : List Mem) (p : Mem) : keysM (ps ++ [p]) = keysM ps ++ [p.key] := by simp [keysM]
theorem bT_snoc (s : ByteArray) (c : UInt8) : bT (s.data.toList ++ [c]) = s ++ ⟨#[c]⟩ := by
  have h : (bT (s.data.toList ++ [c])).data = (s ++ ⟨#[c]⟩ : ByteArray).data := by apply Array.toList_inj.1; simp [bT]
  exact ByteArray.ext h
theorem nd_form {base M : Nat} {w : World} {v : Value} {t : List Nd} (h : NodesT base w v t) (hm : t.length = M) : ∃ A c, v = .slice A M c ∧ M ≤ c ∧ c ≤ maxLen := by
  obtain ⟨A, c, rfl, h1, h2, _⟩ := h
  exact ⟨A, c, by rw [hm], by omega, h2⟩
set_option maxRecDepth 100000 in
set_option maxHeartbeats 4000000 in
theorem value_step (W0 : World) (hT : Tabs W0) (hP : PowTab W0) (sb : Nat) (hsb : W0.heap.size ≤ sb) (deep : Nat) (hd : deep ≤ 7) (IH : deep < 7 → ∀ (N : List Int) (w : World), N.length ≤ 150 → SeedIs sb w N → Old W0 w → Calls Tryz.prog 31 #[.pointer (some ⟨sb, 0, none⟩), .int .i64 ((deep : Int) + 1)] w (ValueT (deep + 1) sb w N))
    (N : List Int) (w : World) (hN : N.length ≤ 150) (hS : SeedIs sb w N) (hW : Old W0 w) :
    Calls Tryz.prog 31 #[.pointer (some ⟨sb, 0, none⟩), .int .i64 deep] w (ValueT deep sb w N) := by
  have HI := hide IH
  have HT := hide hT
  have HPT := hide hP
  have HW := hide hW
  have C9 := hide (seed_next 9 sb N w hS (by omega) (by omega))
  have CN := hide (fun (n : Int) (hn : 0 < n) (hn' : n ≤ 1125899906842624) (M : List Int) (w' : World) (h : SeedIs sb w' M) => seed_next n sb M w' h hn hn')
  have CB := hide (fun (M : List Int) (w' : World) (h : SeedIs sb w' M) => blank_run sb M w' h)
  have CWD := hide (fun (M : List Int) (w' : World) (h : SeedIs sb w' M) (o : Old W0 w') => seedword_run W0 HT.out sb hsb M w' h o)
  have hsw := hS.lt
  clear IH hT hW hS hP
  go_enter Tryz.func31, Tryz.ntmps31
  go_wp2_with fail
  refine C9.out.mono ?_
  rintro e w1 ⟨k0, hk0, rfl, s1, t1⟩
  obtain ⟨M, hM⟩ : ∃ M, Hid (N.tail = M) := ⟨_, hide rfl⟩
  rw [hM.out] at s1
  have hMN : M.length ≤ N.length := by rw [← hM.out]; exact tail_len N
  have S1 := hide s1
  have T1 := hide t1
  obtain ⟨A, c, b1, b2, b3, _⟩ := s1.box
  unfold maxLen at b3
  obtain ⟨L, hL⟩ : ∃ L, Hid (M.length = L) := ⟨_, hide rfl⟩
  rw [hL.out] at b1 b2 hMN
  clear s1 t1 C9
  go_upto_region 2 with fail
  go_cut [37] (fun bv wc => ∃ b : Bool, bv = .bool b ∧ (b = false → deep ≤ 6 ∧ 0 < L) ∧ wc = w1)
  case first =>
    by_cases h6 : 6 < deep
    · have h6' : (6 : Int) < (deep : Int) := by omega
      go_wp2_with fail
      go_meet
      exact ⟨true, rfl, (fun h => by cases h), rfl⟩
    · have h6' : ¬ (6 : Int) < (deep : Int) := by omega
      by_cases hl : L = 0
      · subst hl
        go_wp2_with fail
        go_meet
        exact ⟨true, rfl, (fun h => by cases h), rfl⟩
      · have hl' : ((L : Int) == 0) = false := beq_eq_false_iff_ne.2 (by omega)
        go_wp2_with fail
        go_meet
        exact ⟨false, rfl, (fun _ => by omega), rfl⟩
  case rest =>
    obtain ⟨b, rfl, HB, rfl⟩ := hcut
    go_upto_if 37 with fail
    go_cut [6] (fun kv wd => ∃ K : Nat, kv = .int .i64 K ∧ K < 9 ∧ (6 ≤ K → deep ≤ 6 ∧ 0 < L) ∧ wd = wc)
    case first =>
      cases b
      · go_wp2_with fail
        go_meet
        exact ⟨k0, rfl, by omega, fun _ => HB (by trivial), rfl⟩
      · go_wp2_with fail
        go_meet
        exact ⟨k0 % 6, by go_num, by omega, fun h => by omega, rfl⟩
    case rest =>
      obtain ⟨K, rfl, hK9, hK6, rfl⟩ := hcut
      have hML : M.length ≤ N.length := by rw [hL.out]; exact hMN
      have hMT := Nat.le_trans (tail_len M) hML
      clear b1 b2 b3 HB
      by_cases h0 : K = 0
      · subst h0
        go_wp2_with fail
        refine (null_run _).mono ?_
        rintro e w2 ⟨v2, rfl, n2, o2⟩
        have FIN := hide (value_leaf (S := ⟨#[110, 117, 108, 108]⟩) (deep := deep) (N := N) hd n2 null_txt (by decide) hML S1.out T1.out o2)
        clear n2 o2
        go_wp2_with fail
        go_ret2
        exact FIN.out
      by_cases h1 : K = 1
      · subst h1
        go_wp2_with fail
        refine (bool_run true _).mono ?_
        rintro e w3 ⟨v3, rfl, n3, o3⟩
        have FIN := hide (value_leaf (S := ⟨#[116, 114, 117, 101]⟩) (deep := deep) (N := N) hd n3 true_txt (by decide) hML S1.out T1.out o3)
        clear n3 o3
        go_wp2_with fail
        go_ret2
        exact FIN.out
      by_cases h2 : K = 2
      · subst h2
        go_wp2_with fail
        refine (bool_run false _).mono ?_
        rintro e w3 ⟨v3, rfl, n3, o3⟩
        have FIN := hide (value_leaf (S := ⟨#[102, 97, 108, 115, 101]⟩) (deep := deep) (N := N) hd n3 false_txt (by decide) hML S1.out T1.out o3)
        clear n3 o3
        go_wp2_with fail
        go_ret2
        exact FIN.out
      by_cases h3 : K = 3
      · subst h3
        go_wp2_with fail
        refine (num_run 0 _).mono ?_
        rintro e w3 ⟨v3, rfl, n3, o3⟩
        have FIN := hide (value_leaf (S := ⟨#[45, 48]⟩) (deep := deep) (N := N) hd n3 minus_txt (by decide) hML S1.out T1.out o3)
        clear n3 o3
        go_wp2_with fail
        go_ret2
        exact FIN.out
      by_cases h4 : K = 4
      · subst h4
        have hMTT := Nat.le_trans (tail_len M.tail) hMT
        go_wp2_with fail
        refine (CN.out 1099511627776 (by omega) (by omega) M _ S1.out).mono ?_
        rintro e w2 ⟨k1, hk1, rfl, s2, t2⟩
        have S2 := hide s2
        have T2 := hide (T1.out.trans t2)
        clear s2 t2
        obtain ⟨O, hO⟩ : ∃ O : Array Value, Hid (O = #[.int .i64 0, .int .i64 7, .int .i64 (-12), .int .i64 9223372036854775807, .int .i64 (-9223372036854775808), .int .i64 (k1 : Int)]) := ⟨_, hide rfl⟩
        have HX := hide (show ∀ k : Nat, k < 6 → ∃ x, O[k]? = some (.int .i64 x) ∧ -9223372036854775808 ≤ x ∧ x ≤ 9223372036854775807 from fun k hk => by
          rw [hO.out]
          have h6 : k = 0 ∨ k = 1 ∨ k = 2 ∨ k = 3 ∨ k = 4 ∨ k = 5 := by omega
          rcases h6 with rfl | rfl | rfl | rfl | rfl | rfl <;> exact ⟨_, rfl, by omega, by omega⟩)
        have hcw : sb < w2.heap.size := S2.out.lt
        go_wp2_with fail
        rw [← hO.out]
        refine (CN.out 6 (by omega) (by omega) M.tail _ (S2.out.old (Old.alloc (Old.refl _) _))).mono ?_
        rintro e w3 ⟨k2, hk2, rfl, s3, t3⟩
        obtain ⟨x, hx, hx1, hx2⟩ := HX.out k2 (by omega)
        have hcell : w3.cell? ⟨w2.heap.size, k2, none⟩ = some (.int .i64 x) := t3.cell ((cell_of_heap (heap_alloc_new w2 _)).trans hx) (by show w2.heap.size ≠ sb; omega) (by show w2.heap.size ≠ sb; omega)
        have S3 := hide s3
        have T3 := hide (T2.out.trans (Two.after_old (Old.alloc (Old.refl _) _) t3))
        have O3 := hide (show Old W0 w3 from Below.trans HW.out (T3.out.below (B := W0.heap.size) HW.out.size hsb hsb))
        have CF := hide (format_run x hx1 hx2 w3 (HPT.out.old O3.out))
        obtain ⟨S, hSd⟩ : ∃ S : ByteArray, Hid ((⟨(Lib.itoa x).toArray⟩ : ByteArray) = S) := ⟨_, hide rfl⟩
        have HTX := hide (show Txt S.data.toList (oneJ 4 x none_) ∧ S.size ≤ 21 from by
          rw [← hSd.out]
          exact ⟨by rw [txt_list]; exact itoa_txt x hx1 hx2, by rw [txt_len]; exact Lib.itoa_length_le x hx1 hx2⟩)
        rw [hSd.out] at CF
        clear s3 t3 hx
        go_wp2_with fail
        refine CF.out.mono ?_
        rintro e w4 ⟨rfl, o4⟩
        have S4 := hide (S3.out.old o4)
        have T4 := hide (T3.out.old o4)
        clear o4 hcell
        go_wp2_with fail
        refine (num_run x _).mono ?_
        rintro e w5 ⟨v5, rfl, n5, o5⟩
        have FIN := hide (value_leaf (deep := deep) (N := N) hd n5 HTX.out.1 HTX.out.2 hMTT S4.out T4.out o5)
        clear n5 o5
        go_wp2_with fail
        go_ret2
        exact FIN.out
      by_cases h5 : K = 5
      · subst h5
        have OW1 := hide (show Old W0 wc from Below.trans HW.out (T1.out.below (B := W0.heap.size) HW.out.size hsb hsb))
        go_wp2_with fail
        refine (CWD.out M _ S1.out OW1.out).mono ?_
        rintro e w2 ⟨s, q, N2, rfl, hsq, hN2, s2, t2⟩
        have S2 := hide s2
        have T2 := hide (T1.out.trans t2)
        have O2 := hide (show Old W0 w2 from Below.trans HW.out (T2.out.below (B := W0.heap.size) HW.out.size hsb hsb))
        obtain ⟨g1, g2, g3, g4, _⟩ := word_lit hsq
        have E := hide (show strT s = leafT 5 0 s by unfold strT; rw [if_pos (show vU s = true by have := g1.may; rwa [show bT s.data.toList = s from by simp [bT]] at this)])
        have CS := hide (str_run s w2 (by omega) (HT.out.old O2.out))
        have HTX := hide (show Txt q.data.toList (oneJ 5 0 s) by have := g1.txt; rwa [show bT s.data.toList = s from by simp [bT]] at this)
        have hN3 := Nat.le_trans hN2 hML
        clear s2 t2 hsq g1 hN2
        go_wp2_with fail
        refine CS.out.mono ?_
        rintro e w3 ⟨v3, rfl, n3, o3⟩
        rw [E.out] at n3
        have FIN := hide (value_leaf (deep := deep) (N := N) hd n3 HTX.out (by omega) hN3 S2.out T2.out o3)
        clear n3 o3
        go_wp2_with fail
        go_ret2
        exact FIN.out
      obtain ⟨hd6, hL0⟩ := hK6 (by omega)
      obtain ⟨wk, hwk⟩ : ∃ x, x = wc := ⟨_, rfl⟩
      subst hwk
      have hk0 : ((K : Int) == 0) = false := beq_eq_false_iff_ne.2 (by omega)
      have hk1 : ((K : Int) == 1) = false := beq_eq_false_iff_ne.2 (by omega)
      have hk2 : ((K : Int) == 2) = false := beq_eq_false_iff_ne.2 (by omega)
      have hk3 : ((K : Int) == 3) = false := beq_eq_false_iff_ne.2 (by omega)
      have hk4 : ((K : Int) == 4) = false := beq_eq_false_iff_ne.2 (by omega)
      have hk5 : ((K : Int) == 5) = false := beq_eq_false_iff_ne.2 (by omega)
      have hNM : M.tail.tail.length + 2 ≤ N.length := by
        have h1 := hL.out
        have h2 := hM.out
        rw [← h2] at h1 ⊢
        simp only [List.length_tail] at h1 ⊢
        omega
      have HIV := hide (HI.out (by omega))
      have hsw2 : sb < wk.heap.size := S1.out.lt
      have hwl : w.heap.size ≤ wk.heap.size := T1.out.size
      have HK6 := hide (show 6 ≤ K by omega)
      clear h0 h1 h2 h3 h4 h5 hK6 hMT hML
      go_wp2_with fail
      refine (CB.out M _ S1.out).mono ?_
      rintro e w2 ⟨B0, rfl, bl0, bs0, s2, t2⟩
      have S2 := hide s2
      have T2 := hide t2
      have HB0 := hide bl0
      clear s2 t2 bl0
      go_wp2_with fail
      refine (CN.out 5 (by omega) (by omega) M.tail _ S2.out).mono ?_
      rintro e w3 ⟨i0, hi0, rfl, s3, t3⟩
      have S3 := hide s3
      have T3 := hide (T2.out.trans t3)
      clear s3 t3
      have ST := hide (show KidsJ (decide (6 < K)) deep N.length i0 M.tail.tail.length [] B0.data.toList from KidsJ.start HB0.out (by rw [list_size]; exact bs0) (by omega) (by omega) hNM)
      go_wp2_with fail
      go_loopw [10, 11, 12, 13] (fun lv kv tv iv wr => ∃ (i : Nat) (ps : List Mem) (T : ByteArray) (N' : List Int), iv = .int .i64 i ∧ tv = .string T ∧ i ≤ 4 ∧ Hid (PartsOwn wk.heap.size wr lv (rowsM ps)) ∧ Hid (TextsOwn wk.heap.size wr kv (if 6 < K then keysM ps else [])) ∧ Hid (SeedIs sb wr N') ∧ Hid (KidsJ (decide (6 < K)) deep N.length i N'.length ps T.data.toList) ∧ Hid (Two sb sb wk wr)) (fun _ _ _ iv _ => (intOf iv).toNat)
      case atStart => exact ⟨i0, [], B0, M.tail.tail, rfl, rfl, by omega, hide (PartsOwn.nil_ _ _), hide (by split <;> exact own_nil _ _ _ _), S3, ST, T3⟩
      case round =>
        obtain ⟨i, ps, T, N', rfl, rfl, hi4, HP, HK, HS, HKS, HTW⟩ := hrel
        by_cases hpos : 0 < i
        · obtain ⟨i', hi'⟩ : ∃ i', Hid (i = i' + 1) := ⟨i - 1, hide (by omega)⟩
          obtain ⟨m, hm⟩ : ∃ m, Hid (ps.length = m) := ⟨_, hide rfl⟩
          have hm3 : m ≤ 3 := by have := HKS.out.len; have := hm.out; have := hi'.out; omega
          obtain ⟨A3, c3, rfl, q3, r3⟩ := part_form HP.out (show (rowsM ps).length = m by simp [rowsM, hm.out])
          unfold maxLen at r3
          go_upto_if 86 with fail
          go_cut [12] (fun tv wd => ∃ (T0 : ByteArray) (b0 : List UInt8) (N1 : List Int), tv = .string T0 ∧ T0.size ≤ 1000000 ∧ Hid (T0.data.toList = preT ps T.data.toList ++ b0) ∧ Hid (Blanks b0) ∧ b0.length ≤ 3 ∧ Hid (SeedIs sb wd N1) ∧ N1.length ≤ N'.length ∧ Hid (PartsOwn wk.heap.size wd (.slice A3 m c3) (rowsM ps)) ∧ Hid (TextsOwn wk.heap.size wd u11 (if 6 < K then keysM ps else [])) ∧ Hid (Two sb sb wk wd))
          case first =>
            have hTs := HKS.out.tsize hN
            rw [list_size] at hTs
            by_cases hm0 : m = 0
            · subst hm0
              have hnil : ps = [] := List.eq_nil_of_length_eq_zero hm.out
              go_wp2_with fail
              go_meet
              exact ⟨T, T.data.toList, N', rfl, by omega, hide (by rw [hnil]; rfl), hide (HKS.out.zero hnil).1, (HKS.out.zero hnil).2, HS, Nat.le_refl _, HP, HK, HTW⟩
            · have hmp : (0 : Int) < (m : Int) := by omega
              have hnil : ps ≠ [] := fun e => hm0 (by rw [← hm.out, e]; rfl)
              go_wp2_with fail
              refine (CB.out N' _ HS.out).mono ?_
              rintro e w4 ⟨B4, rfl, bl4, bs4, s4, t4⟩
              have FIN := hide (show ∃ (T0 : ByteArray) (b0 : List UInt8) (N1 : List Int), Value.string (T ++ ⟨#[44]⟩ ++ B4) = .string T0 ∧ T0.size ≤ 1000000 ∧ Hid (T0.data.toList = preT ps T.data.toList ++ b0) ∧ Hid (Blanks b0) ∧ b0.length ≤ 3 ∧ Hid (SeedIs sb w4 N1) ∧ N1.length ≤ N'.length ∧ Hid (PartsOwn wk.heap.size w4 (.slice A3 m c3) (rowsM ps)) ∧ Hid (TextsOwn wk.heap.size w4 u11 (if 6 < K then keysM ps else [])) ∧ Hid (Two sb sb wk w4) from
                ⟨_, B4.data.toList, _, rfl, by simp only [ByteArray.size_append]; have : (⟨#[44]⟩ : ByteArray).size = 1 := rfl; omega, hide (by unfold preT; rw [if_neg hnil]; simp only [app_list]), hide bl4, by rw [list_size]; exact bs4, hide s4, tail_len _, hide (HP.out.two t4 hsw2), hide (own_two HK.out t4 hsw2), hide (HTW.out.trans t4)⟩)
              clear bl4 s4 t4
              go_wp2_with fail
              go_meet
              exact FIN.out
          case rest =>
          obtain ⟨T0, b0, N1, rfl, hT0, HT0, HB0, hb0, HS1, hN1, HP1, HK1, HTW1⟩ := hcut
          go_upto_if 93 with fail
          go_cut [11, 12] (fun kv tv wd => ∃ (X1 : ByteArray) (kt k lead : List UInt8) (N2 : List Int), tv = .string X1 ∧ X1.size ≤ 1100000 ∧ Hid (X1.data.toList = preT ps T.data.toList ++ (kt ++ lead)) ∧ Hid (HeadJ (decide (6 < K)) ps.length kt k) ∧ Hid (Blanks lead) ∧ lead.length ≤ 3 ∧ Hid (SeedIs sb wd N2) ∧ N2.length ≤ N1.length ∧ Hid (PartsOwn wk.heap.size wd (.slice A3 m c3) (rowsM ps)) ∧ Hid (TextsOwn wk.heap.size wd kv (if 6 < K then keysM ps ++ [bT k] else [])) ∧ Hid (Two sb sb wk wd))
          case first =>
            by_cases h6K : 6 < K
            · have hk6 : (6 : Int) < (K : Int) := by omega
              have OW1 := hide (show Old W0 _ from Below.trans HW.out ((T1.out.trans HTW1.out).below (B := W0.heap.size) HW.out.size hsb hsb))
              rw [if_pos h6K] at HK1
              obtain ⟨A4, c4, hu11, q4, r4⟩ := text_form HK1.out (show (keysM ps).length = m by simp [keysM, hm.out])
              unfold maxLen at r4
              subst hu11
              go_wp2_with fail
              refine (CWD.out N1 _ HS1.out OW1.out).mono ?_
              rintro e w4 ⟨s, q, N2, rfl, hsq, hN2, s4, t4⟩
              have HSQ := hide hsq
              obtain ⟨g1, g2, g3, g4, g5⟩ := word_lit hsq
              have S4 := hide s4
              have T4 := hide (HTW1.out.trans t4)
              have P4 := hide (HP1.out.two t4 hsw2)
              have K4 := hide (own_two HK1.out t4 hsw2)
              have O4 := hide (show Old W0 w4 from Below.trans HW.out ((T1.out.trans T4.out).below (B := W0.heap.size) HW.out.size hsb hsb))
              have CI := hide (itoa_run (m : Int) (by omega) (by omega) w4 (HPT.out.old O4.out))
              obtain ⟨D, hD⟩ : ∃ D : ByteArray, Hid ((⟨#[UInt8.ofNat (48 + m)]⟩ : ByteArray) = D) := ⟨_, hide rfl⟩
              have hDs : D.size = 1 := by rw [← hD.out]; rfl
              rw [dig_itoa (show m < 5 by omega), hD.out] at CI
              have GL := hide (lit_unq g1.lit)
              clear s4 t4 hsq g1 g5
              go_wp2_with fail
              refine CI.out.mono ?_
              rintro e w5 ⟨rfl, o5⟩
              have S5 := hide (S4.out.old o5)
              have T5 := hide (T4.out.old o5)
              have P5 := hide (P4.out.old o5)
              have K5 := hide (own_old K4.out o5)
              have O5 := hide (Old.trans O4.out o5)
              have CU := hide (unquote_run q w5 (by omega) (HT.out.old O5.out))
              rw [GL.out, show unqE q.size (.ok (s.data.toList, [])) = .tuple #[.string s, .int .i64 ((q.size - 0 : Nat) : Int), .int .i64 0] from by simp [unqE, bT]] at CU
              clear o5 CI S4 T4 P4 K4
              go_wp2_with fail
              refine CU.out.mono ?_
              rintro e w6 ⟨rfl, o6⟩
              have S6 := hide (S5.out.old o6)
              have T6 := hide (T5.out.old o6)
              have P6 := hide (P5.out.old o6)
              have K6 := hide (own_old K5.out o6)
              have hl2 : (keysM ps).length + 1 ≤ 4194304 := by simp only [keysM, List.length_map, hm.out]; omega
              clear o6 CU S5 T5 P5 K5
              go_upto_region 32 with (at_builtin; refine wpList_plain rfl (fun K' hK' => ?_); refine step_push_text _ _ _ rfl wk.heap.size _ (keysM ps) rfl (own_old K6.out (Old.alloc (Old.refl _) (.cells #[.string (s ++ D)] 9))) _ _ (s ++ D) rfl (by go_simp) hl2 (T6.out.old (Old.alloc (Old.refl _) (.cells #[.string (s ++ D)] 9))).size ?_; intro v7 w7 own7 kept7; refine hK' _ _ ?_; clear hK')
              have P7 := hide (PartsOwn.kept (P6.out.old (Old.alloc (Old.refl _) (.cells #[.string (s ++ D)] 9))) kept7 (by decide) (by decide))
              have S7 := hide (SeedIs.below (S6.out.old (Old.alloc (Old.refl _) (.cells #[.string (s ++ D)] 9))) kept7.low hsw2)
              have T7 := hide (Two.then_below (T6.out.old (Old.alloc (Old.refl _) (.cells #[.string (s ++ D)] 9))) kept7.low)
              have K7 := hide own7
              clear own7 kept7 S6 T6 P6 K6
              obtain ⟨z, hz⟩ : ∃ z, Hid (q.size - 1 = z) := ⟨_, hide rfl⟩
              have hz1 : (q.size : Int) - 1 = (z : Int) := by have := hz.out; omega
              have hz2 : max (z : Int) 0 = (z : Int) := by omega
              have hz3 : z ≤ q.size := by have := hz.out; omega
              have hz4 : (0 : Int) ≤ (z : Int) := by omega
              have hz5 : (z : Int) ≤ (q.size : Int) := by omega
              have hz6 : IntKind.i64.wrap ((q.size : Int) - 1) = (z : Int) := (IntWalk.i64_in _ (by omega)).trans hz1
              have hz7 : IntKind.i64.wrap (z : Int) = (z : Int) := IntWalk.i64_in _ (by omega)
              have hz8 : ¬ (z : Int) < 0 := by omega
              have hz9 : ¬ (q.size : Int) < (z : Int) := by omega
              obtain ⟨Q, hQ⟩ : ∃ Q : ByteArray, Hid (q.extract 0 z = Q) := ⟨_, hide rfl⟩
              have hQs : Q.size ≤ 14 := by rw [← hQ.out, ByteArray.size_extract]; omega
              have HQL := hide (show Q.data.toList ++ D.data.toList ++ [34] = keyLit q.data.toList ps.length by
                rw [← hQ.out, ← hD.out]
                unfold keyLit
                rw [list_size, hz.out, hm.out]
                simp [ByteArray.data_extract])
              have hQ' : q.extract 0 z = Q := hQ.out
              have y1 : ¬ 9223372036854775807 < T0.size + Q.size := by omega
              have y2 : ¬ 9223372036854775807 < T0.size + Q.size + D.size := by omega
              have y3 : ¬ 9223372036854775807 < T0.size + Q.size + D.size + 1 := by omega
              have y3' : ¬ 9223372036854775807 < T0.size + Q.size + D.size + (⟨#[34]⟩ : ByteArray).size := y3
              have Y4 := hide (show ∀ B : ByteArray, B.size ≤ 3 → ¬ 9223372036854775807 < T0.size + Q.size + D.size + 1 + B.size from fun B hB => by omega)
              have Y5 := hide (show ∀ B : ByteArray, B.size ≤ 3 → ¬ 9223372036854775807 < T0.size + Q.size + D.size + 1 + B.size + 1 from fun B hB => by omega)
              have Y6 := hide (show ∀ B C : ByteArray, B.size ≤ 3 → C.size ≤ 3 → ¬ 9223372036854775807 < T0.size + Q.size + D.size + 1 + B.size + 1 + C.size from fun B C hB hC => by omega)
              have hD1 := hide hDs
              have hQ1 := hide hQs
              have hT1 := hide hT0
              clear hDs hQs
              try clear HI
              try clear HIV
              try clear HT
              try clear HPT
              try clear HW
              try clear CN
              try clear CWD
              try clear HKS
              try clear HS
              try clear HP
              try clear HK
              try clear HTW
              try clear HP1
              try clear HK1
              try clear HS1
              try clear HTW1
              try clear OW1
              try clear S1
              try clear T1
              try clear S2
              try clear T2
              try clear S3
              try clear T3
              try clear ST
              try clear O4
              try clear O5
              try clear GL
              try clear hL
              try clear hMN
              try clear hL0
              try clear hd6
              try clear hk0
              try clear hk1
              try clear hk2
              try clear hk3
              try clear hk4
              try clear hk5
              try clear hpos
              try clear hi'
              try clear hi4
              try clear hl2
              try clear hk6
              try clear hN
              try clear hsb
              try clear hd
              try clear hwl
              try clear q3
              try clear r3
              try clear q4
              try clear r4
              go_region_held3 (fun w' => Two sb sb wk w')
                (first | assumption | (exact T7.out) | (exact (T7.out.old (Old.drew (Old.refl _)))) | (exact Two.old (by assumption) (Old.drew (Old.refl _))) | (exact Two.trans (by assumption) (by assumption)))
                (first
                  | (go_at_call 56; refine (CB.out N2 _ (by first | exact S7.out | exact S7.out.old (Old.drew (Old.refl _)))).mono ?_; rintro e w8 ⟨B8, rfl, bl8, bs8, s8, t8⟩; have y4 := Y4.out B8 bs8; have y5 := Y5.out B8 bs8)
                  | (go_at_call 56; refine (CB.out N2.tail _ (by first | exact s8 | exact s8.old (Old.drew (Old.refl _)))).mono ?_; rintro e w9 ⟨B9, rfl, bl9, bs9, s9, t9⟩; have y6 := Y6.out B8 B9 bs8 bs9))
              all_goals
                have T9 := hide (show Two sb sb wk w9 by assumption)
                have P9 := hide (show PartsOwn wk.heap.size w9 (.slice A3 m c3) (rowsM ps) by
                  refine PartsOwn.two (sb := sb) ?_ t9 hsw2
                  refine PartsOwn.two (sb := sb) ?_ t8 hsw2
                  first | exact P7.out | exact P7.out.old (Old.drew (Old.refl _)))
                have K9 := hide (show TextsOwn wk.heap.size w9 v7 (keysM ps ++ [s ++ D]) by
                  refine own_two (sb := sb) ?_ t9 hsw2
                  refine own_two (sb := sb) ?_ t8 hsw2
                  first | exact K7.out | exact own_old K7.out (Old.drew (Old.refl _)))
                have S9 := hide s9
                have E9 := hide (show (T0 ++ Q ++ D ++ ⟨#[34]⟩ ++ B8 ++ ⟨#[58]⟩ ++ B9 : ByteArray).data.toList = preT ps T.data.toList ++ ((b0 ++ (keyLit q.data.toList ps.length ++ (B8.data.toList ++ [58]))) ++ B9.data.toList) by
                  rw [← HQL.out]
                  simp only [app_list, HT0.out]
                  simp)
                have H9 := hide (show HeadJ (decide (6 < K)) ps.length (b0 ++ (keyLit q.data.toList ps.length ++ (B8.data.toList ++ [58]))) (s.data.toList ++ [UInt8.ofNat (48 + ps.length)]) by
                  rw [decide_eq_true h6K]
                  exact head_key HSQ.out (by rw [hm.out]; omega) HB0.out hb0 bl8 (by rw [list_size]; exact bs8))
                have B9' := hide bl9
                have hz10 : (T0 ++ Q ++ D ++ ⟨#[34]⟩ ++ B8 ++ ⟨#[58]⟩ ++ B9 : ByteArray).size ≤ 1100000 := by
                  have h1 := hD1.out
                  have h2 := hQ1.out
                  have h3 : (⟨#[34]⟩ : ByteArray).size = 1 := rfl
                  have h4 : (⟨#[58]⟩ : ByteArray).size = 1 := rfl
                  simp only [ByteArray.size_append]
                  omega
                have hb9 : B9.data.toList.length ≤ 3 := by rw [list_size]; exact bs9
                have hN9 : N2.tail.tail.length ≤ N1.length := Nat.le_trans (Nat.le_trans (tail_len _) (tail_len _)) hN2
                have HBT := hide (show bT (s.data.toList ++ [UInt8.ofNat (48 + ps.length)]) = s ++ D by rw [← hD.out, hm.out]; exact bT_snoc s _)
                clear s8 t8 s9 t9 bl8 bl9
                go_wp2_with fail
                go_meet
                exact ⟨_, _, _, _, _, rfl, hz10, E9, H9, B9', hb9, S9, hN9, P9, hide (by rw [if_pos h6K, HBT.out]; exact K9.out), T9⟩
            · have hk6 : ¬ (6 : Int) < (K : Int) := by omega
              go_wp2_with fail
              go_meet
              refine ⟨T0, [], [], b0, N1, rfl, by omega, hide (by rw [List.nil_append]; exact HT0.out), hide ?_, HB0, hb0, HS1, Nat.le_refl _, HP1, hide ?_, HTW1⟩
              · rw [decide_eq_false h6K]; exact head_none _ _
              · rw [if_neg h6K]; have h := HK1.out; rwa [if_neg h6K] at h
          case rest =>
          obtain ⟨X1, kt, k, lead, N2, rfl, hX1, HT1, HH, HL, hl3, HS2, hN2, HP2, HK2, HTW2⟩ := hcut
          have OW := hide (show Old W0 _ from Below.trans HW.out ((T1.out.trans HTW2.out).below (B := W0.heap.size) HW.out.size hsb hsb))
          have CV := hide (HIV.out N2 _ (by have := HKS.out.left; omega) HS2.out OW.out)
          have hl1 : (rowsM ps).length + 1 ≤ 4194304 := by simp only [rowsM, List.length_map, hm.out]; omega
          have hsd := HS2.out.lt
          go_wp2_with fail
          refine CV.out.mono ?_
          rintro e w5 ⟨v5, S, j, N3, rfl, n5, x5, z5, d5, l5, le5, s5, t5⟩
          obtain ⟨M5, hM5⟩ : ∃ M, Hid (j.flat.length = M) := ⟨_, hide rfl⟩
          obtain ⟨A5, c5, rfl, q5, r5⟩ := nd_form n5 hM5.out
          unfold maxLen at r5
          have hSs : S.size ≤ 20000 := by have := HKS.out.left; omega
          have X5 := hide x5
          have F5 := hide (And.intro z5 (And.intro d5 (And.intro l5 le5)))
          have N5 := hide n5
          have S5 := hide s5
          have T5 := hide (HTW2.out.trans t5)
          have P5 := hide (HP2.out.two t5 hsw2)
          have K5 := hide (own_two HK2.out t5 hsw2)
          clear n5 x5 z5 d5 l5 le5 s5 t5 CV
          go_wp2_with fail
          refine (CB.out N3 _ S5.out).mono ?_
          rintro e w6 ⟨B6, rfl, bl6, bs6, s6, t6⟩
          have HB6 := hide (And.intro bl6 (show B6.data.toList.length ≤ 3 by rw [list_size]; exact bs6))
          have N6 := hide (SlT.mono (SlT.old (SlT.two N5.out t6 hsd) (Old.alloc (Old.refl _) (.cells #[.slice A5 M5 c5] 25))) HTW2.out.size)
          have S6 := hide (s6.old (Old.alloc (Old.refl _) (.cells #[.slice A5 M5 c5] 25)))
          have T6 := hide ((T5.out.trans t6).old (Old.alloc (Old.refl _) (.cells #[.slice A5 M5 c5] 25)))
          have P6 := hide ((P5.out.two t6 hsw2).old (Old.alloc (Old.refl _) (.cells #[.slice A5 M5 c5] 25)))
          have K6 := hide (own_old (own_two K5.out t6 hsw2) (Old.alloc (Old.refl _) (.cells #[.slice A5 M5 c5] 25)))
          clear bl6 s6 t6 N5 S5 T5 P5 K5
          have hii : ((i : Int) - 1) = (i' : Int) := by have := hi'.out; omega
          have hi4' : i' ≤ 4 := by have := hi'.out; omega
          have hpi : (0 : Int) < (i : Int) := by omega
          go_wp2_with (at_builtin; refine wpList_plain rfl (fun K' hK' => ?_); refine step_push_part _ _ _ rfl wk.heap.size _ (rowsM ps) rfl P6.out _ _ (.slice A5 M5 c5) j.flat rfl (by go_simp) N6.out hl1 T6.out.size ?_; intro v7 w7 own7 kept7; refine hK' _ _ ?_; clear hK')
          have P7 := hide (show PartsOwn wk.heap.size w7 v7 (rowsM (ps ++ [⟨kt, k, lead ++ (S.data.toList ++ B6.data.toList), j⟩])) by simpa [rowsM] using own7)
          have S7 := hide (S6.out.below kept7.low hsw2)
          have T7 := hide (T6.out.then_below kept7.low)
          have K7 := hide (Kept.own kept7 K6.out (by decide))
          have K8 := hide (show TextsOwn wk.heap.size w7 u11 (if 6 < K then keysM (ps ++ [⟨kt, k, lead ++ (S.data.toList ++ B6.data.toList), j⟩]) else []) by
            have h := K7.out
            split at h
            · rename_i h6; rw [if_pos h6, keysM_snoc]; exact h
            · rename_i h6; rw [if_neg h6]; exact h)
          have KN := hide (show KidsJ (decide (6 < K)) deep N.length i' N3.tail.length (ps ++ [⟨kt, k, lead ++ (S.data.toList ++ B6.data.toList), j⟩]) (X1 ++ S ++ B6 : ByteArray).data.toList by
            have h := HKS.out
            rw [hi'.out] at h
            have h9 := h.next (v := S.data.toList) (j := j) (m1 := N2.length) (m2 := N3.length) (m' := N3.tail.length) HH.out HL.out hl3 HB6.out.1 HB6.out.2 X5.out (by rw [list_size]; exact F5.out.1) F5.out.2.1 (Nat.le_trans hN2 hN1) F5.out.2.2.1 (tail_len N3)
            rw [app_list, app_list, HT1.out]
            simpa using h9)
          clear own7 kept7
          go_roundw
          case rel => exact ⟨i', _, _, _, by first | rfl | rw [hii], rfl, hi4', P7, K8, S7, KN, T7⟩
          case measure => simp [intOf]; omega
        · have hi0 : i = 0 := by omega
          subst hi0
          have OW := hide (show Old W0 wr from Below.trans HW.out ((T1.out.trans HTW.out).below (B := W0.heap.size) HW.out.size hsb hsb))
          have PA := hide HP.out.is
          have TB := hide (HT.out.old OW.out)
          have hTs := HKS.out.tsize hN
          rw [list_size] at hTs
          have XP := hide (show ∀ p ∈ rowsM ps, TextsOk p from fun p hp => by
            obtain ⟨q, hq, rfl⟩ := List.mem_map.1 hp
            exact may_texts (parse_mid (HKS.out.mem q hq).mid (HKS.out.mem q hq).len))
          by_cases h6 : K = 6
          · subst h6
            obtain ⟨m1, m2, m3, m4, m5⟩ := KidsJ.listEnd (show KidsJ false deep N.length 0 N'.length ps T.data.toList from HKS.out) hN
            have CL := hide (list_run _ (rowsM ps) _ 0 wr PA.out XP.out TB.out m2)
            have FIN := hide (fun (v : Value) (w' : World) (hv : NodesT wr.heap.size w' v (listM ps).flat) (o : Old wr w') => (⟨v, ⟨#[91]⟩ ++ T ++ ⟨#[93]⟩, _, N', rfl, hv.mono (Nat.le_trans hwl HTW.out.size), by simpa [app_list] using m1, by rw [← list_size]; simpa [app_list] using m5, m4, m3, HKS.out.left, HS.out.old o, (T1.out.trans HTW.out).old o⟩ : ValueT deep sb w N (.returned (.tuple #[.string (⟨#[91]⟩ ++ T ++ ⟨#[93]⟩), v])) w'))
            clear m1 m2 m3 m4 m5
            go_wp2_with fail
            refine CL.out.mono ?_
            rintro e w8 ⟨v8, rfl, n8, o8⟩
            have F8 := hide (FIN.out v8 w8 n8 o8)
            clear n8 o8
            go_wp2_with fail
            go_ret2
            exact F8.out
          · have hk6 : ((K : Int) == 6) = false := beq_eq_false_iff_ne.2 (by omega)
            have h6K : 6 < K := by have := HK6.out; omega
            rw [if_pos h6K] at HK
            rw [decide_eq_true h6K] at HKS
            obtain ⟨m1, m2, m3, m4, m5⟩ := HKS.out.objEnd hN
            have KS5 := hide (show ∀ s ∈ keysM ps, s.size ≤ maxLen from fun s hs => by
              obtain ⟨q, hq, rfl⟩ := List.mem_map.1 hs
              have := (HKS.out.valid rfl q hq).2
              unfold maxLen
              omega)
            have CO := hide (obj_run _ _ (keysM ps) (rowsM ps) _ 0 wr (TextsOwn.is HK.out) KS5.out PA.out XP.out TB.out m2)
            have FIN := hide (fun (v : Value) (w' : World) (hv : NodesT wr.heap.size w' v (objM ps).flat) (o : Old wr w') => (⟨v, ⟨#[123]⟩ ++ T ++ ⟨#[125]⟩, _, N', rfl, hv.mono (Nat.le_trans hwl HTW.out.size), by simpa [app_list] using m1, by rw [← list_size]; simpa [app_list] using m5, m4, m3, HKS.out.left, HS.out.old o, (T1.out.trans HTW.out).old o⟩ : ValueT deep sb w N (.returned (.tuple #[.string (⟨#[123]⟩ ++ T ++ ⟨#[125]⟩), v])) w'))
            clear m1 m2 m3 m4 m5 h6
            go_wp2_with fail
            refine CO.out.mono ?_
            rintro e w8 ⟨v8, rfl, n8, o8⟩
            have F8 := hide (FIN.out v8 w8 n8 o8)
            clear n8 o8
            go_wp2_with fail
            go_ret2
            exact F8.out

theorem value_run_s (W0 : World) (hT : Tabs W0) (hP : PowTab W0) (sb : Nat) (hsb : W0.heap.size ≤ sb) : ∀ (f deep : Nat), deep + f = 7 → ∀ (N : List Int) (w : World), N.length ≤ 150 → SeedIs sb w N → Old W0 w →
    Calls Tryz.prog 31 #[.pointer (some ⟨sb, 0, none⟩), .int .i64 deep] w (ValueT deep sb w N) := by
  intro f
  induction f with
  | zero => intro deep hd N w hN hS hW; exact value_step W0 hT hP sb hsb deep (by omega) (fun h => by omega) N w hN hS hW
  | succ f ih =>
    intro deep hd N w hN hS hW
    exact value_step W0 hT hP sb hsb deep (by omega) (fun _ N w h1 h2 h3 => ih (deep + 1) (by omega) N w h1 h2 h3) N w hN hS hW

/-! ### what is drawn -/
/-- what is drawn -/
def DrawnT (w : World) (e : Ending) (w' : World) : Prop :=
  ∃ (v : Value) (S : ByteArray) (j : J), e = .returned (.tuple #[.string S, v]) ∧ NodesT w.heap.size w' v j.flat ∧ Txt S.data.toList j ∧ S.size ≤ 20000 ∧ Old w w'
theorem two_old {sb : Nat} {w a b : World} (h : Old w a) (k : Two sb sb a b) (hs : w.heap.size ≤ sb) : Old w b :=
  Below.trans h (k.below (B := w.heap.size) h.size hs hs)
theorem drawn_at {w w1 : World} {u : Value} {l : List Int} (h : NumsIs w u l) (o : Old w w1) {sb : Nat} (hs : w.heap.size + 1 = sb) (A : Option Addr) (c : Nat) (hu : u = .slice A l.length c) (hb : w1.cell? ⟨sb, 0, none⟩ = some (.slice A (l.take 150).length c)) (hf : w1.frozen? ⟨sb, 0, none⟩ = false) :
    SeedIs sb w1 (l.take 150) := by
  subst hu
  obtain ⟨A', c', e, h1, h2, h3⟩ := h
  injection e with e1 e2 e3
  subst e1
  subst e3
  refine ⟨⟨A, c, hb, by simp; omega, h2, fun hne => ?_⟩, hf⟩
  have hl : l ≠ [] := by intro h; subst h; simp at hne
  obtain ⟨b, off, rfl, hc⟩ := h3 (by simp [numVals, hl])
  have hb0 : b < w.heap.size := by
    cases l with
    | nil => exact absurd rfl hl
    | cons x xs => exact World.block_lt_of_cell? w _ (hc 0 (.int .i64 x) rfl)
  refine ⟨b, off, rfl, by omega, fun j u hu => o.cell (hc j _ ?_)⟩
  have := List.getElem?_take_of_lt (l := l) (i := j) (j := 150)
  have hj : j < 150 := by
    have := (List.getElem?_eq_some_iff.1 hu).1
    simp at this; omega
  rw [List.getElem?_take_of_lt hj] at hu
  simp [numVals, hu]

set_option maxRecDepth 100000 in
set_option maxHeartbeats 1000000 in
theorem drawn_run (u : Value) (l : List Int) (w : World) (h : NumsIs w u l) (hT : Tabs w) (hP : PowTab w) :
    Calls Tryz.prog 10 #[.agg #[u]] w (DrawnT w) := by
  have H := hide h
  have HT := hide hT
  have HPT := hide hP
  obtain ⟨A, c, rfl, h1, h2, _⟩ := h
  unfold maxLen at h2
  obtain ⟨n, hn⟩ : ∃ n, Hid (l.length = n) := ⟨_, hide rfl⟩
  have AT := hide (fun (w1 : World) (o : Old w w1) => drawn_at (sb := w.heap.size + 1) H.out o rfl A c rfl)
  rw [List.length_take] at AT
  rw [hn.out] at h1 AT
  obtain ⟨m, hm⟩ : ∃ m, Hid (min 150 n = m) := ⟨_, hide rfl⟩
  rw [hm.out] at AT
  have hmn : min (n : Int) 150 = (m : Int) := by have := hm.out; omega
  have hmc : m ≤ c := by have := hm.out; omega
  rw [hn.out]
  have FIN := hide (fun (w1 : World) (o : Old w w1) (s : SeedIs (w.heap.size + 1) w1 (l.take 150)) => value_run_s w HT.out HPT.out (w.heap.size + 1) (by omega) 6 1 rfl (l.take 150) w1 (by simp; omega) s o)
  clear H HT HPT hT hP
  go_enter Tryz.func10, Tryz.ntmps10
  go_wp2_with fail
  refine (FIN.out _ ?ho (AT.out _ ?hp ?hb ?hf)).mono ?_
  case ho => exact Old.alloc (Old.alloc (Old.refl _) _) _
  case hp => exact Old.alloc (Old.alloc (Old.refl _) _) _
  case hb => go_simp
  case hf => go_simp
  rintro e w1 ⟨v, S, j, N', rfl, n1, x1, z1, d1, l1, _, s1, t1⟩
  have FI := hide (⟨v, S, j, rfl, n1.mono (by simp only [World.size_alloc]; omega), x1, by simp at l1; omega, two_old (Old.alloc (Old.alloc (Old.refl _) _) _) t1 (by omega)⟩ : DrawnT w (.returned (.tuple #[.string S, v])) w1)
  clear n1 x1 s1 t1
  go_wp2_with fail
  go_ret2
  exact FI.out
end Go.Proofs.YtcddfpcapbdphaaGreatDoor

/-! ### What an argument's reading says of it: a seed; a row of seeds. -/
namespace Go.Proofs.YtcddfpcapbdphaaGreatDoor
open Go.RowKit Go.ChangeShapes Go.WideShapes Go.Deep

section
variable {H : Type} {enc : TypeId × Value → H} {w : World} {base : Nat} {spare : Nat → Bool} {held : Bool}
set_option maxRecDepth 100000 in
theorem open_nums {fuel : Nat} {cs : List Value} {x : DataW H × List MemPlace} (h : DataW.trod enc Tryz.prog w base spare held fuel 31 cs = some x) : ∃ v l, cs = [v] ∧ NumsIs w v l := by
  rcases open_slice_one Tryz.underlying31 (by kernel_rfl) h with rfl | ⟨a, len, cap, rfl, hl, hm, hf⟩
  · exact ⟨_, [], rfl, Sl.nil_ w⟩
  · have hx : ∀ i, i < len → ∃ s : Int, w.cell? (a.add i) = some (.int .i64 s) := by
      intro i hi
      obtain ⟨n, v, y, h0, t0⟩ := hf i hi
      obtain ⟨k0, e0, _⟩ := DataW.trod_int Tryz.underlying3 t0
      injection e0 with e0
      subst e0
      exact ⟨k0, h0⟩
    obtain ⟨V, hV⟩ := choose_lt hx
    refine ⟨_, (List.range len).map V, rfl, ?_⟩
    have := sl_of_cells (V := fun i => .int .i64 (V i)) hl hm hV
    unfold NumsIs numVals
    simpa [List.map_map, Function.comp_def] using this
set_option maxRecDepth 100000 in
theorem open_seed {fuel : Nat} {cs : List Value} {x : DataW H × List MemPlace} (h : DataW.trod enc Tryz.prog w base spare held fuel 33 cs = some x) : ∃ v l, cs = [v] ∧ NumsIs w v l := by
  obtain ⟨y0, n, rfl, hl, h0⟩ := trod_struct1 Tryz.underlying33 h
  have hc : Tryz.prog.cellsOf 33 = 1 := by kernel_rfl
  have hc2 : Tryz.prog.cellsOf 31 = 1 := by kernel_rfl
  rw [hc] at hl
  match cs, hl, h0 with
  | [v], _, h0 =>
    obtain ⟨v', l, e, hn⟩ := open_nums h0
    have e2 : List.take 1 [v] = [v'] := by simpa [hc2] using e
    injection e2 with e2
    subst e2
    exact ⟨_, l, rfl, hn⟩
set_option maxRecDepth 100000 in
theorem seed_arg {r : Reach} {b0 : Nat} {v : Value} {d : DataW H} {p : List MemPlace} (hv : Value.okWide Tryz.prog w r b0 33 v) (h : DataW.Trod enc Tryz.prog w base spare held 33 v d p) : ∃ u l, v = .agg #[u] ∧ NumsIs w u l := by
  obtain ⟨cs, rfl, hsz⟩ := okWide_struct Tryz.underlying33 hv
  obtain ⟨fuel, hf⟩ := h
  obtain ⟨v, l, e, h1⟩ := open_seed hf
  have e2 : cs.toList = [v] := by simpa [Value.cells] using e
  refine ⟨v, l, ?_, h1⟩
  congr 1
  exact Array.ext' (by simpa using e2)
end
end Go.Proofs.YtcddfpcapbdphaaGreatDoor

