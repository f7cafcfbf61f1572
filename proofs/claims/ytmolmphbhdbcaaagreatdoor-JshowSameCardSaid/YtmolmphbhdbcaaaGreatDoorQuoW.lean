/- utf.Quote: the walk. -/
import Derived.Test.YtmolmphbhdbcaaaGreatDoorUnquW
import Derived.Test.YtmolmphbhdbcaaaGreatDoorEscW
import Derived.Maps.OwnSet
import Derived.Deep.CutBlock
import Derived.Deep.DeepCutAuto
import Derived.Test.YtmolmphbhdbcaaaGreatDoorTail
/-! ### utf.Quote: the walk. -/
namespace Go.Proofs.YtmolmphbhdbcaaaGreatDoor
open Go.RowKit

theorem WBs.old {T : TypeId} {B b : Nat} {l : List UInt8} {w w' : World} (h : WBs T B b l w) (o : Old w w') : WBs T B b l w' := by
  have go : ∀ p, Lib.BuilderAtF T 5 B b p (Lib.byteCells l) w → Lib.BuilderAtF T 5 B b p (Lib.byteCells l) w' := by
    rintro p ⟨hB, v, hb, hown, hne⟩
    refine ⟨hB, v, o.heap hb, ⟨hown.1, ?_⟩, hne⟩
    rcases hown.2 with h | ⟨g, cap, cur, fz, hv, hg, hh, r⟩
    · exact .inl h
    · exact .inr ⟨g, cap, cur, fz, hv, hg, o.heap hh, r⟩
  exact h.imp (go _) (go _)
def hexS : ByteArray := ⟨#[48, 49, 50, 51, 52, 53, 54, 55, 56, 57, 97, 98, 99, 100, 101, 102]⟩
theorem and15 {r : Nat} (h : r < 32) : bits BinOp.and IntKind.i32 (r : Int) 15 = ((r % 16 : Nat) : Int) := by
  have key : ∀ k : _root_.Fin 32, bits BinOp.and IntKind.i32 ((k.val : Nat) : Int) 15 = ((k.val % 16 : Nat) : Int) := by decide +kernel
  exact key ⟨r, h⟩
theorem hex_at {k : Nat} (h : k < 16) : (⟨#[48, 49, 50, 51, 52, 53, 54, 55, 56, 57, 97, 98, 99, 100, 101, 102]⟩ : ByteArray).extract k (k + 1) = ⟨#[hexB k]⟩ := by
  have key : ∀ k : _root_.Fin 16, (⟨#[48, 49, 50, 51, 52, 53, 54, 55, 56, 57, 97, 98, 99, 100, 101, 102]⟩ : ByteArray).extract k.val (k.val + 1) = ⟨#[hexB k.val]⟩ := by decide +kernel
  exact key ⟨k, h⟩
/-- the text from a place on -/
def restL (s : ByteArray) (pos : Nat) : List UInt8 := s.data.toList.drop pos
/-- a literal's beginning -/
def litTo (s : ByteArray) (pos : Nat) : List UInt8 := 34 :: escL (s.data.toList.take pos)
theorem litTo_len (s : ByteArray) (pos : Nat) : (litTo s pos).length ≤ 1 + 6 * s.size := by
  have h := (escL_len (s.data.toList.take pos)).2
  have e : s.data.toList.length = s.size := Array.length_toList
  rw [List.length_take, e] at h
  simp only [litTo, List.length_cons]
  omega
theorem litTo_next (s : ByteArray) (pos n : Nat) : litTo s (pos + n) = litTo s pos ++ escL ((restL s pos).take n) := by
  unfold litTo restL
  rw [List.take_add, escL_append]
  rfl
theorem litTo_all (s : ByteArray) : litTo s s.size ++ [34] = quoteL s := by
  have e : s.data.toList.length = s.size := Array.length_toList
  unfold litTo quoteL
  rw [List.take_of_length_le (by omega)]
  rfl
set_option maxRecDepth 100000 in
set_option maxHeartbeats 4000000 in
theorem quote_ok (s : ByteArray) (w : World) (hs : s.size ≤ 17592186044416) (hv : vU s = true) (hT : Tabs w) :
    Calls Tryz.prog 59 #[.string s] w fun e w' => e = .returned (.tuple #[.string ⟨(quoteL s).toArray⟩, .int .i64 0]) ∧ Old w w' := by
  have CV := utf_Valid s w (by omega) hT
  rw [hv] at CV
  have HV := hide (show Lib.validD (restL s 0) = true from hv)
  clear hT hv
  go_enter Tryz.func59, Tryz.ntmps59
  go_wp2_with fail
  refine CV.mono ?_
  rintro e w1 ⟨rfl, o1⟩
  clear CV
  have O1 := hide o1
  clear o1
  go_wp2_with fail
  refine (wb_WriteByte 50 (.inl rfl) w1.heap.size w1.heap.size [] 34 _ (Lib.IsBuilderF.of (Lib.fresh_isBuilder _ _ w1)) (by simp) (by simp)).mono ?_
  rintro e w2 ⟨rfl, h2, k2⟩
  go_wp2_with fail
  refine (short_run w2).mono ?_
  rintro e w3 ⟨bm, rfl, hb1, hb2, hm3, o3⟩
  obtain ⟨B, hB⟩ : ∃ B, Hid (w1.heap.size = B) := ⟨_, hide rfl⟩
  obtain ⟨it, hit⟩ : ∃ it, Hid (w3.heap.size = it) := ⟨_, hide rfl⟩
  have hB2 : B < w2.heap.size := by
    have := k2.below.size
    rw [← hB.out]
    simp at this
    omega
  have HW := hide (show WBs 50 B B (litTo s 0) (w3.iter s 0) by
    have h3 := WBs.old h2 (Old.alloc o3 (.stringIter s 0))
    rw [hB.out] at h3
    exact h3)
  have HI := hide (show (w3.iter s 0).heap[it]? = some (.stringIter s 0) by rw [← hit.out]; exact World.iter_heap w3 s 0)
  have HM := hide (show MapTwo bm (w3.iter s 0) from hm3.same fun o ho => (Old.alloc (Old.refl w3) (.stringIter s 0)).heap ho)
  have HK := hide (show Old w1 (w3.iter s 0) from Old.alloc (((Below.refl w1.heap.size w1).alloc (Nat.le_refl _) _).trans (k2.below.trans (Below.mono o3 (by rw [hB.out]; omega)))) _)
  have hbm : bm < it := by rw [← hit.out]; exact hb2
  have hBi : B < it := by rw [← hit.out]; exact Nat.lt_of_lt_of_le hB2 o3.size
  have hBm : B ≠ bm := by omega
  clear h2 k2 hm3 o3 hb1 hb2
  go_wp2_with fail
  rw [hB.out, hit.out]
  go_loopw [] (fun wr => ∃ pos, pos ≤ s.size ∧ Hid (WBs 50 B B (litTo s pos) wr) ∧ Hid (wr.heap[it]? = some (.stringIter s pos)) ∧ Hid (MapTwo bm wr) ∧ Hid (Lib.validD (restL s pos) = true) ∧ Hid (Old w1 wr)) (fun wr => s.size - wr.iterPos it)
  case atStart => exact ⟨0, Nat.zero_le _, HW, HI, HM, HV, HK⟩
  case round =>
    clear HW HI HM HV HK
    obtain ⟨pos, hpos, HW, HI, HM, HV, HK⟩ := hrel
    have hll := litTo_len s pos
    have hBw : B ≤ wr.heap.size := by have := (Array.getElem?_eq_some_iff.1 HI.out).1; omega
    by_cases hp : pos < s.size
    · have hne : restL s pos ≠ [] := by
        intro e
        have := congrArg List.length e
        have e2 : s.data.toList.length = s.size := Array.length_toList
        rw [restL, List.length_drop, e2] at this
        simp at this
        omega
      have hnx : ∀ ty, (Instr.next (.pointer (some ⟨it, 0, none⟩)) true ty).run Tryz.prog wr = _ := fun ty => Lib.run_next_any_at wr it s pos ty HI.out hp
      obtain ⟨RA, HV2⟩ := valid_step HV.out hne
      have hdec : Lib.decodeL (restL s pos) = Utf8.decode s pos := Lib.decodeL_drop s pos
      rw [hdec] at RA HV2
      have er := esc_rune RA
      obtain ⟨r, hr⟩ : ∃ r, Hid ((Utf8.decode s pos).1 = r) := ⟨_, hide rfl⟩
      obtain ⟨n, hn⟩ : ∃ n, Hid ((Utf8.decode s pos).2 = n) := ⟨_, hide rfl⟩
      simp only [hr.out, hn.out] at hnx RA HV2 er
      have hnle : pos + n ≤ s.size := by
        have h := RA.le
        have e2 : s.data.toList.length = s.size := Array.length_toList
        rw [restL, List.length_drop, e2] at h
        omega
      have hn1 := RA.pos
      have hrm := RA.most
      have HV3 := hide (show Lib.validD (restL s (pos + n)) = true by unfold restL at HV2 ⊢; rwa [List.drop_drop] at HV2)
      have W2 := hide (show WBs 50 B B (litTo s pos) (wr.iterAt it s (pos + n)) from HW.out.iterAt HI.out _)
      have I2 := hide (Lib.iterAt_heap wr it s pos (pos + n) HI.out)
      have K2 := hide (show Old w1 (wr.iterAt it s (pos + n)) from Lib.below_iterAt HK.out (k := it) (by rw [hB.out]; omega) s (pos + n))
      have M2 := hide (show MapTwo bm (wr.iterAt it s (pos + n)) from HM.out.same fun o ho => by rw [Lib.iterAt_other _ _ _ _ _ (by omega)]; exact ho)
      have hkey : keyOf Tryz.prog 21 (.int .i32 r) = some (.int .i32 r) := Maps.keyOf_int_mk Tryz.underlying21 (WalkArith.wf_i32 (by omega))
      have hsz : B ≤ (wr.iterAt it s (pos + n)).heap.size := by rw [Lib.iterAt_size]; exact hBw
      clear hdec RA HV2 HV hne
      have hhas := dTwo_has r
      rcases htw : twoOf r with _ | c0
      · rw [htw] at hhas er
        simp only [Option.isSome_none] at hhas
        by_cases hr32 : r < 32
        · simp only [if_pos hr32] at er
          have hr32' : (r : Int) < 32 := by omega
          have hand := and15 hr32
          go_wp2_with (at_lookup; refine wpList_lookup_own_ok_int _ rfl _ _ 139 rfl 21 5 .u8 (Maps.int_keyed Tryz.underlying21) Tryz.underlying139 Tryz.underlying5 (Tryz.zeroValue5 _) bm 7 dTwo rfl M2.out _ _ rfl hkey ?_; intro c hat hwf)
          refine region_later_tail 14 (by kernel_rfl) (by kernel_rfl) ?_
          simp only [List.take_succ_cons, List.take_zero, List.drop_succ_cons, List.drop_zero]
          repeat (go_big_quiet_step (fail))
          refine wpQuiet_nil ?_
          rintro wz ⟨⟨_, hwz⟩, rfl⟩
          have WZ := hide (WBs.old W2.out hwz)
          have IZ := hide (hwz.heap I2.out)
          have MZ := hide (M2.out.same fun o ho => hwz.heap ho)
          have KZ := hide (Old.trans K2.out hwz)
          have hszz : B ≤ wz.heap.size := Nat.le_trans hsz hwz.size
          have x1 := hex_at (k := r / 16) (by omega)
          have x2 := hex_at (k := r % 16) (by omega)
          go_wp2_with fail
          refine (wb_WriteString 50 (.inl rfl) B B (litTo s pos) ⟨#[92, 117, 48, 48, hexB (r / 16), hexB (r % 16)]⟩ _ WZ.out (by simp [ByteArray.size]; omega) hszz).mono ?_
          rintro e w5 ⟨rfl, h5, k5⟩
          have H5 := hide (show WBs 50 B B (litTo s (pos + n)) w5 by rw [litTo_next, er]; exact h5)
          have I5 := hide (k5.others _ _ IZ.out (by simp; omega) (by simp))
          have M5 := hide (show MapTwo bm w5 by
            obtain ⟨es, clock, hb, F, hs, hD⟩ := MZ.out
            exact ⟨es, clock, k5.others _ _ hb (by simp; omega) (by simp), F, hs, hD⟩)
          have K5 := hide (show Old w1 w5 from Below.trans KZ.out (by rw [hB.out]; exact k5.below))
          clear h5 k5
          go_wp2_with fail
          go_roundw
          case rel => exact ⟨pos + n, hnle, H5, I5, M5, HV3, K5⟩
          case measure =>
            simp only [World.iterPos, I5.out, HI.out]
            omega
        · simp only [if_neg hr32] at er
          have hr32' : ¬ (r : Int) < 32 := by omega
          go_wp2_with (at_lookup; refine wpList_lookup_own_ok_int _ rfl _ _ 139 rfl 21 5 .u8 (Maps.int_keyed Tryz.underlying21) Tryz.underlying139 Tryz.underlying5 (Tryz.zeroValue5 _) bm 7 dTwo rfl M2.out _ _ rfl hkey ?_; intro c hat hwf)
          refine (wb_WriteRune 50 (.inl rfl) B B (litTo s pos) r (by omega) (by omega) _ W2.out (by omega) hsz).mono ?_
          rintro e w5 ⟨⟨v5, rfl⟩, h5, k5⟩
          have H5 := hide (show WBs 50 B B (litTo s (pos + n)) w5 by rw [litTo_next, er]; exact h5)
          have I5 := hide (k5.others _ _ I2.out (by simp; omega) (by simp))
          have M5 := hide (show MapTwo bm w5 by
            obtain ⟨es, clock, hb, F, hs, hD⟩ := M2.out
            exact ⟨es, clock, k5.others _ _ hb (by simp; omega) (by simp), F, hs, hD⟩)
          have K5 := hide (show Old w1 w5 from Below.trans K2.out (by rw [hB.out]; exact k5.below))
          clear h5 k5
          go_wp2_with fail
          go_roundw
          case rel => exact ⟨pos + n, hnle, H5, I5, M5, HV3, K5⟩
          case measure =>
            simp only [World.iterPos, I5.out, HI.out]
            omega
      · rw [htw] at hhas er
        simp only [Option.isSome_some] at hhas
        have hc0 : c0 = 34 ∨ c0 = 92 ∨ c0 = 98 ∨ c0 = 102 ∨ c0 = 110 ∨ c0 = 114 ∨ c0 = 116 := by
          unfold twoOf at htw
          repeat' split at htw
          all_goals first | (injection htw with htw; omega) | cases htw
        rcases hc0 with rfl | rfl | rfl | rfl | rfl | rfl | rfl
        · have hat0 : dTwo.atKey (.int .i32 r) (.lit (.int .u8 0)) = .lit (.int .u8 34) := dTwo_at r _ htw
          clear htw
          have IZ := I2
          have MZ := M2
          have KZ := K2
          go_wp2_with (at_lookup; refine wpList_lookup_own_ok_int _ rfl _ _ 139 rfl 21 5 .u8 (Maps.int_keyed Tryz.underlying21) Tryz.underlying139 Tryz.underlying5 (Tryz.zeroValue5 _) bm 7 dTwo rfl M2.out _ _ rfl hkey ?_; intro c hat hwf; obtain rfl : c = 34 := (by rw [hat0] at hat; injection hat with h1; injection h1 with _ h2; exact h2.symm))
          refine (wb_WriteString 50 (.inl rfl) B B (litTo s pos) ⟨#[92, 34]⟩ _ W2.out (by simp [ByteArray.size]; omega) hsz).mono ?_
          rintro e w5 ⟨rfl, h5, k5⟩
          have H5 := hide (show WBs 50 B B (litTo s (pos + n)) w5 by rw [litTo_next, er]; exact h5)
          have I5 := hide (k5.others _ _ IZ.out (by simp; omega) (by simp))
          have M5 := hide (show MapTwo bm w5 by
            obtain ⟨es, clock, hb, F, hs, hD⟩ := MZ.out
            exact ⟨es, clock, k5.others _ _ hb (by simp; omega) (by simp), F, hs, hD⟩)
          have K5 := hide (show Old w1 w5 from Below.trans KZ.out (by rw [hB.out]; exact k5.below))
          clear h5 k5
          go_wp2_with fail
          go_roundw
          case rel => exact ⟨pos + n, hnle, H5, I5, M5, HV3, K5⟩
          case measure =>
            simp only [World.iterPos, I5.out, HI.out]
            omega
        · have hat0 : dTwo.atKey (.int .i32 r) (.lit (.int .u8 0)) = .lit (.int .u8 92) := dTwo_at r _ htw
          clear htw
          have IZ := I2
          have MZ := M2
          have KZ := K2
          go_wp2_with (at_lookup; refine wpList_lookup_own_ok_int _ rfl _ _ 139 rfl 21 5 .u8 (Maps.int_keyed Tryz.underlying21) Tryz.underlying139 Tryz.underlying5 (Tryz.zeroValue5 _) bm 7 dTwo rfl M2.out _ _ rfl hkey ?_; intro c hat hwf; obtain rfl : c = 92 := (by rw [hat0] at hat; injection hat with h1; injection h1 with _ h2; exact h2.symm))
          refine (wb_WriteString 50 (.inl rfl) B B (litTo s pos) ⟨#[92, 92]⟩ _ W2.out (by simp [ByteArray.size]; omega) hsz).mono ?_
          rintro e w5 ⟨rfl, h5, k5⟩
          have H5 := hide (show WBs 50 B B (litTo s (pos + n)) w5 by rw [litTo_next, er]; exact h5)
          have I5 := hide (k5.others _ _ IZ.out (by simp; omega) (by simp))
          have M5 := hide (show MapTwo bm w5 by
            obtain ⟨es, clock, hb, F, hs, hD⟩ := MZ.out
            exact ⟨es, clock, k5.others _ _ hb (by simp; omega) (by simp), F, hs, hD⟩)
          have K5 := hide (show Old w1 w5 from Below.trans KZ.out (by rw [hB.out]; exact k5.below))
          clear h5 k5
          go_wp2_with fail
          go_roundw
          case rel => exact ⟨pos + n, hnle, H5, I5, M5, HV3, K5⟩
          case measure =>
            simp only [World.iterPos, I5.out, HI.out]
            omega
        · have hat0 : dTwo.atKey (.int .i32 r) (.lit (.int .u8 0)) = .lit (.int .u8 98) := dTwo_at r _ htw
          clear htw
          have IZ := I2
          have MZ := M2
          have KZ := K2
          go_wp2_with (at_lookup; refine wpList_lookup_own_ok_int _ rfl _ _ 139 rfl 21 5 .u8 (Maps.int_keyed Tryz.underlying21) Tryz.underlying139 Tryz.underlying5 (Tryz.zeroValue5 _) bm 7 dTwo rfl M2.out _ _ rfl hkey ?_; intro c hat hwf; obtain rfl : c = 98 := (by rw [hat0] at hat; injection hat with h1; injection h1 with _ h2; exact h2.symm))
          refine (wb_WriteString 50 (.inl rfl) B B (litTo s pos) ⟨#[92, 98]⟩ _ W2.out (by simp [ByteArray.size]; omega) hsz).mono ?_
          rintro e w5 ⟨rfl, h5, k5⟩
          have H5 := hide (show WBs 50 B B (litTo s (pos + n)) w5 by rw [litTo_next, er]; exact h5)
          have I5 := hide (k5.others _ _ IZ.out (by simp; omega) (by simp))
          have M5 := hide (show MapTwo bm w5 by
            obtain ⟨es, clock, hb, F, hs, hD⟩ := MZ.out
            exact ⟨es, clock, k5.others _ _ hb (by simp; omega) (by simp), F, hs, hD⟩)
          have K5 := hide (show Old w1 w5 from Below.trans KZ.out (by rw [hB.out]; exact k5.below))
          clear h5 k5
          go_wp2_with fail
          go_roundw
          case rel => exact ⟨pos + n, hnle, H5, I5, M5, HV3, K5⟩
          case measure =>
            simp only [World.iterPos, I5.out, HI.out]
            omega
        · have hat0 : dTwo.atKey (.int .i32 r) (.lit (.int .u8 0)) = .lit (.int .u8 102) := dTwo_at r _ htw
          clear htw
          have IZ := I2
          have MZ := M2
          have KZ := K2
          go_wp2_with (at_lookup; refine wpList_lookup_own_ok_int _ rfl _ _ 139 rfl 21 5 .u8 (Maps.int_keyed Tryz.underlying21) Tryz.underlying139 Tryz.underlying5 (Tryz.zeroValue5 _) bm 7 dTwo rfl M2.out _ _ rfl hkey ?_; intro c hat hwf; obtain rfl : c = 102 := (by rw [hat0] at hat; injection hat with h1; injection h1 with _ h2; exact h2.symm))
          refine (wb_WriteString 50 (.inl rfl) B B (litTo s pos) ⟨#[92, 102]⟩ _ W2.out (by simp [ByteArray.size]; omega) hsz).mono ?_
          rintro e w5 ⟨rfl, h5, k5⟩
          have H5 := hide (show WBs 50 B B (litTo s (pos + n)) w5 by rw [litTo_next, er]; exact h5)
          have I5 := hide (k5.others _ _ IZ.out (by simp; omega) (by simp))
          have M5 := hide (show MapTwo bm w5 by
            obtain ⟨es, clock, hb, F, hs, hD⟩ := MZ.out
            exact ⟨es, clock, k5.others _ _ hb (by simp; omega) (by simp), F, hs, hD⟩)
          have K5 := hide (show Old w1 w5 from Below.trans KZ.out (by rw [hB.out]; exact k5.below))
          clear h5 k5
          go_wp2_with fail
          go_roundw
          case rel => exact ⟨pos + n, hnle, H5, I5, M5, HV3, K5⟩
          case measure =>
            simp only [World.iterPos, I5.out, HI.out]
            omega
        · have hat0 : dTwo.atKey (.int .i32 r) (.lit (.int .u8 0)) = .lit (.int .u8 110) := dTwo_at r _ htw
          clear htw
          have IZ := I2
          have MZ := M2
          have KZ := K2
          go_wp2_with (at_lookup; refine wpList_lookup_own_ok_int _ rfl _ _ 139 rfl 21 5 .u8 (Maps.int_keyed Tryz.underlying21) Tryz.underlying139 Tryz.underlying5 (Tryz.zeroValue5 _) bm 7 dTwo rfl M2.out _ _ rfl hkey ?_; intro c hat hwf; obtain rfl : c = 110 := (by rw [hat0] at hat; injection hat with h1; injection h1 with _ h2; exact h2.symm))
          refine (wb_WriteString 50 (.inl rfl) B B (litTo s pos) ⟨#[92, 110]⟩ _ W2.out (by simp [ByteArray.size]; omega) hsz).mono ?_
          rintro e w5 ⟨rfl, h5, k5⟩
          have H5 := hide (show WBs 50 B B (litTo s (pos + n)) w5 by rw [litTo_next, er]; exact h5)
          have I5 := hide (k5.others _ _ IZ.out (by simp; omega) (by simp))
          have M5 := hide (show MapTwo bm w5 by
            obtain ⟨es, clock, hb, F, hs, hD⟩ := MZ.out
            exact ⟨es, clock, k5.others _ _ hb (by simp; omega) (by simp), F, hs, hD⟩)
          have K5 := hide (show Old w1 w5 from Below.trans KZ.out (by rw [hB.out]; exact k5.below))
          clear h5 k5
          go_wp2_with fail
          go_roundw
          case rel => exact ⟨pos + n, hnle, H5, I5, M5, HV3, K5⟩
          case measure =>
            simp only [World.iterPos, I5.out, HI.out]
            omega
        · have hat0 : dTwo.atKey (.int .i32 r) (.lit (.int .u8 0)) = .lit (.int .u8 114) := dTwo_at r _ htw
          clear htw
          have IZ := I2
          have MZ := M2
          have KZ := K2
          go_wp2_with (at_lookup; refine wpList_lookup_own_ok_int _ rfl _ _ 139 rfl 21 5 .u8 (Maps.int_keyed Tryz.underlying21) Tryz.underlying139 Tryz.underlying5 (Tryz.zeroValue5 _) bm 7 dTwo rfl M2.out _ _ rfl hkey ?_; intro c hat hwf; obtain rfl : c = 114 := (by rw [hat0] at hat; injection hat with h1; injection h1 with _ h2; exact h2.symm))
          refine (wb_WriteString 50 (.inl rfl) B B (litTo s pos) ⟨#[92, 114]⟩ _ W2.out (by simp [ByteArray.size]; omega) hsz).mono ?_
          rintro e w5 ⟨rfl, h5, k5⟩
          have H5 := hide (show WBs 50 B B (litTo s (pos + n)) w5 by rw [litTo_next, er]; exact h5)
          have I5 := hide (k5.others _ _ IZ.out (by simp; omega) (by simp))
          have M5 := hide (show MapTwo bm w5 by
            obtain ⟨es, clock, hb, F, hs, hD⟩ := MZ.out
            exact ⟨es, clock, k5.others _ _ hb (by simp; omega) (by simp), F, hs, hD⟩)
          have K5 := hide (show Old w1 w5 from Below.trans KZ.out (by rw [hB.out]; exact k5.below))
          clear h5 k5
          go_wp2_with fail
          go_roundw
          case rel => exact ⟨pos + n, hnle, H5, I5, M5, HV3, K5⟩
          case measure =>
            simp only [World.iterPos, I5.out, HI.out]
            omega
        · have hat0 : dTwo.atKey (.int .i32 r) (.lit (.int .u8 0)) = .lit (.int .u8 116) := dTwo_at r _ htw
          clear htw
          have IZ := I2
          have MZ := M2
          have KZ := K2
          go_wp2_with (at_lookup; refine wpList_lookup_own_ok_int _ rfl _ _ 139 rfl 21 5 .u8 (Maps.int_keyed Tryz.underlying21) Tryz.underlying139 Tryz.underlying5 (Tryz.zeroValue5 _) bm 7 dTwo rfl M2.out _ _ rfl hkey ?_; intro c hat hwf; obtain rfl : c = 116 := (by rw [hat0] at hat; injection hat with h1; injection h1 with _ h2; exact h2.symm))
          refine (wb_WriteString 50 (.inl rfl) B B (litTo s pos) ⟨#[92, 116]⟩ _ W2.out (by simp [ByteArray.size]; omega) hsz).mono ?_
          rintro e w5 ⟨rfl, h5, k5⟩
          have H5 := hide (show WBs 50 B B (litTo s (pos + n)) w5 by rw [litTo_next, er]; exact h5)
          have I5 := hide (k5.others _ _ IZ.out (by simp; omega) (by simp))
          have M5 := hide (show MapTwo bm w5 by
            obtain ⟨es, clock, hb, F, hs, hD⟩ := MZ.out
            exact ⟨es, clock, k5.others _ _ hb (by simp; omega) (by simp), F, hs, hD⟩)
          have K5 := hide (show Old w1 w5 from Below.trans KZ.out (by rw [hB.out]; exact k5.below))
          clear h5 k5
          go_wp2_with fail
          go_roundw
          case rel => exact ⟨pos + n, hnle, H5, I5, M5, HV3, K5⟩
          case measure =>
            simp only [World.iterPos, I5.out, HI.out]
            omega
    · have hnx : ∀ ty, (Instr.next (.pointer (some ⟨it, 0, none⟩)) true ty).run Tryz.prog wr = _ := fun ty => Lib.run_next_end_at wr it s pos ty HI.out hp
      have hps : pos = s.size := by omega
      have hq := litTo_all s
      rw [← hps] at hq
      clear hps
      have hql := (quoteL_len s).2
      go_wp2_with fail
      refine (wb_WriteByte 50 (.inl rfl) B B (litTo s pos) 34 _ HW.out (by omega) hBw).mono ?_
      rintro e w5 ⟨rfl, h5, k5⟩
      rw [hq] at h5
      go_wp2_with fail
      refine (wb_String 50 B B (quoteL s) _ h5 (by simp [quoteL])).mono ?_
      rintro e w6 ⟨rfl, h6, k6⟩
      have OF := hide (Old.trans O1.out (Below.trans HK.out (by rw [hB.out]; exact k5.below.trans k6.below)))
      clear h5 k5 h6 k6
      go_wp2_with fail
      go_ret2
      exact ⟨rfl, OF.out⟩
set_option maxRecDepth 100000 in
theorem quote_bad (s : ByteArray) (w : World) (hs : s.size ≤ 17592186044416) (hv : vU s = false) (hT : Tabs w) :
    Calls Tryz.prog 59 #[.string s] w fun e w' => e = .returned (.tuple #[.string ⟨#[]⟩, .int .i64 40]) ∧ Old w w' := by
  have CV := utf_Valid s w (by omega) hT
  rw [hv] at CV
  clear hT hv
  go_enter Tryz.func59, Tryz.ntmps59
  go_wp2_with fail
  refine CV.mono ?_
  rintro e w1 ⟨rfl, o1⟩
  have O1 := hide o1
  clear o1 CV
  go_wp2_with fail
  go_ret2
  exact ⟨rfl, O1.out⟩
end Go.Proofs.YtmolmphbhdbcaaaGreatDoor
