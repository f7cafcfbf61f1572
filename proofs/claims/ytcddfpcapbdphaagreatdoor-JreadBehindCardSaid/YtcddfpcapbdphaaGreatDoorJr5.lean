/- The reader of a text: a number. -/
import Derived.Test.YtcddfpcapbdphaaGreatDoorJr3
import Derived.Test.YtcddfpcapbdphaaGreatDoorNumL
import Derived.Test.YtcddfpcapbdphaaGreatDoorLaid
import Derived.Shelf.Strconv.ErrVarParseInt
import Derived.Lib.SmallJoins
namespace Go.Proofs.YtcddfpcapbdphaaGreatDoor
open Go.RowKit

/-- the two errors of strconv are there -/
def Errs (w : World) : Prop := (∃ tp p, w.var? Tryz.prog "strconv.ErrSyntax" = some #[.iface tp p]) ∧ ∃ tp p, w.var? Tryz.prog "strconv.ErrRange" = some #[.iface tp p]
theorem Errs.old {w w' : World} (h : Errs w) (o : Old w w') : Errs w' := by
  obtain ⟨⟨t1, p1, h1⟩, t2, p2, h2⟩ := h
  exact ⟨⟨t1, p1, Joins.var_stays (g := 4) (by kernel_rfl) h1 o (Nat.le_refl _)⟩, t2, p2, Joins.var_stays (g := 5) (by kernel_rfl) h2 o (Nat.le_refl _)⟩
/-- what a reader needs of the library's tables, as long as the elder blocks stand -/
def Ever (base : Nat) (w : World) : Prop := ∀ w', RowKit.Below base w w' → Errs w' ∧ Tabs w'
theorem Ever.next {base : Nat} {w w1 : World} (h : Ever base w) (b : RowKit.Below base w w1) : Ever base w1 := fun w' k => h w' (b.trans k)
/-- what ParseInt hands back -/
def ParsedI (T : ByteArray) (e : Ending) : Prop :=
  match Lib.parseIntB 64 T.data.toList with
  | .ok v => e = .returned (.tuple #[.int .i64 v, .nilIface])
  | _ => ∃ v tp p, e = .returned (.tuple #[.int .i64 v, .iface tp p])
theorem parse_run (T : ByteArray) (w : World) (hT : T.size ≤ 1073741824) (hE : Errs w) :
    Calls Tryz.prog 72 #[.string T, .int .i64 10, .int .i64 64] w fun e w' => ParsedI T e ∧ Old w w' := by
  obtain ⟨⟨t1, p1, h1⟩, t2, p2, h2⟩ := hE
  unfold ParsedI
  rcases h : Lib.parseIntB 64 T.data.toList with v | _ | _
  · refine (Tryz.strconv_ParseInt_10_at64_ok T (by omega) v h w).mono ?_
    rintro e w' ⟨rfl, k⟩
    refine ⟨rfl, ?_⟩
    rcases k with rfl | ⟨t, rfl⟩
    · exact Old.refl _
    · exact Lib.bytesWorld_below ..
  · refine (Any.strconv_ParseInt_10_at64_syntax_var Tryz.laysC174 T (by omega) h t1 p1 w h1).mono ?_
    rintro e w' ⟨N, rfl, _, _, k⟩
    exact ⟨⟨_, _, _, rfl⟩, k⟩
  · refine (Tryz.strconv_ParseInt_10_at64_range_var T (by omega) h t2 p2 w h2).mono ?_
    rintro e w' ⟨N, rfl, _, _, k⟩
    exact ⟨⟨_, _, _, rfl⟩, k⟩
/-- does that byte stand next? (a constant) -/
theorem ask_run (base rb : Nat) (s : ByteArray) (n : Nat) (l : List UInt8) (out : List Nd) (H : List Jh) (key : ByteArray) (e bad : Int) (w : World) (h : JR base rb s n out H key e bad w) (ha : JAt s n l)
    (c : UInt8) (z : Int) (hz : z = c.toNat) (B : Bool) (hB : nowB [c] l = B) (g : Nat) (hg : w.heap.size = g) :
    Calls Tryz.prog 18 #[.pointer (some ⟨rb, 0, none⟩), .slice (some ⟨g, 0, none⟩) 1 1] (w.alloc (.cells #[.int .u8 z] 5)) fun x w' => x = .returned (.bool B) ∧ Old w w' := by
  subst hz hg
  have o := Old.alloc (Old.refl w) (.cells #[.int .u8 (c.toNat : Int)] 5)
  exact (now_run base rb s n l out H key e bad (oneW w c) (h.old o) ha _ [c] (sl_one w c) (by simp) B hB).mono fun e w' k => ⟨k.1, Old.trans o k.2⟩
theorem ask2_run (base rb : Nat) (s : ByteArray) (n : Nat) (l : List UInt8) (out : List Nd) (H : List Jh) (key : ByteArray) (e bad : Int) (w : World) (h : JR base rb s n out H key e bad w) (ha : JAt s n l)
    (c d : UInt8) (z y : Int) (hz : z = c.toNat) (hy : y = d.toNat) (B : Bool) (hB : nowB [c, d] l = B) (g : Nat) (hg : w.heap.size = g) :
    Calls Tryz.prog 18 #[.pointer (some ⟨rb, 0, none⟩), .slice (some ⟨g, 0, none⟩) 2 2] (w.alloc (.cells #[.int .u8 z, .int .u8 y] 5)) fun x w' => x = .returned (.bool B) ∧ Old w w' := by
  subst hz hy hg
  have o := Old.alloc (Old.refl w) (.cells #[.int .u8 (c.toNat : Int), .int .u8 (d.toNat : Int)] 5)
  exact (now_run base rb s n l out H key e bad _ (h.old o) ha _ [c, d] (sl_bytes w [c, d] w.heap.size rfl (by simp)) (by simp) B hB).mono fun e w' k => ⟨k.1, Old.trans o k.2⟩
theorem now_yes {x : UInt8} {l : List UInt8} (h : nowB [x] l = true) : ∃ r, l = x :: r := by
  cases l with
  | nil => cases h
  | cons c r =>
    simp only [nowB, List.mem_singleton, decide_eq_true_eq] at h
    exact ⟨r, by rw [h]⟩
theorem now_no {x : UInt8} {l : List UInt8} (h : nowB [x] l = false) : opt1 x l = (false, l) := by
  cases l with
  | nil => rfl
  | cons c r =>
    simp only [nowB, List.mem_singleton, decide_eq_false_iff_not] at h
    simp only [opt1]
    rw [if_neg h]
theorem opt1_at (x : UInt8) (r : List UInt8) : opt1 x (x :: r) = (true, r) := by simp [opt1]
theorem now2_yes {x y : UInt8} {l : List UInt8} (h : nowB [x, y] l = true) : ∃ c r, l = c :: r ∧ opt2 x y l = (true, r) := by
  cases l with
  | nil => cases h
  | cons c r =>
    simp only [nowB, List.mem_cons, List.not_mem_nil, or_false, decide_eq_true_eq] at h
    refine ⟨c, r, rfl, ?_⟩
    simp only [opt2]
    rw [if_pos h]
theorem now2_no {x y : UInt8} {l : List UInt8} (h : nowB [x, y] l = false) : opt2 x y l = (false, l) := by
  cases l with
  | nil => rfl
  | cons c r =>
    simp only [nowB, List.mem_cons, List.not_mem_nil, or_false, decide_eq_false_iff_not] at h
    simp only [opt2]
    rw [if_neg h]
/-- what a part that reads a number hands back -/
def JNum (base rb : Nat) (s : ByteArray) (out : List Nd) (H : List Jh) (key : ByteArray) (e bad : Int) (W : Except Bad (Int × List UInt8)) (y : Ending) (w' : World) : Prop :=
  match W with
  | .ok (v, r) => y = .returned (.tuple #[.int .i64 v, .bool true]) ∧ JOk base rb s out H key e bad r w'
  | .error b => y = .returned (.tuple #[.int .i64 0, .bool false]) ∧ JNo base rb s b w'
theorem numV_1 {l : List UInt8} {b : Bad} (h1 : wholeV (opt1 45 l).2 = .error b) : numV l = .error b := by simp only [numV, h1]
theorem numV_2 {l ds l2 : List UInt8} {b : Bad} (h1 : wholeV (opt1 45 l).2 = .ok (ds, l2)) (h2 : fracV l2 = .error b) : numV l = .error b := by simp only [numV, h1, h2]
theorem numV_3 {l ds l2 l3 : List UInt8} {f : Bool} {b : Bad} (h1 : wholeV (opt1 45 l).2 = .ok (ds, l2)) (h2 : fracV l2 = .ok (f, l3)) (h3 : expV l3 = .error b) : numV l = .error b := by simp only [numV, h1, h2, h3]
theorem numV_no {l ds l2 l3 l4 : List UInt8} {f g : Bool} (h1 : wholeV (opt1 45 l).2 = .ok (ds, l2)) (h2 : fracV l2 = .ok (f, l3)) (h3 : expV l3 = .ok (g, l4)) (h : (!f && !g) = false) : numV l = .error (l, 73) := by
  simp only [numV, h1, h2, h3]
  rw [if_pos]
  cases f <;> cases g <;> simp at h ⊢
/-- a text's cut, as its bytes -/
theorem cut_list {s : ByteArray} {n m : Nat} {l r t : List UInt8} (h1 : JAt s n l) (h2 : JAt s m r) (h : l = t ++ r) : (s.extract n m).data.toList = t := by
  have e : (s.extract n m).data.toList = (s.data.toList.drop n).take (m - n) := by
    rw [ByteArray.data_extract, Array.toList_extract]
  rw [e, h1.rest, h]
  have e1 := h1.len
  have e2 := h2.len
  rw [h, List.length_append] at e1
  exact List.take_left' (by omega)
set_option maxRecDepth 100000 in
set_option maxHeartbeats 2000000 in
theorem jnum_runB (base rb : Nat) (s : ByteArray) (n : Nat) (l : List UInt8) (out : List Nd) (H : List Jh) (key : ByteArray) (e bad : Int) (w : World) (h : JR base rb s n out H key e bad w) (ha : JAt s n l) (hs : s.size ≤ 1073741824) (hE : Ever base w) :
    Calls Tryz.prog 43 #[.pointer (some ⟨rb, 0, none⟩)] w fun y w' => JNum base rb s out H key e bad (numV l) y w' ∧ Bel base rb w w' := by
  have HJ := hide h
  have HA := hide ha
  have HE := hide hE
  have hbw := hide (show base ≤ w.heap.size from Nat.le_trans h.low (Nat.le_of_lt h.lt))
  obtain ⟨ov0, hv0, ⟨_, x10, _, _, _, _, _⟩, hf0, _, _⟩ := h.cells
  have f1 := hf0 1
  have hn := HA.out.le
  clear h ha hE hf0
  obtain ⟨B, hB⟩ : ∃ B, Hid (nowB [45] l = B) := ⟨_, hide rfl⟩
  obtain ⟨l1, hl1⟩ : ∃ l1, Hid ((opt1 45 l).2 = l1) := ⟨_, hide rfl⟩
  have C1 := hide (ask_run base rb s n l out H key e bad w HJ.out HA.out 45 45 (by decide) B hB.out _ rfl)
  go_enter Tryz.func43, Tryz.ntmps43
  go_wp2_with fail
  refine C1.out.mono ?_
  rintro y w1 ⟨rfl, o1⟩
  have J1 := hide (HJ.out.old o1)
  have B1 := hide (Bel.ofOld (rb := rb) o1 hbw.out)
  have O1 := hide o1
  have x1 : w1.cell? ⟨rb, 1, none⟩ = some (.int .i64 (n : Int)) := o1.cell x10
  have f2 : w1.frozen? ⟨rb, 1, none⟩ = false := by
    obtain ⟨_, _, _, hf, _⟩ := J1.out.cells
    exact hf 1
  clear o1 f1 x10 C1
  go_upto_if 14 with fail
  go_cut [] (fun wc => Hid (JOk base rb s out H key e bad l1 wc) ∧ Hid (Bel base rb w wc))
  case first =>
    cases B
    · have FIN := hide (show JOk base rb s out H key e bad l1 w1 from ⟨n, by rw [← hl1.out, now_no hB.out]; exact HA.out, J1.out⟩)
      go_wp2_with fail
      go_meet
      exact ⟨FIN, B1⟩
    · have FIN := hide (show JOk base rb s out H key e bad l1 (w1.setCell ⟨rb, 1, none⟩ (.int .i64 ((n : Int) + 1))) from by
        obtain ⟨r, hr⟩ := now_yes hB.out
        have h2 := HA.out
        rw [hr] at h2
        exact ⟨n + 1, by rw [← hl1.out, hr, opt1_at]; exact h2.next, J1.out.setAt (n + 1) (by simp)⟩)
      have B2 := hide (B1.out.trans (J1.out.keepB 1 (.int .i64 ((n : Int) + 1)) (by decide)))
      go_wp2_with fail
      go_meet
      exact ⟨FIN, B2⟩
  case rest =>
    obtain ⟨K1, B2⟩ := hcut
    clear x1 f2
    obtain ⟨m1, a1, j1⟩ := K1.out
    have A1 := hide a1
    have JA := hide j1
    have hb2 := hide (Nat.le_trans hbw.out B2.out.size)
    obtain ⟨B', hB'⟩ : ∃ B', Hid (nowB [48] l1 = B') := ⟨_, hide rfl⟩
    have C2 := hide (ask_run base rb s m1 l1 out H key e bad wc j1 a1 48 48 (by decide) B' hB'.out _ rfl)
    clear a1 j1 J1 B1 O1 hB B
    go_wp2_with fail
    refine C2.out.mono ?_
    rintro y w2 ⟨rfl, o2⟩
    have J2 := hide (JA.out.old o2)
    have B3 := hide (B2.out.trans (Bel.ofOld (rb := rb) o2 hb2.out))
    obtain ⟨_, _, ⟨_, x2, _, _, _, _, _⟩, hf2, _, _⟩ := J2.out.cells
    have f2 := hf2 1
    have hm1 := A1.out.le
    clear o2 hf2 C2
    go_upto_if 24 with fail
    go_cut [] (fun wd => ∃ ds l2, Hid (wholeV l1 = .ok (ds, l2)) ∧ Hid (JOk base rb s out H key e bad l2 wd) ∧ Hid (Bel base rb w wd))
    case first =>
      cases B'
      · have C3 := hide (digits_runB base rb s m1 l1 out H key e bad w2 J2.out A1.out hs)
        have WD := hide (show wholeV l1 = match digsW l1 with | .error b => .error b | .ok r => .ok (digsOf l1, r) by
          unfold wholeV
          rw [now_no hB'.out]
          exact digsW_eq l1)
        obtain ⟨D, hD⟩ : ∃ D, Hid (digsW l1 = D) := ⟨_, hide rfl⟩
        rw [hD.out] at C3 WD
        clear hD
        cases D with
        | error b =>
          go_wp2_with fail
          refine C3.out.mono ?_
          rintro y w3 ⟨⟨rfl, k3⟩, b3⟩
          have K3 := hide k3
          have B4 := hide (B3.out.trans b3)
          clear k3 b3
          go_wp2_with fail
          go_ret2
          refine ⟨?_, B4.out⟩
          rw [numV_1 (by rw [hl1.out]; exact WD.out)]
          exact ⟨rfl, K3.out⟩
        | ok r =>
          go_wp2_with fail
          refine C3.out.mono ?_
          rintro y w3 ⟨⟨rfl, k3⟩, b3⟩
          have K3 := hide k3
          have B4 := hide (B3.out.trans b3)
          clear k3 b3
          go_wp2_with fail
          go_meet
          exact ⟨_, r, WD, K3, B4⟩
      · have FIN := hide (show ∃ ds l2, wholeV l1 = .ok (ds, l2) ∧ JOk base rb s out H key e bad l2 (w2.setCell ⟨rb, 1, none⟩ (.int .i64 ((m1 : Int) + 1))) from by
          obtain ⟨r, hr⟩ := now_yes hB'.out
          have h2 := A1.out
          rw [hr] at h2
          exact ⟨[48], r, by rw [hr]; unfold wholeV; rw [opt1_at], m1 + 1, h2.next, J2.out.setAt (m1 + 1) (by simp)⟩)
        have B4 := hide (B3.out.trans (J2.out.keepB 1 (.int .i64 ((m1 : Int) + 1)) (by decide)))
        go_wp2_with fail
        go_meet
        obtain ⟨ds, l2, p1, p2⟩ := FIN.out
        exact ⟨ds, l2, hide p1, hide p2, B4⟩
    case rest =>
      obtain ⟨ds, l2, WH, K2, B4⟩ := hcut
      clear x2 f2 J2 B3 B2 hb2 A1 JA hB' hm1
      obtain ⟨m2, a2, j2⟩ := K2.out
      have A2 := hide a2
      have JA := hide j2
      have hb2 := hide (Nat.le_trans hbw.out B4.out.size)
      obtain ⟨B2, hB2⟩ : ∃ B, Hid (nowB [46] l2 = B) := ⟨_, hide rfl⟩
      have C2 := hide (ask_run base rb s m2 l2 out H key e bad wc j2 a2 46 46 (by decide) B2 hB2.out _ rfl)
      clear a2 j2
      go_wp2_with fail
      refine C2.out.mono ?_
      rintro y w3 ⟨rfl, o2⟩
      have J2 := hide (JA.out.old o2)
      have B3 := hide (B4.out.trans (Bel.ofOld (rb := rb) o2 hb2.out))
      obtain ⟨_, _, ⟨_, x2, _, _, _, _, _⟩, hf2, _, _⟩ := J2.out.cells
      have f2 := hf2 1
      have hm2 := A2.out.le
      clear o2 hf2 C2
      go_upto_if 37 with fail
      go_cut [5] (fun bv we => ∃ f l3, bv = .bool (!f) ∧ Hid (fracV l2 = .ok (f, l3)) ∧ Hid (JOk base rb s out H key e bad l3 we) ∧ Hid (Bel base rb w we))
      case first =>
        cases B2
        · have FR := hide (show fracV l2 = .ok (false, l2) by unfold fracV; rw [now_no hB2.out])
          have KK := hide (show JOk base rb s out H key e bad l2 w3 from ⟨m2, A2.out, J2.out⟩)
          go_wp2_with fail
          go_meet
          exact ⟨false, l2, rfl, FR, KK, B3⟩
        · obtain ⟨r, hr⟩ := now_yes hB2.out
          have h2 := A2.out
          rw [hr] at h2
          have NX := hide h2.next
          have JN := hide (J2.out.setAt (m2 + 1) (z := (m2 : Int) + 1) (by simp))
          have BN := hide (B3.out.trans (J2.out.keepB 1 (.int .i64 ((m2 : Int) + 1)) (by decide)))
          have C3 := hide (digits_runB base rb s (m2 + 1) r out H key e bad _ JN.out NX.out hs)
          have WD := hide (show fracV l2 = match digsW r with | .error b => .error b | .ok r => .ok (true, r) by
            unfold fracV
            rw [hr, opt1_at]
            simp only [digsW_eq r]
            cases digsW r <;> rfl)
          obtain ⟨D, hD⟩ : ∃ D, Hid (digsW r = D) := ⟨_, hide rfl⟩
          rw [hD.out] at C3 WD
          clear hD hr h2
          cases D with
          | error b =>
            go_wp2_with fail
            refine C3.out.mono ?_
            rintro y w4 ⟨⟨rfl, k3⟩, b3⟩
            have K3 := hide k3
            have B5 := hide (BN.out.trans b3)
            clear k3 b3
            go_wp2_with fail
            go_ret2
            refine ⟨?_, B5.out⟩
            rw [numV_2 (by rw [hl1.out]; exact WH.out) WD.out]
            exact ⟨rfl, K3.out⟩
          | ok r2 =>
            go_wp2_with fail
            refine C3.out.mono ?_
            rintro y w4 ⟨⟨rfl, k3⟩, b3⟩
            have K3 := hide k3
            have B5 := hide (BN.out.trans b3)
            clear k3 b3
            go_wp2_with fail
            go_meet
            exact ⟨true, r2, rfl, WD, K3, B5⟩
      case rest =>
        obtain ⟨f, l3, rfl, FR, K3, B5⟩ := hcut
        clear x2 f2 J2 B3 B4 hb2 A2 JA hB2 hm2
        obtain ⟨m3, a2, j2⟩ := K3.out
        have A2 := hide a2
        have JA := hide j2
        have hb2 := hide (Nat.le_trans hbw.out B5.out.size)
        obtain ⟨B3, hB3⟩ : ∃ B, Hid (nowB [101, 69] l3 = B) := ⟨_, hide rfl⟩
        have C2 := hide (ask2_run base rb s m3 l3 out H key e bad wc j2 a2 101 69 101 69 (by decide) (by decide) B3 hB3.out _ rfl)
        clear a2 j2
        go_wp2_with fail
        refine C2.out.mono ?_
        rintro y w4 ⟨rfl, o2⟩
        have J2 := hide (JA.out.old o2)
        have B6 := hide (B5.out.trans (Bel.ofOld (rb := rb) o2 hb2.out))
        have hb4 := hide (Nat.le_trans hbw.out B6.out.size)
        obtain ⟨_, _, ⟨_, x2, _, _, _, _, _⟩, hf2, _, _⟩ := J2.out.cells
        have f2 := hf2 1
        have hm2 := A2.out.le
        clear o2 hf2 C2
        go_upto_if 50 with fail
        go_cut [5] (fun bv wf => ∃ g l4, bv = .bool (!f && !g) ∧ Hid (expV l3 = .ok (g, l4)) ∧ Hid (JOk base rb s out H key e bad l4 wf) ∧ Hid (Bel base rb w wf))
        case first =>
          cases B3
          · have EX := hide (show expV l3 = .ok (false, l3) by unfold expV; rw [now2_no hB3.out])
            have KK := hide (show JOk base rb s out H key e bad l3 w4 from ⟨m3, A2.out, J2.out⟩)
            go_wp2_with fail
            go_meet
            exact ⟨false, l3, by simp, EX, KK, B6⟩
          · obtain ⟨c0, r, hr, ho⟩ := now2_yes hB3.out
            have h2 := A2.out
            rw [hr] at h2
            have NX := hide h2.next
            have JN := hide (J2.out.setAt (m3 + 1) (z := (m3 : Int) + 1) (by simp))
            have BN := hide (B6.out.trans (J2.out.keepB 1 (.int .i64 ((m3 : Int) + 1)) (by decide)))
            have hb5 := hide (Nat.le_trans hbw.out BN.out.size)
            obtain ⟨B7, hB7⟩ : ∃ B, Hid (nowB [43, 45] r = B) := ⟨_, hide rfl⟩
            have C4 := hide (ask2_run base rb s (m3 + 1) r out H key e bad _ JN.out NX.out 43 45 43 45 (by decide) (by decide) B7 hB7.out w4.heap.size (by simp [World.setCell]))
            have OO := hide ho
            clear hr h2 ho
            go_wp2_with fail
            refine C4.out.mono ?_
            rintro y w5 ⟨rfl, o2⟩
            have J5 := hide (JN.out.old o2)
            have B8 := hide (BN.out.trans (Bel.ofOld (rb := rb) o2 hb5.out))
            obtain ⟨_, _, ⟨_, x5, _, _, _, _, _⟩, hf5, _, _⟩ := J5.out.cells
            have f5 := hf5 1
            have hm5 := NX.out.le
            clear o2 hf5 C4
            go_upto_if 60 with fail
            go_cut [] (fun wg => Hid (JOk base rb s out H key e bad (opt2 43 45 r).2 wg) ∧ Hid (Bel base rb w wg))
            case first =>
              cases B7
              · have KK := hide (show JOk base rb s out H key e bad (opt2 43 45 r).2 w5 from ⟨m3 + 1, by rw [now2_no hB7.out]; exact NX.out, J5.out⟩)
                go_wp2_with fail
                go_meet
                exact ⟨KK, B8⟩
              · have KK := hide (show JOk base rb s out H key e bad (opt2 43 45 r).2 (w5.setCell ⟨rb, 1, none⟩ (.int .i64 (((m3 + 1 : Nat) : Int) + 1))) from by
                  obtain ⟨c1, r1, hr1, ho1⟩ := now2_yes hB7.out
                  have h2 := NX.out
                  rw [hr1] at h2
                  exact ⟨m3 + 1 + 1, by rw [ho1]; exact h2.next, J5.out.setAt (m3 + 1 + 1) (by simp)⟩)
                have B9 := hide (B8.out.trans (J5.out.keepB 1 (.int .i64 (((m3 + 1 : Nat) : Int) + 1)) (by decide)))
                go_wp2_with fail
                go_meet
                exact ⟨KK, B9⟩
            case rest =>
              obtain ⟨K4, B9⟩ := hcut
              obtain ⟨m6, a6, j6⟩ := K4.out
              clear x5 f5 hm5
              have C3 := hide (digits_runB base rb s m6 _ out H key e bad _ j6 a6 hs)
              have WD := hide (show expV l3 = match digsW (opt2 43 45 r).2 with | .error b => .error b | .ok r => .ok (true, r) by
                unfold expV
                rw [OO.out]
                simp only [digsW_eq]
                cases digsW (opt2 43 45 r).2 <;> rfl)
              obtain ⟨D, hD⟩ : ∃ D, Hid (digsW (opt2 43 45 r).2 = D) := ⟨_, hide rfl⟩
              rw [hD.out] at C3 WD
              clear hD a6 j6
              cases D with
              | error b =>
                go_wp2_with fail
                refine C3.out.mono ?_
                rintro y w7 ⟨⟨rfl, k3⟩, b3⟩
                have K7 := hide k3
                have B10 := hide (B9.out.trans b3)
                clear k3 b3
                go_wp2_with fail
                go_ret2
                refine ⟨?_, B10.out⟩
                rw [numV_3 (by rw [hl1.out]; exact WH.out) FR.out WD.out]
                exact ⟨rfl, K7.out⟩
              | ok r2 =>
                go_wp2_with fail
                refine C3.out.mono ?_
                rintro y w7 ⟨⟨rfl, k3⟩, b3⟩
                have K7 := hide k3
                have B10 := hide (B9.out.trans b3)
                clear k3 b3
                go_wp2_with fail
                go_meet
                exact ⟨true, r2, by simp, WD, K7, B10⟩
        case rest =>
          obtain ⟨g, l4, rfl, EX, K4, B7⟩ := hcut
          obtain ⟨m4, a4, j4⟩ := K4.out
          have A4 := hide a4
          have JA := hide j4
          have hb7 := hide (Nat.le_trans hbw.out B7.out.size)
          obtain ⟨_, _, ⟨x0, x1, _, _, _, _, _⟩, _⟩ := j4.cells
          have q1 := wholeV_less WH.out
          have q2 := fracV_len FR.out
          have q3 := expV_len EX.out
          have q4 := opt1_len 45 l
          rw [hl1.out] at q4
          have q5 := HA.out.len
          have q6 := a4.len
          have hnm : n ≤ m4 := by omega
          have hms : m4 ≤ s.size := by omega
          have hnmi : (n : Int) ≤ (m4 : Int) := by omega
          have hmsi : (m4 : Int) ≤ (s.size : Int) := by omega
          have y0 : ∀ w', Old wc w' → w'.cell? ⟨rb, 0, none⟩ = some (.string s) := fun w' o => o.cell x0
          have y1 : ∀ w', Old wc w' → w'.cell? ⟨rb, 1, none⟩ = some (.int .i64 (m4 : Int)) := fun w' o => o.cell x1
          have hTs : (s.extract n m4).size ≤ 1073741824 := by rw [ByteArray.size_extract]; omega
          have PR := hide (fun w' (o : Old wc w') => parse_run (s.extract n m4) w' hTs (HE.out w' (B7.out.trans (Bel.ofOld (rb := rb) o hb7.out)).low).1)
          have WH2 := hide (show wholeV (opt1 45 l).2 = .ok (ds, l2) by rw [hl1.out]; exact WH.out)
          clear a4 j4 q1 q2 q3 q4 q5 q6 x0 x1 x2 f2 hTs
          cases hfg : (!f && !g) with
          | false =>
            have NO := hide (numV_no WH2.out FR.out EX.out hfg)
            have CP := hide (fun w' (o : Old wc w') => (PR.out w' o).mono fun e w'' (h : ParsedI (s.extract n m4) e ∧ Old w' w'') => (show (∃ v i, e = .returned (.tuple #[.int .i64 v, i])) ∧ Old wc w'' from ⟨by
              have h1 := h.1
              unfold ParsedI at h1
              split at h1
              · exact ⟨_, _, h1⟩
              · obtain ⟨v, tp, p, h1⟩ := h1
                exact ⟨_, _, h1⟩, Old.trans o h.2⟩))
            clear PR
            go_wp2_with fail
            go_region_held (fun w' => Old wc w')
              (first | assumption | (exact Old.drew (Old.refl _)) | (exact Old.drew (by assumption)))
              (first | (go_at_call 72; (with_reducible refine (CP.out _ (by assumption)).mono ?_); rintro y w30 ⟨⟨v, i, rfl⟩, o30⟩))
            all_goals
              have J6 := hide (JA.out.old o30)
              have B8 := hide (B7.out.trans (Bel.ofOld (rb := rb) o30 hb7.out))
              clear y0 y1 CP
              have CF := hide (jfail_runB base rb s m4 out H key e bad w30 J6.out (n : Int) 73)
              clear o30
              go_wp2_with fail
              refine CF.out.mono ?_
              rintro y w8 ⟨rfl, j8, b8⟩
              have J8 := hide j8
              have B9 := hide (B8.out.trans b8)
              clear j8 b8
              go_wp2_with fail
              go_ret2
              refine ⟨?_, B9.out⟩
              rw [NO.out]
              exact ⟨rfl, n, m4, out, H, key, HA.out, J8.out⟩
          | true =>
            have hf : f = false := by cases f <;> simp at hfg ⊢
            have hg : g = false := by cases g <;> simp at hfg ⊢
            subst hf hg
            obtain ⟨N1, N2⟩ := num_is WH2.out FR.out EX.out
            rw [← cut_list HA.out A4.out N1] at N2
            clear hfg N1
            by_cases hr : -9223372036854775808 ≤ signed (opt1 45 l).1 (decV ds) ∧ signed (opt1 45 l).1 (decV ds) ≤ 9223372036854775807
            · have YES := hide (show numV l = .ok (signed (opt1 45 l).1 (decV ds), l4) by
                simp only [numV, WH2.out, FR.out, EX.out]
                rw [if_neg (by simp only [Bool.false_eq_true, false_or]; omega)])
              rw [if_pos hr] at N2
              obtain ⟨V, hV⟩ : ∃ V, Hid (signed (opt1 45 l).1 (decV ds) = V) := ⟨_, hide rfl⟩
              rw [hV.out] at YES N2
              have CP := hide (fun w' (o : Old wc w') => (PR.out w' o).mono fun e w'' (h : ParsedI (s.extract n m4) e ∧ Old w' w'') => (show e = .returned (.tuple #[.int .i64 V, .nilIface]) ∧ Old wc w'' from ⟨by
                have h1 := h.1
                unfold ParsedI at h1
                rw [N2] at h1
                exact h1, Old.trans o h.2⟩))
              clear PR hr N2
              go_wp2_with fail
              go_region_held (fun w' => Old wc w')
                (first | assumption | (exact Old.drew (Old.refl _)) | (exact Old.drew (by assumption)))
                (first | (go_at_call 72; (with_reducible refine (CP.out _ (by assumption)).mono ?_); rintro y w30 ⟨rfl, o30⟩))
              all_goals
                have J6 := hide (JA.out.old o30)
                have B8 := hide (B7.out.trans (Bel.ofOld (rb := rb) o30 hb7.out))
                clear y0 y1 CP
                have KK := hide (show JOk base rb s out H key e bad l4 w30 from ⟨m4, A4.out, J6.out⟩)
                clear o30
                go_wp2_with fail
                go_ret2
                refine ⟨?_, B8.out⟩
                rw [YES.out]
                exact ⟨rfl, KK.out⟩
            · have NO := hide (show numV l = .error (l, 73) by
                simp only [numV, WH2.out, FR.out, EX.out]
                rw [if_pos (by simp only [Bool.false_eq_true, false_or]; omega)])
              rw [if_neg hr] at N2
              have CP := hide (fun w' (o : Old wc w') => (PR.out w' o).mono fun e w'' (h : ParsedI (s.extract n m4) e ∧ Old w' w'') => (show (∃ v tp p, e = .returned (.tuple #[.int .i64 v, .iface tp p])) ∧ Old wc w'' from ⟨by
                have h1 := h.1
                unfold ParsedI at h1
                rw [N2] at h1
                exact h1, Old.trans o h.2⟩))
              clear PR hr N2
              go_wp2_with fail
              go_region_held (fun w' => Old wc w')
                (first | assumption | (exact Old.drew (Old.refl _)) | (exact Old.drew (by assumption)))
                (first | (go_at_call 72; (with_reducible refine (CP.out _ (by assumption)).mono ?_); rintro y w30 ⟨⟨v, tp, p, rfl⟩, o30⟩))
              all_goals
                have J6 := hide (JA.out.old o30)
                have B8 := hide (B7.out.trans (Bel.ofOld (rb := rb) o30 hb7.out))
                clear y0 y1 CP
                have CF := hide (jfail_runB base rb s m4 out H key e bad w30 J6.out (n : Int) 73)
                clear o30
                go_wp2_with fail
                refine CF.out.mono ?_
                rintro y w8 ⟨rfl, j8, b8⟩
                have J8 := hide j8
                have B9 := hide (B8.out.trans b8)
                clear j8 b8
                go_wp2_with fail
                go_ret2
                refine ⟨?_, B9.out⟩
                rw [NO.out]
                exact ⟨rfl, n, m4, out, H, key, HA.out, J8.out⟩
end Go.Proofs.YtcddfpcapbdphaaGreatDoor

