/- The reader of a text: what stands behind a part. -/
import Derived.Test.YtcddfpcapbdphaaGreatDoorJr8
namespace Go.Proofs.YtcddfpcapbdphaaGreatDoor
open Go.RowKit

/-- what stands behind a part, behind the blanks -/
def moreM (obj : Bool) (l : List UInt8) : Except Bad (Bool × List UInt8) :=
  match l with
  | [] => .error ([], 70)
  | c :: r => if c = 44 then .ok (true, r) else if c = lastOf obj then .ok (false, r) else .error (c :: r, 70)
theorem moreM_eq (obj : Bool) (l : List UInt8) : moreV obj l = moreM obj (skipB l) := by
  unfold moreV moreM
  cases skipB l <;> rfl
/-- a node that was open is ended -/
def endNd (a : Nd) (rest : List Nd) : Nd := { a with size := ((rest.length + 1 : Nat) : Int) }
def JBeh (base rb : Nat) (s : ByteArray) (pre rest : List Nd) (a : Nd) (had : List ByteArray) (S : List Jh) (key : ByteArray) (e bad : Int) (obj : Bool) (W : Except Bad (Bool × List UInt8)) (y : Ending) (w' : World) : Prop :=
  match W with
  | .ok (true, r) => y = .returned (.tuple #[.int .i64 (if obj then 2 else 0), .bool true]) ∧ JOk base rb s (pre ++ a :: rest) (⟨pre.length, had⟩ :: S) key e bad r w'
  | .ok (false, r) => y = .returned (.tuple #[.int .i64 4, .bool true]) ∧ JOk base rb s (pre ++ endNd a rest :: rest) S key e bad r w'
  | .error b => y = .returned (.tuple #[.int .i64 0, .bool false]) ∧ JNo base rb s b w'
theorem nd_kind (pre rest : List Nd) (a : Nd) : (ndVals (pre ++ a :: rest))[pre.length * 5]? = some (.int .i64 a.kind) := by
  have := ndVals_get (pre ++ a :: rest) pre.length 0 (by omega) (by simp)
  rw [Nat.add_zero] at this
  rw [this]
  simp [Nd.vals]
theorem moreM_yes {obj : Bool} {r : List UInt8} : moreM obj (44 :: r) = .ok (true, r) := by simp [moreM]
theorem moreM_end {obj : Bool} {r : List UInt8} : moreM obj (lastOf obj :: r) = .ok (false, r) := by
  simp only [moreM]
  rw [if_neg (by cases obj <;> decide), if_pos trivial]
theorem moreM_no {obj : Bool} {l : List UInt8} (h1 : nowB [44] l = false) (h2 : nowB [lastOf obj] l = false) : moreM obj l = .error (l, 70) := by
  cases l with
  | nil => rfl
  | cons c r =>
    simp only [nowB, List.mem_singleton, decide_eq_false_iff_not] at h1 h2
    simp only [moreM]
    rw [if_neg h1, if_neg h2]
set_option maxRecDepth 100000 in
set_option maxHeartbeats 1000000 in
theorem behind_run (base rb : Nat) (s : ByteArray) (n : Nat) (l : List UInt8) (pre rest : List Nd) (a : Nd) (obj : Bool) (had : List ByteArray) (S : List Jh) (key : ByteArray) (e bad : Int) (w : World)
    (h : JR base rb s n (pre ++ a :: rest) (⟨pre.length, had⟩ :: S) key e bad w) (ha : JAt s n l) (hs : s.size ≤ 1073741824) (hS : S.length ≤ 64) (ho : (pre ++ a :: rest).length ≤ 4000) (hk : a.kind = kindOf obj) :
    Calls Tryz.prog 21 #[.pointer (some ⟨rb, 0, none⟩)] w fun y w' => JBeh base rb s pre rest a had S key e bad obj (moreM obj l) y w' ∧ RowKit.Below base w w' := by
  have HJ := hide h
  have HA := hide ha
  have HO := hide ho
  have HS := hide hS
  have hbw := hide (show base ≤ w.heap.size from Nat.le_trans h.low (Nat.le_of_lt h.lt))
  have hn := HA.out.le
  obtain ⟨_, jo, hjo, hop⟩ := h.mem
  have x3 : w.cell? ⟨rb, 3, none⟩ = some jo := (cell_of_heap hjo).trans rfl
  obtain ⟨L, hL⟩ : ∃ L, Hid (S.length = L) := ⟨_, hide rfl⟩
  obtain ⟨P, hP⟩ : ∃ P, Hid (pre.length = P) := ⟨_, hide rfl⟩
  obtain ⟨N, hN⟩ : ∃ N, Hid ((pre ++ a :: rest).length = N) := ⟨_, hide rfl⟩
  have hPN : P < N := by rw [← hN.out, List.length_append, List.length_cons, hP.out]; omega
  obtain ⟨g, cap, b, rfl, c1, c2, c3, c4, c5, c6, c7⟩ := hop.2.top
  unfold maxLen at c2
  obtain ⟨M, hM⟩ : ∃ M, Hid (L + 1 = M) := ⟨_, hide rfl⟩
  rw [hL.out] at hS x3 c1 c4
  rw [hM.out] at x3 c1
  simp only [hP.out] at c4
  have hLM : L < M := by have := hM.out; omega
  have hq2 : IntKind.i64.wrap ((M : Int) - 1) = (L : Int) := by rw [← hM.out, show ((L + 1 : Nat) : Int) - 1 = (L : Int) by omega]; exact IntWalk.i64_in _ (by omega)
  obtain ⟨gn, cn, e1, e2, e3⟩ := h.node (by rw [hN.out]; omega)
  obtain ⟨k1, k2, k3, k4⟩ := h.nodeAt e1 (by rw [hN.out]; omega)
  have e5 : w.cell? ⟨gn, P * 5, none⟩ = some (.int .i64 (kindOf obj)) := by rw [← hk]; exact k2 _ _ (by rw [← hP.out]; exact nd_kind pre rest a)
  rw [hN.out] at ho e1 e2
  unfold maxLen at e3
  have y2 : ∀ p : Later w, p.world.cell? ⟨rb, 2, none⟩ = some (.slice (some ⟨gn, 0, none⟩) N cn) := fun p => p.old.cell e1
  have y3 : ∀ p : Later w, p.world.cell? ⟨rb, 3, none⟩ = some (.slice (some ⟨g, 0, none⟩) M cap) := fun p => p.old.cell x3
  have y4 : ∀ p : Later w, p.world.cell? ⟨g, L * 2, none⟩ = some (.int .i64 (P : Int)) := fun p => p.old.cell c4
  have y5 : ∀ p : Later w, p.world.cell? ⟨gn, P * 5, none⟩ = some (.int .i64 (kindOf obj)) := fun p => p.old.cell e5
  have hko : (kindOf obj == 7) = obj := by cases obj <;> decide
  clear h ha hk x3 c4 c5 c7 e1 e5 k2 k3 k4 hjo hop
  go_enter Tryz.func21, Tryz.ntmps21
  go_wp2_with fail
  refine region_later (by kernel_rfl) (by kernel_rfl) ?_
  repeat (go_big_quiet_step (fail))
  refine wpQuiet_nil ?_
  rintro w1 ⟨⟨_, o1⟩, rfl⟩
  have J1 := hide (HJ.out.old o1)
  have B1 := hide (RowKit.Below.mono o1 hbw.out)
  have hb1 := hide (Nat.le_trans hbw.out B1.out.size)
  clear o1 y2 y3 y4 y5 hq2 hLM hPN c1 c2 e2 e3
  obtain ⟨B, hB⟩ : ∃ B, Hid (nowB [44] l = B) := ⟨_, hide rfl⟩
  have C1 := hide (ask_run base rb s n l _ _ key e bad w1 J1.out HA.out 44 44 (by decide) B hB.out _ rfl)
  go_wp2_with fail
  refine C1.out.mono ?_
  rintro y w2 ⟨rfl, o2⟩
  have J2 := hide (J1.out.old o2)
  have B2 := hide (B1.out.trans (RowKit.Below.mono o2 hb1.out))
  have hb2 := hide (Nat.le_trans hbw.out B2.out.size)
  obtain ⟨_, _, ⟨_, x1, _, _, _, _, _⟩, hf, _, _⟩ := J2.out.cells
  have f1 := hf 1
  clear o2 C1 hf
  cases B with
  | true =>
    obtain ⟨r, hr⟩ := now_yes hB.out
    have hA := HA.out
    rw [hr] at hA
    have NX := hide hA.next
    have MM := hide (show moreM obj l = .ok (true, r) by rw [hr]; exact moreM_yes)
    have KK := hide (show JOk base rb s (pre ++ a :: rest) (⟨pre.length, had⟩ :: S) key e bad r (w2.setCell ⟨rb, 1, none⟩ (.int .i64 ((n : Int) + 1))) from ⟨n + 1, NX.out, J2.out.setAt (n + 1) (by simp)⟩)
    have B3 := hide (B2.out.trans (J2.out.keepAt 1 (.int .i64 ((n : Int) + 1))))
    clear hr hA
    cases obj
    · go_wp2_with fail
      go_ret2
      refine ⟨?_, B3.out⟩
      rw [MM.out]
      exact ⟨rfl, KK.out⟩
    · go_wp2_with fail
      go_ret2
      refine ⟨?_, B3.out⟩
      rw [MM.out]
      exact ⟨rfl, KK.out⟩
  | false =>
    obtain ⟨B', hB'⟩ : ∃ B', Hid (nowB [lastOf obj] l = B') := ⟨_, hide rfl⟩
    cases obj with
    | false =>
      have C2 := hide (ask_run base rb s n l _ _ key e bad w2 J2.out HA.out 93 93 (by decide) B' hB'.out _ rfl)
      go_wp2_with fail
      refine C2.out.mono ?_
      rintro y w3 ⟨rfl, o3⟩
      have J3 := hide (J2.out.old o3)
      have B3 := hide (B2.out.trans (RowKit.Below.mono o3 hb2.out))
      obtain ⟨_, _, ⟨_, x13, _, _, _, _, _⟩, _⟩ := J3.out.cells
      clear o3 C2 x1 f1
      cases B' with
      | false =>
        have MM := hide (moreM_no hB.out hB'.out)
        have CF := hide (jfail_run base rb s n _ _ key e bad w3 J3.out (n : Int) 70)
        go_wp2_with fail
        refine CF.out.mono ?_
        rintro y w4 ⟨rfl, j4, b4⟩
        have J4 := hide j4
        have B4 := hide (B3.out.trans b4)
        clear j4 b4
        go_wp2_with fail
        go_ret2
        refine ⟨?_, B4.out⟩
        rw [MM.out]
        exact ⟨rfl, n, n, _, _, key, HA.out, J4.out⟩
      | true =>
        obtain ⟨r, hr⟩ := now_yes hB'.out
        have hA := HA.out
        rw [hr] at hA
        have NX := hide hA.next
        have MM := hide (show moreM _ l = .ok (false, r) by rw [hr]; exact moreM_end)
        have hlt : n < s.size := (byte_at hA.rest).1
        have CV := hide (leave_run base rb s n pre rest a had S key e bad w3 J3.out hs hlt HS.out HO.out)
        clear hr hA
        go_wp2_with fail
        refine CV.out.mono ?_
        rintro y w4 ⟨rfl, j4, b4⟩
        have J4 := hide j4
        have B4 := hide (B3.out.trans b4)
        clear j4 b4
        go_wp2_with fail
        go_ret2
        refine ⟨?_, B4.out⟩
        rw [MM.out]
        exact ⟨rfl, n + 1, NX.out, J4.out⟩
    | true =>
      have C2 := hide (ask_run base rb s n l _ _ key e bad w2 J2.out HA.out 125 125 (by decide) B' hB'.out _ rfl)
      go_wp2_with fail
      refine C2.out.mono ?_
      rintro y w3 ⟨rfl, o3⟩
      have J3 := hide (J2.out.old o3)
      have B3 := hide (B2.out.trans (RowKit.Below.mono o3 hb2.out))
      obtain ⟨_, _, ⟨_, x13, _, _, _, _, _⟩, _⟩ := J3.out.cells
      clear o3 C2 x1 f1
      cases B' with
      | false =>
        have MM := hide (moreM_no hB.out hB'.out)
        have CF := hide (jfail_run base rb s n _ _ key e bad w3 J3.out (n : Int) 70)
        go_wp2_with fail
        refine CF.out.mono ?_
        rintro y w4 ⟨rfl, j4, b4⟩
        have J4 := hide j4
        have B4 := hide (B3.out.trans b4)
        clear j4 b4
        go_wp2_with fail
        go_ret2
        refine ⟨?_, B4.out⟩
        rw [MM.out]
        exact ⟨rfl, n, n, _, _, key, HA.out, J4.out⟩
      | true =>
        obtain ⟨r, hr⟩ := now_yes hB'.out
        have hA := HA.out
        rw [hr] at hA
        have NX := hide hA.next
        have MM := hide (show moreM _ l = .ok (false, r) by rw [hr]; exact moreM_end)
        have hlt : n < s.size := (byte_at hA.rest).1
        have CV := hide (leave_run base rb s n pre rest a had S key e bad w3 J3.out hs hlt HS.out HO.out)
        clear hr hA
        go_wp2_with fail
        refine CV.out.mono ?_
        rintro y w4 ⟨rfl, j4, b4⟩
        have J4 := hide j4
        have B4 := hide (B3.out.trans b4)
        clear j4 b4
        go_wp2_with fail
        go_ret2
        refine ⟨?_, B4.out⟩
        rw [MM.out]
        exact ⟨rfl, n + 1, NX.out, J4.out⟩
end Go.Proofs.YtcddfpcapbdphaaGreatDoor

