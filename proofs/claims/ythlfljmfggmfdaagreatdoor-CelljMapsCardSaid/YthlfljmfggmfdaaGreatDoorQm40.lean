/- The reader of a text: what stands behind a part. -/
import Derived.Test.YthlfljmfggmfdaaGreatDoorQm39
import Derived.Test.YthlfljmfggmfdaaGreatDoorQm10
import Derived.Maps.OwnSet
import Derived.Maps.OwnOps
import Derived.Deep.RegionHeld3
import Derived.Deep.RegionLaw
/-! ### The reader of a text: what stands behind a part. -/
namespace Go.Proofs.YthlfljmfggmfdaaGreatDoor
open Go.RowKit

/-- what stands behind a part, behind the blanks -/
def moreM (obj : Bool) (l : List UInt8) : Except Bad (Bool × List UInt8) :=
  match l with
  | [] => .error ([], 70)
  | c :: r => if c = 44 then .ok (true, r) else if c = lastOf obj then .ok (false, r) else .error (c :: r, 70)
theorem moreM_eq (obj : Bool) (l : List UInt8) : moreV obj l = moreM obj (skipB l) := by
  unfold moreV moreM
  cases skipB l <;> rfl
/-- a node that was open is ended -/
def endNd (a : Nd) (rest : List Nd) : Nd := { a with size := ((rest.length + 1 : Nat) : Int) }
def JBeh (base rb : Nat) (s : ByteArray) (pre rest : List Nd) (a : Nd) (had : List ByteArray) (S : List Jh) (key : ByteArray) (e bad : Int) (obj : Bool) (W : Except Bad (Bool × List UInt8)) (y : Ending) (w' : World) : Prop :=
  match W with
  | .ok (true, r) => y = .returned (.tuple #[.int .i64 (if obj then 2 else 0), .bool true]) ∧ JOk base rb s (pre ++ a :: rest) (⟨pre.length, had⟩ :: S) key e bad r w'
  | .ok (false, r) => y = .returned (.tuple #[.int .i64 4, .bool true]) ∧ JOk base rb s (pre ++ endNd a rest :: rest) S key e bad r w'
  | .error b => y = .returned (.tuple #[.int .i64 0, .bool false]) ∧ JNo base rb s b w'
theorem nd_kind (pre rest : List Nd) (a : Nd) : (ndVals (pre ++ a :: rest))[pre.length * 5]? = some (.int .i64 a.kind) := by
  have := ndVals_get (pre ++ a :: rest) pre.length 0 (by omega) (by simp)
  rw [Nat.add_zero] at this
  rw [this]
  simp [Nd.vals]
theorem moreM_yes {obj : Bool} {r : List UInt8} : moreM obj (44 :: r) = .ok (true, r) := by simp [moreM]
theorem moreM_end {obj : Bool} {r : List UInt8} : moreM obj (lastOf obj :: r) = .ok (false, r) := by
  simp only [moreM]
  rw [if_neg (by cases obj <;> decide), if_pos trivial]
theorem moreM_no {obj : Bool} {l : List UInt8} (h1 : nowB [44] l = false) (h2 : nowB [lastOf obj] l = false) : moreM obj l = .error (l, 70) := by
  cases l with
  | nil => rfl
  | cons c r =>
    simp only [nowB, List.mem_singleton, decide_eq_false_iff_not] at h1 h2
    simp only [moreM]
    rw [if_neg h1, if_neg h2]
set_option maxRecDepth 100000 in
set_option maxHeartbeats 1000000 in
theorem behind_run (base rb : Nat) (s : ByteArray) (n : Nat) (l : List UInt8) (pre rest : List Nd) (a : Nd) (obj : Bool) (had : List ByteArray) (S : List Jh) (key : ByteArray) (e bad : Int) (w : World)
    (h : JR base rb s n (pre ++ a :: rest) (⟨pre.length, had⟩ :: S) key e bad w) (ha : JAt s n l) (hs : s.size ≤ 1073741824) (hS : S.length ≤ 64) (ho : (pre ++ a :: rest).length ≤ 4000) (hk : a.kind = kindOf obj) :
    Calls Tryz.prog 63 #[.pointer (some ⟨rb, 0, none⟩)] w fun y w' => JBeh base rb s pre rest a had S key e bad obj (moreM obj l) y w' ∧ RowKit.Below base w w' := by
  have HJ := hide h
  have HA := hide ha
  have HO := hide ho
  have HS := hide hS
  have hbw := hide (show base ≤ w.heap.size from Nat.le_trans h.low (Nat.le_of_lt h.lt))
  have hn := HA.out.le
  obtain ⟨_, jo, hjo, hop⟩ := h.mem
  have x3 : w.cell? ⟨rb, 3, none⟩ = some jo := (cell_of_heap hjo).trans rfl
  obtain ⟨L, hL⟩ : ∃ L, Hid (S.length = L) := ⟨_, hide rfl⟩
  obtain ⟨P, hP⟩ : ∃ P, Hid (pre.length = P) := ⟨_, hide rfl⟩
  obtain ⟨N, hN⟩ : ∃ N, Hid ((pre ++ a :: rest).length = N) := ⟨_, hide rfl⟩
  have hPN : P < N := by rw [← hN.out, List.length_append, List.length_cons, hP.out]; omega
  obtain ⟨g, cap, b, rfl, c1, c2, c3, c4, c5, c6, c7⟩ := hop.2.top
  unfold maxLen at c2
  obtain ⟨M, hM⟩ : ∃ M, Hid (L + 1 = M) := ⟨_, hide rfl⟩
  rw [hL.out] at hS x3 c1 c4
  rw [hM.out] at x3 c1
  simp only [hP.out] at c4
  have hLM : L < M := by have := hM.out; omega
  have hq2 : IntKind.i64.wrap ((M : Int) - 1) = (L : Int) := by rw [← hM.out, show ((L + 1 : Nat) : Int) - 1 = (L : Int) by omega]; exact IntWalk.i64_in _ (by omega)
  obtain ⟨gn, cn, e1, e2, e3⟩ := h.node (by rw [hN.out]; omega)
  obtain ⟨k1, k2, k3, k4⟩ := h.nodeAt e1 (by rw [hN.out]; omega)
  have e5 : w.cell? ⟨gn, P * 5, none⟩ = some (.int .i64 (kindOf obj)) := by rw [← hk]; exact k2 _ _ (by rw [← hP.out]; exact nd_kind pre rest a)
  rw [hN.out] at ho e1 e2
  unfold maxLen at e3
  have y2 : ∀ p : Later w, p.world.cell? ⟨rb, 2, none⟩ = some (.slice (some ⟨gn, 0, none⟩) N cn) := fun p => p.old.cell e1
  have y3 : ∀ p : Later w, p.world.cell? ⟨rb, 3, none⟩ = some (.slice (some ⟨g, 0, none⟩) M cap) := fun p => p.old.cell x3
  have y4 : ∀ p : Later w, p.world.cell? ⟨g, L * 2, none⟩ = some (.int .i64 (P : Int)) := fun p => p.old.cell c4
  have y5 : ∀ p : Later w, p.world.cell? ⟨gn, P * 5, none⟩ = some (.int .i64 (kindOf obj)) := fun p => p.old.cell e5
  have hko : (kindOf obj == 7) = obj := by cases obj <;> decide
  clear h ha hk x3 c4 c5 c7 e1 e5 k2 k3 k4 hjo hop
  go_enter Tryz.func63, Tryz.ntmps63
  go_wp2_with fail
  refine region_later (by kernel_rfl) (by kernel_rfl) ?_
  repeat (go_big_quiet_step (fail))
  refine wpQuiet_nil ?_
  rintro w1 ⟨⟨_, o1⟩, rfl⟩
  have J1 := hide (HJ.out.old o1)
  have B1 := hide (RowKit.Below.mono o1 hbw.out)
  have hb1 := hide (Nat.le_trans hbw.out B1.out.size)
  clear o1 y2 y3 y4 y5 hq2 hLM hPN c1 c2 e2 e3
  obtain ⟨B, hB⟩ : ∃ B, Hid (nowB [44] l = B) := ⟨_, hide rfl⟩
  have C1 := hide (ask_run base rb s n l _ _ key e bad w1 J1.out HA.out 44 44 (by decide) B hB.out _ rfl)
  go_wp2_with fail
  refine C1.out.mono ?_
  rintro y w2 ⟨rfl, o2⟩
  have J2 := hide (J1.out.old o2)
  have B2 := hide (B1.out.trans (RowKit.Below.mono o2 hb1.out))
  have hb2 := hide (Nat.le_trans hbw.out B2.out.size)
  obtain ⟨_, _, ⟨_, x1, _, _, _, _, _⟩, hf, _, _⟩ := J2.out.cells
  have f1 := hf 1
  clear o2 C1 hf
  cases B with
  | true =>
    obtain ⟨r, hr⟩ := now_yes hB.out
    have hA := HA.out
    rw [hr] at hA
    have NX := hide hA.next
    have MM := hide (show moreM obj l = .ok (true, r) by rw [hr]; exact moreM_yes)
    have KK := hide (show JOk base rb s (pre ++ a :: rest) (⟨pre.length, had⟩ :: S) key e bad r (w2.setCell ⟨rb, 1, none⟩ (.int .i64 ((n : Int) + 1))) from ⟨n + 1, NX.out, J2.out.setAt (n + 1) (by simp)⟩)
    have B3 := hide (B2.out.trans (J2.out.keepAt 1 (.int .i64 ((n : Int) + 1))))
    clear hr hA
    cases obj
    · go_wp2_with fail
      go_ret2
      refine ⟨?_, B3.out⟩
      rw [MM.out]
      exact ⟨rfl, KK.out⟩
    · go_wp2_with fail
      go_ret2
      refine ⟨?_, B3.out⟩
      rw [MM.out]
      exact ⟨rfl, KK.out⟩
  | false =>
    obtain ⟨B', hB'⟩ : ∃ B', Hid (nowB [lastOf obj] l = B') := ⟨_, hide rfl⟩
    cases obj with
    | false =>
      have C2 := hide (ask_run base rb s n l _ _ key e bad w2 J2.out HA.out 93 93 (by decide) B' hB'.out _ rfl)
      go_wp2_with fail
      refine C2.out.mono ?_
      rintro y w3 ⟨rfl, o3⟩
      have J3 := hide (J2.out.old o3)
      have B3 := hide (B2.out.trans (RowKit.Below.mono o3 hb2.out))
      obtain ⟨_, _, ⟨_, x13, _, _, _, _, _⟩, _⟩ := J3.out.cells
      clear o3 C2 x1 f1
      cases B' with
      | false =>
        have MM := hide (moreM_no hB.out hB'.out)
        have CF := hide (jfail_run base rb s n _ _ key e bad w3 J3.out (n : Int) 70)
        go_wp2_with fail
        refine CF.out.mono ?_
        rintro y w4 ⟨rfl, j4, b4⟩
        have J4 := hide j4
        have B4 := hide (B3.out.trans b4)
        clear j4 b4
        go_wp2_with fail
        go_ret2
        refine ⟨?_, B4.out⟩
        rw [MM.out]
        exact ⟨rfl, n, n, _, _, key, HA.out, J4.out⟩
      | true =>
        obtain ⟨r, hr⟩ := now_yes hB'.out
        have hA := HA.out
        rw [hr] at hA
        have NX := hide hA.next
        have MM := hide (show moreM _ l = .ok (false, r) by rw [hr]; exact moreM_end)
        have hlt : n < s.size := (byte_at hA.rest).1
        have CV := hide (leave_run base rb s n pre rest a had S key e bad w3 J3.out hs hlt HS.out HO.out)
        clear hr hA
        go_wp2_with fail
        refine CV.out.mono ?_
        rintro y w4 ⟨rfl, j4, b4⟩
        have J4 := hide j4
        have B4 := hide (B3.out.trans b4)
        clear j4 b4
        go_wp2_with fail
        go_ret2
        refine ⟨?_, B4.out⟩
        rw [MM.out]
        exact ⟨rfl, n + 1, NX.out, J4.out⟩
    | true =>
      have C2 := hide (ask_run base rb s n l _ _ key e bad w2 J2.out HA.out 125 125 (by decide) B' hB'.out _ rfl)
      go_wp2_with fail
      refine C2.out.mono ?_
      rintro y w3 ⟨rfl, o3⟩
      have J3 := hide (J2.out.old o3)
      have B3 := hide (B2.out.trans (RowKit.Below.mono o3 hb2.out))
      obtain ⟨_, _, ⟨_, x13, _, _, _, _, _⟩, _⟩ := J3.out.cells
      clear o3 C2 x1 f1
      cases B' with
      | false =>
        have MM := hide (moreM_no hB.out hB'.out)
        have CF := hide (jfail_run base rb s n _ _ key e bad w3 J3.out (n : Int) 70)
        go_wp2_with fail
        refine CF.out.mono ?_
        rintro y w4 ⟨rfl, j4, b4⟩
        have J4 := hide j4
        have B4 := hide (B3.out.trans b4)
        clear j4 b4
        go_wp2_with fail
        go_ret2
        refine ⟨?_, B4.out⟩
        rw [MM.out]
        exact ⟨rfl, n, n, _, _, key, HA.out, J4.out⟩
      | true =>
        obtain ⟨r, hr⟩ := now_yes hB'.out
        have hA := HA.out
        rw [hr] at hA
        have NX := hide hA.next
        have MM := hide (show moreM _ l = .ok (false, r) by rw [hr]; exact moreM_end)
        have hlt : n < s.size := (byte_at hA.rest).1
        have CV := hide (leave_run base rb s n pre rest a had S key e bad w3 J3.out hs hlt HS.out HO.out)
        clear hr hA
        go_wp2_with fail
        refine CV.out.mono ?_
        rintro y w4 ⟨rfl, j4, b4⟩
        have J4 := hide j4
        have B4 := hide (B3.out.trans b4)
        clear j4 b4
        go_wp2_with fail
        go_ret2
        refine ⟨?_, B4.out⟩
        rw [MM.out]
        exact ⟨rfl, n + 1, NX.out, J4.out⟩
end Go.Proofs.YthlfljmfggmfdaaGreatDoor

/-! ### The reader of a text: the kinds by their first bytes; a node is put to the others. -/
namespace Go.Proofs.YthlfljmfggmfdaaGreatDoor
open Go.RowKit

/-- the kind of what begins with a byte, but for numbers -/
def kindB (c : UInt8) : Int := if c.toNat = 34 then 5 else if c.toNat = 91 then 6 else if c.toNat = 102 then 2 else if c.toNat = 110 then 1 else if c.toNat = 116 then 3 else if c.toNat = 123 then 7 else 0
def dKind : DataW Unit := .map [(.int .u8 34, .lit (.int .i64 5)), (.int .u8 91, .lit (.int .i64 6)), (.int .u8 102, .lit (.int .i64 2)), (.int .u8 110, .lit (.int .i64 1)), (.int .u8 116, .lit (.int .i64 3)), (.int .u8 123, .lit (.int .i64 7))]
theorem dKind_at (n : Nat) : dKind.atKey (.int .u8 (n : Int)) (.lit (.int .i64 0)) = .lit (.int .i64 (if n = 34 then 5 else if n = 91 then 6 else if n = 102 then 2 else if n = 110 then 1 else if n = 116 then 3 else if n = 123 then 7 else 0)) := by
  repeat' split
  all_goals first | (subst_vars; rfl) | skip
  unfold dKind
  simp only [DataW.atKey, List.find?_cons, Lit.sameKey]
  have e : ∀ k : Int, k ≠ (n : Int) → decide (k = (n : Int)) = false := fun k hk => by simpa using hk
  simp [e 34 (by omega), e 91 (by omega), e 102 (by omega), e 110 (by omega), e 116 (by omega), e 123 (by omega)]
abbrev MapKind (b : Nat) (w : World) : Prop := w.ownsMap (H := Unit) Tryz.prog 5 (plainElem Tryz.prog 3) b 6 dKind
theorem MapKind.same {b : Nat} {w w' : World} (h : MapKind b w) (e : ∀ o, w.heap[b]? = some o → w'.heap[b]? = some o) : MapKind b w' := by
  obtain ⟨es, clock, hb, F, hs, hD⟩ := h
  exact ⟨es, clock, e _ hb, F, hs, hD⟩
/-- the kind that a byte has in the map -/
theorem wpList_kind {ops : Array Oper} {rest : List Oper} {o : Oper} {a : Act} {Q : Exit → Act → World → Prop} (w : World) (hg : o.guard = none) (m x : Operand) (hop : o.op = Op.lookup 141 m x false)
    (b : Nat) (hm : a.eval m = .map (some b)) (hk : MapKind b w) (c : UInt8) (hx : a.eval x = .int .u8 (c.toNat : Int)) (K : Int) (hK0 : kindB c = K)
    (hK : wpList Tryz.prog ops Q rest (a.put o.dst (.int .i64 K)) w) : wpList Tryz.prog ops Q (o :: rest) a w := by
  refine wpList_lookup_own_int w hg m x _ hop 5 3 .i64 (Maps.int_keyed Tryz.underlying5) Tryz.underlying141 Tryz.underlying3 (zeroInt w) b 6 dKind hm hk (.int .u8 (c.toNat : Int)) (.int .u8 (c.toNat : Int)) hx
    (Maps.keyOf_int_mk Tryz.underlying5 (a := (c.toNat : Int)) (by have := c.toNat_lt; exact WalkArith.wf_u8 (by omega))) ?_
  intro k hk2 _
  rw [dKind_at] at hk2
  injection hk2 with hk2
  injection hk2 with _ hk2
  have e : K = k := by rw [← hK0, ← hk2]; rfl
  subst e
  exact hK
/-- the map of the kinds is made -/
theorem kinds_made (w : World) : ∃ w1 w2 w3 w4 w5 w6,
    (Instr.mapUpdate 141 (.map (some w.heap.size)) (.int .u8 110) (.int .i64 1)).run Tryz.prog (w.alloc (.map #[] 0)) = .ok () w1 ∧ (Instr.mapUpdate 141 (.map (some w.heap.size)) (.int .u8 102) (.int .i64 2)).run Tryz.prog w1 = .ok () w2 ∧
    (Instr.mapUpdate 141 (.map (some w.heap.size)) (.int .u8 116) (.int .i64 3)).run Tryz.prog w2 = .ok () w3 ∧ (Instr.mapUpdate 141 (.map (some w.heap.size)) (.int .u8 34) (.int .i64 5)).run Tryz.prog w3 = .ok () w4 ∧
    (Instr.mapUpdate 141 (.map (some w.heap.size)) (.int .u8 91) (.int .i64 6)).run Tryz.prog w4 = .ok () w5 ∧ (Instr.mapUpdate 141 (.map (some w.heap.size)) (.int .u8 123) (.int .i64 7)).run Tryz.prog w5 = .ok () w6 ∧ MapKind w.heap.size w6 ∧ Old w w6 := by
  have K := Maps.int_keyed Tryz.underlying5
  have O0 : Old w (w.alloc (.map #[] 0)) := Old.alloc (Old.refl _) _
  have own0 := World.ownsMap_made (H := Unit) w Tryz.prog 5 (plainElem Tryz.prog 3)
  obtain ⟨w1, r1, own1, g1⟩ := own0.update K Tryz.underlying141 (by unfold maxLen; omega) (key := .int .u8 110) (Maps.keyOf_int_mk Tryz.underlying5 (a := 110) (by decide)) (val := .int .i64 1) (plainElem_int Tryz.underlying3 (a := 1) (by decide))
  obtain ⟨w2, r2, own2, g2⟩ := own1.update K Tryz.underlying141 (by unfold maxLen; omega) (key := .int .u8 102) (Maps.keyOf_int_mk Tryz.underlying5 (a := 102) (by decide)) (val := .int .i64 2) (plainElem_int Tryz.underlying3 (a := 2) (by decide))
  obtain ⟨w3, r3, own3, g3⟩ := own2.update K Tryz.underlying141 (by unfold maxLen; omega) (key := .int .u8 116) (Maps.keyOf_int_mk Tryz.underlying5 (a := 116) (by decide)) (val := .int .i64 3) (plainElem_int Tryz.underlying3 (a := 3) (by decide))
  obtain ⟨w4, r4, own4, g4⟩ := own3.update K Tryz.underlying141 (by unfold maxLen; omega) (key := .int .u8 34) (Maps.keyOf_int_mk Tryz.underlying5 (a := 34) (by decide)) (val := .int .i64 5) (plainElem_int Tryz.underlying3 (a := 5) (by decide))
  obtain ⟨w5, r5, own5, g5⟩ := own4.update K Tryz.underlying141 (by unfold maxLen; omega) (key := .int .u8 91) (Maps.keyOf_int_mk Tryz.underlying5 (a := 91) (by decide)) (val := .int .i64 6) (plainElem_int Tryz.underlying3 (a := 6) (by decide))
  obtain ⟨w6, r6, own6, g6⟩ := own5.update K Tryz.underlying141 (by unfold maxLen; omega) (key := .int .u8 123) (Maps.keyOf_int_mk Tryz.underlying5 (a := 123) (by decide)) (val := .int .i64 7) (plainElem_int Tryz.underlying3 (a := 7) (by decide))
  have st : ∀ {a b : World}, Old w a → a.grownBy b (some w.heap.size) → Old w b := fun ho hg => Below.grown ho hg ho.size fun k hk => by cases hk; exact Nat.le_refl _
  exact ⟨w1, w2, w3, w4, w5, w6, r1, r2, r3, r4, r5, r6, own6, st (st (st (st (st (st O0 g1) g2) g3) g4) g5) g6⟩
/-- a node is put to the others -/
theorem step_push_nd {o : Oper} {a : Act} {K : Act → World → Prop} {Q : Exit → Act → World → Prop} (w : World) (s x : Operand)
    (ho : o.op = .call { callee := .builtin .append, args := #[s, x], argTypes := #[24, 24] })
    (base : Nat) (v : Value) (r : List Nd) (hs : a.eval s = v) (hown : NodesOwn base w v r)
    (xv : Value) (q : List Nd) (hev : a.eval x = xv) (hx : NodesIs w xv q) (hlen : r.length + q.length ≤ 4194304) (hbase : base ≤ w.heap.size)
    (h : ∀ v' w', NodesOwn base w' v' (r ++ q) → KeptJ 36 base w w' → K (a.put o.dst v') w') : o.wp Tryz.prog a w K Q := by
  obtain ⟨i0, hi, hz0, hz1, hz2⟩ := info_parts nodeInfo
  refine wp_append_sl w s x 24 ho base 36 i0 _ 5 56 Tryz.underlying24 hi hz0 hz1 hz2 rfl (by omega) v r.length (ndVals r) hs hown
    xv q.length (ndVals q) hev hx (ndVals_length q) (ndVals_cell q) (by unfold maxLen; omega) (by omega) hbase ?_
  intro v' w' own' hg
  refine h v' w' ?_ (KeptJ.of_grown hown hg hbase)
  unfold NodesOwn
  rw [ndVals_append, List.length_append]
  exact own'
theorem nd_one (w : World) (kind size : Int) (key : ByteArray) (g : Nat) (hg : w.heap.size = g) : NodesIs (w.alloc (.cells #[.int .i64 kind, .string key, .int .i64 0, .string ⟨#[]⟩, .int .i64 size] 36)) (.slice (some ⟨g, 0, none⟩) 1 1) [⟨kind, key, 0, none_, size⟩] := by
  subst hg
  refine ⟨_, _, rfl, Nat.le_refl _, by unfold maxLen; omega, fun _ => ⟨w.heap.size, 0, rfl, fun j u hu => ?_⟩⟩
  rw [Nat.zero_add, cell_of_heap (heap_alloc_new w _)]
  rw [ndVals_one] at hu
  match j, hu with
  | 0, hu => exact hu
  | 1, hu => exact hu
  | 2, hu => exact hu
  | 3, hu => exact hu
  | 4, hu => exact hu
  | j + 5, hu => simp [Nd.vals] at hu
/-- a reader, but for what an append to its nodes leaves open -/
theorem JR.push {base rb n : Nat} {s key : ByteArray} {out out' : List Nd} {H : List Jh} {e bad : Int} {w w' : World} {v : Value} (h : JR base rb s n out H key e bad w) (k : KeptJ 36 base w w') (hv : NodesOwn base w' v out') :
    JR base rb s n out' H key e bad (w'.setCell ⟨rb, 2, none⟩ v) := by
  obtain ⟨h1, ov, hh, h2, h3, h4⟩ := h
  have e2 := k.kept.other _ _ _ _ h2 (by decide)
  exact ⟨h1, v, hh, set_heap e2 _, own_set_else hv e2 (by decide), (h4.keptJ k (by decide)).set_else e2 (by decide)⟩
/-- the reader's own block, as an append to its nodes keeps it -/
structure JMid (base rb : Nat) (cs : Array Value) (w w' : World) : Prop where
  low : RowKit.Below base w w'
  blk : w'.heap[rb]? = some (.cells cs 100 (0, 0))
theorem JMid.drew {base rb : Nat} {cs : Array Value} {w w' : World} (h : JMid base rb cs w w') : JMid base rb cs w w'.drew := ⟨h.low.drew, h.blk⟩
theorem JMid.alloc {base rb : Nat} {cs : Array Value} {w w' : World} (h : JMid base rb cs w w') (hb : base ≤ w.heap.size) (o : Obj) : JMid base rb cs w (w'.alloc o) := ⟨h.low.alloc (Nat.le_trans hb h.low.size) o, (Old.alloc (Old.refl w') o).heap h.blk⟩
theorem JMid.push {base rb : Nat} {cs : Array Value} {w w1 w2 : World} (h : JMid base rb cs w w1) (k : KeptJ 36 base w1 w2) : JMid base rb cs w w2 := ⟨h.low.trans k.kept.low, k.kept.other _ _ _ _ h.blk (by decide)⟩
end Go.Proofs.YthlfljmfggmfdaaGreatDoor

/-! ### The reader of a text: what a value's beginning hands back. -/
namespace Go.Proofs.YthlfljmfggmfdaaGreatDoor
open Go.RowKit

/-- the kind of what begins with a byte -/
def kindV (c : UInt8) : Int := if c.toNat = 45 ∨ (48 ≤ c.toNat ∧ c.toNat ≤ 57) then 4 else kindB c
def beg_chk (c : UInt8) : Bool := (begB c == !(kindV c == 0)) && decide (0 ≤ kindV c ∧ kindV c ≤ 7) && ((kindV c == 6) == (c == 91)) && ((kindV c == 7) == (c == 123)) && ((kindV c == 1) == (c == 110)) && ((kindV c == 2) == (c == 102)) && ((kindV c == 3) == (c == 116)) && ((kindV c == 5) == (c == 34))
theorem beg_all (c : UInt8) : beg_chk c = true := by
  have key : ∀ n : _root_.Fin 256, beg_chk (UInt8.ofNat n.val) = true := by decide +kernel
  have h := key ⟨c.toNat, c.toNat_lt⟩
  simpa using h
theorem beg_is (c : UInt8) : (begB c = false ↔ kindV c = 0) ∧ 0 ≤ kindV c ∧ kindV c ≤ 7 ∧ (kindV c = 6 ↔ c = 91) ∧ (kindV c = 7 ↔ c = 123) ∧ (kindV c = 1 ↔ c = 110) ∧ (kindV c = 2 ↔ c = 102) ∧ (kindV c = 3 ↔ c = 116) ∧ (kindV c = 5 ↔ c = 34) := by
  have h := beg_all c
  unfold beg_chk at h
  simp only [Bool.and_eq_true, decide_eq_true_eq, beq_iff_eq] at h
  obtain ⟨⟨⟨⟨⟨⟨⟨h1, h2, h3⟩, h4⟩, h5⟩, h6⟩, h7⟩, h8⟩, h9⟩ := h
  have e : ∀ {a : Int} {k : Int} {x y : UInt8}, (a == k) = (x == y) → (a = k ↔ x = y) := fun {a k x y} h => by
    constructor
    · intro e; rw [e] at h; simpa using h.symm
    · intro e; rw [e] at h; simpa using h
  refine ⟨?_, h2, h3, e h4, e h5, e h6, e h7, e h8, e h9⟩
  rw [h1]
  simp
/-- the reader has failed; no more is said of its rows -/
def JNoW (rb : Nat) (s : ByteArray) (b : Bad) (w : World) : Prop := ∃ (m : Nat) (cs : Array Value), JAt s m b.1 ∧ w.heap[rb]? = some (.cells cs 100 (0, 0)) ∧ cs[5]? = some (.int .i64 b.2) ∧ cs[6]? = some (.int .i64 (m : Int))
theorem JNo.weak {base rb : Nat} {s : ByteArray} {b : Bad} {w : World} (h : JNo base rb s b w) : JNoW rb s b w := by
  obtain ⟨m, k, out, H, key, h1, _, ov, hv, h2, _⟩ := h
  exact ⟨m, _, h1, h2, rfl, rfl⟩
theorem JNoW.set {rb g i : Nat} {s : ByteArray} {b : Bad} {w : World} (h : JNoW rb s b w) (hne : rb ≠ g) (v : Value) : JNoW rb s b (w.setCell ⟨g, i, none⟩ v) := by
  obtain ⟨m, cs, h1, h2, h3, h4⟩ := h
  exact ⟨m, cs, h1, ((One.refl g w).set i v).heap h2 hne, h3, h4⟩
/-- what a value's beginning hands back -/
def JBeg (base rb : Nat) (s : ByteArray) (out : List Nd) (H : List Jh) (key : ByteArray) (e bad : Int) (l : List UInt8) (y : Ending) (w' : World) : Prop :=
  match l with
  | [] => (∃ z : Int, y = .returned (.tuple #[.int .i64 z, .bool false])) ∧ JNoW rb s ([], 70) w'
  | c :: r =>
    if begB c = false then (∃ z : Int, y = .returned (.tuple #[.int .i64 z, .bool false])) ∧ JNoW rb s (c :: r, 70) w'
    else if 4000 ≤ out.length then (∃ z : Int, y = .returned (.tuple #[.int .i64 z, .bool false])) ∧ JNoW rb s (c :: r, 5) w'
    else if 64 ≤ H.length then (∃ z : Int, y = .returned (.tuple #[.int .i64 z, .bool false])) ∧ JNoW rb s (c :: r, 72) w'
    else if c = 91 ∨ c = 123 then y = .returned (.tuple #[.int .i64 (if c = 123 then 3 else 1), .bool true]) ∧ JOk base rb s (out ++ [⟨kindOf (c == 123), key, 0, none_, 1⟩]) (⟨out.length, []⟩ :: H) none_ e bad r w'
    else match leafV c (c :: r) with
      | .error b => (∃ z : Int, y = .returned (.tuple #[.int .i64 z, .bool false])) ∧ JNoW rb s b w'
      | .ok (j, r2) => y = .returned (.tuple #[.int .i64 4, .bool true]) ∧ JOk base rb s (out ++ (j.rekey key).flat) H none_ e bad r2 w'
/-- the nodes' block, as the heap has it -/
theorem JR.nodeHeap {base rb n : Nat} {s key : ByteArray} {out : List Nd} {H : List Jh} {e bad : Int} {w : World} {g cap : Nat} (h : JR base rb s n out H key e bad w) (hc : w.cell? ⟨rb, 2, none⟩ = some (.slice (some ⟨g, 0, none⟩) out.length cap)) (hl : 0 < out.length) :
    ∃ cur : Array Value, w.heap[g]? = some (.cells cur 36 (0, 0)) ∧ rb ≠ g ∧ base ≤ g ∧ ∀ (j : Nat) (u : Value), (ndVals out)[j]? = some u → cur[j]? = some u := by
  obtain ⟨k1, k2, _, _⟩ := h.nodeAt hc hl
  obtain ⟨h1, ov, hv, h2, h3, h4⟩ := h
  have hov : ov = .slice (some ⟨g, 0, none⟩) out.length cap := by
    have e2 : some ov = some (.slice (some ⟨g, 0, none⟩) out.length cap) := (cell_of_heap (i := 2) h2).symm.trans hc
    injection e2
  subst hov
  obtain ⟨hl2, h5⟩ := id h3
  rcases h5 with ⟨h6, _⟩ | ⟨g', cap', cur, e3, _, hh, _⟩
  · cases h6
  · injection e3 with e3 _ _
    injection e3 with e3
    injection e3 with e3
    subst e3
    refine ⟨cur, hh, ?_, k1, fun j u hu => ?_⟩
    · rintro rfl
      rw [h2] at hh
      injection hh with hh
      injection hh with _ hT _
      exact absurd hT (by decide)
    · have := k2 j u hu
      rw [cell_of_heap hh] at this
      exact this
theorem nd_setk (pre : List Nd) (a b : Nd) (k : Nat) (u : Value) (hk : k < 5) (h : b.vals = a.vals.set k u) : ndVals (pre ++ [b]) = (ndVals (pre ++ [a])).set (pre.length * 5 + k) u := by
  rw [ndVals_append, ndVals_append, ndVals_one, ndVals_one, h, List.set_append_right _ _ (by rw [ndVals_length]; omega), ndVals_length, Nat.add_sub_cancel_left]
theorem nd_lastk (pre : List Nd) (a : Nd) (k : Nat) (hk : k < 5) : (ndVals (pre ++ [a]))[pre.length * 5 + k]? = a.vals[k]? := by
  rw [ndVals_get _ _ _ hk (by simp)]
  simp
theorem nodes_keptJ {T base base' : Nat} {w w' : World} {v : Value} {l : List Nd} (h : NodesOwn base w v l) (k : KeptJ T base' w w') (hne : 36 ≠ T) : NodesOwn base w' v l := by
  obtain ⟨hl, h2⟩ := h
  refine ⟨hl, ?_⟩
  rcases h2 with h2 | ⟨g, cap, cur, rfl, hb, hh, r⟩
  · exact .inl h2
  · exact .inr ⟨g, cap, cur, rfl, hb, k.kept.other _ _ _ _ hh hne, r⟩
theorem JR.pushOpen {base rb n : Nat} {s key : ByteArray} {out : List Nd} {H H' : List Jh} {e bad : Int} {w w' : World} {v : Value} (h : JR base rb s n out H key e bad w) (k : KeptJ 139 base w w') (hv : JOpen base w' v H') :
    JR base rb s n out H' key e bad (w'.setCell ⟨rb, 3, none⟩ v) := by
  obtain ⟨h1, ov, hh, h2, h3, h4⟩ := h
  have e2 := k.kept.other _ _ _ _ h2 (by decide)
  exact ⟨h1, ov, v, set_heap e2 _, own_set_else (nodes_keptJ h3 k (by decide)) e2 (by decide), hv.set_else e2 (by decide)⟩
theorem JR.kept3 {base rb n : Nat} {s key : ByteArray} {out : List Nd} {H : List Jh} {e bad : Int} {w w' : World} (h : JR base rb s n out H key e bad w) (k : KeptJ 139 base w w') : ∃ v, w'.cell? ⟨rb, 3, none⟩ = some v ∧ w'.frozen? ⟨rb, 3, none⟩ = false := by
  obtain ⟨h1, ov, hh, h2, h3, h4⟩ := h
  have e2 := k.kept.other _ _ _ _ h2 (by decide)
  exact ⟨hh, (cell_of_heap (i := 3) e2).trans rfl, free_of_heap e2⟩
section
variable {base rb : Nat} {s key : ByteArray} {out : List Nd} {H : List Jh} {e bad : Int} {c : UInt8} {r : List UInt8} {y : Ending} {w' : World}
theorem JBeg.no70 (hb : begB c = false) (h1 : ∃ z : Int, y = .returned (.tuple #[.int .i64 z, .bool false])) (h2 : JNoW rb s (c :: r, 70) w') : JBeg base rb s out H key e bad (c :: r) y w' := by
  simp only [JBeg]
  rw [if_pos hb]
  exact ⟨h1, h2⟩
theorem JBeg.no5 (hb : ¬ begB c = false) (ho : 4000 ≤ out.length) (h1 : ∃ z : Int, y = .returned (.tuple #[.int .i64 z, .bool false])) (h2 : JNoW rb s (c :: r, 5) w') : JBeg base rb s out H key e bad (c :: r) y w' := by
  simp only [JBeg]
  rw [if_neg hb, if_pos ho]
  exact ⟨h1, h2⟩
theorem JBeg.no72 (hb : ¬ begB c = false) (ho : ¬ 4000 ≤ out.length) (hH : 64 ≤ H.length) (h1 : ∃ z : Int, y = .returned (.tuple #[.int .i64 z, .bool false])) (h2 : JNoW rb s (c :: r, 72) w') : JBeg base rb s out H key e bad (c :: r) y w' := by
  simp only [JBeg]
  rw [if_neg hb, if_neg ho, if_pos hH]
  exact ⟨h1, h2⟩
theorem JBeg.open_ (hb : ¬ begB c = false) (ho : ¬ 4000 ≤ out.length) (hH : ¬ 64 ≤ H.length) (hc : c = 91 ∨ c = 123) (h1 : y = .returned (.tuple #[.int .i64 (if c = 123 then 3 else 1), .bool true])) (h2 : JOk base rb s (out ++ [⟨kindOf (c == 123), key, 0, none_, 1⟩]) (⟨out.length, []⟩ :: H) none_ e bad r w') : JBeg base rb s out H key e bad (c :: r) y w' := by
  simp only [JBeg]
  rw [if_neg hb, if_neg ho, if_neg hH, if_pos hc]
  exact ⟨h1, h2⟩
theorem JBeg.no_leaf (hb : ¬ begB c = false) (ho : ¬ 4000 ≤ out.length) (hH : ¬ 64 ≤ H.length) (hc : ¬ (c = 91 ∨ c = 123)) {b : Bad} (hl : leafV c (c :: r) = .error b) (h1 : ∃ z : Int, y = .returned (.tuple #[.int .i64 z, .bool false])) (h2 : JNoW rb s b w') : JBeg base rb s out H key e bad (c :: r) y w' := by
  simp only [JBeg]
  rw [if_neg hb, if_neg ho, if_neg hH, if_neg hc, hl]
  exact ⟨h1, h2⟩
theorem JBeg.leaf (hb : ¬ begB c = false) (ho : ¬ 4000 ≤ out.length) (hH : ¬ 64 ≤ H.length) (hc : ¬ (c = 91 ∨ c = 123)) {j : J} {r2 : List UInt8} (hl : leafV c (c :: r) = .ok (j, r2)) (h1 : y = .returned (.tuple #[.int .i64 4, .bool true])) (h2 : JOk base rb s (out ++ (j.rekey key).flat) H none_ e bad r2 w') : JBeg base rb s out H key e bad (c :: r) y w' := by
  simp only [JBeg]
  rw [if_neg hb, if_neg ho, if_neg hH, if_neg hc, hl]
  exact ⟨h1, h2⟩
end
end Go.Proofs.YthlfljmfggmfdaaGreatDoor
