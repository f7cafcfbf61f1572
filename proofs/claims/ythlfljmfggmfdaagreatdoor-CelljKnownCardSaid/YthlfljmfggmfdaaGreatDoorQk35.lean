/-  -/
import Derived.Test.YthlfljmfggmfdaaGreatDoorQk34
import Derived.Test.YthlfljmfggmfdaaGreatDoorQk11
import Derived.Test.YthlfljmfggmfdaaGreatDoorQk05
import Derived.Test.YthlfljmfggmfdaaGreatDoorQk09
import Derived.Maps.OwnSet
import Derived.Maps.OwnOps
import Derived.Deep.RegionHeld3
import Derived.Deep.RegionLaw
/-! ###  -/
namespace Go.Proofs.YthlfljmfggmfdaaGreatDoor
open Go.RowKit
theorem JR.nodeAt {base rb n : Nat} {s key : ByteArray} {out : List Nd} {H : List Jh} {e bad : Int} {w : World} {g cap : Nat} (h : JR base rb s n out H key e bad w) (hc : w.cell? ⟨rb, 2, none⟩ = some (.slice (some ⟨g, 0, none⟩) out.length cap)) (hl : 0 < out.length) :
 base ≤ g ∧ (∀ j u, (ndVals out)[j]? = some u → w.cell? ⟨g, j, none⟩ = some u) ∧ (∀ j, w.frozen? ⟨g, j, none⟩ = false) ∧
  ∀ j u out', ndVals out' = (ndVals out).set j u → out'.length = out.length → JR base rb s n out' H key e bad (w.setCell ⟨g, j, none⟩ u) := by
 obtain ⟨h1, ov, hv, h2, h3, h4⟩ := h
 have hov : ov = .slice (some ⟨g, 0, none⟩) out.length cap := by
  have e := (cell_of_heap (i := 2) h2).symm.trans hc
  have e2 : some ov = some (.slice (some ⟨g, 0, none⟩) out.length cap) := e
  injection e2
 subst hov
 obtain ⟨g', cap', e0, a1, a2, a3, a4, a5, a6⟩ := own_set h3 hl
 injection e0 with e1 _ _
 injection e1 with e1
 injection e1 with e1
 subst e1
 refine ⟨a3, a4, a5, fun j u out' e1 e2 => ?_⟩
 obtain ⟨hl2, h5⟩ := id h3
 obtain ⟨cap', cur, hh⟩ : ∃ cap' cur, w.heap[g]? = some (.cells cur 36 cap') := by
  rcases h5 with ⟨h6, _⟩ | ⟨g', cap', cur, e3, _, hh, _⟩
  · cases h6
  · injection e3 with e3 _ _
    injection e3 with e3
    injection e3 with e3
    subst e3
    exact ⟨_, _, hh⟩
 have hne : g ≠ rb := by
  rintro rfl
  rw [h2] at hh
  injection hh with hh
  injection hh with _ hT _
  exact absurd hT (by decide)
 refine ⟨h1, .slice (some ⟨g, 0, none⟩) out.length cap, hv, ?_, ?_, h4.set_else hh (by decide)⟩
 · rw [((One.refl g w).set j u).block rb (block_lt h2) (Ne.symm hne)]
   exact h2
 · have := a6 j u
   unfold NodesOwn
   rw [e1, e2]
   exact this
theorem JR.node {base rb n : Nat} {s key : ByteArray} {out : List Nd} {H : List Jh} {e bad : Int} {w : World} (h : JR base rb s n out H key e bad w) (hl : 0 < out.length) :
 ∃ g cap, w.cell? ⟨rb, 2, none⟩ = some (.slice (some ⟨g, 0, none⟩) out.length cap) ∧ out.length ≤ cap ∧ cap ≤ maxLen := by
 obtain ⟨h1, ov, hv, h2, h3, h4⟩ := h
 obtain ⟨g, cap, rfl, a1, a2, _⟩ := own_set h3 hl
 exact ⟨g, cap, (cell_of_heap h2).trans rfl, a1, a2⟩
theorem nd_set (pre rest : List Nd) (a : Nd) (z : Int) : ndVals (pre ++ { a with size := z } :: rest) = (ndVals (pre ++ a :: rest)).set (pre.length * 5 + 4) (.int .i64 z) := by
 have e1 : pre ++ { a with size := z } :: rest = pre ++ ([{ a with size := z }] ++ rest) := rfl
 have e2 : pre ++ a :: rest = pre ++ ([a] ++ rest) := rfl
 rw [e1, e2, ndVals_append, ndVals_append, ndVals_append, ndVals_append, List.set_append_right _ _ (by rw [ndVals_length]; omega), ndVals_length, Nat.add_sub_cancel_left, List.set_append_left _ _ (by rw [ndVals_length]; simp)]
 congr 1
theorem nd_last (pre rest : List Nd) (a : Nd) : (ndVals (pre ++ a :: rest))[pre.length * 5 + 4]? = some (.int .i64 a.size) := by
 rw [ndVals_get _ _ _ (by omega) (by simp)]
 simp [Nd.vals]
set_option maxRecDepth 100000 in
set_option maxHeartbeats 1000000 in
theorem leave_run (base rb : Nat) (s : ByteArray) (n : Nat) (pre rest : List Nd) (a : Nd) (had : List ByteArray) (S : List Jh) (key : ByteArray) (e bad : Int) (w : World)
 (h : JR base rb s n (pre ++ a :: rest) (⟨pre.length, had⟩ :: S) key e bad w) (hs : s.size ≤ 1073741824) (hn : n < s.size) (hS : S.length ≤ 64) (ho : (pre ++ a :: rest).length ≤ 4000) :
 Calls Tryz.prog 61 #[.pointer (some ⟨rb, 0, none⟩)] w fun y w' => y = .returned (.tuple #[]) ∧ JR base rb s (n + 1) (pre ++ { a with size := ((rest.length + 1 : Nat) : Int) } :: rest) S key e bad w' ∧ RowKit.Below base w w' := by
 have HJ := hide h
 have hbw := hide (show base ≤ w.heap.size from Nat.le_trans h.low (Nat.le_of_lt h.lt))
 obtain ⟨_, _, ⟨_, x1, _, _, _, _, _⟩, hf, _, _⟩ := h.cells
 have f1 := hf 1
 have LW := hide (show ∀ w1, w1 = w.setCell ⟨rb, 1, none⟩ (.int .i64 ((n : Int) + 1)) → JR base rb s (n + 1) (pre ++ a :: rest) (⟨pre.length, had⟩ :: S) key e bad w1 ∧ RowKit.Below base w w1 from fun w1 hw => by
  subst hw
  exact ⟨h.setAt (n + 1) (by simp), h.keepAt 1 _⟩)
 clear hf h
 go_enter Tryz.func61, Tryz.ntmps61
 go_wp2_with fail
 go_upto_region 1 with fail
 generalize hw1 : w.setCell ⟨rb, 1, none⟩ (.int .i64 ((n : Int) + 1)) = w1
 obtain ⟨j1, b1⟩ := LW.out _ hw1.symm
 have J1 := hide j1
 have B1 := hide b1
 have hb1 := hide (Nat.le_trans hbw.out b1.size)
 obtain ⟨_, jo, hjo, hop⟩ := j1.mem
 have x3 : w1.cell? ⟨rb, 3, none⟩ = some jo := (cell_of_heap hjo).trans rfl
 obtain ⟨L, hL⟩ : ∃ L, Hid (S.length = L) := ⟨_, hide rfl⟩
 obtain ⟨P, hP⟩ : ∃ P, Hid (pre.length = P) := ⟨_, hide rfl⟩
 obtain ⟨R, hR⟩ : ∃ R, Hid (rest.length = R) := ⟨_, hide rfl⟩
 obtain ⟨g, cap, b, rfl, c1, c2, c3, c4, c5, c6, c7⟩ := hop.2.top
 unfold maxLen at c2
 have POP := hide hop.2.pop
 obtain ⟨M, hM⟩ : ∃ M, Hid (L + 1 = M) := ⟨_, hide rfl⟩
 rw [hL.out] at hS x3 c1 c4 c5
 rw [hM.out] at x3 c1
 have hLM : L < M := by have := hM.out; omega
 have hq2 : IntKind.i64.wrap ((M : Int) - 1) = (L : Int) := by rw [← hM.out, show ((L + 1 : Nat) : Int) - 1 = (L : Int) by omega]; exact IntWalk.i64_in _ (by omega)
 simp only [hP.out] at c4
 rw [List.length_append, List.length_cons, hP.out, hR.out] at ho
 have y3 : ∀ w', Old w1 w' → w'.cell? ⟨rb, 3, none⟩ = some (.slice (some ⟨g, 0, none⟩) M cap) := fun w' o => o.cell x3
 have y4 : ∀ w', Old w1 w' → w'.cell? ⟨g, L * 2, none⟩ = some (.int .i64 (P : Int)) := fun w' o => o.cell c4
 have y5 : ∀ w', Old w1 w' → w'.cell? ⟨g, L * 2 + 1, none⟩ = some (.map (some b)) := fun w' o => o.cell c5
 clear LW hw1 j1 b1 hjo hop c6 c7
 go_region_held (fun w' => Old w1 w')
  (first | assumption | (exact Old.drew (Old.refl _)) | (exact Old.alloc (Old.refl _) _) | (exact Old.drew (Old.alloc (Old.refl _) _)) | (exact Old.alloc (Old.drew (Old.refl _)) _) | (exact Old.drew (Old.drew (Old.alloc (Old.refl _) _))) | (exact Old.drew (Old.alloc (Old.drew (Old.refl _)) _)))
  (fail)
 all_goals
  clear y3 y4 y5
  have LW := hide (show ∀ w2, w2 = (w1.alloc (.cells #[.int .i64 (P : Int), .map (some b)] 139)).drew → Old w1 w2 ∧ w2.cell? ⟨w1.heap.size, 0, none⟩ = some (.int .i64 (P : Int)) from fun w2 hw => by
   subst hw
   exact ⟨Old.drew (Old.alloc (Old.refl _) _), (cell_of_heap (heap_alloc_new w1 _)).trans rfl⟩)
  generalize hw2 : (w1.alloc (.cells #[.int .i64 (P : Int), .map (some b)] 139)).drew = w2
  obtain ⟨o2, d2⟩ := LW.out _ hw2.symm
  have J2 := hide (J1.out.old o2)
  have B2 := hide (B1.out.trans (RowKit.Below.mono o2 hb1.out))
  have hb2 := hide (Nat.le_trans hb1.out o2.size)
  have POP2 := hide (POP.out.old o2)
  have x3 := o2.cell x3
  obtain ⟨_, _, _, hf2, _, _⟩ := J2.out.cells
  have f3 := hf2 3
  obtain ⟨q, hq⟩ : ∃ q, w1.heap.size = q := ⟨_, rfl⟩
  rw [hq] at d2 ⊢
  have hqlt : rb < q := by rw [← hq]; exact J1.out.lt
  have HQ := hide hq
  clear hw2 LW o2 hf2 c4 c5 hq
  go_wp2_with fail
  have y3 : ∀ p : Later w2, p.world.cell? ⟨rb, 3, none⟩ = some (.slice (some ⟨g, 0, none⟩) M cap) := fun p => p.old.cell x3
  refine region_later_tail 14 (by kernel_rfl) (by kernel_rfl) ?_
  simp only [List.take_succ_cons, List.take_zero, List.drop_succ_cons, List.drop_zero]
  repeat (go_big_quiet_step (fail))
  refine wpQuiet_nil ?_
  rintro w3 ⟨⟨_, o3⟩, rfl⟩
  have J3 := hide (J2.out.old o3)
  have B3 := hide (B2.out.trans (RowKit.Below.mono o3 hb2.out))
  have hb3 := hide (Nat.le_trans hb2.out o3.size)
  have POP3 := hide (POP2.out.old o3)
  have f3 := (J3.out.cells.choose_spec.choose_spec.2.1) 3
  have d3 := o3.cell d2
  have x33 := o3.cell x3
  clear o3 y3 x3
  have LW := hide (show ∀ w4, w4 = w3.setCell ⟨rb, 3, none⟩ (.slice (some ⟨g, 0, none⟩) L cap) → JR base rb s (n + 1) (pre ++ a :: rest) S key e bad w4 ∧ RowKit.Below base w3 w4 ∧ w4.cell? ⟨q, 0, none⟩ = some (.int .i64 (P : Int)) from fun w4 hw => by
   subst hw
   exact ⟨J3.out.setOpen (by rw [← hL.out]; exact POP3.out), J3.out.keepAt 3 _, ((One.refl rb w3).set 3 _).cell d3 (by simp; omega)⟩)
  go_wp2_with fail
  go_upto_region 3 with fail
  generalize hw4 : w3.setCell ⟨rb, 3, none⟩ (.slice (some ⟨g, 0, none⟩) L cap) = w4
  obtain ⟨j4, b4, d4⟩ := LW.out _ hw4.symm
  have J4 := hide j4
  have B4 := hide (B3.out.trans b4)
  have hb4 := hide (Nat.le_trans hb3.out b4.size)
  obtain ⟨N, hN⟩ : ∃ N, Hid ((pre ++ a :: rest).length = N) := ⟨_, hide rfl⟩
  have hNP : N = P + (R + 1) := by rw [← hN.out, List.length_append, List.length_cons, hP.out, hR.out]
  obtain ⟨gn, cn, e1, e2, e3⟩ := j4.node (by rw [hN.out]; omega)
  unfold maxLen at e3
  have E1 := hide e1
  rw [hN.out] at e1 e2
  have hPN : P < N := by omega
  have hN4 : N ≤ 4000 := by omega
  have NP := hide hNP
  have y2 : ∀ p : Later w4, p.world.cell? ⟨rb, 2, none⟩ = some (.slice (some ⟨gn, 0, none⟩) N cn) := fun p => p.old.cell e1
  have y6 : ∀ p : Later w4, p.world.cell? ⟨q, 0, none⟩ = some (.int .i64 (P : Int)) := fun p => p.old.cell d4
  clear LW hw4 j4 b4 hNP d2 d3 f3 x33 ho
  go_wp2_with fail
  refine region_later_tail 16 (by kernel_rfl) (by kernel_rfl) ?_
  simp only [List.take_succ_cons, List.take_zero, List.drop_succ_cons, List.drop_zero]
  repeat (go_big_quiet_step (fail))
  refine wpQuiet_nil ?_
  rintro w5 ⟨⟨_, o5⟩, rfl⟩
  have J5 := hide (J4.out.old o5)
  obtain ⟨k1, k2, k3, k4⟩ := J5.out.nodeAt (o5.cell E1.out) (by rw [hN.out]; omega)
  have fz := k3 (P * 5 + 4)
  have cz : w5.cell? ⟨gn, P * 5 + 4, none⟩ = some (.int .i64 a.size) := k2 _ _ (by rw [← hP.out]; exact nd_last pre rest a)
  have ST := hide (fun z (hz : z = ((rest.length + 1 : Nat) : Int)) => show JR base rb s (n + 1) (pre ++ { a with size := ((rest.length + 1 : Nat) : Int) } :: rest) S key e bad (w5.setCell ⟨gn, P * 5 + 4, none⟩ (.int .i64 z)) from by
   subst hz
   exact k4 (P * 5 + 4) _ _ (by rw [nd_set, hP.out]) (by simp))
  have BL := hide (fun z => show RowKit.Below base w (w5.setCell ⟨gn, P * 5 + 4, none⟩ (.int .i64 z)) from (B4.out.trans (RowKit.Below.mono o5 hb4.out)).trans ((Below.refl _ _).setCell k1 _))
  clear o5 k2 k3 k4 y2 y6
  go_wp2_with fail
  go_end0
  exact ⟨rfl, ST.out _ (by rw [hR.out, NP.out]; omega), BL.out _⟩
end Go.Proofs.YthlfljmfggmfdaaGreatDoor

/-! ###  -/
namespace Go.Proofs.YthlfljmfggmfdaaGreatDoor
open Go.RowKit
theorem pieceV_out {l r t : List UInt8} (h : pieceV l = .ok (t, r)) : t.length ≤ 4 := by
 have := pcT_len l
 unfold pcT at this
 rw [h] at this
 exact this
theorem unqB_out : ∀ (f : Nat) (l r t : List UInt8), unqB f l = .ok (t, r) → t.length ≤ 4 * l.length
 | 0, _, _, _, h => by cases h
 | f + 1, [], _, _, h => by cases h
 | f + 1, c :: l, r, t, h => by
   simp only [unqB] at h
   split at h
   · injection h with h; injection h with h _; subst h; simp
   split at h
   · cases h
   rename_i t1 r1 h1
   split at h
   · cases h
   rename_i u r2 h2
   have a1 := pieceV_out h1
   have a3 := pieceV_less h1
   have a2 := unqB_out f r1 r2 u h2
   injection h with h; injection h with h _; subst h
   simp only [List.length_append, List.length_cons] at a3 ⊢
   omega
theorem litV_out {l r t : List UInt8} (h : litV l = .ok (t, r)) : t.length ≤ 4 * l.length := by
 cases l with
 | nil => cases h
 | cons c l =>
   simp only [litV] at h
   split at h
   · cases h
   split at h
   · cases h
   · rename_i x hx
     injection h with h
     subst h
     simp only [unqV] at hx
     split at hx
     · cases hx
     · have := unqB_out _ _ _ _ hx
       simp only [List.length_cons]
       omega
def keyM (had : List ByteArray) (l : List UInt8) : Except Bad (ByteArray × List UInt8) :=
 match litV l with
 | .error b => .error b
 | .ok (t, r) => if hasKey had (bT t) = true then .error (l, 71) else match wordV [58] (skipB r) with
   | .error b => .error b
   | .ok r2 => .ok (bT t, r2)
theorem keyM_eq (had : List ByteArray) (l : List UInt8) : keyV true had l = keyM had (skipB l) := by
 unfold keyV keyM
 rw [if_neg (by decide)]
 cases litV (skipB l) with
 | error b => rfl
 | ok x =>
   obtain ⟨t, r⟩ := x
   simp only
   split
   · rfl
   cases skipB r with
   | nil => rfl
   | cons c r2 =>
     simp only [wordV]
     by_cases h : c = 58
     · rw [if_pos h, if_pos h]
     · rw [if_neg h, if_neg h]
def JMem (base rb : Nat) (s : ByteArray) (out : List Nd) (a : Nat) (had : List ByteArray) (S : List Jh) (e bad : Int) (W : Except Bad (ByteArray × List UInt8)) (y : Ending) (w' : World) : Prop :=
 match W with
 | .ok (k, r) => y = .returned (.bool true) ∧ JOk base rb s out (⟨a, had ++ [k]⟩ :: S) k e bad r w'
 | .error b => y = .returned (.bool false) ∧ JNo base rb s b w'
theorem JR.put {base rb n : Nat} {s key k : ByteArray} {out : List Nd} {h0 : Jh} {S : List Jh} {e bad : Int} {w w' : World} {g cap b : Nat} (h : JR base rb s n out (h0 :: S) key e bad w) (hg : w.grownBy w' (some b)) (hk : Keys w' b (h0.had ++ [k])) (hb : Keys w b h0.had)
 (hc3 : w.cell? ⟨rb, 3, none⟩ = some (.slice (some ⟨g, 0, none⟩) (S.length + 1) cap)) (hc : w.cell? ⟨g, S.length * 2 + 1, none⟩ = some (.map (some b))) : JR base rb s n out (⟨h0.at_, h0.had ++ [k]⟩ :: S) key e bad w' := by
 obtain ⟨h1, ov, hv, h2, h3, h4⟩ := h
 have hhv : hv = .slice (some ⟨g, 0, none⟩) (S.length + 1) cap := by
  have e2 : some hv = some (.slice (some ⟨g, 0, none⟩) (S.length + 1) cap) := (cell_of_heap (i := 3) h2).symm.trans hc3
  injection e2
 have hne : rb ≠ b := by
  rintro rfl
  obtain ⟨D, ⟨es, clock, hh, _⟩, _⟩ := hb
  rw [h2] at hh
  cases hh
 refine ⟨h1, ov, hv, ?_, h3.kept hg (.inr (Ne.symm (keys_apart h3 hb))), h4.put hg hk ⟨g, cap, hhv, hc⟩⟩
 rw [hg.block rb (block_lt h2) (by intro e; injection e with e; exact hne e)]
 exact h2
set_option maxRecDepth 100000 in
set_option maxHeartbeats 1000000 in
theorem member_run (base rb : Nat) (s : ByteArray) (n : Nat) (l : List UInt8) (out : List Nd) (a : Nat) (had : List ByteArray) (S : List Jh) (key : ByteArray) (e bad : Int) (w : World) (h : JR base rb s n out (⟨a, had⟩ :: S) key e bad w) (ha : JAt s n l) (hs : s.size ≤ 1073741824) (hE : Ever base w)
 (hS : S.length ≤ 64) (hhad : had.length ≤ 1073741824) :
 Calls Tryz.prog 62 #[.pointer (some ⟨rb, 0, none⟩)] w fun y w' => JMem base rb s out a had S e bad (keyM had l) y w' ∧ RowKit.Below base w w' := by
 have HA := hide ha
 have HE := hide hE
 have hbw := hide (show base ≤ w.heap.size from Nat.le_trans h.low (Nat.le_of_lt h.lt))
 have hn := HA.out.le
 obtain ⟨_, _, ⟨_, x1, _, _, _, _, _⟩, _⟩ := h.cells
 have CL := hide (literal_run base rb s n l out (⟨a, had⟩ :: S) key e bad w h ha hs hE)
 clear h ha hE
 cases hl : litV l with
 | error b =>
   rw [hl] at CL
   have KM := hide (show keyM had l = .error b by unfold keyM; rw [hl])
   clear hl
   go_enter Tryz.func62, Tryz.ntmps62
   go_wp2_with fail
   refine CL.out.mono ?_
   rintro y w1 ⟨⟨rfl, k1⟩, b1⟩
   have K1 := hide k1
   have B1 := hide b1
   clear k1 b1
   go_wp2_with fail
   go_ret
   refine ⟨?_, B1.out⟩
   rw [KM.out]
   exact ⟨rfl, K1.out⟩
 | ok x =>
   obtain ⟨t, r⟩ := x
   rw [hl] at CL
   have hts : (bT t).size ≤ maxLen := by
    have := litV_out hl
    have := HA.out.len
    rw [bT_size]
    unfold maxLen
    omega
   have HTS := hide hts
   obtain ⟨B, hB⟩ : ∃ B, Hid (hasKey had (bT t) = B) := ⟨_, hide rfl⟩
   have KM := hide (show keyM had l = if B = true then .error (l, 71) else match wordV [58] (skipB r) with | .error b => .error b | .ok r2 => .ok (bT t, r2) by
    unfold keyM
    rw [hl, ← hB.out])
   obtain ⟨T, hT⟩ : ∃ T, bT t = T := ⟨_, rfl⟩
   unfold JLit at CL
   simp only [hT] at CL HTS hB KM
   clear hl hts hT
   go_enter Tryz.func62, Tryz.ntmps62
   go_wp2_with fail
   refine CL.out.mono ?_
   rintro y w1 ⟨⟨rfl, k1⟩, b1⟩
   obtain ⟨m, a1, j1⟩ := k1
   have A1 := hide a1
   have J1 := hide j1
   have B1 := hide b1
   have hb1 := hide (Nat.le_trans hbw.out b1.size)
   obtain ⟨_, jo, hjo, hop⟩ := j1.mem
   have x3 : w1.cell? ⟨rb, 3, none⟩ = some jo := (cell_of_heap hjo).trans rfl
   obtain ⟨L, hL⟩ : ∃ L, Hid (S.length = L) := ⟨_, hide rfl⟩
   obtain ⟨g, cap, b, rfl, c1, c2, c3, _, c5, c6, c7⟩ := hop.2.top
   have KB := hide c7
   have X3 := hide x3
   have C5 := hide c5
   unfold maxLen at c2
   obtain ⟨M, hM⟩ : ∃ M, Hid (L + 1 = M) := ⟨_, hide rfl⟩
   rw [hL.out] at hS x3 c1 c5
   rw [hM.out] at x3 c1
   have hLM : L < M := by have := hM.out; omega
   have hq2 : IntKind.i64.wrap ((M : Int) - 1) = (L : Int) := by rw [← hM.out, show ((L + 1 : Nat) : Int) - 1 = (L : Int) by omega]; exact IntWalk.i64_in _ (by omega)
   have y3 : ∀ p : Later w1, p.world.cell? ⟨rb, 3, none⟩ = some (.slice (some ⟨g, 0, none⟩) M cap) := fun p => p.old.cell x3
   have y5 : ∀ p : Later w1, p.world.cell? ⟨g, L * 2 + 1, none⟩ = some (.map (some b)) := fun p => p.old.cell c5
   clear a1 j1 b1 hjo hop x1 CL x3 c5 c7
   go_wp2_with fail
   refine region_later (by kernel_rfl) (by kernel_rfl) ?_
   repeat (go_big_quiet_step (fail))
   refine wpQuiet_nil ?_
   rintro w2 ⟨⟨_, o2⟩, rfl⟩
   have J2 := hide (J1.out.old o2)
   have B2 := hide (B1.out.trans (RowKit.Below.mono o2 hb1.out))
   have hb2 := hide (Nat.le_trans hb1.out o2.size)
   have K2 := hide (KB.out.old o2)
   have X32 := hide (o2.cell X3.out)
   have C52 := hide (o2.cell C5.out)
   clear o2 y3 y5
   cases B with
   | true =>
     have CF := hide (jfail_run base rb s m out (⟨a, had⟩ :: S) key e bad w2 J2.out (n : Int) 71)
     go_wp2_with (at_lookup; refine wpList_look_keysC _ rfl _ _ 105 rfl Tryz.underlying105 _ had rfl K2.out T rfl HTS.out true hB.out ?_; intro c0)
     refine CF.out.mono ?_
     rintro y w3 ⟨rfl, j3, b3⟩
     have J3 := hide j3
     have B3 := hide (B2.out.trans b3)
     clear j3 b3
     go_wp2_with fail
     go_ret
     refine ⟨?_, B3.out⟩
     rw [KM.out, if_pos (by decide)]
     exact ⟨rfl, n, m, out, ⟨a, had⟩ :: S, key, HA.out, J3.out⟩
   | false =>
     have hh63 : had.length < maxLen := by unfold maxLen; omega
     go_upto_region 10 with (first
      | (at_lookup; refine wpList_look_keysC _ rfl _ _ 105 rfl Tryz.underlying105 _ had rfl K2.out T rfl HTS.out false hB.out ?_; intro c0)
      | (at_mapUpdate; refine wpList_put_keys _ rfl _ _ _ 105 rfl Tryz.underlying105 _ had rfl K2.out hh63 T rfl HTS.out n rfl (WalkArith.wf_i64 (by omega)) ?_; intro w3 K3 G3))
     have J3 := hide (J2.out.put G3 K3 K2.out X32.out C52.out)
     have B3 := hide (show RowKit.Below base w w3 from B2.out.grown G3 hb2.out (fun k hk => by injection hk with hk; subst hk; exact c6))
     obtain ⟨_, _, ⟨_, _, _, _, x4, _, _⟩, hf, _, _⟩ := J3.out.cells
     have f4 := hf 4
     have LW := hide (show ∀ w4, w4 = w3.setCell ⟨rb, 4, none⟩ (.string T) → JR base rb s m out (⟨a, had ++ [T]⟩ :: S) T e bad w4 ∧ RowKit.Below base w w4 from fun w4 hw => by
      subst hw
      exact ⟨J3.out.setKey T, B3.out.trans (J3.out.keepAt 4 _)⟩)
     clear K3 G3 hf
     go_upto_region 11 with fail
     generalize hw4 : w3.setCell ⟨rb, 4, none⟩ (.string T) = w4
     obtain ⟨j4, b4⟩ := LW.out _ hw4.symm
     have B4 := hide b4
     have CB := hide (blanks_run base rb s m r out (⟨a, had ++ [T]⟩ :: S) T e bad w4 j4 A1.out hs)
     clear LW hw4 j4 b4 x4 f4
     go_wp2_with fail
     refine CB.out.mono ?_
     rintro y w5 ⟨rfl, ⟨m5, a5, j5⟩, b5⟩
     have B5 := hide (B4.out.trans b5)
     have CW := hide (word_run base rb s m5 (skipB r) out (⟨a, had ++ [T]⟩ :: S) T e bad w5 j5 a5 hs ⟨#[58]⟩ (by decide) (wordV [58] (skipB r)) rfl)
     obtain ⟨W, hW⟩ : ∃ W, Hid (wordV [58] (skipB r) = W) := ⟨_, hide rfl⟩
     rw [hW.out] at CW KM
     clear a5 j5 b5
     go_wp2_with fail
     refine CW.out.mono ?_
     rintro y w6 ⟨k6, b6⟩
     have B6 := hide (B5.out.trans b6)
     clear b6
     cases W with
     | error b0 =>
       obtain ⟨rfl, k6⟩ := k6
       have K6 := hide k6
       clear k6
       go_wp2_with fail
       go_ret
       refine ⟨?_, B6.out⟩
       rw [KM.out, if_neg (by decide)]
       exact ⟨rfl, K6.out⟩
     | ok r2 =>
       obtain ⟨rfl, k6⟩ := k6
       have K6 := hide k6
       clear k6
       go_wp2_with fail
       go_ret
       refine ⟨?_, B6.out⟩
       rw [KM.out, if_neg (by decide)]
       exact ⟨rfl, K6.out⟩
end Go.Proofs.YthlfljmfggmfdaaGreatDoor

/-! ###  -/
namespace Go.Proofs.YthlfljmfggmfdaaGreatDoor
open Go.RowKit
def moreM (obj : Bool) (l : List UInt8) : Except Bad (Bool × List UInt8) :=
 match l with
 | [] => .error ([], 70)
 | c :: r => if c = 44 then .ok (true, r) else if c = lastOf obj then .ok (false, r) else .error (c :: r, 70)
theorem moreM_eq (obj : Bool) (l : List UInt8) : moreV obj l = moreM obj (skipB l) := by
 unfold moreV moreM
 cases skipB l <;> rfl
def endNd (a : Nd) (rest : List Nd) : Nd := { a with size := ((rest.length + 1 : Nat) : Int) }
def JBeh (base rb : Nat) (s : ByteArray) (pre rest : List Nd) (a : Nd) (had : List ByteArray) (S : List Jh) (key : ByteArray) (e bad : Int) (obj : Bool) (W : Except Bad (Bool × List UInt8)) (y : Ending) (w' : World) : Prop :=
 match W with
 | .ok (true, r) => y = .returned (.tuple #[.int .i64 (if obj then 2 else 0), .bool true]) ∧ JOk base rb s (pre ++ a :: rest) (⟨pre.length, had⟩ :: S) key e bad r w'
 | .ok (false, r) => y = .returned (.tuple #[.int .i64 4, .bool true]) ∧ JOk base rb s (pre ++ endNd a rest :: rest) S key e bad r w'
 | .error b => y = .returned (.tuple #[.int .i64 0, .bool false]) ∧ JNo base rb s b w'
theorem nd_kind (pre rest : List Nd) (a : Nd) : (ndVals (pre ++ a :: rest))[pre.length * 5]? = some (.int .i64 a.kind) := by
 have := ndVals_get (pre ++ a :: rest) pre.length 0 (by omega) (by simp)
 rw [Nat.add_zero] at this
 rw [this]
 simp [Nd.vals]
theorem moreM_yes {obj : Bool} {r : List UInt8} : moreM obj (44 :: r) = .ok (true, r) := by simp [moreM]
theorem moreM_end {obj : Bool} {r : List UInt8} : moreM obj (lastOf obj :: r) = .ok (false, r) := by
 simp only [moreM]
 rw [if_neg (by cases obj <;> decide), if_pos trivial]
theorem moreM_no {obj : Bool} {l : List UInt8} (h1 : nowB [44] l = false) (h2 : nowB [lastOf obj] l = false) : moreM obj l = .error (l, 70) := by
 cases l with
 | nil => rfl
 | cons c r =>
   simp only [nowB, List.mem_singleton, decide_eq_false_iff_not] at h1 h2
   simp only [moreM]
   rw [if_neg h1, if_neg h2]
set_option maxRecDepth 100000 in
set_option maxHeartbeats 1000000 in
theorem behind_run (base rb : Nat) (s : ByteArray) (n : Nat) (l : List UInt8) (pre rest : List Nd) (a : Nd) (obj : Bool) (had : List ByteArray) (S : List Jh) (key : ByteArray) (e bad : Int) (w : World)
 (h : JR base rb s n (pre ++ a :: rest) (⟨pre.length, had⟩ :: S) key e bad w) (ha : JAt s n l) (hs : s.size ≤ 1073741824) (hS : S.length ≤ 64) (ho : (pre ++ a :: rest).length ≤ 4000) (hk : a.kind = kindOf obj) :
 Calls Tryz.prog 63 #[.pointer (some ⟨rb, 0, none⟩)] w fun y w' => JBeh base rb s pre rest a had S key e bad obj (moreM obj l) y w' ∧ RowKit.Below base w w' := by
 have HJ := hide h
 have HA := hide ha
 have HO := hide ho
 have HS := hide hS
 have hbw := hide (show base ≤ w.heap.size from Nat.le_trans h.low (Nat.le_of_lt h.lt))
 have hn := HA.out.le
 obtain ⟨_, jo, hjo, hop⟩ := h.mem
 have x3 : w.cell? ⟨rb, 3, none⟩ = some jo := (cell_of_heap hjo).trans rfl
 obtain ⟨L, hL⟩ : ∃ L, Hid (S.length = L) := ⟨_, hide rfl⟩
 obtain ⟨P, hP⟩ : ∃ P, Hid (pre.length = P) := ⟨_, hide rfl⟩
 obtain ⟨N, hN⟩ : ∃ N, Hid ((pre ++ a :: rest).length = N) := ⟨_, hide rfl⟩
 have hPN : P < N := by rw [← hN.out, List.length_append, List.length_cons, hP.out]; omega
 obtain ⟨g, cap, b, rfl, c1, c2, c3, c4, c5, c6, c7⟩ := hop.2.top
 unfold maxLen at c2
 obtain ⟨M, hM⟩ : ∃ M, Hid (L + 1 = M) := ⟨_, hide rfl⟩
 rw [hL.out] at hS x3 c1 c4
 rw [hM.out] at x3 c1
 simp only [hP.out] at c4
 have hLM : L < M := by have := hM.out; omega
 have hq2 : IntKind.i64.wrap ((M : Int) - 1) = (L : Int) := by rw [← hM.out, show ((L + 1 : Nat) : Int) - 1 = (L : Int) by omega]; exact IntWalk.i64_in _ (by omega)
 obtain ⟨gn, cn, e1, e2, e3⟩ := h.node (by rw [hN.out]; omega)
 obtain ⟨k1, k2, k3, k4⟩ := h.nodeAt e1 (by rw [hN.out]; omega)
 have e5 : w.cell? ⟨gn, P * 5, none⟩ = some (.int .i64 (kindOf obj)) := by rw [← hk]; exact k2 _ _ (by rw [← hP.out]; exact nd_kind pre rest a)
 rw [hN.out] at ho e1 e2
 unfold maxLen at e3
 have y2 : ∀ p : Later w, p.world.cell? ⟨rb, 2, none⟩ = some (.slice (some ⟨gn, 0, none⟩) N cn) := fun p => p.old.cell e1
 have y3 : ∀ p : Later w, p.world.cell? ⟨rb, 3, none⟩ = some (.slice (some ⟨g, 0, none⟩) M cap) := fun p => p.old.cell x3
 have y4 : ∀ p : Later w, p.world.cell? ⟨g, L * 2, none⟩ = some (.int .i64 (P : Int)) := fun p => p.old.cell c4
 have y5 : ∀ p : Later w, p.world.cell? ⟨gn, P * 5, none⟩ = some (.int .i64 (kindOf obj)) := fun p => p.old.cell e5
 have hko : (kindOf obj == 7) = obj := by cases obj <;> decide
 clear h ha hk x3 c4 c5 c7 e1 e5 k2 k3 k4 hjo hop
 go_enter Tryz.func63, Tryz.ntmps63
 go_wp2_with fail
 refine region_later (by kernel_rfl) (by kernel_rfl) ?_
 repeat (go_big_quiet_step (fail))
 refine wpQuiet_nil ?_
 rintro w1 ⟨⟨_, o1⟩, rfl⟩
 have J1 := hide (HJ.out.old o1)
 have B1 := hide (RowKit.Below.mono o1 hbw.out)
 have hb1 := hide (Nat.le_trans hbw.out B1.out.size)
 clear o1 y2 y3 y4 y5 hq2 hLM hPN c1 c2 e2 e3
 obtain ⟨B, hB⟩ : ∃ B, Hid (nowB [44] l = B) := ⟨_, hide rfl⟩
 have C1 := hide (ask_run base rb s n l _ _ key e bad w1 J1.out HA.out 44 44 (by decide) B hB.out _ rfl)
 go_wp2_with fail
 refine C1.out.mono ?_
 rintro y w2 ⟨rfl, o2⟩
 have J2 := hide (J1.out.old o2)
 have B2 := hide (B1.out.trans (RowKit.Below.mono o2 hb1.out))
 have hb2 := hide (Nat.le_trans hbw.out B2.out.size)
 obtain ⟨_, _, ⟨_, x1, _, _, _, _, _⟩, hf, _, _⟩ := J2.out.cells
 have f1 := hf 1
 clear o2 C1 hf
 cases B with
 | true =>
   obtain ⟨r, hr⟩ := now_yes hB.out
   have hA := HA.out
   rw [hr] at hA
   have NX := hide hA.next
   have MM := hide (show moreM obj l = .ok (true, r) by rw [hr]; exact moreM_yes)
   have KK := hide (show JOk base rb s (pre ++ a :: rest) (⟨pre.length, had⟩ :: S) key e bad r (w2.setCell ⟨rb, 1, none⟩ (.int .i64 ((n : Int) + 1))) from ⟨n + 1, NX.out, J2.out.setAt (n + 1) (by simp)⟩)
   have B3 := hide (B2.out.trans (J2.out.keepAt 1 (.int .i64 ((n : Int) + 1))))
   clear hr hA
   cases obj
   · go_wp2_with fail
     go_ret2
     refine ⟨?_, B3.out⟩
     rw [MM.out]
     exact ⟨rfl, KK.out⟩
   · go_wp2_with fail
     go_ret2
     refine ⟨?_, B3.out⟩
     rw [MM.out]
     exact ⟨rfl, KK.out⟩
 | false =>
   obtain ⟨B', hB'⟩ : ∃ B', Hid (nowB [lastOf obj] l = B') := ⟨_, hide rfl⟩
   cases obj with
   | false =>
     have C2 := hide (ask_run base rb s n l _ _ key e bad w2 J2.out HA.out 93 93 (by decide) B' hB'.out _ rfl)
     go_wp2_with fail
     refine C2.out.mono ?_
     rintro y w3 ⟨rfl, o3⟩
     have J3 := hide (J2.out.old o3)
     have B3 := hide (B2.out.trans (RowKit.Below.mono o3 hb2.out))
     obtain ⟨_, _, ⟨_, x13, _, _, _, _, _⟩, _⟩ := J3.out.cells
     clear o3 C2 x1 f1
     cases B' with
     | false =>
       have MM := hide (moreM_no hB.out hB'.out)
       have CF := hide (jfail_run base rb s n _ _ key e bad w3 J3.out (n : Int) 70)
       go_wp2_with fail
       refine CF.out.mono ?_
       rintro y w4 ⟨rfl, j4, b4⟩
       have J4 := hide j4
       have B4 := hide (B3.out.trans b4)
       clear j4 b4
       go_wp2_with fail
       go_ret2
       refine ⟨?_, B4.out⟩
       rw [MM.out]
       exact ⟨rfl, n, n, _, _, key, HA.out, J4.out⟩
     | true =>
       obtain ⟨r, hr⟩ := now_yes hB'.out
       have hA := HA.out
       rw [hr] at hA
       have NX := hide hA.next
       have MM := hide (show moreM _ l = .ok (false, r) by rw [hr]; exact moreM_end)
       have hlt : n < s.size := (byte_at hA.rest).1
       have CV := hide (leave_run base rb s n pre rest a had S key e bad w3 J3.out hs hlt HS.out HO.out)
       clear hr hA
       go_wp2_with fail
       refine CV.out.mono ?_
       rintro y w4 ⟨rfl, j4, b4⟩
       have J4 := hide j4
       have B4 := hide (B3.out.trans b4)
       clear j4 b4
       go_wp2_with fail
       go_ret2
       refine ⟨?_, B4.out⟩
       rw [MM.out]
       exact ⟨rfl, n + 1, NX.out, J4.out⟩
   | true =>
     have C2 := hide (ask_run base rb s n l _ _ key e bad w2 J2.out HA.out 125 125 (by decide) B' hB'.out _ rfl)
     go_wp2_with fail
     refine C2.out.mono ?_
     rintro y w3 ⟨rfl, o3⟩
     have J3 := hide (J2.out.old o3)
     have B3 := hide (B2.out.trans (RowKit.Below.mono o3 hb2.out))
     obtain ⟨_, _, ⟨_, x13, _, _, _, _, _⟩, _⟩ := J3.out.cells
     clear o3 C2 x1 f1
     cases B' with
     | false =>
       have MM := hide (moreM_no hB.out hB'.out)
       have CF := hide (jfail_run base rb s n _ _ key e bad w3 J3.out (n : Int) 70)
       go_wp2_with fail
       refine CF.out.mono ?_
       rintro y w4 ⟨rfl, j4, b4⟩
       have J4 := hide j4
       have B4 := hide (B3.out.trans b4)
       clear j4 b4
       go_wp2_with fail
       go_ret2
       refine ⟨?_, B4.out⟩
       rw [MM.out]
       exact ⟨rfl, n, n, _, _, key, HA.out, J4.out⟩
     | true =>
       obtain ⟨r, hr⟩ := now_yes hB'.out
       have hA := HA.out
       rw [hr] at hA
       have NX := hide hA.next
       have MM := hide (show moreM _ l = .ok (false, r) by rw [hr]; exact moreM_end)
       have hlt : n < s.size := (byte_at hA.rest).1
       have CV := hide (leave_run base rb s n pre rest a had S key e bad w3 J3.out hs hlt HS.out HO.out)
       clear hr hA
       go_wp2_with fail
       refine CV.out.mono ?_
       rintro y w4 ⟨rfl, j4, b4⟩
       have J4 := hide j4
       have B4 := hide (B3.out.trans b4)
       clear j4 b4
       go_wp2_with fail
       go_ret2
       refine ⟨?_, B4.out⟩
       rw [MM.out]
       exact ⟨rfl, n + 1, NX.out, J4.out⟩
end Go.Proofs.YthlfljmfggmfdaaGreatDoor

/-! ###  -/
namespace Go.Proofs.YthlfljmfggmfdaaGreatDoor
open Go.RowKit
def kindB (c : UInt8) : Int := if c.toNat = 34 then 5 else if c.toNat = 91 then 6 else if c.toNat = 102 then 2 else if c.toNat = 110 then 1 else if c.toNat = 116 then 3 else if c.toNat = 123 then 7 else 0
def dKind : DataW Unit := .map [(.int .u8 34, .lit (.int .i64 5)), (.int .u8 91, .lit (.int .i64 6)), (.int .u8 102, .lit (.int .i64 2)), (.int .u8 110, .lit (.int .i64 1)), (.int .u8 116, .lit (.int .i64 3)), (.int .u8 123, .lit (.int .i64 7))]
theorem dKind_at (n : Nat) : dKind.atKey (.int .u8 (n : Int)) (.lit (.int .i64 0)) = .lit (.int .i64 (if n = 34 then 5 else if n = 91 then 6 else if n = 102 then 2 else if n = 110 then 1 else if n = 116 then 3 else if n = 123 then 7 else 0)) := by
 repeat' split
 all_goals first | (subst_vars; rfl) | skip
 unfold dKind
 simp only [DataW.atKey, List.find?_cons, Lit.sameKey]
 have e : ∀ k : Int, k ≠ (n : Int) → decide (k = (n : Int)) = false := fun k hk => by simpa using hk
 simp [e 34 (by omega), e 91 (by omega), e 102 (by omega), e 110 (by omega), e 116 (by omega), e 123 (by omega)]
abbrev MapKind (b : Nat) (w : World) : Prop := w.ownsMap (H := Unit) Tryz.prog 5 (plainElem Tryz.prog 3) b 6 dKind
theorem MapKind.same {b : Nat} {w w' : World} (h : MapKind b w) (e : ∀ o, w.heap[b]? = some o → w'.heap[b]? = some o) : MapKind b w' := by
 obtain ⟨es, clock, hb, F, hs, hD⟩ := h
 exact ⟨es, clock, e _ hb, F, hs, hD⟩
theorem wpList_kind {ops : Array Oper} {rest : List Oper} {o : Oper} {a : Act} {Q : Exit → Act → World → Prop} (w : World) (hg : o.guard = none) (m x : Operand) (hop : o.op = Op.lookup 141 m x false)
 (b : Nat) (hm : a.eval m = .map (some b)) (hk : MapKind b w) (c : UInt8) (hx : a.eval x = .int .u8 (c.toNat : Int)) (K : Int) (hK0 : kindB c = K)
 (hK : wpList Tryz.prog ops Q rest (a.put o.dst (.int .i64 K)) w) : wpList Tryz.prog ops Q (o :: rest) a w := by
 refine wpList_lookup_own_int w hg m x _ hop 5 3 .i64 (Maps.int_keyed Tryz.underlying5) Tryz.underlying141 Tryz.underlying3 (zeroInt w) b 6 dKind hm hk (.int .u8 (c.toNat : Int)) (.int .u8 (c.toNat : Int)) hx
  (Maps.keyOf_int_mk Tryz.underlying5 (a := (c.toNat : Int)) (by have := c.toNat_lt; exact WalkArith.wf_u8 (by omega))) ?_
 intro k hk2 _
 rw [dKind_at] at hk2
 injection hk2 with hk2
 injection hk2 with _ hk2
 have e : K = k := by rw [← hK0, ← hk2]; rfl
 subst e
 exact hK
theorem kinds_made (w : World) : ∃ w1 w2 w3 w4 w5 w6,
 (Instr.mapUpdate 141 (.map (some w.heap.size)) (.int .u8 110) (.int .i64 1)).run Tryz.prog (w.alloc (.map #[] 0)) = .ok () w1 ∧ (Instr.mapUpdate 141 (.map (some w.heap.size)) (.int .u8 102) (.int .i64 2)).run Tryz.prog w1 = .ok () w2 ∧
 (Instr.mapUpdate 141 (.map (some w.heap.size)) (.int .u8 116) (.int .i64 3)).run Tryz.prog w2 = .ok () w3 ∧ (Instr.mapUpdate 141 (.map (some w.heap.size)) (.int .u8 34) (.int .i64 5)).run Tryz.prog w3 = .ok () w4 ∧
 (Instr.mapUpdate 141 (.map (some w.heap.size)) (.int .u8 91) (.int .i64 6)).run Tryz.prog w4 = .ok () w5 ∧ (Instr.mapUpdate 141 (.map (some w.heap.size)) (.int .u8 123) (.int .i64 7)).run Tryz.prog w5 = .ok () w6 ∧ MapKind w.heap.size w6 ∧ Old w w6 := by
 have K := Maps.int_keyed Tryz.underlying5
 have O0 : Old w (w.alloc (.map #[] 0)) := Old.alloc (Old.refl _) _
 have own0 := World.ownsMap_made (H := Unit) w Tryz.prog 5 (plainElem Tryz.prog 3)
 obtain ⟨w1, r1, own1, g1⟩ := own0.update K Tryz.underlying141 (by unfold maxLen; omega) (key := .int .u8 110) (Maps.keyOf_int_mk Tryz.underlying5 (a := 110) (by decide)) (val := .int .i64 1) (plainElem_int Tryz.underlying3 (a := 1) (by decide))
 obtain ⟨w2, r2, own2, g2⟩ := own1.update K Tryz.underlying141 (by unfold maxLen; omega) (key := .int .u8 102) (Maps.keyOf_int_mk Tryz.underlying5 (a := 102) (by decide)) (val := .int .i64 2) (plainElem_int Tryz.underlying3 (a := 2) (by decide))
 obtain ⟨w3, r3, own3, g3⟩ := own2.update K Tryz.underlying141 (by unfold maxLen; omega) (key := .int .u8 116) (Maps.keyOf_int_mk Tryz.underlying5 (a := 116) (by decide)) (val := .int .i64 3) (plainElem_int Tryz.underlying3 (a := 3) (by decide))
 obtain ⟨w4, r4, own4, g4⟩ := own3.update K Tryz.underlying141 (by unfold maxLen; omega) (key := .int .u8 34) (Maps.keyOf_int_mk Tryz.underlying5 (a := 34) (by decide)) (val := .int .i64 5) (plainElem_int Tryz.underlying3 (a := 5) (by decide))
 obtain ⟨w5, r5, own5, g5⟩ := own4.update K Tryz.underlying141 (by unfold maxLen; omega) (key := .int .u8 91) (Maps.keyOf_int_mk Tryz.underlying5 (a := 91) (by decide)) (val := .int .i64 6) (plainElem_int Tryz.underlying3 (a := 6) (by decide))
 obtain ⟨w6, r6, own6, g6⟩ := own5.update K Tryz.underlying141 (by unfold maxLen; omega) (key := .int .u8 123) (Maps.keyOf_int_mk Tryz.underlying5 (a := 123) (by decide)) (val := .int .i64 7) (plainElem_int Tryz.underlying3 (a := 7) (by decide))
 have st : ∀ {a b : World}, Old w a → a.grownBy b (some w.heap.size) → Old w b := fun ho hg => Below.grown ho hg ho.size fun k hk => by cases hk; exact Nat.le_refl _
 exact ⟨w1, w2, w3, w4, w5, w6, r1, r2, r3, r4, r5, r6, own6, st (st (st (st (st (st O0 g1) g2) g3) g4) g5) g6⟩
theorem step_push_nd {o : Oper} {a : Act} {K : Act → World → Prop} {Q : Exit → Act → World → Prop} (w : World) (s x : Operand)
 (ho : o.op = .call { callee := .builtin .append, args := #[s, x], argTypes := #[24, 24] })
 (base : Nat) (v : Value) (r : List Nd) (hs : a.eval s = v) (hown : NodesOwn base w v r)
 (xv : Value) (q : List Nd) (hev : a.eval x = xv) (hx : NodesIs w xv q) (hlen : r.length + q.length ≤ 4194304) (hbase : base ≤ w.heap.size)
 (h : ∀ v' w', NodesOwn base w' v' (r ++ q) → KeptJ 36 base w w' → K (a.put o.dst v') w') : o.wp Tryz.prog a w K Q := by
 obtain ⟨i0, hi, hz0, hz1, hz2⟩ := info_parts nodeInfo
 refine wp_append_sl w s x 24 ho base 36 i0 _ 5 56 Tryz.underlying24 hi hz0 hz1 hz2 rfl (by omega) v r.length (ndVals r) hs hown
  xv q.length (ndVals q) hev hx (ndVals_length q) (ndVals_cell q) (by unfold maxLen; omega) (by omega) hbase ?_
 intro v' w' own' hg
 refine h v' w' ?_ (KeptJ.of_grown hown hg hbase)
 unfold NodesOwn
 rw [ndVals_append, List.length_append]
 exact own'
theorem nd_one (w : World) (kind size : Int) (key : ByteArray) (g : Nat) (hg : w.heap.size = g) : NodesIs (w.alloc (.cells #[.int .i64 kind, .string key, .int .i64 0, .string ⟨#[]⟩, .int .i64 size] 36)) (.slice (some ⟨g, 0, none⟩) 1 1) [⟨kind, key, 0, none_, size⟩] := by
 subst hg
 refine ⟨_, _, rfl, Nat.le_refl _, by unfold maxLen; omega, fun _ => ⟨w.heap.size, 0, rfl, fun j u hu => ?_⟩⟩
 rw [Nat.zero_add, cell_of_heap (heap_alloc_new w _)]
 rw [ndVals_one] at hu
 match j, hu with
 | 0, hu => exact hu
 | 1, hu => exact hu
 | 2, hu => exact hu
 | 3, hu => exact hu
 | 4, hu => exact hu
 | j + 5, hu => simp [Nd.vals] at hu
theorem JR.push {base rb n : Nat} {s key : ByteArray} {out out' : List Nd} {H : List Jh} {e bad : Int} {w w' : World} {v : Value} (h : JR base rb s n out H key e bad w) (k : KeptJ 36 base w w') (hv : NodesOwn base w' v out') :
 JR base rb s n out' H key e bad (w'.setCell ⟨rb, 2, none⟩ v) := by
 obtain ⟨h1, ov, hh, h2, h3, h4⟩ := h
 have e2 := k.kept.other _ _ _ _ h2 (by decide)
 exact ⟨h1, v, hh, set_heap e2 _, own_set_else hv e2 (by decide), (h4.keptJ k (by decide)).set_else e2 (by decide)⟩
structure JMid (base rb : Nat) (cs : Array Value) (w w' : World) : Prop where
 low : RowKit.Below base w w'
 blk : w'.heap[rb]? = some (.cells cs 100 (0, 0))
theorem JMid.drew {base rb : Nat} {cs : Array Value} {w w' : World} (h : JMid base rb cs w w') : JMid base rb cs w w'.drew := ⟨h.low.drew, h.blk⟩
theorem JMid.alloc {base rb : Nat} {cs : Array Value} {w w' : World} (h : JMid base rb cs w w') (hb : base ≤ w.heap.size) (o : Obj) : JMid base rb cs w (w'.alloc o) := ⟨h.low.alloc (Nat.le_trans hb h.low.size) o, (Old.alloc (Old.refl w') o).heap h.blk⟩
theorem JMid.push {base rb : Nat} {cs : Array Value} {w w1 w2 : World} (h : JMid base rb cs w w1) (k : KeptJ 36 base w1 w2) : JMid base rb cs w w2 := ⟨h.low.trans k.kept.low, k.kept.other _ _ _ _ h.blk (by decide)⟩
end Go.Proofs.YthlfljmfggmfdaaGreatDoor
