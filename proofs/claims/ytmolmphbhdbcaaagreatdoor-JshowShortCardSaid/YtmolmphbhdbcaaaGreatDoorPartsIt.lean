/- The iterator over the places of a value's parts. -/
import Derived.RangeFuncNested
import Derived.RangeFuncBound
import Derived.RangeFuncCalls
import Derived.RangeFuncLeaves
import Derived.Shelf.Abstract
import Derived.Shelf.RegionOpen
import Derived.WalkKit
import Derived.OwnWalkIn
import Derived.TacticsInMore
import Derived.LoopNIn
import Derived.LoopIn
import Derived.RegionIn
import Derived.BigRegionIn
import Derived.Test.YtmolmphbhdbcaaaGreatDoorUnquW
import Derived.Test.YtmolmphbhdbcaaaGreatDoorQuoteL
import Derived.Test.YtmolmphbhdbcaaaGreatDoorExam
/-! ### The iterator over the places of a value's parts. -/
namespace Go.Proofs.YtmolmphbhdbcaaaGreatDoor
open Go.RowKit Go.Shelf
attribute [local go_sem] Oper.semAt_some

/-- what a round keeps -/
structure IKept (B b : Nat) (w w' : World) : Prop where
  below : Below B w w'
  cells : ∀ k cs T f, w.heap[k]? = some (.cells cs T f) → k ≠ b → T ≠ 5 → w'.heap[k]? = some (.cells cs T f)
theorem IKept.refl (B b : Nat) (w : World) : IKept B b w w := ⟨Below.refl _ _, fun _ _ _ _ h _ _ => h⟩
theorem IKept.trans {B b : Nat} {w w' w'' : World} (h : IKept B b w w') (k : IKept B b w' w'') : IKept B b w w'' :=
  ⟨h.below.trans k.below, fun i cs T f hi hb hT => k.cells i cs T f (h.cells i cs T f hi hb hT) hb hT⟩
theorem WKept.ik {B b : Nat} {w w' : World} (h : WKept B b w w') : IKept B b w w' :=
  ⟨h.below, fun k cs T f hk hb hT => h.others k _ hk (by simpa using hb) (fun c fz e => by injection e with _ e2; exact hT e2)⟩
theorem IKept.putObj {B b l : Nat} {w : World} {o o' : Obj} (hB : B ≤ l) (hl : w.heap[l]? = some o) (ho : o.isCells = false) : IKept B b w (w.putObj l o') := by
  refine ⟨⟨rfl, rfl, rfl, by simp [World.putObj], fun k hk => World.putObj_heap_other (by omega)⟩, fun k cs T f hk _ _ => ?_⟩
  by_cases e : k = l
  · subst e
    rw [hl] at hk
    injection hk with hk
    subst hk
    cases ho
  · exact (World.putObj_heap_other e).trans hk
/-- where a part stands -/
def stK (i : Nat) (l : List J) (k : Nat) : Nat := i + 1 + (J.flats (l.take k)).length
theorem stK_next {i k : Nat} {l : List J} (h : k < l.length) : stK i l (k + 1) = stK i l k + l[k].flat.length := by
  unfold stK
  rw [flats_take_snoc h, List.length_append]
  omega
theorem stK_all (i : Nat) (l : List J) : stK i l l.length = i + 1 + (J.flats l).length := by unfold stK; rw [List.take_length]
theorem stK_drop {t : List Nd} {i k : Nat} {h : Hd} {l : List J} {r : List Nd} (hd : t.drop i = (J.mk h l).flat ++ r) (hk : k < l.length) : t.drop (stK i l k) = l[k].flat ++ (J.flats (l.drop (k + 1)) ++ r) := by
  have e : l = l.take k ++ l[k] :: l.drop (k + 1) := by rw [← List.drop_eq_getElem_cons hk, List.take_append_drop]
  have e2 : J.flats l = J.flats (l.take k) ++ (l[k].flat ++ J.flats (l.drop (k + 1))) := by
    have := congrArg J.flats e
    rw [flats_append] at this
    rw [this]
    simp [J.flats]
  have e3 := congrArg (List.drop ((J.flats (l.take k)).length + 1)) hd
  rw [List.drop_drop] at e3
  have e4 : stK i l k = i + ((J.flats (l.take k)).length + 1) := by unfold stK; omega
  rw [e4, e3, flat_mk, List.cons_append, List.drop_succ_cons, e2, List.append_assoc, List.drop_left, List.append_assoc]

theorem stK_lt {t : List Nd} {i : Nat} {h : Hd} {l : List J} {r : List Nd} (hd : t.drop i = (J.mk h l).flat ++ r) (k : Nat) : i + 1 + (J.flats l).length ≤ t.length ∧ i + 1 ≤ stK i l k ∧ stK i l k ≤ i + 1 + (J.flats l).length := by
  have e := congrArg List.length hd
  rw [List.length_drop, List.length_append, flat_mk, List.length_cons] at e
  have h1 := flats_take_le l k
  unfold stK
  omega
set_option maxRecDepth 100000 in
set_option maxHeartbeats 4000000 in
theorem parts_it (n B b : Nat) (hn1 : 1 ≤ n) (w0 : World) (v : Value) (t : List Nd) (i : Nat) (h : Hd) (l : List J) (r : List Nd) (hn : NodesIs w0 v t) (ht4 : t.length ≤ 4000) (hB0 : w0.heap.size ≤ B) (hd : t.drop i = (J.mk h l).flat ++ r)
    (ab tb : Nat) (w : World) (ho : Old w0 w) (hab : w.heap[ab]? = some (.cells #[.int .i64 i] 3 (0, 0))) (htb : w.heap[tb]? = some (.cells #[v] 22 (0, 0))) (hb1 : ab ≠ b) (hb2 : tb ≠ b) :
    SeqStopsK Fence.wide n Tryz.prog 90 #[.pointer (some ⟨ab, 0, none⟩), .pointer (some ⟨tb, 0, none⟩)] (fun k : Fin l.length => #[.int .i64 (stK i l k.val : Nat)]) (IKept B b)
      (fun xs => xs = List.finRange l.length) (fun _ => True) l.length w := fun lp Iv Ix W hW hJ hJx hY h0 => by
  refine callsIn_of_wp Tryz.func90 rfl trivial ?_ rfl
  simp only [Tryz.ntmps90, List.size_toArray, List.length_cons, List.length_nil, Nat.reduceAdd, Nat.reduceSub, Array.replicate_succ, Array.replicate_zero, List.push_toArray, List.append_toArray, List.nil_append, List.cons_append]
  obtain ⟨A, cap, rfl, hcl, hcm, hcc⟩ := hn.nodes
  have fab : W.heap[ab]? = some (.cells #[.int .i64 i] 3 (0, 0)) := (hW.block ab (Array.getElem?_eq_some_iff.1 hab).1).trans hab
  have ftb : W.heap[tb]? = some (.cells #[.slice A t.length cap] 22 (0, 0)) := (hW.block tb (Array.getElem?_eq_some_iff.1 htb).1).trans htb
  have c1 : W.cell? ⟨ab, 0, none⟩ = some (.int .i64 i) := by rw [cell_of_heap fab]; rfl
  have FAB := hide fab
  have FTB := hide ftb
  have OW := hide (show Old w0 W from Below.trans ho (hW.mono ho.size))
  have HY := hide hY
  have HD := hide hd
  have NI := hide hn
  have LT := hide (show ∀ k, i + 1 + (J.flats l).length ≤ t.length ∧ i + 1 ≤ stK i l k ∧ stK i l k ≤ i + 1 + (J.flats l).length from fun k => stK_lt hd k)
  obtain ⟨F, hF⟩ : ∃ F, Hid ((J.flats l).length = F) := ⟨_, hide rfl⟩
  obtain ⟨m, hm⟩ : ∃ m, Hid (t.length = m) := ⟨_, hide rfl⟩
  obtain ⟨L, hL⟩ : ∃ L, Hid (l.length = L) := ⟨_, hide rfl⟩
  have l0 := LT.out 0
  rw [hF.out, hm.out] at l0
  rw [hm.out] at ht4 hcl FTB
  unfold maxLen at hcm
  have S0 := hide (show stK i l 0 = i + 1 by simp [stK, J.flats])
  clear fab ftb hab htb hW hY hcc hd hn
  gi_wp2
  gi_loopw [4] (fun p wr => ∃ k q : Nat, k ≤ L ∧ p = .int .i64 q ∧ i + 1 ≤ q ∧ q ≤ i + 1 + F ∧ Hid (stK i l k = q) ∧ Hid (Iv ((List.finRange l.length).take k) wr) ∧ Hid (IKept B b W wr)) (fun p wr => i + 1 + F - (intOf p).toNat)
  case atStart => exact ⟨0, i + 1, Nat.zero_le _, by first | rfl | (congr 1; omega), by omega, by omega, S0, hide h0, hide (IKept.refl _ _ _)⟩
  case round =>
    obtain ⟨k, q, hk, rfl, hq1, hq2, hq, HJ, HK⟩ := hrel
    clear c1
    have OR := hide (show Old w0 wr from Below.trans OW.out (HK.out.below.mono hB0))
    have c1 : wr.cell? ⟨ab, 0, none⟩ = some (.int .i64 i) := by rw [cell_of_heap (HK.out.cells _ _ _ _ FAB.out hb1 (by decide))]; rfl
    have c2 : wr.cell? ⟨tb, 0, none⟩ = some (.slice A m cap) := by rw [cell_of_heap (HK.out.cells _ _ _ _ FTB.out hb2 (by decide))]; rfl
    have hroot : t[i]? = some ⟨h.kind, h.key, h.n, h.s, ((J.flats l).length : Int) + 1⟩ := by
      have e := congrArg List.head? HD.out
      rw [List.head?_drop, flat_mk] at e
      simpa using e
    obtain ⟨g, off, rfl, _, _, _, _, z4⟩ := nodes_cells NI.out hroot
    have c3 := OR.out.cell z4
    simp only [hF.out] at c3
    have him : i < m := by omega
    by_cases hkL : k < L
    · have hkl : k < l.length := by rw [hL.out]; exact hkL
      have nx := stK_next (i := i) hkl
      rw [hq.out] at nx
      have fp := flat_pos l[k]
      have lk := (LT.out (k + 1)).2.2
      rw [nx, hF.out] at lk
      obtain ⟨z, hz⟩ : ∃ z, Hid (l[k].flat.length = z) := ⟨_, hide rfl⟩
      rw [hz.out] at nx fp lk
      have dk := stK_drop HD.out hkl
      rw [hq.out] at dk
      obtain ⟨hql, hnode⟩ := head_flat dk
      obtain ⟨g', off', he, _, _, _, _, y4⟩ := nodes_cells NI.out (List.getElem?_eq_getElem hql)
      injection he with he
      injection he with e1 e2 e3
      subst e1 e2
      rw [hnode] at y4
      simp only [hz.out] at y4
      have NX := hide nx
      have hqi : (q : Int) < (i : Int) + ((F : Int) + 1) := by omega
      have HJd : Iv ((List.finRange l.length).take k) wr.drew := hJ _ wr wr.drew none HJ.out ⟨rfl, rfl, rfl, Nat.le_refl _, fun _ _ _ => rfl⟩ (fun r e => by cases e)
      obtain ⟨fn, tmps, assign, body, hy, hR⟩ := HY.out ((List.finRange l.length).take k) ⟨k, hkl⟩ wr.drew HJd (by rw [List.length_take]; simp; omega)
      simp only [hq.out] at hy
      have hR2 := hR.mono (R' := fun e W' => ∃ bb : Bool, e = .returned (.bool bb) ∧ Hid ((bb = true ∧ Iv ((List.finRange l.length).take k ++ [⟨k, hkl⟩]) W' ∧ IKept B b wr.drew W') ∨ (bb = false ∧ Ix ((List.finRange l.length).take k ++ [⟨k, hkl⟩]) W'))) (by
        rintro e W' (⟨rfl, h1, h2⟩ | ⟨rfl, h1⟩)
        · exact ⟨true, rfl, hide (.inl ⟨rfl, h1, h2⟩)⟩
        · exact ⟨false, rfl, hide (.inr ⟨rfl, h1⟩)⟩)
      have hwr : IntKind.i64.wrap ((i : Int) + ((F : Int) + 1)) = (i : Int) + ((F : Int) + 1) := IntWalk.i64_in _ (by omega)
      clear hR
      clear z4 dk hroot nx hnode
      gi_wp2
      gi_region_with (refine hR2.mono ?_; rintro e W' ⟨bb, rfl, HB⟩)
      all_goals
        rcases HB.out with ⟨rfl, h1, h2⟩ | ⟨rfl, h1⟩
        · have K2 := hide (show IKept B b W W' from HK.out.trans ⟨(Below.drew (Below.refl B wr)).trans h2.below, h2.cells⟩)
          have OR2 : Old w0 W' := Below.trans OW.out (K2.out.below.mono hB0)
          have d2 : W'.cell? ⟨tb, 0, none⟩ = some (.slice (some ⟨g, off, none⟩) m cap) := by rw [cell_of_heap (K2.out.cells _ _ _ _ FTB.out hb2 (by decide))]; rfl
          have d3 := Old.cell OR2 y4
          have H1 := hide (show Iv ((List.finRange l.length).take (k + 1)) W' by
            rw [List.take_succ_eq_append_getElem (by simpa using hkl), List.getElem_finRange]
            exact h1)
          have hqm : q < m := by omega
          have hqz : IntKind.i64.wrap ((q : Int) + (z : Int)) = (q : Int) + (z : Int) := IntWalk.i64_in _ (by omega)
          clear h1 h2 HB c1 c2 c3 y4 HJ HK
          gi_wp2
          go_roundw
          case rel => exact ⟨k + 1, q + z, by omega, by go_num, by omega, by omega, NX, H1, K2⟩
          case measure => simp [intOf]; omega
        · gi_wp2
          go_end0
          exact ⟨⟨_, rfl⟩, .inr ⟨_, h1⟩⟩
    · have hkk : k = l.length := by rw [hL.out]; omega
      have hqe : q = i + 1 + F := by rw [← hq.out, hkk, stK_all, hF.out]
      have hqi : ¬ (q : Int) < (i : Int) + ((F : Int) + 1) := by omega
      have hwr : IntKind.i64.wrap ((i : Int) + ((F : Int) + 1)) = (i : Int) + ((F : Int) + 1) := IntWalk.i64_in _ (by omega)
      have HJd : Iv (List.finRange l.length) wr.drew := by
        have := hJ _ wr wr.drew none HJ.out ⟨rfl, rfl, rfl, Nat.le_refl _, fun _ _ _ => rfl⟩ (fun r e => by cases e)
        rwa [hkk, List.take_of_length_le (by simp)] at this
      have hdf : decide ((q : Int) < (i : Int) + ((F : Int) + 1)) = false := decide_eq_false hqi
      have HJD := hide (fun nq => show Iv (List.finRange l.length) (wr.drewN nq) by
        have := hJ _ wr (wr.drewN nq) none HJ.out ⟨rfl, rfl, rfl, Nat.le_refl _, fun _ _ _ => rfl⟩ (fun r e => by cases e)
        rwa [hkk, List.take_of_length_le (by simp)] at this)
      clear hkk hqe HJd
      gi_wp2
      refine wpIn_region_quiet_lit rfl (by kernel_rfl) (by kernel_rfl) ?_
      repeat (gi_big_quiet_step (fail))
      refine BigFrame.wpQuietIn_skip (fun _ _ _ _ => trivial) rfl ?_
      repeat (quiet_step_in (fail))
      refine wpQuietIn_nil ?_
      intro _ hw'
      obtain ⟨nq, hw''⟩ := hw'
      subst hw''
      gi_wp2
      go_end0
      exact ⟨⟨_, rfl⟩, .inl ⟨_, rfl, HJD.out _⟩⟩
end Go.Proofs.YtmolmphbhdbcaaaGreatDoor
