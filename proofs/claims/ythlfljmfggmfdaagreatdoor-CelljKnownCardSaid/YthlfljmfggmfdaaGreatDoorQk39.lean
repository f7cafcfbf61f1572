/-  -/
import Derived.RangeFuncNested
import Derived.RangeFuncBound
import Derived.RangeFuncCalls
import Derived.RangeFuncLeaves
import Derived.Shelf.Abstract
import Derived.Shelf.RegionOpen
import Derived.WalkKit
import Derived.OwnWalkIn
import Derived.TacticsInMore
import Derived.LoopNIn
import Derived.LoopIn
import Derived.RegionIn
import Derived.BigRegionIn
import Derived.Test.YthlfljmfggmfdaaGreatDoorQk11
import Derived.Test.YthlfljmfggmfdaaGreatDoorQk13
import Derived.Test.YthlfljmfggmfdaaGreatDoorQk25
import Derived.Test.YthlfljmfggmfdaaGreatDoorQk02
import Derived.Test.YthlfljmfggmfdaaGreatDoorProg
import Derived.Test.YthlfljmfggmfdaaGreatDoorQk09
import Derived.Lib.ItoaNum
import Derived.Test.YthlfljmfggmfdaaGreatDoorQk14
import Derived.Deep.RegionHeld3
import Derived.Lib.SmallJoins
import Derived.Lib.AppendIntMem
/-! ###  -/
namespace Go.Proofs.YthlfljmfggmfdaaGreatDoor
open Go.RowKit Go.Shelf
attribute [local go_sem] Oper.semAt_some
structure IKept (B b : Nat) (w w' : World) : Prop where
 below : Below B w w'
 cells : ∀ k cs T f, w.heap[k]? = some (.cells cs T f) → k ≠ b → T ≠ 5 → w'.heap[k]? = some (.cells cs T f)
theorem IKept.refl (B b : Nat) (w : World) : IKept B b w w := ⟨Below.refl _ _, fun _ _ _ _ h _ _ => h⟩
theorem IKept.trans {B b : Nat} {w w' w'' : World} (h : IKept B b w w') (k : IKept B b w' w'') : IKept B b w w'' :=
 ⟨h.below.trans k.below, fun i cs T f hi hb hT => k.cells i cs T f (h.cells i cs T f hi hb hT) hb hT⟩
theorem WKept.ik {B b : Nat} {w w' : World} (h : WKept B b w w') : IKept B b w w' :=
 ⟨h.below, fun k cs T f hk hb hT => h.others k _ hk (by simpa using hb) (fun c fz e => by injection e with _ e2; exact hT e2)⟩
theorem IKept.putObj {B b l : Nat} {w : World} {o o' : Obj} (hB : B ≤ l) (hl : w.heap[l]? = some o) (ho : o.isCells = false) : IKept B b w (w.putObj l o') := by
 refine ⟨⟨rfl, rfl, rfl, by simp [World.putObj], fun k hk => World.putObj_heap_other (by omega)⟩, fun k cs T f hk _ _ => ?_⟩
 by_cases e : k = l
 · subst e
   rw [hl] at hk
   injection hk with hk
   subst hk
   cases ho
 · exact (World.putObj_heap_other e).trans hk
def stK (i : Nat) (l : List J) (k : Nat) : Nat := i + 1 + (J.flats (l.take k)).length
theorem stK_next {i k : Nat} {l : List J} (h : k < l.length) : stK i l (k + 1) = stK i l k + l[k].flat.length := by
 unfold stK
 rw [flats_take_snoc h, List.length_append]
 omega
theorem stK_all (i : Nat) (l : List J) : stK i l l.length = i + 1 + (J.flats l).length := by unfold stK; rw [List.take_length]
theorem stK_drop {t : List Nd} {i k : Nat} {h : Hd} {l : List J} {r : List Nd} (hd : t.drop i = (J.mk h l).flat ++ r) (hk : k < l.length) : t.drop (stK i l k) = l[k].flat ++ (J.flats (l.drop (k + 1)) ++ r) := by
 have e : l = l.take k ++ l[k] :: l.drop (k + 1) := by rw [← List.drop_eq_getElem_cons hk, List.take_append_drop]
 have e2 : J.flats l = J.flats (l.take k) ++ (l[k].flat ++ J.flats (l.drop (k + 1))) := by
  have := congrArg J.flats e
  rw [flats_append] at this
  rw [this]
  simp [J.flats]
 have e3 := congrArg (List.drop ((J.flats (l.take k)).length + 1)) hd
 rw [List.drop_drop] at e3
 have e4 : stK i l k = i + ((J.flats (l.take k)).length + 1) := by unfold stK; omega
 rw [e4, e3, flat_mk, List.cons_append, List.drop_succ_cons, e2, List.append_assoc, List.drop_left, List.append_assoc]
theorem stK_lt {t : List Nd} {i : Nat} {h : Hd} {l : List J} {r : List Nd} (hd : t.drop i = (J.mk h l).flat ++ r) (k : Nat) : i + 1 + (J.flats l).length ≤ t.length ∧ i + 1 ≤ stK i l k ∧ stK i l k ≤ i + 1 + (J.flats l).length := by
 have e := congrArg List.length hd
 rw [List.length_drop, List.length_append, flat_mk, List.length_cons] at e
 have h1 := flats_take_le l k
 unfold stK
 omega
set_option maxRecDepth 100000 in
set_option maxHeartbeats 4000000 in
theorem parts_it (n B b : Nat) (hn1 : 1 ≤ n) (w0 : World) (v : Value) (t : List Nd) (i : Nat) (h : Hd) (l : List J) (r : List Nd) (hn : NodesIs w0 v t) (ht4 : t.length ≤ 4000) (hB0 : w0.heap.size ≤ B) (hd : t.drop i = (J.mk h l).flat ++ r)
 (ab tb : Nat) (w : World) (ho : Old w0 w) (hab : w.heap[ab]? = some (.cells #[.int .i64 i] 3 (0, 0))) (htb : w.heap[tb]? = some (.cells #[v] 24 (0, 0))) (hb1 : ab ≠ b) (hb2 : tb ≠ b) :
 SeqStopsK Fence.wide n Tryz.prog 176 #[.pointer (some ⟨ab, 0, none⟩), .pointer (some ⟨tb, 0, none⟩)] (fun k : _root_.Fin l.length => #[.int .i64 (stK i l k.val : Nat)]) (IKept B b)
  (fun xs => xs = List.finRange l.length) (fun _ => True) l.length w := fun lp Iv Ix W hW hJ hJx hY h0 => by
 refine callsIn_of_wp Tryz.func176 rfl trivial ?_ rfl
 simp only [Tryz.ntmps176, List.size_toArray, List.length_cons, List.length_nil, Nat.reduceAdd, Nat.reduceSub, Array.replicate_succ, Array.replicate_zero, List.push_toArray, List.append_toArray, List.nil_append, List.cons_append]
 obtain ⟨A, cap, rfl, hcl, hcm, hcc⟩ := hn.nodes
 have fab : W.heap[ab]? = some (.cells #[.int .i64 i] 3 (0, 0)) := (hW.block ab (Array.getElem?_eq_some_iff.1 hab).1).trans hab
 have ftb : W.heap[tb]? = some (.cells #[.slice A t.length cap] 24 (0, 0)) := (hW.block tb (Array.getElem?_eq_some_iff.1 htb).1).trans htb
 have c1 : W.cell? ⟨ab, 0, none⟩ = some (.int .i64 i) := by rw [cell_of_heap fab]; rfl
 have FAB := hide fab
 have FTB := hide ftb
 have OW := hide (show Old w0 W from Below.trans ho (hW.mono ho.size))
 have HY := hide hY
 have HD := hide hd
 have NI := hide hn
 have LT := hide (show ∀ k, i + 1 + (J.flats l).length ≤ t.length ∧ i + 1 ≤ stK i l k ∧ stK i l k ≤ i + 1 + (J.flats l).length from fun k => stK_lt hd k)
 obtain ⟨F, hF⟩ : ∃ F, Hid ((J.flats l).length = F) := ⟨_, hide rfl⟩
 obtain ⟨m, hm⟩ : ∃ m, Hid (t.length = m) := ⟨_, hide rfl⟩
 obtain ⟨L, hL⟩ : ∃ L, Hid (l.length = L) := ⟨_, hide rfl⟩
 have l0 := LT.out 0
 rw [hF.out, hm.out] at l0
 rw [hm.out] at ht4 hcl FTB
 unfold maxLen at hcm
 have S0 := hide (show stK i l 0 = i + 1 by simp [stK, J.flats])
 clear fab ftb hab htb hW hY hcc hd hn
 gi_wp2
 gi_loopw [4] (fun p wr => ∃ k q : Nat, k ≤ L ∧ p = .int .i64 q ∧ i + 1 ≤ q ∧ q ≤ i + 1 + F ∧ Hid (stK i l k = q) ∧ Hid (Iv ((List.finRange l.length).take k) wr) ∧ Hid (IKept B b W wr)) (fun p wr => i + 1 + F - (intOf p).toNat)
 case atStart => exact ⟨0, i + 1, Nat.zero_le _, by first | rfl | (congr 1; omega), by omega, by omega, S0, hide h0, hide (IKept.refl _ _ _)⟩
 case round =>
  obtain ⟨k, q, hk, rfl, hq1, hq2, hq, HJ, HK⟩ := hrel
  clear c1
  have OR := hide (show Old w0 wr from Below.trans OW.out (HK.out.below.mono hB0))
  have c1 : wr.cell? ⟨ab, 0, none⟩ = some (.int .i64 i) := by rw [cell_of_heap (HK.out.cells _ _ _ _ FAB.out hb1 (by decide))]; rfl
  have c2 : wr.cell? ⟨tb, 0, none⟩ = some (.slice A m cap) := by rw [cell_of_heap (HK.out.cells _ _ _ _ FTB.out hb2 (by decide))]; rfl
  have hroot : t[i]? = some ⟨h.kind, h.key, h.n, h.s, ((J.flats l).length : Int) + 1⟩ := by
   have e := congrArg List.head? HD.out
   rw [List.head?_drop, flat_mk] at e
   simpa using e
  obtain ⟨g, off, rfl, _, _, _, _, z4⟩ := nodes_cells NI.out hroot
  have c3 := OR.out.cell z4
  simp only [hF.out] at c3
  have him : i < m := by omega
  by_cases hkL : k < L
  · have hkl : k < l.length := by rw [hL.out]; exact hkL
    have nx := stK_next (i := i) hkl
    rw [hq.out] at nx
    have fp := flat_pos l[k]
    have lk := (LT.out (k + 1)).2.2
    rw [nx, hF.out] at lk
    obtain ⟨z, hz⟩ : ∃ z, Hid (l[k].flat.length = z) := ⟨_, hide rfl⟩
    rw [hz.out] at nx fp lk
    have dk := stK_drop HD.out hkl
    rw [hq.out] at dk
    obtain ⟨hql, hnode⟩ := head_flat dk
    obtain ⟨g', off', he, _, _, _, _, y4⟩ := nodes_cells NI.out (List.getElem?_eq_getElem hql)
    injection he with he
    injection he with e1 e2 e3
    subst e1 e2
    rw [hnode] at y4
    simp only [hz.out] at y4
    have NX := hide nx
    have hqi : (q : Int) < (i : Int) + ((F : Int) + 1) := by omega
    have HJd : Iv ((List.finRange l.length).take k) wr.drew := hJ _ wr wr.drew none HJ.out ⟨rfl, rfl, rfl, Nat.le_refl _, fun _ _ _ => rfl⟩ (fun r e => by cases e)
    obtain ⟨fn, tmps, assign, body, hy, hR⟩ := HY.out ((List.finRange l.length).take k) ⟨k, hkl⟩ wr.drew HJd (by rw [List.length_take]; simp; omega)
    simp only [hq.out] at hy
    have hR2 := hR.mono (R' := fun e W' => ∃ bb : Bool, e = .returned (.bool bb) ∧ Hid ((bb = true ∧ Iv ((List.finRange l.length).take k ++ [⟨k, hkl⟩]) W' ∧ IKept B b wr.drew W') ∨ (bb = false ∧ Ix ((List.finRange l.length).take k ++ [⟨k, hkl⟩]) W'))) (by
     rintro e W' (⟨rfl, h1, h2⟩ | ⟨rfl, h1⟩)
     · exact ⟨true, rfl, hide (.inl ⟨rfl, h1, h2⟩)⟩
     · exact ⟨false, rfl, hide (.inr ⟨rfl, h1⟩)⟩)
    have hwr : IntKind.i64.wrap ((i : Int) + ((F : Int) + 1)) = (i : Int) + ((F : Int) + 1) := IntWalk.i64_in _ (by omega)
    clear hR
    clear z4 dk hroot nx hnode
    gi_wp2
    gi_region_with (refine hR2.mono ?_; rintro e W' ⟨bb, rfl, HB⟩)
    all_goals
     rcases HB.out with ⟨rfl, h1, h2⟩ | ⟨rfl, h1⟩
     · have K2 := hide (show IKept B b W W' from HK.out.trans ⟨(Below.drew (Below.refl B wr)).trans h2.below, h2.cells⟩)
       have OR2 : Old w0 W' := Below.trans OW.out (K2.out.below.mono hB0)
       have d2 : W'.cell? ⟨tb, 0, none⟩ = some (.slice (some ⟨g, off, none⟩) m cap) := by rw [cell_of_heap (K2.out.cells _ _ _ _ FTB.out hb2 (by decide))]; rfl
       have d3 := Old.cell OR2 y4
       have H1 := hide (show Iv ((List.finRange l.length).take (k + 1)) W' by
        rw [List.take_succ_eq_append_getElem (by simpa using hkl), List.getElem_finRange]
        exact h1)
       have hqm : q < m := by omega
       have hqz : IntKind.i64.wrap ((q : Int) + (z : Int)) = (q : Int) + (z : Int) := IntWalk.i64_in _ (by omega)
       clear h1 h2 HB c1 c2 c3 y4 HJ HK
       gi_wp2
       go_roundw
       case rel => exact ⟨k + 1, q + z, by omega, by go_num, by omega, by omega, NX, H1, K2⟩
       case measure => simp [intOf]; omega
     · gi_wp2
       go_end0
       exact ⟨⟨_, rfl⟩, .inr ⟨_, h1⟩⟩
  · have hkk : k = l.length := by rw [hL.out]; omega
    have hqe : q = i + 1 + F := by rw [← hq.out, hkk, stK_all, hF.out]
    have hqi : ¬ (q : Int) < (i : Int) + ((F : Int) + 1) := by omega
    have hwr : IntKind.i64.wrap ((i : Int) + ((F : Int) + 1)) = (i : Int) + ((F : Int) + 1) := IntWalk.i64_in _ (by omega)
    have HJd : Iv (List.finRange l.length) wr.drew := by
     have := hJ _ wr wr.drew none HJ.out ⟨rfl, rfl, rfl, Nat.le_refl _, fun _ _ _ => rfl⟩ (fun r e => by cases e)
     rwa [hkk, List.take_of_length_le (by simp)] at this
    have hdf : decide ((q : Int) < (i : Int) + ((F : Int) + 1)) = false := decide_eq_false hqi
    have HJD := hide (fun nq => show Iv (List.finRange l.length) (wr.drewN nq) by
     have := hJ _ wr (wr.drewN nq) none HJ.out ⟨rfl, rfl, rfl, Nat.le_refl _, fun _ _ _ => rfl⟩ (fun r e => by cases e)
     rwa [hkk, List.take_of_length_le (by simp)] at this)
    clear hkk hqe HJd
    gi_wp2
    refine wpIn_region_quiet_lit rfl (by kernel_rfl) (by kernel_rfl) ?_
    repeat (gi_big_quiet_step (fail))
    refine BigFrame.wpQuietIn_skip (fun _ _ _ _ => trivial) rfl ?_
    repeat (quiet_step_in (fail))
    refine wpQuietIn_nil ?_
    intro _ hw'
    obtain ⟨nq, hw''⟩ := hw'
    subst hw''
    gi_wp2
    go_end0
    exact ⟨⟨_, rfl⟩, .inl ⟨_, rfl, HJD.out _⟩⟩
end Go.Proofs.YthlfljmfggmfdaaGreatDoor

/-! ###  -/
namespace Go.Proofs.YthlfljmfggmfdaaGreatDoor
open Go.RowKit
end Go.Proofs.YthlfljmfggmfdaaGreatDoor

/-! ###  -/
namespace Go.Proofs.YthlfljmfggmfdaaGreatDoor
open Go.RowKit Go.Shelf
theorem WKept.of_old {B b : Nat} {w w' : World} (h : Old w w') (hB : B ≤ w.heap.size) : WKept B b w w' :=
 ⟨h.mono hB, fun _ _ hk _ _ => h.heap hk⟩
set_option maxRecDepth 100000 in
set_option maxHeartbeats 1000000 in
theorem wquote_run (s : ByteArray) (B b : Nat) (acc : List UInt8) (w : World) (hs : s.size ≤ 17592186044416) (hv : vU s = true) (hT : Tabs w) (h : WBs 93 B b acc w) (hlen : acc.length + 6 * s.size + 2 ≤ 140737488355328) (hBw : B ≤ w.heap.size) :
 Calls Tryz.prog 99 #[.pointer (some ⟨b, 0, none⟩), .string s] w fun e w' => e = .returned (.tuple #[]) ∧ WBs 93 B b (acc ++ quoteL s) w' ∧ WKept B b w w' := by
 have CQ := quote_ok s w hs hv hT
 have hql := (quoteL_len s).2
 have H := hide h
 clear hT h hv
 go_enter Tryz.func99, Tryz.ntmps99
 go_wp2_with fail
 refine CQ.mono ?_
 rintro e w1 ⟨rfl, o1⟩
 clear CQ
 have H1 := WBs.old H.out o1
 have K1 := hide (WKept.of_old (b := b) o1 hBw)
 have hB1 : B ≤ w1.heap.size := Nat.le_trans hBw o1.size
 obtain ⟨q, hq⟩ : ∃ q, Hid (quoteL s = q) := ⟨_, hide rfl⟩
 rw [hq.out] at hql ⊢
 go_wp2_with fail
 refine (wb_WriteString 93 (.inr rfl) B b acc ⟨q.toArray⟩ _ H1 (by simp [ByteArray.size]; omega) hB1).mono ?_
 rintro e w2 ⟨rfl, h2, k2⟩
 have H2 := hide h2
 have K2 := hide (K1.out.trans k2)
 clear h2 k2 H1
 go_wp2_with fail
 go_end0
 exact ⟨rfl, by rw [hq.out]; simpa using H2.out, K2.out⟩
end Go.Proofs.YthlfljmfggmfdaaGreatDoor
namespace Go.Proofs.YthlfljmfggmfdaaGreatDoor
open Go.RowKit Go.Shelf
abbrev PowTab (w : World) : Prop := Lib.TabIs Tryz.prog w "internal/strconv.uint64pow10" .u64 Lib.pow10Tab
theorem itoa_run (n : Int) (h0 : -9223372036854775808 ≤ n) (h1 : n ≤ 9223372036854775807) (w : World) (ht : PowTab w) :
 Calls Tryz.prog 98 #[.int .i64 n, .int .i64 10] w fun e w' => e = .returned (.string ⟨(Lib.itoa n).toArray⟩) ∧ Old w w' :=
 (Tryz.strconv_FormatInt_10 n h0 h1 w ht).mono fun e w' ⟨he, k, os, hw⟩ => ⟨he, by rw [hw]; exact Lib.below_grow _ w (Nat.le_refl _) k os⟩
structure Site (B : Nat) (t : List Nd) (v : Value) (w0 : World) : Prop where
 nodes : NodesIs w0 v t
 size : w0.heap.size ≤ B
 len : t.length ≤ 4000
 tabs : ∀ w, Old w0 w → Tabs w
 pow : ∀ w, Old w0 w → PowTab w
 nums : NumsOk t
 small : ∀ x ∈ t, x.key.size ≤ 2097152 ∧ x.s.size ≤ 2097152
 room : t.length * ndRoom t + 2 ≤ 1099511627776
def PutPost (B b : Nat) (acc out : List UInt8) (w : World) (e : Ending) (w' : World) : Prop :=
 e = .returned (.tuple #[]) ∧ ∃ bs, WBs 93 B b bs w' ∧ Puts acc out bs ∧ WKept B b w w'
def PutC (j : J) : Prop := ∀ (t : List Nd) (i : Nat) (r : List Nd) (v : Value) (w0 : World) (B b : Nat) (acc : List UInt8) (w : World), Site B t v w0 → t.drop i = j.flat ++ r → J.Ok vU j → acc.length + j.deep * 1099511627776 ≤ 70368744177664 →
 Old w0 w → WBs 93 B b acc w → B ≤ w.heap.size → Calls Tryz.prog 56 #[.pointer (some ⟨b, 0, none⟩), v, .int .i64 i] w (PutPost B b acc j.show w)
def AllC (h : Hd) (l : List J) : Prop := ∀ (t : List Nd) (i : Nat) (r : List Nd) (v : Value) (w0 : World) (B b : Nat) (acc : List UInt8) (w : World) (f e : UInt8), Site B t v w0 → t.drop i = (J.mk h l).flat ++ r → J.Ok vU (.mk h l) → acc.length + (J.mk h l).deep * 1099511627776 ≤ 70368744177664 →
 Old w0 w → WBs 93 B b acc w → B ≤ w.heap.size → Calls Tryz.prog 100 #[.pointer (some ⟨b, 0, none⟩), v, .int .i64 i, .string ⟨#[f]⟩, .string ⟨#[e]⟩] w (PutPost B b acc (f :: (J.shows (h.kind == 7) true l ++ [e])) w)
theorem PutPost.as {B b : Nat} {acc out out' : List UInt8} {w : World} {e : Ending} {w' : World} (h : PutPost B b acc out w e w') (ho : out = out') : PutPost B b acc out' w e w' := ho ▸ h
set_option maxRecDepth 100000 in
set_option maxHeartbeats 1000000 in
theorem put_step (h : Hd) (l : List J) (HA : AllC h l) : PutC (.mk h l) := by
 intro t i r v w0 B b acc w S hd hok hbd ho hb hBw
 have CA := hide (fun w' hw hb' hBw' f e => HA t i r v w0 B b acc w' f e S hd hok hbd hw hb' hBw')
 have hdeep : 1 ≤ (J.mk h l).deep := deep_pos _
 have hal : acc.length ≤ 70368744177664 := by omega
 have hdp : acc.length + 1099511627776 ≤ 70368744177664 := by
  have := Nat.mul_le_mul_right 1099511627776 hdeep
  omega
 have CL := hide (wb_Len 93 B b acc w hb)
 obtain ⟨A, cap, rfl, hcl, hcm, _⟩ := S.nodes.nodes
 have hroot : t[i]? = some ⟨h.kind, h.key, h.n, h.s, ((J.flats l).length : Int) + 1⟩ := by
  have e := congrArg List.head? hd
  rw [List.head?_drop, flat_mk] at e
  simpa using e
 obtain ⟨hil, hnode⟩ := List.getElem?_eq_some_iff.1 hroot
 have hmem : (⟨h.kind, h.key, h.n, h.s, ((J.flats l).length : Int) + 1⟩ : Nd) ∈ t := by rw [← hnode]; exact List.getElem_mem hil
 have hnum : -9223372036854775808 ≤ h.n ∧ h.n ≤ 9223372036854775807 := S.nums _ hmem
 have hsm : h.key.size ≤ 2097152 ∧ h.s.size ≤ 2097152 := S.small _ hmem
 obtain ⟨g, off, rfl, z0, z1, z2, z3, z4⟩ := nodes_cells S.nodes hroot
 have y0 := ho.cell z0
 have y1 := ho.cell z1
 have y2 := ho.cell z2
 have y3 := ho.cell z3
 have y4 := ho.cell z4
 obtain ⟨m, hm⟩ : ∃ m, Hid (t.length = m) := ⟨_, hide rfl⟩
 rw [hm.out] at hil hcl CA
 rw [hm.out]
 unfold maxLen at hcm
 have HB := hide hb
 have HO := hide ho
 have HT := hide (S.tabs)
 have HP := hide (S.pow)
 obtain ⟨F, hF⟩ : ∃ F, Hid ((J.flats l).length = F) := ⟨_, hide rfl⟩
 rw [hF.out] at y4
 obtain ⟨sh, hsh⟩ : ∃ sh, (J.mk h l).show = sh := ⟨_, rfl⟩
 rw [hsh]
 have hcases : (h.kind = 1 ∧ [110, 117, 108, 108] = sh) ∨ (h.kind = 2 ∧ [102, 97, 108, 115, 101] = sh) ∨ (h.kind = 3 ∧ [116, 114, 117, 101] = sh) ∨ (h.kind = 4 ∧ Lib.itoa h.n = sh) ∨ (h.kind = 5 ∧ quoteL h.s = sh ∧ vU h.s = true) ∨
  (h.kind = 6 ∧ 91 :: (J.shows (h.kind == 7) true l ++ [93]) = sh) ∨ (h.kind = 7 ∧ 123 :: (J.shows (h.kind == 7) true l ++ [125]) = sh) := by
  have hok' := hok
  simp only [J.Ok] at hok'
  simp only [J.show] at hsh
  rcases hok' with ⟨(⟨(hk | hk | hk), _⟩ | ⟨hk, _⟩ | ⟨hk, _, hv⟩), _⟩ | ⟨hk, _⟩ | ⟨hk, _⟩ <;> rw [hk] at hsh ⊢ <;> simp at hsh ⊢
  · exact hsh
  · exact hsh
  · exact hsh
  · exact hsh
  · exact ⟨hsh, hv⟩
  · exact hsh
  · exact hsh
 clear hsh
 obtain ⟨ac, hac⟩ : ∃ ac, Hid (acc.length = ac) := ⟨_, hide rfl⟩
 rw [hac.out] at CL hal hdp
 clear hb ho hok hbd hroot hmem hnode z0 z1 z2 z3 z4 HA
 go_enter Tryz.func56, Tryz.ntmps56
 go_wp2_with fail
 refine CL.out.mono ?_
 rintro e w1 ⟨rfl, rfl⟩
 by_cases hov : ac > 1048576
 · have hov' : (ac : Int) > 1048576 := by omega
   go_wp2_with fail
   go_end0
   exact ⟨rfl, acc, HB.out, Puts.full _ (by rw [hac.out]; exact hov), WKept.refl _ _ _⟩
 · have hov' : ¬ (ac : Int) > 1048576 := by omega
   have WX := hide (fun o => WBs.old HB.out (Old.alloc (Old.refl w1) o))
   have KX := hide (fun o => WKept.of_old (B := B) (b := b) (Old.alloc (Old.refl w1) o) hBw)
   have SX := hide (fun o => show B ≤ (w1.alloc o).heap.size by simp; omega)
   have hal2 : acc.length ≤ 70368744177664 := by rw [hac.out]; exact hal
   rcases hcases with ⟨hk, hs⟩ | ⟨hk, hs⟩ | ⟨hk, hs⟩ | ⟨hk, hs⟩ | ⟨hk, hs, hvs⟩ | ⟨hk, hs⟩ | ⟨hk, hs⟩ <;> rw [hk] at y0 <;> replace hs := hide hs
   · have z : (⟨#[110, 117, 108, 108]⟩ : ByteArray).size = 4 := rfl
     have zl : acc.length + (⟨#[110, 117, 108, 108]⟩ : ByteArray).size ≤ 140737488355328 := by rw [z]; omega
     clear z
     go_wp2_with fail
     refine (wb_WriteString 93 (.inr rfl) B b acc ⟨#[110, 117, 108, 108]⟩ _ (WX.out _) zl (SX.out _)).mono ?_
     rintro e w2 ⟨rfl, h2, k2⟩
     have H2 := hide h2
     have K2 := hide ((KX.out _).trans k2)
     clear h2 k2
     go_wp2_with fail
     go_end0
     exact ⟨rfl, _, H2.out, by rw [← hs.out]; exact Puts.all _ _, K2.out⟩
   · have z : (⟨#[102, 97, 108, 115, 101]⟩ : ByteArray).size = 5 := rfl
     have zl : acc.length + (⟨#[102, 97, 108, 115, 101]⟩ : ByteArray).size ≤ 140737488355328 := by rw [z]; omega
     clear z
     go_wp2_with fail
     refine (wb_WriteString 93 (.inr rfl) B b acc ⟨#[102, 97, 108, 115, 101]⟩ _ (WX.out _) zl (SX.out _)).mono ?_
     rintro e w2 ⟨rfl, h2, k2⟩
     have H2 := hide h2
     have K2 := hide ((KX.out _).trans k2)
     clear h2 k2
     go_wp2_with fail
     go_end0
     exact ⟨rfl, _, H2.out, by rw [← hs.out]; exact Puts.all _ _, K2.out⟩
   · have z : (⟨#[116, 114, 117, 101]⟩ : ByteArray).size = 4 := rfl
     have zl : acc.length + (⟨#[116, 114, 117, 101]⟩ : ByteArray).size ≤ 140737488355328 := by rw [z]; omega
     clear z
     go_wp2_with fail
     refine (wb_WriteString 93 (.inr rfl) B b acc ⟨#[116, 114, 117, 101]⟩ _ (WX.out _) zl (SX.out _)).mono ?_
     rintro e w2 ⟨rfl, h2, k2⟩
     have H2 := hide h2
     have K2 := hide ((KX.out _).trans k2)
     clear h2 k2
     go_wp2_with fail
     go_end0
     exact ⟨rfl, _, H2.out, by rw [← hs.out]; exact Puts.all _ _, K2.out⟩
   · have CI := hide (fun w' (ho : Old w1 w') => itoa_run h.n hnum.1 hnum.2 w' (HP.out w' (Old.trans HO.out ho)))
     have hil20 := itoa_len hnum.1 hnum.2
     have z : (⟨(Lib.itoa h.n).toArray⟩ : ByteArray).size = (Lib.itoa h.n).length := rfl
     have zl : acc.length + (⟨(Lib.itoa h.n).toArray⟩ : ByteArray).size ≤ 140737488355328 := by rw [z]; omega
     clear z
     go_wp2_with fail
     refine region_later_tail 6 (by kernel_rfl) (by kernel_rfl) ?_
     simp only [List.take_succ_cons, List.take_zero, List.drop_succ_cons, List.drop_zero]
     have bx : ∀ p : Later (w1.alloc (.cells #[.int .i64 4, .string h.key, .int .i64 h.n, .string h.s, .int .i64 ((F : Int) + 1)] 36)), p.world.cell? ⟨w1.heap.size, 2, none⟩ = some (.int .i64 h.n) := fun p => p.old.cell (by rw [cell_of_heap (heap_alloc_new w1 _)]; rfl)
     repeat (go_big_quiet_step ((go_at_call 98; exact Later.call (CI.out _ (Old.trans (Old.alloc (Old.refl _) _) (Later.old _))))))
     refine wpQuiet_nil ?_
     rintro wz ⟨⟨_, hwz⟩, rfl⟩
     have hwz2 := Old.trans (Old.alloc (Old.refl w1) _) hwz
     have HZ := hide (WBs.old HB.out hwz2)
     have KZ := hide (WKept.of_old (B := B) (b := b) hwz2 hBw)
     have hsz : B ≤ wz.heap.size := Nat.le_trans hBw hwz2.size
     clear bx CI
     go_wp2_with fail
     refine (wb_WriteString 93 (.inr rfl) B b acc ⟨(Lib.itoa h.n).toArray⟩ _ HZ.out zl hsz).mono ?_
     rintro e w2 ⟨rfl, h2, k2⟩
     have H2 := hide h2
     have K2 := hide (KZ.out.trans k2)
     clear h2 k2
     go_wp2_with fail
     go_end0
     exact ⟨rfl, _, H2.out, by rw [← hs.out]; exact Puts.all _ _, K2.out⟩
   · have CQ := hide (fun o => wquote_run h.s B b acc (w1.alloc o) (by omega) hvs (HT.out _ (Old.trans HO.out (Old.alloc (Old.refl _) o))) (WX.out o) (by omega) (SX.out o))
     go_wp2_with fail
     refine (CQ.out _).mono ?_
     rintro e w2 ⟨rfl, h2, k2⟩
     have H2 := hide h2
     have K2 := hide ((KX.out _).trans k2)
     clear h2 k2
     go_wp2_with fail
     go_end0
     exact ⟨rfl, _, H2.out, by rw [← hs.out]; exact Puts.all _ _, K2.out⟩
   · go_wp2_with fail
     refine (CA.out _ (Old.trans HO.out (Old.alloc (Old.refl _) _)) (WX.out _) (SX.out _) 91 93).mono ?_
     rintro e w2 hp
     have HQ := hide hp
     obtain ⟨rfl, bs, h2, p2, k2⟩ := hp
     have K2 := hide ((KX.out _).trans k2)
     clear h2 p2 k2
     go_wp2_with fail
     go_end0
     obtain ⟨_, bs, h2, p2, _⟩ := HQ.out
     exact ⟨rfl, bs, h2, by rw [← hs.out]; exact p2, K2.out⟩
   · go_wp2_with fail
     refine (CA.out _ (Old.trans HO.out (Old.alloc (Old.refl _) _)) (WX.out _) (SX.out _) 123 125).mono ?_
     rintro e w2 hp
     have HQ := hide hp
     obtain ⟨rfl, bs, h2, p2, k2⟩ := hp
     have K2 := hide ((KX.out _).trans k2)
     clear h2 p2 k2
     go_wp2_with fail
     go_end0
     obtain ⟨_, bs, h2, p2, _⟩ := HQ.out
     exact ⟨rfl, bs, h2, by rw [← hs.out]; exact p2, K2.out⟩
end Go.Proofs.YthlfljmfggmfdaaGreatDoor
