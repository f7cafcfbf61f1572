/-  -/
import Derived.Test.YthlfljmfggmfdaaGreatDoorQf02
import Derived.Test.YthlfljmfggmfdaaGreatDoorProg
import Derived.Lib.OthersKept
import Derived.Lib.FrozenHead2
import Derived.Lib.RuneBytes
import Derived.Test.YthlfljmfggmfdaaGreatDoorQf04
import Derived.Test.YthlfljmfggmfdaaGreatDoorQf01
import Derived.StillTail
import Derived.Deep.Quiet
import Derived.Test.YthlfljmfggmfdaaGreatDoorQf03
import Derived.Test.YthlfljmfggmfdaaGreatDoorQf09
import Derived.Test.YthlfljmfggmfdaaGreatDoorQf08
import Derived.Deep.RegionHeld3
import Derived.Laws.BytesArg
import Derived.Laws.IdiomStrings
import Derived.RegionTactic
/-! ###  -/
namespace Go.Proofs.YthlfljmfggmfdaaGreatDoor
open Go.RowKit
def BT (T : TypeId) : Prop := T = 91 ∨ T = 93
theorem BT.lies {T : TypeId} (h : BT T) : liesAt Tryz.prog Tryz.prog.depth T (2 / Tryz.prog.cellsOf T) 0 91 1 = true := by
 rcases h with rfl | rfl <;> kernel_rfl
theorem BT.ne {T : TypeId} (h : BT T) : T ≠ 5 := by
 rcases h with rfl | rfl <;> decide
theorem sizeB : (Tryz.prog.info? 91).map (fun i => i.size) = some 2 := by kernel_rfl
theorem infoB : (Tryz.prog.info? 5).map (fun i => (i.zero, i.size, i.bytes)) = some (some (.int .u8 0), 1, 1) := by kernel_rfl
structure WKept (B b : Nat) (w w' : World) : Prop where
 below : Below B w w'
 others : Lib.OthersKept 5 (some b) w w'
theorem WKept.refl (B b : Nat) (w : World) : WKept B b w w := ⟨Below.refl _ _, Lib.OthersKept.refl _ _ _⟩
theorem WKept.trans {B b : Nat} {w w' w'' : World} (h : WKept B b w w') (k : WKept B b w' w'') : WKept B b w w'' := ⟨h.below.trans k.below, h.others.trans k.others⟩
set_option maxHeartbeats 1000000 in
set_option maxRecDepth 100000 in
theorem wb_copy_fresh (T : TypeId) (hT : BT T) (b : Nat) (w : World) (h0 : w.cell? ⟨b, 0, none⟩ = some (.pointer none)) (hsh : w.shape? b = some (T, 2)) (hfz : w.frozen? ⟨b, 0, none⟩ = false) :
 Calls Tryz.prog 120 #[.pointer (some ⟨b, 0, none⟩)] w fun e w' => e = .returned (.tuple #[]) ∧ w' = w.setCell ⟨b, 0, none⟩ (.pointer (some ⟨b, 0, none⟩)) := by
 obtain ⟨j, hj, hjs⟩ := Option.map_eq_some_iff.1 sizeB
 have hlies := hT.lies
 go_enter Tryz.func120, Tryz.ntmps120
 go_wp2
 rw [Lib.run_to_unsafe w ⟨b, 0, none⟩ Tryz.underlying89 Tryz.underlying207 hj (by rw [hjs]; decide) hsh (Nat.zero_lt_succ 1)]
 simp only [Result.andThen]
 rw [Oper.upon_value]
 go_wp2
 rw [run_callFunc_extern Tryz.func168 (by kernel_rfl) (by kernel_rfl) (by kernel_rfl) (e := Extern.AbiNoEscape.same) (by kernel_rfl)]
 rw [Lib.run_noEscape]
 simp only [Result.andThen]
 rw [Oper.upon_value]
 go_wp2
 rw [Lib.run_from_unsafe w ⟨b, 0, none⟩ Tryz.underlying207 Tryz.underlying89 hj hsh hlies]
 simp only [Result.andThen]
 rw [Oper.upon_value]
 go_wp2
 go_end0
 exact ⟨rfl, rfl⟩
set_option maxHeartbeats 1000000 in
set_option maxRecDepth 100000 in
theorem wb_copy_used (b : Nat) (w : World) (h0 : w.cell? ⟨b, 0, none⟩ = some (.pointer (some ⟨b, 0, none⟩))) :
 Calls Tryz.prog 120 #[.pointer (some ⟨b, 0, none⟩)] w fun e w' => e = .returned (.tuple #[]) ∧ w' = w := by
 obtain ⟨j, hj, hjs⟩ := Option.map_eq_some_iff.1 sizeB
 go_enter Tryz.func120, Tryz.ntmps120
 go_wp2
 rw [Lib.run_neq_ptr_same _ _ Tryz.underlying89 hj]
 go_wp2
 go_end0
 exact ⟨rfl, rfl⟩
theorem wb_copy (T : TypeId) (hT : BT T) (B b : Nat) (bs : List Value) (w : World) (h : Lib.IsBuilderF T 5 B b bs w) :
 Calls Tryz.prog 120 #[.pointer (some ⟨b, 0, none⟩)] w fun e w' => e = .returned (.tuple #[]) ∧ Lib.BuilderAtF T 5 B b (.pointer (some ⟨b, 0, none⟩)) bs w' ∧ WKept B b w w' := by
 rcases h with h | h
 · refine (wb_copy_fresh T hT b w h.cell0 h.shape h.frozen0).mono ?_
   rintro e w' ⟨rfl, rfl⟩
   exact ⟨rfl, h.used _, (Below.refl B w).setCell (p := ⟨b, 0, none⟩) h.1 _, (Lib.OthersKept.refl _ _ w).setCell ⟨b, 0, none⟩ rfl _⟩
 · refine (wb_copy_used b w h.cell0).mono ?_
   rintro e w' ⟨rfl, rfl⟩
   exact ⟨rfl, h, WKept.refl _ _ _⟩
abbrev WBs (T : TypeId) (B b : Nat) (l : List UInt8) (w : World) : Prop := Lib.IsBuilderF T 5 B b (Lib.byteCells l) w
theorem WBs.at {T : TypeId} {B b : Nat} {bs : List Value} {w : World} (h : Lib.IsBuilderF T 5 B b bs w) : ∃ p, (p = .pointer none ∨ p = .pointer (some ⟨b, 0, none⟩)) ∧ Lib.BuilderAtF T 5 B b p bs w := by
 rcases h with h | h
 · exact ⟨_, .inl rfl, h⟩
 · exact ⟨_, .inr rfl, h⟩
theorem wb_form {B n : Nat} {w : World} {v : Value} {xs : List Value} (h : w.ownsRowF B 5 1 v n xs) : ∃ A cap, v = .slice A n cap := by
 rcases h.2 with ⟨rfl, rfl⟩ | ⟨g, cap, cur, fz, rfl, _⟩
 · exact ⟨_, _, rfl⟩
 · exact ⟨_, _, rfl⟩
set_option maxHeartbeats 1000000 in
set_option maxRecDepth 100000 in
theorem wb_Len (T : TypeId) (B b : Nat) (l : List UInt8) (w : World) (h : WBs T B b l w) :
 Calls Tryz.prog 57 #[.pointer (some ⟨b, 0, none⟩)] w fun e w' => e = .returned (.int .i64 l.length) ∧ w' = w := by
 obtain ⟨p, _, hB, v, hbk, hown, hne⟩ := WBs.at h
 rw [Lib.byteCells_length] at hown
 obtain ⟨A, cap, rfl⟩ := wb_form hown
 have c1 : w.cell? ⟨b, 1, none⟩ = some (.slice A l.length cap) := by rw [Lib.cell_of_heap hbk]; rfl
 go_enter Tryz.func57, Tryz.ntmps57
 go_wp2
 go_ret
 exact ⟨rfl, rfl⟩
set_option maxHeartbeats 2000000 in
set_option maxRecDepth 100000 in
theorem wb_WriteString (T : TypeId) (hT : BT T) (B b : Nat) (l : List UInt8) (s : ByteArray) (w : World) (h : WBs T B b l w) (hlen : l.length + s.size ≤ 140737488355328) (hBw : B ≤ w.heap.size) :
 Calls Tryz.prog 97 #[.pointer (some ⟨b, 0, none⟩), .string s] w fun e w' => e = .returned (.tuple #[.int .i64 s.size, .nilIface]) ∧ WBs T B b (l ++ s.data.toList) w' ∧ WKept B b w w' := by
 obtain ⟨n, hn⟩ : ∃ n, Hid ((Lib.byteCells l).length = n) := ⟨_, hide rfl⟩
 have hl0 := Lib.byteCells_length l
 rw [hn.out] at hl0
 rw [← hl0] at hlen
 clear hl0
 have CC := wb_copy T hT B b _ w h
 have hne := hT.ne
 clear h
 obtain ⟨i0, hi, hz0, hz1, hz2⟩ := info_parts infoB
 go_enter Tryz.func97, Tryz.ntmps97
 go_wp2_with fail
 refine CC.mono ?_
 rintro e w1 ⟨rfl, ⟨hB, v, hbk, hown, hno⟩, hb1, hk1⟩
 rw [hn.out] at hown
 clear CC
 have c1 : w1.cell? ⟨b, 1, none⟩ = some v := by rw [Lib.cell_of_heap hbk]; rfl
 go_wp2_with (at_builtin; refine Lib.wpList_append_own_stringF _ rfl _ _ 57 9 rfl B 5 i0 Tryz.underlying57 Tryz.underlying9 hi hz0 hz1 hz2 _ _ _ rfl hown s rfl ?c3 ?c4 ?c5 ?_)
 case c3 => unfold maxLen; omega
 case c4 => omega
 case c5 => have := hb1.size; omega
 intro v' w2 hown' hgrow _
 have hlt : b < w1.heap.size := (Array.getElem?_eq_some_iff.1 hbk).1
 have hb2 : w2.heap[b]? = some (.cells #[.pointer (some ⟨b, 0, none⟩), v] T (0, 0)) := by
  rw [hgrow.block b hlt (fun e => hno e.symm)]
  exact hbk
 have d1 : w2.cell? ⟨b, 1, none⟩ = some v := by rw [Lib.cell_of_heap hb2]; rfl
 have f1 : w2.frozen? ⟨b, 1, none⟩ = false := Lib.frozen_of_heap hb2 1
 obtain ⟨A', cap', rfl⟩ := wb_form hown'
 go_wp2
 go_ret2
 refine ⟨rfl, .inr ?_, ?_, (hk1.grown hgrow (Lib.ownsRowF_kind hown)).setCell ⟨b, 1, none⟩ rfl _⟩
 · rw [Lib.byteCells_append, ← Lib.strCells_eq]
   exact Lib.BuilderAtF.put (T := T) (e := 5) hB hb2 (bs' := Lib.byteCells l ++ Lib.strCells s) (by rw [List.length_append, hn.out, Lib.strCells_length]; exact hown') hne
 · exact (hb1.grown hgrow (by have := hb1.size; omega) (fun k hk => (hown.lt k hk).1)).setCell (p := ⟨b, 1, none⟩) hB _
set_option maxHeartbeats 2000000 in
set_option maxRecDepth 100000 in
theorem wb_WriteByte (T : TypeId) (hT : BT T) (B b : Nat) (l : List UInt8) (c : UInt8) (w : World) (h : WBs T B b l w) (hlen : l.length + 1 ≤ 140737488355328) (hBw : B ≤ w.heap.size) :
 Calls Tryz.prog 173 #[.pointer (some ⟨b, 0, none⟩), .int .u8 c.toNat] w fun e w' => e = .returned .nilIface ∧ WBs T B b (l ++ [c]) w' ∧ WKept B b w w' := by
 obtain ⟨n, hn⟩ : ∃ n, Hid ((Lib.byteCells l).length = n) := ⟨_, hide rfl⟩
 have hl0 := Lib.byteCells_length l
 rw [hn.out] at hl0
 rw [← hl0] at hlen
 clear hl0
 have CC := wb_copy T hT B b _ w h
 have hne := hT.ne
 obtain ⟨x, hx⟩ : ∃ x : Int, Hid ((c.toNat : Int) = x) := ⟨_, hide rfl⟩
 rw [hx.out]
 clear h
 obtain ⟨i0, hi, hz0, hz1, hz2⟩ := info_parts infoB
 go_enter Tryz.func173, Tryz.ntmps173
 go_wp2_with fail
 refine CC.mono ?_
 rintro e w1 ⟨rfl, ⟨hB, v, hbk, hown, hno⟩, hb1, hk1⟩
 rw [hn.out] at hown
 clear CC
 have c1 : w1.cell? ⟨b, 1, none⟩ = some v := by rw [Lib.cell_of_heap hbk]; rfl
 go_wp2_with (at_builtin; refine wpList_append_ownF _ rfl _ _ 57 rfl B 5 i0 (.int .u8 0) 1 1 Tryz.underlying57 hi hz0 hz1 hz2 rfl (by decide) _ _ _ rfl (hown.alloc _) ⟨w1.heap.size, 0, none⟩ 1 1 [.int .u8 x] rfl rfl ?c1 ?c2 ?c3 ?c4 ?c5 ?_)
 case c1 =>
  intro j u hj
  match j, hj with
  | 0, hj => simp at hj; subst hj; simp [Addr.add]
 case c2 => intro u hu; simp at hu; subst hu; rfl
 case c3 => unfold maxLen; omega
 case c4 => omega
 case c5 => have := hb1.size; simp; omega
 intro v' w2 hown' hgrow _
 have hlt : b < w1.heap.size := (Array.getElem?_eq_some_iff.1 hbk).1
 have hb2 : w2.heap[b]? = some (.cells #[.pointer (some ⟨b, 0, none⟩), v] T (0, 0)) := by
  rw [hgrow.block b (by simp; omega) (fun e => hno e.symm), Lib.alloc_old w1 _ b hlt]
  exact hbk
 have d1 : w2.cell? ⟨b, 1, none⟩ = some v := by rw [Lib.cell_of_heap hb2]; rfl
 have f1 : w2.frozen? ⟨b, 1, none⟩ = false := Lib.frozen_of_heap hb2 1
 obtain ⟨A', cap', rfl⟩ := wb_form hown'
 go_wp2
 go_ret
 refine ⟨rfl, .inr ?_, ?_, ((hk1.alloc _).grown hgrow (Lib.ownsRowF_kind (hown.alloc _))).setCell ⟨b, 1, none⟩ rfl _⟩
 · rw [Lib.byteCells_append, show Lib.byteCells [c] = [.int .u8 x] by simp [Lib.byteCells, hx.out]]
   exact Lib.BuilderAtF.put (T := T) (e := 5) hB hb2 (bs' := Lib.byteCells l ++ [.int .u8 x]) (by rw [List.length_append, hn.out]; exact hown') hne
 · exact ((hb1.alloc (by have := hb1.size; omega) _).grown hgrow (by have := hb1.size; simp; omega) (fun k hk => (hown.lt k hk).1)).setCell (p := ⟨b, 1, none⟩) hB _
set_option maxHeartbeats 2000000 in
set_option maxRecDepth 100000 in
theorem wb_WriteRune (T : TypeId) (hT : BT T) (B b : Nat) (l : List UInt8) (r : Int) (hr0 : 0 ≤ r) (hr1 : r ≤ 1114111) (w : World) (h : WBs T B b l w) (hlen : l.length + 4 ≤ 140737488355328) (hBw : B ≤ w.heap.size) :
 Calls Tryz.prog 175 #[.pointer (some ⟨b, 0, none⟩), .int .i32 r] w fun e w' => (∃ v, e = .returned v) ∧ WBs T B b (l ++ Lib.encodeRune r) w' ∧ WKept B b w w' := by
 obtain ⟨n, hn⟩ : ∃ n, Hid ((Lib.byteCells l).length = n) := ⟨_, hide rfl⟩
 have hl0 := Lib.byteCells_length l
 rw [hn.out] at hl0
 rw [← hl0] at hlen
 clear hl0
 have CC := wb_copy T hT B b _ w h
 have hne := hT.ne
 clear h
 go_enter Tryz.func175, Tryz.ntmps175
 go_wp2_with fail
 refine CC.mono ?_
 rintro e w1 ⟨rfl, ⟨hB, v, hbk, hown, hno⟩, hb1, hk1⟩
 rw [hn.out] at hown
 clear CC
 have c1 : w1.cell? ⟨b, 1, none⟩ = some v := by rw [Lib.cell_of_heap hbk]; rfl
 have AR := Any.utf8_AppendRune_own Tryz.lays242 Tryz.Builder_Extra_242 B v _ _ r (by omega) (by omega) w1 hown hlen (by have := hb1.size; omega)
 obtain ⟨A0, cap0, rfl⟩ := wb_form hown
 go_wp2_with fail
 refine AR.mono ?_
 rintro e w2 ⟨v', rfl, hown', o, hgrow⟩
 have hlt : b < w1.heap.size := (Array.getElem?_eq_some_iff.1 hbk).1
 have hb2 : w2.heap[b]? = some (.cells #[.pointer (some ⟨b, 0, none⟩), .slice A0 n cap0] T (0, 0)) := by
  rw [hgrow.block b (by simp; omega) (fun e => hno e.symm), Lib.alloc_old w1 _ b hlt]
  exact hbk
 have d1 : w2.cell? ⟨b, 1, none⟩ = some (.slice A0 n cap0) := by rw [Lib.cell_of_heap hb2]; rfl
 have f1 : w2.frozen? ⟨b, 1, none⟩ = false := Lib.frozen_of_heap hb2 1
 clear AR
 obtain ⟨A', cap', rfl⟩ := wb_form hown'
 have hput := Lib.BuilderAtF.put (T := T) (e := 5) hB hb2 (bs' := Lib.byteCells l ++ Lib.runeCells r) (by rw [List.length_append, hn.out]; exact hown') hne
 have hc1 : (w2.setCell ⟨b, 1, none⟩ (.slice (A') (n + (Lib.runeCells r).length) cap')).cell? ⟨b, 1, none⟩ = some (.slice (A') (n + (Lib.runeCells r).length) cap') := World.cell?_setCell_same' w2 ⟨b, 1, none⟩ _ (by rw [d1]; rfl)
 have HP := hide hput
 have HK := hide (show WKept B b w (w2.setCell ⟨b, 1, none⟩ (.slice A' (n + (Lib.runeCells r).length) cap')) from
  ⟨((hb1.alloc (by have := hb1.size; omega) _).grown hgrow (by have := hb1.size; simp; omega) (fun k hk => (hown.lt k hk).1)).setCell (p := ⟨b, 1, none⟩) hB _, ((hk1.alloc _).grown hgrow (Lib.ownsRowF_kind (hown.alloc _))).setCell ⟨b, 1, none⟩ rfl _⟩)
 obtain ⟨m, hm⟩ : ∃ m, Hid (n + (Lib.runeCells r).length = m) := ⟨_, hide rfl⟩
 rw [hm.out] at hc1 HP HK
 have hm' : n ≤ m := by rw [← hm.out]; omega
 have hm2 : m ≤ n + 4 := by rw [← hm.out]; have := Lib.runeCells_le r; omega
 rw [hm.out]
 clear hput hown hown' hgrow hbk
 go_wp2_with fail
 go_ret2
 refine ⟨⟨_, rfl⟩, .inr ?_, HK.out⟩
 rw [Lib.byteCells_append, Lib.byteCells_encodeRune]
 exact HP.out
set_option maxHeartbeats 1000000 in
set_option maxRecDepth 100000 in
theorem wb_String (T : TypeId) (B b : Nat) (l : List UInt8) (w : World) (h : WBs T B b l w) (h0 : l ≠ []) :
 Calls Tryz.prog 58 #[.pointer (some ⟨b, 0, none⟩)] w fun e w' => e = .returned (.string ⟨l.toArray⟩) ∧ WBs T B b l w' ∧ WKept B b w w' := by
 obtain ⟨p, hp, hB, v, hbk, hown, hne⟩ := WBs.at h
 have hl0 : l.length ≠ 0 := by simpa using h0
 have hA : Lib.BuilderAtF T 5 B b p (Lib.byteCells l) w := ⟨hB, v, hbk, hown, hne⟩
 rw [Lib.byteCells_length] at hown
 obtain ⟨g, cap, cur, fz, rfl, hbg, hg, hfz, hnc, hcm, hcs, htake⟩ : ∃ g cap cur fz, v = .slice (some ⟨g, 0, none⟩) l.length cap ∧ B ≤ g ∧ w.heap[g]? = some (.cells cur 5 fz) ∧ fz.2 ≤ l.length * 1 ∧ l.length ≤ cap ∧ cap ≤ maxLen ∧ cur.size = cap * 1 ∧ cur.toList.take (l.length * 1) = Lib.byteCells l := by
  rcases hown.2 with ⟨_, hz⟩ | ⟨g, cap, cur, fz, hv, r⟩
  · exact absurd hz hl0
  · exact ⟨g, cap, cur, fz, hv, r⟩
 have c1 : w.drew.cell? ⟨b, 1, none⟩ = some (.slice (some ⟨g, 0, none⟩) l.length cap) := by
  have : w.drew.heap[b]? = some (.cells #[p, .slice (some ⟨g, 0, none⟩) l.length cap] T (0, 0)) := hbk
  rw [Lib.cell_of_heap this]; rfl
 have hSD : (Builtin.unsafeSliceData_ #[57] 136 #[.slice (some ⟨g, 0, none⟩) l.length cap]).run Tryz.prog w.drew = .ok (.pointer (some ⟨g, 0, none⟩)) w.drew :=
  Lib.run_unsafeSliceData_row _ _ _ _ _ _ (by omega)
 have hUS : (Builtin.unsafeString_ #[136, 3] 9 #[.pointer (some ⟨g, 0, none⟩), .int .i64 l.length]).run Tryz.prog w.drew = .ok (.string ⟨l.toArray⟩) (w.drew.freeze ⟨g, 0, none⟩ l.length) := by
  refine Lib.run_unsafeString_row w.drew 136 3 9 5 Tryz.underlying136 (by kernel_rfl) g cur.size (by have hg' : w.drew.heap[g]? = some (.cells cur 5 fz) := hg; simp [World.shape?, hg']) l h0 (by omega) (by unfold maxLen at hcm; omega) ?_
  intro j x hx
  exact hown.cells (g := g) rfl j (.int .u8 x.toNat) (by simp [Lib.byteCells, hx])
 have hkeep : WBs T B b l (w.drew.freeze ⟨g, 0, none⟩ l.length) := by
  have hA' : Lib.BuilderAtF T 5 B b p (Lib.byteCells l) w.drew := hA
  have hF := hA'.froze (g := g) (cap := cap) (by rw [Lib.byteCells_length]; exact c1)
  rw [Lib.byteCells_length] at hF
  rcases hp with rfl | rfl
  · exact .inl hF
  · exact .inr hF
 have HK := hide hkeep
 have HW := hide (show WKept B b w (w.drew.freeze ⟨g, 0, none⟩ l.length) from ⟨Lib.below_freeze (Below.drew (Below.refl B w)) (p := ⟨g, 0, none⟩) hbg _, ((Lib.OthersKept.refl _ _ w).drew).freeze ⟨g, 0, none⟩ _ ⟨cur, fz, hg⟩⟩)
 clear hkeep hA hown hbk hg h
 go_enter Tryz.func58, Tryz.ntmps58
 go_wp2
 go_region
 all_goals (go_wp2; go_ret; exact ⟨rfl, HK.out, HW.out⟩)
end Go.Proofs.YthlfljmfggmfdaaGreatDoor

/-! ###  -/
namespace Go.Proofs.YthlfljmfggmfdaaGreatDoor
open Go Go.RowKit
section
variable {P : Program} {md : Region.Mode} {ops : Array Oper} {C : World → Prop}
def headQ (P : Program) (md : Region.Mode) (ops : Array Oper) (C : World → Prop) (n : Nat) (L : Array Bool → Act → Prop) : Nat → Array Bool → Act → Prop
 | 0, listed, a => L listed a
 | f + 1, listed, a =>
   Region.ready md ops listed ≠ [] ∧ ∀ i ∈ Region.ready md ops listed, i < n ∧ qOp P ops C i (headQ P md ops C n L f (listed.setIfInBounds i true)) a
theorem headQ_any {n g : Nat} {L : Array Bool → Act → Prop} {Q' : Exit → Act → World → Prop} (hL : ∀ listed a w, C w → L listed a → wpAny P md ops Q' g listed a w) :
 ∀ (f : Nat) (listed : Array Bool) (a : Act) (w : World), C w → headQ P md ops C n L f listed a → wpAny P md ops Q' (f + g) listed a w
 | 0, listed, a, w, hw, h => by rw [Nat.zero_add]; exact hL _ _ _ hw h
 | f + 1, listed, a, w, hw, h => by
   rw [show f + 1 + g = (f + g) + 1 by omega]
   exact ⟨fun h0 => absurd h0 h.1, fun i hi => wpOp_of_qOp hw (fun a' w' hw' h' => headQ_any hL f _ a' w' hw' h') (h.2 i hi).2⟩
theorem headQ_first {n i : Nat} {oi : Oper} {v : Value} {L : Array Bool → Act → Prop} (hi : ops[i]? = some oi) (hsel : ∀ (j : Nat) (o : Oper) cs b, ops[j]? = some o → o.op ≠ .select cs b)
 (hs : Region.sinkB md ops n = true) (hc : Region.chainB md ops n = true) (hn : n < ops.size) (hin : i < n)
 (hdone : ∀ listed a, L listed a → ∀ j ∈ Region.ready md ops listed, n ≤ j) :
 ∀ (f : Nat) (listed : Array Bool) (a : Act), HeadInv md ops n listed →
  (∀ j oj, ops[j]? = some oj → j ≠ i → listed.getD j true = false → (∀ e ∈ oj.after, Region.binds md e = true → e.on ≠ i) → oi.apart ops oj = true) →
  i ∈ Region.ready md ops listed → YieldsIn P ops C oi v a →
  headQ P md ops C n L f (listed.setIfInBounds i true) (a.put oi.dst v) → headQ P md ops C n L (f + 1) listed a := by
 intro f
 induction f with
 | zero =>
   intro listed a inv _ hr hy H
   have hun := (mem_ready.1 hr).1
   refine ⟨fun h => (by rw [h] at hr; cases hr), fun j hj => ?_⟩
   have hjn : j < n := by
    rcases Nat.lt_or_ge j n with h | h
    · exact h
    · exact absurd hj (tail_waits hs hc hn inv _ i rfl hin hun j h)
   refine ⟨hjn, ?_⟩
   by_cases hji : j = i
   · subst hji; exact hy.qOp hi H
   · have := hdone _ _ H j (ready_mono hj hji)
     omega
 | succ f ih =>
   intro listed a inv hfree hr hy H
   have hun := (mem_ready.1 hr).1
   refine ⟨fun h => (by rw [h] at hr; cases hr), fun j hj => ?_⟩
   have hjn : j < n := by
    rcases Nat.lt_or_ge j n with h | h
    · exact h
    · exact absurd hj (tail_waits hs hc hn inv _ i rfl hin hun j h)
   refine ⟨hjn, ?_⟩
   by_cases hji : j = i
   · subst hji; exact hy.qOp hi H
   · have h1 := (H.2 j (ready_mono hj hji)).2
     obtain ⟨hjun, oj, hoj, hall⟩ := mem_ready.1 hj
     have hnot : ∀ e ∈ oj.after, Region.binds md e = true → e.on ≠ i := fun e he hb heq => by
      have h1 := hall e he hb
      rw [heq, getD_both hun] at h1
      cases h1
     have h2 := qOp_put hoj (hfree j oj hoj hji hjun hnot) (fun cs b => hsel i oi cs b hi) (fun cs b => hsel j oj cs b hoj) hy h1
     have hfree' : ∀ k ok, ops[k]? = some ok → k ≠ i → (listed.setIfInBounds j true).getD k true = false →
      (∀ e ∈ ok.after, Region.binds md e = true → e.on ≠ i) → oi.apart ops ok = true := fun k ok hk hki hun hno => by
      refine hfree k ok hk hki ?_ hno
      by_cases hjk : j = k
      · subst hjk; exact hjun
      · rw [getD_set_ne true hjk] at hun; exact hun
     refine qOp_mono (fun a' h3 => ih (listed.setIfInBounds j true) a' (inv.set hj hjn) hfree' (ready_mono hr (Ne.symm hji)) h3.1 ?_) h2
     rw [Array.setIfInBounds_comm _ _ hji]
     exact h3.2
theorem headQ_lex {n g : Nat} {Lq : Act → Prop} (hsel : Region.noSelect ops = true) (hs : Region.sinkB md ops n = true) (hc : Region.chainB md ops n = true) (hn : n < ops.size) :
 ∀ (l : List Oper) (k : Nat) (listed : Array Bool) (a : Act), (∀ j, j < l.length → l[j]? = ops[k + j]?) → k + l.length = n → HeadInv md ops n listed →
 Region.lexHead md ops g l.length k listed = true → wpQuiet P ops C Lq l a →
 headQ P md ops C n (fun listed' a' => Region.seqB md ops g n listed' = true ∧ Lq a') l.length listed a
 | [], k, listed, a, _, hk, _, hB, h => by
   have : k = n := by simpa using hk
   subst this
   exact ⟨by simpa [Region.lexHead] using hB, h⟩
 | o :: l, k, listed, a, hl, hk, inv, hB, h => by
   have h0 : ops[k]? = some o := by simpa using (hl 0 (by simp)).symm
   simp only [List.length_cons, Region.lexHead, Bool.and_eq_true] at hB
   obtain ⟨⟨hr, hf⟩, hB'⟩ := hB
   have hkn : k < n := by simp only [List.length_cons] at hk; omega
   have hr' : k ∈ Region.ready md ops listed := by simpa using hr
   have hst : qOp P ops C k (wpQuiet P ops C Lq l) a := by unfold qOp; simp only [h0]; exact h
   obtain ⟨v, hy, hK⟩ := yieldsIn_of_qOp h0 hst
   exact headQ_first h0 (Region.noSelect_spec hsel) hs hc hn hkn (fun listed' a' hL => seqB_ready hL.1) l.length listed a inv (Region.free_spec h0 hf) hr' hy
    (headQ_lex hsel hs hc hn l (k + 1) _ _ (fun j hj => by have := hl (j + 1) (by simp; omega); simpa [Nat.add_assoc, Nat.add_comm 1 j] using this) (by simp only [List.length_cons] at hk; omega) (inv.set hr' hkn) hB' hK)
theorem region_quiet_tail {id : Nat} {Q : Exit → Act → World → Prop} {a : Act} {w : World} {l : List Oper} (n : Nat) (hm : P.follows .mixedOrders = true) (hB : Region.lexTailB .any l.toArray n = true) (hC : C { w with drawn := w.drawn + 1 })
 (h : wpQuiet P l.toArray C (fun a' => ∀ w', C w' → wpList P l.toArray Q (l.drop n) a' w') (l.take n) a) : (Code.region id l.toArray true).wp P Q a w := by
 simp only [Region.lexTailB, Bool.and_eq_true, decide_eq_true_eq] at hB
 obtain ⟨⟨⟨⟨hsel, hn⟩, hs⟩, hc⟩, hlex⟩ := hB
 have hn' : n < l.length := by simpa using hn
 have htl : (l.take n).length = n := by simp; omega
 have hdl : (l.drop n).length = l.toArray.size - n := by simp
 have inv0 : HeadInv .any l.toArray n (Array.replicate l.toArray.size false) :=
  ⟨by simp, fun j oj _ hl => (by rw [getD_replicate_false] at hl; cases hl), fun t _ ht => getD_in (by simpa using ht) (getD_replicate_false _ _)⟩
 have H := headQ_lex (md := .any) (g := l.toArray.size - n) hsel hs hc hn (l.take n) 0 _ a (fun j hj => by
  have hj' : j < n := by rw [htl] at hj; exact hj
  simp [hj']) (by simpa using htl) inv0 (by rw [htl]; exact hlex) h
 refine wp_region_any hm ?_
 have := headQ_any (Q' := Q) (g := l.toArray.size - n) (fun listed a' w' hw' hL => by
  have := wpAny_of_seq (md := .any) (Q' := Q) (l.drop n) n listed a' w' (fun j => by simp [List.getElem?_drop]) (by rw [hdl]; exact hL.1) (hL.2 w' hw')
  rwa [hdl] at this) _ _ _ _ hC H
 rw [htl, show n + (l.toArray.size - n) = l.toArray.size by omega] at this
 exact this
end
theorem region_later_tail {P : Program} {id : Nat} {Q : Exit → Act → World → Prop} {a : Act} {w : World} {l : List Oper} (n : Nat) (hm : P.follows .mixedOrders = true) (hB : Region.lexTailB .any l.toArray n = true)
 (h : wpQuiet P l.toArray (fun w' => ∃ p : Later w, w' = p.world) (fun a' => ∀ w', (∃ p : Later w, w' = p.world) → wpList P l.toArray Q (l.drop n) a' w') (l.take n) a) : (Code.region id l.toArray true).wp P Q a w :=
 region_quiet_tail (C := fun w' => ∃ p : Later w, w' = p.world) n hm hB ⟨⟨w.drew, (Old.refl w).drew⟩, rfl⟩ h
end Go.Proofs.YthlfljmfggmfdaaGreatDoor

/-! ###  -/
namespace Go.Proofs.YthlfljmfggmfdaaGreatDoor
open Go.RowKit
abbrev BysOwn (base : Nat) (w : World) (v : Value) (l : List UInt8) : Prop := w.ownsRow base 5 1 v l.length (Lib.byteCells l)
theorem bys_one (q : List UInt8) : ∀ u ∈ Lib.byteCells q, u.oneCell' = true := by
 intro u hu
 obtain ⟨b, _, rfl⟩ := List.mem_map.1 hu
 rfl
theorem bys_lit (w : World) (q : List UInt8) (c : Array Value) (h : c.toList = Lib.byteCells q) (hl : q.length ≤ 1048576) : Sl (w.alloc (.cells c 5)) (.slice (some ⟨w.heap.size, 0, none⟩) q.length q.length) q.length (Lib.byteCells q) := by
 refine ⟨_, _, rfl, Nat.le_refl _, by unfold maxLen; omega, fun _ => ⟨w.heap.size, 0, rfl, fun j u hu => ?_⟩⟩
 rw [Nat.zero_add, cell_of_heap (heap_alloc_new w _)]
 rw [← h] at hu
 simpa using hu
theorem push_bys {o : Oper} {a : Act} {K : Act → World → Prop} {Q : Exit → Act → World → Prop} (w : World) (s x : Operand)
 (ho : o.op = .call { callee := .builtin .append, args := #[s, x], argTypes := #[57, 57] })
 (base : Nat) (v : Value) (r : List UInt8) (hs : a.eval s = v) (hown : BysOwn base w v r)
 (xv : Value) (q : List UInt8) (hev : a.eval x = xv) (hx : Sl w xv q.length (Lib.byteCells q)) (hlen : r.length + q.length ≤ 140737488355328) (hbase : base ≤ w.heap.size)
 (h : ∀ v' w', BysOwn base w' v' (r ++ q) → Below base w w' → K (a.put o.dst v') w') : o.wp Tryz.prog a w K Q := by
 obtain ⟨i0, hi, hz0, hz1, hz2⟩ := info_parts infoB
 refine wp_append_sl w s x 57 ho base 5 i0 _ 1 1 Tryz.underlying57 hi hz0 hz1 hz2 rfl (by omega) v r.length (Lib.byteCells r) hs hown
  xv q.length (Lib.byteCells q) hev hx (by rw [Lib.byteCells_length]; omega) (bys_one q) (by unfold maxLen; omega) (by omega) hbase ?_
 intro v' w' own' hg
 refine h v' w' ?_ (Below.grown (Below.refl base w) hg hbase fun k hk => (hown.lt k hk).1)
 unfold BysOwn
 rw [Lib.byteCells_append, List.length_append]
 exact own'
theorem conv_bys {base : Nat} {w : World} {v : Value} {l : List UInt8} (h : BysOwn base w v l) (hl : l = [] → v = .slice none 0 0) : (convert 57 9 v).run Tryz.prog w = .ok (.string ⟨l.toArray⟩) w := by
 by_cases hn : l = []
 · rw [hl hn, hn]
   exact run_convert_bytes_nil _ 57 5 Tryz.underlying57 Tryz.underlying5 0 0 9 Tryz.underlying9
 rcases h.2 with ⟨_, hz⟩ | ⟨g, cap, cur, rfl, hb, hg, h1, h2, h3, h4⟩
 · exact absurd (List.length_eq_zero_iff.1 hz) hn
 · refine run_convert_bytes_back w _ _ 5 ⟨g, 0, none⟩ cap l Tryz.underlying57 Tryz.underlying5 Tryz.underlying9 fun j hj => ?_
   have hc : cur.toList[j]? = some (.int .u8 (l[j].toNat : Int)) := by
    have h5 : (cur.toList.take (l.length * 1))[j]? = (Lib.byteCells l)[j]? := by rw [h4]
    rw [List.getElem?_take_of_lt (by omega)] at h5
    rw [h5]
    simp [Lib.byteCells, hj]
   have := cell_of_heap (i := 0 + j) hg
   simp [Addr.add] at this ⊢
   rw [show (if j = 0 then ({ block := g, off := 0 } : Addr) else { block := g, off := j }) = { block := g, off := j } by split <;> simp_all, this]
   simpa using hc
def dI (c : UInt8) : Int := match hexV? c with
 | some n => (n : Int)
 | none => -1
end Go.Proofs.YthlfljmfggmfdaaGreatDoor

/-! ###  -/
namespace Go.Proofs.YthlfljmfggmfdaaGreatDoor
open Go.RowKit
def updV (val : Nat → Value) (i : Nat) (v : Value) : Nat → Value := fun j => if j = i then v else val j
theorem updV_same (val : Nat → Value) (i : Nat) (v : Value) : updV val i v i = v := if_pos rfl
theorem updV_other {val : Nat → Value} {i j : Nat} {v : Value} (h : j ≠ i) : updV val i v j = val j := if_neg h
def unl (n : Nat) (listed : Array Bool) : Nat := ((List.range n).filter fun i => !listed.getD i true).length
theorem getD_set (listed : Array Bool) (i j : Nat) (d : Bool) (hi : i < listed.size) : (listed.setIfInBounds i true).getD j d = if j = i then true else listed.getD j d := by
 by_cases h : j = i
 · subst h
   rw [if_pos rfl]
   simp [Array.getD, hi]
 · rw [if_neg h]
   simp only [Array.getD, Array.size_setIfInBounds]
   split
   · rename_i hj
     exact Array.getElem_setIfInBounds_ne hj (fun e => h e.symm)
   · rfl
theorem unl_set {n i : Nat} {listed : Array Bool} (hs : listed.size = n) (hi : i < n) (h : listed.getD i true = false) : unl n (listed.setIfInBounds i true) < unl n listed := by
 unfold unl
 have e : ((List.range n).filter fun k => !(listed.setIfInBounds i true).getD k true) = (((List.range n).filter fun k => !listed.getD k true).filter fun k => decide (k ≠ i)) := by
  rw [List.filter_filter]
  apply List.filter_congr
  intro k _
  rw [getD_set listed i k true (by omega)]
  by_cases hk : k = i
  · simp [hk]
  · simp [hk]
 rw [e]
 apply List.length_filter_lt_length_iff_exists.2
 exact ⟨i, List.mem_filter.2 ⟨List.mem_range.2 hi, by rw [h]; rfl⟩, by simp⟩
theorem unl_zero {n : Nat} {listed : Array Bool} (h : unl n listed = 0) : ∀ i, i < n → listed.getD i true = true := by
 intro i hi
 unfold unl at h
 have := List.filter_eq_nil_iff.1 (List.eq_nil_of_length_eq_zero h) i (List.mem_range.2 hi)
 simpa using this
def backB (ops : Array Oper) : Bool := (List.range ops.size).all fun i => match ops[i]? with
 | some o => o.guard.isNone && o.after.all fun e => !Region.binds .any e || decide (e.on < i)
 | none => true
section
variable {P : Program} {ops : Array Oper} {Q : Exit → Act → World → Prop}
theorem ready_none (hb : backB ops = true) {listed : Array Bool} (hs : listed.size = ops.size) (hr : Region.ready .any ops listed = []) : ∀ i, i < ops.size → listed.getD i true = true := by
 intro i
 induction i using Nat.strongRecOn with
 | _ i ih =>
   intro hi
   cases hl : listed.getD i true
   · exfalso
     have hx := List.all_eq_true.1 hb i (List.mem_range.2 hi)
     rw [Array.getElem?_eq_getElem hi] at hx
     simp only [Bool.and_eq_true, Array.all_eq_true_iff_forall_mem, Bool.or_eq_true, Bool.not_eq_true', decide_eq_true_eq] at hx
     have := List.filter_eq_nil_iff.1 hr i (List.mem_range.2 hi)
     apply this
     rw [hl, Array.getElem?_eq_getElem hi]
     simp only [Option.map_some, Option.getD_some, Bool.not_false, Bool.true_and, Array.all_eq_true_iff_forall_mem]
     intro e he
     rcases hx.2 e he with hnb | h1
     · simp [hnb]
     have h2 := ih e.on h1 (by omega)
     have h3 : listed.getD e.on false = true := by
      have hb : e.on < listed.size := by omega
      simp only [Array.getD, hb, dif_pos] at h2 ⊢
      exact h2
     simp [h3]
   · rfl
def waits (o : Oper) (p : Nat → Prop) : Prop := ∀ e ∈ o.after, Region.binds .any e = true → p e.on
theorem dag_go (lit : (Nat → Value) → Act) (Good : Nat → Value → World → Prop) (w0 : World) (hb : backB ops = true)
 (hput : ∀ val i o v, ops[i]? = some o → (lit val).put o.dst v = lit (updV val i v))
 (hmono : ∀ i v w w', Old w w' → Good i v w → Good i v w')
 (hstep : ∀ i o, ops[i]? = some o → ∀ val w, Old w0 w → waits o (fun j => Good j (val j) w) → ∀ K : Act → World → Prop, (∀ v w', Old w w' → Good i v w' → K ((lit val).put o.dst v) w') → o.wp P (lit val) w K Q)
 (hend : ∀ val w, Old w0 w → (∀ i, i < ops.size → Good i (val i) w) → Q .normal (lit val) w) :
 ∀ (fuel : Nat) (listed : Array Bool) (val : Nat → Value) (w : World), listed.size = ops.size → unl ops.size listed ≤ fuel → Old w0 w → (∀ i, i < ops.size → listed.getD i true = true → Good i (val i) w) →
  wpAny P .any ops Q fuel listed (lit val) w := by
 intro fuel
 induction fuel with
 | zero =>
   intro listed val w hs hu ho hg
   have hall := unl_zero (Nat.le_zero.1 hu)
   refine ⟨?_, hend val w ho (fun i hi => hg i hi (hall i hi))⟩
   apply List.filter_eq_nil_iff.2
   intro i hi
   rw [hall i (List.mem_range.1 hi)]
   simp
 | succ fuel ih =>
   intro listed val w hs hu ho hg
   refine ⟨fun hr => hend val w ho (fun i hi => hg i hi (ready_none hb hs hr i hi)), fun i hi => ?_⟩
   obtain ⟨hi1, hi2⟩ := List.mem_filter.1 hi
   have hin := List.mem_range.1 hi1
   have hio : ops[i]? = some ops[i] := Array.getElem?_eq_getElem hin
   rw [hio] at hi2
   simp only [Bool.and_eq_true, Bool.not_eq_true', Option.map_some, Option.getD_some, Array.all_eq_true_iff_forall_mem] at hi2
   obtain ⟨hun, hdep⟩ := hi2
   have hx := List.all_eq_true.1 hb i hi1
   rw [hio] at hx
   simp only [Bool.and_eq_true, Array.all_eq_true_iff_forall_mem, Bool.or_eq_true, Bool.not_eq_true', decide_eq_true_eq] at hx
   have hguard : ops[i].guard = none := Option.isNone_iff_eq_none.1 hx.1
   unfold wpOp
   rw [hio]
   show if Region.wanted ops[i] (yielded ops (lit val).tmps) = true then _ else _
   rw [if_pos (by simp [Region.wanted, hguard])]
   refine .inl (hstep i ops[i] hio val w ho (fun e he hbd => ?_) _ (fun v w' ho' hgood => ?_))
   · have h1 := hdep e he
     rw [hbd] at h1
     have h2 : e.on < i := by
      rcases hx.2 e he with h | h
      · rw [hbd] at h; cases h
      · exact h
     have h3 : e.on < listed.size := by omega
     refine hg e.on (by omega) ?_
     simp only [Array.getD, h3, dif_pos] at h1 ⊢
     simpa using h1
   · rw [hput val i ops[i] v hio]
     refine ih _ _ _ (by simpa using hs) (by have := unl_set hs hin hun; omega) (ho.trans ho') (fun j hj hl => ?_)
     rw [getD_set _ _ _ _ (by omega)] at hl
     by_cases hji : j = i
     · subst hji
       rw [updV_same]
       exact hgood
     · rw [if_neg hji] at hl
       rw [updV_other hji]
       exact hmono _ _ _ _ ho' (hg j hj hl)
theorem region_dag {id : Nat} {a0 : Act} {w0 : World} (lit : (Nat → Value) → Act) (val0 : Nat → Value) (Good : Nat → Value → World → Prop) (hm : P.follows .mixedOrders = true) (hb : backB ops = true) (h0 : lit val0 = a0)
 (hput : ∀ val i o v, ops[i]? = some o → (lit val).put o.dst v = lit (updV val i v))
 (hmono : ∀ i v w w', Old w w' → Good i v w → Good i v w')
 (hstep : ∀ i o, ops[i]? = some o → ∀ val w, Old w0 w → waits o (fun j => Good j (val j) w) → ∀ K : Act → World → Prop, (∀ v w', Old w w' → Good i v w' → K ((lit val).put o.dst v) w') → o.wp P (lit val) w K Q)
 (hend : ∀ val w, Old w0 w → (∀ i, i < ops.size → Good i (val i) w) → Q .normal (lit val) w) : (Code.region id ops true).wp P Q a0 w0 := by
 refine wp_region_any hm ?_
 rw [← h0]
 refine dag_go lit Good w0 hb hput hmono hstep hend _ _ _ _ (by simp) ?_ ((Old.refl w0).drew) (fun i hi hl => ?_)
 · unfold unl
   have := List.length_filter_le (fun i => !(Array.replicate ops.size false).getD i true) (List.range ops.size)
   simpa using this
 · simp [hi] at hl
def allFrom (p : Nat → Oper → Prop) : Nat → List Oper → Prop
 | _, [] => True
 | k, o :: l => p k o ∧ allFrom p (k + 1) l
theorem allFrom_at {p : Nat → Oper → Prop} : ∀ {l : List Oper} {k : Nat}, allFrom p k l → ∀ i o, l[i]? = some o → p (k + i) o
 | [], _, _, i, o, h => by simp at h
 | x :: l, k, h, 0, o, ho => by
   simp at ho
   subst ho
   exact h.1
 | x :: l, k, h, i + 1, o, ho => by
   have := allFrom_at h.2 i o (by simpa using ho)
   rw [show k + (i + 1) = k + 1 + i by omega]
   exact this
theorem region_dag_l {l : List Oper} {id : Nat} {a0 : Act} {w0 : World} (lit : (Nat → Value) → Act) (val0 : Nat → Value) (Good : Nat → Value → World → Prop) (hm : P.follows .mixedOrders = true) (hb : backB l.toArray = true) (h0 : lit val0 = a0)
 (hput : allFrom (fun i o => ∀ val v, (lit val).put o.dst v = lit (updV val i v)) 0 l)
 (hmono : ∀ i v w w', Old w w' → Good i v w → Good i v w')
 (hstep : allFrom (fun i o => ∀ val w, Old w0 w → waits o (fun j => Good j (val j) w) → ∀ K : Act → World → Prop, (∀ v w', Old w w' → Good i v w' → K ((lit val).put o.dst v) w') → o.wp P (lit val) w K Q) 0 l)
 (hend : ∀ val w, Old w0 w → (∀ i, i < l.length → Good i (val i) w) → Q .normal (lit val) w) : (Code.region id l.toArray true).wp P Q a0 w0 :=
 region_dag lit val0 Good hm hb h0
  (fun val i o v ho => by have := allFrom_at hput i o (by simpa using ho); rw [Nat.zero_add] at this; exact this val v)
  hmono
  (fun i o ho => by have := allFrom_at hstep i o (by simpa using ho); rw [Nat.zero_add] at this; exact this)
  (fun val w ho hg => hend val w ho (fun i hi => hg i (by simpa using hi)))
theorem wp_value {o : Oper} {a : Act} {w w' : World} {v : Value} {K : Act → World → Prop} (h : (execOp a.eval o).run P w = .ok (.value v) w') (hk : K (a.put o.dst v) w') : o.wp P a w K Q := by
 unfold Oper.wp
 rw [h]
 exact hk
theorem wp_enter {o : Oper} {a : Act} {w w' : World} {f : FuncId} {args : Array Value} {K : Act → World → Prop} (h : (execOp a.eval o).run P w = .ok (.enter f args) w') (hc : Calls P f args w' fun e w'' => ∃ v, e = .returned v ∧ K (a.put o.dst v) w'') : o.wp P a w K Q := by
 unfold Oper.wp
 rw [h]
 exact hc.mono fun e w'' ⟨v, he, hk⟩ => by subst he; exact hk
end
end Go.Proofs.YthlfljmfggmfdaaGreatDoor
