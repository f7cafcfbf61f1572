/-  -/
import Derived.Test.YthlfljmfggmfdaaGreatDoorQk08
import Derived.Test.YthlfljmfggmfdaaGreatDoorQk09
import Derived.Test.YthlfljmfggmfdaaGreatDoorQk10
import Derived.Laws.Strings2
import Derived.Test.YthlfljmfggmfdaaGreatDoorQk02
import Derived.Test.YthlfljmfggmfdaaGreatDoorProg
import Derived.Lib.OthersKept
import Derived.Lib.FrozenHead2
import Derived.Lib.RuneBytes
import Derived.Test.YthlfljmfggmfdaaGreatDoorQk03
import Derived.Test.YthlfljmfggmfdaaGreatDoorQk01
import Derived.StillTail
import Derived.Deep.Quiet
/-! ###  -/
namespace Go.Proofs.YthlfljmfggmfdaaGreatDoor
open Go.RowKit
abbrev HexS : ByteArray := ⟨#[48, 49, 50, 51, 52, 53, 54, 55, 56, 57, 97, 98, 99, 100, 101, 102]⟩
theorem hexP {k : Nat} (h : k < 16) (w : World) : (Instr.slice 9 (.string HexS) (some (.int .u8 (k : Int))) (some (.int .u8 ((k : Int) + 1))) none).run Tryz.prog w = .ok (.string ⟨#[hexB k]⟩) w := by
 have key : ∀ k : _root_.Fin 16, HexS.extract k.val (k.val + 1) = ⟨#[hexB k.val]⟩ := by decide +kernel
 have h2 := run_slice_string (P := Tryz.prog) w 9 HexS .u8 .u8 (k : Int) ((k : Int) + 1) Tryz.underlying9 (by omega) (by omega) (by show (k : Int) + 1 ≤ ((16 : Nat) : Int); omega)
 rw [← key ⟨k, h⟩]
 rw [h2]
 congr 2
theorem hexB_D (n : Nat) : hexB n = hexD n := by
 unfold hexB hexD
 split <;> rfl
theorem hexL_append (a b : List UInt8) : hexL (a ++ b) = hexL a ++ hexL b := by
 induction a with
 | nil => rfl
 | cons x a ih => simp [hexL, ih]
theorem hexL_len (l : List UInt8) : (hexL l).length = 2 * l.length := by
 induction l with
 | nil => rfl
 | cons x a ih => simp [hexL, ih]; omega
theorem hexL_one (b : UInt8) : hexL [b] = [hexB (b.toNat / 16), hexB (b.toNat % 16)] := by
 rw [hexL, hexL, hexB_D, hexB_D]
theorem hexL_next (s : ByteArray) (k : Nat) (h : k < s.size) : hexL (s.data.toList.take (k + 1)) = hexL (s.data.toList.take k) ++ [hexB ((s.get! k).toNat / 16), hexB ((s.get! k).toNat % 16)] := by
 have e2 : s.data.toList.length = s.size := Array.length_toList
 rw [← hexL_one, ← hexL_append, List.take_add_one, List.getElem?_eq_getElem (by omega)]
 congr 2
 simp only [Option.toList, List.cons.injEq, and_true]
 show _ = s.data[k]!
 rw [getElem!_pos s.data k h]
 simp
set_option maxRecDepth 100000 in
set_option maxHeartbeats 1000000 in
theorem rhex_run (s : ByteArray) (hs : s.size ≤ 1073741824) (w : World) : Calls Tryz.prog 88 #[.string s] w (Ret (.string (hexOf s)) w) := by
 unfold Ret
 go_enter Tryz.func88, Tryz.ntmps88
 go_wp2_with fail
 go_loopw [3, 4] (fun ov iv wr => ∃ (k : Nat) (x : ByteArray), iv = .int .i64 k ∧ k ≤ s.size ∧ ov = .string x ∧ Hid (x.data.toList = hexL (s.data.toList.take k)) ∧ x.size = 2 * k ∧ Hid (Old w wr)) (fun _ iv _ => s.size - (intOf iv).toNat)
 case atStart => exact ⟨0, ⟨#[]⟩, rfl, Nat.zero_le _, rfl, hide rfl, rfl, hide (Old.refl _)⟩
 case round =>
  obtain ⟨k, x, rfl, hk, rfl, HX, hxs, HO⟩ := hrel
  by_cases hlt : k < s.size
  · have gk := get_at s hlt
    have HN := hide (hexL_next s k hlt)
    obtain ⟨b, hb⟩ : ∃ b, Hid (s.get! k = b) := ⟨_, hide rfl⟩
    rw [hb.out] at gk HN
    obtain ⟨m, hm⟩ : ∃ m, Hid (b.toNat / 16 = m) := ⟨_, hide rfl⟩
    obtain ⟨r, hr⟩ : ∃ r, Hid (b.toNat % 16 = r) := ⟨_, hide rfl⟩
    have hbt := b.toNat_lt
    have hm16 : m < 16 := by have := hm.out; omega
    have hr16 : r < 16 := by have := hr.out; omega
    have q1 : IntKind.u8.wrap ((b.toNat : Int) / 16) = (m : Int) := by
     rw [← hm.out]
     simp [IntKind.wrap, IntKind.bits, IntKind.signed]
     omega
    have q2 : (b.toNat : Int).tmod 16 = (r : Int) := by rw [← hr.out]; rfl
    have x1 := hexP hm16
    have x2 := hexP hr16
    rw [hm.out, hr.out] at HN
    have hxi : (x.size : Int) = 2 * (k : Int) := by omega
    have p1 : IntKind.u8.wrap ((m : Int) + 1) = (m : Int) + 1 := by simp [IntKind.wrap, IntKind.bits, IntKind.signed]; omega
    have p2 : IntKind.u8.wrap ((r : Int) + 1) = (r : Int) + 1 := by simp [IntKind.wrap, IntKind.bits, IntKind.signed]; omega
    have z1 : (⟨#[hexB m]⟩ : ByteArray).size = 1 := rfl
    have z2 : (⟨#[hexB r]⟩ : ByteArray).size = 1 := rfl
    have z3 : (x ++ ⟨#[hexB m]⟩ : ByteArray).size = 2 * k + 1 := by rw [ByteArray.size_append, hxs, z1]
    go_wp2_with fail
    go_region
    have HY := hide (show (x ++ ⟨#[hexB m]⟩ ++ ⟨#[hexB r]⟩ : ByteArray).data.toList = hexL (s.data.toList.take (k + 1)) by
     rw [HN.out, ← HX.out]
     simp)
    have hys : (x ++ ⟨#[hexB m]⟩ ++ ⟨#[hexB r]⟩ : ByteArray).size = 2 * (k + 1) := by rw [ByteArray.size_append, z3, z2]; omega
    clear x1 x2 q1 q2 p1 p2 HN gk
    go_wp2_with fail
    go_roundw
    case rel => exact ⟨k + 1, _, by go_num, by omega, rfl, HY, hys, hide (Old.drew HO.out)⟩
    case measure => simp [intOf]; omega
  · have hlti : ¬ (k : Int) < (s.size : Int) := by omega
    have hx : Hid (x = hexOf s) := hide (by
     apply bytesD_ext
     rw [HX.out, List.take_of_length_le (by show s.data.toList.length ≤ k; rw [show s.data.toList.length = s.size from Array.length_toList]; omega)]
     rfl)
    go_wp2_with fail
    go_ret
    exact ⟨by rw [← hx.out]; rfl, HO.out⟩
end Go.Proofs.YthlfljmfggmfdaaGreatDoor

/-! ###  -/
namespace Go.Proofs.YthlfljmfggmfdaaGreatDoor
open Go.RowKit
def letB (b : UInt8) : Prop := 97 ≤ b.toNat ∧ b.toNat ≤ 122
def moreB (b : UInt8) : Prop := b.toNat = 95 ∨ (48 ≤ b.toNat ∧ b.toNat ≤ 57)
def okAt (s : ByteArray) (i : Nat) : Prop := letB (s.get! i) ∨ (0 < i ∧ moreB (s.get! i))
theorem nameCh_iff (b : UInt8) : nameCh b = true ↔ letB b ∨ moreB b := by
 unfold nameCh letB moreB
 simp only [Bool.or_eq_true, Bool.and_eq_true, decide_eq_true_eq, UInt8.le_iff_toNat_le, ← UInt8.toNat_inj]
 simp only [show (97 : UInt8).toNat = 97 from rfl, show (122 : UInt8).toNat = 122 from rfl, show (48 : UInt8).toNat = 48 from rfl, show (57 : UInt8).toNat = 57 from rfl, show (95 : UInt8).toNat = 95 from rfl]
 omega
theorem list_get (s : ByteArray) {i : Nat} (h : i < s.size) : s.data.toList[i]? = some (s.get! i) := by
 have hd : i < s.data.size := h
 show _ = some (s.data[i]!)
 rw [getElem!_pos s.data i hd]
 simp
theorem isName_iff (s : ByteArray) : isName s = true ↔ 1 ≤ s.size ∧ s.size ≤ 32 ∧ ∀ i, i < s.size → okAt s i := by
 have hl : s.data.toList.length = s.size := Array.length_toList
 have hg := fun i (h : i < s.size) => list_get s h
 unfold isName okAt
 generalize s.data.toList = l at hl hg
 cases l with
 | nil =>
   simp only [isNameL, List.length_nil] at hl ⊢
   constructor
   · intro h; cases h
   · rintro ⟨h, _⟩; omega
 | cons c l =>
   have h0 := hg 0 (by simp at hl; omega)
   simp only [List.getElem?_cons_zero, Option.some.injEq] at h0
   have hc : (decide (97 ≤ c) && decide (c ≤ 122)) = true ↔ letB c := by
    unfold letB
    simp only [Bool.and_eq_true, decide_eq_true_eq, UInt8.le_iff_toNat_le]
    simp only [show (97 : UInt8).toNat = 97 from rfl, show (122 : UInt8).toNat = 122 from rfl]
   unfold isNameL
   rw [Bool.and_eq_true, Bool.and_eq_true, hc, List.all_eq_true, decide_eq_true_eq, hl]
   constructor
   · rintro ⟨⟨h1, h2⟩, h3⟩
     refine ⟨by simp at hl; omega, h3, fun i hi => ?_⟩
     rcases Nat.eq_zero_or_pos i with rfl | hp
     · exact .inl (h0 ▸ h1)
     · have := (nameCh_iff _).1 (h2 _ (List.mem_of_getElem? (hg i hi)))
       rcases this with h | h
       · exact .inl h
       · exact .inr ⟨hp, h⟩
   · rintro ⟨h1, h2, h3⟩
     refine ⟨⟨?_, fun b hb => ?_⟩, h2⟩
     · rcases h3 0 (by omega) with h | h
       · exact h0 ▸ h
       · omega
     · obtain ⟨i, hi⟩ := List.mem_iff_getElem?.1 hb
       have hil : i < s.size := by
        rw [← hl]
        exact (List.getElem?_eq_some_iff.1 hi).1
       have hv := (hg i hil).symm.trans hi
       injection hv with hv
       rw [← hv]
       refine (nameCh_iff _).2 ?_
       rcases h3 i hil with h | ⟨_, h⟩
       · exact .inl h
       · exact .inr h
end Go.Proofs.YthlfljmfggmfdaaGreatDoor

/-! ###  -/
namespace Go.Proofs.YthlfljmfggmfdaaGreatDoor
open Go.RowKit
def BT (T : TypeId) : Prop := T = 91 ∨ T = 93
theorem BT.lies {T : TypeId} (h : BT T) : liesAt Tryz.prog Tryz.prog.depth T (2 / Tryz.prog.cellsOf T) 0 91 1 = true := by
 rcases h with rfl | rfl <;> kernel_rfl
theorem BT.ne {T : TypeId} (h : BT T) : T ≠ 5 := by
 rcases h with rfl | rfl <;> decide
theorem sizeB : (Tryz.prog.info? 91).map (fun i => i.size) = some 2 := by kernel_rfl
theorem infoB : (Tryz.prog.info? 5).map (fun i => (i.zero, i.size, i.bytes)) = some (some (.int .u8 0), 1, 1) := by kernel_rfl
structure WKept (B b : Nat) (w w' : World) : Prop where
 below : Below B w w'
 others : Lib.OthersKept 5 (some b) w w'
theorem WKept.refl (B b : Nat) (w : World) : WKept B b w w := ⟨Below.refl _ _, Lib.OthersKept.refl _ _ _⟩
theorem WKept.trans {B b : Nat} {w w' w'' : World} (h : WKept B b w w') (k : WKept B b w' w'') : WKept B b w w'' := ⟨h.below.trans k.below, h.others.trans k.others⟩
set_option maxHeartbeats 1000000 in
set_option maxRecDepth 100000 in
theorem wb_copy_fresh (T : TypeId) (hT : BT T) (b : Nat) (w : World) (h0 : w.cell? ⟨b, 0, none⟩ = some (.pointer none)) (hsh : w.shape? b = some (T, 2)) (hfz : w.frozen? ⟨b, 0, none⟩ = false) :
 Calls Tryz.prog 120 #[.pointer (some ⟨b, 0, none⟩)] w fun e w' => e = .returned (.tuple #[]) ∧ w' = w.setCell ⟨b, 0, none⟩ (.pointer (some ⟨b, 0, none⟩)) := by
 obtain ⟨j, hj, hjs⟩ := Option.map_eq_some_iff.1 sizeB
 have hlies := hT.lies
 go_enter Tryz.func120, Tryz.ntmps120
 go_wp2
 rw [Lib.run_to_unsafe w ⟨b, 0, none⟩ Tryz.underlying89 Tryz.underlying207 hj (by rw [hjs]; decide) hsh (Nat.zero_lt_succ 1)]
 simp only [Result.andThen]
 rw [Oper.upon_value]
 go_wp2
 rw [run_callFunc_extern Tryz.func168 (by kernel_rfl) (by kernel_rfl) (by kernel_rfl) (e := Extern.AbiNoEscape.same) (by kernel_rfl)]
 rw [Lib.run_noEscape]
 simp only [Result.andThen]
 rw [Oper.upon_value]
 go_wp2
 rw [Lib.run_from_unsafe w ⟨b, 0, none⟩ Tryz.underlying207 Tryz.underlying89 hj hsh hlies]
 simp only [Result.andThen]
 rw [Oper.upon_value]
 go_wp2
 go_end0
 exact ⟨rfl, rfl⟩
set_option maxHeartbeats 1000000 in
set_option maxRecDepth 100000 in
theorem wb_copy_used (b : Nat) (w : World) (h0 : w.cell? ⟨b, 0, none⟩ = some (.pointer (some ⟨b, 0, none⟩))) :
 Calls Tryz.prog 120 #[.pointer (some ⟨b, 0, none⟩)] w fun e w' => e = .returned (.tuple #[]) ∧ w' = w := by
 obtain ⟨j, hj, hjs⟩ := Option.map_eq_some_iff.1 sizeB
 go_enter Tryz.func120, Tryz.ntmps120
 go_wp2
 rw [Lib.run_neq_ptr_same _ _ Tryz.underlying89 hj]
 go_wp2
 go_end0
 exact ⟨rfl, rfl⟩
theorem wb_copy (T : TypeId) (hT : BT T) (B b : Nat) (bs : List Value) (w : World) (h : Lib.IsBuilderF T 5 B b bs w) :
 Calls Tryz.prog 120 #[.pointer (some ⟨b, 0, none⟩)] w fun e w' => e = .returned (.tuple #[]) ∧ Lib.BuilderAtF T 5 B b (.pointer (some ⟨b, 0, none⟩)) bs w' ∧ WKept B b w w' := by
 rcases h with h | h
 · refine (wb_copy_fresh T hT b w h.cell0 h.shape h.frozen0).mono ?_
   rintro e w' ⟨rfl, rfl⟩
   exact ⟨rfl, h.used _, (Below.refl B w).setCell (p := ⟨b, 0, none⟩) h.1 _, (Lib.OthersKept.refl _ _ w).setCell ⟨b, 0, none⟩ rfl _⟩
 · refine (wb_copy_used b w h.cell0).mono ?_
   rintro e w' ⟨rfl, rfl⟩
   exact ⟨rfl, h, WKept.refl _ _ _⟩
abbrev WBs (T : TypeId) (B b : Nat) (l : List UInt8) (w : World) : Prop := Lib.IsBuilderF T 5 B b (Lib.byteCells l) w
theorem WBs.at {T : TypeId} {B b : Nat} {bs : List Value} {w : World} (h : Lib.IsBuilderF T 5 B b bs w) : ∃ p, (p = .pointer none ∨ p = .pointer (some ⟨b, 0, none⟩)) ∧ Lib.BuilderAtF T 5 B b p bs w := by
 rcases h with h | h
 · exact ⟨_, .inl rfl, h⟩
 · exact ⟨_, .inr rfl, h⟩
theorem wb_form {B n : Nat} {w : World} {v : Value} {xs : List Value} (h : w.ownsRowF B 5 1 v n xs) : ∃ A cap, v = .slice A n cap := by
 rcases h.2 with ⟨rfl, rfl⟩ | ⟨g, cap, cur, fz, rfl, _⟩
 · exact ⟨_, _, rfl⟩
 · exact ⟨_, _, rfl⟩
set_option maxHeartbeats 1000000 in
set_option maxRecDepth 100000 in
theorem wb_Len (T : TypeId) (B b : Nat) (l : List UInt8) (w : World) (h : WBs T B b l w) :
 Calls Tryz.prog 57 #[.pointer (some ⟨b, 0, none⟩)] w fun e w' => e = .returned (.int .i64 l.length) ∧ w' = w := by
 obtain ⟨p, _, hB, v, hbk, hown, hne⟩ := WBs.at h
 rw [Lib.byteCells_length] at hown
 obtain ⟨A, cap, rfl⟩ := wb_form hown
 have c1 : w.cell? ⟨b, 1, none⟩ = some (.slice A l.length cap) := by rw [Lib.cell_of_heap hbk]; rfl
 go_enter Tryz.func57, Tryz.ntmps57
 go_wp2
 go_ret
 exact ⟨rfl, rfl⟩
set_option maxHeartbeats 2000000 in
set_option maxRecDepth 100000 in
theorem wb_WriteString (T : TypeId) (hT : BT T) (B b : Nat) (l : List UInt8) (s : ByteArray) (w : World) (h : WBs T B b l w) (hlen : l.length + s.size ≤ 140737488355328) (hBw : B ≤ w.heap.size) :
 Calls Tryz.prog 97 #[.pointer (some ⟨b, 0, none⟩), .string s] w fun e w' => e = .returned (.tuple #[.int .i64 s.size, .nilIface]) ∧ WBs T B b (l ++ s.data.toList) w' ∧ WKept B b w w' := by
 obtain ⟨n, hn⟩ : ∃ n, Hid ((Lib.byteCells l).length = n) := ⟨_, hide rfl⟩
 have hl0 := Lib.byteCells_length l
 rw [hn.out] at hl0
 rw [← hl0] at hlen
 clear hl0
 have CC := wb_copy T hT B b _ w h
 have hne := hT.ne
 clear h
 obtain ⟨i0, hi, hz0, hz1, hz2⟩ := info_parts infoB
 go_enter Tryz.func97, Tryz.ntmps97
 go_wp2_with fail
 refine CC.mono ?_
 rintro e w1 ⟨rfl, ⟨hB, v, hbk, hown, hno⟩, hb1, hk1⟩
 rw [hn.out] at hown
 clear CC
 have c1 : w1.cell? ⟨b, 1, none⟩ = some v := by rw [Lib.cell_of_heap hbk]; rfl
 go_wp2_with (at_builtin; refine Lib.wpList_append_own_stringF _ rfl _ _ 57 9 rfl B 5 i0 Tryz.underlying57 Tryz.underlying9 hi hz0 hz1 hz2 _ _ _ rfl hown s rfl ?c3 ?c4 ?c5 ?_)
 case c3 => unfold maxLen; omega
 case c4 => omega
 case c5 => have := hb1.size; omega
 intro v' w2 hown' hgrow _
 have hlt : b < w1.heap.size := (Array.getElem?_eq_some_iff.1 hbk).1
 have hb2 : w2.heap[b]? = some (.cells #[.pointer (some ⟨b, 0, none⟩), v] T (0, 0)) := by
  rw [hgrow.block b hlt (fun e => hno e.symm)]
  exact hbk
 have d1 : w2.cell? ⟨b, 1, none⟩ = some v := by rw [Lib.cell_of_heap hb2]; rfl
 have f1 : w2.frozen? ⟨b, 1, none⟩ = false := Lib.frozen_of_heap hb2 1
 obtain ⟨A', cap', rfl⟩ := wb_form hown'
 go_wp2
 go_ret2
 refine ⟨rfl, .inr ?_, ?_, (hk1.grown hgrow (Lib.ownsRowF_kind hown)).setCell ⟨b, 1, none⟩ rfl _⟩
 · rw [Lib.byteCells_append, ← Lib.strCells_eq]
   exact Lib.BuilderAtF.put (T := T) (e := 5) hB hb2 (bs' := Lib.byteCells l ++ Lib.strCells s) (by rw [List.length_append, hn.out, Lib.strCells_length]; exact hown') hne
 · exact (hb1.grown hgrow (by have := hb1.size; omega) (fun k hk => (hown.lt k hk).1)).setCell (p := ⟨b, 1, none⟩) hB _
set_option maxHeartbeats 2000000 in
set_option maxRecDepth 100000 in
theorem wb_WriteByte (T : TypeId) (hT : BT T) (B b : Nat) (l : List UInt8) (c : UInt8) (w : World) (h : WBs T B b l w) (hlen : l.length + 1 ≤ 140737488355328) (hBw : B ≤ w.heap.size) :
 Calls Tryz.prog 173 #[.pointer (some ⟨b, 0, none⟩), .int .u8 c.toNat] w fun e w' => e = .returned .nilIface ∧ WBs T B b (l ++ [c]) w' ∧ WKept B b w w' := by
 obtain ⟨n, hn⟩ : ∃ n, Hid ((Lib.byteCells l).length = n) := ⟨_, hide rfl⟩
 have hl0 := Lib.byteCells_length l
 rw [hn.out] at hl0
 rw [← hl0] at hlen
 clear hl0
 have CC := wb_copy T hT B b _ w h
 have hne := hT.ne
 obtain ⟨x, hx⟩ : ∃ x : Int, Hid ((c.toNat : Int) = x) := ⟨_, hide rfl⟩
 rw [hx.out]
 clear h
 obtain ⟨i0, hi, hz0, hz1, hz2⟩ := info_parts infoB
 go_enter Tryz.func173, Tryz.ntmps173
 go_wp2_with fail
 refine CC.mono ?_
 rintro e w1 ⟨rfl, ⟨hB, v, hbk, hown, hno⟩, hb1, hk1⟩
 rw [hn.out] at hown
 clear CC
 have c1 : w1.cell? ⟨b, 1, none⟩ = some v := by rw [Lib.cell_of_heap hbk]; rfl
 go_wp2_with (at_builtin; refine wpList_append_ownF _ rfl _ _ 57 rfl B 5 i0 (.int .u8 0) 1 1 Tryz.underlying57 hi hz0 hz1 hz2 rfl (by decide) _ _ _ rfl (hown.alloc _) ⟨w1.heap.size, 0, none⟩ 1 1 [.int .u8 x] rfl rfl ?c1 ?c2 ?c3 ?c4 ?c5 ?_)
 case c1 =>
  intro j u hj
  match j, hj with
  | 0, hj => simp at hj; subst hj; simp [Addr.add]
 case c2 => intro u hu; simp at hu; subst hu; rfl
 case c3 => unfold maxLen; omega
 case c4 => omega
 case c5 => have := hb1.size; simp; omega
 intro v' w2 hown' hgrow _
 have hlt : b < w1.heap.size := (Array.getElem?_eq_some_iff.1 hbk).1
 have hb2 : w2.heap[b]? = some (.cells #[.pointer (some ⟨b, 0, none⟩), v] T (0, 0)) := by
  rw [hgrow.block b (by simp; omega) (fun e => hno e.symm), Lib.alloc_old w1 _ b hlt]
  exact hbk
 have d1 : w2.cell? ⟨b, 1, none⟩ = some v := by rw [Lib.cell_of_heap hb2]; rfl
 have f1 : w2.frozen? ⟨b, 1, none⟩ = false := Lib.frozen_of_heap hb2 1
 obtain ⟨A', cap', rfl⟩ := wb_form hown'
 go_wp2
 go_ret
 refine ⟨rfl, .inr ?_, ?_, ((hk1.alloc _).grown hgrow (Lib.ownsRowF_kind (hown.alloc _))).setCell ⟨b, 1, none⟩ rfl _⟩
 · rw [Lib.byteCells_append, show Lib.byteCells [c] = [.int .u8 x] by simp [Lib.byteCells, hx.out]]
   exact Lib.BuilderAtF.put (T := T) (e := 5) hB hb2 (bs' := Lib.byteCells l ++ [.int .u8 x]) (by rw [List.length_append, hn.out]; exact hown') hne
 · exact ((hb1.alloc (by have := hb1.size; omega) _).grown hgrow (by have := hb1.size; simp; omega) (fun k hk => (hown.lt k hk).1)).setCell (p := ⟨b, 1, none⟩) hB _
set_option maxHeartbeats 2000000 in
set_option maxRecDepth 100000 in
theorem wb_WriteRune (T : TypeId) (hT : BT T) (B b : Nat) (l : List UInt8) (r : Int) (hr0 : 0 ≤ r) (hr1 : r ≤ 1114111) (w : World) (h : WBs T B b l w) (hlen : l.length + 4 ≤ 140737488355328) (hBw : B ≤ w.heap.size) :
 Calls Tryz.prog 175 #[.pointer (some ⟨b, 0, none⟩), .int .i32 r] w fun e w' => (∃ v, e = .returned v) ∧ WBs T B b (l ++ Lib.encodeRune r) w' ∧ WKept B b w w' := by
 obtain ⟨n, hn⟩ : ∃ n, Hid ((Lib.byteCells l).length = n) := ⟨_, hide rfl⟩
 have hl0 := Lib.byteCells_length l
 rw [hn.out] at hl0
 rw [← hl0] at hlen
 clear hl0
 have CC := wb_copy T hT B b _ w h
 have hne := hT.ne
 clear h
 go_enter Tryz.func175, Tryz.ntmps175
 go_wp2_with fail
 refine CC.mono ?_
 rintro e w1 ⟨rfl, ⟨hB, v, hbk, hown, hno⟩, hb1, hk1⟩
 rw [hn.out] at hown
 clear CC
 have c1 : w1.cell? ⟨b, 1, none⟩ = some v := by rw [Lib.cell_of_heap hbk]; rfl
 have AR := Any.utf8_AppendRune_own Tryz.lays242 Tryz.Builder_Extra_242 B v _ _ r (by omega) (by omega) w1 hown hlen (by have := hb1.size; omega)
 obtain ⟨A0, cap0, rfl⟩ := wb_form hown
 go_wp2_with fail
 refine AR.mono ?_
 rintro e w2 ⟨v', rfl, hown', o, hgrow⟩
 have hlt : b < w1.heap.size := (Array.getElem?_eq_some_iff.1 hbk).1
 have hb2 : w2.heap[b]? = some (.cells #[.pointer (some ⟨b, 0, none⟩), .slice A0 n cap0] T (0, 0)) := by
  rw [hgrow.block b (by simp; omega) (fun e => hno e.symm), Lib.alloc_old w1 _ b hlt]
  exact hbk
 have d1 : w2.cell? ⟨b, 1, none⟩ = some (.slice A0 n cap0) := by rw [Lib.cell_of_heap hb2]; rfl
 have f1 : w2.frozen? ⟨b, 1, none⟩ = false := Lib.frozen_of_heap hb2 1
 clear AR
 obtain ⟨A', cap', rfl⟩ := wb_form hown'
 have hput := Lib.BuilderAtF.put (T := T) (e := 5) hB hb2 (bs' := Lib.byteCells l ++ Lib.runeCells r) (by rw [List.length_append, hn.out]; exact hown') hne
 have hc1 : (w2.setCell ⟨b, 1, none⟩ (.slice (A') (n + (Lib.runeCells r).length) cap')).cell? ⟨b, 1, none⟩ = some (.slice (A') (n + (Lib.runeCells r).length) cap') := World.cell?_setCell_same' w2 ⟨b, 1, none⟩ _ (by rw [d1]; rfl)
 have HP := hide hput
 have HK := hide (show WKept B b w (w2.setCell ⟨b, 1, none⟩ (.slice A' (n + (Lib.runeCells r).length) cap')) from
  ⟨((hb1.alloc (by have := hb1.size; omega) _).grown hgrow (by have := hb1.size; simp; omega) (fun k hk => (hown.lt k hk).1)).setCell (p := ⟨b, 1, none⟩) hB _, ((hk1.alloc _).grown hgrow (Lib.ownsRowF_kind (hown.alloc _))).setCell ⟨b, 1, none⟩ rfl _⟩)
 obtain ⟨m, hm⟩ : ∃ m, Hid (n + (Lib.runeCells r).length = m) := ⟨_, hide rfl⟩
 rw [hm.out] at hc1 HP HK
 have hm' : n ≤ m := by rw [← hm.out]; omega
 have hm2 : m ≤ n + 4 := by rw [← hm.out]; have := Lib.runeCells_le r; omega
 rw [hm.out]
 clear hput hown hown' hgrow hbk
 go_wp2_with fail
 go_ret2
 refine ⟨⟨_, rfl⟩, .inr ?_, HK.out⟩
 rw [Lib.byteCells_append, Lib.byteCells_encodeRune]
 exact HP.out
set_option maxHeartbeats 1000000 in
set_option maxRecDepth 100000 in
theorem wb_String (T : TypeId) (B b : Nat) (l : List UInt8) (w : World) (h : WBs T B b l w) (h0 : l ≠ []) :
 Calls Tryz.prog 58 #[.pointer (some ⟨b, 0, none⟩)] w fun e w' => e = .returned (.string ⟨l.toArray⟩) ∧ WBs T B b l w' ∧ WKept B b w w' := by
 obtain ⟨p, hp, hB, v, hbk, hown, hne⟩ := WBs.at h
 have hl0 : l.length ≠ 0 := by simpa using h0
 have hA : Lib.BuilderAtF T 5 B b p (Lib.byteCells l) w := ⟨hB, v, hbk, hown, hne⟩
 rw [Lib.byteCells_length] at hown
 obtain ⟨g, cap, cur, fz, rfl, hbg, hg, hfz, hnc, hcm, hcs, htake⟩ : ∃ g cap cur fz, v = .slice (some ⟨g, 0, none⟩) l.length cap ∧ B ≤ g ∧ w.heap[g]? = some (.cells cur 5 fz) ∧ fz.2 ≤ l.length * 1 ∧ l.length ≤ cap ∧ cap ≤ maxLen ∧ cur.size = cap * 1 ∧ cur.toList.take (l.length * 1) = Lib.byteCells l := by
  rcases hown.2 with ⟨_, hz⟩ | ⟨g, cap, cur, fz, hv, r⟩
  · exact absurd hz hl0
  · exact ⟨g, cap, cur, fz, hv, r⟩
 have c1 : w.drew.cell? ⟨b, 1, none⟩ = some (.slice (some ⟨g, 0, none⟩) l.length cap) := by
  have : w.drew.heap[b]? = some (.cells #[p, .slice (some ⟨g, 0, none⟩) l.length cap] T (0, 0)) := hbk
  rw [Lib.cell_of_heap this]; rfl
 have hSD : (Builtin.unsafeSliceData_ #[57] 136 #[.slice (some ⟨g, 0, none⟩) l.length cap]).run Tryz.prog w.drew = .ok (.pointer (some ⟨g, 0, none⟩)) w.drew :=
  Lib.run_unsafeSliceData_row _ _ _ _ _ _ (by omega)
 have hUS : (Builtin.unsafeString_ #[136, 3] 9 #[.pointer (some ⟨g, 0, none⟩), .int .i64 l.length]).run Tryz.prog w.drew = .ok (.string ⟨l.toArray⟩) (w.drew.freeze ⟨g, 0, none⟩ l.length) := by
  refine Lib.run_unsafeString_row w.drew 136 3 9 5 Tryz.underlying136 (by kernel_rfl) g cur.size (by have hg' : w.drew.heap[g]? = some (.cells cur 5 fz) := hg; simp [World.shape?, hg']) l h0 (by omega) (by unfold maxLen at hcm; omega) ?_
  intro j x hx
  exact hown.cells (g := g) rfl j (.int .u8 x.toNat) (by simp [Lib.byteCells, hx])
 have hkeep : WBs T B b l (w.drew.freeze ⟨g, 0, none⟩ l.length) := by
  have hA' : Lib.BuilderAtF T 5 B b p (Lib.byteCells l) w.drew := hA
  have hF := hA'.froze (g := g) (cap := cap) (by rw [Lib.byteCells_length]; exact c1)
  rw [Lib.byteCells_length] at hF
  rcases hp with rfl | rfl
  · exact .inl hF
  · exact .inr hF
 have HK := hide hkeep
 have HW := hide (show WKept B b w (w.drew.freeze ⟨g, 0, none⟩ l.length) from ⟨Lib.below_freeze (Below.drew (Below.refl B w)) (p := ⟨g, 0, none⟩) hbg _, ((Lib.OthersKept.refl _ _ w).drew).freeze ⟨g, 0, none⟩ _ ⟨cur, fz, hg⟩⟩)
 clear hkeep hA hown hbk hg h
 go_enter Tryz.func58, Tryz.ntmps58
 go_wp2
 go_region
 all_goals (go_wp2; go_ret; exact ⟨rfl, HK.out, HW.out⟩)
end Go.Proofs.YthlfljmfggmfdaaGreatDoor

/-! ###  -/
namespace Go.Proofs.YthlfljmfggmfdaaGreatDoor
open Go Go.RowKit
section
variable {P : Program} {md : Region.Mode} {ops : Array Oper} {C : World → Prop}
def headQ (P : Program) (md : Region.Mode) (ops : Array Oper) (C : World → Prop) (n : Nat) (L : Array Bool → Act → Prop) : Nat → Array Bool → Act → Prop
 | 0, listed, a => L listed a
 | f + 1, listed, a =>
   Region.ready md ops listed ≠ [] ∧ ∀ i ∈ Region.ready md ops listed, i < n ∧ qOp P ops C i (headQ P md ops C n L f (listed.setIfInBounds i true)) a
theorem headQ_any {n g : Nat} {L : Array Bool → Act → Prop} {Q' : Exit → Act → World → Prop} (hL : ∀ listed a w, C w → L listed a → wpAny P md ops Q' g listed a w) :
 ∀ (f : Nat) (listed : Array Bool) (a : Act) (w : World), C w → headQ P md ops C n L f listed a → wpAny P md ops Q' (f + g) listed a w
 | 0, listed, a, w, hw, h => by rw [Nat.zero_add]; exact hL _ _ _ hw h
 | f + 1, listed, a, w, hw, h => by
   rw [show f + 1 + g = (f + g) + 1 by omega]
   exact ⟨fun h0 => absurd h0 h.1, fun i hi => wpOp_of_qOp hw (fun a' w' hw' h' => headQ_any hL f _ a' w' hw' h') (h.2 i hi).2⟩
theorem headQ_first {n i : Nat} {oi : Oper} {v : Value} {L : Array Bool → Act → Prop} (hi : ops[i]? = some oi) (hsel : ∀ (j : Nat) (o : Oper) cs b, ops[j]? = some o → o.op ≠ .select cs b)
 (hs : Region.sinkB md ops n = true) (hc : Region.chainB md ops n = true) (hn : n < ops.size) (hin : i < n)
 (hdone : ∀ listed a, L listed a → ∀ j ∈ Region.ready md ops listed, n ≤ j) :
 ∀ (f : Nat) (listed : Array Bool) (a : Act), HeadInv md ops n listed →
  (∀ j oj, ops[j]? = some oj → j ≠ i → listed.getD j true = false → (∀ e ∈ oj.after, Region.binds md e = true → e.on ≠ i) → oi.apart ops oj = true) →
  i ∈ Region.ready md ops listed → YieldsIn P ops C oi v a →
  headQ P md ops C n L f (listed.setIfInBounds i true) (a.put oi.dst v) → headQ P md ops C n L (f + 1) listed a := by
 intro f
 induction f with
 | zero =>
   intro listed a inv _ hr hy H
   have hun := (mem_ready.1 hr).1
   refine ⟨fun h => (by rw [h] at hr; cases hr), fun j hj => ?_⟩
   have hjn : j < n := by
    rcases Nat.lt_or_ge j n with h | h
    · exact h
    · exact absurd hj (tail_waits hs hc hn inv _ i rfl hin hun j h)
   refine ⟨hjn, ?_⟩
   by_cases hji : j = i
   · subst hji; exact hy.qOp hi H
   · have := hdone _ _ H j (ready_mono hj hji)
     omega
 | succ f ih =>
   intro listed a inv hfree hr hy H
   have hun := (mem_ready.1 hr).1
   refine ⟨fun h => (by rw [h] at hr; cases hr), fun j hj => ?_⟩
   have hjn : j < n := by
    rcases Nat.lt_or_ge j n with h | h
    · exact h
    · exact absurd hj (tail_waits hs hc hn inv _ i rfl hin hun j h)
   refine ⟨hjn, ?_⟩
   by_cases hji : j = i
   · subst hji; exact hy.qOp hi H
   · have h1 := (H.2 j (ready_mono hj hji)).2
     obtain ⟨hjun, oj, hoj, hall⟩ := mem_ready.1 hj
     have hnot : ∀ e ∈ oj.after, Region.binds md e = true → e.on ≠ i := fun e he hb heq => by
      have h1 := hall e he hb
      rw [heq, getD_both hun] at h1
      cases h1
     have h2 := qOp_put hoj (hfree j oj hoj hji hjun hnot) (fun cs b => hsel i oi cs b hi) (fun cs b => hsel j oj cs b hoj) hy h1
     have hfree' : ∀ k ok, ops[k]? = some ok → k ≠ i → (listed.setIfInBounds j true).getD k true = false →
      (∀ e ∈ ok.after, Region.binds md e = true → e.on ≠ i) → oi.apart ops ok = true := fun k ok hk hki hun hno => by
      refine hfree k ok hk hki ?_ hno
      by_cases hjk : j = k
      · subst hjk; exact hjun
      · rw [getD_set_ne true hjk] at hun; exact hun
     refine qOp_mono (fun a' h3 => ih (listed.setIfInBounds j true) a' (inv.set hj hjn) hfree' (ready_mono hr (Ne.symm hji)) h3.1 ?_) h2
     rw [Array.setIfInBounds_comm _ _ hji]
     exact h3.2
theorem headQ_lex {n g : Nat} {Lq : Act → Prop} (hsel : Region.noSelect ops = true) (hs : Region.sinkB md ops n = true) (hc : Region.chainB md ops n = true) (hn : n < ops.size) :
 ∀ (l : List Oper) (k : Nat) (listed : Array Bool) (a : Act), (∀ j, j < l.length → l[j]? = ops[k + j]?) → k + l.length = n → HeadInv md ops n listed →
 Region.lexHead md ops g l.length k listed = true → wpQuiet P ops C Lq l a →
 headQ P md ops C n (fun listed' a' => Region.seqB md ops g n listed' = true ∧ Lq a') l.length listed a
 | [], k, listed, a, _, hk, _, hB, h => by
   have : k = n := by simpa using hk
   subst this
   exact ⟨by simpa [Region.lexHead] using hB, h⟩
 | o :: l, k, listed, a, hl, hk, inv, hB, h => by
   have h0 : ops[k]? = some o := by simpa using (hl 0 (by simp)).symm
   simp only [List.length_cons, Region.lexHead, Bool.and_eq_true] at hB
   obtain ⟨⟨hr, hf⟩, hB'⟩ := hB
   have hkn : k < n := by simp only [List.length_cons] at hk; omega
   have hr' : k ∈ Region.ready md ops listed := by simpa using hr
   have hst : qOp P ops C k (wpQuiet P ops C Lq l) a := by unfold qOp; simp only [h0]; exact h
   obtain ⟨v, hy, hK⟩ := yieldsIn_of_qOp h0 hst
   exact headQ_first h0 (Region.noSelect_spec hsel) hs hc hn hkn (fun listed' a' hL => seqB_ready hL.1) l.length listed a inv (Region.free_spec h0 hf) hr' hy
    (headQ_lex hsel hs hc hn l (k + 1) _ _ (fun j hj => by have := hl (j + 1) (by simp; omega); simpa [Nat.add_assoc, Nat.add_comm 1 j] using this) (by simp only [List.length_cons] at hk; omega) (inv.set hr' hkn) hB' hK)
theorem region_quiet_tail {id : Nat} {Q : Exit → Act → World → Prop} {a : Act} {w : World} {l : List Oper} (n : Nat) (hm : P.follows .mixedOrders = true) (hB : Region.lexTailB .any l.toArray n = true) (hC : C { w with drawn := w.drawn + 1 })
 (h : wpQuiet P l.toArray C (fun a' => ∀ w', C w' → wpList P l.toArray Q (l.drop n) a' w') (l.take n) a) : (Code.region id l.toArray true).wp P Q a w := by
 simp only [Region.lexTailB, Bool.and_eq_true, decide_eq_true_eq] at hB
 obtain ⟨⟨⟨⟨hsel, hn⟩, hs⟩, hc⟩, hlex⟩ := hB
 have hn' : n < l.length := by simpa using hn
 have htl : (l.take n).length = n := by simp; omega
 have hdl : (l.drop n).length = l.toArray.size - n := by simp
 have inv0 : HeadInv .any l.toArray n (Array.replicate l.toArray.size false) :=
  ⟨by simp, fun j oj _ hl => (by rw [getD_replicate_false] at hl; cases hl), fun t _ ht => getD_in (by simpa using ht) (getD_replicate_false _ _)⟩
 have H := headQ_lex (md := .any) (g := l.toArray.size - n) hsel hs hc hn (l.take n) 0 _ a (fun j hj => by
  have hj' : j < n := by rw [htl] at hj; exact hj
  simp [hj']) (by simpa using htl) inv0 (by rw [htl]; exact hlex) h
 refine wp_region_any hm ?_
 have := headQ_any (Q' := Q) (g := l.toArray.size - n) (fun listed a' w' hw' hL => by
  have := wpAny_of_seq (md := .any) (Q' := Q) (l.drop n) n listed a' w' (fun j => by simp [List.getElem?_drop]) (by rw [hdl]; exact hL.1) (hL.2 w' hw')
  rwa [hdl] at this) _ _ _ _ hC H
 rw [htl, show n + (l.toArray.size - n) = l.toArray.size by omega] at this
 exact this
end
theorem region_later_tail {P : Program} {id : Nat} {Q : Exit → Act → World → Prop} {a : Act} {w : World} {l : List Oper} (n : Nat) (hm : P.follows .mixedOrders = true) (hB : Region.lexTailB .any l.toArray n = true)
 (h : wpQuiet P l.toArray (fun w' => ∃ p : Later w, w' = p.world) (fun a' => ∀ w', (∃ p : Later w, w' = p.world) → wpList P l.toArray Q (l.drop n) a' w') (l.take n) a) : (Code.region id l.toArray true).wp P Q a w :=
 region_quiet_tail (C := fun w' => ∃ p : Later w, w' = p.world) n hm hB ⟨⟨w.drew, (Old.refl w).drew⟩, rfl⟩ h
end Go.Proofs.YthlfljmfggmfdaaGreatDoor
