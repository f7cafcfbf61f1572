/-  -/
import Derived.Test.YthlfljmfggmfdaaGreatDoorQf09
import Derived.Test.YthlfljmfggmfdaaGreatDoorQf11
import Derived.Test.YthlfljmfggmfdaaGreatDoorQf12
import Derived.Laws.IdiomStrings
import Derived.Deep.RegionHeld3
/-! ###  -/
namespace Go.Proofs.YthlfljmfggmfdaaGreatDoor
open Go.RowKit
def Mk (o : Obj) : Prop := ∃ cur e fz, o = .cells cur e fz ∧ cur.size < fz.2
def MkKept (w w' : World) : Prop := ∀ (G : Nat) (o : Obj), w.heap[G]? = some o → Mk o → w'.heap[G]? = some o
theorem MkKept.refl (w : World) : MkKept w w := fun _ _ h _ => h
theorem MkKept.trans {a b c : World} (h : MkKept a b) (k : MkKept b c) : MkKept a c := fun G o h1 h2 => k G o (h G o h1 h2) h2
theorem mk_two {x y : Value} {T : TypeId} : ¬ Mk (.cells #[x, y] T (0, 0)) := by
 rintro ⟨cur, e, fz, h, hl⟩
 injection h with h1 h2 h3
 subst h1 h3
 simp at hl
theorem MkKept.setCell {a w : World} (h : MkKept a w) {p : Addr} {o : Obj} (hp : w.heap[p.block]? = some o) (ho : ¬ Mk o) (u : Value) : MkKept a (w.setCell p u) := by
 intro G x hx hm
 have h1 := h G x hx hm
 by_cases hG : G = p.block
 · subst hG
   rw [hp] at h1
   injection h1 with h1
   subst h1
   exact absurd hm ho
 · rw [setCell_heap_out _ _ _ _ hG]
   exact h1
theorem own_not_mk {w : World} {B : Nat} {e : TypeId} {v : Value} {n G : Nat} {xs : List Value} {o : Obj} (h : w.ownsRowF B e 1 v n xs) (hG : w.heap[G]? = some o) (hm : Mk o) : some G ≠ v.ownBlock := by
 rcases h.2 with ⟨rfl, _⟩ | ⟨g, cap, cur, fz, rfl, _, hg, hfz, hn, _, hc, _⟩
 · simp [Value.ownBlock]
 · intro hE
   simp [Value.ownBlock] at hE
   subst hE
   rw [hG] at hg
   injection hg with hg
   obtain ⟨cur', e', fz', he, hl⟩ := hm
   rw [hg] at he
   injection he with h1 h2 h3
   subst h1 h3
   omega
theorem wb_copyM (T : TypeId) (hT : BT T) (B b : Nat) (bs : List Value) (w : World) (h : Lib.IsBuilderF T 5 B b bs w) :
 Calls Tryz.prog 120 #[.pointer (some ⟨b, 0, none⟩)] w fun e w' => e = .returned (.tuple #[]) ∧ Lib.BuilderAtF T 5 B b (.pointer (some ⟨b, 0, none⟩)) bs w' ∧ WKept B b w w' ∧ MkKept w w' := by
 rcases h with h | h
 · refine (wb_copy_fresh T hT b w h.cell0 h.shape h.frozen0).mono ?_
   rintro e w' ⟨rfl, rfl⟩
   obtain ⟨_, v, hbk, _, _⟩ := id h
   exact ⟨rfl, h.used _, ⟨(Below.refl B w).setCell (p := ⟨b, 0, none⟩) h.1 _, (Lib.OthersKept.refl _ _ w).setCell ⟨b, 0, none⟩ rfl _⟩, (MkKept.refl w).setCell (p := ⟨b, 0, none⟩) hbk mk_two _⟩
 · refine (wb_copy_used b w h.cell0).mono ?_
   rintro e w' ⟨rfl, rfl⟩
   exact ⟨rfl, h, WKept.refl _ _ _, MkKept.refl _⟩
set_option maxHeartbeats 2000000 in
set_option maxRecDepth 100000 in
theorem wb_WriteByteM (T : TypeId) (hT : BT T) (B b : Nat) (l : List UInt8) (c : UInt8) (w : World) (h : WBs T B b l w) (hlen : l.length + 1 ≤ 140737488355328) (hBw : B ≤ w.heap.size) :
 Calls Tryz.prog 173 #[.pointer (some ⟨b, 0, none⟩), .int .u8 c.toNat] w fun e w' => e = .returned .nilIface ∧ WBs T B b (l ++ [c]) w' ∧ WKept B b w w' ∧ MkKept w w' := by
 obtain ⟨n, hn⟩ : ∃ n, Hid ((Lib.byteCells l).length = n) := ⟨_, hide rfl⟩
 have hl0 := Lib.byteCells_length l
 rw [hn.out] at hl0
 rw [← hl0] at hlen
 clear hl0
 have CC := wb_copyM T hT B b _ w h
 have hne := hT.ne
 obtain ⟨x, hx⟩ : ∃ x : Int, Hid ((c.toNat : Int) = x) := ⟨_, hide rfl⟩
 rw [hx.out]
 clear h
 obtain ⟨i0, hi, hz0, hz1, hz2⟩ := info_parts infoB
 go_enter Tryz.func173, Tryz.ntmps173
 go_wp2_with fail
 refine CC.mono ?_
 rintro e w1 ⟨rfl, ⟨hB, v, hbk, hown, hno⟩, ⟨hb1, hk1⟩, hm1⟩
 rw [hn.out] at hown
 clear CC
 have c1 : w1.cell? ⟨b, 1, none⟩ = some v := by rw [Lib.cell_of_heap hbk]; rfl
 go_wp2_with (at_builtin; refine wpList_append_ownF _ rfl _ _ 57 rfl B 5 i0 (.int .u8 0) 1 1 Tryz.underlying57 hi hz0 hz1 hz2 rfl (by decide) _ _ _ rfl (hown.alloc _) ⟨w1.heap.size, 0, none⟩ 1 1 [.int .u8 x] rfl rfl ?c1 ?c2 ?c3 ?c4 ?c5 ?_)
 case c1 =>
  intro j u hj
  match j, hj with
  | 0, hj => simp at hj; subst hj; simp [Addr.add]
 case c2 => intro u hu; simp at hu; subst hu; rfl
 case c3 => unfold maxLen; omega
 case c4 => omega
 case c5 => have := hb1.size; simp; omega
 intro v' w2 hown' hgrow _
 have hlt : b < w1.heap.size := (Array.getElem?_eq_some_iff.1 hbk).1
 have hb2 : w2.heap[b]? = some (.cells #[.pointer (some ⟨b, 0, none⟩), v] T (0, 0)) := by
  rw [hgrow.block b (by simp; omega) (fun e => hno e.symm), Lib.alloc_old w1 _ b hlt]
  exact hbk
 have hm2 : MkKept w w2 := by
  refine hm1.trans fun G o hG hm => ?_
  have hGl : G < w1.heap.size := (Array.getElem?_eq_some_iff.1 hG).1
  rw [hgrow.block G (by simp; omega) (own_not_mk hown hG hm), Lib.alloc_old w1 _ G hGl]
  exact hG
 have d1 : w2.cell? ⟨b, 1, none⟩ = some v := by rw [Lib.cell_of_heap hb2]; rfl
 have f1 : w2.frozen? ⟨b, 1, none⟩ = false := Lib.frozen_of_heap hb2 1
 obtain ⟨A', cap', rfl⟩ := wb_form hown'
 have HM2 := hide hm2
 clear hm2 hm1
 go_wp2
 go_ret
 refine ⟨rfl, .inr ?_, ⟨?_, ((hk1.alloc _).grown hgrow (Lib.ownsRowF_kind (hown.alloc _))).setCell ⟨b, 1, none⟩ rfl _⟩, HM2.out.setCell (p := ⟨b, 1, none⟩) hb2 mk_two _⟩
 · rw [Lib.byteCells_append, show Lib.byteCells [c] = [.int .u8 x] by simp [Lib.byteCells, hx.out]]
   exact Lib.BuilderAtF.put (T := T) (e := 5) hB hb2 (bs' := Lib.byteCells l ++ [.int .u8 x]) (by rw [List.length_append, hn.out]; exact hown') hne
 · exact ((hb1.alloc (by have := hb1.size; omega) _).grown hgrow (by have := hb1.size; simp; omega) (fun k hk => (hown.lt k hk).1)).setCell (p := ⟨b, 1, none⟩) hB _
end Go.Proofs.YthlfljmfggmfdaaGreatDoor

/-! ###  -/
namespace Go.Proofs.YthlfljmfggmfdaaGreatDoor
open Go.RowKit
theorem bytesRow_at (s : ByteArray) (cap k : Nat) (h : k < s.size) : (bytesRow s cap)[k]? = some (.int .u8 ((s.get! k).toNat : Int)) := by
 have hd : k < s.data.size := h
 unfold bytesRow
 rw [Array.getElem?_append_left (by simpa using hd), Array.getElem?_map, Array.getElem?_eq_getElem hd]
 show some (Value.int .u8 (s.data[k].toNat : Int)) = some (.int .u8 ((s.data[k]!).toNat : Int))
 rw [getElem!_pos s.data k hd]
theorem mk_bytes (s : ByteArray) (cap : Nat) (e : TypeId) : Mk (.cells (bytesRow s cap) e ((bytesRow s cap).size, (bytesRow s cap).size + 1)) := ⟨_, _, _, rfl, Nat.lt_succ_self _⟩
theorem hexG {k : Nat} (h : k < HexS.size) : HexS[k]'h = hexB k := by
 have key : ∀ k : _root_.Fin 16, ((HexS : ByteArray)[k.val]'k.isLt) = hexB k.val := by decide +kernel
 exact key ⟨k, h⟩
set_option maxRecDepth 100000 in
set_option maxHeartbeats 2000000 in
theorem hex_run (c : Cell) (hs : c.s.size ≤ 1073741824) (w : World) : Calls Tryz.prog 146 #[Cl c] w (Ret (.string ⟨(120 :: hexL c.s.data.toList).toArray⟩) w) := by
 unfold Ret
 obtain ⟨cn, cI, s⟩ := c
 unfold Cl
 simp only at hs ⊢
 have CV := fun w' => run_bytes_of_string (P := Tryz.prog) w' 9 57 5 s Tryz.underlying9 Tryz.underlying57 Tryz.underlying5
 obtain ⟨w1, hw1⟩ : ∃ w1, w1 = w.alloc (.cells #[.bool cn, .int .i64 cI, .string s] 38) := ⟨_, rfl⟩
 have O1 : Hid (Old w w1) := hide (by rw [hw1]; exact Old.alloc (Old.refl _) _)
 have y1 := hide (show w1.cell? ⟨w.heap.size, 2, none⟩ = some (.string s) by rw [hw1]; exact cell_of_heap (heap_alloc_new _ _))
 have hsz1 : w1.heap.size = w.heap.size + 1 := by rw [hw1]; simp
 go_enter Tryz.func146, Tryz.ntmps146
 go_wp2_with fail
 rw [← hw1]
 rw [← hsz1]
 refine (wb_WriteString 91 (.inl rfl) w1.heap.size w1.heap.size [] ⟨#[120]⟩ _ (Lib.IsBuilderF.of (Lib.fresh_isBuilder _ _ w1)) (by simp [ByteArray.size]) (by simp)).mono ?_
 rintro e w2 ⟨rfl, h2, k2⟩
 have O2 : Hid (Old w1 w2) := hide (Below.trans (Old.alloc (Old.refl _) _) k2.below)
 have y2 := Old.cell O2.out y1.out
 have CV2 := CV w2
 obtain ⟨cap, hcap⟩ : ∃ cap, cap = grownCap w2 s.size 0 5 := ⟨_, rfl⟩
 rw [← hcap] at CV2
 obtain ⟨B, hB⟩ : ∃ B, B = w1.heap.size := ⟨_, rfl⟩
 obtain ⟨G, hG⟩ : ∃ G, G = w2.heap.size := ⟨_, rfl⟩
 obtain ⟨w3, hw3⟩ : ∃ w3, w3 = w2.drew.alloc (.cells (bytesRow s cap) 5 ((bytesRow s cap).size, (bytesRow s cap).size + 1)) := ⟨_, rfl⟩
 have o3 : Old w2 w3 := by rw [hw3]; exact Old.alloc (Old.drew (Old.refl _)) _
 have O3 : Hid (Old w1 w3) := hide (Old.trans O2.out o3)
 have W3 : Hid (WBs 91 B B (120 :: hexL (s.data.toList.take 0)) w3) := hide (by rw [hB]; exact WBs.old h2 o3)
 have M3 : Hid (w3.heap[G]? = some (.cells (bytesRow s cap) 5 ((bytesRow s cap).size, (bytesRow s cap).size + 1))) := hide (by rw [hw3, hG]; exact heap_alloc_new w2.drew _)
 have hB3 : B ≤ w3.heap.size := by rw [hB]; exact O3.out.size
 rw [← hG, ← hw3] at CV2
 rw [← hB]
 have HB := hide hB
 have HS1 := hide hsz1
 clear CV hcap hw3 hG h2 k2 hB hsz1 hw1
 go_wp2_with fail
 go_loopw [11] (fun iv wr => ∃ k : Nat, iv = .int .i64 k ∧ k ≤ s.size ∧ Hid (WBs 91 B B (120 :: hexL (s.data.toList.take k)) wr) ∧ Hid (wr.heap[G]? = some (.cells (bytesRow s cap) 5 ((bytesRow s cap).size, (bytesRow s cap).size + 1))) ∧ B ≤ wr.heap.size ∧ Hid (Below B w3 wr)) (fun iv _ => s.size - (intOf iv).toNat)
 case atStart => exact ⟨0, rfl, Nat.zero_le _, W3, M3, hB3, hide (Below.refl _ _)⟩
 case round =>
  obtain ⟨k, rfl, hk, HW, HM, hBw, HO⟩ := hrel
  by_cases hlt : k < s.size
  · have HN := hide (hexL_next s k hlt)
    have hgk := (cell_of_heap (i := k) HM.out).trans (bytesRow_at s cap k hlt)
    obtain ⟨b, hb⟩ : ∃ b, Hid (s.get! k = b) := ⟨_, hide rfl⟩
    rw [hb.out] at hgk HN
    obtain ⟨m, hm⟩ : ∃ m, Hid (b.toNat / 16 = m) := ⟨_, hide rfl⟩
    obtain ⟨r, hr⟩ : ∃ r, Hid (b.toNat % 16 = r) := ⟨_, hide rfl⟩
    have hbt := b.toNat_lt
    have hm16 : m < 16 := by have := hm.out; omega
    have hr16 : r < 16 := by have := hr.out; omega
    have z1 : ∀ h, (HexS : ByteArray)[b.toNat / 16]'h = hexB m := fun h => (hexG (k := b.toNat / 16) h).trans (by rw [hm.out])
    have z2 : ∀ h, (HexS : ByteArray)[b.toNat % 16]'h = hexB r := fun h => (hexG (k := b.toNat % 16) h).trans (by rw [hr.out])
    rw [hm.out, hr.out] at HN
    have hli : (k : Int) < (s.size : Int) := by omega
    go_wp2_with fail
    refine (wb_WriteByteM 91 (.inl rfl) B B _ (hexB m) wr HW.out (by rw [List.length_cons, hexL_len, List.length_take]; have : s.data.toList.length = s.size := Array.length_toList; omega) hBw).mono ?_
    rintro e w4 ⟨rfl, h4, k4, q4⟩
    have HW4 := hide h4
    have HM4 := hide (q4 _ _ HM.out (mk_bytes _ _ _))
    have HO4 := hide (Below.trans HO.out k4.below)
    have hB4 : B ≤ w4.heap.size := Nat.le_trans hBw k4.below.size
    clear h4 k4 q4
    go_wp2_with fail
    refine (wb_WriteByteM 91 (.inl rfl) B B _ (hexB r) w4 HW4.out (by rw [List.length_append, List.length_cons, hexL_len, List.length_take]; have : s.data.toList.length = s.size := Array.length_toList; simp only [List.length_cons, List.length_nil]; omega) hB4).mono ?_
    rintro e w5 ⟨rfl, h5, k5, q5⟩
    have HW5 := hide (show WBs 91 B B (120 :: hexL (s.data.toList.take (k + 1))) w5 by
     rw [HN.out]
     have := h5
     rw [List.append_assoc] at this
     exact this)
    have HM5 := hide (q5 _ _ HM4.out (mk_bytes _ _ _))
    have HO5 := hide (Below.trans HO4.out k5.below)
    have hB5 : B ≤ w5.heap.size := Nat.le_trans hB4 k5.below.size
    clear h5 k5 q5
    go_wp2_with fail
    go_roundw
    case rel => exact ⟨k + 1, by go_num, by omega, HW5, HM5, hB5, HO5⟩
    case measure => simp [intOf]; omega
  · have hli : ¬ (k : Int) < (s.size : Int) := by omega
    have HE := hide (show WBs 91 B B (120 :: hexL s.data.toList) wr by
     have := HW.out
     rw [List.take_of_length_le (by rw [show s.data.toList.length = s.size from Array.length_toList]; omega)] at this
     exact this)
    have hwB : w.heap.size ≤ B := by rw [HB.out, HS1.out]; omega
    have OE := hide (show Old w wr from Below.trans (Old.trans O1.out O3.out) (Below.mono HO.out hwB))
    go_wp2_with fail
    refine (wb_String 91 B B _ wr HE.out (by simp)).mono ?_
    rintro e w6 ⟨rfl, _, k6⟩
    have O6 := hide (Below.trans OE.out (Below.mono k6.below hwB))
    clear k6
    go_wp2_with fail
    go_ret
    exact ⟨rfl, O6.out⟩
end Go.Proofs.YthlfljmfggmfdaaGreatDoor

/-! ###  -/
namespace Go.Proofs.YthlfljmfggmfdaaGreatDoor
open Go.RowKit
abbrev Pl (p q : Nat) : Value := .func (.func 130) #[] #[.pointer (some ⟨p, 0, none⟩), .pointer (some ⟨q, 0, none⟩)]
def OfPl (lo hi : Int) (w : World) (e : Ending) (w' : World) : Prop := ∃ p q v1 v2 v3 v4, e = .returned (.agg #[Pl p q, v1, v2, v3, v4]) ∧ w'.cell? ⟨p, 0, none⟩ = some (.int .i64 lo) ∧ w'.cell? ⟨q, 0, none⟩ = some (.int .i64 hi) ∧ Old w w'
theorem of_1 (nl : Bool) (w : World) : Calls Tryz.prog 107 #[Ty 1 nl] w (OfPl 0 1 w) := by
 refine (of_run 1 (by omega) (by omega) nl w).mono ?_
 rintro e w' ⟨v, rfl, ⟨f1, f2, f3, b, rfl, h1, h2, h3, _⟩, o⟩
 obtain ⟨p, q, rfl, hp, hq⟩ := h1
 exact ⟨p, q, _, _, _, _, rfl, hp, hq, o⟩
theorem of_2 (nl : Bool) (w : World) : Calls Tryz.prog 107 #[Ty 2 nl] w (OfPl (-2147483648) 2147483647 w) := by
 refine (of_run 2 (by omega) (by omega) nl w).mono ?_
 rintro e w' ⟨v, rfl, ⟨f1, f2, f3, b, rfl, h1, h2, h3, _⟩, o⟩
 obtain ⟨p, q, rfl, hp, hq⟩ := h2
 exact ⟨p, q, _, _, _, _, rfl, hp, hq, o⟩
theorem of_3 (nl : Bool) (w : World) : Calls Tryz.prog 107 #[Ty 3 nl] w (OfPl (-9223372036854775808) 9223372036854775807 w) := by
 refine (of_run 3 (by omega) (by omega) nl w).mono ?_
 rintro e w' ⟨v, rfl, ⟨f1, f2, f3, b, rfl, h1, h2, h3, _⟩, o⟩
 obtain ⟨p, q, rfl, hp, hq⟩ := h3
 exact ⟨p, q, _, _, _, _, rfl, hp, hq, o⟩
theorem of_4 (nl : Bool) (w : World) : Calls Tryz.prog 107 #[Ty 4 nl] w fun e w' => ∃ b v1 v2 v3 v4, e = .returned (.agg #[Tx b, v1, v2, v3, v4]) ∧ w'.cell? ⟨b, 0, none⟩ = some (Fv 131) ∧ Old w w' := by
 refine (of_run 4 (by omega) (by omega) nl w).mono ?_
 rintro e w' ⟨v, rfl, ⟨f1, f2, f3, b, rfl, _, _, _, hb⟩, o⟩
 exact ⟨b, _, _, _, _, rfl, hb, o⟩
theorem of_5 (nl : Bool) (w : World) : Calls Tryz.prog 107 #[Ty 5 nl] w (Ret (.agg #[Fv 131, Fv 146, Fv 147, Fv 144, Fv 145]) w) := by
 refine (of_run 5 (by omega) (by omega) nl w).mono ?_
 rintro e w' ⟨v, rfl, ⟨f1, f2, f3, b, rfl, _, _, _, hb⟩, o⟩
 exact ⟨rfl, o⟩
theorem field_0 (f v1 v2 v3 v4 : Value) (w : World) : (Instr.field 151 (.agg #[f, v1, v2, v3, v4]) 0).run Tryz.prog w = .ok f w := by kernel_rfl
theorem field_1 (f v1 v2 v3 v4 : Value) (w : World) : (Instr.field 151 (.agg #[f, v1, v2, v3, v4]) 1).run Tryz.prog w = .ok v1 w := by kernel_rfl
theorem field_2 (f v1 v2 v3 v4 : Value) (w : World) : (Instr.field 151 (.agg #[f, v1, v2, v3, v4]) 2).run Tryz.prog w = .ok v2 w := by kernel_rfl
theorem pl_1 (c : Cell) : plB 0 1 c = someOk vU 1 c := by simp [plB, someOk]
theorem pl_2 (c : Cell) : plB (-2147483648) 2147483647 c = someOk vU 2 c := by simp [plB, someOk]
theorem pl_3 (c : Cell) : plB (-9223372036854775808) 9223372036854775807 c = someOk vU 3 c := by simp [plB, someOk]
theorem sz_5 (c : Cell) : szB c = someOk vU 5 c := by simp [szB, someOk]
theorem tx_4 (c : Cell) : (szB c && vU c.s) = someOk vU 4 c := by simp [szB, someOk]
set_option maxRecDepth 100000 in
set_option maxHeartbeats 1000000 in
theorem check_1 (nl : Bool) (n : Int) (s : ByteArray) (w : World) (hT : Tabs w) : Calls Tryz.prog 74 #[Ty 1 nl, Cl ⟨false, n, s⟩] w (Ret (.int .i64 (if someOk vU 1 ⟨false, n, s⟩ then 0 else 90)) w) := by
 unfold Ret
 have HT := hide hT
 have CM := hide (fun w' => (show Calls Tryz.prog 43 #[Ty 1 nl] w' (Ret (.bool true) w') from may_run 1 nl w'))
 have CO := hide (fun w' => of_1 nl w')
 have CP := hide (fun p q w' hp hq => pl_1 ⟨false, n, s⟩ ▸ plain_runC 0 1 ⟨false, n, s⟩ p q w' hp hq)
 have hG := cellGuard
 have hfd := field_0
 generalize someOk vU 1 ⟨false, n, s⟩ = B at CP
 unfold Cl Ty
 go_enter Tryz.func74, Tryz.ntmps74
 go_wp2_with fail
 refine (CM.out _).mono ?_
 rintro e w1 ⟨rfl, o1⟩
 have y1 := fun (i : Nat) v (h : (w.alloc (.cells #[.int .i64 1, .bool nl] 54)).cell? ⟨w.heap.size, i, none⟩ = some v) => Old.cell o1 (Old.cell (Old.alloc (Old.refl _) _) h)
 have x0 := y1 0 _ (cell_of_heap (heap_alloc_new w _))
 have x1 := y1 1 _ (cell_of_heap (heap_alloc_new w _))
 clear y1
 have hsz : (w.alloc (.cells #[.int .i64 1, .bool nl] 54)).heap.size = w.heap.size + 1 := by simp
 have z1 : ∀ (i : Nat) v, (#[.bool false, .int .i64 n, .string s] : Array Value)[i]? = some v → w1.cell? ⟨w.heap.size + 1, i, none⟩ = some v := by
  intro i v h
  rw [← hsz]
  exact Old.cell o1 ((cell_of_heap (heap_alloc_new _ _)).trans h)
 have v0 := z1 0 _ rfl
 have v1 := z1 1 _ rfl
 have v2 := z1 2 _ rfl
 have O1 := hide (Old.trans (Old.alloc (Old.alloc (Old.refl w) _) _) o1)
 clear o1 z1 hsz
 have ho : Old w1 w1 := Old.refl _
 have g0 : ∀ w', Old w1 w' → w'.cell? ⟨w.heap.size, 0, none⟩ = some (.int .i64 1) := fun w' o => Old.cell o x0
 have g1 : ∀ w', Old w1 w' → w'.cell? ⟨w.heap.size, 1, none⟩ = some (.bool nl) := fun w' o => Old.cell o x1
 have u0 : ∀ w', Old w1 w' → w'.cell? ⟨w.heap.size + 1, 0, none⟩ = some (.bool false) := fun w' o => Old.cell o v0
 have u1 : ∀ w', Old w1 w' → w'.cell? ⟨w.heap.size + 1, 1, none⟩ = some (.int .i64 n) := fun w' o => Old.cell o v1
 have u2 : ∀ w', Old w1 w' → w'.cell? ⟨w.heap.size + 1, 2, none⟩ = some (.string s) := fun w' o => Old.cell o v2
 go_wp2_with fail
 go_region_held3 (fun w' => Old w1 w')
  (first | (exact Old.drew ho) | (exact Old.alloc (by assumption) _) | (exact Old.trans (by assumption) (by assumption)))
  (first
    | (go_at_call 107; (with_reducible refine (CO.out _).mono ?_); rintro e wa ⟨pp, qq, q1, q2, q3, q4, rfl, hp, hq, oa⟩)
    | (go_at_call 130; (with_reducible refine (CP.out _ _ _ (by assumption) (by assumption)).mono ?_); rintro e wb ⟨rfl, ob⟩)
    | (fail "none"))
 have O5 : Hid (Old w1 wb) := hide (by assumption)
 clear CO CP g0 g1 u0 u1 u2
 cases B
 · go_wp2_with fail
   go_ret
   exact ⟨rfl, Old.trans O1.out O5.out⟩
 · go_wp2_with fail
   go_ret
   exact ⟨rfl, Old.trans O1.out O5.out⟩
set_option maxRecDepth 100000 in
set_option maxHeartbeats 1000000 in
theorem check_2 (nl : Bool) (n : Int) (s : ByteArray) (w : World) (hT : Tabs w) : Calls Tryz.prog 74 #[Ty 2 nl, Cl ⟨false, n, s⟩] w (Ret (.int .i64 (if someOk vU 2 ⟨false, n, s⟩ then 0 else 90)) w) := by
 unfold Ret
 have HT := hide hT
 have CM := hide (fun w' => (show Calls Tryz.prog 43 #[Ty 2 nl] w' (Ret (.bool true) w') from may_run 2 nl w'))
 have CO := hide (fun w' => of_2 nl w')
 have CP := hide (fun p q w' hp hq => pl_2 ⟨false, n, s⟩ ▸ plain_runC (-2147483648) 2147483647 ⟨false, n, s⟩ p q w' hp hq)
 have hG := cellGuard
 have hfd := field_0
 generalize someOk vU 2 ⟨false, n, s⟩ = B at CP
 unfold Cl Ty
 go_enter Tryz.func74, Tryz.ntmps74
 go_wp2_with fail
 refine (CM.out _).mono ?_
 rintro e w1 ⟨rfl, o1⟩
 have y1 := fun (i : Nat) v (h : (w.alloc (.cells #[.int .i64 2, .bool nl] 54)).cell? ⟨w.heap.size, i, none⟩ = some v) => Old.cell o1 (Old.cell (Old.alloc (Old.refl _) _) h)
 have x0 := y1 0 _ (cell_of_heap (heap_alloc_new w _))
 have x1 := y1 1 _ (cell_of_heap (heap_alloc_new w _))
 clear y1
 have hsz : (w.alloc (.cells #[.int .i64 2, .bool nl] 54)).heap.size = w.heap.size + 1 := by simp
 have z1 : ∀ (i : Nat) v, (#[.bool false, .int .i64 n, .string s] : Array Value)[i]? = some v → w1.cell? ⟨w.heap.size + 1, i, none⟩ = some v := by
  intro i v h
  rw [← hsz]
  exact Old.cell o1 ((cell_of_heap (heap_alloc_new _ _)).trans h)
 have v0 := z1 0 _ rfl
 have v1 := z1 1 _ rfl
 have v2 := z1 2 _ rfl
 have O1 := hide (Old.trans (Old.alloc (Old.alloc (Old.refl w) _) _) o1)
 clear o1 z1 hsz
 have ho : Old w1 w1 := Old.refl _
 have g0 : ∀ w', Old w1 w' → w'.cell? ⟨w.heap.size, 0, none⟩ = some (.int .i64 2) := fun w' o => Old.cell o x0
 have g1 : ∀ w', Old w1 w' → w'.cell? ⟨w.heap.size, 1, none⟩ = some (.bool nl) := fun w' o => Old.cell o x1
 have u0 : ∀ w', Old w1 w' → w'.cell? ⟨w.heap.size + 1, 0, none⟩ = some (.bool false) := fun w' o => Old.cell o v0
 have u1 : ∀ w', Old w1 w' → w'.cell? ⟨w.heap.size + 1, 1, none⟩ = some (.int .i64 n) := fun w' o => Old.cell o v1
 have u2 : ∀ w', Old w1 w' → w'.cell? ⟨w.heap.size + 1, 2, none⟩ = some (.string s) := fun w' o => Old.cell o v2
 go_wp2_with fail
 go_region_held3 (fun w' => Old w1 w')
  (first | (exact Old.drew ho) | (exact Old.alloc (by assumption) _) | (exact Old.trans (by assumption) (by assumption)))
  (first
    | (go_at_call 107; (with_reducible refine (CO.out _).mono ?_); rintro e wa ⟨pp, qq, q1, q2, q3, q4, rfl, hp, hq, oa⟩)
    | (go_at_call 130; (with_reducible refine (CP.out _ _ _ (by assumption) (by assumption)).mono ?_); rintro e wb ⟨rfl, ob⟩)
    | (fail "none"))
 have O5 : Hid (Old w1 wb) := hide (by assumption)
 clear CO CP g0 g1 u0 u1 u2
 cases B
 · go_wp2_with fail
   go_ret
   exact ⟨rfl, Old.trans O1.out O5.out⟩
 · go_wp2_with fail
   go_ret
   exact ⟨rfl, Old.trans O1.out O5.out⟩
set_option maxRecDepth 100000 in
set_option maxHeartbeats 1000000 in
theorem check_3 (nl : Bool) (n : Int) (s : ByteArray) (w : World) (hT : Tabs w) : Calls Tryz.prog 74 #[Ty 3 nl, Cl ⟨false, n, s⟩] w (Ret (.int .i64 (if someOk vU 3 ⟨false, n, s⟩ then 0 else 90)) w) := by
 unfold Ret
 have HT := hide hT
 have CM := hide (fun w' => (show Calls Tryz.prog 43 #[Ty 3 nl] w' (Ret (.bool true) w') from may_run 3 nl w'))
 have CO := hide (fun w' => of_3 nl w')
 have CP := hide (fun p q w' hp hq => pl_3 ⟨false, n, s⟩ ▸ plain_runC (-9223372036854775808) 9223372036854775807 ⟨false, n, s⟩ p q w' hp hq)
 have hG := cellGuard
 have hfd := field_0
 generalize someOk vU 3 ⟨false, n, s⟩ = B at CP
 unfold Cl Ty
 go_enter Tryz.func74, Tryz.ntmps74
 go_wp2_with fail
 refine (CM.out _).mono ?_
 rintro e w1 ⟨rfl, o1⟩
 have y1 := fun (i : Nat) v (h : (w.alloc (.cells #[.int .i64 3, .bool nl] 54)).cell? ⟨w.heap.size, i, none⟩ = some v) => Old.cell o1 (Old.cell (Old.alloc (Old.refl _) _) h)
 have x0 := y1 0 _ (cell_of_heap (heap_alloc_new w _))
 have x1 := y1 1 _ (cell_of_heap (heap_alloc_new w _))
 clear y1
 have hsz : (w.alloc (.cells #[.int .i64 3, .bool nl] 54)).heap.size = w.heap.size + 1 := by simp
 have z1 : ∀ (i : Nat) v, (#[.bool false, .int .i64 n, .string s] : Array Value)[i]? = some v → w1.cell? ⟨w.heap.size + 1, i, none⟩ = some v := by
  intro i v h
  rw [← hsz]
  exact Old.cell o1 ((cell_of_heap (heap_alloc_new _ _)).trans h)
 have v0 := z1 0 _ rfl
 have v1 := z1 1 _ rfl
 have v2 := z1 2 _ rfl
 have O1 := hide (Old.trans (Old.alloc (Old.alloc (Old.refl w) _) _) o1)
 clear o1 z1 hsz
 have ho : Old w1 w1 := Old.refl _
 have g0 : ∀ w', Old w1 w' → w'.cell? ⟨w.heap.size, 0, none⟩ = some (.int .i64 3) := fun w' o => Old.cell o x0
 have g1 : ∀ w', Old w1 w' → w'.cell? ⟨w.heap.size, 1, none⟩ = some (.bool nl) := fun w' o => Old.cell o x1
 have u0 : ∀ w', Old w1 w' → w'.cell? ⟨w.heap.size + 1, 0, none⟩ = some (.bool false) := fun w' o => Old.cell o v0
 have u1 : ∀ w', Old w1 w' → w'.cell? ⟨w.heap.size + 1, 1, none⟩ = some (.int .i64 n) := fun w' o => Old.cell o v1
 have u2 : ∀ w', Old w1 w' → w'.cell? ⟨w.heap.size + 1, 2, none⟩ = some (.string s) := fun w' o => Old.cell o v2
 go_wp2_with fail
 go_region_held3 (fun w' => Old w1 w')
  (first | (exact Old.drew ho) | (exact Old.alloc (by assumption) _) | (exact Old.trans (by assumption) (by assumption)))
  (first
    | (go_at_call 107; (with_reducible refine (CO.out _).mono ?_); rintro e wa ⟨pp, qq, q1, q2, q3, q4, rfl, hp, hq, oa⟩)
    | (go_at_call 130; (with_reducible refine (CP.out _ _ _ (by assumption) (by assumption)).mono ?_); rintro e wb ⟨rfl, ob⟩)
    | (fail "none"))
 have O5 : Hid (Old w1 wb) := hide (by assumption)
 clear CO CP g0 g1 u0 u1 u2
 cases B
 · go_wp2_with fail
   go_ret
   exact ⟨rfl, Old.trans O1.out O5.out⟩
 · go_wp2_with fail
   go_ret
   exact ⟨rfl, Old.trans O1.out O5.out⟩
set_option maxRecDepth 100000 in
set_option maxHeartbeats 1000000 in
theorem check_4 (nl : Bool) (n : Int) (s : ByteArray) (w : World) (hT : Tabs w) : Calls Tryz.prog 74 #[Ty 4 nl, Cl ⟨false, n, s⟩] w (Ret (.int .i64 (if someOk vU 4 ⟨false, n, s⟩ then 0 else 90)) w) := by
 unfold Ret
 have HT := hide hT
 have CM := hide (fun w' => (show Calls Tryz.prog 43 #[Ty 4 nl] w' (Ret (.bool true) w') from may_run 4 nl w'))
 have CO := hide (fun w' => of_4 nl w')
 have CP := hide (fun p w' hp (o : Old w w') => tx_4 ⟨false, n, s⟩ ▸ text_run ⟨false, n, s⟩ p w' hp (HT.out.old o))
 have hG := cellGuard
 have hfd := field_0
 generalize someOk vU 4 ⟨false, n, s⟩ = B at CP
 unfold Cl Ty
 go_enter Tryz.func74, Tryz.ntmps74
 go_wp2_with fail
 refine (CM.out _).mono ?_
 rintro e w1 ⟨rfl, o1⟩
 have y1 := fun (i : Nat) v (h : (w.alloc (.cells #[.int .i64 4, .bool nl] 54)).cell? ⟨w.heap.size, i, none⟩ = some v) => Old.cell o1 (Old.cell (Old.alloc (Old.refl _) _) h)
 have x0 := y1 0 _ (cell_of_heap (heap_alloc_new w _))
 have x1 := y1 1 _ (cell_of_heap (heap_alloc_new w _))
 clear y1
 have hsz : (w.alloc (.cells #[.int .i64 4, .bool nl] 54)).heap.size = w.heap.size + 1 := by simp
 have z1 : ∀ (i : Nat) v, (#[.bool false, .int .i64 n, .string s] : Array Value)[i]? = some v → w1.cell? ⟨w.heap.size + 1, i, none⟩ = some v := by
  intro i v h
  rw [← hsz]
  exact Old.cell o1 ((cell_of_heap (heap_alloc_new _ _)).trans h)
 have v0 := z1 0 _ rfl
 have v1 := z1 1 _ rfl
 have v2 := z1 2 _ rfl
 have O1 := hide (Old.trans (Old.alloc (Old.alloc (Old.refl w) _) _) o1)
 clear o1 z1 hsz
 have ho : Old w1 w1 := Old.refl _
 have g0 : ∀ w', Old w1 w' → w'.cell? ⟨w.heap.size, 0, none⟩ = some (.int .i64 4) := fun w' o => Old.cell o x0
 have g1 : ∀ w', Old w1 w' → w'.cell? ⟨w.heap.size, 1, none⟩ = some (.bool nl) := fun w' o => Old.cell o x1
 have u0 : ∀ w', Old w1 w' → w'.cell? ⟨w.heap.size + 1, 0, none⟩ = some (.bool false) := fun w' o => Old.cell o v0
 have u1 : ∀ w', Old w1 w' → w'.cell? ⟨w.heap.size + 1, 1, none⟩ = some (.int .i64 n) := fun w' o => Old.cell o v1
 have u2 : ∀ w', Old w1 w' → w'.cell? ⟨w.heap.size + 1, 2, none⟩ = some (.string s) := fun w' o => Old.cell o v2
 go_wp2_with fail
 go_region_held3 (fun w' => Old w1 w')
  (first | (exact Old.drew ho) | (exact Old.alloc (by assumption) _) | (exact Old.trans (by assumption) (by assumption)))
  (first
    | (go_at_call 107; (with_reducible refine (CO.out _).mono ?_); rintro e wa ⟨pp, q1, q2, q3, q4, rfl, hp, oa⟩)
    | (go_at_call 141; (with_reducible refine (CP.out _ _ (by assumption) (Old.trans O1.out (by assumption))).mono ?_); rintro e wb ⟨rfl, ob⟩)
    | (fail "none"))
 have O5 : Hid (Old w1 wb) := hide (by assumption)
 clear CO CP g0 g1 u0 u1 u2
 cases B
 · go_wp2_with fail
   go_ret
   exact ⟨rfl, Old.trans O1.out O5.out⟩
 · go_wp2_with fail
   go_ret
   exact ⟨rfl, Old.trans O1.out O5.out⟩
set_option maxRecDepth 100000 in
set_option maxHeartbeats 1000000 in
theorem check_5 (nl : Bool) (n : Int) (s : ByteArray) (w : World) (hT : Tabs w) : Calls Tryz.prog 74 #[Ty 5 nl, Cl ⟨false, n, s⟩] w (Ret (.int .i64 (if someOk vU 5 ⟨false, n, s⟩ then 0 else 90)) w) := by
 unfold Ret
 have HT := hide hT
 have CM := hide (fun w' => (show Calls Tryz.prog 43 #[Ty 5 nl] w' (Ret (.bool true) w') from may_run 5 nl w'))
 have CO := hide (fun w' => of_5 nl w')
 have CP := hide (fun w' => sz_5 ⟨false, n, s⟩ ▸ size_run ⟨false, n, s⟩ w')
 have hG := cellGuard
 have hfd := field_0
 generalize someOk vU 5 ⟨false, n, s⟩ = B at CP
 unfold Cl Ty
 go_enter Tryz.func74, Tryz.ntmps74
 go_wp2_with fail
 refine (CM.out _).mono ?_
 rintro e w1 ⟨rfl, o1⟩
 have y1 := fun (i : Nat) v (h : (w.alloc (.cells #[.int .i64 5, .bool nl] 54)).cell? ⟨w.heap.size, i, none⟩ = some v) => Old.cell o1 (Old.cell (Old.alloc (Old.refl _) _) h)
 have x0 := y1 0 _ (cell_of_heap (heap_alloc_new w _))
 have x1 := y1 1 _ (cell_of_heap (heap_alloc_new w _))
 clear y1
 have hsz : (w.alloc (.cells #[.int .i64 5, .bool nl] 54)).heap.size = w.heap.size + 1 := by simp
 have z1 : ∀ (i : Nat) v, (#[.bool false, .int .i64 n, .string s] : Array Value)[i]? = some v → w1.cell? ⟨w.heap.size + 1, i, none⟩ = some v := by
  intro i v h
  rw [← hsz]
  exact Old.cell o1 ((cell_of_heap (heap_alloc_new _ _)).trans h)
 have v0 := z1 0 _ rfl
 have v1 := z1 1 _ rfl
 have v2 := z1 2 _ rfl
 have O1 := hide (Old.trans (Old.alloc (Old.alloc (Old.refl w) _) _) o1)
 clear o1 z1 hsz
 have ho : Old w1 w1 := Old.refl _
 have g0 : ∀ w', Old w1 w' → w'.cell? ⟨w.heap.size, 0, none⟩ = some (.int .i64 5) := fun w' o => Old.cell o x0
 have g1 : ∀ w', Old w1 w' → w'.cell? ⟨w.heap.size, 1, none⟩ = some (.bool nl) := fun w' o => Old.cell o x1
 have u0 : ∀ w', Old w1 w' → w'.cell? ⟨w.heap.size + 1, 0, none⟩ = some (.bool false) := fun w' o => Old.cell o v0
 have u1 : ∀ w', Old w1 w' → w'.cell? ⟨w.heap.size + 1, 1, none⟩ = some (.int .i64 n) := fun w' o => Old.cell o v1
 have u2 : ∀ w', Old w1 w' → w'.cell? ⟨w.heap.size + 1, 2, none⟩ = some (.string s) := fun w' o => Old.cell o v2
 go_wp2_with fail
 go_region_held3 (fun w' => Old w1 w')
  (first | (exact Old.drew ho) | (exact Old.alloc (by assumption) _) | (exact Old.trans (by assumption) (by assumption)))
  (first
    | (go_at_call 107; (with_reducible refine (CO.out _).mono ?_); rintro e wa ⟨rfl, oa⟩)
    | (go_at_call 131; (with_reducible refine (CP.out _).mono ?_); rintro e wb ⟨rfl, ob⟩)
    | (fail "none"))
 have O5 : Hid (Old w1 wb) := hide (by assumption)
 clear CO CP g0 g1 u0 u1 u2
 cases B
 · go_wp2_with fail
   go_ret
   exact ⟨rfl, Old.trans O1.out O5.out⟩
 · go_wp2_with fail
   go_ret
   exact ⟨rfl, Old.trans O1.out O5.out⟩
end Go.Proofs.YthlfljmfggmfdaaGreatDoor

/-! ###  -/
namespace Go.Proofs.YthlfljmfggmfdaaGreatDoor
open Go.RowKit
theorem cellErr_may {k : Int} {nl : Bool} {c : Cell} (h : mayK k = false) : cellErr vU k nl c = 2 := by simp [cellErr, h]
theorem cellErr_some {k : Int} {nl : Bool} {n : Int} {s : ByteArray} (h : mayK k = true) : cellErr vU k nl ⟨false, n, s⟩ = if someOk vU k ⟨false, n, s⟩ then 0 else 90 := by simp [cellErr, h, cellOk]
theorem cellErr_no {k : Int} {n : Int} {s : ByteArray} (h : mayK k = true) : cellErr vU k false ⟨true, n, s⟩ = 90 := by simp [cellErr, h, cellOk]
theorem cellErr_null {k : Int} {n : Int} {s : ByteArray} (h : mayK k = true) : cellErr vU k true ⟨true, n, s⟩ = if neCell ⟨true, n, s⟩ ⟨true, 0, ⟨#[]⟩⟩ then 90 else 0 := by
 by_cases h1 : n = 0
 · by_cases h2 : s = ⟨#[]⟩
   · simp [cellErr, h, cellOk, neCell, h1, h2, none_]
   · simp [cellErr, h, cellOk, neCell, h1, h2, none_]
 · simp [cellErr, h, cellOk, neCell, h1]
set_option maxRecDepth 100000 in
set_option maxHeartbeats 1000000 in
theorem ccheck_run (k : Int) (nl : Bool) (c : Cell) (w : World) (hT : Tabs w) : Calls Tryz.prog 74 #[Ty k nl, Cl c] w (Ret (.int .i64 (cellErr vU k nl c)) w) := by
 obtain ⟨cn, n, s⟩ := c
 cases hk : mayK k
 · rw [cellErr_may hk]
   have CM := hide (fun w' => (show Calls Tryz.prog 43 #[Ty k nl] w' (Ret (.bool false) w') from hk ▸ may_run k nl w'))
   unfold Ret Cl Ty
   go_enter Tryz.func74, Tryz.ntmps74
   go_wp2_with fail
   refine (CM.out _).mono ?_
   rintro e w1 ⟨rfl, o1⟩
   have O1 := hide (Old.trans (Old.alloc (Old.alloc (Old.refl w) _) _) o1)
   clear o1
   go_wp2_with fail
   go_ret
   exact ⟨rfl, O1.out⟩
 · cases cn
   · rw [cellErr_some hk]
     have h5 : k = 1 ∨ k = 2 ∨ k = 3 ∨ k = 4 ∨ k = 5 := by simp [mayK] at hk; omega
     rcases h5 with rfl | rfl | rfl | rfl | rfl
     · exact check_1 nl n s w hT
     · exact check_2 nl n s w hT
     · exact check_3 nl n s w hT
     · exact check_4 nl n s w hT
     · exact check_5 nl n s w hT
   · have CM := hide (fun w' => (show Calls Tryz.prog 43 #[Ty k nl] w' (Ret (.bool true) w') from hk ▸ may_run k nl w'))
     cases nl
     · rw [cellErr_no hk]
       unfold Ret Cl Ty
       go_enter Tryz.func74, Tryz.ntmps74
       go_wp2_with fail
       refine (CM.out _).mono ?_
       rintro e w1 ⟨rfl, o1⟩
       have y1 := fun (i : Nat) v (h : (w.alloc (.cells #[.int .i64 k, .bool false] 54)).cell? ⟨w.heap.size, i, none⟩ = some v) => Old.cell o1 (Old.cell (Old.alloc (Old.refl _) _) h)
       have x0 := y1 0 _ (cell_of_heap (heap_alloc_new w _))
       have x1 := y1 1 _ (cell_of_heap (heap_alloc_new w _))
       clear y1
       have hsz : (w.alloc (.cells #[.int .i64 k, .bool false] 54)).heap.size = w.heap.size + 1 := by simp
       have z1 : ∀ (i : Nat) v, (#[.bool true, .int .i64 n, .string s] : Array Value)[i]? = some v → w1.cell? ⟨w.heap.size + 1, i, none⟩ = some v := by
        intro i v h
        rw [← hsz]
        exact Old.cell o1 ((cell_of_heap (heap_alloc_new _ _)).trans h)
       have v0 := z1 0 _ rfl
       have O1 := hide (Old.trans (Old.alloc (Old.alloc (Old.refl w) _) _) o1)
       clear o1 z1 hsz
       go_wp2_with fail
       go_ret
       exact ⟨rfl, O1.out⟩
     · rw [cellErr_null hk]
       have hG := cellGuard
       have HQ := fun w' => neq_cell ⟨true, n, s⟩ ⟨true, 0, ⟨#[]⟩⟩ w'
       simp only at HQ
       cases hne : neCell ⟨true, n, s⟩ ⟨true, 0, ⟨#[]⟩⟩
       all_goals
        rw [hne] at HQ
        unfold Ret Cl Ty
        go_enter Tryz.func74, Tryz.ntmps74
        go_wp2_with fail
        refine (CM.out _).mono ?_
        rintro e w1 ⟨rfl, o1⟩
        have y1 := fun (i : Nat) v (h : (w.alloc (.cells #[.int .i64 k, .bool true] 54)).cell? ⟨w.heap.size, i, none⟩ = some v) => Old.cell o1 (Old.cell (Old.alloc (Old.refl _) _) h)
        have x0 := y1 0 _ (cell_of_heap (heap_alloc_new w _))
        have x1 := y1 1 _ (cell_of_heap (heap_alloc_new w _))
        clear y1
        have hsz : (w.alloc (.cells #[.int .i64 k, .bool true] 54)).heap.size = w.heap.size + 1 := by simp
        have z1 : ∀ (i : Nat) v, (#[.bool true, .int .i64 n, .string s] : Array Value)[i]? = some v → w1.cell? ⟨w.heap.size + 1, i, none⟩ = some v := by
         intro i v h
         rw [← hsz]
         exact Old.cell o1 ((cell_of_heap (heap_alloc_new _ _)).trans h)
        have v0 := z1 0 _ rfl
        have v1 := z1 1 _ rfl
        have v2 := z1 2 _ rfl
        have O1 := hide (Old.trans (Old.alloc (Old.alloc (Old.refl w) _) _) o1)
        clear o1 z1 hsz
       · go_wp2_with fail
         go_region
         go_wp2_with fail
         go_ret
         exact ⟨rfl, Old.drew O1.out⟩
       · go_wp2_with fail
         go_ret
         exact ⟨rfl, O1.out⟩
def Col.vals (c : Col) : List Value := [.int .i64 c.id, .string c.name, .int .i64 c.kind, .bool c.null, .bool c.dflt.null, .int .i64 c.dflt.n, .string c.dflt.s]
def colVals (l : List Col) : List Value := l.flatMap Col.vals
theorem colVals_length (l : List Col) : (colVals l).length = l.length * 7 := by
 induction l with
 | nil => rfl
 | cons c r ih => simp [colVals, Col.vals] at *; omega
theorem colVals_ne {l : List Col} (h : 0 < l.length) : colVals l ≠ [] := by
 intro e
 have := colVals_length l
 rw [e] at this
 simp at this
 omega
theorem colVals_get (l : List Col) (i k : Nat) (hk : k < 7) (hi : i < l.length) : (colVals l)[i * 7 + k]? = (l[i]).vals[k]? := by
 induction l generalizing i with
 | nil => simp at hi
 | cons c r ih =>
   have hc : (Col.vals c).length = 7 := rfl
   cases i with
   | zero => simp [colVals, List.flatMap_cons, List.getElem?_append_left, hc, hk]
   | succ i =>
     have h := ih i (by simpa using hi)
     simp only [colVals, List.flatMap_cons] at *
     rw [List.getElem?_append_right (by omega)]
     simp only [List.getElem_cons_succ]
     rw [← h]
     congr 1
     omega
theorem colVals_append (a b : List Col) : colVals (a ++ b) = colVals a ++ colVals b := by simp [colVals]
theorem colVals_cell (l : List Col) : ∀ u ∈ colVals l, u.oneCell' = true := by
 intro u hu
 simp only [colVals, List.mem_flatMap, Col.vals, List.mem_cons, List.not_mem_nil, or_false] at hu
 obtain ⟨c, _, rfl | rfl | rfl | rfl | rfl | rfl | rfl⟩ := hu <;> rfl
abbrev ColsIs (w : World) (v : Value) (l : List Col) : Prop := Sl w v l.length (colVals l)
def ColAt (w : World) (b o : Nat) (c : Col) : Prop := w.cell? ⟨b, o, none⟩ = some (.int .i64 c.id) ∧ w.cell? ⟨b, o + 1, none⟩ = some (.string c.name) ∧ w.cell? ⟨b, o + 2, none⟩ = some (.int .i64 c.kind) ∧ w.cell? ⟨b, o + 3, none⟩ = some (.bool c.null) ∧ w.cell? ⟨b, o + 4, none⟩ = some (.bool c.dflt.null) ∧ w.cell? ⟨b, o + 5, none⟩ = some (.int .i64 c.dflt.n) ∧ w.cell? ⟨b, o + 6, none⟩ = some (.string c.dflt.s)
theorem ColAt.old {w w' : World} {b o : Nat} {c : Col} (h : ColAt w b o c) (q : Old w w') : ColAt w' b o c := ⟨q.cell h.1, q.cell h.2.1, q.cell h.2.2.1, q.cell h.2.2.2.1, q.cell h.2.2.2.2.1, q.cell h.2.2.2.2.2.1, q.cell h.2.2.2.2.2.2⟩
theorem cols_form {w : World} {v : Value} {l : List Col} (h : ColsIs w v l) : ∃ A cap, v = .slice A l.length cap ∧ l.length ≤ cap ∧ cap ≤ maxLen ∧
 (l.length = 0 ∨ ∃ b off, A = some ⟨b, off, none⟩ ∧ ∀ i, (hi : i < l.length) → ColAt w b (off + i * 7) l[i]) := by
 obtain ⟨A, cap, rfl, h1, h2, h3⟩ := h
 refine ⟨A, cap, rfl, h1, h2, ?_⟩
 rcases Nat.eq_zero_or_pos l.length with h0 | h0
 · exact .inl h0
 · obtain ⟨b, off, rfl, hc⟩ := h3 (colVals_ne h0)
   refine .inr ⟨b, off, rfl, fun i hi => ?_⟩
   have g : ∀ k v, k < 7 → (l[i]).vals[k]? = some v → w.cell? ⟨b, off + i * 7 + k, none⟩ = some v := fun k v hk hv => by
    have := hc (i * 7 + k) v ((colVals_get l i k hk hi).trans hv)
    rwa [← Nat.add_assoc] at this
   exact ⟨g 0 _ (by omega) rfl, g 1 _ (by omega) rfl, g 2 _ (by omega) rfl, g 3 _ (by omega) rfl, g 4 _ (by omega) rfl, g 5 _ (by omega) rfl, g 6 _ (by omega) rfl⟩
end Go.Proofs.YthlfljmfggmfdaaGreatDoor
