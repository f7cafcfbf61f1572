/- strings.Builder's methods that are used here, at a builder of its own or within a struct: what they add, and what they keep. -/
import Derived.Test.YtmfbblcipakaiaaGreatDoorOrder
import Derived.Lib.OthersKept
import Derived.Lib.FrozenHead2
import Derived.Test.YtmfbblcipakaiaaGreatDoorLaid
import Derived.Test.YtmfbblcipakaiaaGreatDoorGrpC
import Derived.Test.YtmfbblcipakaiaaGreatDoorTail
import Derived.Lib.ItoaLen
import Derived.Lib.AppendIntMem
import Derived.Lib.SmallJoins
/-! ### strings.Builder's methods that are used here, at a builder of its own or within a struct: what they add, and what they keep. -/
namespace Go.Proofs.YtmfbblcipakaiaaGreatDoor
open Go.RowKit

/-- the types of a block that holds a builder: the builder's own, and the writer's, whose one field it is -/
def BT (T : TypeId) : Prop := T = 136
theorem BT.lies {T : TypeId} (h : BT T) : liesAt Tryz.prog Tryz.prog.depth T (2 / Tryz.prog.cellsOf T) 0 136 1 = true := by
  subst h; kernel_rfl
theorem BT.ne {T : TypeId} (h : BT T) : T ≠ 5 := by
  subst h; decide
theorem sizeB : (Tryz.prog.info? 136).map (fun i => i.size) = some 2 := by kernel_rfl
theorem infoB : (Tryz.prog.info? 5).map (fun i => (i.zero, i.size, i.bytes)) = some (some (.int .u8 0), 1, 1) := by kernel_rfl
/-- what a builder's call keeps -/
structure WKept (B b : Nat) (w w' : World) : Prop where
  below : Below B w w'
  others : Lib.OthersKept 5 (some b) w w'
theorem WKept.refl (B b : Nat) (w : World) : WKept B b w w := ⟨Below.refl _ _, Lib.OthersKept.refl _ _ _⟩
theorem WKept.trans {B b : Nat} {w w' w'' : World} (h : WKept B b w w') (k : WKept B b w' w'') : WKept B b w w'' := ⟨h.below.trans k.below, h.others.trans k.others⟩

set_option maxHeartbeats 1000000 in
set_option maxRecDepth 100000 in
theorem wb_copy_fresh (T : TypeId) (hT : BT T) (b : Nat) (w : World) (h0 : w.cell? ⟨b, 0, none⟩ = some (.pointer none)) (hsh : w.shape? b = some (T, 2)) (hfz : w.frozen? ⟨b, 0, none⟩ = false) :
    Calls Tryz.prog 96 #[.pointer (some ⟨b, 0, none⟩)] w fun e w' => e = .returned (.tuple #[]) ∧ w' = w.setCell ⟨b, 0, none⟩ (.pointer (some ⟨b, 0, none⟩)) := by
  obtain ⟨j, hj, hjs⟩ := Option.map_eq_some_iff.1 sizeB
  have hlies := hT.lies
  go_enter Tryz.func96, Tryz.ntmps96
  go_wp2
  rw [Lib.run_to_unsafe w ⟨b, 0, none⟩ Tryz.underlying133 Tryz.underlying176 hj (by rw [hjs]; decide) hsh (Nat.zero_lt_succ 1)]
  simp only [Result.andThen]
  rw [Oper.upon_value]
  go_wp2
  rw [run_callFunc_extern Tryz.func117 (by kernel_rfl) (by kernel_rfl) (by kernel_rfl) (e := Extern.AbiNoEscape.same) (by kernel_rfl)]
  rw [Lib.run_noEscape]
  simp only [Result.andThen]
  rw [Oper.upon_value]
  go_wp2
  rw [Lib.run_from_unsafe w ⟨b, 0, none⟩ Tryz.underlying176 Tryz.underlying133 hj hsh hlies]
  simp only [Result.andThen]
  rw [Oper.upon_value]
  go_wp2
  go_end0
  exact ⟨rfl, rfl⟩
set_option maxHeartbeats 1000000 in
set_option maxRecDepth 100000 in
theorem wb_copy_used (b : Nat) (w : World) (h0 : w.cell? ⟨b, 0, none⟩ = some (.pointer (some ⟨b, 0, none⟩))) :
    Calls Tryz.prog 96 #[.pointer (some ⟨b, 0, none⟩)] w fun e w' => e = .returned (.tuple #[]) ∧ w' = w := by
  obtain ⟨j, hj, hjs⟩ := Option.map_eq_some_iff.1 sizeB
  go_enter Tryz.func96, Tryz.ntmps96
  go_wp2
  rw [Lib.run_neq_ptr_same _ _ Tryz.underlying133 hj]
  go_wp2
  go_end0
  exact ⟨rfl, rfl⟩
theorem wb_copy (T : TypeId) (hT : BT T) (B b : Nat) (bs : List Value) (w : World) (h : Lib.IsBuilderF T 5 B b bs w) :
    Calls Tryz.prog 96 #[.pointer (some ⟨b, 0, none⟩)] w fun e w' => e = .returned (.tuple #[]) ∧ Lib.BuilderAtF T 5 B b (.pointer (some ⟨b, 0, none⟩)) bs w' ∧ WKept B b w w' := by
  rcases h with h | h
  · refine (wb_copy_fresh T hT b w h.cell0 h.shape h.frozen0).mono ?_
    rintro e w' ⟨rfl, rfl⟩
    exact ⟨rfl, h.used _, (Below.refl B w).setCell (p := ⟨b, 0, none⟩) h.1 _, (Lib.OthersKept.refl _ _ w).setCell ⟨b, 0, none⟩ rfl _⟩
  · refine (wb_copy_used b w h.cell0).mono ?_
    rintro e w' ⟨rfl, rfl⟩
    exact ⟨rfl, h, WKept.refl _ _ _⟩
/-- a builder that holds bytes -/
abbrev WBs (T : TypeId) (B b : Nat) (l : List UInt8) (w : World) : Prop := Lib.IsBuilderF T 5 B b (Lib.byteCells l) w
theorem WBs.at {T : TypeId} {B b : Nat} {bs : List Value} {w : World} (h : Lib.IsBuilderF T 5 B b bs w) : ∃ p, (p = .pointer none ∨ p = .pointer (some ⟨b, 0, none⟩)) ∧ Lib.BuilderAtF T 5 B b p bs w := by
  rcases h with h | h
  · exact ⟨_, .inl rfl, h⟩
  · exact ⟨_, .inr rfl, h⟩
theorem wb_form {B n : Nat} {w : World} {v : Value} {xs : List Value} (h : w.ownsRowF B 5 1 v n xs) : ∃ A cap, v = .slice A n cap := by
  rcases h.2 with ⟨rfl, rfl⟩ | ⟨g, cap, cur, fz, rfl, _⟩
  · exact ⟨_, _, rfl⟩
  · exact ⟨_, _, rfl⟩

set_option maxHeartbeats 2000000 in
set_option maxRecDepth 100000 in
theorem wb_WriteString (T : TypeId) (hT : BT T) (B b : Nat) (l : List UInt8) (s : ByteArray) (w : World) (h : WBs T B b l w) (hlen : l.length + s.size ≤ 140737488355328) (hBw : B ≤ w.heap.size) :
    Calls Tryz.prog 81 #[.pointer (some ⟨b, 0, none⟩), .string s] w fun e w' => e = .returned (.tuple #[.int .i64 s.size, .nilIface]) ∧ WBs T B b (l ++ s.data.toList) w' ∧ WKept B b w w' := by
  obtain ⟨n, hn⟩ : ∃ n, Hid ((Lib.byteCells l).length = n) := ⟨_, hide rfl⟩
  have hl0 := Lib.byteCells_length l
  rw [hn.out] at hl0
  rw [← hl0] at hlen
  clear hl0
  have CC := wb_copy T hT B b _ w h
  have hne := hT.ne
  clear h
  obtain ⟨i0, hi, hz0, hz1, hz2⟩ := info_parts infoB
  go_enter Tryz.func81, Tryz.ntmps81
  go_wp2_with fail
  refine CC.mono ?_
  rintro e w1 ⟨rfl, ⟨hB, v, hbk, hown, hno⟩, hb1, hk1⟩
  rw [hn.out] at hown
  clear CC
  have c1 : w1.cell? ⟨b, 1, none⟩ = some v := by rw [Lib.cell_of_heap hbk]; rfl
  go_wp2_with (at_builtin; refine Lib.wpList_append_own_stringF _ rfl _ _ 134 9 rfl B 5 i0 Tryz.underlying134 Tryz.underlying9 hi hz0 hz1 hz2 _ _ _ rfl hown s rfl ?c3 ?c4 ?c5 ?_)
  case c3 => unfold maxLen; omega
  case c4 => omega
  case c5 => have := hb1.size; omega
  intro v' w2 hown' hgrow _
  have hlt : b < w1.heap.size := (Array.getElem?_eq_some_iff.1 hbk).1
  have hb2 : w2.heap[b]? = some (.cells #[.pointer (some ⟨b, 0, none⟩), v] T (0, 0)) := by
    rw [hgrow.block b hlt (fun e => hno e.symm)]
    exact hbk
  have d1 : w2.cell? ⟨b, 1, none⟩ = some v := by rw [Lib.cell_of_heap hb2]; rfl
  have f1 : w2.frozen? ⟨b, 1, none⟩ = false := Lib.frozen_of_heap hb2 1
  obtain ⟨A', cap', rfl⟩ := wb_form hown'
  go_wp2
  go_ret2
  refine ⟨rfl, .inr ?_, ?_, (hk1.grown hgrow (Lib.ownsRowF_kind hown)).setCell ⟨b, 1, none⟩ rfl _⟩
  · rw [Lib.byteCells_append, ← Lib.strCells_eq]
    exact Lib.BuilderAtF.put (T := T) (e := 5) hB hb2 (bs' := Lib.byteCells l ++ Lib.strCells s) (by rw [List.length_append, hn.out, Lib.strCells_length]; exact hown') hne
  · exact (hb1.grown hgrow (by have := hb1.size; omega) (fun k hk => (hown.lt k hk).1)).setCell (p := ⟨b, 1, none⟩) hB _

set_option maxHeartbeats 1000000 in
set_option maxRecDepth 100000 in
theorem wb_String (T : TypeId) (B b : Nat) (l : List UInt8) (w : World) (h : WBs T B b l w) (h0 : l ≠ []) :
    Calls Tryz.prog 85 #[.pointer (some ⟨b, 0, none⟩)] w fun e w' => e = .returned (.string ⟨l.toArray⟩) ∧ WBs T B b l w' ∧ WKept B b w w' := by
  obtain ⟨p, hp, hB, v, hbk, hown, hne⟩ := WBs.at h
  have hl0 : l.length ≠ 0 := by simpa using h0
  have hA : Lib.BuilderAtF T 5 B b p (Lib.byteCells l) w := ⟨hB, v, hbk, hown, hne⟩
  rw [Lib.byteCells_length] at hown
  obtain ⟨g, cap, cur, fz, rfl, hbg, hg, hfz, hnc, hcm, hcs, htake⟩ : ∃ g cap cur fz, v = .slice (some ⟨g, 0, none⟩) l.length cap ∧ B ≤ g ∧ w.heap[g]? = some (.cells cur 5 fz) ∧ fz.2 ≤ l.length * 1 ∧ l.length ≤ cap ∧ cap ≤ maxLen ∧ cur.size = cap * 1 ∧ cur.toList.take (l.length * 1) = Lib.byteCells l := by
    rcases hown.2 with ⟨_, hz⟩ | ⟨g, cap, cur, fz, hv, r⟩
    · exact absurd hz hl0
    · exact ⟨g, cap, cur, fz, hv, r⟩
  have c1 : w.drew.cell? ⟨b, 1, none⟩ = some (.slice (some ⟨g, 0, none⟩) l.length cap) := by
    have : w.drew.heap[b]? = some (.cells #[p, .slice (some ⟨g, 0, none⟩) l.length cap] T (0, 0)) := hbk
    rw [Lib.cell_of_heap this]; rfl
  have hSD : (Builtin.unsafeSliceData_ #[134] 157 #[.slice (some ⟨g, 0, none⟩) l.length cap]).run Tryz.prog w.drew = .ok (.pointer (some ⟨g, 0, none⟩)) w.drew :=
    Lib.run_unsafeSliceData_row _ _ _ _ _ _ (by omega)
  have hUS : (Builtin.unsafeString_ #[157, 3] 9 #[.pointer (some ⟨g, 0, none⟩), .int .i64 l.length]).run Tryz.prog w.drew = .ok (.string ⟨l.toArray⟩) (w.drew.freeze ⟨g, 0, none⟩ l.length) := by
    refine Lib.run_unsafeString_row w.drew 157 3 9 5 Tryz.underlying157 (by kernel_rfl) g cur.size (by have hg' : w.drew.heap[g]? = some (.cells cur 5 fz) := hg; simp [World.shape?, hg']) l h0 (by omega) (by unfold maxLen at hcm; omega) ?_
    intro j x hx
    exact hown.cells (g := g) rfl j (.int .u8 x.toNat) (by simp [Lib.byteCells, hx])
  have hkeep : WBs T B b l (w.drew.freeze ⟨g, 0, none⟩ l.length) := by
    have hA' : Lib.BuilderAtF T 5 B b p (Lib.byteCells l) w.drew := hA
    have hF := hA'.froze (g := g) (cap := cap) (by rw [Lib.byteCells_length]; exact c1)
    rw [Lib.byteCells_length] at hF
    rcases hp with rfl | rfl
    · exact .inl hF
    · exact .inr hF
  have HK := hide hkeep
  have HW := hide (show WKept B b w (w.drew.freeze ⟨g, 0, none⟩ l.length) from ⟨Lib.below_freeze (Below.drew (Below.refl B w)) (p := ⟨g, 0, none⟩) hbg _, ((Lib.OthersKept.refl _ _ w).drew).freeze ⟨g, 0, none⟩ _ ⟨cur, fz, hg⟩⟩)
  clear hkeep hA hown hbk hg h
  go_enter Tryz.func85, Tryz.ntmps85
  go_wp2
  go_region
  all_goals (go_wp2; go_ret; exact ⟨rfl, HK.out, HW.out⟩)
end Go.Proofs.YtmfbblcipakaiaaGreatDoor

/-! ### The walk of name: a key as a text. -/
namespace Go.Proofs.YtmfbblcipakaiaaGreatDoor
open Go.RowKit

abbrev PowTab (w : World) : Prop := Lib.TabIs Tryz.prog w "internal/strconv.uint64pow10" .u64 Lib.pow10Tab
theorem PowTab.old {w w' : World} (h : PowTab w) (o : Old w w') : PowTab w' := Go.Joins.tab_stays (g := 0) (by kernel_rfl) h o (Nat.le_refl _)
theorem format_run (n : Int) (h0 : -9223372036854775808 ≤ n) (h1 : n ≤ 9223372036854775807) (w : World) (ht : PowTab w) :
    Calls Tryz.prog 83 #[.int .i64 n, .int .i64 10] w fun e w' => e = .returned (.string ⟨(Lib.itoa n).toArray⟩) ∧ Old w w' :=
  (Tryz.strconv_FormatInt_10 n h0 h1 w ht).mono fun e w' ⟨he, k, os, hw⟩ => ⟨he, by rw [hw]; exact Lib.below_grow _ w (Nat.le_refl _) k os⟩
theorem itoa_run (n : Int) (h0 : -9223372036854775808 ≤ n) (h1 : n ≤ 9223372036854775807) (w : World) (ht : PowTab w) :
    Calls Tryz.prog 84 #[.int .i64 n] w fun e w' => e = .returned (.string ⟨(Lib.itoa n).toArray⟩) ∧ Old w w' :=
  (Tryz.strconv_Itoa n h0 h1 w ht).mono fun e w' ⟨he, k, os, hw⟩ => ⟨he, by rw [hw]; exact Lib.below_grow _ w (Nat.le_refl _) k os⟩
theorem WBs.old {T : TypeId} {B b : Nat} {l : List UInt8} {w w' : World} (h : WBs T B b l w) (o : Old w w') : WBs T B b l w' := by
  have go : ∀ p, Lib.BuilderAtF T 5 B b p (Lib.byteCells l) w → Lib.BuilderAtF T 5 B b p (Lib.byteCells l) w' := by
    rintro p ⟨hB, v, hb, hown, hne⟩
    refine ⟨hB, v, o.heap hb, ⟨hown.1, ?_⟩, hne⟩
    rcases hown.2 with h | ⟨g, cap, cur, fz, hv, hg, hh, r⟩
    · exact .inl h
    · exact .inr ⟨g, cap, cur, fz, hv, hg, o.heap hh, r⟩
  exact h.imp (go _) (go _)
def boolS (b : Bool) : ByteArray := ⟨(boolL b).toArray⟩
set_option maxRecDepth 100000 in
theorem ibool_run (b : Bool) (w : World) : Calls Tryz.prog 97 #[.bool b] w fun e w' => e = .returned (.string (boolS b)) ∧ Old w w' := by
  cases b
  · go_enter Tryz.func97, Tryz.ntmps97
    go_wp2_with fail
    go_ret
    exact ⟨rfl, Old.refl w⟩
  · go_enter Tryz.func97, Tryz.ntmps97
    go_wp2_with fail
    go_ret
    exact ⟨rfl, Old.refl w⟩
set_option maxRecDepth 100000 in
theorem bool_run (b : Bool) (w : World) : Calls Tryz.prog 82 #[.bool b] w fun e w' => e = .returned (.string (boolS b)) ∧ Old w w' := by
  have HC := hide (ibool_run b w)
  go_enter Tryz.func82, Tryz.ntmps82
  go_wp2_with fail
  refine HC.out.mono ?_
  rintro e w1 ⟨rfl, h1⟩
  go_wp2_with fail
  go_ret
  exact ⟨rfl, h1⟩

/-- a key whose name can be made -/
structure KeyOk (k : List Cell) : Prop where
  len : k.length ≤ 64
  fits : ∀ c ∈ k, fit c.n
  short : ∀ c ∈ k, c.s.size ≤ 100
theorem cellL_len {c : Cell} (h1 : fit c.n) (h2 : c.s.size ≤ 100) : (cellL c).length ≤ 150 := by
  unfold cellL
  simp only [List.length_append, List.length_cons]
  have a1 := boolL_len c.null
  have a2 := Lib.itoa_length_le c.n h1.1 (by have := h1.2; omega)
  have a3 := Lib.itoa_length_le (c.s.size : Int) (by omega) (by omega)
  have a4 : c.s.data.toList.length = c.s.size := by rw [Array.length_toList]; rfl
  omega
theorem keyL_len : ∀ {k : List Cell}, (∀ c ∈ k, fit c.n) → (∀ c ∈ k, c.s.size ≤ 100) → (keyL k).length ≤ k.length * 150
  | [], _, _ => by simp [keyL]
  | c :: k, h1, h2 => by
    have := keyL_len (k := k) (fun x hx => h1 x (List.mem_cons_of_mem _ hx)) (fun x hx => h2 x (List.mem_cons_of_mem _ hx))
    have := cellL_len (h1 c (by simp)) (h2 c (by simp))
    have e : keyL (c :: k) = cellL c ++ keyL k := by simp [keyL]
    rw [e, List.length_append, List.length_cons]
    omega
theorem KeyOk.size {k : List Cell} (h : KeyOk k) : (nameOf k).size ≤ maxLen := by
  rw [nameOf_size]
  have := keyL_len h.fits h.short
  have := h.len
  unfold maxLen
  omega
theorem keyL_take {k : List Cell} {j : Nat} (h : j < k.length) : keyL (k.take (j + 1)) = keyL (k.take j) ++ cellL k[j] := by rw [take_snoc h, keyL_snoc]
theorem keyL_take_len {k : List Cell} (h : KeyOk k) (j : Nat) : (keyL (k.take j)).length ≤ 9600 := by
  have := keyL_len (k := k.take j) (fun c hc => h.fits c (List.mem_of_mem_take hc)) (fun c hc => h.short c (List.mem_of_mem_take hc))
  have := h.len
  simp only [List.length_take] at *
  omega

theorem mk_size (l : List UInt8) : (⟨l.toArray⟩ : ByteArray).size = l.length := by
  show l.toArray.size = _
  exact List.size_toArray
theorem cell_str (c : Cell) : (boolS c.null ++ ⟨#[32]⟩ ++ ⟨(Lib.itoa c.n).toArray⟩ ++ ⟨#[32]⟩ ++ ⟨(Lib.itoa (c.s.size : Int)).toArray⟩ ++ ⟨#[32]⟩ ++ c.s).data.toList = cellL c := by
  unfold cellL boolS
  simp
set_option maxRecDepth 100000 in
set_option maxHeartbeats 1000000 in
theorem name_run (v : Value) (k : List Cell) (w : World) (hv : RowIs w v k) (hk : KeyOk k) (hp : PowTab w) :
    Calls Tryz.prog 65 #[v] w fun e w' => e = .returned (.string (nameOf k)) ∧ Old w w' := by
  obtain ⟨A, ca, rfl, hla, hma, ha⟩ := hv.row
  unfold maxLen at hma
  have HK := hide hk
  have HP := hide (fun w' (o : Old w w') => hp.old o)
  have hlen := hk.len
  clear hk hp
  go_enter Tryz.func65, Tryz.ntmps65
  go_wp2_with fail
  go_loopw [8] (fun i wr => ∃ j : Nat, i = .int .i64 j ∧ j ≤ k.length ∧ Hid (WBs 136 w.heap.size w.heap.size (keyL (k.take j)) wr) ∧ Hid (Old w wr) ∧ w.heap.size + 1 ≤ wr.heap.size) (fun i _ => k.length - (intOf i).toNat)
  case atStart =>
    exact ⟨0, rfl, by omega, hide (Lib.IsBuilderF.of (Lib.fresh_isBuilder _ _ w)), hide ((Old.refl w).alloc _), by simp⟩
  case round =>
    obtain ⟨j, rfl, hj, HB, HO, hsz⟩ := hrel
    by_cases hlt : j < k.length
    · obtain ⟨b1, o1, rfl, hc1⟩ := ha.resolve_left (by omega)
      obtain ⟨x0, x1, x2⟩ := hc1 j hlt
      have y0 := HO.out.cell x0
      have y1 := HO.out.cell x1
      have y2 := HO.out.cell x2
      have HF := hide (HK.out.fits k[j] (List.getElem_mem hlt))
      have HS := hide (HK.out.short k[j] (List.getElem_mem hlt))
      have HT := hide (keyL_take hlt)
      obtain ⟨c, hc⟩ : ∃ c, Hid (k[j] = c) := ⟨_, hide rfl⟩
      rw [hc.out] at HF HS HT y0 y1 y2
      clear ha hc1 x0 x1 x2
      go_wp2_with fail
      obtain ⟨W1, hW1⟩ : ∃ W1, Hid (wr.alloc (.cells #[.bool c.null, .int .i64 c.n, .string c.s] 65) = W1) := ⟨_, hide rfl⟩
      have o1 : Old wr W1 := by rw [← hW1.out]; exact (Old.refl wr).alloc _
      have bx0 : ∀ p : Later W1, p.world.cell? ⟨wr.heap.size, 0, none⟩ = some (.bool c.null) := fun p => p.old.cell (by rw [← hW1.out]; go_simp)
      have bx1 : ∀ p : Later W1, p.world.cell? ⟨wr.heap.size, 1, none⟩ = some (.int .i64 c.n) := fun p => p.old.cell (by rw [← hW1.out]; go_simp)
      have bx2 : ∀ p : Later W1, p.world.cell? ⟨wr.heap.size, 2, none⟩ = some (.string c.s) := fun p => p.old.cell (by rw [← hW1.out]; go_simp)
      have HO1 := hide (HO.out.trans o1)
      have hsz1 : w.heap.size + 1 ≤ W1.heap.size := Nat.le_trans hsz o1.size
      have HB1 := hide (WBs.old HB.out o1)
      obtain ⟨s0, hs0⟩ : ∃ s0, Hid (boolS c.null = s0) := ⟨_, hide rfl⟩
      obtain ⟨s1, hs1⟩ : ∃ s1, Hid ((⟨(Lib.itoa c.n).toArray⟩ : ByteArray) = s1) := ⟨_, hide rfl⟩
      obtain ⟨s2, hs2⟩ : ∃ s2, Hid ((⟨(Lib.itoa (c.s.size : Int)).toArray⟩ : ByteArray) = s2) := ⟨_, hide rfl⟩
      have z0 : s0.size ≤ 5 := by
        rw [← hs0.out]
        exact Nat.le_trans (Nat.le_of_eq (mk_size _)) (boolL_len c.null)
      have z1 : s1.size ≤ 21 := by
        rw [← hs1.out]
        exact Nat.le_trans (Nat.le_of_eq (mk_size _)) (Lib.itoa_length_le c.n HF.out.1 (by have := HF.out.2; omega))
      have z2 : s2.size ≤ 21 := by
        rw [← hs2.out]
        exact Nat.le_trans (Nat.le_of_eq (mk_size _)) (Lib.itoa_length_le (c.s.size : Int) (by omega) (by have := HS.out; omega))
      have z3 := HS.out
      have hcell : Hid ((s0 ++ ⟨#[32]⟩ ++ s1 ++ ⟨#[32]⟩ ++ s2 ++ ⟨#[32]⟩ ++ c.s).data.toList = cellL c) := by
        rw [← hs0.out, ← hs1.out, ← hs2.out]
        exact hide (cell_str c)
      have C1 := hide (fun p : Later W1 => bool_run c.null p.world)
      have C2 := hide (fun p : Later W1 => format_run c.n HF.out.1 (by have := HF.out.2; omega) p.world (HP.out _ (HO1.out.trans p.old)))
      have C3 := hide (fun p : Later W1 => itoa_run (c.s.size : Int) (by omega) (by have := HS.out; omega) p.world (HP.out _ (HO1.out.trans p.old)))
      rw [hs0.out] at C1
      rw [hs1.out] at C2
      rw [hs2.out] at C3
      rw [hW1.out]
      refine region_later_tail 18 (by kernel_rfl) (by kernel_rfl) ?_
      simp only [List.take_succ_cons, List.take_zero, List.drop_succ_cons, List.drop_zero]
      repeat (go_big_quiet_step (first | (go_at_call 82; exact Later.call (C1.out _)) | (go_at_call 83; exact Later.call (C2.out _)) | (go_at_call 84; exact Later.call (C3.out _))))
      refine wpQuiet_nil ?_
      rintro wz ⟨⟨_, hwz⟩, rfl⟩
      clear bx0 bx1 bx2 C1 C2 C3
      go_wp2_with fail
      obtain ⟨st, hst⟩ : ∃ st, Hid (s0 ++ ⟨#[32]⟩ ++ s1 ++ ⟨#[32]⟩ ++ s2 ++ ⟨#[32]⟩ ++ c.s = st) := ⟨_, hide rfl⟩
      rw [hst.out] at hcell ⊢
      have hstl : st.size ≤ 150 := by
        have : st.size = st.data.toList.length := by rw [Array.length_toList]; rfl
        rw [this, hcell.out]
        exact cellL_len HF.out HS.out
      have hkl := keyL_take_len HK.out j
      refine (wb_WriteString 136 rfl w.heap.size w.heap.size (keyL (k.take j)) st wz (WBs.old HB1.out hwz) (by omega) (Nat.le_trans HO1.out.size hwz.size)).mono ?_
      rintro e w2 ⟨rfl, h2, k2⟩
      have H2 := hide (show WBs 136 w.heap.size w.heap.size (keyL (k.take (j + 1))) w2 by rw [HT.out, ← hcell.out]; exact h2)
      have O2 := hide (show Old w w2 from Below.trans (HO1.out.trans hwz) k2.below)
      have S2 : w.heap.size + 1 ≤ w2.heap.size := Nat.le_trans hsz1 (Nat.le_trans hwz.size k2.below.size)
      clear h2 k2 hwz
      go_wp2_with fail
      go_roundw
      case rel => exact ⟨j + 1, by go_num, by omega, H2, O2, S2⟩
      case measure => simp [intOf]; omega
    · have hjk : j = k.length := by omega
      have HB2 := hide (show WBs 136 w.heap.size w.heap.size (keyL k) wr by
        have := HB.out
        rw [List.take_of_length_le (by omega)] at this
        exact this)
      clear HB
      go_wp2_with fail
      refine (Tryz.Builder_String_any_k w.heap.size w.heap.size (keyL k) _ HB2.out (by omega)).mono ?_
      rintro e w2 ⟨rfl, -, h2, -⟩
      have O2 := hide (Below.trans HO.out h2)
      clear h2
      go_wp2_with fail
      go_ret
      exact ⟨rfl, O2.out⟩
end Go.Proofs.YtmfbblcipakaiaaGreatDoor
