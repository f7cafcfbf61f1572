/- The walk of name: a key as a text. -/
import Derived.Test.YtmfbblcipakaiaaGreatDoorGrpC
import Derived.Test.YtmfbblcipakaiaaGreatDoorWB
import Derived.Test.YtmfbblcipakaiaaGreatDoorTail
import Derived.Lib.ItoaLen
import Derived.Lib.AppendIntMem
import Derived.Lib.SmallJoins
namespace Go.Proofs.YtmfbblcipakaiaaGreatDoor
open Go.RowKit

abbrev PowTab (w : World) : Prop := Lib.TabIs Tryz.prog w "internal/strconv.uint64pow10" .u64 Lib.pow10Tab
theorem PowTab.old {w w' : World} (h : PowTab w) (o : Old w w') : PowTab w' := Go.Joins.tab_stays (g := 0) (by kernel_rfl) h o (Nat.le_refl _)
theorem format_run (n : Int) (h0 : -9223372036854775808 ≤ n) (h1 : n ≤ 9223372036854775807) (w : World) (ht : PowTab w) :
    Calls Tryz.prog 83 #[.int .i64 n, .int .i64 10] w fun e w' => e = .returned (.string ⟨(Lib.itoa n).toArray⟩) ∧ Old w w' :=
  (Tryz.strconv_FormatInt_10 n h0 h1 w ht).mono fun e w' ⟨he, k, os, hw⟩ => ⟨he, by rw [hw]; exact Lib.below_grow _ w (Nat.le_refl _) k os⟩
theorem itoa_run (n : Int) (h0 : -9223372036854775808 ≤ n) (h1 : n ≤ 9223372036854775807) (w : World) (ht : PowTab w) :
    Calls Tryz.prog 84 #[.int .i64 n] w fun e w' => e = .returned (.string ⟨(Lib.itoa n).toArray⟩) ∧ Old w w' :=
  (Tryz.strconv_Itoa n h0 h1 w ht).mono fun e w' ⟨he, k, os, hw⟩ => ⟨he, by rw [hw]; exact Lib.below_grow _ w (Nat.le_refl _) k os⟩
theorem WBs.old {T : TypeId} {B b : Nat} {l : List UInt8} {w w' : World} (h : WBs T B b l w) (o : Old w w') : WBs T B b l w' := by
  have go : ∀ p, Lib.BuilderAtF T 5 B b p (Lib.byteCells l) w → Lib.BuilderAtF T 5 B b p (Lib.byteCells l) w' := by
    rintro p ⟨hB, v, hb, hown, hne⟩
    refine ⟨hB, v, o.heap hb, ⟨hown.1, ?_⟩, hne⟩
    rcases hown.2 with h | ⟨g, cap, cur, fz, hv, hg, hh, r⟩
    · exact .inl h
    · exact .inr ⟨g, cap, cur, fz, hv, hg, o.heap hh, r⟩
  exact h.imp (go _) (go _)
def boolS (b : Bool) : ByteArray := ⟨(boolL b).toArray⟩
set_option maxRecDepth 100000 in
theorem ibool_run (b : Bool) (w : World) : Calls Tryz.prog 97 #[.bool b] w fun e w' => e = .returned (.string (boolS b)) ∧ Old w w' := by
  cases b
  · go_enter Tryz.func97, Tryz.ntmps97
    go_wp2_with fail
    go_ret
    exact ⟨rfl, Old.refl w⟩
  · go_enter Tryz.func97, Tryz.ntmps97
    go_wp2_with fail
    go_ret
    exact ⟨rfl, Old.refl w⟩
set_option maxRecDepth 100000 in
theorem bool_run (b : Bool) (w : World) : Calls Tryz.prog 82 #[.bool b] w fun e w' => e = .returned (.string (boolS b)) ∧ Old w w' := by
  have HC := hide (ibool_run b w)
  go_enter Tryz.func82, Tryz.ntmps82
  go_wp2_with fail
  refine HC.out.mono ?_
  rintro e w1 ⟨rfl, h1⟩
  go_wp2_with fail
  go_ret
  exact ⟨rfl, h1⟩

/-- a key whose name can be made -/
structure KeyOk (k : List Cell) : Prop where
  len : k.length ≤ 64
  fits : ∀ c ∈ k, fit c.n
  short : ∀ c ∈ k, c.s.size ≤ 100
theorem cellL_len {c : Cell} (h1 : fit c.n) (h2 : c.s.size ≤ 100) : (cellL c).length ≤ 150 := by
  unfold cellL
  simp only [List.length_append, List.length_cons]
  have a1 := boolL_len c.null
  have a2 := Lib.itoa_length_le c.n h1.1 (by have := h1.2; omega)
  have a3 := Lib.itoa_length_le (c.s.size : Int) (by omega) (by omega)
  have a4 : c.s.data.toList.length = c.s.size := by rw [Array.length_toList]; rfl
  omega
theorem keyL_len : ∀ {k : List Cell}, (∀ c ∈ k, fit c.n) → (∀ c ∈ k, c.s.size ≤ 100) → (keyL k).length ≤ k.length * 150
  | [], _, _ => by simp [keyL]
  | c :: k, h1, h2 => by
    have := keyL_len (k := k) (fun x hx => h1 x (List.mem_cons_of_mem _ hx)) (fun x hx => h2 x (List.mem_cons_of_mem _ hx))
    have := cellL_len (h1 c (by simp)) (h2 c (by simp))
    have e : keyL (c :: k) = cellL c ++ keyL k := by simp [keyL]
    rw [e, List.length_append, List.length_cons]
    omega
theorem KeyOk.size {k : List Cell} (h : KeyOk k) : (nameOf k).size ≤ maxLen := by
  rw [nameOf_size]
  have := keyL_len h.fits h.short
  have := h.len
  unfold maxLen
  omega
theorem keyL_take {k : List Cell} {j : Nat} (h : j < k.length) : keyL (k.take (j + 1)) = keyL (k.take j) ++ cellL k[j] := by rw [take_snoc h, keyL_snoc]
theorem keyL_take_len {k : List Cell} (h : KeyOk k) (j : Nat) : (keyL (k.take j)).length ≤ 9600 := by
  have := keyL_len (k := k.take j) (fun c hc => h.fits c (List.mem_of_mem_take hc)) (fun c hc => h.short c (List.mem_of_mem_take hc))
  have := h.len
  simp only [List.length_take] at *
  omega

theorem mk_size (l : List UInt8) : (⟨l.toArray⟩ : ByteArray).size = l.length := by
  show l.toArray.size = _
  exact List.size_toArray
theorem cell_str (c : Cell) : (boolS c.null ++ ⟨#[32]⟩ ++ ⟨(Lib.itoa c.n).toArray⟩ ++ ⟨#[32]⟩ ++ ⟨(Lib.itoa (c.s.size : Int)).toArray⟩ ++ ⟨#[32]⟩ ++ c.s).data.toList = cellL c := by
  unfold cellL boolS
  simp
set_option maxRecDepth 100000 in
set_option maxHeartbeats 1000000 in
theorem name_run (v : Value) (k : List Cell) (w : World) (hv : RowIs w v k) (hk : KeyOk k) (hp : PowTab w) :
    Calls Tryz.prog 65 #[v] w fun e w' => e = .returned (.string (nameOf k)) ∧ Old w w' := by
  obtain ⟨A, ca, rfl, hla, hma, ha⟩ := hv.row
  unfold maxLen at hma
  have HK := hide hk
  have HP := hide (fun w' (o : Old w w') => hp.old o)
  have hlen := hk.len
  clear hk hp
  go_enter Tryz.func65, Tryz.ntmps65
  go_wp2_with fail
  go_loopw [8] (fun i wr => ∃ j : Nat, i = .int .i64 j ∧ j ≤ k.length ∧ Hid (WBs 136 w.heap.size w.heap.size (keyL (k.take j)) wr) ∧ Hid (Old w wr) ∧ w.heap.size + 1 ≤ wr.heap.size) (fun i _ => k.length - (intOf i).toNat)
  case atStart =>
    exact ⟨0, rfl, by omega, hide (Lib.IsBuilderF.of (Lib.fresh_isBuilder _ _ w)), hide ((Old.refl w).alloc _), by simp⟩
  case round =>
    obtain ⟨j, rfl, hj, HB, HO, hsz⟩ := hrel
    by_cases hlt : j < k.length
    · obtain ⟨b1, o1, rfl, hc1⟩ := ha.resolve_left (by omega)
      obtain ⟨x0, x1, x2⟩ := hc1 j hlt
      have y0 := HO.out.cell x0
      have y1 := HO.out.cell x1
      have y2 := HO.out.cell x2
      have HF := hide (HK.out.fits k[j] (List.getElem_mem hlt))
      have HS := hide (HK.out.short k[j] (List.getElem_mem hlt))
      have HT := hide (keyL_take hlt)
      obtain ⟨c, hc⟩ : ∃ c, Hid (k[j] = c) := ⟨_, hide rfl⟩
      rw [hc.out] at HF HS HT y0 y1 y2
      clear ha hc1 x0 x1 x2
      go_wp2_with fail
      obtain ⟨W1, hW1⟩ : ∃ W1, Hid (wr.alloc (.cells #[.bool c.null, .int .i64 c.n, .string c.s] 65) = W1) := ⟨_, hide rfl⟩
      have o1 : Old wr W1 := by rw [← hW1.out]; exact (Old.refl wr).alloc _
      have bx0 : ∀ p : Later W1, p.world.cell? ⟨wr.heap.size, 0, none⟩ = some (.bool c.null) := fun p => p.old.cell (by rw [← hW1.out]; go_simp)
      have bx1 : ∀ p : Later W1, p.world.cell? ⟨wr.heap.size, 1, none⟩ = some (.int .i64 c.n) := fun p => p.old.cell (by rw [← hW1.out]; go_simp)
      have bx2 : ∀ p : Later W1, p.world.cell? ⟨wr.heap.size, 2, none⟩ = some (.string c.s) := fun p => p.old.cell (by rw [← hW1.out]; go_simp)
      have HO1 := hide (HO.out.trans o1)
      have hsz1 : w.heap.size + 1 ≤ W1.heap.size := Nat.le_trans hsz o1.size
      have HB1 := hide (WBs.old HB.out o1)
      obtain ⟨s0, hs0⟩ : ∃ s0, Hid (boolS c.null = s0) := ⟨_, hide rfl⟩
      obtain ⟨s1, hs1⟩ : ∃ s1, Hid ((⟨(Lib.itoa c.n).toArray⟩ : ByteArray) = s1) := ⟨_, hide rfl⟩
      obtain ⟨s2, hs2⟩ : ∃ s2, Hid ((⟨(Lib.itoa (c.s.size : Int)).toArray⟩ : ByteArray) = s2) := ⟨_, hide rfl⟩
      have z0 : s0.size ≤ 5 := by
        rw [← hs0.out]
        exact Nat.le_trans (Nat.le_of_eq (mk_size _)) (boolL_len c.null)
      have z1 : s1.size ≤ 21 := by
        rw [← hs1.out]
        exact Nat.le_trans (Nat.le_of_eq (mk_size _)) (Lib.itoa_length_le c.n HF.out.1 (by have := HF.out.2; omega))
      have z2 : s2.size ≤ 21 := by
        rw [← hs2.out]
        exact Nat.le_trans (Nat.le_of_eq (mk_size _)) (Lib.itoa_length_le (c.s.size : Int) (by omega) (by have := HS.out; omega))
      have z3 := HS.out
      have hcell : Hid ((s0 ++ ⟨#[32]⟩ ++ s1 ++ ⟨#[32]⟩ ++ s2 ++ ⟨#[32]⟩ ++ c.s).data.toList = cellL c) := by
        rw [← hs0.out, ← hs1.out, ← hs2.out]
        exact hide (cell_str c)
      have C1 := hide (fun p : Later W1 => bool_run c.null p.world)
      have C2 := hide (fun p : Later W1 => format_run c.n HF.out.1 (by have := HF.out.2; omega) p.world (HP.out _ (HO1.out.trans p.old)))
      have C3 := hide (fun p : Later W1 => itoa_run (c.s.size : Int) (by omega) (by have := HS.out; omega) p.world (HP.out _ (HO1.out.trans p.old)))
      rw [hs0.out] at C1
      rw [hs1.out] at C2
      rw [hs2.out] at C3
      rw [hW1.out]
      refine region_later_tail 18 (by kernel_rfl) (by kernel_rfl) ?_
      simp only [List.take_succ_cons, List.take_zero, List.drop_succ_cons, List.drop_zero]
      repeat (go_big_quiet_step (first | (go_at_call 82; exact Later.call (C1.out _)) | (go_at_call 83; exact Later.call (C2.out _)) | (go_at_call 84; exact Later.call (C3.out _))))
      refine wpQuiet_nil ?_
      rintro wz ⟨⟨_, hwz⟩, rfl⟩
      clear bx0 bx1 bx2 C1 C2 C3
      go_wp2_with fail
      obtain ⟨st, hst⟩ : ∃ st, Hid (s0 ++ ⟨#[32]⟩ ++ s1 ++ ⟨#[32]⟩ ++ s2 ++ ⟨#[32]⟩ ++ c.s = st) := ⟨_, hide rfl⟩
      rw [hst.out] at hcell ⊢
      have hstl : st.size ≤ 150 := by
        have : st.size = st.data.toList.length := by rw [Array.length_toList]; rfl
        rw [this, hcell.out]
        exact cellL_len HF.out HS.out
      have hkl := keyL_take_len HK.out j
      refine (wb_WriteString 136 rfl w.heap.size w.heap.size (keyL (k.take j)) st wz (WBs.old HB1.out hwz) (by omega) (Nat.le_trans HO1.out.size hwz.size)).mono ?_
      rintro e w2 ⟨rfl, h2, k2⟩
      have H2 := hide (show WBs 136 w.heap.size w.heap.size (keyL (k.take (j + 1))) w2 by rw [HT.out, ← hcell.out]; exact h2)
      have O2 := hide (show Old w w2 from Below.trans (HO1.out.trans hwz) k2.below)
      have S2 : w.heap.size + 1 ≤ w2.heap.size := Nat.le_trans hsz1 (Nat.le_trans hwz.size k2.below.size)
      clear h2 k2 hwz
      go_wp2_with fail
      go_roundw
      case rel => exact ⟨j + 1, by go_num, by omega, H2, O2, S2⟩
      case measure => simp [intOf]; omega
    · have hjk : j = k.length := by omega
      have HB2 := hide (show WBs 136 w.heap.size w.heap.size (keyL k) wr by
        have := HB.out
        rw [List.take_of_length_le (by omega)] at this
        exact this)
      clear HB
      go_wp2_with fail
      refine (Tryz.Builder_String_any_k w.heap.size w.heap.size (keyL k) _ HB2.out (by omega)).mono ?_
      rintro e w2 ⟨rfl, -, h2, -⟩
      have O2 := hide (Below.trans HO.out h2)
      clear h2
      go_wp2_with fail
      go_ret
      exact ⟨rfl, O2.out⟩
end Go.Proofs.YtmfbblcipakaiaaGreatDoor
