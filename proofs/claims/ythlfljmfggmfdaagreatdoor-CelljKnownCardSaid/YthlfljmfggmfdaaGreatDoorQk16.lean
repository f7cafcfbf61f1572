/-  -/
import Derived.Test.YthlfljmfggmfdaaGreatDoorQk12
import Derived.Test.YthlfljmfggmfdaaGreatDoorQk15
import Derived.Test.YthlfljmfggmfdaaGreatDoorQk09
/-! ###  -/
namespace Go.Proofs.YthlfljmfggmfdaaGreatDoor
open Go.RowKit
def xT (l : List UInt8) : ByteArray := ⟨(120 :: l).toArray⟩
theorem index_dI (b : UInt8) : Lib.indexByte HexS.data.toList b = dI b := by
 have key : ∀ n : _root_.Fin 256, Lib.indexByte HexS.data.toList (UInt8.ofNat n.val) = dI (UInt8.ofNat n.val) := by decide +kernel
 have h := key ⟨b.toNat, b.toNat_lt⟩
 rwa [UInt8.ofNat_toNat] at h
theorem index_runC (b : UInt8) (w : World) : Calls Tryz.prog 186 #[.string HexS, .int .u8 (b.toNat : Int)] w fun e w' => e = .returned (.int .i64 (dI b)) ∧ w' = w := by
 have h := Tryz.strings_IndexByte HexS (b.toNat : Int) w
 rwa [show ((b.toNat : Int)).toNat.toUInt8 = b by simp, index_dI] at h
theorem prefix_run (l : List UInt8) (w : World) : Calls Tryz.prog 230 #[.string (xT l), .string ⟨#[120]⟩] w (Ret (.bool true) w) := by
 have h1 : ¬ ((xT l).size : Int) < 1 := by
  have : (xT l).size = l.length + 1 := by simp [xT, ByteArray.size]
  omega
 have h2 : (xT l).extract 0 1 = ⟨#[120]⟩ := by
  apply bytesD_ext
  simp [xT]
 have h3 : (1 : Int) ≤ ((xT l).size : Int) := by omega
 generalize xT l = X at *
 unfold Ret
 go_enter Tryz.func230, Tryz.ntmps230
 go_wp2_with fail
 go_ret
 exact ⟨rfl, Old.refl _⟩
theorem cutp_run (l : List UInt8) (w : World) : Calls Tryz.prog 212 #[.string (xT l), .string ⟨#[120]⟩] w (Ret (.tuple #[.string ⟨l.toArray⟩, .bool true]) w) := by
 have CP := hide (fun w' => prefix_run l w')
 have h1 : ¬ ((xT l).size : Int) < 1 := by
  have : (xT l).size = l.length + 1 := by simp [xT, ByteArray.size]
  omega
 have h2 : (xT l).extract 1 (xT l).size = ⟨l.toArray⟩ := by
  apply bytesD_ext
  simp [xT, ByteArray.size]
 unfold Ret at *
 generalize xT l = X at *
 go_enter Tryz.func212, Tryz.ntmps212
 go_wp2_with fail
 refine (CP.out _).mono ?_
 rintro e w1 ⟨rfl, o1⟩
 go_wp2_with fail
 go_ret2
 exact ⟨rfl, o1⟩
theorem cut_runC (l : List UInt8) (w : World) : Calls Tryz.prog 185 #[.string (xT l), .string ⟨#[120]⟩] w (Ret (.tuple #[.string ⟨l.toArray⟩, .bool true]) w) := by
 have CP := hide (fun w' => cutp_run l w')
 unfold Ret at *
 go_enter Tryz.func185, Tryz.ntmps185
 go_wp2_with fail
 refine (CP.out _).mono ?_
 rintro e w1 ⟨rfl, o1⟩
 go_wp2_with fail
 go_ret2
 exact ⟨rfl, o1⟩
theorem max_dI (b : UInt8) : max (0 : Int) (dI b) = (nib b : Int) := by
 unfold dI nib
 cases hexV? b with
 | none => rfl
 | some n => simp
theorem or_nib {x y : Nat} (hx : x < 16) (hy : y < 16) : IntKind.u8.wrap (bits BinOp.or IntKind.i64 (IntKind.i64.wrap ((x : Int) * 16)) (y : Int)) = ((x * 16 + y).toUInt8.toNat : Int) := by
 have key : ∀ x y : _root_.Fin 16, IntKind.u8.wrap (bits BinOp.or IntKind.i64 (IntKind.i64.wrap ((x.val : Int) * 16)) (y.val : Int)) = ((x.val * 16 + y.val).toUInt8.toNat : Int) := by decide +kernel
 exact key ⟨x, hx⟩ ⟨y, hy⟩
def CBox (w : World) (b : Nat) (c : Cell) : Prop := w.heap[b]? = some (.cells #[.bool c.null, .int .i64 c.n, .string c.s] 38)
section
variable {w w' : World} {b : Nat} {c : Cell}
theorem CBox.old (h : CBox w b c) (o : Old w w') : CBox w' b c := (o.block _ (block_lt h)).trans h
theorem CBox.cells (h : CBox w b c) : w.cell? ⟨b, 0, none⟩ = some (.bool c.null) ∧ w.cell? ⟨b, 1, none⟩ = some (.int .i64 c.n) ∧ w.cell? ⟨b, 2, none⟩ = some (.string c.s) := ⟨(cell_of_heap h).trans rfl, (cell_of_heap h).trans rfl, (cell_of_heap h).trans rfl⟩
theorem CBox.free (h : CBox w b c) : ∀ j, w.frozen? ⟨b, j, none⟩ = false := fun j => by unfold CBox at h; simp [World.frozen?, h]
theorem set3_heap (h : CBox w b c) (v0 v1 v2 : Value) : (((w.setCell ⟨b, 0, none⟩ v0).setCell ⟨b, 1, none⟩ v1).setCell ⟨b, 2, none⟩ v2).heap[b]? = some (.cells #[v0, v1, v2] 38) := by
 unfold CBox at h
 simp [World.setCell, Array.getElem?_modify, h]
end
theorem cellSize : (Tryz.prog.info? 38).map (·.size) = some 3 := by kernel_rfl
abbrev sizeS : Value → Nat
 | .string t => t.size
 | _ => 0
set_option maxRecDepth 100000 in
set_option maxHeartbeats 4000000 in
theorem unhex_run (l : List UInt8) (hl : l.length ≤ 1073741824) (w : World) : Calls Tryz.prog 147 #[.string (xT l)] w (Ret (Cl ⟨false, 0, ⟨(unhexP l).toArray⟩⟩) w) := by
 have CC := hide (fun w' => cut_runC l w')
 unfold Ret Cl at *
 go_enter Tryz.func147, Tryz.ntmps147
 go_wp2_with fail
 refine (CC.out _).mono ?_
 rintro e w1 ⟨rfl, o1⟩
 have O1 := hide (Old.trans (Old.alloc (Old.refl w) _) o1)
 have HB1 := hide (show CBox w1 w.heap.size ⟨false, 0, ⟨#[]⟩⟩ from (o1.block _ (by simp)).trans (heap_alloc_new _ _))
 clear o1 CC
 go_wp2_with fail
 go_loopw [0, 3] (fun sv ov wr => ∃ a b : List UInt8, sv = .string ⟨b.toArray⟩ ∧ Hid (l = a ++ b) ∧ Hid (a.length % 2 = 0) ∧ Hid (a = [] → ov = .slice none 0 0) ∧ Hid (BysOwn w1.heap.size wr ov (unhexP a)) ∧ Hid (Old w1 wr)) (fun sv _ _ => sizeS sv)
 case atStart => exact ⟨[], l, rfl, hide rfl, hide rfl, hide (fun _ => rfl), hide ⟨by simp [unhexP, Lib.byteCells], .inl ⟨rfl, rfl⟩⟩, hide (Old.refl _)⟩
 case round =>
  obtain ⟨a, b, rfl, HL, HA, HZ, HBO, HO⟩ := hrel
  by_cases hlt : 1 < b.length
  · obtain ⟨x, y, b', rfl⟩ : ∃ x y b', b = x :: y :: b' := by
     match b, hlt with
     | x :: y :: b', _ => exact ⟨x, y, b', rfl⟩
     | [_], h => simp at h
     | [], h => simp at h
    obtain ⟨T, hT⟩ : ∃ T, Hid ((⟨(x :: y :: b').toArray⟩ : ByteArray) = T) := ⟨_, hide rfl⟩
    have HTs := hide (show T.size = b'.length + 2 by rw [← hT.out]; simp [ByteArray.size])
    have n0 : 0 < T.size := by have := HTs.out; omega
    have n1 : 1 < T.size := by have := HTs.out; omega
    have ht1 : (1 : Int) < (T.size : Int) := by omega
    have ht0 : (0 : Int) < (T.size : Int) := by omega
    have ht2 : ¬ (T.size : Int) < 2 := by omega
    have hg0 := get_at T n0
    have hg1 := get_at T n1
    rw [show T.get! 0 = x by rw [← hT.out]; rfl] at hg0
    rw [show T.get! 1 = y by rw [← hT.out]; rfl] at hg1
    have hsl : T.extract 2 T.size = ⟨b'.toArray⟩ := by
     rw [← hT.out]
     apply bytesD_ext
     simp [ByteArray.size]
    have hms := hide (show (⟨b'.toArray⟩ : ByteArray).size < T.size by rw [HTs.out]; simp [ByteArray.size])
    rw [hT.out]
    have C1 := hide (fun w' => index_runC x w')
    have C2 := hide (fun w' => index_runC y w')
    have hx := max_dI x
    have hy := max_dI y
    have HLEN := hide (show (unhexP a).length + [(nib x * 16 + nib y).toUInt8].length ≤ 140737488355328 by
     have := congrArg List.length HL.out
     rw [unhexP_len]
     simp at this ⊢
     omega)
    have ho := HO.out
    go_wp2_with fail
    go_region_held3 (fun w' => Old w1 w')
     (first | assumption | (exact Old.drew ho) | (exact Old.alloc (Old.drew ho) _) | (exact Below.trans (Old.alloc (Old.drew ho) _) kept7) | (fail "none"))
     (first
       | (go_at_call 186; (with_reducible refine (C1.out _).mono ?_); rintro e wa ⟨rfl, rfl⟩)
       | (go_at_call 186; (with_reducible refine (C2.out _).mono ?_); rintro e wb ⟨rfl, rfl⟩)
       | (refine push_bys _ _ _ rfl w1.heap.size _ (unhexP a) rfl (own_old HBO.out (Old.alloc (Old.drew (Old.refl _)) _)) _ [(nib x * 16 + nib y).toUInt8] rfl (bys_lit _ [(nib x * 16 + nib y).toUInt8] _ (by rw [Lib.byteCells, List.map_cons, List.map_nil, ← or_nib (nib_lt x) (nib_lt y)]) (by simp)) HLEN.out (HO.out.drew.alloc _).size ?_; intro v7 w7 own7 kept7)
       | (fail "none"))
    all_goals
     have hap : unhexP a ++ [(nib x * 16 + nib y).toUInt8] = unhexP (a ++ [x, y]) := by rw [unhexP_append a [x, y] HA.out]; rfl
     rw [hap] at own7
     have OW7 := hide own7
     have O7 := hide (show Old w1 w7 by assumption)
     have HLN := hide (show l = (a ++ [x, y]) ++ b' by rw [HL.out]; simp)
     have HAN := hide (show (a ++ [x, y]).length % 2 = 0 by have := HA.out; simp; omega)
     clear own7 kept7 hap
     go_wp2_with fail
     go_roundw
     case rel => exact ⟨a ++ [x, y], b', rfl, HLN, HAN, hide (fun h => by simp at h), OW7, O7⟩
     case measure => exact hms.out
  · have hbl : ¬ (1 : Int) < (((⟨b.toArray⟩ : ByteArray).size : Nat) : Int) := by simp [ByteArray.size]; omega
    have hfin : unhexP l = unhexP a := by
     rw [HL.out, unhexP_append a b HA.out]
     match b, hlt with
     | [], _ => simp [unhexP]
     | [_], _ => simp [unhexP]
     | _ :: _ :: _, h => simp at h
    have hcv := conv_bys HBO.out (fun h => HZ.out (by
     have := congrArg List.length h
     rw [unhexP_len] at this
     have h2 := HA.out
     exact List.eq_nil_of_length_eq_zero (by simp at this; omega)))
    have HF := hide hfin
    clear hfin
    obtain ⟨T, hT⟩ : ∃ T, Hid ((⟨b.toArray⟩ : ByteArray) = T) := ⟨_, hide rfl⟩
    rw [hT.out] at hbl ⊢
    have hbx := HB1.out.old HO.out
    obtain ⟨y0, y1, y2⟩ := hbx.cells
    have fz := hbx.free
    go_wp2_with fail
    refine bodyPost_ret (results_cell_row rfl _ _ w.heap.size _ _ _ _ rfl (set3_heap hbx _ _ _) Tryz.underlying38 rfl cellSize) rfl ?_
    exact ⟨by rw [HF.out], Old.setCell (Old.setCell (Old.setCell (Old.trans O1.out HO.out) (Nat.le_refl _) _) (Nat.le_refl _) _) (Nat.le_refl _) _⟩
end Go.Proofs.YthlfljmfggmfdaaGreatDoor

/-! ###  -/
namespace Go.Proofs.YthlfljmfggmfdaaGreatDoor
open Go.RowKit
def AllMay (pl : List (List Nd)) (js : List J) : Prop := pl.length = js.length ∧ ∀ i, (h : i < pl.length) → (h' : i < js.length) → May pl[i] js[i]
theorem allMay_of : ∀ {pl : List (List Nd)}, (∀ i : Nat, (h : i < pl.length) → chkT pl[i] = 0) → ∃ js, AllMay pl js
 | [], _ => ⟨[], rfl, fun i h => absurd h (by simp)⟩
 | p :: pl, h => by
   obtain ⟨j, hj⟩ := may_of (show chkT p = 0 from h 0 (by simp))
   obtain ⟨js, h1, h2⟩ := allMay_of (pl := pl) (fun i hi => by have := h (i + 1) (by simpa using hi); simpa using this)
   refine ⟨j :: js, by simp [h1], fun i hi hi' => ?_⟩
   cases i with
   | zero => exact hj
   | succ i => exact h2 i (by simpa using hi) (by simpa using hi')
end Go.Proofs.YthlfljmfggmfdaaGreatDoor

/-! ###  -/
namespace Go.Proofs.YthlfljmfggmfdaaGreatDoor
open Go.RowKit
def objErr (ks : List ByteArray) (pl : List (List Nd)) (i : Nat) : Int :=
 if vU (ks.getD i none_) = false then 40 else if hasKey (ks.take i) (ks.getD i none_) = true then 71 else chkT (pl.getD i [])
def ObjT (ks : List ByteArray) (pl : List (List Nd)) (out : List Nd) (e : Int) : Prop :=
 (ks.length ≠ pl.length ∧ out = [] ∧ e = 2) ∨ (ks.length = pl.length ∧
   ((∃ i, i < pl.length ∧ (∀ j, j < i → objErr ks pl j = 0) ∧ objErr ks pl i ≠ 0 ∧ e = objErr ks pl i ∧ out = []) ∨ ((∀ j, j < pl.length → objErr ks pl j = 0) ∧ ∃ js, AllMay pl js ∧ WholeT 7 (rekeys ks js) out e)))
theorem getD_at {α : Type} {l : List α} {i : Nat} (h : i < l.length) (d : α) : l.getD i d = l[i] := by simp [List.getD, List.getElem?_eq_getElem h]
theorem objErr_40 {ks : List ByteArray} {pl : List (List Nd)} {i : Nat} (h : i < ks.length) (hv : vU ks[i] = false) : objErr ks pl i = 40 := by
 unfold objErr
 rw [getD_at h, if_pos hv]
theorem objErr_71 {ks : List ByteArray} {pl : List (List Nd)} {i : Nat} (h : i < ks.length) (hv : vU ks[i] = true) (hh : hasKey (ks.take i) ks[i] = true) : objErr ks pl i = 71 := by
 unfold objErr
 rw [getD_at h, if_neg (by rw [hv]; decide), if_pos hh]
theorem objErr_chk {ks : List ByteArray} {pl : List (List Nd)} {i : Nat} (h : i < ks.length) (h' : i < pl.length) (hv : vU ks[i] = true) (hh : hasKey (ks.take i) ks[i] = false) : objErr ks pl i = chkT pl[i] := by
 unfold objErr
 rw [getD_at h, getD_at h', if_neg (by rw [hv]; decide), if_neg (by rw [hh]; decide)]
theorem obj_first {ks : List ByteArray} {pl : List (List Nd)} {out : List Nd} {e c : Int} {k : Nat} (h : ObjT ks pl out e) (hl : ks.length = pl.length) (hk : k < pl.length) (hq : ∀ j, j < k → objErr ks pl j = 0) (hc : objErr ks pl k = c) (h0 : c ≠ 0) : out = [] ∧ e = c := by
 rcases h with ⟨h, _⟩ | ⟨_, ⟨i, hi, h1, h2, h3, h4⟩ | ⟨h1, _⟩⟩
 · exact absurd hl h
 · have : i = k := by
    rcases Nat.lt_trichotomy i k with h | h | h
    · exact absurd (hq i h) h2
    · exact h
    · exact absurd (hc.symm.trans (h1 k h)) h0
   subst this
   exact ⟨h4, h3.trans hc⟩
 · exact absurd (hc.symm.trans (h1 k hk)) h0
set_option maxRecDepth 100000 in
set_option maxHeartbeats 1000000 in
theorem obj_run (kv v : Value) (ks : List ByteArray) (pl : List (List Nd)) (out : List Nd) (er : Int) (w : World) (hkv : TextsIs w kv ks) (hks : ∀ s ∈ ks, s.size ≤ maxLen) (hp : PartsIs w v pl) (htx : ∀ p ∈ pl, TextsOk p) (hT : Tabs w) (hl : ObjT ks pl out er) :
 Calls Tryz.prog 27 #[kv, v] w (NewNodesE w out er) := by
 have HP := hide hp
 have HKV := hide hkv
 have HKS := hide hks
 have HTX := hide htx
 have HT := hide hT
 have HL := hide hl
 obtain ⟨A, ca, rfl, hla, hma, hc⟩ := hp.open_
 obtain ⟨Bk, cb, rfl, hlb, hmb, hb⟩ := hkv.texts
 unfold maxLen at hma hmb
 have HC := hide hc
 have HB := hide hb
 clear hp hkv hks hc hb htx hT hl
 by_cases hn : ks.length = pl.length
 · have HN := hide hn
   have hn' : ((ks.length : Int) != (pl.length : Int)) = false := by simp [hn]
   have hl1 : ks.length ≤ pl.length := by omega
   have hl2 : pl.length ≤ ks.length := by omega
   clear hn
   obtain ⟨W1, hW1⟩ : ∃ W, Hid (w.alloc (.cells #[.slice Bk ks.length cb] 52) = W) := ⟨_, hide rfl⟩
   have O1 := hide (show Old w W1 by rw [← hW1.out]; exact (Old.refl w).alloc _)
   have B1 := hide (show W1.cell? ⟨w.heap.size, 0, none⟩ = some (.slice Bk ks.length cb) by rw [← hW1.out]; go_simp)
   have hmm := @run_makeMap Tryz.prog
   go_enter Tryz.func27, Tryz.ntmps27
   go_wp2_with fail
   go_loopw [20] (fun i wr => ∃ k : Nat, i = .int .i64 k ∧ k ≤ pl.length ∧ Hid (∀ j : Nat, j < k → objErr ks pl j = 0) ∧ Hid (Keys wr (w.heap.size + 1) (ks.take k)) ∧ Hid (Old W1 wr)) (fun i _ => pl.length - (intOf i).toNat)
   case atStart => exact ⟨0, rfl, by omega, hide (by intro j h; omega), hide (by have := keys_new W1; rw [← hW1.out] at this; simpa using this), hide (by rw [← hW1.out]; exact (Old.refl _).alloc _)⟩
   case round =>
    clear hmm
    obtain ⟨k, rfl, hk, HQ, HKEYS, HO⟩ := hrel
    have HOW := hide (Old.trans O1.out HO.out)
    by_cases hlt : k < pl.length
    · have hltk : k < ks.length := by omega
      obtain ⟨bk, ok, rfl, hkc⟩ := HB.out.resolve_left (by omega)
      obtain ⟨bp, op, rfl, hpc⟩ := HC.out.resolve_left (by omega)
      obtain ⟨A', c', x0, x1, x2, x3⟩ := hpc k hlt
      have X0 := hide x0
      have XN := hide x3
      have e0 := HOW.out.cell (hkc k hltk)
      obtain ⟨s, hs⟩ : ∃ s, Hid (ks[k] = s) := ⟨_, hide rfl⟩
      rw [hs.out] at e0
      have HSZ := hide (show s.size ≤ maxLen by rw [← hs.out]; exact HKS.out _ (List.getElem_mem hltk))
      have HPT := hide (HTX.out _ (List.getElem_mem hlt))
      have CV := hide (utf_Valid s wr (by have := HSZ.out; unfold maxLen at this; omega) (HT.out.old HOW.out))
      have CC := hide (show ∀ w', Old w w' → Calls Tryz.prog 44 #[.slice A' pl[k].length c'] w' fun e w2 => e = .returned (.int .i64 (chkT pl[k])) ∧ Old w' w2 from fun w' ho => check_run _ _ w' (XN.out.old ho) HPT.out (HT.out.old ho))
      unfold maxLen at x2
      clear hkc hpc x0 x3
      cases hv : vU s
      · rw [hv] at CV
        have FIN := hide (obj_first HL.out (by omega) hlt HQ.out (objErr_40 hltk (by rw [hs.out]; exact hv)) (by decide))
        clear hv
        go_wp2_with fail
        refine CV.out.mono ?_
        rintro e w2 ⟨rfl, o2⟩
        have O2 := hide (Old.trans HOW.out o2)
        clear o2 e0
        go_wp2_with fail
        go_ret2
        exact ⟨_, by rw [FIN.out.2]; rfl, by rw [FIN.out.1]; exact SlT.nil_ _, O2.out⟩
      · rw [hv] at CV
        have HV := hide hv
        clear hv
        cases hh : hasKey (ks.take k) s
        · have HH := hide hh
          clear hh
          have OE := hide (objErr_chk (pl := pl) hltk hlt (by rw [hs.out]; exact HV.out) (by rw [hs.out]; exact HH.out))
          obtain ⟨c, hc⟩ : ∃ c, Hid (chkT pl[k] = c) := ⟨_, hide rfl⟩
          rw [hc.out] at OE CC
          have hn63 : (ks.take k).length < maxLen := by rw [List.length_take]; unfold maxLen; omega
          go_wp2_with fail
          refine CV.out.mono ?_
          rintro e w2 ⟨rfl, o2⟩
          have K2 := hide (HKEYS.out.old o2)
          have O2 := hide (Old.trans HO.out o2)
          clear o2 e0
          go_upto_region 13 with (first
           | (at_lookup; refine wpList_look_keysC _ rfl _ _ 105 rfl Tryz.underlying105 _ (ks.take k) rfl K2.out s rfl HSZ.out false HH.out ?_; intro c0)
           | (at_mapUpdate; refine wpList_put_keys _ rfl _ _ _ 105 rfl Tryz.underlying105 _ (ks.take k) rfl K2.out hn63 s rfl HSZ.out k rfl (WalkArith.wf_i64 (by omega)) ?_; intro w3 K3 G3))
          have O3 := hide (grown_old O2.out G3 (by rw [← hW1.out]; simp))
          have HK3 := hide K3
          have OW3 := hide (Old.trans O1.out O3.out)
          have x0 := OW3.out.cell X0.out
          clear K3 G3 hn63
          by_cases h0 : c = 0
          · subst h0
            go_wp2_with fail
            refine (CC.out _ OW3.out).mono ?_
            rintro e w4 ⟨rfl, o4⟩
            have O4 := hide (Old.trans O3.out o4)
            have HK4 := hide (HK3.out.old o4)
            clear o4 x0
            have HQ2 := hide (show ∀ j : Nat, j < k + 1 → objErr ks pl j = 0 from fun j hjk => by
             rcases Nat.lt_or_ge j k with h | h
             · exact HQ.out j h
             · have : j = k := by omega
               subst this
               exact OE.out)
            have HTK := hide (show ks.take (k + 1) = ks.take k ++ [s] by rw [List.take_succ_eq_append_getElem hltk, hs.out])
            go_wp2_with fail
            go_roundw
            case rel => exact ⟨k + 1, by go_num, by omega, HQ2, hide (by rw [HTK.out]; exact HK4.out), O4⟩
            case measure => simp [intOf]; omega
          · have h0' : (c != 0) = true := by simpa using h0
            have FIN := hide (obj_first HL.out (by omega) hlt HQ.out OE.out h0)
            clear h0
            go_wp2_with fail
            refine (CC.out _ OW3.out).mono ?_
            rintro e w4 ⟨rfl, o4⟩
            have O4 := hide (Old.trans OW3.out o4)
            clear o4 x0
            go_wp2_with fail
            go_ret2
            exact ⟨_, by rw [FIN.out.2]; rfl, by rw [FIN.out.1]; exact SlT.nil_ _, O4.out⟩
        · have HH := hide hh
          clear hh
          have FIN := hide (obj_first HL.out (by omega) hlt HQ.out (objErr_71 hltk (by rw [hs.out]; exact HV.out) (by rw [hs.out]; exact HH.out)) (by decide))
          go_wp2_with fail
          refine CV.out.mono ?_
          rintro e w2 ⟨rfl, o2⟩
          have K2 := hide (HKEYS.out.old o2)
          have O2 := hide (Old.trans HOW.out o2)
          clear o2 e0
          go_wp2_with (at_lookup; refine wpList_look_keysC _ rfl _ _ 105 rfl Tryz.underlying105 _ (ks.take k) rfl K2.out s rfl HSZ.out true HH.out ?_; intro c0)
          go_ret2
          exact ⟨_, by rw [FIN.out.2]; rfl, by rw [FIN.out.1]; exact SlT.nil_ _, O2.out⟩
    · have CW := hide (show Calls Tryz.prog 67 #[.int .i64 7, .func (.func 68) #[] #[.pointer (some ⟨w.heap.size, 0, none⟩)], .slice A pl.length ca] wr (NewNodesE wr out er) by
       rcases HL.out with ⟨h, _⟩ | ⟨hl, ⟨i, hi, h1, h2, h3, h4⟩ | ⟨h1, js, hj, hw⟩⟩
       · omega
       · exact absurd (HQ.out i (by omega)) h2
       · exact whole_obj _ pl js ks out er wr w.heap.size _ (HO.out.cell B1.out) (HKV.out.old HOW.out) (HP.out.old HOW.out) hj.1 (hl.trans hj.1) hj.2 HTX.out (HT.out.old HOW.out) hw)
      go_wp2_with fail
      refine CW.out.mono ?_
      rintro e w2 ⟨v1, rfl, h1, o1⟩
      have H1 := hide (h1.mono HOW.out.size)
      have O2 := hide (Old.trans HOW.out o1)
      clear h1 o1
      go_wp2_with fail
      go_ret2
      exact ⟨_, rfl, H1.out, O2.out⟩
 · have hn' : ((ks.length : Int) != (pl.length : Int)) = true := bne_iff_ne.2 (by omega)
   have FIN := hide (show out = [] ∧ er = 2 by
    rcases HL.out with ⟨_, h1, h2⟩ | ⟨h, _⟩
    · exact ⟨h1, h2⟩
    · exact absurd h hn)
   clear hn
   go_enter Tryz.func27, Tryz.ntmps27
   go_wp2_with fail
   go_ret2
   exact ⟨_, by rw [FIN.out.2]; rfl, by rw [FIN.out.1]; exact SlT.nil_ _, (Old.refl w).alloc _⟩
end Go.Proofs.YthlfljmfggmfdaaGreatDoor

/-! ###  -/
namespace Go.Proofs.YthlfljmfggmfdaaGreatDoor
open Go.RowKit
def PartsOwn (base : Nat) (w : World) (v : Value) (ps : List (List Nd)) : Prop :=
 ∃ vs : List Value, vs.length = ps.length ∧ w.ownsRow base 24 1 v ps.length vs ∧ ∀ i, (h : i < ps.length) → (h' : i < vs.length) → NodesT base w vs[i] ps[i]
abbrev TextsOwn (base : Nat) (w : World) (v : Value) (l : List ByteArray) : Prop := w.ownsRow base 9 1 v l.length (l.map Value.string)
theorem PartsOwn.old {base : Nat} {w w' : World} {v : Value} {ps : List (List Nd)} (h : PartsOwn base w v ps) (k : Old w w') : PartsOwn base w' v ps := by
 obtain ⟨vs, h1, h2, h3⟩ := h
 exact ⟨vs, h1, own_old h2 k, fun i hi hi' => (h3 i hi hi').old k⟩
theorem PartsOwn.is {base : Nat} {w : World} {v : Value} {ps : List (List Nd)} (h : PartsOwn base w v ps) : PartsIs w v ps := by
 obtain ⟨vs, h1, h2, h3⟩ := h
 exact ⟨vs, h1, (SlT.of_own h2).sl, fun i hi hi' => (h3 i hi hi').sl⟩
theorem own_nil (base T size : Nat) (w : World) : w.ownsRow base T size (.slice none 0 0) 0 [] := ⟨by simp, .inl ⟨rfl, rfl⟩⟩
theorem PartsOwn.nil_ (base : Nat) (w : World) : PartsOwn base w (.slice none 0 0) [] := ⟨[], rfl, own_nil _ _ _ _, fun i hi => absurd hi (by simp)⟩
theorem TextsOwn.is {base : Nat} {w : World} {v : Value} {l : List ByteArray} (h : TextsOwn base w v l) : TextsIs w v l := (SlT.of_own h).sl
theorem Kept.own {T T' base base' size n : Nat} {w w' : World} {v : Value} {xs : List Value} (k : Kept T base w w') (h : w.ownsRow base' T' size v n xs) (hne : T' ≠ T) : w'.ownsRow base' T' size v n xs := by
 obtain ⟨hl, h2⟩ := h
 refine ⟨hl, ?_⟩
 rcases h2 with h2 | ⟨g, cap, cur, rfl, hb, hh, r⟩
 · exact .inl h2
 · exact .inr ⟨g, cap, cur, rfl, hb, k.other _ _ _ _ hh hne, r⟩
theorem PartsOwn.kept {T base base' : Nat} {w w' : World} {v : Value} {ps : List (List Nd)} (h : PartsOwn base' w v ps) (k : Kept T base w w') (h1 : 24 ≠ T) (h2 : 36 ≠ T) : PartsOwn base' w' v ps := by
 obtain ⟨vs, g1, g2, g3⟩ := h
 exact ⟨vs, g1, k.own g2 h1, fun i hi hi' => k.slT (g3 i hi hi') h2⟩
theorem partInfo : (Tryz.prog.info? 24).map (fun i => (i.zero, i.size, i.bytes)) = some (some (.slice none 0 0), 1, 24) := by kernel_rfl
theorem textInfo : (Tryz.prog.info? 9).map (fun i => (i.zero, i.size, i.bytes)) = some (some (.string ⟨#[]⟩), 1, 16) := by kernel_rfl
theorem step_push_part {o : Oper} {a : Act} {K : Act → World → Prop} {Q : Exit → Act → World → Prop} (w : World) (s x : Operand)
 (ho : o.op = .call { callee := .builtin .append, args := #[s, x], argTypes := #[60, 60] })
 (base : Nat) (v : Value) (ps : List (List Nd)) (hs : a.eval s = v) (hown : PartsOwn base w v ps) (g cap : Nat) (pv : Value) (p : List Nd) (hx : a.eval x = .slice (some ⟨g, 0, none⟩) 1 cap) (h0 : w.cell? ⟨g, 0, none⟩ = some pv)
 (hp : NodesT base w pv p) (hlen : ps.length + 1 ≤ 4194304) (hbase : base ≤ w.heap.size)
 (h : ∀ v' w', PartsOwn base w' v' (ps ++ [p]) → Kept 24 base w w' → K (a.put o.dst v') w') : o.wp Tryz.prog a w K Q := by
 obtain ⟨i0, hi, hz0, hz1, hz2⟩ := info_parts partInfo
 obtain ⟨vs, g1, g2, g3⟩ := hown
 refine wp_append_own w s x 60 ho base 24 i0 (.slice none 0 0) 1 24 Tryz.underlying60 hi hz0 hz1 hz2 rfl (by omega) v ps.length vs hs g2 ⟨g, 0, none⟩ 1 cap [pv] hx rfl ?_ ?_ (by unfold maxLen; omega) (by omega) hbase ?_
 · intro j u hu
   match j, hu with
   | 0, hu => simp at hu; subst hu; exact h0
   | j + 1, hu => simp at hu
 · intro u hu
   simp at hu
   subst hu
   obtain ⟨A, c, rfl, _⟩ := hp
   rfl
 · intro v' w' own' hg _
   have k := Kept.of_grown g2 hg hbase
   refine h v' w' ⟨vs ++ [pv], by simp [g1], ?_, fun i hi hi' => ?_⟩ k
   · rw [List.length_append]; exact own'
   · rcases Nat.lt_or_ge i ps.length with hl | hl
     · rw [List.getElem_append_left (by omega), List.getElem_append_left hl]
       exact k.slT (g3 i hl (by omega)) (by decide)
     · have e1 : (ps ++ [p])[i] = p := by
        rw [List.getElem_append_right hl]
        simp
       have e2 : (vs ++ [pv])[i] = pv := by
        rw [List.getElem_append_right (by omega)]
        simp
       rw [e1, e2]
       exact k.slT hp (by decide)
theorem step_push_text {o : Oper} {a : Act} {K : Act → World → Prop} {Q : Exit → Act → World → Prop} (w : World) (s x : Operand)
 (ho : o.op = .call { callee := .builtin .append, args := #[s, x], argTypes := #[52, 52] })
 (base : Nat) (v : Value) (l : List ByteArray) (hs : a.eval s = v) (hown : TextsOwn base w v l) (g cap : Nat) (k : ByteArray) (hx : a.eval x = .slice (some ⟨g, 0, none⟩) 1 cap) (h0 : w.cell? ⟨g, 0, none⟩ = some (.string k))
 (hlen : l.length + 1 ≤ 4194304) (hbase : base ≤ w.heap.size)
 (h : ∀ v' w', TextsOwn base w' v' (l ++ [k]) → Kept 9 base w w' → K (a.put o.dst v') w') : o.wp Tryz.prog a w K Q := by
 obtain ⟨i0, hi, hz0, hz1, hz2⟩ := info_parts textInfo
 refine wp_append_own w s x 52 ho base 9 i0 (.string ⟨#[]⟩) 1 16 Tryz.underlying52 hi hz0 hz1 hz2 rfl (by omega) v l.length (l.map Value.string) hs hown ⟨g, 0, none⟩ 1 cap [.string k] hx rfl ?_ ?_ (by unfold maxLen; omega) (by omega) hbase ?_
 · intro j u hu
   match j, hu with
   | 0, hu => simp at hu; subst hu; exact h0
   | j + 1, hu => simp at hu
 · intro u hu
   simp at hu
   subst hu
   rfl
 · intro v' w' own' hg _
   refine h v' w' ?_ (Kept.of_grown hown hg hbase)
   unfold TextsOwn
   rw [List.length_append, List.map_append]
   exact own'
end Go.Proofs.YthlfljmfggmfdaaGreatDoor

/-! ###  -/
namespace Go.Proofs.YthlfljmfggmfdaaGreatDoor
open Go.RowKit
def cutN (n : Int) (s : ByteArray) : ByteArray := s.extract 0 (min (s.size : Int) n).toNat
theorem cutN_size (n : Nat) (s : ByteArray) : (cutN n s).size ≤ n := by
 unfold cutN
 rw [ByteArray.size_extract]
 omega
theorem nodes_form {lo : Nat} {w : World} {v : Value} {l : List Nd} {m : Nat} (h : NodesT lo w v l) (hm : l.length = m) : ∃ A cap, v = .slice A m cap ∧ m ≤ cap ∧ cap ≤ maxLen := by
 obtain ⟨A, cap, rfl, h1, h2, _⟩ := h
 exact ⟨A, cap, by rw [hm], by omega, h2⟩
end Go.Proofs.YthlfljmfggmfdaaGreatDoor

/-! ###  -/
namespace Go.Proofs.YthlfljmfggmfdaaGreatDoor
open Go.RowKit
theorem deeps_len_both : (∀ j : J, j.deep ≤ j.flat.length) ∧ ∀ l : List J, J.deeps l ≤ (J.flats l).length := by
 refine J.both ?_ ?_ ?_
 · intro h l ih
   rw [flat_mk, List.length_cons, J.deep]
   omega
 · simp [J.deeps]
 · intro j l hj hl
   rw [flats_cons, List.length_append, J.deeps]
   omega
theorem drop_part {t : List Nd} {a : Nat} {l1 l2 : List J} {r : List Nd} (e : t.drop a = J.flats (l1 ++ l2) ++ r) : t.drop (a + (J.flats l1).length) = J.flats l2 ++ r := by
 rw [← List.drop_drop, e, flats_append, List.append_assoc, List.drop_left' rfl]
theorem drop_kids {t : List Nd} {a : Nat} {h : Hd} {l : List J} {r : List Nd} (e : t.drop a = J.flat (.mk h l) ++ r) : t.drop (a + 1) = J.flats l ++ r := by
 rw [← List.drop_drop, e, flat_mk, List.cons_append, List.drop_succ_cons, List.drop_zero]
set_option maxRecDepth 100000 in
set_option maxHeartbeats 1000000 in
theorem ref_deep (v : Value) (t : List Nd) (w0 : World) (ht : NodesIs w0 v t) (hl : t.length ≤ 4000) : ∀ (n : Nat) (l : List J) (a : Nat) (r : List Nd) (w : World), Old w0 w → (J.flats l).length = n → t.drop a = J.flats l ++ r → a ≤ t.length →
 Calls Tryz.prog 94 #[v, .int .i64 a, .int .i64 ((a + n : Nat) : Int)] w fun e w' => e = .returned (.int .i64 (J.deeps l)) ∧ Old w w' := by
 obtain ⟨A, ca, rfl, hla, hma, hc⟩ := ht.nodes
 unfold maxLen at hma
 have HC := hide hc
 clear ht hc
 intro n
 induction n using Nat.strongRecOn with
 | ind n ih =>
   intro l a r w ho hn hd ha
   have IH := hide ih
   have HD := hide hd
   have HW := hide ho
   have hb : a + n ≤ t.length := by
    have e := congrArg List.length hd
    rw [List.length_append, List.length_drop, hn] at e
    omega
   have HNL := hide hn
   obtain ⟨E, hE⟩ : ∃ E : Nat, Hid (a + n = E) := ⟨_, hide rfl⟩
   rw [hE.out] at hb
   rw [hE.out]
   have HDL := hide (deeps_len_both.2 l)
   clear ih ho hn hd
   go_enter Tryz.func94, Tryz.ntmps94
   go_wp2_with fail
   go_loopw [7, 8] (fun m i wr => ∃ (l1 l2 : List J) (p d : Nat), i = .int .i64 p ∧ m = .int .i64 d ∧ p ≤ E ∧ d ≤ 4000 ∧ Hid (l = l1 ++ l2) ∧ Hid (p = a + (J.flats l1).length) ∧ Hid (J.deeps l1 = d) ∧ Hid (Old w wr)) (fun _ i _ => E - (intOf i).toNat)
   case atStart => exact ⟨[], l, a, 0, rfl, rfl, by have := hE.out; omega, by omega, hide rfl, hide (by simp [J.flats]), hide rfl, hide (Old.refl _)⟩
   case round =>
    obtain ⟨l1, l2, p, d, rfl, rfl, hp, hd4, HL, HP, HDD, HO⟩ := hrel
    cases l2 with
    | nil =>
      have EQ := hide (show l = l1 by rw [HL.out]; simp)
      have hpe : E ≤ p := by have h1 := HP.out; have h2 := HNL.out; have h3 := hE.out; rw [EQ.out] at h2; omega
      go_wp2_with fail
      go_ret
      exact ⟨ret_int (by rw [EQ.out, HDD.out]), HO.out⟩
    | cons j l3 =>
      have HDP : t.drop p = j.flat ++ (J.flats l3 ++ r) := by
       have := HD.out
       rw [HL.out] at this
       rw [HP.out, drop_part this, flats_cons, List.append_assoc]
      obtain ⟨hpt, hpx⟩ := head_flat HDP
      obtain ⟨b1, o1, rfl, hc1⟩ := HC.out.resolve_left (by omega)
      have d4 := (hc1 p hpt).2.2.2.2
      rw [hpx] at d4
      have hq := flat_pos j
      have hsum : p + j.flat.length ≤ E := by
       have h1 := HP.out
       have h2 := HNL.out
       have h3 := hE.out
       rw [HL.out, flats_append, flats_cons, List.length_append, List.length_append] at h2
       omega
      have hjn : j.flat.length ≤ n := by have h1 := HP.out; have h3 := hE.out; omega
      obtain ⟨q, hqq⟩ : ∃ q, Hid (j.flat.length = q + 1) := ⟨j.flat.length - 1, hide (by omega)⟩
      obtain ⟨dj, hdj⟩ : ∃ dj, Hid (j.deep = dj + 1) := ⟨j.deep - 1, hide (by have := deep_pos j; omega)⟩
      have hdj4 : dj ≤ 4000 := by have h1 := deeps_len_both.1 j; have h2 := hqq.out; have h3 := hdj.out; omega
      have CR := hide (show ∀ w', Old w w' → Calls Tryz.prog 94 #[.slice (some ⟨b1, o1, none⟩) t.length ca, .int .i64 ((p : Int) + 1), .int .i64 ((p : Int) + ((q : Int) + 1))] w' fun e w2 => e = .returned (.int .i64 dj) ∧ Old w' w2 from fun w' ho => by
       cases j with
       | mk h kl =>
         have hk := drop_kids HDP
         have hkl : (J.flats kl).length = q := by have := hqq.out; rw [flat_mk, List.length_cons] at this; omega
         have hkd : J.deeps kl = dj := by have := hdj.out; rw [J.deep] at this; omega
         have := IH.out q (by have := hqq.out; omega) kl (p + 1) _ w' (Old.trans HW.out ho) hkl hk (by omega)
         rw [hkd] at this
         have e1 : ((p + 1 : Nat) : Int) = (p : Int) + 1 := by omega
         have e2 : ((p + 1 + q : Nat) : Int) = (p : Int) + ((q : Int) + 1) := by omega
         rwa [e1, e2] at this)
      have e4 : ((j.flat.length : Nat) : Int) = (q : Int) + 1 := by have := hqq.out; omega
      simp only [e4] at d4
      have D4 := hide ((Old.trans HW.out HO.out).cell d4)
      have d4' := D4.out
      have hs2 : p + (q + 1) ≤ E := by have := hqq.out; omega
      have HNEW := hide (show p + (q + 1) = a + (J.flats (l1 ++ [j])).length by have h1 := HP.out; rw [flats_append, flats_one, List.length_append, hqq.out]; omega)
      have HDN := hide (show J.deeps (l1 ++ [j]) = max d (dj + 1) by rw [deeps_append, HDD.out]; simp [J.deeps, hdj.out])
      have hmx : max d (dj + 1) ≤ 4000 := by
       have h1 := HDL.out
       rw [HL.out, deeps_append] at h1
       simp only [J.deeps] at h1
       have h2 := HNL.out
       rw [HL.out] at h2
       have h3 := hdj.out
       have h4 := hE.out
       omega
      clear d4 HDP hpx hpt hc1 e4 hsum hjn
      go_upto_region 4 with (go_at_call 94; refine (CR.out _ HO.out).mono ?_; rintro e w2 ⟨rfl, o2⟩)
      have O2 := hide (Old.trans HO.out o2)
      have d5 := o2.cell D4.out
      clear d4' o2
      go_wp2_with fail
      go_roundw
      case rel => exact ⟨l1 ++ [j], l3, p + (q + 1), max d (dj + 1), by go_num, by go_num, by omega, hmx, hide (by rw [HL.out]; simp), HNEW, HDN, O2⟩
      case measure => simp [intOf]; omega
end Go.Proofs.YthlfljmfggmfdaaGreatDoor
