/- DERIVED: THE SHELF's CONTRACTS AT THIS DUMP, IN PLAIN WORDS (tools/lay-plain.mjs out of 'TrydTrimShelf.lean', which tools/lay-shelf.mjs wrote): THE SAME DECLARATIONS UNDER THE SAME NAMES: 'import', 'namespace', 'open', 'def', 'theorem' AND NOTHING ELSE: no command of the shelf's: FOR A HAND-IN. Each laying: the table of numbers ('.._ren') and one theorem, a field a fact of the dump's own or the kernel's comparison; each contract: ONE APPLICATION. -/
import Derived.Test.YtcddfpcapbdphaaGreatDoorProg
import Derived.Shelf.Strings.SlTrimAscii
import Derived.Test.YtcddfpcapbdphaaGreatDoorWorks7
import Derived.Test.YtcddfpcapbdphaaGreatDoorSeedC
/-! ### DERIVED: THE SHELF's CONTRACTS AT THIS DUMP, IN PLAIN WORDS (tools/lay-plain.mjs out of 'TrydTrimShelf.lean', which tools/lay-shelf.mjs wrote): THE SAME DECLARATIONS UNDER THE SAME NAMES: 'import', 'namespace', 'open', 'def', 'theorem' AND NOTHING ELSE: no command of the shelf's: FOR A HAND-IN. Each laying: the table of numbers ('.._ren') and one theorem, a field a fact of the dump's own or the kernel's comparison; each contract: ONE APPLICATION. -/
namespace Go.Proofs
open Go.Shelf
def Tryz.lays161_ren : Go.Shelf.Ren := ⟨fun | 161 => 13 | 231 => 33 | 227 => 34 | 233 => 35 | 235 => 36 | 228 => 61 | 197 => 62 | 151 => 63 | 260 => 87 | 152 => 88 | 137 => 108 | 119 => 109 | 224 => 110 | 225 => 111 | 217 => 129 | 266 => 140 | n => n, fun | 9 => 9 | 4 => 4 | 3 => 3 | 5 => 5 | 117 => 72 | 116 => 71 | 0 => 0 | 124 => 75 | 105 => 116 | 21 => 21 | 119 => 155 | 46 => 53 | 139 => 158 | 138 => 157 | n => n, fun | 3 => 1 | 4 => 2 | n => n⟩
theorem Tryz.lays161 : Go.Proofs.Lays.n161 Tryz.prog Tryz.lays161_ren := {
  mixed := by kernel_rfl
  f119 := Tryz.func109.trans (congrArg some (by kernel_rfl))
  f137 := Tryz.func108.trans (congrArg some (by kernel_rfl))
  f151 := Tryz.func63.trans (congrArg some (by kernel_rfl))
  f152 := Tryz.func88.trans (congrArg some (by kernel_rfl))
  f161 := Tryz.func13.trans (congrArg some (by kernel_rfl))
  f197 := Tryz.func62.trans (congrArg some (by kernel_rfl))
  f217 := Tryz.func129.trans (congrArg some (by kernel_rfl))
  f224 := Tryz.func110.trans (congrArg some (by kernel_rfl))
  f225 := Tryz.func111.trans (congrArg some (by kernel_rfl))
  f227 := Tryz.func34.trans (congrArg some (by kernel_rfl))
  f228 := Tryz.func61.trans (congrArg some (by kernel_rfl))
  f231 := Tryz.func33.trans (congrArg some (by kernel_rfl))
  f233 := Tryz.func35.trans (congrArg some (by kernel_rfl))
  f235 := Tryz.func36.trans (congrArg some (by kernel_rfl))
  f260 := Tryz.func87.trans (congrArg some (by kernel_rfl))
  f266 := Tryz.func140.trans (congrArg some (by kernel_rfl))
  t0 := Tryz.underlying0
  a0 := Tryz.isAgg0
  z0 := Tryz.sizeOf0
  v0 := Tryz.zeroValue0
  t3 := Tryz.underlying3
  a3 := Tryz.isAgg3
  z3 := Tryz.sizeOf3
  v3 := Tryz.zeroValue3
  t4 := Tryz.underlying4
  a4 := Tryz.isAgg4
  z4 := Tryz.sizeOf4
  v4 := Tryz.zeroValue4
  t5 := Tryz.underlying5
  a5 := Tryz.isAgg5
  z5 := Tryz.sizeOf5
  v5 := Tryz.zeroValue5
  t9 := Tryz.underlying9
  a9 := Tryz.isAgg9
  z9 := Tryz.sizeOf9
  v9 := Tryz.zeroValue9
  t21 := Tryz.underlying21
  a21 := Tryz.isAgg21
  z21 := Tryz.sizeOf21
  v21 := Tryz.zeroValue21
  t46 := Tryz.underlying53
  a46 := Tryz.isAgg53
  z46 := Tryz.sizeOf53
  v46 := Tryz.zeroValue53
  t105 := Tryz.underlying116
  a105 := Tryz.isAgg116
  z105 := Tryz.sizeOf116
  v105 := Tryz.zeroValue116
  t116 := Tryz.underlying71
  a116 := Tryz.isAgg71
  z116 := Tryz.sizeOf71
  t117 := Tryz.underlying72
  a117 := Tryz.isAgg72
  z117 := Tryz.sizeOf72
  v117 := Tryz.zeroValue72
  t119 := Tryz.underlying155
  a119 := Tryz.isAgg155
  z119 := Tryz.sizeOf155
  t124 := Tryz.underlying75
  a124 := Tryz.isAgg75
  z124 := Tryz.sizeOf75
  v124 := Tryz.zeroValue75
  t138 := Tryz.underlying157
  a138 := Tryz.isAgg157
  z138 := Tryz.sizeOf157
  v138 := Tryz.zeroValue157
  t139 := Tryz.underlying158
  a139 := Tryz.isAgg158
  z139 := Tryz.sizeOf158
  v139 := Tryz.zeroValue158
  g3 := by kernel_rfl
  g4 := by kernel_rfl }
open Go.RowKit in
/-- strings.TrimLeft at a cutset of ASCII bytes: the leading bytes that stand in it are cut off. (LAID: no walk: one application.) -/
theorem Tryz.strings_TrimLeft_laid (s cutset : ByteArray) (w : World) (hcs : cutset.size < 4294967281) (hascii : ∀ (j : Nat) b, cutset.data.toList[j]? = some b → b.toNat < 128) :
    Calls Tryz.prog 13 #[.string s, .string cutset] w fun e w' => e = .returned (.string ⟨(Lib.trimLeftS s.data.toList cutset.data.toList).toArray⟩) ∧ Below w.heap.size w w' := Any.strings_TrimLeft_laid Tryz.lays161 (by kernel_rfl) s cutset w hcs hascii
end Go.Proofs

/-! ### JreadBehind: whatever stands behind a value, but blanks, is told at its place: the plain law, and the walk. -/
namespace Go.Proofs.YtcddfpcapbdphaaGreatDoor
open Go.RowKit

theorem skip_trim (l : List UInt8) : Lib.trimLeftS l [32, 10, 9, 13] = skipB l := by
  unfold Lib.trimLeftS
  induction l with
  | nil => rfl
  | cons c l ih =>
    have hc : List.contains [32, 10, 9, 13] c = isBlank c := by
      simp only [List.contains_cons, List.contains_nil, Bool.or_false, isBlank]
      cases h1 : (c == 32) <;> cases h2 : (c == 10) <;> cases h3 : (c == 9) <;> cases h4 : (c == 13) <;> rfl
    simp only [List.dropWhile_cons, hc, skipB]
    split
    · exact ih
    · rfl
/-- a value that is no number, and more behind it -/
theorem behind_law {l m : List UInt8} {j : J} (h : Txt l j) (h4 : j.hd.kind ≠ 4) (hl : (l ++ m).length ≤ 1048576) : parseV (l ++ m) = if skipB m = [] then .ok j else .error (l.length + (m.length - (skipB m).length), 70) := by
  have hm := txt_may h.val
  have hp := h.any h4 m (fuelOf (l ++ m)) 0 0 (by unfold fuelOf; simp only [List.length_append]; omega) (by omega) (by omega)
  have hs : skipB (l ++ m) = l ++ m := by
    rw [skip_loc (by rw [h.skip]; exact h.ne), h.skip]
  unfold parseV
  rw [if_neg (by omega), hs, hp]
  simp only
  have hk := skipB_len m
  cases hsk : skipB m with
  | nil => rw [if_pos rfl]
  | cons c p =>
    rw [hsk] at hk
    rw [if_neg (by simp)]
    simp only [List.length_append]
    congr 2
    simp only [List.length_cons] at hk ⊢
    omega
theorem kind_cell {w : World} {A : Option Addr} {n c : Nat} {j : J} (h : NodesIs w (.slice A n c) j.flat) : ∃ b off, A = some ⟨b, off, none⟩ ∧ w.cell? ⟨b, off, none⟩ = some (.int .i64 j.hd.kind) := by
  obtain ⟨A', cap, he, h1, h2, h3⟩ := h.nodes
  have hp := flat_pos j
  injection he with e1 e2 e3
  subst e1 e2 e3
  obtain ⟨b, off, rfl, hc⟩ := h3.resolve_left (by omega)
  have := (hc 0 hp).1
  refine ⟨b, off, rfl, ?_⟩
  rw [Nat.zero_mul, Nat.add_zero] at this
  rw [this]
  cases j
  rfl
theorem trim_run (s : ByteArray) (w : World) : Calls Tryz.prog 13 #[.string s, .string ⟨#[32, 10, 9, 13]⟩] w fun e w' => e = .returned (.string (bT (skipB s.data.toList))) ∧ Old w w' := by
  have h := Tryz.strings_TrimLeft_laid s ⟨#[32, 10, 9, 13]⟩ w (by decide) (by
    intro k b hb
    have hm : b ∈ ([32, 10, 9, 13] : List UInt8) := List.mem_of_getElem? hb
    have hall : ∀ x ∈ ([32, 10, 9, 13] : List UInt8), x.toNat < 128 := by decide
    exact hall b hm)
  refine h.mono fun e w' ⟨h1, h2⟩ => ⟨?_, h2⟩
  rw [h1, show (⟨#[32, 10, 9, 13]⟩ : ByteArray).data.toList = [32, 10, 9, 13] from rfl, skip_trim]
  rfl
set_option maxRecDepth 100000 in
set_option maxHeartbeats 4000000 in
theorem jbehind_walk (u : Value) (l : List Int) (more : ByteArray) (w : World) (h : NumsIs w u l) (hT : Tabs w) (hE : Errs w) (hP : PowTab w) :
    Calls Tryz.prog 5 #[.agg #[u], .string more] w fun e w' => e = .returned (.bool true) ∧ Old w w' := by
  have HT := hide hT
  have HE := hide hE
  have CD := hide (fun (w' : World) (o : Old w w') => drawn_run u l w' (Sl.old h o) (hT.old o) (hP.old o))
  clear h hT hE hP
  obtain ⟨q, hq⟩ : ∃ q : Nat, Hid (min more.size 50 = q) := ⟨_, hide rfl⟩
  have hq1 : q ≤ more.size := by rw [← hq.out]; omega
  have hq2 : q ≤ 50 := by rw [← hq.out]; omega
  have hmin : min (more.size : Int) 50 = (q : Int) := by rw [← hq.out]; omega
  obtain ⟨R, hR⟩ : ∃ R, Hid (more.extract 0 q = R) := ⟨_, hide rfl⟩
  have hRs : R.size ≤ 50 := by rw [← hR.out, ByteArray.size_extract]; omega
  have hR' := hR.out
  go_enter Tryz.func5, Tryz.ntmps5
  go_wp2_with fail
  refine (CD.out _ (Old.alloc (Old.refl _) _)).mono ?_
  rintro e w1 ⟨v, S, j, rfl, n1, x1, z1, o1⟩
  have O1 := hide (Old.trans (Old.alloc (Old.refl _) _) o1)
  obtain ⟨A, c, hv, hMc, hcm⟩ := nd_form n1 (rfl : j.flat.length = _)
  subst hv
  obtain ⟨b, off, rfl, hkc⟩ := kind_cell (SlT.sl n1)
  obtain ⟨M, hM⟩ : ∃ M, Hid (j.flat.length = M) := ⟨_, hide rfl⟩
  have hMp : 0 < M := by rw [← hM.out]; exact flat_pos j
  have hM4 : M ≤ 4000 := by rw [← hM.out]; exact (txt_may x1.val).1
  have N1 := hide (show NodesIs w1 (.slice (some ⟨b, off, none⟩) M c) j.flat by rw [← hM.out]; exact SlT.sl n1)
  rw [hM.out]
  have hMi : (0 : Int) < (M : Int) := by omega
  have hM0 : ((M : Int) == 0) = false := beq_eq_false_iff_ne.2 (by omega)
  have X1 := hide x1
  clear n1 x1 o1 hcm hMc CD
  go_wp2_with fail
  refine (trim_run R w1).mono ?_
  rintro e w2 ⟨rfl, o2⟩
  obtain ⟨Z, hZ⟩ : ∃ Z, Hid (bT (skipB R.data.toList) = Z) := ⟨_, hide rfl⟩
  have hZs : Z.size = (skipB R.data.toList).length := by rw [← hZ.out]; exact bT_len _
  have hZq : Z.size ≤ R.size := by rw [hZs]; have := skipB_len R.data.toList; rw [list_size] at this; exact this
  rw [hZ.out]
  have O2 := hide (Old.trans O1.out o2)
  have hkc2 := o2.cell hkc
  have N2 := hide (N1.out.old o2)
  obtain ⟨D, hD⟩ : ∃ D : Nat, Hid (R.size - Z.size = D) := ⟨_, hide rfl⟩
  have hDi : (R.size : Int) - (Z.size : Int) = (D : Int) := by have := hD.out; omega
  have hD50 : D ≤ 50 := by have := hD.out; omega
  have HZS := hide hZs
  clear hZs
  clear o2 hkc
  by_cases h4 : j.hd.kind = 4
  · rw [h4] at hkc2
    have CW := hide (works_run w2 (HE.out.old O2.out) (HT.out.old O2.out))
    go_wp2_with fail
    refine CW.out.mono ?_
    rintro e w3 ⟨rfl, o3⟩
    have O3 := hide (Old.trans O2.out o3)
    clear o3
    go_wp2_with fail
    go_ret
    exact ⟨rfl, O3.out⟩
  · have h4' : (j.hd.kind == 4) = false := beq_eq_false_iff_ne.2 h4
    have BL := hide (behind_law (m := R.data.toList) X1.out h4 (by simp only [List.length_append, list_size]; omega))
    obtain ⟨kd, hkd⟩ : ∃ kd, Hid (j.hd.kind = kd) := ⟨_, hide rfl⟩
    rw [hkd.out] at hkc2 h4'
    clear h4
    by_cases hz : Z.size = 0
    · have hsk : skipB R.data.toList = [] := List.eq_nil_of_length_eq_zero (by rw [← HZS.out]; exact hz)
      have HP := hide (show parseV (S ++ R : ByteArray).data.toList = .ok j by rw [app_list, BL.out, if_pos hsk])
      have hDe : ((D : Int) == (R.size : Int)) = true := by have := hD.out; simp; omega
      clear hsk hz
      go_wp2_with fail
      refine (reads_ok _ _ j.flat j w2 (by simp only [ByteArray.size_append]; omega) (HE.out.old O2.out) (HT.out.old O2.out) HP.out rfl N2.out (by rw [hM.out]; exact hM4)).mono ?_
      rintro e w3 ⟨rfl, o3⟩
      have O3 := hide (Old.trans O2.out o3)
      have CW := hide (works_run w3 (HE.out.old O3.out) (HT.out.old O3.out))
      clear o3
      go_wp2_with fail
      refine CW.out.mono ?_
      rintro e w4 ⟨rfl, o4⟩
      have O4 := hide (Old.trans O3.out o4)
      clear o4
      go_wp2_with fail
      go_ret
      exact ⟨rfl, O4.out⟩
    · have hsk : skipB R.data.toList ≠ [] := by
        intro e
        have := HZS.out
        rw [e] at this
        exact hz this
      have HP := hide (show parseV (S ++ R : ByteArray).data.toList = .error (S.size + D, 70) by rw [app_list, BL.out, if_neg hsk, list_size, list_size, ← HZS.out, hD.out])
      have hDe : ((D : Int) == (R.size : Int)) = false := by have := hD.out; simp; omega
      clear hsk hz
      go_wp2_with fail
      refine (fails_ok _ _ 70 (S.size + D) w2 (by simp only [ByteArray.size_append]; omega) (HE.out.old O2.out) (HT.out.old O2.out) HP.out (by omega)).mono ?_
      rintro e w3 ⟨rfl, o3⟩
      have O3 := hide (Old.trans O2.out o3)
      have CW := hide (works_run w3 (HE.out.old O3.out) (HT.out.old O3.out))
      clear o3
      go_wp2_with fail
      refine CW.out.mono ?_
      rintro e w4 ⟨rfl, o4⟩
      have O4 := hide (Old.trans O3.out o4)
      clear o4
      go_wp2_with fail
      go_ret
      exact ⟨rfl, O4.out⟩
end Go.Proofs.YtcddfpcapbdphaaGreatDoor
