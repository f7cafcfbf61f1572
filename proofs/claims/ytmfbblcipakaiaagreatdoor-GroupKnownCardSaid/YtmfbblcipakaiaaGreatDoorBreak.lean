/- breakPatterns of slices.SortFunc -/
import Derived.Test.YtmfbblcipakaiaaGreatDoorPivot
import Derived.Test.YtmfbblcipakaiaaGreatDoorPart
import Derived.Test.YtmfbblcipakaiaaGreatDoorLen
import Derived.Sort.Walk7a
import Derived.Sort.LotD1
import Derived.Deep.DeepCutAuto
import Derived.Deep.CutBlock
namespace Go.Proofs.YtmfbblcipakaiaaGreatDoor
open Go.RowKit Go.Sort

/-- a sort's world that holds the value v in block s -/
structure PX (w0 : World) (g : Nat) (d : Array Int) (s : Nat) (v : Value) (w : World) : Prop where
  sw : SW w0 g d w
  cell : w.cell? ⟨s, 0, none⟩ = some v
  free : w.frozen? ⟨s, 0, none⟩ = false
  lo : w0.heap.size ≤ s
  ne : s ≠ g
theorem PX.old {w0 w w' : World} {g s : Nat} {v : Value} {d : Array Int} (h : PX w0 g d s v w) (k : Old w w') : PX w0 g d s v w' :=
  ⟨h.sw.old k, k.cell h.cell, k.frozen h.cell h.free, h.lo, h.ne⟩
theorem PX.drew {w0 w : World} {g s : Nat} {v : Value} {d : Array Int} (h : PX w0 g d s v w) : PX w0 g d s v w.drew := h.old (Old.drew (Old.refl w))
theorem PX.put {w0 w : World} {g s : Nat} {v : Value} {d : Array Int} (h : PX w0 g d s v w) (u : Value) : PX w0 g d s u (w.setCell ⟨s, 0, none⟩ u) :=
  ⟨h.sw.aside h.lo h.ne _, World.cell?_setCell_same _ _ _ h.cell, by simpa using h.free, h.lo, h.ne⟩

set_option maxRecDepth 100000 in
set_option maxHeartbeats 2000000 in
theorem next_run (w0 : World) (g : Nat) (d : Array Int) (s X : Nat) (hX : X < 18446744073709551616) (w : World) (hw : PX w0 g d s (.int .u64 X) w) :
    Calls Tryz.prog 124 #[.pointer (some ⟨s, 0, none⟩)] w fun e w' => ∃ Y : Nat, Y < 18446744073709551616 ∧ e = .returned (.int .u64 Y) ∧ PX w0 g d s (.int .u64 Y) w' := by
  obtain ⟨A, hA⟩ : ∃ A : Nat, A = X ^^^ (X * 8192 % 18446744073709551616) := ⟨_, rfl⟩
  obtain ⟨B, hB⟩ : ∃ B : Nat, B = A ^^^ (A / 128) := ⟨_, rfl⟩
  obtain ⟨C, hC⟩ : ∃ C : Nat, C = B ^^^ (B * 131072 % 18446744073709551616) := ⟨_, rfl⟩
  have lA : A < 18446744073709551616 := by rw [hA]; exact Nat.xor_lt_two_pow (n := 64) (by omega) (by omega)
  have lB : B < 18446744073709551616 := by rw [hB]; exact Nat.xor_lt_two_pow (n := 64) (by omega) (by omega)
  have lC : C < 18446744073709551616 := by rw [hC]; exact Nat.xor_lt_two_pow (n := 64) (by omega) (by omega)
  have e1 : bits .xor .u64 (X : Int) (IntKind.u64.wrap ((X : Int) * 8192)) = (A : Int) := by
    rw [IntKind.wrap_u64, show ((X : Int) * 8192 % 18446744073709551616) = ((X * 8192 % 18446744073709551616 : Nat) : Int) by omega, bits_xor_u64_nat _ _ hX (by omega), hA]
  have e2 : bits .xor .u64 (A : Int) ((A : Int) / 128) = (B : Int) := by
    rw [show ((A : Int) / 128) = ((A / 128 : Nat) : Int) by omega, bits_xor_u64_nat _ _ lA (by omega), hB]
  have e3 : bits .xor .u64 (B : Int) (IntKind.u64.wrap ((B : Int) * 131072)) = (C : Int) := by
    rw [IntKind.wrap_u64, show ((B : Int) * 131072 % 18446744073709551616) = ((B * 131072 % 18446744073709551616 : Nat) : Int) by omega, bits_xor_u64_nat _ _ lB (by omega), hC]
  clear hA hB hC
  have H := Lib.hid hw
  have hc := hw.cell
  have hf := hw.free
  have hss : ∀ v v', (w.setCell ⟨s, 0, none⟩ v).setCell ⟨s, 0, none⟩ v' = w.setCell ⟨s, 0, none⟩ v' := setCell_setCell w s 0
  clear hw
  go_enter Tryz.func124, Tryz.ntmps124
  go_wp2
  go_region
  all_goals go_wp2
  all_goals go_region
  all_goals go_wp2
  all_goals go_region
  all_goals go_wp2
  go_ret
  exact ⟨C, lC, rfl, (H.out.put (.int .u64 C)).old (Old.drewN (Old.refl _) 3)⟩

set_option maxRecDepth 100000 in
set_option maxHeartbeats 1000000 in
theorem nextPowerOfTwo_run (n : Nat) (h0 : 0 < n) (hn : n < 4611686018427387904) (w : World) :
    Calls Tryz.prog 123 #[.int .i64 n] w fun e w' => ∃ p : Nat, n < p ∧ p ≤ 2 * n ∧ e = .returned (.int .u64 p) ∧ w' = w := by
  have hLen := fun w => Tryz.bits_Len (n : Int) w (by omega) (by omega)
  rw [Int.toNat_natCast] at hLen
  obtain ⟨q1, q2⟩ := Tryz.bitLen_pow n h0 (by omega)
  have hk : Lib.bitLen n ≤ 62 := by
    by_cases h : Lib.bitLen n ≤ 62
    · exact h
    · have h3 : (2 : Nat) ^ 63 ≤ 2 ^ Lib.bitLen n := Nat.pow_le_pow_right (by decide) (by omega)
      omega
  have hp := wrap_two_pow (Lib.bitLen n) hk
  have wr : IntKind.u64.wrap (n : Int) = n := by simp [IntKind.wrap, IntKind.bits, IntKind.signed]; omega
  rw [Nat.one_shiftLeft] at hp
  obtain ⟨p, hpp⟩ : ∃ p : Nat, p = 2 ^ Lib.bitLen n := ⟨_, rfl⟩
  rw [← hpp] at hp q1 q2
  clear hpp
  go_enter Tryz.func123, Tryz.ntmps123
  go_wp2_with (go_at_call 92; refine (hLen _).mono ?_; rintro e w' ⟨rfl, rfl⟩)
  go_ret
  exact ⟨p, q2, q1, rfl, rfl⟩

theorem AllR_perm {R : Int → Prop} {a b : Nat} {d d' : Array Int} (h : AllR R d) (hp : PermIn a b d d') (hb : b ≤ d.size) : AllR R d' := by
  intro i hi
  rw [hp.1] at hi
  by_cases h1 : i < a ∨ b ≤ i
  · rw [hp.2.1 i h1]; exact h i hi
  · exact permIn_all d d' a b R hb hp (fun j _ h2 => h j (by omega)) i (by omega) (by omega)

theorem PX.fresh {w0 w : World} {g : Nat} {d : Array Int} (h : SW w0 g d w) (hg : g < w0.heap.size) (v : Value) (T : TypeId) : PX w0 g d w.heap.size v (w.alloc (.cells #[v] T)) :=
  ⟨h.old ((Old.refl w).alloc _), by simp, by simp, h.grown.size, by have := h.grown.size; omega⟩
theorem PX.ints {w0 w : World} {g s : Nat} {v : Value} {d d' : Array Int} (h : PX w0 g d s v w) {i j : Nat} {x y : Int} (k : SW w0 g d' ((w.setCell ⟨g, i, none⟩ (.int .i64 x)).setCell ⟨g, j, none⟩ (.int .i64 y)).drew) :
    PX w0 g d' s v ((w.setCell ⟨g, i, none⟩ (.int .i64 x)).setCell ⟨g, j, none⟩ (.int .i64 y)).drew :=
  ⟨k, by have h1 := h.cell; have h2 := h.ne; simp [World.cell?_setCell_other, h1], by simpa using h.free, h.lo, h.ne⟩

set_option maxRecDepth 100000 in
set_option maxHeartbeats 4000000 in
theorem breakPatterns_run (w0 : World) (g cap f : Nat) (rv : Value)
    (d : Array Int) (a b : Nat) (w : World) (hw : SW w0 g d w) (hg : g < w0.heap.size) (hab : a + 12 < b) (hb : b ≤ d.size) (hsz : d.size < 1152921504606846976) :
    Calls Tryz.prog 105 #[.slice (some ⟨g, 0, none⟩) d.size cap, .int .i64 a, .int .i64 b, .func (.func f) #[rv] #[]] w fun e w' =>
      e = .returned (.tuple #[]) ∧ ∃ d', PermIn a b d d' ∧ SW w0 g d' w' := by
  obtain ⟨l, hl⟩ : ∃ l : Nat, b = a + l := ⟨b - a, by omega⟩
  subst hl
  have H0 := hide (PX.fresh hw hg (.int .u64 l) 182)
  clear hw
  obtain ⟨q, hq⟩ : ∃ q : Nat, q = l / 4 := ⟨_, rfl⟩
  have hq1 : 4 * q ≤ l := by omega
  have hq2 : l < 4 * q + 4 := by omega
  clear hq
  have wr : IntKind.u64.wrap (l : Int) = l := by simp [IntKind.wrap, IntKind.bits, IntKind.signed]; omega
  go_enter Tryz.func105, Tryz.ntmps105
  go_wp2_with fail
  rw [show (a : Int) + (l : Int) - (a : Int) = (l : Int) by omega]
  refine (nextPowerOfTwo_run l (by omega) (by omega) _).mono ?_
  rintro e w1 ⟨p, hp1, hp2, rfl, rfl⟩
  go_wp2_with fail
  go_loopw [11] (fun iv wr => ∃ (x X : Nat) (dk : Array Int), iv = .int .i64 x ∧ a + q * 2 ≤ x + 1 ∧ x ≤ a + q * 2 + 2 ∧ X < 18446744073709551616 ∧ Hid (dk.size = d.size) ∧ Hid (PX w0 g dk w.heap.size (.int .u64 X) wr) ∧ Hid (PermIn a (a + l) d dk)) (fun iv _ => a + q * 2 + 3 - (intOf iv).toNat)
  case atStart => exact ⟨a + q * 2 - 1, l, d, by congr 1; omega, by omega, by omega, by omega, rfl, H0, permIn_refl _ _ _⟩
  case round =>
    obtain ⟨x, X, dk, rfl, hx1, hx2, hX, hsk, HPk, HMk⟩ := hrel
    by_cases hlt : x ≤ a + q * 2 + 1
    · go_wp2_with fail
      refine (next_run w0 g dk w.heap.size X hX _ HPk.out).mono ?_
      rintro e w2 ⟨Y, hY, rfl, h2⟩
      have HP2 := hide h2
      clear h2
      obtain ⟨o, ho⟩ : ∃ o : Nat, o = Y &&& (p - 1) := ⟨_, rfl⟩
      have ho1 : o ≤ p - 1 := by rw [ho]; exact Nat.and_le_right
      have ea : bits .and .u64 (Y : Int) ((p : Int) - 1) = (o : Int) := by
        rw [show ((p : Int) - 1) = ((p - 1 : Nat) : Int) by omega, bits_and_u64_nat _ _ hY (by omega), ho]
      clear ho
      go_upto_if 45 with fail
      go_cut [12] (fun ov wr => ∃ o2 : Nat, ov = .int .i64 o2 ∧ o2 < l ∧ Hid (PX w0 g dk w.heap.size (.int .u64 Y) wr))
      case first =>
        by_cases hol : l ≤ o
        · go_wp2_with fail
          go_meet
          exact ⟨o - l, by congr 1; omega, by omega, HP2⟩
        · go_wp2_with fail
          go_meet
          exact ⟨o, rfl, by omega, HP2⟩
      case rest =>
        obtain ⟨o2, rfl, ho2, HP3⟩ := hcut
        have HW3 := hide HP3.out.sw
        have HR3 := hide (show AllR (fun _ => True) dk from fun _ _ => trivial)
        have B1 := hide (show (a + o2) < dk.size by rw [hsk.out]; omega)
        have B2 := hide (show x < dk.size by rw [hsk.out]; omega)
        have b1 : (a + o2) < d.size := by omega
        have b2 : x < d.size := by omega
        obtain ⟨u1, hu1, _, _⟩ := look HW3 HR3 _ B1.out
        obtain ⟨u2, hu2, _, _⟩ := look HW3 HR3 _ B2.out
        have x1 := lookedAt HW3.out hu1 B1.out
        have y1 := lookedAt HW3.out hu2 B2.out
        have f1 := HW3.out.ints.free (a + o2)
        have f2 := HW3.out.ints.free x
        obtain ⟨z, hz⟩ := set_some (p := ⟨g, x, none⟩) (u := .int .i64 u1) x1
        obtain ⟨d2, hd2⟩ : ∃ d2, Hid (d2 = Sort.swp dk x (a + o2)) := ⟨_, rfl⟩
        have hs2 : Hid (d2.size = d.size) := by show _ = _; rw [hd2.out, size_swp, hsk.out]
        have HR4 : Hid (AllR (fun _ => True) d2) := by show AllR (fun _ => True) d2; rw [hd2.out]; exact AllR_swp HR3.out B2.out B1.out
        have HW4 : Hid (SW w0 g d2 ((wc.setCell ⟨g, x, none⟩ (.int .i64 u1)).setCell ⟨g, (a + o2), none⟩ (.int .i64 u2)).drew) := by
          have h := SW.swp HW3.out x (a + o2)
          rw [← hu1.out, ← hu2.out] at h
          show SW _ _ _ _
          rw [hd2.out]
          exact h.drew
        go_wp2_with fail
        go_region
        clear x1 y1 f1 f2 hz
        have HP4 := hide (PX.ints HP3.out HW4.out)
        go_wp2_with fail
        go_roundw
        case rel => exact ⟨x + 1, Y, d2, by go_num, by omega, by omega, hY, hs2, HP4, hide (permIn_trans _ _ _ _ _ HMk.out (by rw [hd2.out]; exact swp_permIn dk a (a + l) x (a + o2) (by omega) (by omega) (by omega) (by omega) (by rw [hsk.out]; exact hb)))⟩
        case measure => simp [intOf]; omega
    · go_wp2_with fail
      exact bodyPost_end (results_none rfl _ _ _) rfl ⟨rfl, dk, HMk.out, HPk.out.sw⟩
end Go.Proofs.YtmfbblcipakaiaaGreatDoor

