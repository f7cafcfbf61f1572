/- the choice of the pivot in slices.SortFunc -/
import Derived.Test.YtmfbblcipakaiaaGreatDoorHeap
import Derived.Sort.LotD4
namespace Go.Proofs.YtmfbblcipakaiaaGreatDoor
open Go.RowKit Go.Sort

/-- a sort's world that holds the count n in block s -/
structure PW (w0 : World) (g : Nat) (d : Array Int) (s n : Nat) (w : World) : Prop where
  sw : SW w0 g d w
  cell : w.cell? ⟨s, 0, none⟩ = some (.int .i64 n)
  free : w.frozen? ⟨s, 0, none⟩ = false
  lo : w0.heap.size ≤ s
  ne : s ≠ g
theorem PW.old {w0 w w' : World} {g s n : Nat} {d : Array Int} (h : PW w0 g d s n w) (k : Old w w') : PW w0 g d s n w' :=
  ⟨h.sw.old k, k.cell h.cell, k.frozen h.cell h.free, h.lo, h.ne⟩
theorem SW.aside {w0 w : World} {g s : Nat} {d : Array Int} (h : SW w0 g d w) (hs : w0.heap.size ≤ s) (hne : s ≠ g) (u : Value) : SW w0 g d (w.setCell ⟨s, 0, none⟩ u) :=
  ⟨⟨h.grown.os, h.grown.tape, h.grown.output, by simpa using h.grown.size, fun k hk hk2 => (Below.heap_setCell w ⟨s, 0, none⟩ u k (fun e => by have : k = s := e; omega)).trans (h.grown.block k hk hk2)⟩,
   (Below.heap_setCell w ⟨s, 0, none⟩ u g (fun e => hne (Eq.symm e))).trans h.ints⟩
theorem PW.put {w0 w : World} {g s n : Nat} {d : Array Int} (h : PW w0 g d s n w) (m : Nat) : PW w0 g d s m (w.setCell ⟨s, 0, none⟩ (.int .i64 m)) :=
  ⟨h.sw.aside h.lo h.ne _, World.cell?_setCell_same _ _ _ h.cell, by simpa using h.free, h.lo, h.ne⟩

set_option maxRecDepth 100000 in
set_option maxHeartbeats 2000000 in
theorem order2_run (w0 : World) (g cap f : Nat) (rv : Value) (R : Int → Prop) (cf : Int → Int → Int) (hf : ∀ args w, (callFunc f args).run Tryz.prog w = .ok (.enter f args) w) (hc : CmpOk w0 g f #[rv] #[] R cf)
    (d : Array Int) (a b s n : Nat) (w : World) (hw : PW w0 g d s n w) (hR : AllR R d) (ha : a < d.size) (hb : b < d.size) (hn : n < 100) :
    Calls Tryz.prog 133 #[.slice (some ⟨g, 0, none⟩) d.size cap, .int .i64 a, .int .i64 b, .pointer (some ⟨s, 0, none⟩), .func (.func f) #[rv] #[]] w fun e w' =>
      e = .returned (.tuple #[.int .i64 ((order2 (ltOf cf) d a b n).1 : Nat), .int .i64 ((order2 (ltOf cf) d a b n).2.1 : Nat)]) ∧ PW w0 g d s (order2 (ltOf cf) d a b n).2.2 w' := by
  have HC := Lib.hid hc
  have HP := Lib.hid hw
  have HW := hide hw.sw
  have HR := Lib.hid hR
  clear hc hw hR
  have HB1 := hide hb
  have HB2 := hide ha
  obtain ⟨vb, hvb, Rb, cb⟩ := look HW HR _ HB1.out
  obtain ⟨va, hva, Ra, ca⟩ := look HW HR _ HB2.out
  have HA := ask HC HW.out Rb Ra
  go_enter Tryz.func133, Tryz.ntmps133
  cases hl : ltOf cf vb va
  · have hng : ¬ cf vb va < 0 := by simpa [ltOf] using hl
    have HL := hide hl
    clear hl
    go_wp2_with fail
    refine region_later (by kernel_rfl) (by kernel_rfl) ?_
    repeat (go_big_quiet_step ((exact Later.call (HA.out _))))
    refine wpQuiet_nil ?_
    rintro wq ⟨⟨_, hwq⟩, rfl⟩
    clear cb ca
    go_wp2_with fail
    have e : order2 (ltOf cf) d a b n = (a, b, n) := by rw [order2, ← hvb.out, ← hva.out, HL.out]; rfl
    rw [e]
    exact bodyPost_ret (v := .tuple #[.int .i64 (a : Nat), .int .i64 (b : Nat)]) (by simp [results, Tryz.results133, go_sem]) rfl ⟨rfl, HP.out.old hwq⟩
  · have hng : cf vb va < 0 := by simpa [ltOf] using hl
    have HL := hide hl
    clear hl
    go_wp2_with fail
    refine region_later (by kernel_rfl) (by kernel_rfl) ?_
    repeat (go_big_quiet_step ((exact Later.call (HA.out _))))
    refine wpQuiet_nil ?_
    rintro wq ⟨⟨_, hwq⟩, rfl⟩
    clear cb ca
    have x1 := (HP.out.old hwq).cell
    have f1 := (HP.out.old hwq).free
    go_wp2_with fail
    have e : order2 (ltOf cf) d a b n = (b, a, n + 1) := by rw [order2, ← hvb.out, ← hva.out, HL.out]; rfl
    rw [e]
    exact bodyPost_ret (v := .tuple #[.int .i64 (b : Nat), .int .i64 (a : Nat)]) (by simp [results, Tryz.results133, go_sem]) rfl ⟨rfl, (HP.out.old hwq).put (n + 1)⟩

theorem order2_lt {lt : Int → Int → Bool} {d : Array Int} {a b n k : Nat} (ha : a < k) (hb : b < k) : (order2 lt d a b n).1 < k ∧ (order2 lt d a b n).2.1 < k := by
  rcases order2_mem lt d a b n with ⟨h1, h2⟩ | ⟨h1, h2⟩ <;> omega

set_option maxRecDepth 100000 in
set_option maxHeartbeats 2000000 in
theorem median_run (w0 : World) (g cap f : Nat) (rv : Value) (R : Int → Prop) (cf : Int → Int → Int) (hf : ∀ args w, (callFunc f args).run Tryz.prog w = .ok (.enter f args) w) (hc : CmpOk w0 g f #[rv] #[] R cf)
    (d : Array Int) (a b c s n : Nat) (w : World) (hw : PW w0 g d s n w) (hR : AllR R d) (ha : a < d.size) (hb : b < d.size) (hcc : c < d.size) (hn : n < 97) :
    Calls Tryz.prog 126 #[.slice (some ⟨g, 0, none⟩) d.size cap, .int .i64 a, .int .i64 b, .int .i64 c, .pointer (some ⟨s, 0, none⟩), .func (.func f) #[rv] #[]] w fun e w' =>
      e = .returned (.int .i64 ((median (ltOf cf) d a b c n).1 : Nat)) ∧ PW w0 g d s (median (ltOf cf) d a b c n).2 w' := by
  have HC := Lib.hid hc
  have HP := Lib.hid hw
  have HR := Lib.hid hR
  clear hc hw hR
  have c1 := order2_count (ltOf cf) d a b n
  obtain ⟨l1, m1⟩ := order2_lt (lt := ltOf cf) (d := d) (n := n) ha hb
  obtain ⟨r1, hr1⟩ : ∃ r, Hid (order2 (ltOf cf) d a b n = r) := ⟨_, rfl⟩
  rw [hr1.out] at c1 l1 m1
  have c2 := order2_count (ltOf cf) d r1.2.1 c r1.2.2
  obtain ⟨l2, m2⟩ := order2_lt (lt := ltOf cf) (d := d) (n := r1.2.2) m1 hcc
  obtain ⟨r2, hr2⟩ : ∃ r, Hid (order2 (ltOf cf) d r1.2.1 c r1.2.2 = r) := ⟨_, rfl⟩
  rw [hr2.out] at c2 l2 m2
  obtain ⟨r3, hr3⟩ : ∃ r, Hid (order2 (ltOf cf) d r1.1 r2.1 r2.2.2 = r) := ⟨_, rfl⟩
  have em : median (ltOf cf) d a b c n = (r3.2.1, r3.2.2) := by simp only [median, hr1.out, hr2.out, hr3.out]
  rw [em]
  clear em
  obtain ⟨x1, y1, n1⟩ := r1
  obtain ⟨x2, y2, n2⟩ := r2
  obtain ⟨x3, y3, n3⟩ := r3
  simp only at c1 l1 m1 c2 l2 m2
  go_enter Tryz.func126, Tryz.ntmps126
  go_wp2_with fail
  have k1 := order2_run w0 g cap f rv R cf hf HC.out d a b s n w HP.out HR.out ha hb (by omega)
  rw [hr1.out] at k1
  refine k1.mono ?_
  clear k1
  rintro e w1 ⟨rfl, h1⟩
  have H1 := hide h1
  clear h1
  go_wp2_with fail
  have k2 := order2_run w0 g cap f rv R cf hf HC.out d y1 c s n1 w1 H1.out HR.out m1 hcc (by omega)
  rw [hr2.out] at k2
  refine k2.mono ?_
  clear k2
  rintro e w2 ⟨rfl, h2⟩
  have H2 := hide h2
  clear h2
  go_wp2_with fail
  have k3 := order2_run w0 g cap f rv R cf hf HC.out d x1 x2 s n2 w2 H2.out HR.out l1 l2 (by omega)
  rw [hr3.out] at k3
  refine k3.mono ?_
  clear k3
  rintro e w3 ⟨rfl, h3⟩
  go_wp2_with fail
  exact bodyPost_ret (v := .int .i64 (y3 : Nat)) (by simp [results, Tryz.results126, go_sem]) rfl ⟨rfl, h3⟩

set_option maxRecDepth 100000 in
set_option maxHeartbeats 2000000 in
theorem medianAdjacent_run (w0 : World) (g cap f : Nat) (rv : Value) (R : Int → Prop) (cf : Int → Int → Int) (hf : ∀ args w, (callFunc f args).run Tryz.prog w = .ok (.enter f args) w) (hc : CmpOk w0 g f #[rv] #[] R cf)
    (d : Array Int) (a s n : Nat) (w : World) (hw : PW w0 g d s n w) (hR : AllR R d) (h1a : 1 ≤ a) (ha : a + 1 < d.size) (hsz : d.size < 1152921504606846976) (hn : n < 97) :
    Calls Tryz.prog 125 #[.slice (some ⟨g, 0, none⟩) d.size cap, .int .i64 a, .pointer (some ⟨s, 0, none⟩), .func (.func f) #[rv] #[]] w fun e w' =>
      e = .returned (.int .i64 ((medianAdjacent (ltOf cf) d a n).1 : Nat)) ∧ PW w0 g d s (medianAdjacent (ltOf cf) d a n).2 w' := by
  have HC := Lib.hid hc
  have HP := Lib.hid hw
  have HR := Lib.hid hR
  clear hc hw hR
  obtain ⟨p, rfl⟩ : ∃ p, a = p + 1 := ⟨a - 1, by omega⟩
  go_enter Tryz.func125, Tryz.ntmps125
  go_wp2_with fail
  have k1 := median_run w0 g cap f rv R cf hf HC.out d p (p + 1) (p + 1 + 1) s n w HP.out HR.out (by omega) (by omega) (by omega) hn
  have k2 := k1
  push_cast at k2
  have e1 : (p : Int) + 1 - 1 = (p : Int) := by omega
  try rw [e1]
  refine k2.mono ?_
  rintro e w1 ⟨rfl, h1⟩
  go_wp2_with fail
  exact bodyPost_ret (v := .int .i64 ((medianAdjacent (ltOf cf) d (p + 1) n).1 : Nat)) (by simp [results, Tryz.results125, go_sem]; rfl) rfl ⟨rfl, h1⟩

theorem PW.fresh {w0 w : World} {g : Nat} {d : Array Int} (h : SW w0 g d w) (hg : g < w0.heap.size) (T : TypeId) : PW w0 g d w.heap.size 0 (w.alloc (.cells #[.int .i64 0] T)) :=
  ⟨h.old ((Old.refl w).alloc _), by simp, by simp, h.grown.size, by have := h.grown.size; omega⟩

set_option maxRecDepth 100000 in
set_option maxHeartbeats 4000000 in
theorem choosePivot_run (w0 : World) (g cap f : Nat) (rv : Value) (R : Int → Prop) (cf : Int → Int → Int) (hf : ∀ args w, (callFunc f args).run Tryz.prog w = .ok (.enter f args) w) (hc : CmpOk w0 g f #[rv] #[] R cf)
    (d : Array Int) (a b : Nat) (w : World) (hw : SW w0 g d w) (hg : g < w0.heap.size) (hR : AllR R d) (hab : a + 12 < b) (hb : b ≤ d.size) (hsz : d.size < 1152921504606846976) :
    Calls Tryz.prog 106 #[.slice (some ⟨g, 0, none⟩) d.size cap, .int .i64 a, .int .i64 b, .func (.func f) #[rv] #[]] w fun e w' =>
      e = .returned (.tuple #[.int .i64 ((choosePivot (ltOf cf) d a b).1 : Nat), .int .i64 (hintCode (choosePivot (ltOf cf) d a b).2)]) ∧ SW w0 g d w' := by
  have HC := Lib.hid hc
  have HR := Lib.hid hR
  have H0 := hide (PW.fresh hw hg 3)
  clear hc hw hR
  rw [choosePivot_eq]
  obtain ⟨l, hl⟩ : ∃ l : Nat, b = a + l := ⟨b - a, by omega⟩
  subst hl
  obtain ⟨q, hq⟩ : ∃ q : Nat, q = l / 4 := ⟨_, rfl⟩
  have hq1 : 4 * q ≤ l := by omega
  have hq2 : l < 4 * q + 4 := by omega
  obtain ⟨i, hi⟩ : ∃ i : Nat, i = a + q := ⟨_, rfl⟩
  obtain ⟨j, hj⟩ : ∃ j : Nat, j = a + q * 2 := ⟨_, rfl⟩
  obtain ⟨k, hk⟩ : ∃ k : Nat, k = a + q * 3 := ⟨_, rfl⟩
  have hal : a + l - a = l := by omega
  have n1 : a + (a + l - a) / 4 * 1 = i := by omega
  have n2 : a + (a + l - a) / 4 * 2 = j := by omega
  have n3 : a + (a + l - a) / 4 * 3 = k := by omega
  have n4 : a + l - a ≥ 8 := by omega
  have hi1 : a + q ≤ i := by omega
  have hi2 : i ≤ a + q := by omega
  have hj1 : a + q * 2 ≤ j := by omega
  have hj2 : j ≤ a + q * 2 := by omega
  have hk1 : a + q * 3 ≤ k := by omega
  have hk2 : k ≤ a + q * 3 := by omega
  clear hi hj hk hq hal
  go_enter Tryz.func106, Tryz.ntmps106
  by_cases h50 : l < 50
  case' pos =>
    have n5 : ¬ (a + l - a ≥ 50) := by omega
    have c1 := median_count (ltOf cf) d i j k 0
    have em : rawPivot (ltOf cf) d a (a + l) = median (ltOf cf) d i j k 0 := by rw [rawPivot, if_pos n4, if_neg n5, n1, n2, n3]
    clear n1 n2 n3 n4 n5
    obtain ⟨r1, hr1⟩ : ∃ r, Hid (median (ltOf cf) d i j k 0 = r) := ⟨_, rfl⟩
    rw [em, hr1.out]
    clear em
    rw [hr1.out] at c1
    obtain ⟨x, n⟩ := r1
    simp only at c1
    go_wp2_with fail
    rw [show ((a : Int) + (l : Int) - (a : Int)) / 4 = (q : Int) by omega, show (a : Int) + (q : Int) = (i : Int) by omega, show (a : Int) + (q : Int) * 2 = (j : Int) by omega, show (a : Int) + (q : Int) * 3 = (k : Int) by omega]
    have k1 := median_run w0 g cap f rv R cf hf HC.out d i j k w.heap.size 0 _ H0.out HR.out (by omega) (by omega) (by omega) (by omega)
    rw [hr1.out] at k1
    refine k1.mono ?_
    clear k1
    rintro e w1 ⟨rfl, h1⟩
    have H1 := hide h1
    clear h1
  case' neg =>
    have n5 : a + l - a ≥ 50 := by omega
    obtain ⟨r1, hr1⟩ : ∃ r, Hid (medianAdjacent (ltOf cf) d i 0 = r) := ⟨_, rfl⟩
    obtain ⟨r2, hr2⟩ : ∃ r, Hid (medianAdjacent (ltOf cf) d j r1.2 = r) := ⟨_, rfl⟩
    obtain ⟨r3, hr3⟩ : ∃ r, Hid (medianAdjacent (ltOf cf) d k r2.2 = r) := ⟨_, rfl⟩
    obtain ⟨r4, hr4⟩ : ∃ r, Hid (median (ltOf cf) d r1.1 r2.1 r3.1 r3.2 = r) := ⟨_, rfl⟩
    have em : rawPivot (ltOf cf) d a (a + l) = r4 := by rw [rawPivot, if_pos n4, if_pos n5, n1, n2, n3, hr1.out, hr2.out, hr3.out, hr4.out]
    clear n1 n2 n3 n4 n5
    rw [em]
    clear em
    have c1 := medianAdjacent_count (ltOf cf) d i 0
    have c2 := medianAdjacent_count (ltOf cf) d j r1.2
    have c3 := medianAdjacent_count (ltOf cf) d k r2.2
    have c4 := median_count (ltOf cf) d r1.1 r2.1 r3.1 r3.2
    have m1 := medianAdjacent_mem (ltOf cf) d i 0
    have m2 := medianAdjacent_mem (ltOf cf) d j r1.2
    have m3 := medianAdjacent_mem (ltOf cf) d k r2.2
    rw [hr1.out] at c1 m1
    rw [hr2.out] at c2 m2
    rw [hr3.out] at c3 m3
    rw [hr4.out] at c4
    obtain ⟨x1, y1⟩ := r1
    obtain ⟨x2, y2⟩ := r2
    obtain ⟨x3, y3⟩ := r3
    obtain ⟨x, n⟩ := r4
    simp only at c1 c2 c3 c4 m1 m2 m3
    have b1 : x1 < d.size := by clear m2 m3; omega
    have b2 : x2 < d.size := by clear m1 m3; omega
    have b3 : x3 < d.size := by clear m1 m2; omega
    have i1 : 1 ≤ i := by clear m1 m2 m3; omega
    have i2 : i + 1 < d.size := by clear m1 m2 m3; omega
    have i3 : 1 ≤ j := by clear m1 m2 m3; omega
    have i4 : j + 1 < d.size := by clear m1 m2 m3; omega
    have i5 : 1 ≤ k := by clear m1 m2 m3; omega
    have i6 : k + 1 < d.size := by clear m1 m2 m3; omega
    clear m1 m2 m3
    go_wp2_with fail
    rw [show ((a : Int) + (l : Int) - (a : Int)) / 4 = (q : Int) by omega, show (a : Int) + (q : Int) = (i : Int) by omega, show (a : Int) + (q : Int) * 2 = (j : Int) by omega, show (a : Int) + (q : Int) * 3 = (k : Int) by omega]
    have k1 := medianAdjacent_run w0 g cap f rv R cf hf HC.out d i w.heap.size 0 _ H0.out HR.out i1 i2 hsz (by omega)
    rw [hr1.out] at k1
    refine k1.mono ?_
    clear k1
    rintro e w1 ⟨rfl, h1⟩
    have H1 := hide h1
    clear h1
    go_wp2_with fail
    have k1 := medianAdjacent_run w0 g cap f rv R cf hf HC.out d j w.heap.size y1 _ H1.out HR.out i3 i4 hsz (by omega)
    rw [hr2.out] at k1
    refine k1.mono ?_
    clear k1
    rintro e w2 ⟨rfl, h2⟩
    have H2 := hide h2
    clear h2
    go_wp2_with fail
    have k1 := medianAdjacent_run w0 g cap f rv R cf hf HC.out d k w.heap.size y2 _ H2.out HR.out i5 i6 hsz (by omega)
    rw [hr3.out] at k1
    refine k1.mono ?_
    clear k1
    rintro e w3 ⟨rfl, h3⟩
    have H3 := hide h3
    clear h3
    go_wp2_with fail
    have k1 := median_run w0 g cap f rv R cf hf HC.out d x1 x2 x3 w.heap.size y3 _ H3.out HR.out b1 b2 b3 (by omega)
    rw [hr4.out] at k1
    refine k1.mono ?_
    clear k1
    rintro e w1 ⟨rfl, h1⟩
    have H1 := hide h1
    clear h1
  all_goals
    have z1 := H1.out.cell
    rcases (show n = 0 ∨ n = 12 ∨ (n ≠ 0 ∧ n ≠ 12) by omega) with hn | hn | ⟨hn0, hn12⟩
    · subst hn
      go_wp2_with fail
      exact bodyPost_ret (v := .tuple #[.int .i64 (x : Nat), .int .i64 1]) (by simp [results, Tryz.results106, go_sem]) rfl ⟨rfl, H1.out.sw⟩
    · subst hn
      go_wp2_with fail
      exact bodyPost_ret (v := .tuple #[.int .i64 (x : Nat), .int .i64 2]) (by simp [results, Tryz.results106, go_sem]) rfl ⟨rfl, H1.out.sw⟩
    · have hn1 : ¬ (n : Int) = 0 := by omega
      have hn2 : ¬ (n : Int) = 12 := by omega
      go_wp2_with fail
      exact bodyPost_ret (v := .tuple #[.int .i64 (x : Nat), .int .i64 0]) (by simp [results, Tryz.results106, go_sem]) rfl ⟨by simp [hintOf, hn0, hn12, hintCode], H1.out.sw⟩
end Go.Proofs.YtmfbblcipakaiaaGreatDoor

