/- slices.SortFunc over whole blocks of ints, called with a function value whose calls are known by a contract: the ways of its parts. -/
import Derived.Test.YtmfbblcipakaiaaGreatDoorProg
import Derived.Test.YtmfbblcipakaiaaGreatDoorMem
import Derived.Sort.LotA
import Derived.Sort.WalkA
import Derived.BigRegion
namespace Go.Proofs.YtmfbblcipakaiaaGreatDoor
open Go.RowKit Go.Sort

/-- block g holds the ints d -/
def IntsAt (w : World) (g : Nat) (d : Array Int) : Prop := w.heap[g]? = some (.cells (d.map (Value.int .i64)) 3 (0, 0))
theorem IntsAt.cell {w : World} {g : Nat} {d : Array Int} (h : IntsAt w g d) {i : Nat} (hi : i < d.size) : w.cell? ⟨g, i, none⟩ = some (.int .i64 d[i]!) := by
  rw [cell_of_heap h]
  simp [hi]
theorem IntsAt.free {w : World} {g : Nat} {d : Array Int} (h : IntsAt w g d) (i : Nat) : w.frozen? ⟨g, i, none⟩ = false := free_of_heap h
theorem IntsAt.set {w : World} {g : Nat} {d : Array Int} (h : IntsAt w g d) (i : Nat) (x : Int) : IntsAt (w.setCell ⟨g, i, none⟩ (.int .i64 x)) g (d.setIfInBounds i x) := by
  unfold IntsAt at *
  simp [World.setCell, Array.getElem?_modify, h]
theorem IntsAt.swp {w : World} {g : Nat} {d : Array Int} (h : IntsAt w g d) (i j : Nat) : IntsAt ((w.setCell ⟨g, i, none⟩ (.int .i64 d[j]!)).setCell ⟨g, j, none⟩ (.int .i64 d[i]!)) g (Sort.swp d i j) := (h.set i _).set j _

/-- the world of a sort that began in w0: all that lay there but block g is as it was; block g holds d -/
structure SW (w0 : World) (g : Nat) (d : Array Int) (w : World) : Prop where
  grown : w0.grownBy w (some g)
  ints : IntsAt w g d
theorem grown_old {w0 w w' : World} {g : Nat} (h : w0.grownBy w (some g)) (k : Old w w') : w0.grownBy w' (some g) :=
  ⟨k.os.trans h.os, k.tape.trans h.tape, k.output.trans h.output, Nat.le_trans h.size k.size, fun i hi hne => (k.block i (Nat.lt_of_lt_of_le hi h.size)).trans (h.block i hi hne)⟩
theorem SW.old {w0 w w' : World} {g : Nat} {d : Array Int} (h : SW w0 g d w) (k : Old w w') : SW w0 g d w' := ⟨grown_old h.grown k, k.heap h.ints⟩
theorem SW.drew {w0 w : World} {g : Nat} {d : Array Int} (h : SW w0 g d w) : SW w0 g d w.drew := h.old (Old.drew (Old.refl w))
theorem grown_set {w0 w : World} {g : Nat} (h : w0.grownBy w (some g)) (i : Nat) (u : Value) : w0.grownBy (w.setCell ⟨g, i, none⟩ u) (some g) :=
  ⟨h.os, h.tape, h.output, by simpa using h.size, fun k hk hne => (Below.heap_setCell w ⟨g, i, none⟩ u k (fun e => hne (by rw [e]))).trans (h.block k hk hne)⟩
theorem SW.swp {w0 w : World} {g : Nat} {d : Array Int} (h : SW w0 g d w) (i j : Nat) : SW w0 g (Sort.swp d i j) ((w.setCell ⟨g, i, none⟩ (.int .i64 d[j]!)).setCell ⟨g, j, none⟩ (.int .i64 d[i]!)) :=
  ⟨grown_set (grown_set h.grown _ _) _ _, h.ints.swp i j⟩

/-- what is asked of the function value -/
def CmpOk (w0 : World) (g : Nat) (f : FuncId) (pre post : Array Value) (R : Int → Prop) (cf : Int → Int → Int) : Prop :=
  ∀ (d : Array Int) (w : World), SW w0 g d w → ∀ x y : Int, R x → R y → Calls Tryz.prog f (pre ++ #[.int .i64 x, .int .i64 y] ++ post) w fun e w' => e = .returned (.int .i64 (cf x y)) ∧ Old w w'
def ltOf (cf : Int → Int → Int) (x y : Int) : Bool := decide (cf x y < 0)
def AllR (R : Int → Prop) (d : Array Int) : Prop := ∀ i, i < d.size → R d[i]!

theorem hide {p : Prop} (h : p) : Hid p := h
theorem size_swp (d : Array Int) (i j : Nat) : (Sort.swp d i j).size = d.size := by simp [Sort.swp]
theorem AllR_swp {R : Int → Prop} {d : Array Int} (h : AllR R d) {i j : Nat} (hi : i < d.size) (hj : j < d.size) : AllR R (Sort.swp d i j) := by
  intro k hk
  rw [size_swp] at hk
  have hi' := h i hi
  have hj' := h j hj
  have hk' := h k hk
  simp only [Sort.swp, getElem!_def, Array.getElem?_setIfInBounds, Array.size_setIfInBounds] at *
  by_cases e1 : j = k
  · subst e1
    simpa [hj] using hi'
  · by_cases e2 : i = k
    · subst e2
      simpa [e1, hi] using hj'
    · simpa [e1, e2] using hk'
theorem look {R : Int → Prop} {w0 w : World} {g : Nat} {d : Array Int} (hw : Hid (SW w0 g d w)) (hR : Hid (AllR R d)) (i : Nat) (hi : i < d.size) :
    ∃ v, Hid (v = d[i]!) ∧ Hid (R v) ∧ ∀ p : Later w, p.world.cell? ⟨g, i, none⟩ = some (.int .i64 v) :=
  ⟨d[i]!, rfl, hR i hi, fun p => (SW.old hw p.old).ints.cell hi⟩
theorem looked {w0 w : World} {g : Nat} {d : Array Int} (hw : SW w0 g d w) {i : Nat} {v : Int} (hv : Hid (v = d[i]!)) (hi : i < d.size) : ∀ p : Later w, p.world.cell? ⟨g, i, none⟩ = some (.int .i64 v) := fun p => by
  rw [hv.out]; exact (SW.old hw p.old).ints.cell hi
theorem lookedAt {w0 w : World} {g : Nat} {d : Array Int} (hw : SW w0 g d w) {i : Nat} {v : Int} (hv : Hid (v = d[i]!)) (hi : i < d.size) : w.cell? ⟨g, i, none⟩ = some (.int .i64 v) := by
  rw [hv.out]; exact hw.ints.cell hi
theorem ask {R : Int → Prop} {w0 w : World} {g f : Nat} {rv : Value} {cf : Int → Int → Int} {d : Array Int} (hc : Hid (CmpOk w0 g f #[rv] #[] R cf)) (hw : SW w0 g d w) {x y : Int} (hx : Hid (R x)) (hy : Hid (R y)) :
    Hid (∀ p : Later w, Calls Tryz.prog f #[rv, .int .i64 x, .int .i64 y] p.world fun e w' => e = .returned (.int .i64 (cf x y)) ∧ Old p.world w') := fun p => by
  simpa using hc d p.world (hw.old p.old) x y hx hy
set_option maxRecDepth 100000 in
set_option maxHeartbeats 1000000 in
theorem insertionSort_run (w0 : World) (g cap f : Nat) (rv : Value) (R : Int → Prop) (cf : Int → Int → Int) (hf : ∀ args w, (callFunc f args).run Tryz.prog w = .ok (.enter f args) w) (hc : CmpOk w0 g f #[rv] #[] R cf)
    (d : Array Int) (a b : Nat) (w : World) (hw : SW w0 g d w) (hR : AllR R d) (hab : a ≤ b) (hb : b ≤ d.size) (hsz : d.size < 4611686018427387904) :
    Calls Tryz.prog 103 #[.slice (some ⟨g, 0, none⟩) d.size cap, .int .i64 a, .int .i64 b, .func (.func f) #[rv] #[]] w fun e w' => e = .returned (.tuple #[]) ∧ SW w0 g (insertionSort (ltOf cf) d a b) w' := by
  have HC := Lib.hid hc
  have HW := Lib.hid hw
  have HR := Lib.hid hR
  clear hc hw hR
  go_enter Tryz.func103, Tryz.ntmps103
  go_wp2_with fail
  go_loopw [8] (fun i wr => ∃ (k : Nat) (dk : Array Int), i = .int .i64 k ∧ a < k ∧ k ≤ b + 1 ∧ Hid (dk.size = d.size) ∧ Hid (SW w0 g dk wr) ∧ Hid (AllR R dk) ∧ Hid (insOuter (ltOf cf) a b k dk = insOuter (ltOf cf) a b (a + 1) d)) (fun i _ => b + 1 - (intOf i).toNat)
  case atStart => exact ⟨a + 1, d, by go_num, by omega, by omega, rfl, HW, HR, rfl⟩
  case round =>
    obtain ⟨k, dk, rfl, hak, hkb, hsk, HWk, HRk, HEk⟩ := hrel
    by_cases hlt : k < b
    · go_wp2_with fail
      go_loopw [9] (fun jv wr2 => ∃ (j : Nat) (dj : Array Int), jv = .int .i64 j ∧ a ≤ j ∧ j ≤ k ∧ Hid (dj.size = d.size) ∧ Hid (SW w0 g dj wr2) ∧ Hid (AllR R dj) ∧ Hid (insInner (ltOf cf) a j dj = insInner (ltOf cf) a k dk)) (fun jv _ => (intOf jv).toNat)
      case atStart => exact ⟨k, dk, rfl, by omega, Nat.le_refl _, hsk, HWk, HRk, rfl⟩
      case round =>
        obtain ⟨j, dj, rfl, haj, hjk, hsj, HWj, HRj, HEj⟩ := hrel
        by_cases hja : a < j
        · obtain ⟨jp, rfl⟩ : ∃ q, j = q + 1 := ⟨j - 1, by omega⟩
          have hjad : decide ((jp : Int) + 1 > (a : Int)) = true := decide_eq_true (by omega)
          have hjaz : (a : Int) < (jp : Int) + 1 := by omega
          have hj1 : jp + 1 < d.size := by omega
          have hjs : jp + 1 < dj.size := by rw [hsj.out]; omega
          have hx : ∀ p : Later wr, p.world.cell? ⟨g, jp + 1, none⟩ = some (.int .i64 dj[jp + 1]!) := fun p => (HWj.out.old p.old).ints.cell hjs
          have hy : ∀ p : Later wr, p.world.cell? ⟨g, jp, none⟩ = some (.int .i64 dj[jp]!) := fun p => (HWj.out.old p.old).ints.cell (by omega)
          have hcall : ∀ p : Later wr, Calls Tryz.prog f #[rv, .int .i64 dj[jp + 1]!, .int .i64 dj[jp]!] p.world fun e w' => e = .returned (.int .i64 (cf dj[jp + 1]! dj[jp]!)) ∧ Old p.world w' := fun p => by
            simpa using HC.out dj p.world (HWj.out.old p.old) _ _ (HRj.out _ hjs) (HRj.out _ (by omega))
          have HCALL := Lib.hid hcall
          have HS := Lib.hid hjs
          clear hcall hjs
          by_cases hneg : cf dj[jp + 1]! dj[jp]! < 0
          · go_wp2_with fail
            refine region_later (by kernel_rfl) (by kernel_rfl) ?_
            repeat (go_big_quiet_step ((exact Later.call (HCALL.out _))))
            refine wpQuiet_nil ?_
            rintro wq ⟨⟨_, hwq⟩, rfl⟩
            clear hx hy
            have x1 := (HWj.out.old hwq).ints.cell HS.out
            have y1 := (HWj.out.old hwq).ints.cell (i := jp) (by have := HS.out; omega)
            have f1 := (HWj.out.old hwq).ints.free (jp + 1)
            have f2 := (HWj.out.old hwq).ints.free jp
            go_wp2_with fail
            go_region
            all_goals
              clear x1 y1 f1 f2
              go_wp2_with fail
              go_roundw
              case rel => exact ⟨jp, Sort.swp dj (jp + 1) jp, by go_num, by omega, by omega, hide (by rw [size_swp]; exact hsj.out), hide ((HWj.out.old hwq).swp (jp + 1) jp).drew, hide (AllR_swp HRj.out HS.out (by have := HS.out; omega)), hide (by rw [← HEj.out, insInner_go _ _ _ _ hja (by simpa [ltOf] using hneg)]; rfl)⟩
              case measure => simp [intOf]
          · go_wp2_with fail
            refine region_later (by kernel_rfl) (by kernel_rfl) ?_
            repeat (go_big_quiet_step ((exact Later.call (HCALL.out _))))
            refine wpQuiet_nil ?_
            rintro wq ⟨⟨_, hwq⟩, rfl⟩
            clear hx hy
            go_wp2_with fail
            go_roundw
            case rel => exact ⟨k + 1, dj, by go_num, by omega, by omega, hsj, hide (HWj.out.old hwq), HRj, hide (by rw [← HEk.out, insOuter_go _ _ _ _ _ hlt, ← HEj.out, insInner_stop _ _ _ _ (Or.inr (by simpa [ltOf] using hneg))])⟩
            case measure => simp [intOf]; omega
        · have hjad : decide ((j : Int) > (a : Int)) = false := decide_eq_false (by omega)
          go_wp2_with fail
          refine region_later (by kernel_rfl) (by kernel_rfl) ?_
          repeat (go_big_quiet_step (fail))
          refine wpQuiet_nil ?_
          rintro wq ⟨⟨_, hwq⟩, rfl⟩
          go_wp2_with fail
          go_roundw
          case rel => exact ⟨k + 1, dj, by go_num, by omega, by omega, hsj, hide (HWj.out.old hwq), HRj, hide (by rw [← HEk.out, insOuter_go _ _ _ _ _ hlt, ← HEj.out, insInner_stop _ _ _ _ (Or.inl (by omega))])⟩
          case measure => simp [intOf]; omega
    · go_wp2_with fail
      go_end0
      exact ⟨rfl, by
        have h := HWk.out
        rw [insertionSort, ← HEk.out, insOuter_stop _ _ _ _ _ hlt]
        exact h⟩
end Go.Proofs.YtmfbblcipakaiaaGreatDoor

