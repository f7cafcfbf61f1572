/- The walk of zset.Norm, and what it computes. -/
import Derived.Test.YtmfbblcipakaiaaGreatDoorNorma
namespace Go.Proofs.YtmfbblcipakaiaaGreatDoor
open Go.RowKit Go.Sort

theorem int_fit {s : Int} (h : fit s) : intOr s = s ∧ intErr s = 0 := by
  unfold fit at h
  have : fits s = true := by simp [fits]; omega
  simp [intOr, intErr, this]
theorem int_unfit {s : Int} (h : ¬ fit s) : intOr s = 0 ∧ intErr s = 50 := by
  unfold fit at h
  have : fits s = false := by simp [fits]; omega
  simp [intOr, intErr, this]

def rowAt (l : List Item) (d : Array Int) (k : Nat) : List Cell := (itemAt l d[k]!).row
/-- the state of Norm at place k -/
structure NormSt (l : List Item) (d : Array Int) (k : Nat) (out : List Item) : Prop where
  zok : ZOk out
  wts : ∀ r, wOf out r = wOf ((inOrder l d).take k) r
  sep : ∀ i j, i < k → k ≤ j → j < l.length → rowCmp (rowAt l d i) (rowAt l d j) < 0
  mem : ∀ x ∈ out, ∃ i, i < k ∧ rowAt l d i = x.row
  fits : ∀ r, fit (wOf ((inOrder l d).take k) r)
  len : out.length ≤ k
theorem NormSt.zero (l : List Item) (d : Array Int) : NormSt l d 0 [] where
  zok := ⟨List.Pairwise.nil, by simp⟩
  wts := by simp
  sep := by intro i j h; omega
  mem := by simp
  fits := by intro r; simp [wOf, fit]
  len := Nat.le_refl _
theorem take_far {l : List Item} {d : Array Int} {k0 : Nat} {r : List Cell} (h : ∀ i, i < k0 → i < d.size → rowAt l d i ≠ r) : wOf ((inOrder l d).take k0) r = 0 := by
  refine wOf_none fun x hx e => ?_
  obtain ⟨i, hi, he⟩ := List.getElem_of_mem hx
  have hl : i < k0 ∧ i < d.size := by
    have := by simpa [inOrder] using hi
    omega
  apply h i hl.1 hl.2
  rw [← e, ← he]
  simp [inOrder, rowAt, hl.2]
theorem take_same {l : List Item} {d : Array Int} {k0 k : Nat} {r : List Cell} (hk : k0 ≤ k) (hd : k ≤ d.size) (h : ∀ i, k0 ≤ i → i < k → rowAt l d i ≠ r) : wOf ((inOrder l d).take k) r = wOf ((inOrder l d).take k0) r := by
  induction k with
  | zero => have : k0 = 0 := by omega
            subst this; rfl
  | succ k ih =>
    rcases Nat.lt_or_ge k k0 with h1 | h1
    · have : k0 = k + 1 := by omega
      rw [this]
    · rw [take_wOf (by omega), if_neg (show ¬ (itemAt l d[k]!).row = r from h k h1 (by omega)), Int.add_zero]
      exact ih h1 (by omega) (fun i h2 h3 => h i h2 (by omega))
section
variable {l out : List Item} {d : Array Int} {k0 k m : Nat}
theorem NormSt.start (h : NormSt l d k0 out) (hk : k0 < l.length) : wOf ((inOrder l d).take k0) (rowAt l d k0) = 0 :=
  take_far fun i h1 _ => rowCmp_lt_ne (h.sep i k0 h1 (Nat.le_refl _) hk)
theorem NormSt.seg (h : NormSt l d k0 out) (hk : k0 < l.length) : segW l d (rowAt l d k0) k0 k = wOf ((inOrder l d).take k) (rowAt l d k0) := by
  unfold segW
  rw [h.start hk]
  omega
theorem run_sep (hP : Places l d) (h : NormSt l d k0 out) (hk : k0 < k) (hkm : k + m = l.length) (he : ∀ i, k0 ≤ i → i < k → rowAt l d i = rowAt l d k0) (hn : 0 < m → rowAt l d k ≠ rowAt l d k0) :
    ∀ i j, i < k → k ≤ j → j < l.length → rowCmp (rowAt l d i) (rowAt l d j) < 0 := by
  intro i j hi hj hjl
  rcases Nat.lt_or_ge i k0 with h1 | h1
  · exact h.sep i j h1 (by omega) hjl
  · rw [he i h1 hi]
    have h2 := hP.rise k0 k hk (by omega)
    have h3 : rowCmp (rowAt l d k0) (rowAt l d k) < 0 := by
      have : rowCmp (rowAt l d k0) (rowAt l d k) ≠ 0 := fun e => hn (by omega) (rowCmp_zero.1 e).symm
      unfold rowAt at *
      omega
    rcases Nat.lt_or_ge k j with h4 | h4
    · exact rowCmp_lt_le h3 (hP.rise k j h4 hjl)
    · have : j = k := by omega
      subst this
      exact h3
theorem NormSt.other (hP : Places l d) (hk : k0 < k) (hkm : k + m = l.length) (he : ∀ i, k0 ≤ i → i < k → rowAt l d i = rowAt l d k0) (r : List Cell) (hr : r ≠ rowAt l d k0) :
    wOf ((inOrder l d).take k) r = wOf ((inOrder l d).take k0) r :=
  take_same (by omega) (by rw [hP.size]; omega) (fun i h1 h2 e => hr (by rw [← e, he i h1 h2]))
theorem NormSt.skip (hP : Places l d) (h : NormSt l d k0 out) (hk : k0 < k) (hkm : k + m = l.length) (he : ∀ i, k0 ≤ i → i < k → rowAt l d i = rowAt l d k0) (hn : 0 < m → rowAt l d k ≠ rowAt l d k0)
    (h0 : segW l d (rowAt l d k0) k0 k = 0) : NormSt l d k out := by
  have hs := h.seg (k := k) (by omega)
  rw [h0] at hs
  have hw : ∀ r, wOf ((inOrder l d).take k) r = wOf ((inOrder l d).take k0) r := fun r => by
    by_cases hr : r = rowAt l d k0
    · rw [hr, ← hs, h.start (show k0 < l.length by omega)]
    · exact NormSt.other hP hk hkm he r hr
  exact ⟨h.zok, fun r => (h.wts r).trans (hw r).symm, run_sep hP h hk hkm he hn, fun x hx => by
    obtain ⟨i, h1, h2⟩ := h.mem x hx
    exact ⟨i, by omega, h2⟩, fun r => by rw [hw]; exact h.fits r, by have := h.len; omega⟩
theorem NormSt.push (hP : Places l d) (h : NormSt l d k0 out) (hk : k0 < k) (hkm : k + m = l.length) (he : ∀ i, k0 ≤ i → i < k → rowAt l d i = rowAt l d k0) (hn : 0 < m → rowAt l d k ≠ rowAt l d k0)
    (h0 : segW l d (rowAt l d k0) k0 k ≠ 0) (hf : fit (segW l d (rowAt l d k0) k0 k)) : NormSt l d k (out ++ [⟨rowAt l d k0, segW l d (rowAt l d k0) k0 k⟩]) := by
  have hs := h.seg (k := k) (by omega)
  have hst := h.start (show k0 < l.length by omega)
  refine ⟨⟨?_, ?_⟩, fun r => ?_, run_sep hP h hk hkm he hn, fun x hx => ?_, fun r => ?_, ?_⟩
  · refine List.pairwise_append.2 ⟨h.zok.1, by simp, fun x hx y hy => ?_⟩
    simp at hy
    subst hy
    obtain ⟨i, h1, h2⟩ := h.mem x hx
    rw [← h2]
    exact h.sep i k0 h1 (Nat.le_refl _) (by omega)
  · intro x hx
    rcases List.mem_append.1 hx with hx | hx
    · exact h.zok.2 x hx
    · simp at hx; subst hx; exact h0
  · rw [wOf_append]
    by_cases hr : rowAt l d k0 = r
    · subst hr
      rw [h.wts, hst, hs]
      simp [wOf]
    · rw [h.wts, NormSt.other hP hk hkm he r (Ne.symm hr)]
      simp [wOf, hr]
  · rcases List.mem_append.1 hx with hx | hx
    · obtain ⟨i, h1, h2⟩ := h.mem x hx
      exact ⟨i, by omega, h2⟩
    · simp at hx; subst hx; exact ⟨k0, hk, rfl⟩
  · by_cases hr : r = rowAt l d k0
    · rw [hr, ← hs]; exact hf
    · rw [NormSt.other hP hk hkm he r hr]; exact h.fits r
  · have := h.len
    simp
    omega
theorem NormSt.done (hP : Places l d) (h : NormSt l d l.length out) : normErr l = 0 ∧ normOut l = out := by
  have hl : (inOrder l d).take l.length = inOrder l d := by rw [List.take_of_length_le]; rw [hP.perm.length_eq]; exact Nat.le_refl _
  have hw : ∀ r, wOf ((inOrder l d).take l.length) r = wOf l r := fun r => by rw [hl]; exact wOf_perm hP.perm r
  exact norm_unique (fun r => by rw [← hw]; exact h.fits r) h.zok (fun r => (h.wts r).trans (hw r))
theorem NormSt.bad (hP : Places l d) (h : NormSt l d k0 out) (hk : k0 < k) (hkm : k + m = l.length) (he : ∀ i, k0 ≤ i → i < k → rowAt l d i = rowAt l d k0) (hn : 0 < m → rowAt l d k ≠ rowAt l d k0)
    (hf : ¬ fit (segW l d (rowAt l d k0) k0 k)) : normErr l = 50 ∧ normOut l = [] := by
  have hs := h.seg (k := k) (by omega)
  have hl : (inOrder l d).take l.length = inOrder l d := by rw [List.take_of_length_le]; rw [hP.perm.length_eq]; exact Nat.le_refl _
  have hw : wOf l (rowAt l d k0) = segW l d (rowAt l d k0) k0 k := by
    rw [hs, ← wOf_perm hP.perm]
    exact (congrArg (fun z => wOf z (rowAt l d k0)) hl.symm).trans <| take_same (k0 := k) (k := l.length) (by omega) (by rw [hP.size]; exact Nat.le_refl _) (fun i h1 h2 e => by
      have := run_sep hP h hk hkm he hn k0 i hk h1 h2
      exact rowCmp_lt_ne this e.symm)
  have h1 : normErr l = 50 := normErr_bad (r := rowAt l d k0) (by rw [hw]; exact hf)
  exact ⟨h1, normOut_bad (by omega)⟩
end

theorem own_grown {base T size n : Nat} {w w' : World} {v : Value} {xs : List Value} {row : Option Nat} (h : w.ownsRow base T size v n xs) (hg : w.grownBy w' row)
    (hne : ∀ g, row = some g → ∃ cs T' f, w.heap[g]? = some (.cells cs T' f) ∧ T' ≠ T) : w'.ownsRow base T size v n xs := by
  obtain ⟨hl, h2⟩ := h
  refine ⟨hl, ?_⟩
  rcases h2 with h2 | ⟨g, cap, cur, rfl, hb', hh, r⟩
  · exact .inl h2
  · refine .inr ⟨g, cap, cur, rfl, hb', ?_, r⟩
    rw [hg.block g (block_lt hh) ?_]
    · exact hh
    · intro e
      obtain ⟨cs', T', f, hh', hT⟩ := hne g e.symm
      rw [hh] at hh'
      injection hh' with hh'
      injection hh' with _ hT' _
      exact hT hT'.symm
theorem ItemsOwn.grown {tI tC base : Nat} {w w' : World} {v : Value} {l : List Item} {g T' : Nat} {cs : Array Value} {f : Nat × Nat} (h : ItemsOwn tI tC base w v l) (hg : w.grownBy w' (some g))
    (hh : w.heap[g]? = some (.cells cs T' f)) (h1 : T' ≠ tI) (h2 : T' ≠ tC) : ItemsOwn tI tC base w' v l := by
  obtain ⟨vs, e1, e2, e3⟩ := h
  exact ⟨vs, e1, own_grown e2 hg (fun k hk => by injection hk with hk; subst hk; exact ⟨_, _, _, hh, h1⟩), fun i hi hi' => (e3 i hi hi').grown hg (fun k hk => by injection hk with hk; subst hk; exact ⟨_, _, _, hh, h2⟩)⟩

structure NormW (w w2 : World) (q0 g k m : Nat) (wr : World) : Prop where
  grown : w2.grownBy wr (some q0)
  place : wr.heap[q0]? = some (.cells #[.slice (pAddr g k m) m m] 67 (0, 0))
theorem NormW.len {w w2 wr : World} {q0 g k m : Nat} (h : NormW w w2 q0 g k m wr) : lenAt wr q0 = m := by
  unfold lenAt
  rw [cell_of_heap h.place]
  rfl
theorem NormW.old {w w2 wr w' : World} {q0 g k m : Nat} (h : NormW w w2 q0 g k m wr) (ho : Old wr w') : NormW w w2 q0 g k m w' := ⟨grown_old h.grown ho, ho.heap h.place⟩

theorem grown_low {w0 w w' : World} {r : Option Nat} (h : w0.grownBy w r) (k : Below w0.heap.size w w') : w0.grownBy w' r :=
  ⟨k.os.trans h.os, k.tape.trans h.tape, k.output.trans h.output, Nat.le_trans h.size k.size, fun i hi hne => (k.block i hi).trans (h.block i hi hne)⟩
theorem grown_trans {w0 w w' : World} {r : Option Nat} (h : w0.grownBy w r) (k : w.grownBy w' r) : w0.grownBy w' r :=
  ⟨k.os.trans h.os, k.tape.trans h.tape, k.output.trans h.output, Nat.le_trans h.size k.size, fun i hi hne => (k.block i (Nat.lt_of_lt_of_le hi h.size) hne).trans (h.block i hi hne)⟩
theorem pAddr_zero (g n : Nat) : some ⟨g, 0, none⟩ = pAddr g 0 n := by unfold pAddr; split <;> rfl
theorem NormW.kept {w w2 wr wx w4 : World} {g k m : Nat} (h : NormW w w2 w2.heap.size g k m wr) (ho : Old wr wx) (kp : Kept 60 w2.heap.size wx w4) : NormW w w2 w2.heap.size g k m w4 :=
  ⟨grown_low (h.old ho).grown kp.low, kp.other _ _ _ _ (h.old ho).place (by decide)⟩
theorem ret_pair {v : Value} {a b : Int} (h : a = b) : Ending.returned (.tuple #[v, .int .i64 b]) = .returned (.tuple #[v, .int .i64 a]) := by rw [h]
/-- items and a number are handed back -/
def NewItems2 (w0 : World) (l : List Item) (n : Int) (e : Ending) (w' : World) : Prop :=
  ∃ v, e = .returned (.tuple #[v, .int .i64 n]) ∧ ItemsT 60 65 w0.heap.size w' v l ∧ Old w0 w'

set_option maxRecDepth 100000 in
set_option maxHeartbeats 2000000 in
theorem zset_Norm (v : Value) (l : List Item) (w : World) (hl : ItemsIs w v l) (hn : l.length ≤ 1048576) (hs : Short l) (hf : ∀ x ∈ l, fit x.w) :
    Calls Tryz.prog 23 #[v] w (NewItems2 w (normOut l) (normErr l)) := by
  have HL := hide hl
  have HS := hide hs
  have HF := hide hf
  obtain ⟨A, ca, us, rfl, hla, hma, hul, hur, ha⟩ := hl.open_
  unfold maxLen at hma
  have CS := hide (show ∀ w', Old w w' → Calls Tryz.prog 50 #[.slice A l.length ca] w' fun e w2 => ∃ g d, e = .returned (.slice (some ⟨g, 0, none⟩) l.length l.length) ∧ w'.heap.size ≤ g ∧ IntsAt w2 g d ∧ Places l d ∧ Old w' w2 from fun w' h => items_sorted _ l w' (HL.out.old h) hn)
  clear hur ha hs hf
  go_enter Tryz.func23, Tryz.ntmps23
  go_wp2_with fail
  refine (CS.out _ (((Old.refl w).alloc _).alloc _)).mono ?_
  rintro e w2 ⟨g, d, rfl, hg, hI, hP, ho⟩
  have c2 := hide (show w2.cell? ⟨w.heap.size, 0, none⟩ = some (.slice A l.length ca) from ho.cell (by go_simp))
  have c1 := hide (show w2.cell? ⟨w.heap.size + 1, 0, none⟩ = some (.slice A l.length ca) from ho.cell (by go_simp))
  have HO := hide (Old.trans (((Old.refl w).alloc _).alloc _) ho)
  have HI := hide hI
  have HP := hide hP
  have hgs : g < w2.heap.size := block_lt hI
  clear ho hI hP hl
  go_wp2_with fail
  go_loopw [2] (fun o wr => ∃ (k m : Nat) (out : List Item), k + m = l.length ∧ Hid (NormSt l d k out) ∧ Hid (NormW w w2 w2.heap.size g k m wr) ∧ Hid (ItemsOwn 60 65 w2.heap.size wr o out)) (fun _ wr => lenAt wr w2.heap.size)
  case atStart =>
    refine ⟨0, l.length, [], by omega, hide (NormSt.zero _ _), hide ⟨grown_old (World.grownBy.refl w2 _) ((Old.refl w2).alloc _), ?_⟩, hide (ItemsOwn.nil_ _)⟩
    rw [pAddr_zero g l.length]
    exact Array.getElem?_push_size
  case round =>
    obtain ⟨k, m, out, hkm, HST, HW, HOWN⟩ := hrel
    have pp : wr.cell? ⟨w2.heap.size, 0, none⟩ = some (.slice (pAddr g k m) m m) := by rw [cell_of_heap HW.out.place]; rfl
    by_cases hm0 : 0 < m
    · have HC := hide (norm_fn w2.heap.size (w.heap.size + 1) w.heap.size g k m _ l d w2 wr (grown_new (Old.refl w2) HW.out.grown (Nat.le_refl _)) (HL.out.old HO.out) HI.out c1.out c2.out (Nat.le_refl _) (block_lt HW.out.place) (by rw [HW.out.place, pAddr_pos hm0]) hkm hm0 HP.out hn HS.out HF.out)
      go_wp2_with fail
      refine HC.out.mono ?_
      rintro e w3 ⟨k', m', rv, hk', hkm', he, hn', rfl, hrv, hgr, hpl⟩
      clear pp
      obtain ⟨A3, c3, rfl, _⟩ := id hrv
      have HOW3 := hide (HOWN.out.grown hgr HW.out.place (by decide) (by decide))
      have hle := hide (Nat.le_trans HW.out.grown.size (Nat.le_refl _))
      have HW3 := hide (show NormW w w2 w2.heap.size g k' m' w3 from ⟨grown_trans HW.out.grown hgr, hpl⟩)
      have HRV := hide (show SlT 65 w2.heap.size w3 (.slice A3 (itemAt l d[k]!).row.length c3) (rowAt l d k).length (rowVals (rowAt l d k)) from hrv.mono HW.out.grown.size)
      by_cases hfit : fit (segW l d (itemAt l d[k]!).row k k')
      · obtain ⟨e1, e2⟩ := int_fit hfit
        rw [e1, e2]
        by_cases h0 : segW l d (itemAt l d[k]!).row k k' = 0
        · have HN := hide (HST.out.skip HP.out hk' hkm' he hn' h0)
          rw [h0]
          clear hgr hpl hrv he hn' hfit e1 e2 h0
          go_wp2_with fail
          go_roundw
          case rel => exact ⟨k', m', out, hkm', HN, hide (HW3.out.old ((Old.refl w3).alloc _)), hide (HOW3.out.old ((Old.refl w3).alloc _))⟩
          case measure =>
            rw [HW.out.len]
            exact Nat.lt_of_le_of_lt (Nat.le_of_eq (HW3.out.old ((Old.refl w3).alloc _)).len) (by omega)
        · have HN := hide (HST.out.push HP.out hk' hkm' he hn' h0 hfit)
          have hout := HST.out.len
          obtain ⟨S, hS⟩ : ∃ S, Hid (segW l d (rowAt l d k) k k' = S) := ⟨_, rfl⟩
          rw [hS.out] at HN
          rw [show segW l d (itemAt l d[k]!).row k k' = S from hS.out] at *
          have h0' : (S != 0) = true := by simpa using h0
          clear hgr hpl hrv he hn' hfit e1 e2 h0
          go_wp2_with (at_builtin; refine wpList_plain rfl (fun K hK => ?_); refine step_push_item _ _ _ rfl w2.heap.size _ out rfl (HOW3.out.old (((Old.refl w3).alloc _).alloc _)) _ _ (.slice A3 (itemAt l d[k]!).row.length c3) (rowAt l d k) S rfl (by go_simp) (by go_simp) (HRV.out.old (((Old.refl w3).alloc _).alloc _)) (by omega) (Nat.le_trans HW3.out.grown.size (((Old.refl w3).alloc _).alloc _).size) ?_; intro v' w4 own4 kept4; refine hK _ _ ?_; clear hK)
          have HW5 := hide (HW3.out.kept (((Old.refl w3).alloc _).alloc _) kept4)
          go_roundw
          case rel => exact ⟨k', m', _, hkm', HN, HW5, hide own4⟩
          case measure =>
            rw [HW.out.len]
            exact Nat.lt_of_le_of_lt (Nat.le_of_eq HW5.out.len) (by omega)
      · obtain ⟨e1, e2⟩ := int_unfit hfit
        rw [e1, e2]
        obtain ⟨n1, n2⟩ := HST.out.bad HP.out hk' hkm' he hn' hfit
        have N1 := hide n1
        have N2 := hide n2
        clear hgr hpl hrv he hn' hfit e1 e2 n1 n2
        go_wp2_with fail
        go_ret2
        refine ⟨_, ret_pair N1.out, ?_, ?_⟩
        · rw [N2.out]; exact ⟨[], rfl, SlT.nil_ _, fun i h => absurd h (by simp)⟩
        · exact Old.trans HO.out (grown_new (Old.refl w2) (HW3.out.old ((Old.refl w3).alloc _)).grown (Nat.le_refl _))
    · have hkn : k = l.length := by omega
      have hd := HST.out
      rw [hkn] at hd
      obtain ⟨n1, n2⟩ := hd.done HP.out
      have N1 := hide n1
      have N2 := hide n2
      clear n1 n2 hd
      go_wp2_with fail
      go_ret2
      refine ⟨_, ret_pair N1.out, ?_, ?_⟩
      · rw [N2.out]; exact HOWN.out.t.mono HO.out.size
      · exact Old.trans HO.out (grown_new (Old.refl w2) HW.out.grown (Nat.le_refl _))
end Go.Proofs.YtmfbblcipakaiaaGreatDoor

