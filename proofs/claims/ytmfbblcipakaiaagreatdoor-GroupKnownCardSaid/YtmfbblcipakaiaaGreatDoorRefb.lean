/- The document's Norm. -/
import Derived.Test.YtmfbblcipakaiaaGreatDoorRefc
namespace Go.Proofs.YtmfbblcipakaiaaGreatDoor
open Go.RowKit

/-- items in a row of the call's own from block bo on, their rows in blocks from br on -/
def Rows2 (bo br : Nat) (w : World) (v : Value) (l : List Item) : Prop :=
  ∃ vs : List Value, vs.length = l.length ∧ w.ownsRow bo 60 2 v l.length (itemVals vs l) ∧ ∀ i, (h : i < l.length) → (h' : i < vs.length) → SlT 65 br w vs[i] l[i].row.length (rowVals l[i].row)
def ReadT (br : Nat) (w : World) (v : Value) (l : List Item) : Prop :=
  ∃ vs : List Value, vs.length = l.length ∧ Sl w v l.length (itemVals vs l) ∧ ∀ i, (h : i < l.length) → (h' : i < vs.length) → SlT 65 br w vs[i] l[i].row.length (rowVals l[i].row)
theorem Rows2.old {bo br : Nat} {w w' : World} {v : Value} {l : List Item} (h : Rows2 bo br w v l) (ho : Old w w') : Rows2 bo br w' v l := by
  obtain ⟨vs, h1, h2, h3⟩ := h
  exact ⟨vs, h1, own_old h2 ho, fun i hi hi' => (h3 i hi hi').old ho⟩
theorem ReadT.old {br : Nat} {w w' : World} {v : Value} {l : List Item} (h : ReadT br w v l) (ho : Old w w') : ReadT br w' v l := by
  obtain ⟨vs, h1, h2, h3⟩ := h
  exact ⟨vs, h1, h2.old ho, fun i hi hi' => (h3 i hi hi').old ho⟩
theorem Rows2.nil_ (bo br : Nat) (w : World) : Rows2 bo br w (.slice none 0 0) [] := ⟨[], rfl, World.ownsRow_nil w _ _ 2, fun i hi => absurd hi (by simp)⟩
theorem ReadT.nil_ (br : Nat) (w : World) : ReadT br w (.slice none 0 0) [] := ⟨[], rfl, Sl.nil_ w, fun i hi => absurd hi (by simp)⟩
theorem own_mono {b b' T size n : Nat} {w : World} {v : Value} {xs : List Value} (h : w.ownsRow b T size v n xs) (hb : b' ≤ b) : w.ownsRow b' T size v n xs := by
  obtain ⟨h1, h2⟩ := h
  refine ⟨h1, ?_⟩
  rcases h2 with h2 | ⟨g, cap, cur, r1, r2, r3⟩
  · exact .inl h2
  · exact .inr ⟨g, cap, cur, r1, Nat.le_trans hb r2, r3⟩
theorem Rows2.own {bo br : Nat} {w : World} {v : Value} {l : List Item} (h : Rows2 bo br w v l) (hb : br ≤ bo) : ItemsOwn 60 65 br w v l := by
  obtain ⟨vs, h1, h2, h3⟩ := h
  exact ⟨vs, h1, own_mono h2 hb, h3⟩
theorem step_push2 {o : Oper} {a : Act} {K : Act → World → Prop} {Q : Exit → Act → World → Prop} (w : World) (s x : Operand)
    (ho : o.op = .call { callee := .builtin .append, args := #[s, x], argTypes := #[33, 33] })
    (bo br : Nat) (v : Value) (l : List Item) (hs : a.eval s = v) (hown : Rows2 bo br w v l) (xv : Value) (m : List Item) (hev : a.eval x = xv) (hx : ReadT br w xv m) (hlen : l.length + m.length ≤ 4194304) (hbase : bo ≤ w.heap.size)
    (h : ∀ v' w', Rows2 bo br w' v' (l ++ m) → Kept 60 bo w w' → K (a.put o.dst v') w') : o.wp Tryz.prog a w K Q := by
  obtain ⟨i0, hi, hz0, hz1, hz2⟩ := info_parts itemInfo
  obtain ⟨vs, e1, e2, e3⟩ := hown
  obtain ⟨us, g1, g2, g3⟩ := hx
  refine wp_append_sl w s x 33 ho bo 60 i0 _ 2 32 Tryz.underlying33 hi hz0 hz1 hz2 rfl (by omega) v l.length (itemVals vs l) hs e2
    xv m.length (itemVals us m) hev g2 (itemVals_length us m g1) (itemVals_cell us m (fun v hv => ?_)) (by unfold maxLen; omega) (by omega) hbase ?_
  · obtain ⟨i, hi, rfl⟩ := List.getElem_of_mem hv
    obtain ⟨A, c, hh, _⟩ := g3 i (by omega) hi
    rw [hh]
    rfl
  · intro v' w' own' hg
    have hk := Kept.of_grown e2 hg hbase
    refine h v' w' ⟨vs ++ us, by simp [e1, g1], ?_, ?_⟩ hk
    · rw [itemVals_append vs l _ _ e1, List.length_append]
      exact own'
    · intro i hi hi'
      rcases Nat.lt_or_ge i l.length with hlt | hge
      · have : i < vs.length := by omega
        rw [List.getElem_append_left this]
        simp only [List.getElem_append_left hlt]
        exact hk.slT (e3 i hlt this) (by decide)
      · rw [List.getElem_append_right (by omega)]
        simp only [List.getElem_append_right hge, e1]
        exact hk.slT (g3 _ (by simp at hi; omega) (by simp at hi'; omega)) (by decide)
theorem ReadT.one {br : Nat} {w : World} {g cap : Nat} {rv : Value} {r : List Cell} {i : Int} (hc : 1 ≤ cap) (hm : cap ≤ 1048576) (h0 : w.cell? ⟨g, 0, none⟩ = some rv) (h1 : w.cell? ⟨g, 1, none⟩ = some (.int .i64 i)) (hr : SlT 65 br w rv r.length (rowVals r)) :
    ReadT br w (.slice (some ⟨g, 0, none⟩) 1 cap) [⟨r, i⟩] := by
  refine ⟨[rv], rfl, ⟨_, _, rfl, hc, by unfold maxLen; omega, fun _ => ⟨g, 0, rfl, fun j u hu => ?_⟩⟩, fun i hi hi' => ?_⟩
  · match j, hu with
    | 0, hu => simp [itemVals] at hu; subst hu; exact h0
    | 1, hu => simp [itemVals] at hu; subst hu; exact h1
    | j + 2, hu => simp [itemVals] at hu
  · have : i = 0 := by simp at hi; omega
    subst this
    exact hr
theorem ItemsOwn.read {base : Nat} {w : World} {v : Value} {l : List Item} (h : ItemsOwn 60 65 base w v l) : (v = .slice none 0 0 ∧ l.length = 0) ∨
    ∃ g cap, v = .slice (some ⟨g, 0, none⟩) l.length cap ∧ l.length ≤ cap ∧ cap ≤ maxLen ∧ g < w.heap.size ∧
      (∀ m, (hm : m < l.length) → ∃ vr, w.cell? ⟨g, m * 2, none⟩ = some vr ∧ RowIs w vr l[m].row) ∧
      (∀ m, m ≤ l.length → ReadT base w (.slice (some ⟨g, 0, none⟩) m cap) (l.take m)) ∧
      (∀ m, m ≤ l.length → ∀ A, (m < cap → A = some ⟨g, m * 2, none⟩) → ReadT base w (.slice A (l.length - m) (cap - m)) (l.drop m)) := by
  obtain ⟨vs, h1, ⟨hl, h2⟩, h3⟩ := h
  rcases h2 with ⟨rfl, h0⟩ | ⟨g, cap, cur, rfl, hb, hh, hn, hm, hs, ht⟩
  · exact .inl ⟨rfl, h0⟩
  · have hcell : ∀ j u, (itemVals vs l)[j]? = some u → w.cell? ⟨g, j, none⟩ = some u := fun j u hu => by
      rw [← ht, List.getElem?_take] at hu
      split at hu
      · rw [cell_of_heap hh]; simpa using hu
      · cases hu
    refine .inr ⟨g, cap, rfl, hn, hm, block_lt hh, fun m hml => ?_, fun m hml => ?_, fun m hml A hA => ?_⟩
    · have hv : m < vs.length := by omega
      exact ⟨vs[m], hcell _ _ (itemVals_get vs l m hml hv).1, (h3 m hml hv).sl⟩
    · refine ⟨vs.take m, by simp [h1], ⟨_, _, by simp [Nat.min_eq_left hml], by simp [Nat.min_eq_left hml]; omega, hm, fun _ => ⟨g, 0, rfl, fun j u hu => ?_⟩⟩, fun i hi hi' => ?_⟩
      · rw [Nat.zero_add]
        refine hcell j u ?_
        have e : itemVals vs l = itemVals (vs.take m) (l.take m) ++ itemVals (vs.drop m) (l.drop m) := by
          rw [← itemVals_append _ _ _ _ (by simp [h1]), List.take_append_drop, List.take_append_drop]
        rw [e, List.getElem?_append_left]
        · exact hu
        · exact (List.getElem?_eq_some_iff.1 hu).1
      · simp only [List.getElem_take]
        exact h3 i (by simp at hi; omega) (by simp at hi'; omega)
    · refine ⟨vs.drop m, by simp [h1], ⟨A, cap - m, by simp, by simp; omega, by omega, fun hne => ?_⟩, fun i hi hi' => ?_⟩
      · have hlt : m < l.length := by
          rcases Nat.lt_or_ge m l.length with h | h
          · exact h
          · exfalso
            apply hne
            rw [List.drop_of_length_le h, List.drop_of_length_le (by omega)]
            rfl
        refine ⟨g, m * 2, hA (by omega), fun j u hu => hcell _ u ?_⟩
        have e : itemVals vs l = itemVals (vs.take m) (l.take m) ++ itemVals (vs.drop m) (l.drop m) := by
          rw [← itemVals_append _ _ _ _ (by simp [h1]), List.take_append_drop, List.take_append_drop]
        have e2 : (itemVals (vs.take m) (l.take m)).length = m * 2 := by rw [itemVals_length _ _ (by simp [h1]), List.length_take, Nat.min_eq_left hml]
        rw [e, List.getElem?_append_right (by omega), e2, Nat.add_sub_cancel_left]
        exact hu
      · simp only [List.getElem_drop]
        exact h3 (m + i) (by simp at hi; omega) (by simp at hi'; omega)
theorem withW_put {l : List Item} {ks : List (List Cell)} {r : List Cell} {m : Nat} (hl : lowAt r ks = m) (hks : ks[m]? ≠ some r) : withW l (insKey r ks) = (withW l ks).take m ++ [⟨r, wOf l r⟩] ++ (withW l ks).drop m := by
  unfold insKey
  rw [hl, if_neg hks]
  simp [withW, List.map_take, List.map_drop]
theorem norm_end {l : List Item} (h : ∀ r ∈ keysOf l, fit (wOf l r)) : normErr l = 0 ∧ normOut l = noZero (withW l (keysOf l)) := by
  have : allFit l = true := List.all_eq_true.2 fun x hx => decide_eq_true (h _ ((keysOf_mem l x.row).2 ⟨x, hx, rfl⟩))
  unfold normErr normOut
  rw [if_pos this, if_pos this]
  exact ⟨rfl, rfl⟩
theorem keys_len (l : List Item) : ∀ ks : List (List Cell), (keysIn ks l).length ≤ ks.length + l.length := by
  induction l with
  | nil => intro ks; exact Nat.le_refl _
  | cons x l ih =>
    intro ks
    have := ih (insKey x.row ks)
    have h2 : (insKey x.row ks).length ≤ ks.length + 1 := by
      unfold insKey
      split
      · omega
      · have := lowAt_le x.row ks
        simp
        omega
    simp only [keysIn, List.foldl_cons, List.length_cons] at *
    omega

set_option maxRecDepth 100000 in
set_option maxHeartbeats 1500000 in
theorem ref_Norm (v : Value) (l : List Item) (w : World) (hl : ItemsIs w v l) (hn : l.length ≤ 1048576) (hs : Short l) (hf : ∀ x ∈ l, fit x.w) :
    Calls Tryz.prog 44 #[v] w (NewItems2 w (normOut l) (normErr l)) := by
  have HL := hide hl
  have HS := hide hs
  have HF := hide hf
  obtain ⟨A, ca, us, rfl, hla, hma, hul, hur, ha⟩ := hl.open_
  unfold maxLen at hma
  have HUR := hide hur
  have HA := hide ha
  clear hur ha hs hf hl
  go_enter Tryz.func44, Tryz.ntmps44
  go_wp2_with fail
  go_loopw [4, 5] (fun o i wr => ∃ k : Nat, i = .int .i64 k ∧ k ≤ l.length ∧ Hid (ItemsOwn 60 65 w.heap.size wr o (withW l (keysOf (l.take k)))) ∧ Old w wr ∧ Hid (∀ r ∈ keysOf (l.take k), fit (wOf l r))) (fun _ i _ => l.length - (intOf i).toNat)
  case atStart => exact ⟨0, rfl, by omega, hide (ItemsOwn.nil_ _), Old.refl _, hide (by simp [keysOf, keysIn])⟩
  case round =>
    obtain ⟨k, rfl, hk, HOWN, hbl, HFITS⟩ := hrel
    by_cases hlt : k < l.length
    · have hku : k < us.length := by omega
      obtain ⟨b1, o1, rfl, hc1⟩ := HA.out.resolve_left (by omega)
      have X0 := hide (hc1 k hlt hku).1
      clear hc1
      have HNEXT := hide (show keysOf (l.take (k + 1)) = insKey l[k].row (keysOf (l.take k)) by rw [List.take_succ_eq_append_getElem hlt, keysOf_snoc])
      have hkl := keys_len (l.take k) []
      rw [List.length_take] at hkl
      have HLEN := hide (show (keysOf (l.take k)).length ≤ 1048576 by unfold keysOf; simp at hkl; omega)
      clear hkl
      obtain ⟨ks, hks0⟩ : ∃ ks, Hid (keysOf (l.take k) = ks) := ⟨keysOf (l.take k), hide rfl⟩
      rw [hks0.out] at HOWN HFITS HNEXT HLEN
      have HKL := hide (show (withW l ks).length = ks.length by simp [withW])
      rcases HOWN.out.read with ⟨rfl, h0⟩ | ⟨g, cap, rfl, hcap, hcm, hgs, hread, hpre, hpost⟩
      · have hke : ks = [] := List.eq_nil_of_length_eq_zero (by rw [← HKL.out]; exact h0)
        subst hke
        clear h0
        obtain ⟨w1, hw1⟩ : ∃ w1, w1 = wr := ⟨_, rfl⟩
        subst hw1
        go_wp2_with fail
        go_loopw [6] (fun av WZ => av = .int .i64 0 ∧ Hid (Old w1 WZ)) (fun _ _ => 0)
        case atStart => exact ⟨rfl, hide (Old.refl _)⟩
        case round =>
          obtain ⟨rfl, HZ⟩ := hrel
          have HLOW := hide (show lowAt l[k].row [] = 0 from rfl)
          have hks : ([] : List (List Cell))[0]? ≠ some l[k].row := by simp
          go_wp2_with fail
          refine region_later (by kernel_rfl) (by kernel_rfl) ?_
          repeat (go_big_quiet_step (fail))
          refine wpQuiet_nil ?_
          rintro wy ⟨⟨_, hwy0⟩, rfl⟩
          have HY := hide (Old.trans HZ.out hwy0)
          clear hwy0
          go_wp2_with fail
          refine region_later (by kernel_rfl) (by kernel_rfl) ?_
          repeat (go_big_quiet_step (fail))
          refine wpQuiet_nil ?_
          rintro wq ⟨⟨_, hwq0⟩, rfl⟩
          have hwq := Old.trans HY.out hwq0
          clear hwq0
          have HKS := hide (show ([] : List (List Cell))[0]? ≠ some l[k].row from hks)
          have HW := hide (ref_weight _ us[k] l l[k].row wq (HL.out.old (Old.trans hbl hwq)) ((HUR.out k hlt hku).old (Old.trans hbl hwq)) hn HF.out)
          have x0 := (Old.trans hbl hwq).cell X0.out
          have HWQ := hide hwq
          clear hks hwq
          by_cases hfit : fit (wOf l l[k].row)
          · obtain ⟨i1, i2⟩ := int_fit hfit
            rw [i1, i2] at HW
            have HFIT := hide hfit
            obtain ⟨W, hW⟩ : ∃ W, Hid (wOf l l[k].row = W) := ⟨wOf l l[k].row, hide rfl⟩
            rw [hW.out] at HW
            clear i1 i2 hfit
            go_wp2_with fail
            refine HW.out.mono ?_
            rintro e w5 ⟨rfl, h5⟩
            have H5 := hide (Old.trans HWQ.out h5)
            clear x0 h5
            go_wp2_with fail
            have hx0 : ∀ w', Old w5 w' → w'.cell? ⟨b1, o1 + k * 2, none⟩ = some us[k] := fun w' h => (Old.trans hbl (Old.trans H5.out h)).cell X0.out
            have HC := hide (show ∀ w', Old w5 w' → Calls Tryz.prog 42 #[us[k]] w' fun e w2 => ∃ A cp, e = .returned (.slice A l[k].row.length cp) ∧ SlT 65 w.heap.size w2 (.slice A l[k].row.length cp) l[k].row.length (rowVals l[k].row) ∧ Old w' w2 from fun w' h =>
              (copyRow _ _ _ ((HUR.out k hlt hku).old (Old.trans hbl (Old.trans H5.out h))) (HS.out k hlt)).mono fun _ _ hn => hn.form (Old.trans hbl (Old.trans H5.out h)).size)
            have PRE := hide (show ∀ w', ReadT w.heap.size w' (.slice none 0 0) ((withW l []).take 0) from fun w' => ReadT.nil_ _ _)
            have POST := hide (show ∀ w', ReadT w.heap.size w' (.slice none 0 0) ((withW l []).drop 0) from fun w' => ReadT.nil_ _ _)
            have L1 : ([] : List Item).length + ((withW l []).take 0).length ≤ 4194304 := by simp [withW]
            have L2 : ((withW l []).take 0).length + [Item.mk l[k].row W].length ≤ 4194304 := by simp [withW]
            have L3 : ((withW l []).take 0 ++ [Item.mk l[k].row W]).length + ((withW l []).drop 0).length ≤ 4194304 := by simp [withW]
            go_region_held3 (fun w' => Old w5 w')
              (first | (exact Old.drew (Old.refl _)) | (exact Old.alloc (by assumption) _) | (exact Old.trans (by assumption) (by assumption)) | (exact Kept.old (by assumption) (by assumption) (Nat.le_refl _)))
              (first
                | (go_at_call 42; refine (HC.out _ (by assumption)).mono ?_; rintro e w6 ⟨A1, c1, rfl, hr1, hb1⟩)
                | (refine step_push2 _ _ _ rfl w5.heap.size w.heap.size (.slice none 0 0) [] rfl (Rows2.nil_ _ _ _) _ _ rfl (PRE.out _) L1 (Below.size (w := w5) (by assumption)) ?_; intro v1 w7 own1 kept1)
                | (refine step_push2 _ _ _ rfl w5.heap.size w.heap.size _ _ rfl (own1.old (Old.trans hb1 (Old.alloc (Old.refl _) _))) _ [⟨l[k].row, W⟩] rfl (ReadT.one (by omega) (by omega) (by go_simp) (by go_simp) (SlT.old hr1 (Old.alloc (Old.refl _) _))) L2 (Below.size (w := w5) (by assumption)) ?_; intro v2 w8 own2 kept2)
                | (refine step_push2 _ _ _ rfl w5.heap.size w.heap.size _ _ rfl own2 _ ((withW l []).drop 0) rfl (POST.out _) L3 (Below.size (w := w5) (by assumption)) ?_; intro v3 w9 own3 kept3))
            have HEND := hide (show keysOf (l.take (k + 1)) = insKey l[k].row [] ∧ withW l (insKey l[k].row []) = (withW l []).take 0 ++ [⟨l[k].row, W⟩] ++ (withW l []).drop 0 from ⟨HNEXT.out, by rw [withW_put HLOW.out HKS.out, hW.out]⟩)
            go_wp2_with fail
            go_roundw
            case rel =>
              refine ⟨k + 1, by go_num, by omega, hide ?_, Old.trans hbl (Old.trans H5.out (by assumption)), hide ?_⟩
              · rw [HEND.out.1, HEND.out.2]
                exact own3.own (Old.trans hbl H5.out).size
              · rw [HEND.out.1]
                intro r hr
                rcases (ins_mem _ _ _).1 hr with rfl | hr
                · exact HFIT.out
                · exact HFITS.out r hr
            case measure => simp [intOf]; omega
          · obtain ⟨i1, i2⟩ := int_unfit hfit
            rw [i1, i2] at HW
            have E := hide (normErr_bad hfit)
            have E2 := hide (normOut_bad (l := l) (by rw [E.out]; decide))
            clear i1 i2 hfit
            go_wp2_with fail
            refine HW.out.mono ?_
            rintro e w5 ⟨rfl, h5⟩
            have H5 := hide (Old.trans hbl (Old.trans HWQ.out h5))
            clear x0 h5
            go_wp2_with fail
            go_ret2
            exact ⟨_, ret_pair E.out, by rw [E2.out]; exact ItemsT.nil_ _, H5.out⟩
      · have HREAD := hide hread
        have HPRE := hide hpre
        have HPOST := hide hpost
        unfold maxLen at hcm
        clear hread hpre hpost
        obtain ⟨w1, hw1⟩ : ∃ w1, w1 = wr := ⟨_, rfl⟩
        subst hw1
        go_wp2_with fail
        go_loopw [6] (fun av WZ => ∃ m : Nat, av = .int .i64 m ∧ m ≤ (withW l ks).length ∧ Hid (∀ j : Nat, j < m → (hj : j < ks.length) → rowCmp ks[j] l[k].row < 0) ∧ Hid (Old w1 WZ)) (fun av _ => (withW l ks).length - (intOf av).toNat)
        case atStart => exact ⟨0, rfl, by omega, hide (by intro j hj; omega), hide (Old.refl _)⟩
        case round =>
          obtain ⟨m, rfl, hm, HQ, HZ⟩ := hrel
          by_cases hmk : m < (withW l ks).length
          · have hg : decide (m < (withW l ks).length) = true := decide_eq_true hmk
            have hmks : m < ks.length := by rw [← HKL.out]; exact hmk
            obtain ⟨vr, hvr1, hvr2⟩ := HREAD.out m hmk
            have y0 : ∀ p : Later wr, p.world.cell? ⟨g, m * 2, none⟩ = some vr := fun p => (Old.trans HZ.out p.old).cell hvr1
            have x0 : ∀ p : Later wr, p.world.cell? ⟨b1, o1 + k * 2, none⟩ = some us[k] := fun p => (Old.trans hbl (Old.trans HZ.out p.old)).cell X0.out
            have HV := hide (show RowIs w1 vr ks[m] by
              have hrow : (withW l ks)[m].row = ks[m] := by simp [withW]
              rw [← hrow]
              exact hvr2)
            have HC := hide (show ∀ p : Later wr, Calls Tryz.prog 69 #[vr, us[k]] p.world fun e w2 => e = .returned (.int .i64 (rowCmp ks[m] l[k].row)) ∧ Old p.world w2 from fun p =>
              (ref_rowCompare _ _ _ _ _ (HV.out.old (Old.trans HZ.out p.old)) ((HUR.out k hlt hku).old (Old.trans hbl (Old.trans HZ.out p.old)))).mono fun _ _ q => ⟨q.1, q.2.old⟩)
            have HV1 := hide hvr1
            obtain ⟨c, hc⟩ : ∃ c, Hid (rowCmp ks[m] l[k].row = c) := ⟨rowCmp ks[m] l[k].row, hide rfl⟩
            rw [hc.out] at HC
            clear hvr1 hvr2
            by_cases hcc : c < 0
            · have hc' : decide (c < 0) = true := decide_eq_true hcc
              go_wp2_with fail
              refine region_later (by kernel_rfl) (by kernel_rfl) ?_
              repeat (go_big_quiet_step ((go_at_call 69; exact Later.call (HC.out _))))
              refine wpQuiet_nil ?_
              rintro wq ⟨⟨_, hwq⟩, rfl⟩
              clear x0 y0
              go_wp2_with fail
              go_roundw
              case rel => exact ⟨m + 1, by go_num, by omega, hide (fun j hj hj' => by
                rcases Nat.lt_or_ge j m with h | h
                · exact HQ.out j h hj'
                · have : j = m := by omega
                  subst this
                  rw [hc.out]; exact hcc), hide (Old.trans HZ.out hwq)⟩
              case measure => simp [intOf]; omega
            · have hc' : decide (c < 0) = false := decide_eq_false hcc
              have HLOW := hide (lowAt_eq (Nat.le_of_lt hmks) HQ.out (fun h => by rw [hc.out]; exact hcc))
              go_wp2_with fail
              refine region_later (by kernel_rfl) (by kernel_rfl) ?_
              repeat (go_big_quiet_step ((go_at_call 69; exact Later.call (HC.out _))))
              refine wpQuiet_nil ?_
              rintro wy ⟨⟨_, hwy0⟩, rfl⟩
              clear x0 y0 HC hcc
              have HY := hide (Old.trans HZ.out hwy0)
              clear hwy0
              have y0 : ∀ p : Later wy, p.world.cell? ⟨g, m * 2, none⟩ = some vr := fun p => (Old.trans HY.out p.old).cell HV1.out
              have x0 : ∀ p : Later wy, p.world.cell? ⟨b1, o1 + k * 2, none⟩ = some us[k] := fun p => (Old.trans hbl (Old.trans HY.out p.old)).cell X0.out
              have HC := hide (show ∀ p : Later wy, Calls Tryz.prog 46 #[vr, us[k]] p.world fun e w2 => e = .returned (.bool (sameRow ks[m] l[k].row)) ∧ Old p.world w2 from fun p =>
                eqRow _ _ _ _ _ (HV.out.old (Old.trans HY.out p.old)) ((HUR.out k hlt hku).old (Old.trans hbl (Old.trans HY.out p.old))))
              cases hs : sameRow ks[m] l[k].row
              · have hks : ks[m]? ≠ some l[k].row := by
                  rw [List.getElem?_eq_getElem hmks]
                  intro e
                  injection e with e
                  rw [e] at hs
                  simp [sameRow] at hs
                rw [hs] at HC
                clear hs
                go_wp2_with fail
                refine region_later (by kernel_rfl) (by kernel_rfl) ?_
                repeat (go_big_quiet_step ((go_at_call 46; exact Later.call (HC.out _))))
                refine wpQuiet_nil ?_
                rintro wq ⟨⟨_, hwq0⟩, rfl⟩
                clear x0 y0 HC
                have hwq := Old.trans HY.out hwq0
                clear hwq0
                have HKS := hide (show ks[m]? ≠ some l[k].row from hks)
                have HW := hide (ref_weight _ us[k] l l[k].row wq (HL.out.old (Old.trans hbl hwq)) ((HUR.out k hlt hku).old (Old.trans hbl hwq)) hn HF.out)
                have x0 := (Old.trans hbl hwq).cell X0.out
                have HWQ := hide hwq
                clear hks hwq
                by_cases hfit : fit (wOf l l[k].row)
                · obtain ⟨i1, i2⟩ := int_fit hfit
                  rw [i1, i2] at HW
                  have HFIT := hide hfit
                  obtain ⟨W, hW⟩ : ∃ W, Hid (wOf l l[k].row = W) := ⟨wOf l l[k].row, hide rfl⟩
                  rw [hW.out] at HW
                  clear i1 i2 hfit
                  go_wp2_with fail
                  refine HW.out.mono ?_
                  rintro e w5 ⟨rfl, h5⟩
                  have H5 := hide (Old.trans HWQ.out h5)
                  clear x0 h5
                  go_wp2_with fail
                  have hx0 : ∀ w', Old w5 w' → w'.cell? ⟨b1, o1 + k * 2, none⟩ = some us[k] := fun w' h => (Old.trans hbl (Old.trans H5.out h)).cell X0.out
                  have HC := hide (show ∀ w', Old w5 w' → Calls Tryz.prog 42 #[us[k]] w' fun e w2 => ∃ A cp, e = .returned (.slice A l[k].row.length cp) ∧ SlT 65 w.heap.size w2 (.slice A l[k].row.length cp) l[k].row.length (rowVals l[k].row) ∧ Old w' w2 from fun w' h =>
                    (copyRow _ _ _ ((HUR.out k hlt hku).old (Old.trans hbl (Old.trans H5.out h))) (HS.out k hlt)).mono fun _ _ hn => hn.form (Old.trans hbl (Old.trans H5.out h)).size)
                  have PRE := hide (show ∀ w', Old w5 w' → ReadT w.heap.size w' (.slice (some ⟨g, 0, none⟩) m cap) ((withW l ks).take m) from fun w' h => (HPRE.out m hm).old (Old.trans H5.out h))
                  have POST := hide (show ∀ A w', Old w5 w' → (m < cap → A = some ⟨g, m * 2, none⟩) → ReadT w.heap.size w' (.slice A ((withW l ks).length - m) (cap - m)) ((withW l ks).drop m) from fun A w' h hA => (HPOST.out m hm A hA).old (Old.trans H5.out h))
                  have L1 : ([] : List Item).length + ((withW l ks).take m).length ≤ 4194304 := by have := HLEN.out; have := HKL.out; simp; omega
                  have L2 : ((withW l ks).take m).length + [Item.mk l[k].row W].length ≤ 4194304 := by have := HLEN.out; have := HKL.out; simp; omega
                  have L3 : ((withW l ks).take m ++ [Item.mk l[k].row W]).length + ((withW l ks).drop m).length ≤ 4194304 := by have := HLEN.out; have := HKL.out; simp; omega
                  have hmc : m ≤ cap := by omega
                  go_region_held3 (fun w' => Old w5 w')
                    (first | (exact Old.drew (Old.refl _)) | (exact Old.alloc (by assumption) _) | (exact Old.trans (by assumption) (by assumption)) | (exact Kept.old (by assumption) (by assumption) (Nat.le_refl _)))
                    (first
                      | (go_at_call 42; refine (HC.out _ (by assumption)).mono ?_; rintro e w6 ⟨A1, c1, rfl, hr1, hb1⟩)
                      | (refine step_push2 _ _ _ rfl w5.heap.size w.heap.size (.slice none 0 0) [] rfl (Rows2.nil_ _ _ _) _ _ rfl (PRE.out _ (by assumption)) L1 (Below.size (w := w5) (by assumption)) ?_; intro v1 w7 own1 kept1)
                      | (refine step_push2 _ _ _ rfl w5.heap.size w.heap.size _ _ rfl (own1.old (Old.trans hb1 (Old.alloc (Old.refl _) _))) _ [⟨l[k].row, W⟩] rfl (ReadT.one (by omega) (by omega) (by go_simp) (by go_simp) (SlT.old hr1 (Old.alloc (Old.refl _) _))) L2 (Below.size (w := w5) (by assumption)) ?_; intro v2 w8 own2 kept2)
                      | (refine step_push2 _ _ _ rfl w5.heap.size w.heap.size _ _ rfl own2 _ ((withW l ks).drop m) rfl (POST.out _ _ (by assumption) (by intro h; first | (simp; done) | (simp; omega) | (split <;> simp <;> omega))) L3 (Below.size (w := w5) (by assumption)) ?_; intro v3 w9 own3 kept3))
                  have HEND := hide (show keysOf (l.take (k + 1)) = insKey l[k].row ks ∧ withW l (insKey l[k].row ks) = (withW l ks).take m ++ [⟨l[k].row, W⟩] ++ (withW l ks).drop m from ⟨HNEXT.out, by rw [withW_put HLOW.out HKS.out, hW.out]⟩)
                  go_wp2_with fail
                  go_roundw
                  case rel =>
                    refine ⟨k + 1, by go_num, by omega, hide ?_, Old.trans hbl (Old.trans H5.out (by assumption)), hide ?_⟩
                    · rw [HEND.out.1, HEND.out.2]
                      exact own3.own (Old.trans hbl H5.out).size
                    · rw [HEND.out.1]
                      intro r hr
                      rcases (ins_mem _ _ _).1 hr with rfl | hr
                      · exact HFIT.out
                      · exact HFITS.out r hr
                  case measure => simp [intOf]; omega
                · obtain ⟨i1, i2⟩ := int_unfit hfit
                  rw [i1, i2] at HW
                  have E := hide (normErr_bad hfit)
                  have E2 := hide (normOut_bad (l := l) (by rw [E.out]; decide))
                  clear i1 i2 hfit
                  go_wp2_with fail
                  refine HW.out.mono ?_
                  rintro e w5 ⟨rfl, h5⟩
                  have H5 := hide (Old.trans hbl (Old.trans HWQ.out h5))
                  clear x0 h5
                  go_wp2_with fail
                  go_ret2
                  exact ⟨_, ret_pair E.out, by rw [E2.out]; exact ItemsT.nil_ _, H5.out⟩
              · have HE := hide (show keysOf (l.take (k + 1)) = ks by
                  rw [HNEXT.out]
                  unfold insKey
                  rw [HLOW.out, List.getElem?_eq_getElem hmks, if_pos]
                  rw [of_decide_eq_true hs])
                rw [hs] at HC
                clear hs
                go_wp2_with fail
                refine region_later (by kernel_rfl) (by kernel_rfl) ?_
                repeat (go_big_quiet_step ((go_at_call 46; exact Later.call (HC.out _))))
                refine wpQuiet_nil ?_
                rintro wq ⟨⟨_, hwq0⟩, rfl⟩
                clear x0 y0 HC
                have hwq := Old.trans HY.out hwq0
                clear hwq0
                go_wp2_with fail
                go_roundw
                case rel => exact ⟨k + 1, by go_num, by omega, hide (by rw [HE.out]; exact HOWN.out.old hwq), Old.trans hbl hwq, hide (by rw [HE.out]; exact HFITS.out)⟩
                case measure => simp [intOf]; omega
          · have hg : decide (m < (withW l ks).length) = false := decide_eq_false hmk
            have hm2 : m = ks.length := by rw [← HKL.out]; omega
            have HLOW := hide (lowAt_eq (Nat.le_of_eq hm2) HQ.out (fun h => by omega))
            have hks : ks[m]? ≠ some l[k].row := by rw [List.getElem?_eq_none (by omega)]; simp
            clear hm2
            go_wp2_with fail
            refine region_later (by kernel_rfl) (by kernel_rfl) ?_
            repeat (go_big_quiet_step (fail))
            refine wpQuiet_nil ?_
            rintro wy ⟨⟨_, hwy0⟩, rfl⟩
            have HY := hide (Old.trans HZ.out hwy0)
            clear hwy0
            go_wp2_with fail
            refine region_later (by kernel_rfl) (by kernel_rfl) ?_
            repeat (go_big_quiet_step (fail))
            refine wpQuiet_nil ?_
            rintro wq ⟨⟨_, hwq0⟩, rfl⟩
            have hwq := Old.trans HY.out hwq0
            clear hwq0
            have HKS := hide (show ks[m]? ≠ some l[k].row from hks)
            have HW := hide (ref_weight _ us[k] l l[k].row wq (HL.out.old (Old.trans hbl hwq)) ((HUR.out k hlt hku).old (Old.trans hbl hwq)) hn HF.out)
            have x0 := (Old.trans hbl hwq).cell X0.out
            have HWQ := hide hwq
            clear hks hwq
            by_cases hfit : fit (wOf l l[k].row)
            · obtain ⟨i1, i2⟩ := int_fit hfit
              rw [i1, i2] at HW
              have HFIT := hide hfit
              obtain ⟨W, hW⟩ : ∃ W, Hid (wOf l l[k].row = W) := ⟨wOf l l[k].row, hide rfl⟩
              rw [hW.out] at HW
              clear i1 i2 hfit
              go_wp2_with fail
              refine HW.out.mono ?_
              rintro e w5 ⟨rfl, h5⟩
              have H5 := hide (Old.trans HWQ.out h5)
              clear x0 h5
              go_wp2_with fail
              have hx0 : ∀ w', Old w5 w' → w'.cell? ⟨b1, o1 + k * 2, none⟩ = some us[k] := fun w' h => (Old.trans hbl (Old.trans H5.out h)).cell X0.out
              have HC := hide (show ∀ w', Old w5 w' → Calls Tryz.prog 42 #[us[k]] w' fun e w2 => ∃ A cp, e = .returned (.slice A l[k].row.length cp) ∧ SlT 65 w.heap.size w2 (.slice A l[k].row.length cp) l[k].row.length (rowVals l[k].row) ∧ Old w' w2 from fun w' h =>
                (copyRow _ _ _ ((HUR.out k hlt hku).old (Old.trans hbl (Old.trans H5.out h))) (HS.out k hlt)).mono fun _ _ hn => hn.form (Old.trans hbl (Old.trans H5.out h)).size)
              have PRE := hide (show ∀ w', Old w5 w' → ReadT w.heap.size w' (.slice (some ⟨g, 0, none⟩) m cap) ((withW l ks).take m) from fun w' h => (HPRE.out m hm).old (Old.trans H5.out h))
              have POSTX := hide (show ∀ A w', Old w5 w' → (m < cap → A = some ⟨g, m * 2, none⟩) → ReadT w.heap.size w' (.slice A ((withW l ks).length - m) (cap - m)) ((withW l ks).drop m) from fun A w' h hA => (HPOST.out m hm A hA).old (Old.trans H5.out h))
              have L1 : ([] : List Item).length + ((withW l ks).take m).length ≤ 4194304 := by have := HLEN.out; have := HKL.out; simp; omega
              have L2 : ((withW l ks).take m).length + [Item.mk l[k].row W].length ≤ 4194304 := by have := HLEN.out; have := HKL.out; simp; omega
              have L3 : ((withW l ks).take m ++ [Item.mk l[k].row W]).length + ((withW l ks).drop m).length ≤ 4194304 := by have := HLEN.out; have := HKL.out; simp; omega
              have hml : m = (withW l ks).length := by omega
              subst hml
              have POST := hide (show ∀ A j c w', j = 0 → c ≤ cap → ReadT w.heap.size w' (.slice A j c) ((withW l ks).drop (withW l ks).length) from fun A j c w' hj hc => by
                subst hj
                rw [List.drop_length]
                exact ⟨[], rfl, ⟨A, c, rfl, Nat.zero_le _, by unfold maxLen; omega, fun h => absurd rfl h⟩, fun i h => absurd h (by simp)⟩)
              clear hg hmk
              by_cases hcm : (withW l ks).length < cap
              · go_region_held3 (fun w' => Old w5 w')
                  (first | (exact Old.drew (Old.refl _)) | (exact Old.alloc (by assumption) _) | (exact Old.trans (by assumption) (by assumption)) | (exact Kept.old (by assumption) (by assumption) (Nat.le_refl _)))
                  (first
                    | (go_at_call 42; refine (HC.out _ (by assumption)).mono ?_; rintro e w6 ⟨A1, c1, rfl, hr1, hb1⟩)
                    | (refine step_push2 _ _ _ rfl w5.heap.size w.heap.size (.slice none 0 0) [] rfl (Rows2.nil_ _ _ _) _ _ rfl (PRE.out _ (by assumption)) L1 (Below.size (w := w5) (by assumption)) ?_; intro v1 w7 own1 kept1)
                    | (refine step_push2 _ _ _ rfl w5.heap.size w.heap.size _ _ rfl (own1.old (Old.trans hb1 (Old.alloc (Old.refl _) _))) _ [⟨l[k].row, W⟩] rfl (ReadT.one (by omega) (by omega) (by go_simp) (by go_simp) (SlT.old hr1 (Old.alloc (Old.refl _) _))) L2 (Below.size (w := w5) (by assumption)) ?_; intro v2 w8 own2 kept2)
                    | (refine step_push2 _ _ _ rfl w5.heap.size w.heap.size _ _ rfl own2 _ ((withW l ks).drop (withW l ks).length) rfl (POST.out _ _ _ _ (by omega) (by omega)) L3 (Below.size (w := w5) (by assumption)) ?_; intro v3 w9 own3 kept3))
                have HEND := hide (show keysOf (l.take (k + 1)) = insKey l[k].row ks ∧ withW l (insKey l[k].row ks) = (withW l ks).take (withW l ks).length ++ [⟨l[k].row, W⟩] ++ (withW l ks).drop (withW l ks).length from ⟨HNEXT.out, by rw [withW_put HLOW.out HKS.out, hW.out]⟩)
                go_wp2_with fail
                go_roundw
                case rel =>
                  refine ⟨k + 1, by go_num, by omega, hide ?_, Old.trans hbl (Old.trans H5.out (by assumption)), hide ?_⟩
                  · rw [HEND.out.1, HEND.out.2]
                    exact own3.own (Old.trans hbl H5.out).size
                  · rw [HEND.out.1]
                    intro r hr
                    rcases (ins_mem _ _ _).1 hr with rfl | hr
                    · exact HFIT.out
                    · exact HFITS.out r hr
                case measure => simp [intOf]; omega
              · have hce : cap = (withW l ks).length := by omega
                subst hce
                go_region_held3 (fun w' => Old w5 w')
                  (first | (exact Old.drew (Old.refl _)) | (exact Old.alloc (by assumption) _) | (exact Old.trans (by assumption) (by assumption)) | (exact Kept.old (by assumption) (by assumption) (Nat.le_refl _)))
                  (first
                    | (go_at_call 42; refine (HC.out _ (by assumption)).mono ?_; rintro e w6 ⟨A1, c1, rfl, hr1, hb1⟩)
                    | (refine step_push2 _ _ _ rfl w5.heap.size w.heap.size (.slice none 0 0) [] rfl (Rows2.nil_ _ _ _) _ _ rfl (PRE.out _ (by assumption)) L1 (Below.size (w := w5) (by assumption)) ?_; intro v1 w7 own1 kept1)
                    | (refine step_push2 _ _ _ rfl w5.heap.size w.heap.size _ _ rfl (own1.old (Old.trans hb1 (Old.alloc (Old.refl _) _))) _ [⟨l[k].row, W⟩] rfl (ReadT.one (by omega) (by omega) (by go_simp) (by go_simp) (SlT.old hr1 (Old.alloc (Old.refl _) _))) L2 (Below.size (w := w5) (by assumption)) ?_; intro v2 w8 own2 kept2)
                    | (refine step_push2 _ _ _ rfl w5.heap.size w.heap.size _ _ rfl own2 _ ((withW l ks).drop (withW l ks).length) rfl (POST.out _ _ _ _ (by omega) (by omega)) L3 (Below.size (w := w5) (by assumption)) ?_; intro v3 w9 own3 kept3))
                have HEND := hide (show keysOf (l.take (k + 1)) = insKey l[k].row ks ∧ withW l (insKey l[k].row ks) = (withW l ks).take (withW l ks).length ++ [⟨l[k].row, W⟩] ++ (withW l ks).drop (withW l ks).length from ⟨HNEXT.out, by rw [withW_put HLOW.out HKS.out, hW.out]⟩)
                go_wp2_with fail
                go_roundw
                case rel =>
                  refine ⟨k + 1, by go_num, by omega, hide ?_, Old.trans hbl (Old.trans H5.out (by assumption)), hide ?_⟩
                  · rw [HEND.out.1, HEND.out.2]
                    exact own3.own (Old.trans hbl H5.out).size
                  · rw [HEND.out.1]
                    intro r hr
                    rcases (ins_mem _ _ _).1 hr with rfl | hr
                    · exact HFIT.out
                    · exact HFITS.out r hr
                case measure => simp [intOf]; omega
            · obtain ⟨i1, i2⟩ := int_unfit hfit
              rw [i1, i2] at HW
              have E := hide (normErr_bad hfit)
              have E2 := hide (normOut_bad (l := l) (by rw [E.out]; decide))
              clear i1 i2 hfit
              go_wp2_with fail
              refine HW.out.mono ?_
              rintro e w5 ⟨rfl, h5⟩
              have H5 := hide (Old.trans hbl (Old.trans HWQ.out h5))
              clear x0 h5
              go_wp2_with fail
              go_ret2
              exact ⟨_, ret_pair E.out, by rw [E2.out]; exact ItemsT.nil_ _, H5.out⟩
    · have hkn : k = l.length := by omega
      have HO := HOWN.out
      have HFT := HFITS.out
      rw [hkn, List.take_length] at HO HFT
      have HE := hide (norm_end HFT)
      obtain ⟨vs, hvl, hsl, hrows⟩ := HO.t
      have hcap2 := keys_len l []
      have HKN := hide (show (withW l (keysOf l)).length ≤ 1048576 by unfold keysOf; simp [withW] at hcap2 ⊢; omega)
      obtain ⟨K, hK⟩ : ∃ K, Hid (withW l (keysOf l) = K) := ⟨withW l (keysOf l), hide rfl⟩
      rw [hK.out] at hvl hsl hrows HE HKN
      have hsl2 := hsl.sl
      have hval := hsl
      obtain ⟨A2, cap2, rfl, hc1, hc2, hcell⟩ := hsl2
      have HCELL := hide hcell
      have HROWS := hide hrows
      have hkb := HKN.out
      unfold maxLen at hc2
      clear HO HFT HOWN HFITS hsl hval hrows hcell hcap2 hK hkn
      obtain ⟨w1, hw1⟩ : ∃ w1, w1 = wr := ⟨_, rfl⟩
      subst hw1
      go_wp2_with fail
      go_loopw [10, 11] (fun o i WZ => ∃ j : Nat, i = .int .i64 j ∧ j ≤ K.length ∧ Hid (Rows2 w1.heap.size w.heap.size WZ o (noZero (K.take j))) ∧ Hid (Old w1 WZ)) (fun _ i _ => K.length - (intOf i).toNat)
      case atStart => exact ⟨0, rfl, by omega, hide (Rows2.nil_ _ _ _), hide (Old.refl _)⟩
      case round =>
        obtain ⟨j, rfl, hj, HS2, HZ⟩ := hrel
        by_cases hjt : j < K.length
        · have hjv : j < vs.length := by omega
          obtain ⟨g1, g2⟩ := itemVals_get vs K j hjt hjv
          obtain ⟨b2, o2, rfl, hcc⟩ := HCELL.out (by intro e; rw [e] at g1; simp at g1)
          obtain ⟨Ar, cr, hr, _⟩ := HROWS.out j hjt hjv
          have hrow := HROWS.out j hjt hjv
          have y0 := hcc _ _ g1
          rw [hr] at hrow y0
          have HROW := hide (hrow.old HZ.out)
          have x0 := HZ.out.cell y0
          have x1 := HZ.out.cell (show w1.cell? ⟨b2, o2 + j * 2 + 1, none⟩ = some (.int .i64 K[j].w) by rw [Nat.add_assoc]; exact hcc _ _ g2)
          have HNL := hide (Nat.le_trans (noZero_len (K.take j)) (Nat.le_of_eq (List.length_take ..)))
          have bb : b2 < wr.heap.size := World.block_lt_of_cell? wr _ x0
          clear g1 g2 hcc hr hrow y0
          by_cases h0 : K[j].w = 0
          · have HN := hide (show noZero (K.take (j + 1)) = noZero (K.take j) by rw [List.take_succ_eq_append_getElem hjt]; exact noZero_skip h0)
            have h0' : (K[j].w != 0) = false := by simpa using h0
            clear h0
            go_wp2_with fail
            go_roundw
            case rel => exact ⟨j + 1, by go_num, by omega, hide (by rw [HN.out]; exact HS2.out), HZ⟩
            case measure => simp [intOf]; omega
          · have HN := hide (show noZero (K.take (j + 1)) = noZero (K.take j) ++ [⟨K[j].row, K[j].w⟩] by rw [List.take_succ_eq_append_getElem hjt]; exact noZero_push h0)
            have h0' : (K[j].w != 0) = true := by simpa using h0
            have L1 : (noZero (K.take j)).length + 1 ≤ 4194304 := by have := HNL.out; omega
            clear h0
            go_wp2_with (at_builtin; refine wpList_plain rfl (fun KK hK => ?_); refine step_push2 _ _ _ rfl w1.heap.size w.heap.size _ _ rfl (HS2.out.old ((Old.refl wr).alloc _)) _ [⟨K[j].row, K[j].w⟩] rfl (ReadT.one (rv := .slice Ar K[j].row.length cr) (by omega) (by omega) (by go_simp) (by go_simp) (HROW.out.old ((Old.refl wr).alloc _))) L1 (HZ.out.alloc _).size ?_; intro v' w4 own4 kept4; refine hK _ _ ?_; clear hK)
            have H5 := hide (kept4.old (HZ.out.alloc _) (Nat.le_refl _))
            clear kept4
            go_roundw
            case rel => exact ⟨j + 1, by go_num, by omega, hide (by rw [HN.out]; exact own4), H5⟩
            case measure => simp [intOf]; omega
        · have hjn : j = K.length := by omega
          have HS3 := (HS2.out.own hbl.size).t
          rw [hjn, List.take_length] at HS3
          have H3 := hide HS3
          clear HS3
          go_wp2_with fail
          go_ret2
          exact ⟨_, ret_pair HE.out.1, by rw [HE.out.2]; exact H3.out, Old.trans hbl HZ.out⟩
end Go.Proofs.YtmfbblcipakaiaaGreatDoor

