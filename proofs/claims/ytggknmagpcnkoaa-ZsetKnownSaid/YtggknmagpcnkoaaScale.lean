/- The walks of zset.Scale, Neg, Copy and Same, and of the document's Spoil and Bring. -/
import Derived.Test.YtggknmagpcnkoaaAdd
import Derived.Test.YtggknmagpcnkoaaGet
namespace Go.Proofs.Ytggknmagpcnkoaa
open Go.RowKit

theorem times_next {c : Int} {a : List Item} {k : Nat} (h : k < a.length) : timesW c (a.take (k + 1)) = timesW c (a.take k) ++ [⟨a[k].row, c * a[k].w⟩] := by
  unfold timesW
  rw [List.take_succ_eq_append_getElem h, List.map_append]
  rfl
theorem noZero_skip {a : List Item} {x : Item} (h : x.w = 0) : noZero (a ++ [x]) = noZero a := by simp [noZero, h]
theorem noZero_push {a : List Item} {x : Item} (h : ¬ x.w = 0) : noZero (a ++ [x]) = noZero a ++ [x] := by simp [noZero, h]
theorem scale_end {c : Int} {a : List Item} (hc : chk a = 0) (h : ∀ j : Nat, j < a.length → ∀ (hj : j < a.length), fit (c * a[j].w)) : scaleErr c a = 0 ∧ scaleOut c a = noZero (timesW c a) := by
  have ht : allTimes c a = true := List.all_eq_true.2 fun x hx => by
    obtain ⟨j, hj, rfl⟩ := List.getElem_of_mem hx
    exact decide_eq_true (h j hj hj)
  unfold scaleErr scaleOut
  rw [if_pos hc, if_pos hc, if_pos ht, if_pos ht]
  exact ⟨rfl, rfl⟩
theorem scale_stop {c : Int} {a : List Item} (hc : chk a = 0) {k : Nat} (hk : k < a.length) (h : ¬ fit (c * a[k].w)) : scaleErr c a = 50 ∧ scaleOut c a = [] := by
  have ht : ¬ allTimes c a = true := fun hh => h (of_decide_eq_true (List.all_eq_true.1 hh a[k] (List.getElem_mem hk)))
  unfold scaleErr scaleOut
  rw [if_pos hc, if_pos hc, if_neg ht, if_neg ht]
  exact ⟨rfl, rfl⟩
theorem scale_arg {c : Int} {a : List Item} (hc : ¬ chk a = 0) : scaleErr c a = 2 ∧ scaleOut c a = [] := by
  unfold scaleErr scaleOut
  rw [if_neg hc, if_neg hc]
  exact ⟨rfl, rfl⟩
theorem noZero_len (a : List Item) : (noZero a).length ≤ a.length := List.length_filter_le _ _
theorem timesW_len (c : Int) (a : List Item) : (timesW c a).length = a.length := by simp [timesW]
theorem ItemsT.nil_ {tI tC lo : Nat} (w : World) : ItemsT tI tC lo w (.slice none 0 0) [] := ⟨[], rfl, SlT.nil_ _, fun i h => absurd h (by simp)⟩

set_option maxRecDepth 100000 in
set_option maxHeartbeats 1000000 in
theorem zset_Scale (c : Int) (v : Value) (a : List Item) (w : World) (hfc : fit c) (ha : ItemsIs w v a) (fa : Fine 1048576 a) :
    Calls Try.prog 17 #[.int .i64 c, v] w (NewItems2 w (scaleOut c a) (scaleErr c a)) := by
  have HA := hide ha
  have FA := hide fa
  have la := fa.len
  have C1 := hide (show ∀ w', Old w w' → Calls Try.prog 26 #[v] w' fun e w2 => e = .returned (.int .i64 (chk a)) ∧ Old w w2 from fun w' h => (zset_Check _ _ _ (HA.out.old h)).mono fun _ _ q => ⟨q.1, Old.trans h q.2⟩)
  obtain ⟨A, ca, us, rfl, hla, hma, hul, hur, hcell⟩ := ha.open_
  unfold maxLen at hma
  have HUR := hide hur
  have HCELL := hide hcell
  have hN := chk_or a
  clear hur ha fa hcell
  by_cases e1 : chk a = 0
  · rw [e1] at C1
    have HK := hide e1
    clear e1 hN
    go_enter Try.func17, Try.ntmps17
    go_wp2_with fail
    refine (C1.out _ (Old.refl _)).mono ?_
    rintro e w1 ⟨rfl, h1⟩
    go_wp2_with fail
    go_loopw [4, 15] (fun o i wr => ∃ k : Nat, i = .int .i64 k ∧ k ≤ a.length ∧ Hid (∀ j : Nat, j < k → ∀ (hj : j < a.length), fit (c * a[j].w)) ∧ Hid (ItemsOwn 37 49 w.heap.size wr o (noZero (timesW c (a.take k)))) ∧ Old w wr) (fun _ i _ => a.length - (intOf i).toNat)
    case atStart => exact ⟨0, rfl, by omega, hide (by intro j hj; omega), hide (ItemsOwn.nil_ _), h1⟩
    case round =>
      obtain ⟨k, rfl, hk, HQ, HOWN, hbl⟩ := hrel
      by_cases hlt : k < a.length
      · have hku : k < us.length := by omega
        obtain ⟨b1, o1, rfl, hc1⟩ := HCELL.out.resolve_left (by omega)
        obtain ⟨x0, x1⟩ := hc1 k hlt hku
        obtain ⟨Ar, cr, hr, _⟩ := HUR.out k hlt hku
        have HROW := hide (HUR.out k hlt hku)
        rw [hr] at x0 HROW
        have hx0 := hbl.cell x0
        have hx1 := hbl.cell x1
        clear x0 x1 hr hc1
        have hfk := FA.out.fits a[k] (List.getElem_mem hlt)
        have CT := hide (fun w => wide_Times c a[k].w w hfc hfk)
        have hout := noZero_len (timesW c (a.take k))
        rw [timesW_len, List.length_take] at hout
        have T1 := hide (times_next (c := c) hlt)
        obtain ⟨P, hP⟩ : ∃ P, Hid (c * a[k].w = P) := ⟨c * a[k].w, hide rfl⟩
        rw [hP.out] at CT T1
        by_cases hfit : fit P
        · obtain ⟨i1, i2⟩ := int_fit hfit
          rw [i1, i2] at CT
          have HF := hide hfit
          have HQ2 := hide (show ∀ j : Nat, j < k + 1 → ∀ (hj : j < a.length), fit (c * a[j].w) from fun j hj hj' => by
            rcases Nat.lt_or_ge j k with h | h
            · exact HQ.out j h hj'
            · have : j = k := by omega
              subst this
              rw [hP.out]; exact HF.out)
          clear i1 i2 hfit
          by_cases h0 : P = 0
          · have HN := hide (show noZero (timesW c (a.take (k + 1))) = noZero (timesW c (a.take k)) by rw [T1.out]; exact noZero_skip h0)
            have h0' : (P != 0) = false := by simpa using h0
            clear h0
            go_wp2_with fail
            refine (CT.out _).mono ?_
            rintro e w2 ⟨rfl, h2⟩
            go_wp2_with fail
            go_roundw
            case rel => exact ⟨k + 1, by go_num, by omega, HQ2, hide (by rw [HN.out]; exact HOWN.out.old (Old.trans ((Old.refl wr).alloc _) h2.old)), Old.trans (hbl.alloc _) h2.old⟩
            case measure => simp [intOf]; omega
          · have HN := hide (show noZero (timesW c (a.take (k + 1))) = noZero (timesW c (a.take k)) ++ [⟨a[k].row, P⟩] by rw [T1.out]; exact noZero_push h0)
            have h0' : (P != 0) = true := by simpa using h0
            clear h0
            go_wp2_with fail
            refine (CT.out _).mono ?_
            rintro e w2 ⟨rfl, h2⟩
            have H2 := hide (Old.trans (hbl.alloc _) h2.old)
            have y0 := Old.cell h2.old (show (wr.alloc (.cells #[.slice Ar a[k].row.length cr, .int .i64 a[k].w] 37)).cell? ⟨wr.heap.size, 0, none⟩ = some (.slice Ar a[k].row.length cr) by go_simp)
            have HOW2 := hide (HOWN.out.old (Old.trans ((Old.refl wr).alloc _) h2.old))
            clear h2 hx0 hx1
            go_wp2_with fail
            refine (row_Copy _ _ _ (HROW.out.old H2.out) (FA.out.short k hlt)).mono ?_
            rintro e w3 ⟨rv, rfl, h3, h4⟩
            obtain ⟨A3, c3, rfl, _⟩ := id h3
            have H3 := hide (h3.mono H2.out.size)
            have H4 := hide (Old.trans H2.out h4)
            have HOW3 := hide (HOW2.out.old h4)
            clear h3 h4 y0
            go_wp2_with (at_builtin; refine wpList_plain rfl (fun K hK => ?_); refine step_push_item _ _ _ rfl w.heap.size _ _ rfl (HOW3.out.old ((Old.refl w3).alloc _)) _ _ (.slice A3 a[k].row.length c3) a[k].row P rfl (by go_simp) (by go_simp) (H3.out.old ((Old.refl w3).alloc _)) (by omega) (H4.out.alloc _).size ?_; intro v' w4 own4 kept4; refine hK _ _ ?_; clear hK)
            have H5 := hide (kept4.old (H4.out.alloc _) (Nat.le_refl _))
            clear kept4
            go_roundw
            case rel => exact ⟨k + 1, by go_num, by omega, HQ2, hide (by rw [HN.out]; exact own4), H5.out⟩
            case measure => simp [intOf]; omega
        · obtain ⟨i1, i2⟩ := int_unfit hfit
          rw [i1, i2] at CT
          have E := hide (scale_stop HK.out hlt (by rw [hP.out]; exact hfit))
          clear i1 i2 hfit
          go_wp2_with fail
          refine (CT.out _).mono ?_
          rintro e w2 ⟨rfl, h2⟩
          go_wp2_with fail
          go_ret2
          exact ⟨_, ret_pair E.out.1, by rw [E.out.2]; exact ItemsT.nil_ _, Old.trans (hbl.alloc _) h2.old⟩
      · have hkn : k = a.length := by omega
        have E := hide (scale_end HK.out (fun j hj => HQ.out j (by omega)))
        go_wp2_with fail
        go_ret2
        refine ⟨_, ret_pair E.out.1, ?_, hbl⟩
        rw [E.out.2]
        have h := HOWN.out.t
        rwa [hkn, List.take_length] at h
  · have E := hide (scale_arg (c := c) e1)
    have e2 : chk a = 2 := by omega
    rw [e2] at C1
    clear e1 e2 hN
    go_enter Try.func17, Try.ntmps17
    go_wp2_with fail
    refine (C1.out _ (Old.refl _)).mono ?_
    rintro e w1 ⟨rfl, h1⟩
    go_wp2_with fail
    go_ret2
    exact ⟨_, ret_pair E.out.1, by rw [E.out.2]; exact ItemsT.nil_ _, h1⟩

set_option maxRecDepth 100000 in
theorem zset_Neg (v : Value) (a : List Item) (w : World) (ha : ItemsIs w v a) (fa : Fine 1048576 a) :
    Calls Try.prog 15 #[v] w (NewItems2 w (scaleOut (-1) a) (scaleErr (-1) a)) := by
  have C := hide (zset_Scale (-1) v a w (by decide) ha fa)
  clear ha fa
  go_enter Try.func15, Try.ntmps15
  go_wp2_with fail
  refine C.out.mono ?_
  rintro e w2 ⟨v2, rfl, h2, h3⟩
  go_wp2_with fail
  go_ret2
  exact ⟨_, rfl, h2, h3⟩

theorem step_push_item_g {o : Oper} {a : Act} {K : Act → World → Prop} {Q : Exit → Act → World → Prop} (w : World) (s x : Operand)
    (ho : o.op = .call { callee := .builtin .append, args := #[s, x], argTypes := #[22, 22] })
    (base : Nat) (v : Value) (l : List Item) (hs : a.eval s = v) (hown : ItemsOwn 37 49 base w v l)
    (g cap : Nat) (rv : Value) (r : List Cell) (wt : Int) (hx : a.eval x = .slice (some ⟨g, 0, none⟩) 1 cap)
    (h0 : w.cell? ⟨g, 0, none⟩ = some rv) (h1 : w.cell? ⟨g, 1, none⟩ = some (.int .i64 wt)) (hr : SlT 49 base w rv r.length (rowVals r))
    (hlen : l.length + 1 ≤ 4194304) (hbase : base ≤ w.heap.size)
    (h : ∀ v' w', ItemsOwn 37 49 base w' v' (l ++ [⟨r, wt⟩]) → Kept 37 base w w' → w.grownBy w' v.ownBlock → K (a.put o.dst v') w') : o.wp Try.prog a w K Q := by
  obtain ⟨i0, hi, hz0, hz1, hz2⟩ := info_parts itemInfo
  obtain ⟨vs, e1, e2, e3⟩ := hown
  obtain ⟨A, cp, rfl, _⟩ := id hr
  refine wp_append_own w s x 22 ho base 37 i0 (.agg #[.slice none 0 0, .int .i64 0]) 2 32 Try.underlying22 hi hz0 hz1 hz2 rfl (by omega) v l.length (itemVals vs l) hs e2
    ⟨g, 0, none⟩ 1 cap [.slice A r.length cp, .int .i64 wt] hx rfl ?_ ?_ (by unfold maxLen; omega) (by omega) hbase ?_
  · intro j u hu
    match j, hu with
    | 0, hu => simp at hu; subst hu; exact h0
    | 1, hu => simp at hu; subst hu; simpa [Addr.add] using h1
    | j + 2, hu => simp at hu
  · intro u hu
    simp at hu
    rcases hu with rfl | rfl <;> rfl
  · intro v' w' own' hg _
    have hk := Kept.of_grown e2 hg hbase
    refine h v' w' ⟨vs ++ [.slice A r.length cp], by simp [e1], ?_, ?_⟩ hk hg
    · rw [itemVals_append vs l _ _ e1, itemVals_one, List.length_append]
      exact own'
    · intro i hi hi'
      rcases Nat.lt_or_ge i l.length with hlt | hge
      · have : i < vs.length := by omega
        have hrow := e3 i hlt this
        rw [List.getElem_append_left this]
        simp only [List.getElem_append_left hlt]
        exact hk.slT hrow (by decide)
      · have hi2 : i = l.length := by simp at hi; omega
        subst hi2
        rw [List.getElem_append_right (by omega)]
        simp only [List.getElem_append_right (Nat.le_refl _), Nat.sub_self, List.getElem_cons_zero, e1]
        exact hk.slT hr (by decide)

/-- later worlds of w in which the box q of an item stands -/
structure BoxS (w : World) (q : Nat) (u : Value) (i : Int) (w' : World) : Prop where
  old : Old w w'
  c0 : w'.cell? ⟨q, 0, none⟩ = some u
  c1 : w'.cell? ⟨q, 1, none⟩ = some (.int .i64 i)
theorem BoxS.later {w w' w'' : World} {q : Nat} {u : Value} {i : Int} (h : BoxS w q u i w') (ho : Old w' w'') : BoxS w q u i w'' := ⟨Old.trans h.old ho, ho.cell h.c0, ho.cell h.c1⟩
theorem BoxS.push {w wx w' : World} {q : Nat} {u : Value} {i : Int} {T : TypeId} {v : Value} (h : BoxS w q u i wx) (k : Kept T w.heap.size wx w') (hg : wx.grownBy w' v.ownBlock) (hne : some q ≠ v.ownBlock) : BoxS w q u i w' :=
  ⟨k.old h.old (Nat.le_refl _), hg.cell h.c0 hne, hg.cell h.c1 hne⟩
theorem ItemsOwn.block {tI tC base : Nat} {w : World} {v : Value} {l : List Item} (h : ItemsOwn tI tC base w v l) : some w.heap.size ≠ v.ownBlock := fun e => by
  obtain ⟨vs, _, h2, _⟩ := h
  obtain ⟨cs, T', f, hh, _⟩ := own_block h2 _ e.symm
  have := block_lt hh
  omega

set_option maxRecDepth 100000 in
set_option maxHeartbeats 1000000 in
theorem zset_Copy (v : Value) (l : List Item) (w : World) (hl : ItemsIs w v l) (hlen : l.length ≤ 1048576) (hs : Short l) : Calls Try.prog 30 #[v] w (NewItems w l) := by
  obtain ⟨A, ca, us, rfl, hla, hma, hul, hur, ha⟩ := hl.open_
  unfold maxLen at hma
  have HUR := Lib.hid hur
  have HS := Lib.hid hs
  clear hur hs
  go_enter Try.func30, Try.ntmps30
  go_wp2_with fail
  go_loopw [2, 7] (fun o i wr => ∃ k : Nat, i = .int .i64 k ∧ k ≤ l.length ∧ ItemsOwn 37 49 w.heap.size wr o (l.take k) ∧ Old w wr) (fun _ i _ => l.length - (intOf i).toNat)
  case atStart => exact ⟨0, rfl, by omega, ItemsOwn.nil_ _, Old.refl _⟩
  case round =>
    obtain ⟨k, rfl, hk, hown, hbl⟩ := hrel
    by_cases hlt : k < l.length
    · have hku : k < us.length := by omega
      obtain ⟨b1, o1, rfl, hc1⟩ := ha.resolve_left (by omega)
      obtain ⟨x0, x1⟩ := hc1 k hlt hku
      obtain ⟨Ar, cr, hr, _⟩ := HUR.out k hlt hku
      have hrow := HUR.out k hlt hku
      rw [hr] at x0 hrow
      have hx0 := hbl.cell x0
      have hx1 := hbl.cell x1
      have hcall : ∀ w', Old w w' → Calls Try.prog 38 #[.slice Ar l[k].row.length cr] w' fun e w2 => ∃ A cp, e = .returned (.slice A l[k].row.length cp) ∧ SlT 49 w.heap.size w2 (.slice A l[k].row.length cp) l[k].row.length (rowVals l[k].row) ∧ Old w' w2 := fun w' h =>
        (row_Copy _ _ _ (hrow.old h) (HS.out k hlt)).mono fun _ _ hn => hn.form h.size
      have HC := Lib.hid hcall
      have HO := Lib.hid hown
      have hpush : (l.take k).length + 1 ≤ 4194304 := by simp; omega
      clear ha hc1 x0 x1 hrow hcall hown hr
      go_wp2_with fail
      have g0 : (wr.alloc (.cells #[.slice Ar l[k].row.length cr, .int .i64 l[k].w] 37)).cell? ⟨wr.heap.size, 0, none⟩ = some (.slice Ar l[k].row.length cr) := by go_simp
      have g1 : (wr.alloc (.cells #[.slice Ar l[k].row.length cr, .int .i64 l[k].w] 37)).cell? ⟨wr.heap.size, 1, none⟩ = some (.int .i64 l[k].w) := by go_simp
      have hbx : Old wr (wr.alloc (.cells #[.slice Ar l[k].row.length cr, .int .i64 l[k].w] 37)) := (Old.refl wr).alloc _
      have HB := hide HO.out.block
      generalize wr.alloc (.cells #[.slice Ar l[k].row.length cr, .int .i64 l[k].w] 37) = wx at g0 g1 hbx ⊢
      have hS : BoxS w wr.heap.size (.slice Ar l[k].row.length cr) l[k].w wx := ⟨Old.trans hbl hbx, g0, g1⟩
      have hy0 : ∀ w', BoxS w wr.heap.size (.slice Ar l[k].row.length cr) l[k].w w' → w'.cell? ⟨wr.heap.size, 0, none⟩ = some (.slice Ar l[k].row.length cr) := fun w' h => h.c0
      have hy1 : ∀ w', BoxS w wr.heap.size (.slice Ar l[k].row.length cr) l[k].w w' → w'.cell? ⟨wr.heap.size, 1, none⟩ = some (.int .i64 l[k].w) := fun w' h => h.c1
      have HO2 := hide (HO.out.old hbx)
      have HC2 := hide (show ∀ w', BoxS w wr.heap.size (.slice Ar l[k].row.length cr) l[k].w w' → _ from fun w' h => HC.out w' h.old)
      clear g0 g1 hx0 hx1 HO HC hbl hbx
      go_region_held3 (fun w' => BoxS w wr.heap.size (.slice Ar l[k].row.length cr) l[k].w w')
        (first | (exact BoxS.later hS (Old.drew (Old.refl _))) | (exact BoxS.later (by assumption) (Old.alloc (Old.refl _) _)) | (exact BoxS.later (by assumption) (by assumption)) | (exact BoxS.push (by assumption) (by assumption) (by assumption) HB.out))
        (first
          | (go_at_call 38; refine (HC2.out _ (by assumption)).mono ?_; rintro e w1 ⟨A1, c1, rfl, hr1, hb1⟩)
          | (refine step_push_item_g _ _ _ rfl w.heap.size _ (l.take k) rfl (HO2.out.old (Old.trans (Old.trans (Old.drew (Old.refl _)) hb1) (Old.alloc (Old.refl _) _))) _ _ (.slice A1 l[k].row.length c1) l[k].row l[k].w rfl (by go_simp) (by go_simp) (SlT.old hr1 (Old.alloc (Old.refl _) _)) hpush (Below.size (BoxS.old (by assumption))) ?_; intro v' w2 own2 kept2 grown2))
      go_wp2_with fail
      go_roundw
      case rel => exact ⟨k + 1, by go_num, by omega, by rw [take_next hlt]; exact own2, BoxS.old (by assumption)⟩
      case measure => simp [intOf]; omega
    · have hkl : k = l.length := by omega
      go_wp2_with fail
      go_ret
      refine ⟨_, rfl, ?_, hbl⟩
      have h := hown.t
      rwa [hkl, List.take_length] at h
end Go.Proofs.Ytggknmagpcnkoaa
