/- The document's List, Obj and its leaves. -/
import Derived.Test.YtkefhhnbkhijgaaDoorRmade
namespace Go.Proofs.YtkefhhnbkhijgaaDoor
open Go.RowKit

set_option maxRecDepth 100000 in
set_option maxHeartbeats 1000000 in
theorem ref_List (v : Value) (pl : List (List Nd)) (out : List Nd) (er : Int) (w : World) (hp : PartsIs w v pl) (htx : ∀ p ∈ pl, TextsOk p) (hl : ListT pl out er) :
    Calls Tryd.prog 22 #[v] w (NewNodesE w out er) := by
  have HP := hide hp
  obtain ⟨A, ca, rfl, hla, hma, hc⟩ := hp.open_
  unfold maxLen at hma
  have HC := hide hc
  have HTX := hide htx
  have HL := hide hl
  clear hp hc htx hl
  go_enter Tryd.func22, Tryd.ntmps22
  go_wp2_with fail
  go_loopw [4] (fun i wr => ∃ k : Nat, i = .int .i64 k ∧ k ≤ pl.length ∧ Hid (∀ j : Nat, (hj : j < pl.length) → j < k → chkT pl[j] = 0) ∧ Hid (Old w wr)) (fun i _ => pl.length - (intOf i).toNat)
  case atStart => exact ⟨0, rfl, by omega, hide (by intro j _ h; omega), hide (Old.refl _)⟩
  case round =>
    obtain ⟨k, rfl, hk, HQ, HO⟩ := hrel
    by_cases hlt : k < pl.length
    · obtain ⟨b1, o1, rfl, hc1⟩ := HC.out.resolve_left (by omega)
      obtain ⟨A', c', x0, x1, x2, x3⟩ := hc1 k hlt
      have CC := hide (ref_Check _ _ wr (x3.old HO.out) (HTX.out _ (List.getElem_mem hlt)))
      have e0 := HO.out.cell x0
      obtain ⟨c, hcc⟩ : ∃ c, Hid (chkT pl[k] = c) := ⟨_, hide rfl⟩
      rw [hcc.out] at CC
      unfold maxLen at x2
      clear hc1 x0 x3
      by_cases h0 : c = 0
      · subst h0
        go_wp2_with fail
        refine CC.out.mono ?_
        rintro e w1 ⟨rfl, ow1⟩
        have HQ2 := hide (show ∀ j : Nat, (hj : j < pl.length) → j < k + 1 → chkT pl[j] = 0 from fun j hj hjk => by
          rcases Nat.lt_or_ge j k with h | h
          · exact HQ.out j hj h
          · have : j = k := by omega
            subst this
            exact hcc.out)
        have O2 := hide (Old.trans HO.out ow1)
        clear ow1 e0
        go_wp2_with fail
        go_roundw
        case rel => exact ⟨k + 1, by go_num, by omega, HQ2, O2⟩
        case measure => simp [intOf]; omega
      · have h0' : (c != 0) = true := by simpa using h0
        have FIN := hide (show out = [] ∧ er = c by
          rcases HL.out with ⟨i, hi, h1, h2, h3, h4⟩ | ⟨js, hj, _⟩
          · have : i = k := by
              rcases Nat.lt_trichotomy i k with h | h | h
              · exact absurd (HQ.out i hi h) h2
              · exact h
              · exact absurd (hcc.out.symm.trans (h1 k hlt h)) h0
            subst this
            exact ⟨h4, h3.trans hcc.out⟩
          · exact absurd (hcc.out.symm.trans (allMay_chk hj k hlt)) h0)
        clear h0
        go_wp2_with fail
        refine CC.out.mono ?_
        rintro e w1 ⟨rfl, ow1⟩
        have O2 := hide (Old.trans HO.out ow1)
        clear ow1 e0
        go_wp2_with fail
        go_ret2
        exact ⟨_, by rw [FIN.out.2]; rfl, by rw [FIN.out.1]; exact SlT.nil_ _, O2.out⟩
    · have CW := hide (show Calls Tryd.prog 52 #[.int .i64 6, .slice none 0 0, .slice A pl.length ca] wr (NewNodesE wr out er) by
        rcases HL.out with ⟨i, hi, h1, h2, h3, h4⟩ | ⟨js, hj, hw⟩
        · exact absurd (HQ.out i hi (by omega)) h2
        · exact made_list _ pl js out er wr (HP.out.old HO.out) hj.1 hj.2 hw)
      go_wp2_with fail
      refine CW.out.mono ?_
      rintro e w1 ⟨v1, rfl, h1, o1⟩
      have H1 := hide (h1.mono HO.out.size)
      have O2 := hide (Old.trans HO.out o1)
      clear h1 o1
      go_wp2_with fail
      go_ret2
      exact ⟨_, rfl, H1.out, O2.out⟩

set_option maxRecDepth 100000 in
set_option maxHeartbeats 2000000 in
theorem ref_Obj (kv v : Value) (ks : List ByteArray) (pl : List (List Nd)) (out : List Nd) (er : Int) (w : World) (hkv : TextsIs w kv ks) (hks : ∀ s ∈ ks, s.size ≤ maxLen) (hp : PartsIs w v pl) (htx : ∀ p ∈ pl, TextsOk p) (hl : ObjT ks pl out er) :
    Calls Tryd.prog 24 #[kv, v] w (NewNodesE w out er) := by
  have HP := hide hp
  have HKV := hide hkv
  have HKS := hide hks
  have HTX := hide htx
  have HL := hide hl
  obtain ⟨A, ca, rfl, hla, hma, hc⟩ := hp.open_
  obtain ⟨Bk, cb, rfl, hlb, hmb, hb⟩ := hkv.texts
  unfold maxLen at hma hmb
  have HC := hide hc
  have HB := hide hb
  clear hp hkv hks hc hb htx hl
  by_cases hn : ks.length = pl.length
  · have HN := hide hn
    have hn' : ((ks.length : Int) != (pl.length : Int)) = false := by simp [hn]
    have hl1 : ks.length ≤ pl.length := by omega
    have hl2 : pl.length ≤ ks.length := by omega
    clear hn
    go_enter Tryd.func24, Tryd.ntmps24
    go_wp2_with fail
    go_loopw [6] (fun i wr => ∃ k : Nat, i = .int .i64 k ∧ k ≤ pl.length ∧ Hid (∀ j : Nat, j < k → objErr ks pl j = 0) ∧ Hid (Old w wr)) (fun i _ => pl.length - (intOf i).toNat)
    case atStart => exact ⟨0, rfl, by omega, hide (by intro j h; omega), hide (Old.refl _)⟩
    case round =>
      obtain ⟨k, rfl, hk, HQ, HO⟩ := hrel
      by_cases hlt : k < pl.length
      · have hltk : k < ks.length := by omega
        obtain ⟨bk, ok, rfl, hkc⟩ := HB.out.resolve_left (by omega)
        obtain ⟨bp, op, rfl, hpc⟩ := HC.out.resolve_left (by omega)
        obtain ⟨A', c', x0, x1, x2, x3⟩ := hpc k hlt
        have X0 := hide x0
        have XN := hide x3
        have HKC := hide hkc
        have e0 := HO.out.cell (hkc k hltk)
        obtain ⟨s, hs⟩ : ∃ s, Hid (ks[k] = s) := ⟨_, hide rfl⟩
        rw [hs.out] at e0
        have HSZ := hide (show s.size ≤ maxLen by rw [← hs.out]; exact HKS.out _ (List.getElem_mem hltk))
        have HPT := hide (HTX.out _ (List.getElem_mem hlt))
        have CV := hide (ref_Valid' s wr (by have := HSZ.out; unfold maxLen at this; omega))
        have CC := hide (show ∀ w', Old w w' → Calls Tryd.prog 37 #[.slice A' pl[k].length c'] w' fun e w2 => e = .returned (.int .i64 (chkT pl[k])) ∧ Old w' w2 from fun w' ho => ref_Check _ _ w' (XN.out.old ho) HPT.out)
        unfold maxLen at x2
        clear hkc hpc x0 x3
        cases hv : vU s
        · rw [hv] at CV
          have FIN := hide (obj_first HL.out (by omega) hlt HQ.out (objErr_40 hltk (by rw [hs.out]; exact hv)) (by decide))
          clear hv
          go_wp2_with fail
          refine CV.out.mono ?_
          rintro e w2 ⟨rfl, o2⟩
          have O2 := hide (Old.trans HO.out o2)
          clear o2 e0
          go_wp2_with fail
          go_ret2
          exact ⟨_, by rw [FIN.out.2]; rfl, by rw [FIN.out.1]; exact SlT.nil_ _, O2.out⟩
        · rw [hv] at CV
          have HV := hide hv
          clear hv
          go_wp2_with fail
          refine CV.out.mono ?_
          rintro e w2 ⟨rfl, o2⟩
          have O2 := hide (Old.trans HO.out o2)
          clear o2 e0
          obtain ⟨wv, hwv⟩ : ∃ x, x = wr := ⟨_, rfl⟩
          subst hwv
          go_wp2_with fail
          go_loopw [7] (fun i wz => ∃ m : Nat, i = .int .i64 m ∧ m ≤ k ∧ Hid (s ∉ ks.take m) ∧ Hid (Old w wz)) (fun i _ => k - (intOf i).toNat)
          case atStart => exact ⟨0, rfl, by omega, hide (by simp), O2⟩
          case round =>
            obtain ⟨m, rfl, hm, HNI, HZ⟩ := hrel
            by_cases hmk : m < k
            · have hml : m < ks.length := by omega
              have e1 := HZ.out.cell (HKC.out m hml)
              have e2 := HZ.out.cell (HKC.out k hltk)
              rw [hs.out] at e2
              obtain ⟨s1, hs1⟩ : ∃ s, Hid (ks[m] = s) := ⟨_, hide rfl⟩
              rw [hs1.out] at e1
              by_cases hke : s1 = s
              · have hkt : (s1.toList == s.toList) = true := by rw [hke]; simp
                have FIN := hide (obj_first HL.out (by omega) hlt HQ.out (objErr_71 hltk (by rw [hs.out]; exact HV.out) (by
                  rw [hs.out, hasKey_iff, ← hke, ← hs1.out]
                  exact List.mem_take_iff_getElem.2 ⟨m, by omega, rfl⟩)) (by decide))
                clear hke
                go_wp2_with fail
                go_quiet (fail)
                go_wp2_with fail
                go_ret2
                exact ⟨_, by rw [FIN.out.2]; rfl, by rw [FIN.out.1]; exact SlT.nil_ _, Old.drewN HZ.out _⟩
              · have HKE := hide hke
                have hkt1 : ¬ s1.toList = s.toList := fun e => hke (bytes_ext e)
                have hkt : (s1.toList == s.toList) = false := beq_eq_false_iff_ne.2 hkt1
                clear hke hkt1
                go_wp2_with fail
                go_quiet (fail)
                go_wp2_with fail
                go_roundw
                case rel => exact ⟨m + 1, by go_num, by omega, hide (by
                  rw [List.take_succ_eq_append_getElem hml, hs1.out]
                  simp only [List.mem_append, List.mem_singleton, not_or]
                  exact ⟨HNI.out, fun e => HKE.out e.symm⟩), hide (Old.drewN HZ.out _)⟩
                case measure => simp [intOf]; omega
            · have HH := hide (show hasKey (ks.take k) ks[k] = false by
                rw [hs.out, hasKey_not]
                have : m = k := by omega
                rw [← this]
                exact HNI.out)
              have OE := hide (objErr_chk (pl := pl) hltk hlt (by rw [hs.out]; exact HV.out) HH.out)
              obtain ⟨c, hc⟩ : ∃ c, Hid (chkT pl[k] = c) := ⟨_, hide rfl⟩
              rw [hc.out] at OE CC
              have x0 := HZ.out.cell X0.out
              by_cases h0 : c = 0
              · subst h0
                go_wp2_with fail
                refine (CC.out _ HZ.out).mono ?_
                rintro e w4 ⟨rfl, o4⟩
                have O4 := hide (Old.trans HZ.out o4)
                clear o4 x0
                have HQ2 := hide (show ∀ j : Nat, j < k + 1 → objErr ks pl j = 0 from fun j hjk => by
                  rcases Nat.lt_or_ge j k with h | h
                  · exact HQ.out j h
                  · have : j = k := by omega
                    subst this
                    exact OE.out)
                go_wp2_with fail
                go_roundw
                case rel => exact ⟨k + 1, by go_num, by omega, HQ2, O4⟩
                case measure => simp [intOf]; omega
              · have h0' : (c != 0) = true := by simpa using h0
                have FIN := hide (obj_first HL.out (by omega) hlt HQ.out OE.out h0)
                clear h0
                go_wp2_with fail
                refine (CC.out _ HZ.out).mono ?_
                rintro e w4 ⟨rfl, o4⟩
                have O4 := hide (Old.trans HZ.out o4)
                clear o4 x0
                go_wp2_with fail
                go_ret2
                exact ⟨_, by rw [FIN.out.2]; rfl, by rw [FIN.out.1]; exact SlT.nil_ _, O4.out⟩
      · have CW := hide (show Calls Tryd.prog 52 #[.int .i64 7, .slice Bk ks.length cb, .slice A pl.length ca] wr (NewNodesE wr out er) by
          rcases HL.out with ⟨h, _⟩ | ⟨hl, ⟨i, hi, h1, h2, h3, h4⟩ | ⟨h1, js, hj, hw⟩⟩
          · omega
          · exact absurd (HQ.out i (by omega)) h2
          · exact made_obj _ _ pl js ks out er wr (HKV.out.old HO.out) (hl.trans hj.1) (HP.out.old HO.out) hj.1 hj.2 hw)
        go_wp2_with fail
        refine CW.out.mono ?_
        rintro e w2 ⟨v1, rfl, h1, o1⟩
        have H1 := hide (h1.mono HO.out.size)
        have O2 := hide (Old.trans HO.out o1)
        clear h1 o1
        go_wp2_with fail
        go_ret2
        exact ⟨_, rfl, H1.out, O2.out⟩
  · have hn' : ((ks.length : Int) != (pl.length : Int)) = true := bne_iff_ne.2 (by omega)
    have FIN := hide (show out = [] ∧ er = 2 by
      rcases HL.out with ⟨_, h1, h2⟩ | ⟨h, _⟩
      · exact ⟨h1, h2⟩
      · exact absurd h hn)
    clear hn
    go_enter Tryd.func24, Tryd.ntmps24
    go_wp2_with fail
    go_ret2
    exact ⟨_, by rw [FIN.out.2]; rfl, by rw [FIN.out.1]; exact SlT.nil_ _, Old.refl w⟩

set_option maxRecDepth 100000 in
theorem ref_Leaf (kind n : Int) (s : ByteArray) (w : World) : Calls Tryd.prog 15 #[.int .i64 kind, .int .i64 n, .string s] w (NewNodes w (leafT kind n s)) := by
  go_enter Tryd.func15, Tryd.ntmps15
  go_wp2_with fail
  go_ret
  exact ⟨_, rfl, one_node w ⟨kind, none_, n, s, 1⟩ _ rfl _ (Nat.le_refl _), (Old.refl w).alloc _⟩
set_option maxRecDepth 100000 in
theorem ref_Bool (b : Bool) (w : World) : Calls Tryd.prog 17 #[.bool b] w (NewNodes w (leafT (if b then 3 else 2) 0 none_)) := by
  cases b
  · have C := hide (ref_Leaf 2 0 none_ w)
    go_enter Tryd.func17, Tryd.ntmps17
    go_wp2_with fail
    refine C.out.mono ?_
    rintro e w1 ⟨v, rfl, h1, h2⟩
    go_wp2_with fail
    go_ret
    exact ⟨_, rfl, h1, h2⟩
  · have C := hide (ref_Leaf 3 0 none_ w)
    go_enter Tryd.func17, Tryd.ntmps17
    go_wp2_with fail
    refine C.out.mono ?_
    rintro e w1 ⟨v, rfl, h1, h2⟩
    go_wp2_with fail
    go_ret
    exact ⟨_, rfl, h1, h2⟩
set_option maxRecDepth 100000 in
theorem ref_Str (s : ByteArray) (w : World) (hs : s.size ≤ 9223372036854775807) : Calls Tryd.prog 20 #[.string s] w (NewNodes w (strT s)) := by
  have C := hide (show ∀ w', Old w w' → Calls Tryd.prog 15 #[.int .i64 5, .int .i64 0, .string s] w' fun e w2 => ∃ v, e = .returned v ∧ NodesT w.heap.size w2 v (leafT 5 0 s) ∧ Old w w2 from fun w' h =>
    (ref_Leaf 5 0 s w').mono fun _ _ ⟨v, h1, h2, h3⟩ => ⟨v, h1, h2.mono h.size, Old.trans h h3⟩)
  have CV := hide (ref_Valid' s w hs)
  cases hv : vU s
  · rw [hv] at CV
    have E := hide (show strT s = [] by unfold strT; rw [hv]; rfl)
    clear hs hv C
    go_enter Tryd.func20, Tryd.ntmps20
    go_wp2_with fail
    refine CV.out.mono ?_
    rintro e w1 ⟨rfl, o1⟩
    go_wp2_with fail
    go_ret
    exact ⟨_, rfl, by rw [E.out]; exact SlT.nil_ _, o1⟩
  · rw [hv] at CV
    have E := hide (show strT s = leafT 5 0 s by unfold strT; rw [hv]; rfl)
    clear hs hv
    go_enter Tryd.func20, Tryd.ntmps20
    go_wp2_with fail
    refine CV.out.mono ?_
    rintro e w1 ⟨rfl, o1⟩
    go_wp2_with fail
    refine (C.out _ o1).mono ?_
    rintro e w2 ⟨v, rfl, h1, h2⟩
    go_wp2_with fail
    go_ret
    exact ⟨_, rfl, by rw [E.out]; exact h1, h2⟩
end Go.Proofs.YtkefhhnbkhijgaaDoor
