/- The document's Scale and Neg. -/
import Derived.Test.YtggknmagpcnkoaaRefa
namespace Go.Proofs.Ytggknmagpcnkoaa
open Go.RowKit

set_option maxRecDepth 100000 in
set_option maxHeartbeats 1000000 in
theorem ref_Scale (c : Int) (v : Value) (a : List Item) (w : World) (hfc : fit c) (ha : ItemsIs w v a) (fa : Fine 1048576 a) :
    Calls Try.prog 18 #[.int .i64 c, v] w (NewItems2 w (scaleOut c a) (scaleErr c a)) := by
  have HA := hide ha
  have FA := hide fa
  have la := fa.len
  have C1 := hide (show ∀ w', Old w w' → Calls Try.prog 31 #[v] w' fun e w2 => e = .returned (.int .i64 (chk a)) ∧ Old w w2 from fun w' h => (ref_Check _ _ _ (HA.out.old h)).mono fun _ _ q => ⟨q.1, Old.trans h q.2⟩)
  obtain ⟨A, ca, us, rfl, hla, hma, hul, hur, hcell⟩ := ha.open_
  unfold maxLen at hma
  have HUR := hide hur
  have HCELL := hide hcell
  have hN := chk_or a
  clear hur ha fa hcell
  by_cases e1 : chk a = 0
  · rw [e1] at C1
    have HK := hide e1
    clear e1 hN
    go_enter Try.func18, Try.ntmps18
    go_wp2_with fail
    refine (C1.out _ (Old.refl _)).mono ?_
    rintro e w1 ⟨rfl, h1⟩
    go_wp2_with fail
    go_loopw [6, 7] (fun o i wr => ∃ k : Nat, i = .int .i64 k ∧ k ≤ a.length ∧ Hid (∀ j : Nat, j < k → ∀ (hj : j < a.length), fit (c * a[j].w)) ∧ Hid (ItemsOwn 37 49 w.heap.size wr o (noZero (timesW c (a.take k)))) ∧ Old w wr) (fun _ i _ => a.length - (intOf i).toNat)
    case atStart => exact ⟨0, rfl, by omega, hide (by intro j hj; omega), hide (ItemsOwn.nil_ _), h1⟩
    case round =>
      obtain ⟨k, rfl, hk, HQ, HOWN, hbl⟩ := hrel
      by_cases hlt : k < a.length
      · have hku : k < us.length := by omega
        obtain ⟨b1, o1, rfl, hc1⟩ := HCELL.out.resolve_left (by omega)
        obtain ⟨x0, x1⟩ := hc1 k hlt hku
        obtain ⟨Ar, cr, hr, _⟩ := HUR.out k hlt hku
        have HROW := hide (HUR.out k hlt hku)
        rw [hr] at x0 HROW
        have hx0 := hbl.cell x0
        have hx1 := hbl.cell x1
        clear x0 x1 hr hc1
        have hfk := FA.out.fits a[k] (List.getElem_mem hlt)
        have CT := hide (fun w => ref_Times c a[k].w w hfc hfk)
        have hout := noZero_len (timesW c (a.take k))
        rw [timesW_len, List.length_take] at hout
        have T1 := hide (times_next (c := c) hlt)
        obtain ⟨P, hP⟩ : ∃ P, Hid (c * a[k].w = P) := ⟨c * a[k].w, hide rfl⟩
        rw [hP.out] at CT T1
        by_cases hfit : fit P
        · obtain ⟨i1, i2⟩ := int_fit hfit
          rw [i1, i2] at CT
          have HF := hide hfit
          have HQ2 := hide (show ∀ j : Nat, j < k + 1 → ∀ (hj : j < a.length), fit (c * a[j].w) from fun j hj hj' => by
            rcases Nat.lt_or_ge j k with h | h
            · exact HQ.out j h hj'
            · have : j = k := by omega
              subst this
              rw [hP.out]; exact HF.out)
          clear i1 i2 hfit
          by_cases h0 : P = 0
          · have HN := hide (show noZero (timesW c (a.take (k + 1))) = noZero (timesW c (a.take k)) by rw [T1.out]; exact noZero_skip h0)
            have h0' : (P != 0) = false := by simpa using h0
            clear h0
            go_wp2_with fail
            refine (CT.out _).mono ?_
            rintro e w2 ⟨rfl, h2⟩
            go_wp2_with fail
            go_roundw
            case rel => exact ⟨k + 1, by go_num, by omega, HQ2, hide (by rw [HN.out]; exact HOWN.out.old h2), Old.trans hbl h2⟩
            case measure => simp [intOf]; omega
          · have HN := hide (show noZero (timesW c (a.take (k + 1))) = noZero (timesW c (a.take k)) ++ [⟨a[k].row, P⟩] by rw [T1.out]; exact noZero_push h0)
            have h0' : (P != 0) = true := by simpa using h0
            clear h0
            go_wp2_with fail
            refine (CT.out _).mono ?_
            rintro e w2 ⟨rfl, h2⟩
            have H2 := hide (Old.trans hbl h2)
            have y0 := Old.cell h2 hx0
            have HOW2 := hide (HOWN.out.old h2)
            clear h2 hx0 hx1
            go_wp2_with fail
            refine (copyRow _ _ _ (HROW.out.old H2.out) (FA.out.short k hlt)).mono ?_
            rintro e w3 ⟨rv, rfl, h3, h4⟩
            obtain ⟨A3, c3, rfl, _⟩ := id h3
            have H3 := hide (h3.mono H2.out.size)
            have H4 := hide (Old.trans H2.out h4)
            have HOW3 := hide (HOW2.out.old h4)
            clear h3 h4 y0
            go_wp2_with (at_builtin; refine wpList_plain rfl (fun K hK => ?_); refine step_push_item _ _ _ rfl w.heap.size _ _ rfl (HOW3.out.old ((Old.refl w3).alloc _)) _ _ (.slice A3 a[k].row.length c3) a[k].row P rfl (by go_simp) (by go_simp) (H3.out.old ((Old.refl w3).alloc _)) (by omega) (H4.out.alloc _).size ?_; intro v' w4 own4 kept4; refine hK _ _ ?_; clear hK)
            have H5 := hide (kept4.old (H4.out.alloc _) (Nat.le_refl _))
            clear kept4
            go_roundw
            case rel => exact ⟨k + 1, by go_num, by omega, HQ2, hide (by rw [HN.out]; exact own4), H5.out⟩
            case measure => simp [intOf]; omega
        · obtain ⟨i1, i2⟩ := int_unfit hfit
          rw [i1, i2] at CT
          have E := hide (scale_stop HK.out hlt (by rw [hP.out]; exact hfit))
          clear i1 i2 hfit
          go_wp2_with fail
          refine (CT.out _).mono ?_
          rintro e w2 ⟨rfl, h2⟩
          go_wp2_with fail
          go_ret2
          exact ⟨_, ret_pair E.out.1, by rw [E.out.2]; exact ItemsT.nil_ _, Old.trans hbl h2⟩
      · have hkn : k = a.length := by omega
        have E := hide (scale_end HK.out (fun j hj => HQ.out j (by omega)))
        go_wp2_with fail
        go_ret2
        refine ⟨_, ret_pair E.out.1, ?_, hbl⟩
        rw [E.out.2]
        have h := HOWN.out.t
        rwa [hkn, List.take_length] at h
  · have E := hide (scale_arg (c := c) e1)
    have e2 : chk a = 2 := by omega
    rw [e2] at C1
    clear e1 e2 hN
    go_enter Try.func18, Try.ntmps18
    go_wp2_with fail
    refine (C1.out _ (Old.refl _)).mono ?_
    rintro e w1 ⟨rfl, h1⟩
    go_wp2_with fail
    go_ret2
    exact ⟨_, ret_pair E.out.1, by rw [E.out.2]; exact ItemsT.nil_ _, h1⟩

set_option maxRecDepth 100000 in
theorem ref_Neg (v : Value) (a : List Item) (w : World) (ha : ItemsIs w v a) (fa : Fine 1048576 a) :
    Calls Try.prog 16 #[v] w (NewItems2 w (scaleOut (-1) a) (scaleErr (-1) a)) := by
  have C := hide (ref_Scale (-1) v a w (by decide) ha fa)
  clear ha fa
  go_enter Try.func16, Try.ntmps16
  go_wp2_with fail
  refine C.out.mono ?_
  rintro e w2 ⟨v2, rfl, h2, h3⟩
  go_wp2_with fail
  go_ret2
  exact ⟨_, rfl, h2, h3⟩
end Go.Proofs.Ytggknmagpcnkoaa
