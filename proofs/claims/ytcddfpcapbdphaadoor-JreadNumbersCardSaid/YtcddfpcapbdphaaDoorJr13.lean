/- jread.Parse: a text as a tape. -/
import Derived.Test.YtcddfpcapbdphaaDoorJr11
import Derived.Test.YtcddfpcapbdphaaDoorJr12
import Derived.WalkMore
namespace Go.Proofs.YtcddfpcapbdphaaDoor
open Go.RowKit

theorem JParsed.old {base : Nat} {s : ByteArray} {e : Ending} {w w' : World} (h : JParsed base s e w) (o : Old w w') : JParsed base s e w' := by
  unfold JParsed at h ⊢
  split
  · rename_i p c hp
    rw [hp] at h
    exact h
  · rename_i j hp
    rw [hp] at h
    obtain ⟨v, h1, h2⟩ := h
    exact ⟨v, h1, own_old h2 o⟩
theorem jr_new (s : ByteArray) (w : World) : JR w.heap.size w.heap.size s 0 [] [] none_ 0 0 (w.alloc (.cells #[.string s, .int .i64 0, .slice none 0 0, .slice none 0 0, .string ⟨#[]⟩, .int .i64 0, .int .i64 0] 55)) :=
  ⟨Nat.le_refl _, .slice none 0 0, .slice none 0 0, heap_alloc_new w _, ⟨by simp [ndVals], .inl ⟨rfl, rfl⟩⟩, JOpen.nil_ _ _⟩
theorem jat_0 (s : ByteArray) : JAt s 0 s.data.toList := ⟨by rw [list_size]; omega, rfl⟩
set_option maxRecDepth 100000 in
set_option maxHeartbeats 8000000 in
theorem jparse_run (s : ByteArray) (w : World) (hs : s.size ≤ 1073741824) (hE : Errs w) (hT : Tabs w) :
    Calls Tryd.prog 8 #[.string s] w fun e w' => JParsed w.heap.size s e w' ∧ Old w w' := by
  have HE := hide (show Ever w.heap.size w from fun w' k => ⟨hE.old k, hT.old k⟩)
  clear hE hT
  by_cases hbig : 1048576 < s.size
  · have hq : (1048576 : Int) < (s.size : Int) := by omega
    have FIN := hide (show parseV s.data.toList = .error (0, 5) by unfold parseV; rw [if_pos (by rw [list_size]; exact hbig)])
    clear hbig HE
    go_enter Tryd.func8, Tryd.ntmps8
    go_wp2_with fail
    go_step3
    go_wp2_with fail
    try rw [Exit.noGoto_ret]
    go_ret3
    refine ⟨?_, Old.refl _⟩
    unfold JParsed
    rw [FIN.out]
    rfl
  have hsz : s.size ≤ 1048576 := by omega
  have hq : ¬ (1048576 : Int) < (s.size : Int) := by omega
  have HSZ := hide hsz
  obtain ⟨rb, hrb⟩ : ∃ rb, w.heap.size = rb := ⟨_, rfl⟩
  have HRB := hide hrb
  have J0 := hide (jr_new s w)
  have B0 := hide (show RowKit.Below w.heap.size w (w.alloc (.cells #[.string s, .int .i64 0, .slice none 0 0, .slice none 0 0, .string ⟨#[]⟩, .int .i64 0, .int .i64 0] 55)) from Old.alloc (Old.refl _) _)
  rw [hrb] at J0 B0 HE ⊢
  have R0 := hide (show PRel rb rb s (.bool true) (.int .i64 0) (w.alloc (.cells #[.string s, .int .i64 0, .slice none 0 0, .slice none 0 0, .string ⟨#[]⟩, .int .i64 0, .int .i64 0] 55)) from .inl ⟨st0 s.data.toList, 0, rfl, rfl, pinv_0 _ _ (by rw [list_size]; exact Nat.le_refl _), Steps.refl _, jat_0 s, by simpa [st0, outN, outF, heldF] using J0.out⟩)
  clear hbig hsz J0 hrb
  go_enter Tryd.func8, Tryd.ntmps8
  go_wp2_with fail
  go_step3
  go_wp2_with fail
  go_step3
  go_wp2_with fail
  rw [HRB.out]
  go_loopw [6, 7] (fun iv sv wr => Hid (PRel rb rb s iv sv wr) ∧ Hid (RowKit.Below rb w wr)) (fun iv sv wr => pMeas rb s iv sv wr)
  case atStart => exact ⟨R0, B0⟩
  case round =>
    obtain ⟨HR, HB⟩ := hrel
    have hbw := hide (show rb ≤ w.heap.size by rw [HRB.out]; exact Nat.le_refl _)
    have hbr := hide (Nat.le_trans hbw.out HB.out.size)
    clear R0 B0
    rcases HR.out with ⟨σ, n, rfl, rfl, hi, hst, ha, hj⟩ | ⟨rfl, ⟨z, rfl⟩, b, he, hk⟩
    · have HI := hide hi
      have HST := hide hst
      have HA := hide ha
      have HJ := hide hj
      have CB := hide (blanks_run rb rb s n σ.rest _ _ _ 0 0 wr hj ha hs)
      obtain ⟨want, key, S, done, rest⟩ := σ
      cases want with
      | value =>
        have ho := outN_open hi (.inr (by simp))
        obtain ⟨ho1, hdn⟩ := ho
        simp only at ho1 hdn
        subst hdn
        have h4k := hi.nodes
        rw [ho1] at h4k
        have H4K := hide h4k
        have HT := hide (show (heldF S).length ≤ 64 by rw [heldF_len]; exact hi.small)
        clear hi hst ha hj
        go_wp2_with fail
        refine CB.out.mono ?_
        rintro y w1 ⟨rfl, ⟨m, a1, j1⟩, b1⟩
        rw [ho1] at j1
        clear CB
        have B1 := hide (HB.out.trans b1)
        have CM := hide (begin_run rb rb s m (skipB rest) _ _ key 0 0 w1 j1 a1 hs (HE.out.next B1.out) HT.out H4K.out)
        clear a1 j1 b1
        go_wp2_with fail
        refine CM.out.mono ?_
        rintro y w2 ⟨k2, b2⟩
        obtain ⟨z, B, rfl, pg⟩ := beg_go k2
        have PG := hide (pgo_rel pg HI.out HST.out HA.out HJ.out)
        have B2 := hide (B1.out.trans b2)
        clear k2 b2 pg CM
        go_wp2_with fail
        go_roundw
        case rel => exact ⟨hide PG.out.1, B2⟩
        case measure => exact PG.out.2
      | first =>
        obtain ⟨F, T, hS, hobj⟩ := hi.top.1 rfl
        simp only at hS
        subst hS
        have ho := outN_open hi (.inr (by simp))
        obtain ⟨ho1, hdn⟩ := ho
        simp only at ho1 hdn
        subst hdn
        have HKEY := hide (show key = none_ from hi.keys (by simp))
        have h64 : T.length ≤ 64 := by have := hi.small; simp only [List.length_cons] at this; omega
        have h4k := hi.nodes
        rw [ho1] at h4k
        have H4K := hide h4k
        have HT := hide (show (heldF T).length ≤ 64 by rw [heldF_len]; exact h64)
        have HOBJ := hide hobj
        clear hi hst ha hj
        go_wp2_with fail
        refine CB.out.mono ?_
        rintro y w1 ⟨rfl, ⟨m, a1, j1⟩, b1⟩
        rw [ho1] at j1
        clear CB
        have J1 := hide j1
        have A1 := hide a1
        have B1 := hide (HB.out.trans b1)
        have hb1 := hide (Nat.le_trans hbw.out B1.out.size)
        obtain ⟨B, hB⟩ : ∃ B, Hid (nowB [93] (skipB rest) = B) := ⟨_, hide rfl⟩
        have C1 := hide (ask_run rb rb s m (skipB rest) _ _ key 0 0 w1 j1 a1 93 93 (by decide) B hB.out _ rfl)
        clear a1 j1 b1
        go_wp2_with fail
        refine C1.out.mono ?_
        rintro y w2 ⟨rfl, o2⟩
        have J2 := hide (J1.out.old o2)
        have B2 := hide (B1.out.trans (RowKit.Below.mono o2 hb1.out))
        clear o2 C1
        cases B with
        | true =>
          obtain ⟨r, hr⟩ := now_yes hB.out
          have hA := A1.out
          rw [hr] at hA
          have NX := hide hA.next
          have hlt := (byte_at hA.rest).1
          have CV := hide (leave_run rb rb s m (outF T) (J.flats F.kids) ⟨kindOf F.obj, F.key, 0, none_, 1⟩ F.had (heldF T) key 0 0 w2 J2.out hs hlt HT.out H4K.out)
          have PG := hide (fun w' (h : JR rb rb s (m + 1) (outF T ++ endNd ⟨kindOf F.obj, F.key, 0, none_, 1⟩ (J.flats F.kids) :: J.flats F.kids) (heldF T) key 0 0 w') => pgo_rel (end_go (rest := rest) .first HKEY.out (by rw [HOBJ.out]; rfl) (by rw [HOBJ.out]; exact hr) NX.out h) HI.out HST.out HA.out HJ.out)
          clear hr hA
          go_wp2_with fail
          refine CV.out.mono ?_
          rintro y w3 ⟨rfl, j3, b3⟩
          have P3 := hide (PG.out w3 j3)
          have B3 := hide (B2.out.trans b3)
          clear j3 b3
          go_wp2_with fail
          go_roundw
          case rel => exact ⟨hide P3.out.1, B3⟩
          case measure => exact P3.out.2
        | false =>
          have PG := hide (pgo_rel (noend_go (rest := rest) .first HKEY.out (by rw [HOBJ.out]; rfl) (by rw [HOBJ.out]; exact hB.out) A1.out J2.out) HI.out HST.out HA.out HJ.out)
          rw [HOBJ.out] at PG
          go_wp2_with fail
          go_roundw
          case rel =>
            have e : wrap64 (wrap64 (wrap64 ((wrap64 (wantN Want.first - 1)).tdiv 2) * 2)) = 0 := by decide +kernel
            rw [e]
            exact ⟨hide PG.out.1, B2⟩
          case measure =>
            have e : wrap64 (wrap64 (wrap64 ((wrap64 (wantN Want.first - 1)).tdiv 2) * 2)) = 0 := by decide +kernel
            rw [e]
            exact PG.out.2
      | member =>
        obtain ⟨F, T, hS, hobj⟩ := hi.top.2.1 (.inr rfl)
        simp only at hS
        subst hS
        have ho := outN_open hi (.inr (by simp))
        obtain ⟨ho1, hdn⟩ := ho
        simp only at ho1 hdn
        subst hdn
        have HKEY := hide (show key = none_ from hi.keys (by simp))
        have h64 : T.length ≤ 64 := by have := hi.small; simp only [List.length_cons] at this; omega
        have h4k := hi.nodes
        rw [ho1] at h4k
        have H4K := hide h4k
        have HT := hide (show (heldF T).length ≤ 64 by rw [heldF_len]; exact h64)
        have HOBJ := hide hobj
        have HH := hide (show F.had.length ≤ 1073741824 by have := hi.hads F (List.mem_cons_self ..); simp only at this; omega)
        clear hi hst ha hj
        go_wp2_with fail
        refine CB.out.mono ?_
        rintro y w1 ⟨rfl, ⟨m, a1, j1⟩, b1⟩
        rw [ho1] at j1
        clear CB
        have B1 := hide (HB.out.trans b1)
        have CM := hide (member_run rb rb s m (skipB rest) _ (outF T).length F.had (heldF T) key 0 0 w1 j1 a1 hs (HE.out.next B1.out) HT.out HH.out)
        clear a1 j1 b1
        go_wp2_with fail
        refine CM.out.mono ?_
        rintro y w2 ⟨k2, b2⟩
        obtain ⟨B, rfl, pg⟩ := mem_go (key := key) k2
        have PG := hide (pgo_rel pg HI.out HST.out HA.out HJ.out)
        have B2 := hide (B1.out.trans b2)
        clear k2 b2 pg CM
        go_wp2_with fail
        go_roundw
        case rel => exact ⟨hide PG.out.1, B2⟩
        case measure => exact PG.out.2
      | opened =>
        obtain ⟨F, T, hS, hobj⟩ := hi.top.2.1 (.inl rfl)
        simp only at hS
        subst hS
        have ho := outN_open hi (.inr (by simp))
        obtain ⟨ho1, hdn⟩ := ho
        simp only at ho1 hdn
        subst hdn
        have HKEY := hide (show key = none_ from hi.keys (by simp))
        have h64 : T.length ≤ 64 := by have := hi.small; simp only [List.length_cons] at this; omega
        have h4k := hi.nodes
        rw [ho1] at h4k
        have H4K := hide h4k
        have HT := hide (show (heldF T).length ≤ 64 by rw [heldF_len]; exact h64)
        have HOBJ := hide hobj
        clear hi hst ha hj
        go_wp2_with fail
        refine CB.out.mono ?_
        rintro y w1 ⟨rfl, ⟨m, a1, j1⟩, b1⟩
        rw [ho1] at j1
        clear CB
        have J1 := hide j1
        have A1 := hide a1
        have B1 := hide (HB.out.trans b1)
        have hb1 := hide (Nat.le_trans hbw.out B1.out.size)
        obtain ⟨B, hB⟩ : ∃ B, Hid (nowB [125] (skipB rest) = B) := ⟨_, hide rfl⟩
        have C1 := hide (ask_run rb rb s m (skipB rest) _ _ key 0 0 w1 j1 a1 125 125 (by decide) B hB.out _ rfl)
        clear a1 j1 b1
        go_wp2_with fail
        refine C1.out.mono ?_
        rintro y w2 ⟨rfl, o2⟩
        have J2 := hide (J1.out.old o2)
        have B2 := hide (B1.out.trans (RowKit.Below.mono o2 hb1.out))
        clear o2 C1
        cases B with
        | true =>
          obtain ⟨r, hr⟩ := now_yes hB.out
          have hA := A1.out
          rw [hr] at hA
          have NX := hide hA.next
          have hlt := (byte_at hA.rest).1
          have CV := hide (leave_run rb rb s m (outF T) (J.flats F.kids) ⟨kindOf F.obj, F.key, 0, none_, 1⟩ F.had (heldF T) key 0 0 w2 J2.out hs hlt HT.out H4K.out)
          have PG := hide (fun w' (h : JR rb rb s (m + 1) (outF T ++ endNd ⟨kindOf F.obj, F.key, 0, none_, 1⟩ (J.flats F.kids) :: J.flats F.kids) (heldF T) key 0 0 w') => pgo_rel (end_go (rest := rest) .opened HKEY.out (by rw [HOBJ.out]; rfl) (by rw [HOBJ.out]; exact hr) NX.out h) HI.out HST.out HA.out HJ.out)
          clear hr hA
          go_wp2_with fail
          refine CV.out.mono ?_
          rintro y w3 ⟨rfl, j3, b3⟩
          have P3 := hide (PG.out w3 j3)
          have B3 := hide (B2.out.trans b3)
          clear j3 b3
          go_wp2_with fail
          go_roundw
          case rel => exact ⟨hide P3.out.1, B3⟩
          case measure => exact P3.out.2
        | false =>
          have PG := hide (pgo_rel (noend_go (rest := rest) .opened HKEY.out (by rw [HOBJ.out]; rfl) (by rw [HOBJ.out]; exact hB.out) A1.out J2.out) HI.out HST.out HA.out HJ.out)
          rw [HOBJ.out] at PG
          go_wp2_with fail
          go_roundw
          case rel =>
            have e : wrap64 (wrap64 (wrap64 ((wrap64 (wantN Want.opened - 1)).tdiv 2) * 2)) = 2 := by decide +kernel
            rw [e]
            exact ⟨hide PG.out.1, B2⟩
          case measure =>
            have e : wrap64 (wrap64 (wrap64 ((wrap64 (wantN Want.opened - 1)).tdiv 2) * 2)) = 2 := by decide +kernel
            rw [e]
            exact PG.out.2
      | behind =>
        cases S with
        | nil =>
          obtain ⟨j, hj2⟩ := hi.top.2.2 rfl rfl
          simp only at hj2
          subst hj2
          clear hi hst ha hj
          go_wp2_with fail
          refine CB.out.mono ?_
          rintro y w1 ⟨rfl, ⟨m, a1, j1⟩, b1⟩
          clear CB
          have B1 := hide (HB.out.trans b1)
          have hb1 := hide (Nat.le_trans hbw.out B1.out.size)
          have J1 := hide j1
          have A1 := hide a1
          obtain ⟨ov, hv, ⟨_, x1, x2, x3, _, _, _⟩, _, hno, hop⟩ := j1.cells
          obtain ⟨Ah, ch, rfl, a3, a4⟩ := hop.form
          have hno2 := hide hno
          have hm := a1.le
          cases hq : skipB rest with
          | nil =>
            have hA := a1
            rw [hq] at hA
            have hms := hA.len
            simp only [List.length_nil, Nat.add_zero] at hms
            have hlt : ¬ (m : Int) < (s.size : Int) := by omega
            have hltn : decide (m < s.size) = false := decide_eq_false (by omega)
            have FIN := hide (parsed_yes (base := rb) HSZ.out ⟨_, HST.out, by simp only [stepS, hq]⟩ hno2.out)
            clear a1 j1 b1 hop hA hms hq hno
            go_wp2_with fail
            try rw [Exit.noGoto_ret]
            go_ret3
            exact ⟨FIN.out, by rw [← HRB.out] at B1; exact B1.out⟩
          | cons c p =>
            have hA := a1
            rw [hq] at hA
            have hms := (byte_at hA.rest).1
            have hlt : (m : Int) < (s.size : Int) := by omega
            have hltn : decide (m < s.size) = true := decide_eq_true hms
            have ED := hide (show Ends (st0 s.data.toList) (.error (c :: p, 70)) from ⟨_, HST.out, by simp only [stepS, hq]⟩)
            have HA2 := hide hA
            have CF := hide (jfail_run rb rb s m _ _ _ 0 0 w1 j1 (m : Int) 70)
            clear a1 j1 b1 hop hA hms hq hno
            go_wp2_with fail
            refine CF.out.mono ?_
            rintro y w2 ⟨rfl, j2, b2⟩
            have B2 := hide (B1.out.trans b2)
            have hb2 := hide (Nat.le_trans hbw.out B2.out.size)
            obtain ⟨m2, k5, k6, fin⟩ := parsed_no (base := rb) HSZ.out ED.out (JNo.weak ⟨m, m, _, _, _, HA2.out, j2⟩)
            have FIN := hide fin
            have y5 : ∀ p : Later w2, p.world.cell? ⟨rb, 5, none⟩ = some (.int .i64 70) := fun p => p.old.cell k5
            have y6 : ∀ p : Later w2, p.world.cell? ⟨rb, 6, none⟩ = some (.int .i64 (m2 : Int)) := fun p => p.old.cell k6
            clear j2 b2 fin k5 k6
            go_wp2_with fail
            refine region_later (by kernel_rfl) (by kernel_rfl) ?_
            repeat (go_big_quiet_step (fail))
            refine wpQuiet_nil ?_
            rintro w5 ⟨⟨_, o5⟩, rfl⟩
            have O5 := hide (B2.out.trans (RowKit.Below.mono o5 hb2.out))
            have F5 := hide (FIN.out.old o5)
            clear o5 y5 y6
            go_wp2_with fail
            try rw [Exit.noGoto_ret]
            go_ret3
            exact ⟨F5.out, by rw [← HRB.out] at O5; exact O5.out⟩
        | cons F T =>
          have ho := outN_open hi (.inl (by simp))
          obtain ⟨ho1, hdn⟩ := ho
          simp only at ho1 hdn
          subst hdn
          have HKEY := hide (show key = none_ from hi.keys (by simp))
          have h64 : T.length ≤ 64 := by have := hi.small; simp only [List.length_cons] at this; omega
          have h4k := hi.nodes
          rw [ho1] at h4k
          have H4K := hide h4k
          have HT := hide (show (heldF T).length ≤ 64 by rw [heldF_len]; exact h64)
          clear hi hst ha hj
          go_wp2_with fail
          refine CB.out.mono ?_
          rintro y w1 ⟨rfl, ⟨m, a1, j1⟩, b1⟩
          rw [ho1] at j1
          clear CB
          have B1 := hide (HB.out.trans b1)
          obtain ⟨_, hv, ⟨_, _, _, x3, _, _, _⟩, _, _, hop⟩ := j1.cells
          obtain ⟨Ah, ch, rfl, a3, a4⟩ := hop.form
          obtain ⟨L, hL⟩ : ∃ L, Hid ((heldF (F :: T)).length = L) := ⟨_, hide rfl⟩
          have hL0 : ((L : Int) == 0) = false := by
            have : L = T.length + 1 := by rw [← hL.out, heldF_len]; rfl
            simp
            omega
          rw [hL.out] at x3
          have CM := hide (behind_run rb rb s m (skipB rest) (outF T) (J.flats F.kids) ⟨kindOf F.obj, F.key, 0, none_, 1⟩ F.obj F.had (heldF T) key 0 0 w1 j1 a1 hs HT.out H4K.out rfl)
          clear a1 j1 b1 hop a3 a4
          go_wp2_with fail
          refine CM.out.mono ?_
          rintro y w2 ⟨k2, b2⟩
          obtain ⟨z, B, rfl, pg⟩ := beh_go HKEY.out k2
          have PG := hide (pgo_rel pg HI.out HST.out HA.out HJ.out)
          have B2 := hide (B1.out.trans b2)
          clear k2 b2 pg CM
          go_wp2_with fail
          go_roundw
          case rel => exact ⟨hide PG.out.1, B2⟩
          case measure => exact PG.out.2
    · obtain ⟨m, k5, k6, fin⟩ := parsed_no (base := rb) HSZ.out he hk
      have FIN := hide fin
      have y5 : ∀ p : Later wr, p.world.cell? ⟨rb, 5, none⟩ = some (.int .i64 b.2) := fun p => p.old.cell k5
      have y6 : ∀ p : Later wr, p.world.cell? ⟨rb, 6, none⟩ = some (.int .i64 (m : Int)) := fun p => p.old.cell k6
      clear he hk fin k5 k6
      go_wp2_with fail
      refine region_later (by kernel_rfl) (by kernel_rfl) ?_
      repeat (go_big_quiet_step (fail))
      refine wpQuiet_nil ?_
      rintro w5 ⟨⟨_, o5⟩, rfl⟩
      have O5 := hide (HB.out.trans (RowKit.Below.mono o5 hbr.out))
      have F5 := hide (FIN.out.old o5)
      clear o5 y5 y6
      go_wp2_with fail
      try rw [Exit.noGoto_ret]
      go_ret3
      exact ⟨F5.out, by rw [← HRB.out] at O5; exact O5.out⟩
end Go.Proofs.YtcddfpcapbdphaaDoor
