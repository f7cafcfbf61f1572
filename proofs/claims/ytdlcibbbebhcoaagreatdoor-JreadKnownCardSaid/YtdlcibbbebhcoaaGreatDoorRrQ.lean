/- The document's reader of a text: the parts of a list, or of an object: the walk. -/
import Derived.Test.YtdlcibbbebhcoaaGreatDoorRrX
import Derived.Test.YtdlcibbbebhcoaaGreatDoorRr4
import Derived.Test.YtdlcibbbebhcoaaGreatDoorRr6
import Derived.Deep.DeepCutAuto
/-! ### The document's reader of a text: the parts of a list, or of an object: the walk. -/
namespace Go.Proofs.YtdlcibbbebhcoaaGreatDoor
open Go.RowKit

section
variable {base rb : Nat} {s : ByteArray} {out : List Nd} {w0 w w' : World}
/-- the reader behind a value, in one form for values and errors -/
theorem RV.one {V : Except Bad (List Nd × List UInt8)} (h : RV base rb s out V w) : ∃ (out2 : List Nd) (X : RX), RS base rb s out2 X w ∧ out.length ≤ out2.length ∧ out2.length ≤ 4000 ∧ (∀ b, X = .error b → V = .error b) ∧ ∀ r, X = .ok r → ∃ t, V = .ok (t, r) ∧ out2 = out ++ t := by
  cases V with
  | error b =>
    obtain ⟨out', h1, h2, h3⟩ := h
    exact ⟨out', .error b, h3, h1, h2, fun b' e => by injection e with e; rw [e], fun r e => by (cases e)⟩
  | ok y =>
    obtain ⟨t, r⟩ := y
    obtain ⟨h1, h2⟩ := h
    exact ⟨out ++ t, .ok r, h2, by simp, h1, fun b e => by (cases e), fun r' e => by injection e with e; subst e; exact ⟨t, rfl, rfl⟩⟩
end
theorem str_beq (A K : ByteArray) : (A.toList == K.toList) = decide (A = K) := by
  obtain ⟨a⟩ := A
  obtain ⟨k⟩ := K
  rw [ByteArray.toList_mk, ByteArray.toList_mk, Bool.eq_iff_iff, beq_iff_eq, decide_eq_true_eq, ByteArray.mk.injEq]
  exact Array.toList_inj
set_option maxRecDepth 100000 in
set_option maxHeartbeats 4000000 in
theorem rparts_run (base rb : Nat) (s : ByteArray) (hs : s.size ≤ 1048576) (f : Nat) (hV : ∀ g, g < f → ValC base rb s g) : PartC base rb s f := by
  intro out obj deep c0 r w h ho hf hd
  have HS := hide h
  have HV := hide hV
  have hbw := hide h.bw
  have hs2 : s.size ≤ 1073741824 := by omega
  obtain ⟨lb, hlb⟩ : ∃ lb, Hid (lastOf obj = lb) := ⟨_, hide rfl⟩
  obtain ⟨R, hR⟩ : ∃ R, Hid (partX f obj out.length deep r = R) := ⟨_, hide rfl⟩
  rw [hR.out, hlb.out]
  have HEND := hide (show R = match endV obj r with
    | (true, r1) => .ok ([], r1)
    | (false, r1) => contX obj out deep f [] [] r1 by
      rw [← hR.out]
      unfold partX contX
      simp only [J.flats, List.append_nil, List.nil_append]
      rfl)
  have HHA := hide (show ∃ n, n + (c0 :: r).length = s.size from by obtain ⟨n, hA, _⟩ := h; exact ⟨n, hA.len⟩)
  obtain ⟨n0, g0, x1, f1, s1, b1⟩ := h.step
  have S1 := hide (fun w1 (e : w.setCell ⟨rb, 1, none⟩ (.int .i64 ((n0 : Int) + 1)) = w1) => show RS base rb s out (.ok r) w1 ∧ RKeep base rb w w1 from by
    rw [← e]
    exact ⟨s1, RKeep.ofBel b1 HS.out⟩)
  clear h hV s1 b1 hR
  have hkind : Hid (obj = true ∧ kindOf obj = 7 ∨ obj = false ∧ kindOf obj = 6) := by
    cases obj
    · exact hide (.inr ⟨rfl, rfl⟩)
    · exact hide (.inl ⟨rfl, rfl⟩)
  obtain ⟨kd, hkd⟩ : ∃ kd, Hid (kindOf obj = kd) := ⟨_, hide rfl⟩
  rw [hkd.out] at hkind ⊢
  go_enter Tryz.func43, Tryz.ntmps43
  go_upto_region 2 with fail
  generalize hw1 : w.setCell ⟨rb, 1, none⟩ (.int .i64 ((n0 : Int) + 1)) = w1
  obtain ⟨s1, k1⟩ := S1.out _ hw1
  have CB := hide (rblanks_run base rb s out _ w1 s1 hs2)
  have KS1 := hide s1
  have K1 := hide k1
  clear S1 hw1 x1 f1 s1 k1
  go_wp2_with fail
  refine CB.out.mono ?_
  rintro x w2 ⟨rfl, s2, b2⟩
  have S2 := hide (show RS base rb s out (.ok (skipB r)) w2 from s2)
  have K2 := hide (K1.out.trans (RKeep.ofBel b2 KS1.out))
  obtain ⟨B, hB⟩ : ∃ B, isX lb (.ok (skipB r)) = B := ⟨_, rfl⟩
  have CI := hide (ris_run base rb s out _ w2 S2.out lb B hB)
  clear s2 b2 CB KS1 K1
  go_wp2_with fail
  refine CI.out.mono ?_
  rintro x w3 ⟨rfl, o3⟩
  have S3 := hide (S2.out.old o3)
  have K3 := hide (K2.out.trans (RKeep.ofOld o3 S2.out))
  clear o3 CI S2 K2
  cases B with
  | true =>
    obtain ⟨r1, hr1⟩ := isX_head hB
    have FIN := hide (show R = .ok ([], r1) by
      injection hr1 with hr1
      rw [HEND.out]
      unfold endV
      rw [hr1, hlb.out, ropt1_at])
    rw [hr1] at S3
    obtain ⟨n1, g1, x1, f1, s4, b4⟩ := S3.out.step
    have F4 := hide (show RV base rb s out (.ok ([], r1)) (w3.setCell ⟨rb, 1, none⟩ (.int .i64 ((n1 : Int) + 1))) ∧ RKeep base rb w (w3.setCell ⟨rb, 1, none⟩ (.int .i64 ((n1 : Int) + 1))) from
      ⟨⟨by simpa using ho, by rw [List.append_nil]; exact s4⟩, K3.out.trans (RKeep.ofBel b4 S3.out)⟩)
    clear hB hr1 s4 b4
    go_wp2_with fail
    refine bodyPost_ret (results_none rfl _ _ _) rfl ?_
    exact ⟨rfl, by rw [FIN.out]; exact F4.out.1, F4.out.2⟩
  | false =>
    have HC0 := hide (show R = contX obj out deep f [] [] (skipB r) by
      rw [HEND.out]
      unfold endV
      rw [hlb.out, ropt1_no hB])
    have HL0 := hide (show (skipB r).length ≤ r.length from skipB_len r)
    clear hB HEND
    go_wp2_with fail
    go_loopw [8] (fun hv wr => ∃ (had : List ByteArray) (done : List J) (l : List UInt8) (g : Nat), Hid (HadR w.heap.size wr hv had) ∧ Hid (RS base rb s (out ++ J.flats done) (.ok l) wr) ∧ Hid (RKeep base rb w wr) ∧ Hid ((out ++ J.flats done).length ≤ 4000) ∧ Hid (2 * l.length + 3 ≤ g ∧ g ≤ f) ∧ Hid (had.length + l.length ≤ s.size) ∧ Hid (R = contX obj out deep g had done l)) (fun _ wr => jLeft rb s wr)
    case atStart => exact ⟨[], [], skipB r, f, hide (HadR.nil_ _ _), hide (by simp only [J.flats, List.append_nil]; exact S3.out), K3, hide (by simpa [J.flats] using ho), hide ⟨by have := HL0.out; omega, Nat.le_refl _⟩, hide (by obtain ⟨n, hn⟩ := HHA.out; have := HL0.out; simp only [List.length_cons] at hn; simp only [List.length_nil]; omega), HC0⟩
    case round =>
      clear HC0 HL0 S3 K3 HHA
      obtain ⟨had, done, l, g, HH, HR, HK, HO, HG, HZ, HE⟩ := hrel
      obtain ⟨out1, ho1⟩ : ∃ out1, Hid (out ++ J.flats done = out1) := ⟨_, hide rfl⟩
      rw [ho1.out] at HR HO
      obtain ⟨g1, hg1⟩ : ∃ g1, Hid (g = g1 + 1) := ⟨g - 1, hide (by have := HG.out; omega)⟩
      obtain ⟨n, hA, hRR⟩ := HR.out
      have HA := hide hA
      obtain ⟨_, ⟨_, x1, _, _, x4⟩, _, _⟩ := hRR.cells
      have LF := hide hRR.left
      clear hA hRR
      go_upto_if 39 with fail
      go_cut [8, 9] (fun hv kv wc => ∃ (K : ByteArray) (X3 : RX), kv = .string K ∧ Hid (HadR w.heap.size wc hv (hadOf obj had K)) ∧ Hid (RS base rb s out1 X3 wc) ∧ Hid (RKeep base rb w wc) ∧ Hid (KeyX obj had l K X3))
      case first =>
        rcases hkind.out with ⟨rfl, hk7⟩ | ⟨rfl, hk6⟩
        · have hkb : (kd == 7) = true := by rw [hk7]; rfl
          obtain ⟨l', hl'⟩ : ∃ l', Hid (skipB l = l') := ⟨_, hide rfl⟩
          have KO := hide (key_obj had l)
          rw [hl'.out] at KO
          have CB := hide (rblanks_run base rb s out1 _ wr HR.out hs2)
          clear hk7 x1 x4
          go_wp2_with fail
          refine CB.out.mono ?_
          rintro x w4 ⟨rfl, s4, b4⟩
          have S4 := hide (show RS base rb s out1 (.ok l') w4 by rw [← hl'.out]; exact s4)
          have k4 := RKeep.ofBel b4 HR.out
          have K4 := hide (HK.out.trans k4)
          have H4 := hide (HH.out.keep k4 HR.out)
          obtain ⟨n4, x41, hJ4⟩ := S4.out.at_
          have HJ4 := hide (hJ4 _ rfl)
          have CL := hide (rlit_run base rb s out1 _ w4 S4.out hs2)
          obtain ⟨K, hK⟩ : ∃ K, Hid (bT (litT (.ok l')) = K) := ⟨_, hide rfl⟩
          obtain ⟨X1, hX1⟩ : ∃ X1, Hid (litX (.ok l') = X1) := ⟨_, hide rfl⟩
          rw [hK.out, hX1.out] at CL KO
          clear s4 b4 k4 hJ4 CB
          go_wp2_with fail
          refine CL.out.mono ?_
          rintro x w5 ⟨rfl, s5, b5⟩
          have S5 := hide (show RS base rb s out1 (dupX had K l' X1 0) w5 by rw [dup_0]; exact s5)
          have k5 := RKeep.ofBel b5 S4.out
          have K5 := hide (K4.out.trans k5)
          have H5 := hide (H4.out.keep k5 S4.out)
          clear s5 b5 k5 CL x41
          go_wp2_with fail
          go_loopw [11] (fun iv wq => ∃ i : Nat, iv = .int .i64 i ∧ i ≤ had.length ∧ Hid (RS base rb s out1 (dupX had K l' X1 i) wq) ∧ Hid (HadR w.heap.size wq u8 had) ∧ Hid (RKeep base rb w wq)) (fun iv _ => had.length - (intOf iv).toNat)
          case atStart => exact ⟨0, rfl, Nat.zero_le _, S5, H5, K5⟩
          case round =>
            clear S5 H5 K5 S4 K4 H4
            obtain ⟨i, rfl, hi, SI, HI, KI⟩ := hrel
            obtain ⟨n5, wh5, e5, hR5, he5, hJ5⟩ := SI.out.open_
            obtain ⟨_, ⟨_, _, _, _, x54⟩, _, _⟩ := hR5.cells
            obtain ⟨A8, c8, rfl, hc8, hc9⟩ := HI.out.form
            unfold maxLen at hc9
            obtain ⟨L, hL⟩ : ∃ L, Hid (had.length = L) := ⟨_, hide rfl⟩
            by_cases hgo : e5 = 0 ∧ i < had.length
            · obtain ⟨rfl, hlt⟩ := hgo
              obtain ⟨l1, hl1⟩ := he5.1 rfl
              obtain ⟨g8, c8', e8, hc10, hc11, hcell⟩ := HI.out.at_ (by omega)
              injection e8 with e81 _ e83
              subst e81 e83
              have y8 := hcell i hlt
              obtain ⟨A, hA8⟩ : ∃ A, Hid (had[i] = A) := ⟨_, hide rfl⟩
              rw [hA8.out] at y8
              have DK := hide (dup_ok hl1 hlt)
              rw [hA8.out] at DK
              have CF := hide (rdfail_run base rb s out1 _ wr SI.out (n4 : Int) 71 l' (by decide) (fun _ _ => by have := HJ4.out.len; omega) (by have := HJ4.out.len; omega))
              rw [hl1] at CF
              rw [hL.out] at hi hc8 hlt ⊢
              have hlti : (i : Int) < (L : Int) := by omega
              have hltd : decide ((i : Int) < (L : Int)) = true := decide_eq_true hlti
              have hltn : decide (i < L) = true := decide_eq_true hlt
              clear hR5 he5 hJ5 hcell hc10 hc11
              by_cases hAK : A = K
              · have SI2 := hide (fun w6 (s6 : RS base rb s out1 (failX l' 71 (.ok l1)) w6) => show RS base rb s out1 (dupX had K l' X1 (i + 1)) w6 from by rw [DK.out.1 hAK]; exact s6)
                have SS := SI
                have hqd : (A.toList == K.toList) = true := by rw [str_beq]; exact decide_eq_true hAK
                have HAK := hide hAK
                clear hl1 hAK
                go_wp2_with fail
                refine CF.out.mono ?_
                rintro x w6 ⟨rfl, s6, b6⟩
                have S6 := hide (SI2.out w6 s6)
                have k6 := RKeep.ofBel b6 SI.out
                have K6 := hide (KI.out.trans k6)
                have H6 := hide (HI.out.keep k6 SI.out)
                rw [hL.out] at H6
                clear s6 b6 k6
                go_wp2_with fail
                go_roundw
                case rel => exact ⟨i + 1, by go_num, by omega, S6, H6, K6⟩
                case measure => simp [intOf]; omega
              · have SI2 := hide (show RS base rb s out1 (dupX had K l' X1 (i + 1)) wr by
                  have h := SI.out
                  rw [hl1] at h
                  rw [DK.out.2 hAK]
                  exact h)
                have hqd : (A.toList == K.toList) = false := by rw [str_beq]; exact decide_eq_false hAK
                have H6 := HI
                rw [hL.out] at H6
                clear hl1
                go_wp2_with fail
                go_roundw
                case rel => exact ⟨i + 1, by go_num, by omega, SI2, H6, KI⟩
                case measure => simp [intOf]; omega
            · have EX := hide (show dupX had K l' X1 i = dupX had K l' X1 had.length by
                cases hX : dupX had K l' X1 i with
                | error b => exact (dup_err hX).symm
                | ok l1 =>
                  have e0 : e5 = 0 := he5.2 ⟨l1, hX⟩
                  have : i = had.length := by
                    rcases Nat.lt_or_ge i had.length with h | h
                    · exact absurd ⟨e0, h⟩ hgo
                    · omega
                  rw [← hX, this])
              have SX := hide (show RS base rb s out1 (dupX had K l' X1 had.length) wr by rw [← EX.out]; exact SI.out)
              have KX := KO
              rw [hL.out] at hi hc8 ⊢
              have ways : Hid (i < L ∧ ¬ e5 = 0) ∨ Hid (¬ i < L) := by
                rcases Nat.lt_or_ge i L with h | h
                · refine .inl (hide ⟨h, fun e => hgo ⟨e, by rw [hL.out]; exact h⟩⟩)
                · exact .inr (hide (by omega))
              obtain ⟨XD, hXD⟩ : ∃ XD, Hid (dupX had K l' X1 had.length = XD) := ⟨_, hide rfl⟩
              rw [hXD.out] at SX KX
              have HI2 := HI
              rw [hL.out] at HI2
              have hL4 : had.length + 1 ≤ 4194304 := by have := HZ.out; omega
              have hbb := hide (show w.heap.size ≤ wr.heap.size from KI.out.size)
              have PUSH := hide (fun (v8 : Value) (w6 : World) (own6 : HadR w.heap.size w6 v8 (had ++ [K])) (gr6 : (wr.alloc (.cells #[.string K] 9)).grownBy w6 (Value.slice A8 had.length c8).ownBlock) => show RS base rb s out1 XD w6 ∧ RKeep base rb w w6 from by
                have oa : Old wr (wr.alloc (.cells #[.string K] 9)) := Old.alloc (Old.refl _) _
                have hh := own_old HI.out oa
                have s1 := SX.out.old oa
                exact ⟨s1.grownElse hh gr6, (KI.out.trans (RKeep.ofOld oa SX.out)).grownElse s1 hh gr6 hbw.out⟩)
              rw [hL.out] at PUSH
              have FN := hide (fun wf (hf : wr = wf) => hf)
              clear hgo EX he5 hJ5 hR5
              rcases ways with ways | ways
              all_goals
                first
                  | (have hw := ways.out
                     have q1 : decide ((i : Int) < (L : Int)) = true := decide_eq_true (by omega)
                     have q2 : decide (i < L) = true := decide_eq_true hw.1
                     have q3 : (e5 == 0) = false := by have := hw.2; simp [this]
                     have q4 : ¬ e5 = 0 := hw.2
                     clear hw)
                  | (have hw := ways.out
                     have q1 : decide ((i : Int) < (L : Int)) = false := decide_eq_false (by omega)
                     have q2 : decide (i < L) = false := decide_eq_false hw
                     clear hw)
                clear ways
                go_wp2_with (at_builtin; refine wpList_plain rfl (fun K' hK' => ?_); refine step_push_had _ _ _ rfl w.heap.size (.slice A8 L c8) had rfl (own_old HI2.out (Old.alloc (Old.refl _) _)) _ _ K rfl ((cell_of_heap (heap_alloc_new wr _)).trans rfl) hL4 (by have := hbb.out; simp; omega) ?_; intro v8 w6 own6 gr6; refine hK' _ _ ?_; clear hK')
                obtain ⟨s6, k6⟩ := PUSH.out v8 w6 own6 gr6
                have S6 := hide s6
                have K6 := hide k6
                have H6 := hide own6
                have CB2 := hide (rblanks_run base rb s out1 XD w6 s6 hs2)
                clear s6 k6 own6 gr6 q1 q2
                go_wp2_with fail
                refine CB2.out.mono ?_
                rintro x w7 ⟨rfl, s7, b7⟩
                have k7 := RKeep.ofBel b7 S6.out
                have S7 := hide s7
                have K7 := hide (K6.out.trans k7)
                have H7 := hide (H6.out.keep k7 S6.out)
                have CM := hide (rmust_run base rb s out1 _ w7 s7 58 hs2)
                clear s7 b7 k7
                go_wp2_with fail
                refine CM.out.mono ?_
                rintro x w8 ⟨rfl, s8, b8⟩
                have k8 := RKeep.ofBel b8 S7.out
                have S8 := hide s8
                have K8 := hide (K7.out.trans k8)
                have H8 := hide (H7.out.keep k8 S7.out)
                clear s8 b8 k8
                go_wp2_with fail
                go_meet
                exact ⟨K, _, rfl, H8, S8, K8, KX⟩
        · have hkb : (kd == 7) = false := by rw [hk6]; rfl
          have KL := hide (key_list had l)
          clear hk6 x1 x4
          go_wp2_with fail
          go_meet
          exact ⟨⟨#[]⟩, .ok l, rfl, HH, HR, HK, KL⟩
      case rest =>
        obtain ⟨K, X3, rfl, H4, S4, K4, KX⟩ := hcut
        obtain ⟨wA, hwA⟩ : ∃ x, x = wc := ⟨_, rfl⟩
        subst hwA
        rw [hg1.out] at HE HG
        have CV := HV.out g1 (by have := HG.out; omega) out1 X3 K (deep + 1) wA S4.out HO.out (fun l1 e => by
          subst e
          have a := keyV_len (show keyV obj had l = .ok (K, l1) from KX.out)
          have b := skipB_len l1
          have := HG.out
          omega) (by omega)
        rw [show ((deep + 1 : Nat) : Int) = (deep : Int) + 1 by omega] at CV
        have CV := hide CV
        have HOL := hide (show out.length ≤ out1.length by rw [← ho1.out]; simp)
        clear HH HR HK x1 x4
        go_wp2_with fail
        refine CV.out.mono ?_
        rintro x w6 ⟨rfl, v6, k6⟩
        obtain ⟨out2, X4, s6, hle, h4000, hXe, hXo⟩ := v6.one
        have S6 := hide s6
        have K6 := hide (K4.out.trans k6)
        have H6 := hide (H4.out.keep k6 S4.out)
        have HRE := hide (show ∀ b, X4 = .error b → R = .error b from fun b e => by
          have hv := hXe b e
          rw [HE.out]
          cases X3 with
          | error b3 =>
            have : b3 = b := by simp only [valX] at hv; injection hv
            rw [← this]
            exact cont_key KX.out
          | ok l1 => exact cont_val KX.out (by rw [ho1.out]; exact hv))
        have HRO := hide (show ∀ r5, X4 = .ok r5 → ∃ t, out2 = out1 ++ t ∧ (skipB r5 = [] → R = .error ([], 70)) ∧
            (∀ c r6, skipB r5 = c :: r6 → c ≠ 44 → c ≠ lb → R = .error (c :: r6, 70)) ∧
            (∀ c r6, skipB r5 = c :: r6 → c ≠ 44 → c = lb → R = .ok (J.flats done ++ t, r6)) ∧
            (∀ r6, skipB r5 = 44 :: r6 → ∃ j : J, t = j.flat ∧ r6.length < l.length ∧ R = contX obj out deep g1 (hadOf obj had K) (done ++ [j]) r6) from fun r5 e => by
          obtain ⟨t, hv, ht⟩ := hXo r5 e
          refine ⟨t, ht, ?_⟩
          rw [HE.out]
          cases X3 with
          | error b3 => simp only [valX] at hv; cases hv
          | ok l1 =>
            have := cont_more (deep := deep) (out := out) (done := done) KX.out (by rw [ho1.out]; exact hv)
            rw [hlb.out] at this
            exact this)
        have HL2 := hide (And.intro hle h4000)
        have CB := hide (rblanks_run base rb s out2 X4 w6 s6 hs2)
        clear s6 v6 k6 hle h4000 hXe hXo CV S4 K4 H4
        go_wp2_with fail
        refine CB.out.mono ?_
        rintro x w7 ⟨rfl, s7, b7⟩
        have k7 := RKeep.ofBel b7 S6.out
        have S7 := hide s7
        have K7 := hide (K6.out.trans k7)
        have H7 := hide (H6.out.keep k7 S6.out)
        obtain ⟨B, hB⟩ : ∃ B, isX 44 (blanksX X4) = B := ⟨_, rfl⟩
        have CI := hide (ris_run base rb s out2 _ w7 s7 44 B hB)
        clear s7 b7 k7 CB S6 K6 H6
        go_wp2_with fail
        refine CI.out.mono ?_
        rintro x w8 ⟨rfl, o8⟩
        have k8 := RKeep.ofOld o8 S7.out
        have S8 := hide (S7.out.old o8)
        have K8 := hide (K7.out.trans k8)
        have H8 := hide (H7.out.keep k8 S7.out)
        clear o8 k8 CI S7 K7 H7
        cases B with
        | false =>
          have CM := hide (rmust_run base rb s out2 _ w8 S8.out lb hs2)
          have FIN := hide (fun (w9 : World) (s9 : RS base rb s out2 (mustX lb (blanksX X4)) w9) => show RV base rb s out R w9 from by
            cases X4 with
            | error b =>
              rw [HRE.out b rfl]
              exact ⟨out2, Nat.le_trans HOL.out HL2.out.1, HL2.out.2, s9⟩
            | ok r5 =>
              obtain ⟨t, ht, h1, h2, h3, _⟩ := HRO.out r5 rfl
              simp only [blanksX] at s9 hB
              cases hs5 : skipB r5 with
              | nil =>
                rw [hs5] at s9
                rw [h1 hs5]
                exact ⟨out2, Nat.le_trans HOL.out HL2.out.1, HL2.out.2, s9⟩
              | cons c r6 =>
                rw [hs5] at s9 hB
                have hc : c ≠ 44 := of_decide_eq_false hB
                by_cases hcl : c = lb
                · rw [h3 c r6 hs5 hc hcl]
                  rw [hcl, must_go] at s9
                  have e : out ++ (J.flats done ++ t) = out2 := by rw [ht, ← ho1.out, List.append_assoc]
                  refine ⟨by rw [e]; exact HL2.out.2, by rw [e]; exact s9⟩
                · rw [h2 c r6 hs5 hc hcl]
                  simp only [mustX, if_neg hcl] at s9
                  exact ⟨out2, Nat.le_trans HOL.out HL2.out.1, HL2.out.2, s9⟩)
          clear hB HRE HRO
          go_wp2_with fail
          refine CM.out.mono ?_
          rintro x w9 ⟨rfl, s9, b9⟩
          have F9 := hide (FIN.out w9 s9)
          have K9 := hide (K8.out.trans (RKeep.ofBel b9 S8.out))
          clear s9 b9 FIN CM
          go_wp2_with fail
          refine bodyPost_ret (results_none rfl _ _ _) rfl ?_
          exact ⟨rfl, F9.out, K9.out⟩
        | true =>
          obtain ⟨r6, hr6⟩ := isX_head hB
          obtain ⟨r5, e5, hs5⟩ : ∃ r5, X4 = .ok r5 ∧ skipB r5 = 44 :: r6 := by
            cases X4 with
            | error b => cases hr6
            | ok r5 => exact ⟨r5, rfl, by simp only [blanksX] at hr6; injection hr6⟩
          obtain ⟨t, ht, _, _, _, h4⟩ := HRO.out r5 e5
          obtain ⟨j, hj, hlt, hR6⟩ := h4 r6 hs5
          rw [hr6] at S8
          obtain ⟨n1, g9, x91, f91, s9, b9⟩ := S8.out.step
          have k9 := RKeep.ofBel b9 S8.out
          have eo : out2 = out ++ J.flats (done ++ [j]) := by rw [ht, hj, ← ho1.out, flats_append, flats_one, List.append_assoc]
          have ML := hide (show jLeft rb s (w8.setCell ⟨rb, 1, none⟩ (.int .i64 ((n1 : Int) + 1))) < jLeft rb s wr by
            obtain ⟨n2, hA2, hR2⟩ := s9
            rw [hR2.left, LF.out]
            have a := hA2.len
            have b := HA.out.len
            omega)
          have S9 := hide (show RS base rb s (out ++ J.flats (done ++ [j])) (.ok r6) (w8.setCell ⟨rb, 1, none⟩ (.int .i64 ((n1 : Int) + 1))) by rw [← eo]; exact s9)
          have K9 := hide (K8.out.trans k9)
          have H9 := hide (H8.out.keep k9 S8.out)
          have O9 := hide (show (out ++ J.flats (done ++ [j])).length ≤ 4000 by rw [← eo]; exact HL2.out.2)
          have G9 := hide (show 2 * r6.length + 3 ≤ g1 ∧ g1 ≤ f by have := HG.out; omega)
          have Z9 := hide (show (hadOf obj had K).length + r6.length ≤ s.size by
            have a := HZ.out
            have b : (hadOf obj had K).length ≤ had.length + 1 := by unfold hadOf; split <;> simp
            omega)
          have R9 := hide hR6
          clear hB hr6 e5 hs5 ht h4 hj hlt hR6 s9 b9 k9 eo HRE HRO
          go_wp2_with fail
          go_roundw
          case rel => exact ⟨hadOf obj had K, done ++ [j], r6, g1, H9, S9, K9, O9, G9, Z9, R9⟩
          case measure => exact ML.out
end Go.Proofs.YtdlcibbbebhcoaaGreatDoor
