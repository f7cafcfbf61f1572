/-  -/
import Derived.Test.YthlfljmfggmfdaaGreatDoorQk36
/-! ###  -/
namespace Go.Proofs.YthlfljmfggmfdaaGreatDoor
open Go.RowKit
set_option maxRecDepth 100000 in
set_option maxHeartbeats 8000000 in
theorem begin_list (base rb : Nat) (s : ByteArray) (n : Nat) (c : UInt8) (r : List UInt8) (out : List Nd) (H : List Jh) (key : ByteArray) (e bad : Int) (w : World)
 (h : JR base rb s n out H key e bad w) (ha : JAt s n (c :: r)) (hs : s.size ≤ 1073741824) (hE : Ever base w) (hH : H.length ≤ 64) (ho : out.length ≤ 4000) (hc : c = 91) (h4 : ¬ 4000 ≤ out.length) (h6 : ¬ 64 ≤ H.length) :
 Calls Tryz.prog 64 #[.pointer (some ⟨rb, 0, none⟩)] w fun y w' => JBeg base rb s out H key e bad (c :: r) y w' ∧ RowKit.Below base w w' := by
 have HA := hide ha
 have HE := hide hE
 have hbw := hide (show base ≤ w.heap.size from Nat.le_trans h.low (Nat.le_of_lt h.lt))
 have hn := HA.out.le
 have hmm := @run_makeMap Tryz.prog
 obtain ⟨w1, w2, w3, w4, w5, w6, r1, r2, r3, r4, r5, r6, mk, o6⟩ := kinds_made w
 have MK := hide mk
 have J6 := hide (h.old o6)
 have B6 := hide (RowKit.Below.mono o6 hbw.out)
 have hb6 := hide (Nat.le_trans hbw.out B6.out.size)
 obtain ⟨ov, hv, ⟨x0, x1, x2, x3, x4, _, _⟩, _, _, hop⟩ := J6.out.cells
 have y0 : ∀ p : Later w6, p.world.cell? ⟨rb, 0, none⟩ = some (.string s) := fun p => p.old.cell x0
 have y1 : ∀ p : Later w6, p.world.cell? ⟨rb, 1, none⟩ = some (.int .i64 (n : Int)) := fun p => p.old.cell x1
 obtain ⟨mb, hmb⟩ : ∃ mb, w.heap.size = mb := ⟨_, rfl⟩
 rw [hmb] at MK
 have HMB := hide hmb
 clear h ha hE mk o6 hmb x0 x1 x2 x3 x4 hop
 have HC := hide hc
 have L4 := hide h4
 have L6 := hide h6
 clear hc h4 h6
 obtain ⟨b1, b2, b3⟩ := byte_at HA.out.rest
 have bx : s[n] = c := by rw [get_at s b1, b2]
 have hq : ((n : Int) == (s.size : Int)) = false := beq_eq_false_iff_ne.2 (by omega)
 have hnlt : (n : Int) < (s.size : Int) := by omega
 obtain ⟨K0, hK0⟩ : ∃ K0, Hid (kindB c = K0) := ⟨_, hide rfl⟩
 obtain ⟨K, hK⟩ : ∃ K, Hid (kindV c = K) := ⟨_, hide rfl⟩
 obtain ⟨i0, i1, i2, i6, i7, i8, i9, i10, i11⟩ := beg_is c
 rw [hK.out] at i0 i1 i2 i6 i7 i8 i9 i10 i11
 have I0 := hide i0
 have I6 := hide i6
 have I7 := hide i7
 have I1 := hide i8
 have I2 := hide i9
 have I3 := hide i10
 have I5 := hide i11
 have HN := hide HA.out.next
 clear b2 b3 i0 i6 i7 i8 i9 i10 i11
 go_enter Tryz.func64, Tryz.ntmps64
 go_wp2_with fail
 rw [HMB.out]
 clear r1 r2 r3 r4 r5 r6 hmm
 refine region_later (by kernel_rfl) (by kernel_rfl) ?_
 repeat (go_big_quiet_step (fail))
 refine wpQuiet_nil ?_
 rintro w7 ⟨⟨_, o7⟩, rfl⟩
 have J7 := hide (J6.out.old o7)
 have B7 := hide (B6.out.trans (RowKit.Below.mono o7 hb6.out))
 have hb7 := hide (Nat.le_trans hbw.out B7.out.size)
 have MK7 := hide (MK.out.same fun o ho => o7.heap ho)
 have z0 : ∀ p : Later w7, p.world.cell? ⟨rb, 0, none⟩ = some (.string s) := fun p => y0 ⟨p.world, Old.trans o7 p.old⟩
 have z1 : ∀ p : Later w7, p.world.cell? ⟨rb, 1, none⟩ = some (.int .i64 (n : Int)) := fun p => y1 ⟨p.world, Old.trans o7 p.old⟩
 clear o7 y0 y1
 go_wp2_with fail
 refine region_later (by kernel_rfl) (by kernel_rfl) ?_
 repeat (go_big_quiet_step (fail))
 refine wpQuiet_nil ?_
 rintro w8 ⟨⟨_, o8⟩, rfl⟩
 have J8 := hide (J7.out.old o8)
 have B8 := hide (B7.out.trans (RowKit.Below.mono o8 hb7.out))
 have hb8 := hide (Nat.le_trans hbw.out B8.out.size)
 have MK8 := hide (MK7.out.same fun o ho => o8.heap ho)
 clear o8 z0 z1
 go_upto_region 6 with (at_lookup; refine wpList_kind _ rfl _ _ rfl _ rfl MK8.out c rfl K0 hK0.out ?_)
 obtain ⟨T, hT⟩ : ∃ T, Hid (decide (c.toNat = 45 ∨ (48 ≤ c.toNat ∧ c.toNat ≤ 57)) = T) := ⟨_, hide rfl⟩
 have KT := hide (show K = if T then 4 else K0 by
  rw [← hK.out, ← hT.out, ← hK0.out]
  unfold kindV
  by_cases h : c.toNat = 45 ∨ (48 ≤ c.toNat ∧ c.toNat ≤ 57)
  · rw [if_pos h, decide_eq_true h]; rfl
  · rw [if_neg h, decide_eq_false h]; rfl)
 go_cut [47] (fun bv wc => bv = .bool T ∧ wc = w8)
 case first =>
  by_cases h45 : c.toNat = 45
  · have q1 : ((c.toNat : Int) == 45) = true := by simp; omega
    have ET := hide (show true = T by rw [← hT.out]; exact (decide_eq_true (.inl h45)).symm)
    clear h45
    go_wp2_with fail
    go_meet
    exact ⟨by rw [ET.out], rfl⟩
  · have q1 : ((c.toNat : Int) == 45) = false := by simp; omega
    by_cases h48 : 48 ≤ c.toNat
    · have g1 : (48 : Int) ≤ (c.toNat : Int) := by omega
      have d1 : decide ((48 : Int) ≤ (c.toNat : Int)) = true := decide_eq_true g1
      by_cases h57 : c.toNat ≤ 57
      · have g2 : (c.toNat : Int) ≤ 57 := by omega
        have d2 : decide ((c.toNat : Int) ≤ 57) = true := decide_eq_true g2
        have ET := hide (show true = T by rw [← hT.out]; exact (decide_eq_true (.inr ⟨h48, h57⟩)).symm)
        clear h45 h48 h57
        go_wp2_with fail
        go_meet
        exact ⟨by rw [ET.out], rfl⟩
      · have g2 : ¬ (c.toNat : Int) ≤ 57 := by omega
        have d2 : decide ((c.toNat : Int) ≤ 57) = false := decide_eq_false g2
        have ET := hide (show false = T by rw [← hT.out]; exact (decide_eq_false (by omega)).symm)
        clear h45 h48 h57
        go_wp2_with fail
        go_meet
        exact ⟨by rw [ET.out], rfl⟩
    · have g1 : ¬ (48 : Int) ≤ (c.toNat : Int) := by omega
      have d1 : decide ((48 : Int) ≤ (c.toNat : Int)) = false := decide_eq_false g1
      have ET := hide (show false = T by rw [← hT.out]; exact (decide_eq_false (by omega)).symm)
      clear h45 h48
      go_wp2_with fail
      go_meet
      exact ⟨by rw [ET.out], rfl⟩
 case rest =>
  obtain ⟨rfl, rfl⟩ := hcut
  go_upto_if 47 with fail
  go_cut [6] (fun kv wd => kv = .int .i64 K ∧ wd = wc)
  case first =>
   cases T
   · have EK := hide (show K0 = K from KT.out.symm)
     go_wp2_with fail
     go_meet
     exact ⟨by rw [EK.out], rfl⟩
   · have EK := hide (show 4 = K from KT.out.symm)
     go_wp2_with fail
     go_meet
     exact ⟨by rw [EK.out], rfl⟩
  case rest =>
   obtain ⟨rfl, rfl⟩ := hcut
   obtain ⟨_, ov8, hv8, g1, g2, g3⟩ := J8.out
   obtain ⟨Ao, co, rfl, a1, a2, _⟩ := SlT.of_own g2
   obtain ⟨Ah, ch, rfl, a3, a4⟩ := g3.form
   have x1 := (cell_of_heap (i := 1) g1).trans rfl
   have x2 := (cell_of_heap (i := 2) g1).trans rfl
   have x3 := (cell_of_heap (i := 3) g1).trans rfl
   have OW := hide g2
   have G1 := hide g1
   obtain ⟨N, hN⟩ : ∃ N, Hid (out.length = N) := ⟨_, hide rfl⟩
   obtain ⟨M, hM⟩ : ∃ M, Hid (H.length = M) := ⟨_, hide rfl⟩
   rw [hN.out] at ho a1 x2
   rw [hM.out] at hH a3 x3
   unfold maxLen at a2 a4
   clear g1 g2 g3
   have h0 : K ≠ 0 := by rw [I6.out.2 HC.out]; decide
   have NB := hide (show ¬ begB c = false from fun h => h0 (I0.out.1 h))
   have h0' : (K == 0) = false := beq_eq_false_iff_ne.2 h0
   clear h0
   have hN4 : ¬ N = 4000 := by have h := L4.out; rw [hN.out] at h; omega
   have hN4' : ((N : Int) == 4000) = false := beq_eq_false_iff_ne.2 (by omega)
   have hNlt : N < 4000 := by omega
   clear hN4
   have hM4 : ¬ M = 64 := by have h := L6.out; rw [hM.out] at h; omega
   have hM4' : ((M : Int) == 64) = false := beq_eq_false_iff_ne.2 (by omega)
   have hMlt : M < 64 := by omega
   clear hM4
   go_upto_region 14 with fail
   go_cut [] (fun wd => Hid (JR base rb s n (out ++ [⟨K, key, 0, none_, 1⟩]) H key e bad wd) ∧ Hid (RowKit.Below base w wd))
   case first =>
    obtain ⟨_, _, ⟨_, _, x2, _, x4, _, _⟩, _⟩ := J8.out.cells
    obtain ⟨cs, hcs⟩ : ∃ cs, jrCells s n (.slice Ao N co) (.slice Ah M ch) key e bad = cs := ⟨_, rfl⟩
    have M0 := hide (show JMid base rb cs wc wc from ⟨Below.refl _ _, by rw [← hcs, ← hN.out, ← hM.out]; exact G1.out⟩)
    have y2 : ∀ p : Later wc, p.world.cell? ⟨rb, 2, none⟩ = some (.slice Ao N co) := fun p => by
     have g := G1.out
     rw [hN.out] at g
     exact (cell_of_heap (i := 2) (p.old.heap g)).trans rfl
    have y4 : ∀ p : Later wc, p.world.cell? ⟨rb, 4, none⟩ = some (.string key) := fun p => (cell_of_heap (i := 4) (p.old.heap G1.out)).trans rfl
    have hlen : out.length + [(⟨K, key, 0, none_, 1⟩ : Nd)].length ≤ 4194304 := by rw [hN.out]; simp; omega
    have MC := hide (fun w' (h : JMid base rb cs wc w') => show w'.cell? ⟨rb, 2, none⟩ = some (.slice Ao N co) ∧ w'.frozen? ⟨rb, 2, none⟩ = false from by
     rw [← hcs] at h
     exact ⟨(cell_of_heap (i := 2) h.blk).trans rfl, free_of_heap h.blk⟩)
    clear hcs x2 x3 x4
    have x2 : wc.cell? ⟨rb, 2, none⟩ = some (.slice Ao N co) := (MC.out _ M0.out).1
    have x4 : wc.cell? ⟨rb, 4, none⟩ = some (.string key) := y4 ⟨wc, Old.refl _⟩
    have x2a : ∀ o, (wc.alloc o).cell? ⟨rb, 2, none⟩ = some (.slice Ao N co) := fun o => y2 ⟨wc.alloc o, Old.alloc (Old.refl _) _⟩
    have x4a : ∀ o, (wc.alloc o).cell? ⟨rb, 4, none⟩ = some (.string key) := fun o => y4 ⟨wc.alloc o, Old.alloc (Old.refl _) _⟩
    clear y2 y4
    go_region_law (first
     | (refine step_push_nd _ _ _ rfl base _ out rfl (by rw [← hN.out]; first | exact own_old OW.out (Old.drew (Old.alloc (Old.refl _) _)) | exact own_old OW.out (Old.alloc (Old.drew (Old.refl _)) _) | exact own_old OW.out (Old.alloc (Old.refl _) _)) _ [⟨K, key, 0, none_, 1⟩] rfl (by first | exact nd_one _ _ _ _ _ rfl | exact Sl.old (nd_one _ _ _ _ _ rfl) (Old.drew (Old.refl _))) hlen (by first | exact hb8.out | (simp; have := hb8.out; omega)) ?_
        intro v9 w9 own9 kept9
        obtain ⟨A9, c9, rfl, a9, b9, _⟩ := SlT.of_own own9
        have m9 := hide (JMid.push (by first | exact JMid.drew (JMid.alloc M0.out hb8.out _) | exact JMid.alloc (JMid.drew M0.out) hb8.out _ | exact JMid.alloc M0.out hb8.out _) kept9)
        have j9 := hide (JR.push (J8.out.old (by first | exact Old.drew (Old.alloc (Old.refl _) _) | exact Old.alloc (Old.drew (Old.refl _)) _ | exact Old.alloc (Old.refl _) _)) kept9 own9)
        obtain ⟨cz9, fz9⟩ := MC.out _ m9.out
        rw [show (out ++ [(⟨K, key, 0, none_, 1⟩ : Nd)]).length = out.length + 1 by simp] at j9
        clear own9 kept9))
    all_goals
     have BZ := hide (B8.out.trans (m9.out.low.setCell (p := ⟨rb, 2, none⟩) J8.out.low (.slice A9 (out.length + 1) c9)))
     go_wp2_with fail
     go_meet
     exact ⟨j9, BZ⟩
   case rest =>
    obtain ⟨J9, B9⟩ := hcut
    obtain ⟨out', ho'⟩ : ∃ out', Hid (out ++ [(⟨K, key, 0, none_, 1⟩ : Nd)] = out') := ⟨_, hide rfl⟩
    rw [ho'.out] at J9
    obtain ⟨_, _, ⟨_, _, _, _, x4, _, _⟩, hf, _, _⟩ := J9.out.cells
    have f4 := hf 4
    have LW := hide (show ∀ w10, w10 = wc.setCell ⟨rb, 4, none⟩ (.string ⟨#[]⟩) → JR base rb s n out' H none_ e bad w10 ∧ RowKit.Below base w w10 from fun w10 hw => by
     subst hw
     exact ⟨J9.out.setKey ⟨#[]⟩, B9.out.trans (J9.out.keepAt 4 _)⟩)
    clear hf x1 x2 x3
    go_upto_region 16 with fail
    generalize hw10 : wc.setCell ⟨rb, 4, none⟩ (.string ⟨#[]⟩) = w10
    obtain ⟨j10, b10⟩ := LW.out _ hw10.symm
    have J10 := hide j10
    have B10 := hide b10
    have hb10 := hide (Nat.le_trans hbw.out b10.size)
    obtain ⟨M1, hM1⟩ : ∃ M1, Hid (out'.length = M1) := ⟨_, hide rfl⟩
    have hM1N : M1 = N + 1 := by rw [← hM1.out, ← ho'.out, List.length_append, hN.out]; rfl
    have hNM : N < M1 := by omega
    have hM4 : M1 ≤ 4000 := by omega
    have hq2 : IntKind.i64.wrap ((M1 : Int) - 1) = (N : Int) := by
     rw [show (M1 : Int) - 1 = (N : Int) by omega]
     exact IntWalk.i64_in _ (by omega)
    have HMN := hide hM1N
    clear hM1N
    obtain ⟨g, cg, e1, e2, e3⟩ := j10.node (by rw [hM1.out]; omega)
    have E1 := hide e1
    unfold maxLen at e3
    rw [hM1.out] at e1 e2
    have y2 : ∀ p : Later w10, p.world.cell? ⟨rb, 2, none⟩ = some (.slice (some ⟨g, 0, none⟩) M1 cg) := fun p => p.old.cell e1
    clear LW hw10 j10 b10 x4 f4 e1
    refine region_later (by kernel_rfl) (by kernel_rfl) ?_
    repeat (go_big_quiet_step (fail))
    refine wpQuiet_nil ?_
    rintro w11 ⟨⟨_, o11⟩, rfl⟩
    have J11 := hide (J10.out.old o11)
    have B11 := hide (B10.out.trans (RowKit.Below.mono o11 hb10.out))
    have hb11 := hide (Nat.le_trans hbw.out B11.out.size)
    have E11 := hide (o11.cell E1.out)
    clear o11 y2 hq2
    have hKK := I6.out.2 HC.out
    subst hKK
    clear h0' i1 i2
    obtain ⟨_, ov11, hv11, g1, g2, g3⟩ := J11.out
    obtain ⟨Ah2, ch2, rfl, a5, a6⟩ := g3.form
    have x1 : w11.cell? ⟨rb, 1, none⟩ = some (.int .i64 (n : Int)) := (cell_of_heap (i := 1) g1).trans rfl
    have f1 : w11.frozen? ⟨rb, 1, none⟩ = false := free_of_heap g1
    have LW := hide (show ∀ w12, w12 = w11.setCell ⟨rb, 1, none⟩ (.int .i64 ((n : Int) + 1)) → JR base rb s (n + 1) out' H none_ e bad w12 ∧ RowKit.Below base w w12 ∧ w12.cell? ⟨rb, 2, none⟩ = some (.slice (some ⟨g, 0, none⟩) M1 cg) ∧ w12.cell? ⟨rb, 3, none⟩ = some (.slice Ah2 H.length ch2) ∧ JOpen base w12 (.slice Ah2 H.length ch2) H from fun w12 hw => by
     subst hw
     have j := J11.out.setAt (n + 1) (z := (n : Int) + 1) (by simp)
     have c3 : (w11.setCell ⟨rb, 1, none⟩ (.int .i64 ((n : Int) + 1))).cell? ⟨rb, 3, none⟩ = some (.slice Ah2 H.length ch2) := (World.cell?_setCell_other w11 _ _ _ (fun e => absurd (by injection e) (by decide : ¬ (1 : Nat) = 3))).trans ((cell_of_heap (i := 3) g1).trans rfl)
     exact ⟨j, B11.out.trans (J11.out.keepAt 1 _), set_cell2 (by decide) (by rw [← hM1.out]; exact E11.out), c3, g3.set_else g1 (by decide)⟩)
    clear g1 g2 g3 hn
    go_upto_region 27 with fail
    generalize hw12 : w11.setCell ⟨rb, 1, none⟩ (.int .i64 ((n : Int) + 1)) = w12
    obtain ⟨j12, b12, e2, e3, op12⟩ := LW.out _ hw12.symm
    have J12 := hide j12
    have B12 := hide b12
    have OP := hide op12
    have hb12 := hide (Nat.le_trans hbw.out b12.size)
    clear LW hw12 j12 b12 op12 x1 f1
    go_cut [] (fun wd => Hid (JR base rb s (n + 1) out' (⟨N, []⟩ :: H) none_ e bad wd) ∧ Hid (RowKit.Below base w wd))
    case first =>
     have x2a : ∀ o, (w12.alloc o).cell? ⟨rb, 2, none⟩ = some (.slice (some ⟨g, 0, none⟩) M1 cg) := fun o => (Old.alloc (Old.refl _) o).cell e2
     have x3a : ∀ o, (w12.alloc o).cell? ⟨rb, 3, none⟩ = some (.slice Ah2 H.length ch2) := fun o => (Old.alloc (Old.refl _) o).cell e3
     have x3b : ∀ o o', ((w12.alloc o).alloc o').cell? ⟨rb, 3, none⟩ = some (.slice Ah2 H.length ch2) := fun o o' => (Old.alloc (Old.alloc (Old.refl _) o) o').cell e3
     have hq2 : IntKind.i64.wrap ((M1 : Int) - 1) = (N : Int) := by
      have := HMN.out
      rw [show (M1 : Int) - 1 = (N : Int) by omega]
      exact IntWalk.i64_in _ (by omega)
     have hHlen : H.length + 1 ≤ 4194304 := by rw [hM.out]; omega
     have hmm := @run_makeMap Tryz.prog
     go_region_law (first
      | (refine step_push_jh w12 _ _ _ rfl base _ H rfl OP.out (by first | exact Old.alloc (Old.alloc (Old.refl _) _) _ | exact Old.drew (Old.alloc (Old.alloc (Old.refl _) _) _) | exact Old.alloc (Old.drew (Old.alloc (Old.refl _) _)) _ | exact Old.alloc (Old.alloc (Old.drew (Old.refl _)) _) _) ⟨N, []⟩ w12.heap.size _ _ hb12.out (Nat.le_refl _) (by first | exact (keys_new w12).old (Old.alloc (Old.refl _) _) | exact (keys_new w12).old (Old.drew (Old.alloc (Old.refl _) _)) | exact (keys_new w12).old (Old.alloc (Old.drew (Old.refl _)) _)) rfl (by go_simp) (by go_simp) hHlen ?_
         intro v9 w9 own9 kept9
         obtain ⟨A9, c9, rfl, a9, b9⟩ := own9.form
         obtain ⟨v0, cz9, fz9⟩ := (J12.out.old (by first | exact Old.alloc (Old.alloc (Old.refl _) _) _ | exact Old.drew (Old.alloc (Old.alloc (Old.refl _) _) _) | exact Old.alloc (Old.drew (Old.alloc (Old.refl _) _)) _ | exact Old.alloc (Old.alloc (Old.drew (Old.refl _)) _) _)).kept3 kept9
         have j9 := hide (JR.pushOpen (J12.out.old (by first | exact Old.alloc (Old.alloc (Old.refl _) _) _ | exact Old.drew (Old.alloc (Old.alloc (Old.refl _) _) _) | exact Old.alloc (Old.drew (Old.alloc (Old.refl _) _)) _ | exact Old.alloc (Old.alloc (Old.drew (Old.refl _)) _) _)) kept9 own9)
         have m9 := hide (show RowKit.Below base w12 w9 from (RowKit.Below.mono (show Old w12 _ by first | exact Old.alloc (Old.alloc (Old.refl _) _) _ | exact Old.drew (Old.alloc (Old.alloc (Old.refl _) _) _) | exact Old.alloc (Old.drew (Old.alloc (Old.refl _) _)) _ | exact Old.alloc (Old.alloc (Old.drew (Old.refl _)) _) _) hb12.out).trans kept9.kept.low)
         rw [show ((⟨N, []⟩ : Jh) :: H).length = H.length + 1 by rfl] at j9
         clear own9 kept9))
     all_goals
      have BZ := hide (B12.out.trans (m9.out.setCell (p := ⟨rb, 3, none⟩) J12.out.low (.slice A9 (H.length + 1) c9)))
      go_wp2_with fail
      go_meet
      exact ⟨j9, BZ⟩
    case rest =>
     obtain ⟨J13, B13⟩ := hcut
     go_wp2_with fail
     go_ret2
     refine ⟨JBeg.open_ NB.out L4.out L6.out (.inl HC.out) ?_ ⟨n + 1, HN.out, ?_⟩, B13.out⟩
     · rw [HC.out]
       rfl
     · have j := J13.out
       rw [← ho'.out, ← hN.out] at j
       rw [HC.out]
       exact j
end Go.Proofs.YthlfljmfggmfdaaGreatDoor

/-! ###  -/
namespace Go.Proofs.YthlfljmfggmfdaaGreatDoor
open Go.RowKit
set_option maxRecDepth 100000 in
set_option maxHeartbeats 8000000 in
theorem begin_obj (base rb : Nat) (s : ByteArray) (n : Nat) (c : UInt8) (r : List UInt8) (out : List Nd) (H : List Jh) (key : ByteArray) (e bad : Int) (w : World)
 (h : JR base rb s n out H key e bad w) (ha : JAt s n (c :: r)) (hs : s.size ≤ 1073741824) (hE : Ever base w) (hH : H.length ≤ 64) (ho : out.length ≤ 4000) (hc : c = 123) (h4 : ¬ 4000 ≤ out.length) (h6 : ¬ 64 ≤ H.length) :
 Calls Tryz.prog 64 #[.pointer (some ⟨rb, 0, none⟩)] w fun y w' => JBeg base rb s out H key e bad (c :: r) y w' ∧ RowKit.Below base w w' := by
 have HA := hide ha
 have HE := hide hE
 have hbw := hide (show base ≤ w.heap.size from Nat.le_trans h.low (Nat.le_of_lt h.lt))
 have hn := HA.out.le
 have hmm := @run_makeMap Tryz.prog
 obtain ⟨w1, w2, w3, w4, w5, w6, r1, r2, r3, r4, r5, r6, mk, o6⟩ := kinds_made w
 have MK := hide mk
 have J6 := hide (h.old o6)
 have B6 := hide (RowKit.Below.mono o6 hbw.out)
 have hb6 := hide (Nat.le_trans hbw.out B6.out.size)
 obtain ⟨ov, hv, ⟨x0, x1, x2, x3, x4, _, _⟩, _, _, hop⟩ := J6.out.cells
 have y0 : ∀ p : Later w6, p.world.cell? ⟨rb, 0, none⟩ = some (.string s) := fun p => p.old.cell x0
 have y1 : ∀ p : Later w6, p.world.cell? ⟨rb, 1, none⟩ = some (.int .i64 (n : Int)) := fun p => p.old.cell x1
 obtain ⟨mb, hmb⟩ : ∃ mb, w.heap.size = mb := ⟨_, rfl⟩
 rw [hmb] at MK
 have HMB := hide hmb
 clear h ha hE mk o6 hmb x0 x1 x2 x3 x4 hop
 have HC := hide hc
 have L4 := hide h4
 have L6 := hide h6
 clear hc h4 h6
 obtain ⟨b1, b2, b3⟩ := byte_at HA.out.rest
 have bx : s[n] = c := by rw [get_at s b1, b2]
 have hq : ((n : Int) == (s.size : Int)) = false := beq_eq_false_iff_ne.2 (by omega)
 have hnlt : (n : Int) < (s.size : Int) := by omega
 obtain ⟨K0, hK0⟩ : ∃ K0, Hid (kindB c = K0) := ⟨_, hide rfl⟩
 obtain ⟨K, hK⟩ : ∃ K, Hid (kindV c = K) := ⟨_, hide rfl⟩
 obtain ⟨i0, i1, i2, i6, i7, i8, i9, i10, i11⟩ := beg_is c
 rw [hK.out] at i0 i1 i2 i6 i7 i8 i9 i10 i11
 have I0 := hide i0
 have I6 := hide i6
 have I7 := hide i7
 have I1 := hide i8
 have I2 := hide i9
 have I3 := hide i10
 have I5 := hide i11
 have HN := hide HA.out.next
 clear b2 b3 i0 i6 i7 i8 i9 i10 i11
 go_enter Tryz.func64, Tryz.ntmps64
 go_wp2_with fail
 rw [HMB.out]
 clear r1 r2 r3 r4 r5 r6 hmm
 refine region_later (by kernel_rfl) (by kernel_rfl) ?_
 repeat (go_big_quiet_step (fail))
 refine wpQuiet_nil ?_
 rintro w7 ⟨⟨_, o7⟩, rfl⟩
 have J7 := hide (J6.out.old o7)
 have B7 := hide (B6.out.trans (RowKit.Below.mono o7 hb6.out))
 have hb7 := hide (Nat.le_trans hbw.out B7.out.size)
 have MK7 := hide (MK.out.same fun o ho => o7.heap ho)
 have z0 : ∀ p : Later w7, p.world.cell? ⟨rb, 0, none⟩ = some (.string s) := fun p => y0 ⟨p.world, Old.trans o7 p.old⟩
 have z1 : ∀ p : Later w7, p.world.cell? ⟨rb, 1, none⟩ = some (.int .i64 (n : Int)) := fun p => y1 ⟨p.world, Old.trans o7 p.old⟩
 clear o7 y0 y1
 go_wp2_with fail
 refine region_later (by kernel_rfl) (by kernel_rfl) ?_
 repeat (go_big_quiet_step (fail))
 refine wpQuiet_nil ?_
 rintro w8 ⟨⟨_, o8⟩, rfl⟩
 have J8 := hide (J7.out.old o8)
 have B8 := hide (B7.out.trans (RowKit.Below.mono o8 hb7.out))
 have hb8 := hide (Nat.le_trans hbw.out B8.out.size)
 have MK8 := hide (MK7.out.same fun o ho => o8.heap ho)
 clear o8 z0 z1
 go_upto_region 6 with (at_lookup; refine wpList_kind _ rfl _ _ rfl _ rfl MK8.out c rfl K0 hK0.out ?_)
 obtain ⟨T, hT⟩ : ∃ T, Hid (decide (c.toNat = 45 ∨ (48 ≤ c.toNat ∧ c.toNat ≤ 57)) = T) := ⟨_, hide rfl⟩
 have KT := hide (show K = if T then 4 else K0 by
  rw [← hK.out, ← hT.out, ← hK0.out]
  unfold kindV
  by_cases h : c.toNat = 45 ∨ (48 ≤ c.toNat ∧ c.toNat ≤ 57)
  · rw [if_pos h, decide_eq_true h]; rfl
  · rw [if_neg h, decide_eq_false h]; rfl)
 go_cut [47] (fun bv wc => bv = .bool T ∧ wc = w8)
 case first =>
  by_cases h45 : c.toNat = 45
  · have q1 : ((c.toNat : Int) == 45) = true := by simp; omega
    have ET := hide (show true = T by rw [← hT.out]; exact (decide_eq_true (.inl h45)).symm)
    clear h45
    go_wp2_with fail
    go_meet
    exact ⟨by rw [ET.out], rfl⟩
  · have q1 : ((c.toNat : Int) == 45) = false := by simp; omega
    by_cases h48 : 48 ≤ c.toNat
    · have g1 : (48 : Int) ≤ (c.toNat : Int) := by omega
      have d1 : decide ((48 : Int) ≤ (c.toNat : Int)) = true := decide_eq_true g1
      by_cases h57 : c.toNat ≤ 57
      · have g2 : (c.toNat : Int) ≤ 57 := by omega
        have d2 : decide ((c.toNat : Int) ≤ 57) = true := decide_eq_true g2
        have ET := hide (show true = T by rw [← hT.out]; exact (decide_eq_true (.inr ⟨h48, h57⟩)).symm)
        clear h45 h48 h57
        go_wp2_with fail
        go_meet
        exact ⟨by rw [ET.out], rfl⟩
      · have g2 : ¬ (c.toNat : Int) ≤ 57 := by omega
        have d2 : decide ((c.toNat : Int) ≤ 57) = false := decide_eq_false g2
        have ET := hide (show false = T by rw [← hT.out]; exact (decide_eq_false (by omega)).symm)
        clear h45 h48 h57
        go_wp2_with fail
        go_meet
        exact ⟨by rw [ET.out], rfl⟩
    · have g1 : ¬ (48 : Int) ≤ (c.toNat : Int) := by omega
      have d1 : decide ((48 : Int) ≤ (c.toNat : Int)) = false := decide_eq_false g1
      have ET := hide (show false = T by rw [← hT.out]; exact (decide_eq_false (by omega)).symm)
      clear h45 h48
      go_wp2_with fail
      go_meet
      exact ⟨by rw [ET.out], rfl⟩
 case rest =>
  obtain ⟨rfl, rfl⟩ := hcut
  go_upto_if 47 with fail
  go_cut [6] (fun kv wd => kv = .int .i64 K ∧ wd = wc)
  case first =>
   cases T
   · have EK := hide (show K0 = K from KT.out.symm)
     go_wp2_with fail
     go_meet
     exact ⟨by rw [EK.out], rfl⟩
   · have EK := hide (show 4 = K from KT.out.symm)
     go_wp2_with fail
     go_meet
     exact ⟨by rw [EK.out], rfl⟩
  case rest =>
   obtain ⟨rfl, rfl⟩ := hcut
   obtain ⟨_, ov8, hv8, g1, g2, g3⟩ := J8.out
   obtain ⟨Ao, co, rfl, a1, a2, _⟩ := SlT.of_own g2
   obtain ⟨Ah, ch, rfl, a3, a4⟩ := g3.form
   have x1 := (cell_of_heap (i := 1) g1).trans rfl
   have x2 := (cell_of_heap (i := 2) g1).trans rfl
   have x3 := (cell_of_heap (i := 3) g1).trans rfl
   have OW := hide g2
   have G1 := hide g1
   obtain ⟨N, hN⟩ : ∃ N, Hid (out.length = N) := ⟨_, hide rfl⟩
   obtain ⟨M, hM⟩ : ∃ M, Hid (H.length = M) := ⟨_, hide rfl⟩
   rw [hN.out] at ho a1 x2
   rw [hM.out] at hH a3 x3
   unfold maxLen at a2 a4
   clear g1 g2 g3
   have h0 : K ≠ 0 := by rw [I7.out.2 HC.out]; decide
   have NB := hide (show ¬ begB c = false from fun h => h0 (I0.out.1 h))
   have h0' : (K == 0) = false := beq_eq_false_iff_ne.2 h0
   clear h0
   have hN4 : ¬ N = 4000 := by have h := L4.out; rw [hN.out] at h; omega
   have hN4' : ((N : Int) == 4000) = false := beq_eq_false_iff_ne.2 (by omega)
   have hNlt : N < 4000 := by omega
   clear hN4
   have hM4 : ¬ M = 64 := by have h := L6.out; rw [hM.out] at h; omega
   have hM4' : ((M : Int) == 64) = false := beq_eq_false_iff_ne.2 (by omega)
   have hMlt : M < 64 := by omega
   clear hM4
   go_upto_region 14 with fail
   go_cut [] (fun wd => Hid (JR base rb s n (out ++ [⟨K, key, 0, none_, 1⟩]) H key e bad wd) ∧ Hid (RowKit.Below base w wd))
   case first =>
    obtain ⟨_, _, ⟨_, _, x2, _, x4, _, _⟩, _⟩ := J8.out.cells
    obtain ⟨cs, hcs⟩ : ∃ cs, jrCells s n (.slice Ao N co) (.slice Ah M ch) key e bad = cs := ⟨_, rfl⟩
    have M0 := hide (show JMid base rb cs wc wc from ⟨Below.refl _ _, by rw [← hcs, ← hN.out, ← hM.out]; exact G1.out⟩)
    have y2 : ∀ p : Later wc, p.world.cell? ⟨rb, 2, none⟩ = some (.slice Ao N co) := fun p => by
     have g := G1.out
     rw [hN.out] at g
     exact (cell_of_heap (i := 2) (p.old.heap g)).trans rfl
    have y4 : ∀ p : Later wc, p.world.cell? ⟨rb, 4, none⟩ = some (.string key) := fun p => (cell_of_heap (i := 4) (p.old.heap G1.out)).trans rfl
    have hlen : out.length + [(⟨K, key, 0, none_, 1⟩ : Nd)].length ≤ 4194304 := by rw [hN.out]; simp; omega
    have MC := hide (fun w' (h : JMid base rb cs wc w') => show w'.cell? ⟨rb, 2, none⟩ = some (.slice Ao N co) ∧ w'.frozen? ⟨rb, 2, none⟩ = false from by
     rw [← hcs] at h
     exact ⟨(cell_of_heap (i := 2) h.blk).trans rfl, free_of_heap h.blk⟩)
    clear hcs x2 x3 x4
    have x2 : wc.cell? ⟨rb, 2, none⟩ = some (.slice Ao N co) := (MC.out _ M0.out).1
    have x4 : wc.cell? ⟨rb, 4, none⟩ = some (.string key) := y4 ⟨wc, Old.refl _⟩
    have x2a : ∀ o, (wc.alloc o).cell? ⟨rb, 2, none⟩ = some (.slice Ao N co) := fun o => y2 ⟨wc.alloc o, Old.alloc (Old.refl _) _⟩
    have x4a : ∀ o, (wc.alloc o).cell? ⟨rb, 4, none⟩ = some (.string key) := fun o => y4 ⟨wc.alloc o, Old.alloc (Old.refl _) _⟩
    clear y2 y4
    go_region_law (first
     | (refine step_push_nd _ _ _ rfl base _ out rfl (by rw [← hN.out]; first | exact own_old OW.out (Old.drew (Old.alloc (Old.refl _) _)) | exact own_old OW.out (Old.alloc (Old.drew (Old.refl _)) _) | exact own_old OW.out (Old.alloc (Old.refl _) _)) _ [⟨K, key, 0, none_, 1⟩] rfl (by first | exact nd_one _ _ _ _ _ rfl | exact Sl.old (nd_one _ _ _ _ _ rfl) (Old.drew (Old.refl _))) hlen (by first | exact hb8.out | (simp; have := hb8.out; omega)) ?_
        intro v9 w9 own9 kept9
        obtain ⟨A9, c9, rfl, a9, b9, _⟩ := SlT.of_own own9
        have m9 := hide (JMid.push (by first | exact JMid.drew (JMid.alloc M0.out hb8.out _) | exact JMid.alloc (JMid.drew M0.out) hb8.out _ | exact JMid.alloc M0.out hb8.out _) kept9)
        have j9 := hide (JR.push (J8.out.old (by first | exact Old.drew (Old.alloc (Old.refl _) _) | exact Old.alloc (Old.drew (Old.refl _)) _ | exact Old.alloc (Old.refl _) _)) kept9 own9)
        obtain ⟨cz9, fz9⟩ := MC.out _ m9.out
        rw [show (out ++ [(⟨K, key, 0, none_, 1⟩ : Nd)]).length = out.length + 1 by simp] at j9
        clear own9 kept9))
    all_goals
     have BZ := hide (B8.out.trans (m9.out.low.setCell (p := ⟨rb, 2, none⟩) J8.out.low (.slice A9 (out.length + 1) c9)))
     go_wp2_with fail
     go_meet
     exact ⟨j9, BZ⟩
   case rest =>
    obtain ⟨J9, B9⟩ := hcut
    obtain ⟨out', ho'⟩ : ∃ out', Hid (out ++ [(⟨K, key, 0, none_, 1⟩ : Nd)] = out') := ⟨_, hide rfl⟩
    rw [ho'.out] at J9
    obtain ⟨_, _, ⟨_, _, _, _, x4, _, _⟩, hf, _, _⟩ := J9.out.cells
    have f4 := hf 4
    have LW := hide (show ∀ w10, w10 = wc.setCell ⟨rb, 4, none⟩ (.string ⟨#[]⟩) → JR base rb s n out' H none_ e bad w10 ∧ RowKit.Below base w w10 from fun w10 hw => by
     subst hw
     exact ⟨J9.out.setKey ⟨#[]⟩, B9.out.trans (J9.out.keepAt 4 _)⟩)
    clear hf x1 x2 x3
    go_upto_region 16 with fail
    generalize hw10 : wc.setCell ⟨rb, 4, none⟩ (.string ⟨#[]⟩) = w10
    obtain ⟨j10, b10⟩ := LW.out _ hw10.symm
    have J10 := hide j10
    have B10 := hide b10
    have hb10 := hide (Nat.le_trans hbw.out b10.size)
    obtain ⟨M1, hM1⟩ : ∃ M1, Hid (out'.length = M1) := ⟨_, hide rfl⟩
    have hM1N : M1 = N + 1 := by rw [← hM1.out, ← ho'.out, List.length_append, hN.out]; rfl
    have hNM : N < M1 := by omega
    have hM4 : M1 ≤ 4000 := by omega
    have hq2 : IntKind.i64.wrap ((M1 : Int) - 1) = (N : Int) := by
     rw [show (M1 : Int) - 1 = (N : Int) by omega]
     exact IntWalk.i64_in _ (by omega)
    have HMN := hide hM1N
    clear hM1N
    obtain ⟨g, cg, e1, e2, e3⟩ := j10.node (by rw [hM1.out]; omega)
    have E1 := hide e1
    unfold maxLen at e3
    rw [hM1.out] at e1 e2
    have y2 : ∀ p : Later w10, p.world.cell? ⟨rb, 2, none⟩ = some (.slice (some ⟨g, 0, none⟩) M1 cg) := fun p => p.old.cell e1
    clear LW hw10 j10 b10 x4 f4 e1
    refine region_later (by kernel_rfl) (by kernel_rfl) ?_
    repeat (go_big_quiet_step (fail))
    refine wpQuiet_nil ?_
    rintro w11 ⟨⟨_, o11⟩, rfl⟩
    have J11 := hide (J10.out.old o11)
    have B11 := hide (B10.out.trans (RowKit.Below.mono o11 hb10.out))
    have hb11 := hide (Nat.le_trans hbw.out B11.out.size)
    have E11 := hide (o11.cell E1.out)
    clear o11 y2 hq2
    have hKK := I7.out.2 HC.out
    subst hKK
    clear h0' i1 i2
    obtain ⟨_, ov11, hv11, g1, g2, g3⟩ := J11.out
    obtain ⟨Ah2, ch2, rfl, a5, a6⟩ := g3.form
    have x1 : w11.cell? ⟨rb, 1, none⟩ = some (.int .i64 (n : Int)) := (cell_of_heap (i := 1) g1).trans rfl
    have f1 : w11.frozen? ⟨rb, 1, none⟩ = false := free_of_heap g1
    have LW := hide (show ∀ w12, w12 = w11.setCell ⟨rb, 1, none⟩ (.int .i64 ((n : Int) + 1)) → JR base rb s (n + 1) out' H none_ e bad w12 ∧ RowKit.Below base w w12 ∧ w12.cell? ⟨rb, 2, none⟩ = some (.slice (some ⟨g, 0, none⟩) M1 cg) ∧ w12.cell? ⟨rb, 3, none⟩ = some (.slice Ah2 H.length ch2) ∧ JOpen base w12 (.slice Ah2 H.length ch2) H from fun w12 hw => by
     subst hw
     have j := J11.out.setAt (n + 1) (z := (n : Int) + 1) (by simp)
     have c3 : (w11.setCell ⟨rb, 1, none⟩ (.int .i64 ((n : Int) + 1))).cell? ⟨rb, 3, none⟩ = some (.slice Ah2 H.length ch2) := (World.cell?_setCell_other w11 _ _ _ (fun e => absurd (by injection e) (by decide : ¬ (1 : Nat) = 3))).trans ((cell_of_heap (i := 3) g1).trans rfl)
     exact ⟨j, B11.out.trans (J11.out.keepAt 1 _), set_cell2 (by decide) (by rw [← hM1.out]; exact E11.out), c3, g3.set_else g1 (by decide)⟩)
    clear g1 g2 g3 hn
    go_upto_region 27 with fail
    generalize hw12 : w11.setCell ⟨rb, 1, none⟩ (.int .i64 ((n : Int) + 1)) = w12
    obtain ⟨j12, b12, e2, e3, op12⟩ := LW.out _ hw12.symm
    have J12 := hide j12
    have B12 := hide b12
    have OP := hide op12
    have hb12 := hide (Nat.le_trans hbw.out b12.size)
    clear LW hw12 j12 b12 op12 x1 f1
    go_cut [] (fun wd => Hid (JR base rb s (n + 1) out' (⟨N, []⟩ :: H) none_ e bad wd) ∧ Hid (RowKit.Below base w wd))
    case first =>
     have x2a : ∀ o, (w12.alloc o).cell? ⟨rb, 2, none⟩ = some (.slice (some ⟨g, 0, none⟩) M1 cg) := fun o => (Old.alloc (Old.refl _) o).cell e2
     have x3a : ∀ o, (w12.alloc o).cell? ⟨rb, 3, none⟩ = some (.slice Ah2 H.length ch2) := fun o => (Old.alloc (Old.refl _) o).cell e3
     have x3b : ∀ o o', ((w12.alloc o).alloc o').cell? ⟨rb, 3, none⟩ = some (.slice Ah2 H.length ch2) := fun o o' => (Old.alloc (Old.alloc (Old.refl _) o) o').cell e3
     have hq2 : IntKind.i64.wrap ((M1 : Int) - 1) = (N : Int) := by
      have := HMN.out
      rw [show (M1 : Int) - 1 = (N : Int) by omega]
      exact IntWalk.i64_in _ (by omega)
     have hHlen : H.length + 1 ≤ 4194304 := by rw [hM.out]; omega
     have hmm := @run_makeMap Tryz.prog
     go_region_law (first
      | (refine step_push_jh w12 _ _ _ rfl base _ H rfl OP.out (by first | exact Old.alloc (Old.alloc (Old.refl _) _) _ | exact Old.drew (Old.alloc (Old.alloc (Old.refl _) _) _) | exact Old.alloc (Old.drew (Old.alloc (Old.refl _) _)) _ | exact Old.alloc (Old.alloc (Old.drew (Old.refl _)) _) _) ⟨N, []⟩ w12.heap.size _ _ hb12.out (Nat.le_refl _) (by first | exact (keys_new w12).old (Old.alloc (Old.refl _) _) | exact (keys_new w12).old (Old.drew (Old.alloc (Old.refl _) _)) | exact (keys_new w12).old (Old.alloc (Old.drew (Old.refl _)) _)) rfl (by go_simp) (by go_simp) hHlen ?_
         intro v9 w9 own9 kept9
         obtain ⟨A9, c9, rfl, a9, b9⟩ := own9.form
         obtain ⟨v0, cz9, fz9⟩ := (J12.out.old (by first | exact Old.alloc (Old.alloc (Old.refl _) _) _ | exact Old.drew (Old.alloc (Old.alloc (Old.refl _) _) _) | exact Old.alloc (Old.drew (Old.alloc (Old.refl _) _)) _ | exact Old.alloc (Old.alloc (Old.drew (Old.refl _)) _) _)).kept3 kept9
         have j9 := hide (JR.pushOpen (J12.out.old (by first | exact Old.alloc (Old.alloc (Old.refl _) _) _ | exact Old.drew (Old.alloc (Old.alloc (Old.refl _) _) _) | exact Old.alloc (Old.drew (Old.alloc (Old.refl _) _)) _ | exact Old.alloc (Old.alloc (Old.drew (Old.refl _)) _) _)) kept9 own9)
         have m9 := hide (show RowKit.Below base w12 w9 from (RowKit.Below.mono (show Old w12 _ by first | exact Old.alloc (Old.alloc (Old.refl _) _) _ | exact Old.drew (Old.alloc (Old.alloc (Old.refl _) _) _) | exact Old.alloc (Old.drew (Old.alloc (Old.refl _) _)) _ | exact Old.alloc (Old.alloc (Old.drew (Old.refl _)) _) _) hb12.out).trans kept9.kept.low)
         rw [show ((⟨N, []⟩ : Jh) :: H).length = H.length + 1 by rfl] at j9
         clear own9 kept9))
     all_goals
      have BZ := hide (B12.out.trans (m9.out.setCell (p := ⟨rb, 3, none⟩) J12.out.low (.slice A9 (H.length + 1) c9)))
      go_wp2_with fail
      go_meet
      exact ⟨j9, BZ⟩
    case rest =>
     obtain ⟨J13, B13⟩ := hcut
     go_wp2_with fail
     go_ret2
     refine ⟨JBeg.open_ NB.out L4.out L6.out (.inr HC.out) ?_ ⟨n + 1, HN.out, ?_⟩, B13.out⟩
     · rw [HC.out]
       rfl
     · have j := J13.out
       rw [← ho'.out, ← hN.out] at j
       rw [HC.out]
       exact j
end Go.Proofs.YthlfljmfggmfdaaGreatDoor

/-! ###  -/
namespace Go.Proofs.YthlfljmfggmfdaaGreatDoor
open Go.RowKit
theorem begin_run (base rb : Nat) (s : ByteArray) (n : Nat) (l : List UInt8) (out : List Nd) (H : List Jh) (key : ByteArray) (e bad : Int) (w : World)
 (h : JR base rb s n out H key e bad w) (ha : JAt s n l) (hs : s.size ≤ 1073741824) (hE : Ever base w) (hH : H.length ≤ 64) (ho : out.length ≤ 4000) :
 Calls Tryz.prog 64 #[.pointer (some ⟨rb, 0, none⟩)] w fun y w' => JBeg base rb s out H key e bad l y w' ∧ RowKit.Below base w w' := by
 by_cases hx : ∃ c r, l = c :: r ∧ (c = 91 ∨ c = 123) ∧ ¬ 4000 ≤ out.length ∧ ¬ 64 ≤ H.length
 · obtain ⟨c, r, rfl, hc | hc, h4, h6⟩ := hx
   · exact begin_list base rb s n c r out H key e bad w h ha hs hE hH ho hc h4 h6
   · exact begin_obj base rb s n c r out H key e bad w h ha hs hE hH ho hc h4 h6
 · refine begin_leaf base rb s n l out H key e bad w h ha hs hE hH ho (fun c r hl => ?_)
   by_cases hc : c = 91 ∨ c = 123
   · by_cases h4 : 4000 ≤ out.length
     · exact .inr (.inl h4)
     · by_cases h6 : 64 ≤ H.length
       · exact .inr (.inr h6)
       · exact absurd ⟨c, r, hl, hc, h4, h6⟩ hx
   · exact .inl hc
end Go.Proofs.YthlfljmfggmfdaaGreatDoor
