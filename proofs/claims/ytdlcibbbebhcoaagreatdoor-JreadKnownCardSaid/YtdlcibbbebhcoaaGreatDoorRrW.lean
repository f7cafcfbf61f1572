/- The document's reader of a text: a value: the walk. -/
import Derived.Test.YtdlcibbbebhcoaaGreatDoorRrX
import Derived.Test.YtdlcibbbebhcoaaGreatDoorRr6
import Derived.Deep.DeepCutAuto
import Derived.Deep.RegionLaw
import Derived.Deep.CutBlock
/-! ### The document's reader of a text: a value: the walk. -/
namespace Go.Proofs.YtdlcibbbebhcoaaGreatDoor
open Go.RowKit

set_option maxRecDepth 100000 in
set_option maxHeartbeats 1000000 in
/-- behind an error nothing is read -/
theorem rvalue_err (base rb : Nat) (s : ByteArray) (hs : s.size ≤ 1073741824) (f : Nat) (out : List Nd) (b : Bad) (key : ByteArray) (deep : Nat) (w : World) (h : RS base rb s out (.error b) w) (ho : out.length ≤ 4000) :
    Calls Tryz.prog 26 #[.pointer (some ⟨rb, 0, none⟩), .string key, .int .i64 (deep : Int)] w fun x w' => x = .returned (.tuple #[]) ∧ RV base rb s out (valX f key out.length deep (.error b)) w' ∧ RKeep base rb w w' := by
  have HS := hide h
  have CB := hide (rblanks_run base rb s out _ w h hs)
  clear h
  go_enter Tryz.func26, Tryz.ntmps26
  go_wp2_with fail
  refine CB.out.mono ?_
  rintro x w1 ⟨rfl, s1, b1⟩
  have S1 := hide s1
  have K1 := hide (RKeep.ofBel b1 HS.out)
  obtain ⟨n, wh, e, hR, he, _⟩ := s1.open_
  obtain ⟨ov, ⟨_, _, _, _, x4⟩, _, _⟩ := hR.cells
  have he0 : e ≠ 0 := fun e => by obtain ⟨l', e'⟩ := he.1 e; cases e'
  have he1 : (e != 0) = true := by simp [he0]
  have he2 : ¬ e = 0 := he0
  clear s1 b1 hR he he0
  go_wp2_with fail
  refine bodyPost_ret (results_none rfl _ _ _) rfl ?_
  exact ⟨rfl, ⟨out, Nat.le_refl _, ho, S1.out⟩, K1.out⟩
theorem wordX_err (ds : List UInt8) (b : Bad) : wordX ds (.error b) = .error b := by
  induction ds with
  | nil => rfl
  | cons d ds ih =>
    show wordX ds (mustX d (.error b)) = _
    exact ih
theorem wordX_V : ∀ (ds l : List UInt8), wordX ds (.ok l) = match wordV ds l with | .error b => .error b | .ok r => .ok r
  | [], l => rfl
  | d :: ds, [] => by
    show wordX ds (mustX d (.ok [])) = _
    exact wordX_err ds _
  | d :: ds, c :: r => by
    show wordX ds (mustX d (.ok (c :: r))) = _
    simp only [mustX, wordV]
    by_cases h : c = d
    · rw [if_pos h, if_pos h]
      exact wordX_V ds r
    · rw [if_neg h, if_neg h]
      exact wordX_err ds _
/-- the reader's nodes with one more, a block of the call's own beside them -/
theorem push_x {base rb n gx : Nat} {s : ByteArray} {out : List Nd} {x : Nd} {wh e : Int} {w3 wb w9 : World} {v v9 : Value} {cs : Array Value} {T : TypeId} {f : Nat × Nat} (HR : RR base rb s n out wh e w3) (hc : w3.cell? ⟨rb, 2, none⟩ = some v) (o : Old w3 wb) (hg : wb.grownBy w9 v.ownBlock)
    (hv : NodesOwn base w9 v9 (out ++ [x])) (hown : v9.ownBlock = v.ownBlock ∨ v9.ownBlock = some wb.heap.size) (hx : w3.heap[gx]? = some (.cells cs T f)) (hgr : gx ≠ rb) (hgo : some gx ≠ v.ownBlock) :
    (RR base rb s n (out ++ [x]) wh e (w9.setCell ⟨rb, 2, none⟩ v9) ∧ RKeep base rb w3 (w9.setCell ⟨rb, 2, none⟩ v9) ∧ (w9.setCell ⟨rb, 2, none⟩ v9).heap[gx]? = some (.cells cs T f) ∧ some gx ≠ (ovAt rb (w9.setCell ⟨rb, 2, none⟩ v9)).ownBlock) ∧
      w9.cell? ⟨rb, 2, none⟩ = some v ∧ w9.frozen? ⟨rb, 2, none⟩ = false := by
  have hov : ovAt rb wb = v := ovAt_cell (o.cell hc)
  have hov3 : ovAt rb w3 = v := ovAt_cell hc
  have hS : RR base rb s n out wh e wb := HR.old o
  obtain ⟨a, b, u, c1, c2⟩ := hS.grow (by rw [hov]; exact hg) hv (by rw [hov]; exact hown)
  have K0 : RKeep base rb w3 wb := by
    refine ⟨RowKit.Below.mono o HR.bw, fun i h1 _ _ => o.block i h1, .inl ?_⟩
    rw [hov, hov3]
  have K1 := K0.trans b
  refine ⟨⟨a, K1, K1.block hx hgr (by rw [hov3]; exact hgo), K1.apart (block_lt hx) (by rw [hov3]; exact hgo)⟩, ?_, c2⟩
  obtain ⟨g1, g2⟩ := hS.ov
  have hne : some rb ≠ (ovAt rb wb).ownBlock := by
    intro e2
    obtain ⟨cs', T', f', hh, hT⟩ := own_block g2 rb e2.symm
    rw [g1] at hh
    injection hh with hh
    injection hh with _ hT2 _
    exact absurd (hT2.trans hT) (by decide)
  rw [hov] at hne g1
  have g3 := (hg.block rb (block_lt g1) hne).trans g1
  exact (cell_of_heap (i := 2) g3).trans rfl
theorem nd_zero (key : ByteArray) (w : World) (g : Nat) (hg : w.heap.size = g) : ∀ j u, (⟨0, key, 0, none_, 0⟩ : Nd).vals[j]? = some u → (w.alloc (.cells #[.int .i64 0, .string key, .int .i64 0, .string ⟨#[]⟩, .int .i64 0] 33)).cell? ⟨g, j, none⟩ = some u := by
  subst hg
  intro j u hu
  rw [cell_of_heap (heap_alloc_new w _)]
  match j, hu with
  | 0, hu => exact hu
  | 1, hu => exact hu
  | 2, hu => exact hu
  | 3, hu => exact hu
  | 4, hu => exact hu
  | j + 5, hu => simp [Nd.vals] at hu
set_option maxRecDepth 100000 in
set_option maxHeartbeats 4000000 in
theorem rvalue_ok (base rb : Nat) (s : ByteArray) (hs : s.size ≤ 1073741824) (f : Nat) (hP : PartC base rb s f) (out : List Nd) (l : List UInt8) (key : ByteArray) (deep : Nat) (w : World) (h : RS base rb s out (.ok l) w) (ho : out.length ≤ 4000) (hf : 2 * (skipB l).length + 2 ≤ f + 1) (hd : deep ≤ 64) :
    Calls Tryz.prog 26 #[.pointer (some ⟨rb, 0, none⟩), .string key, .int .i64 (deep : Int)] w fun x w' => x = .returned (.tuple #[]) ∧ RV base rb s out (valX (f + 1) key out.length deep (.ok l)) w' ∧ RKeep base rb w w' := by
  have HS := hide h
  have HP := hide hP
  have CB := hide (rblanks_run base rb s out _ w h hs)
  obtain ⟨VX, hVX⟩ : ∃ VX, Hid (valX (f + 1) key out.length deep (.ok l) = VX) := ⟨_, hide rfl⟩
  have HV := hide (show VX = match pv (f + 1) out.length deep (skipB l) with | .error b => .error b | .ok (j, r) => .ok ((j.rekey key).flat, r) from hVX.out.symm)
  rw [hVX.out]
  have HFU := hide hf
  obtain ⟨l', hl'⟩ : ∃ l', Hid (skipB l = l') := ⟨_, hide rfl⟩
  have hbX := hide (show blanksX (.ok l) = .ok l' by rw [← hl'.out]; rfl)
  rw [hl'.out] at HV HFU
  rw [hbX.out] at CB
  clear h hP hf hVX
  go_enter Tryz.func26, Tryz.ntmps26
  go_wp2_with fail
  refine CB.out.mono ?_
  rintro x w1 ⟨rfl, s1, b1⟩
  have S1 := hide s1
  have K1 := hide (RKeep.ofBel b1 HS.out)
  obtain ⟨n, hA, hR⟩ := id s1
  have HA := hide hA
  have hAn := hA.len
  obtain ⟨ov, ⟨x0, x1, _, _, x4⟩, _, _⟩ := hR.cells
  have y0 : ∀ p : Later w1, p.world.cell? ⟨rb, 0, none⟩ = some (.string s) := fun p => p.old.cell x0
  have y1 : ∀ p : Later w1, p.world.cell? ⟨rb, 1, none⟩ = some (.int .i64 (n : Int)) := fun p => p.old.cell x1
  have FAIL := hide (fun (k : Int) (hk : k ≠ 0) (w2 : World) (o2 : Old w1 w2) => rdfail_run base rb s out (.ok l') w2 (S1.out.old o2) (n : Int) k l' hk (fun _ _ => by have := HA.out.len; omega) (by have := HA.out.len; omega))
  have DONE := hide (fun (k : Int) (w2 w3 : World) (o2 : Old w1 w2) (hv : VX = .error (l', k)) (s3 : RS base rb s out (failX l' k (.ok l')) w3) (b3 : Bel base rb w2 w3) => show RV base rb s out VX w3 ∧ RKeep base rb w w3 from by
    rw [hv]
    exact ⟨⟨out, Nat.le_refl _, ho, s3⟩, (K1.out.trans (RKeep.ofOld o2 S1.out)).trans (RKeep.ofBel b3 (S1.out.old o2))⟩)
  clear s1 b1 hR hA CB
  cases l' with
  | nil =>
    have hq : (s.size : Int) ≤ (n : Int) := by simp at hAn; omega
    have hqn : decide (s.size ≤ n) = true := decide_eq_true (by simp at hAn; omega)
    have HV2 := hide (show VX = .error ([], 70) by rw [HV.out]; simp only [pv])
    clear hAn HV
    go_wp2_with fail
    refine region_later (by kernel_rfl) (by kernel_rfl) ?_
    repeat (go_big_quiet_step (fail))
    refine wpQuiet_nil ?_
    rintro w2 ⟨⟨_, o2⟩, rfl⟩
    have z1 := o2.cell x1
    have O2 := hide o2
    have CF := hide (FAIL.out 70 (by decide) w2 o2)
    clear o2 y0 y1 FAIL
    go_wp2_with fail
    refine CF.out.mono ?_
    rintro x w3 ⟨rfl, s3, b3⟩
    have DN := hide (DONE.out 70 w2 w3 O2.out HV2.out s3 b3)
    clear s3 b3 DONE
    go_wp2_with fail
    refine bodyPost_ret (results_none rfl _ _ _) rfl ?_
    exact ⟨rfl, DN.out⟩
  | cons c r =>
    obtain ⟨b1, b2, b3⟩ := byte_at HA.out.rest
    have bx : s[n] = c := by rw [get_at s b1, b2]
    have hq : ¬ (s.size : Int) ≤ (n : Int) := by omega
    have hqn : decide (s.size ≤ n) = false := decide_eq_false (by omega)
    have hq2 : (n : Int) < (s.size : Int) := by omega
    have HPV := hide (show pv (f + 1) out.length deep (c :: r) = if begB c = false then .error (c :: r, 70) else if 4000 ≤ out.length then .error (c :: r, 5) else if 64 ≤ deep then .error (c :: r, 72)
      else if c = 91 ∨ c = 123 then (match endV (c == 123) r with
        | (true, r1) => .ok (.mk ⟨kindOf (c == 123), none_, 0, none_⟩ [], r1)
        | (false, r1) => match pp f (c == 123) (out.length + 1) (deep + 1) [] r1 with
          | .error b => .error b
          | .ok (js, r2) => .ok (.mk ⟨kindOf (c == 123), none_, 0, none_⟩ js, r2))
      else leafV c (c :: r) by first | (rw [pv]; done) | (rw [pv]; rfl))
    have CG := fun (p : Later w1) => (rbeg_run c p.world).mono fun e w' (h : e = .returned (.bool (begB c)) ∧ w' = p.world) => (show e = .returned (.bool (begB c)) ∧ Old p.world w' from ⟨h.1, by rw [h.2]; exact Old.refl _⟩)
    clear b2 b3 hAn
    cases hbg : begB c with
    | false =>
      have HV2 := hide (show VX = .error (c :: r, 70) by rw [HV.out, HPV.out, if_pos hbg])
      rw [hbg] at CG
      have CG2 := hide CG
      clear HV CG hbg
      go_wp2_with fail
      refine region_later (by kernel_rfl) (by kernel_rfl) ?_
      repeat (go_big_quiet_step ((go_at_call 40; exact Later.call (CG2.out _))))
      refine wpQuiet_nil ?_
      rintro w2 ⟨⟨_, o2⟩, rfl⟩
      have z1 := o2.cell x1
      have O2 := hide o2
      have CF := hide (FAIL.out 70 (by decide) w2 o2)
      clear o2 y0 y1 FAIL
      go_wp2_with fail
      refine CF.out.mono ?_
      rintro x w3 ⟨rfl, s3, b3⟩
      have DN := hide (DONE.out 70 w2 w3 O2.out HV2.out s3 b3)
      clear s3 b3 DONE
      go_wp2_with fail
      refine bodyPost_ret (results_none rfl _ _ _) rfl ?_
      exact ⟨rfl, DN.out⟩
    | true =>
      rw [hbg] at CG
      have CG2 := hide CG
      have HBG := hide hbg
      clear CG hbg
      go_wp2_with fail
      refine region_later (by kernel_rfl) (by kernel_rfl) ?_
      repeat (go_big_quiet_step ((go_at_call 40; exact Later.call (CG2.out _))))
      refine wpQuiet_nil ?_
      rintro w2 ⟨⟨_, o2⟩, rfl⟩
      have O2 := hide o2
      have S2 := hide (S1.out.old o2)
      have K2 := hide (K1.out.trans (RKeep.ofOld o2 S1.out))
      obtain ⟨n', hA2, hR2⟩ := S2.out
      obtain rfl : n' = n := by have a := hA2.len; have b := HA.out.len; omega
      obtain ⟨ov2, ⟨z0, z1, z2, _, z4⟩, zf, zo⟩ := hR2.cells
      obtain ⟨A2, c2, rfl, hc1, hc2, _⟩ := SlT.of_own zo
      have HR2 := hide hR2
      have hlen := hide ho
      obtain ⟨N, hN⟩ : ∃ N, Hid (out.length = N) := ⟨_, hide rfl⟩
      rw [hN.out] at ho z2 hc1
      unfold maxLen at hc2
      clear o2 y0 y1 x0 x1 x4 hA2 hR2 zo
      by_cases hN4 : 4000 ≤ N
      · have HV2 := hide (show VX = .error (c :: r, 5) by rw [HV.out, HPV.out, if_neg (by rw [HBG.out]; decide), if_pos (by rw [hN.out]; exact hN4)])
        have hNi : (4000 : Int) ≤ (N : Int) := by omega
        have CF := hide (FAIL.out 5 (by decide) w2 O2.out)
        clear HV FAIL hN4
        go_wp2_with fail
        refine CF.out.mono ?_
        rintro x w3 ⟨rfl, s3, b3⟩
        have DN := hide (DONE.out 5 w2 w3 O2.out HV2.out s3 b3)
        clear s3 b3 DONE
        go_wp2_with fail
        refine bodyPost_ret (results_none rfl _ _ _) rfl ?_
        exact ⟨rfl, DN.out⟩
      have hNi : ¬ (4000 : Int) ≤ (N : Int) := by omega
      by_cases hd64 : 64 ≤ deep
      · have HV2 := hide (show VX = .error (c :: r, 72) by rw [HV.out, HPV.out, if_neg (by rw [HBG.out]; decide), if_neg (by rw [hN.out]; exact hN4), if_pos hd64])
        have hDi : (64 : Int) ≤ (deep : Int) := by omega
        have CF := hide (FAIL.out 72 (by decide) w2 O2.out)
        clear HV FAIL hN4 hd64
        go_wp2_with fail
        refine CF.out.mono ?_
        rintro x w3 ⟨rfl, s3, b3⟩
        have DN := hide (DONE.out 72 w2 w3 O2.out HV2.out s3 b3)
        clear s3 b3 DONE
        go_wp2_with fail
        refine bodyPost_ret (results_none rfl _ _ _) rfl ?_
        exact ⟨rfl, DN.out⟩
      have hDi : ¬ (64 : Int) ≤ (deep : Int) := by omega
      have HV2 := hide (show VX = match (if c = 91 ∨ c = 123 then (match endV (c == 123) r with
        | (true, r1) => .ok (.mk ⟨kindOf (c == 123), none_, 0, none_⟩ [], r1)
        | (false, r1) => match pp f (c == 123) (out.length + 1) (deep + 1) [] r1 with
          | .error b => .error b
          | .ok (js, r2) => .ok (.mk ⟨kindOf (c == 123), none_, 0, none_⟩ js, r2))
      else leafV c (c :: r)) with | .error b => .error b | .ok (j, r) => .ok ((j.rekey key).flat, r) by rw [HV.out, HPV.out, if_neg (by rw [HBG.out]; decide), if_neg (by rw [hN.out]; exact hN4), if_neg hd64])
      clear HV FAIL DONE HPV
      go_upto_region 10 with fail
      obtain ⟨gx, hgx⟩ : ∃ gx, w2.heap.size = gx := ⟨_, rfl⟩
      have LW := hide (show ∀ w3, w3 = w2.alloc (.cells #[.int .i64 0, .string key, .int .i64 0, .string ⟨#[]⟩, .int .i64 0] 33) → RR base rb s n' out 0 0 w3 ∧ RKeep base rb w w3 ∧ w3.heap[gx]? = some (.cells #[.int .i64 0, .string key, .int .i64 0, .string ⟨#[]⟩, .int .i64 0] 33 (0, 0)) ∧ w3.cell? ⟨rb, 2, none⟩ = some (.slice A2 N c2) ∧ gx ≠ rb ∧ some gx ≠ (Value.slice A2 N c2).ownBlock ∧ w.heap.size ≤ gx from fun w3 hw => by
        subst hw
        have o : Old w2 (w2.alloc (.cells #[.int .i64 0, .string key, .int .i64 0, .string ⟨#[]⟩, .int .i64 0] 33)) := Old.alloc (Old.refl _) _
        have hlt := HR2.out.lt
        refine ⟨HR2.out.old o, K2.out.trans (RKeep.ofOld o S2.out), by rw [← hgx]; exact heap_alloc_new w2 _, o.cell z2, by omega, ?_, by rw [← hgx]; exact K2.out.size⟩
        intro e2
        have h1 := HR2.out.ov.2
        rw [ovAt_cell z2] at h1
        have := (h1.lt gx e2.symm).2
        omega)
      rw [hgx]
      generalize hw3 : w2.alloc (.cells #[.int .i64 0, .string key, .int .i64 0, .string ⟨#[]⟩, .int .i64 0] 33) = w3
      obtain ⟨r3, k3, h3, c3, hgr, hgo, hgw⟩ := LW.out _ hw3.symm
      have R3 := hide r3
      have K3 := hide k3
      have H3 := hide h3
      have HGO := hide hgo
      have hb3 := hide r3.bw
      have hlen4 : out.length + 1 ≤ 4194304 := by rw [hN.out]; omega
      clear LW hw3 r3 k3 hgo z0 z1 z2 z4 zf hgx
      go_cut [] (fun wc => Hid (RR base rb s n' (out ++ [⟨0, key, 0, none_, 0⟩]) 0 0 wc ∧ RKeep base rb w wc ∧ wc.heap[gx]? = some (.cells #[.int .i64 0, .string key, .int .i64 0, .string ⟨#[]⟩, .int .i64 0] 33 (0, 0)) ∧ some gx ≠ (ovAt rb wc).ownBlock))
      case first =>
        have c3a : ∀ o, (w3.alloc o).cell? ⟨rb, 2, none⟩ = some (.slice A2 N c2) := fun o => (Old.alloc (Old.refl _) o).cell c3
        have d0 : w3.cell? ⟨gx, 0, none⟩ = some (.int .i64 0) := (cell_of_heap h3).trans rfl
        have d1 : w3.cell? ⟨gx, 1, none⟩ = some (.string key) := (cell_of_heap h3).trans rfl
        have d2 : w3.cell? ⟨gx, 2, none⟩ = some (.int .i64 0) := (cell_of_heap h3).trans rfl
        have d3 : w3.cell? ⟨gx, 3, none⟩ = some (.string ⟨#[]⟩) := (cell_of_heap h3).trans rfl
        have d4 : w3.cell? ⟨gx, 4, none⟩ = some (.int .i64 0) := (cell_of_heap h3).trans rfl
        have OW := hide (show NodesOwn base w3 (.slice A2 N c2) out by
          have := R3.out.ov.2
          rw [ovAt_cell c3] at this
          exact this)
        clear h3
        go_region_law (first
          | (refine step_push_rd _ _ _ rfl base _ out rfl (by first | exact own_old OW.out (Old.drew (Old.alloc (Old.refl _) _)) | exact own_old OW.out (Old.alloc (Old.drew (Old.refl _)) _) | exact own_old OW.out (Old.alloc (Old.refl _) _)) _ _ ⟨0, key, 0, none_, 0⟩ rfl (by first | exact nd_zero key _ _ rfl | exact (fun j u hu => (Old.drew (Old.refl _)).cell (nd_zero key _ _ rfl j u hu))) hlen4 (by first | exact hb3.out | (simp; have := hb3.out; omega)) ?_
             intro v9 w9 own9 grown9 where9
             obtain ⟨A9, c9, rfl, a9, b9, _⟩ := SlT.of_own own9
             have m9 := push_x R3.out c3 (by first | exact Old.drew (Old.alloc (Old.refl _) _) | exact Old.alloc (Old.drew (Old.refl _)) _ | exact Old.alloc (Old.refl _) _) grown9 own9 where9 H3.out hgr HGO.out
             obtain ⟨m9, cz9, fz9⟩ := m9
             rw [show (out ++ [(⟨0, key, 0, none_, 0⟩ : Nd)]).length = out.length + 1 by simp] at m9
             have M9 := hide m9
             clear own9 grown9 where9 m9))
        all_goals
          go_wp2_with fail
          go_meet
          exact hide ⟨M9.out.1, K3.out.trans M9.out.2.1, M9.out.2.2⟩
      case rest =>
        have H4 := hcut
        have LEN1 := hide (show N + 1 ≤ (out ++ [(⟨0, key, 0, none_, 0⟩ : Nd)]).length ∧ (out ++ [(⟨0, key, 0, none_, 0⟩ : Nd)]).length ≤ 4000 by rw [List.length_append, hN.out, List.length_singleton]; omega)
        have HBW := hide (show base ≤ gx from Nat.le_trans HS.out.bw hgw)
        clear S2 K2 HR2 R3 K3 H3 HGO c3 hb3 O2 S1 K1 h3
        obtain ⟨wX, hwX⟩ : ∃ x, x = wc := ⟨_, rfl⟩
        subst hwX
        obtain ⟨r4, k4, h4, g4⟩ := H4.out
        obtain ⟨_, ⟨x0, x1, _, _, x4⟩, _, _⟩ := r4.cells
        have X4 := hide (show XS base rb gx s w (out ++ [⟨0, key, 0, none_, 0⟩]) (.ok (c :: r)) #[.int .i64 0, .string key, .int .i64 0, .string ⟨#[]⟩, .int .i64 0] wX from ⟨⟨n', HA.out, r4⟩, k4, h4, hgr, g4, hgw, HBW.out⟩)
        have y0 : ∀ p : Later wX, p.world.cell? ⟨rb, 0, none⟩ = some (.string s) := fun p => p.old.cell x0
        have y1 : ∀ p : Later wX, p.world.cell? ⟨rb, 1, none⟩ = some (.int .i64 (n' : Int)) := fun p => p.old.cell x1
        clear r4 k4 h4 g4 hcut H4
        go_upto_region 11 with fail
        refine region_later (by kernel_rfl) (by kernel_rfl) ?_
        repeat (go_big_quiet_step (fail))
        refine wpQuiet_nil ?_
        rintro w5 ⟨⟨_, o5⟩, rfl⟩
        have X5 := hide (X4.out.old o5)
        clear y0 y1 x0 x1 x4 o5 X4 HA bx hqn hq2 hq b1
        go_upto_block 0 with fail
        go_cut [] (fun wc => ∃ (K n5 : Int) (s5 : ByteArray) (out2 : List Nd) (X5 : RX), Hid (XS base rb gx s w out2 X5 #[.int .i64 K, .string key, .int .i64 n5, .string s5, .int .i64 0] wc) ∧ Hid (Spec5 key out K n5 s5 out2 X5 VX) ∧ Hid (N + 1 ≤ out2.length ∧ out2.length ≤ 4000))
        case first =>
          by_cases h110 : c = 110
          · subst h110
            as_aux_lemma =>
              have CW := hide (rword_run base rb s _ _ w5 X5.out.rs ⟨#[110, 117, 108, 108]⟩ 1 hs (by decide))
              have SP := hide (show Spec5 key out 1 0 none_ (out ++ [⟨0, key, 0, none_, 0⟩]) (wordX [110, 117, 108, 108] (.ok (110 :: r))) VX by
                have h := HV2.out
                rw [if_neg (by decide)] at h
                unfold leafV at h
                rw [if_pos rfl] at h
                rw [wordX_V]
                cases hw : wordV [110, 117, 108, 108] (110 :: r) with
                | error b =>
                  rw [hw] at h
                  exact h
                | ok r5 =>
                  rw [hw] at h
                  exact ⟨[], rfl, by rw [h]; rfl⟩)
              clear HV2 HP
              go_wp2_with fail
              refine CW.out.mono ?_
              rintro x w6 ⟨rfl, s6, b6⟩
              have X6 := X5.out.bel b6 s6
              have d0 := X6.cell 0
              have f0 := X6.free 0
              have X7 := hide (X6.set 0 (.int .i64 1))
              clear s6 b6 X6
              go_wp2_with fail
              go_meet
              exact ⟨1, 0, none_, _, _, X7, SP, LEN1⟩
          by_cases h102 : c = 102
          · subst h102
            as_aux_lemma =>
              have CW := hide (rword_run base rb s _ _ w5 X5.out.rs ⟨#[102, 97, 108, 115, 101]⟩ 2 hs (by decide))
              have SP := hide (show Spec5 key out 2 0 none_ (out ++ [⟨0, key, 0, none_, 0⟩]) (wordX [102, 97, 108, 115, 101] (.ok (102 :: r))) VX by
                have h := HV2.out
                rw [if_neg (by decide)] at h
                unfold leafV at h
                rw [if_neg (by decide), if_pos rfl] at h
                rw [wordX_V]
                cases hw : wordV [102, 97, 108, 115, 101] (102 :: r) with
                | error b =>
                  rw [hw] at h
                  exact h
                | ok r5 =>
                  rw [hw] at h
                  exact ⟨[], rfl, by rw [h]; rfl⟩)
              clear HV2 HP
              go_wp2_with fail
              refine CW.out.mono ?_
              rintro x w6 ⟨rfl, s6, b6⟩
              have X6 := X5.out.bel b6 s6
              have d0 := X6.cell 0
              have f0 := X6.free 0
              have X7 := hide (X6.set 0 (.int .i64 2))
              clear s6 b6 X6
              go_wp2_with fail
              go_meet
              exact ⟨2, 0, none_, _, _, X7, SP, LEN1⟩
          by_cases h116 : c = 116
          · subst h116
            as_aux_lemma =>
              have CW := hide (rword_run base rb s _ _ w5 X5.out.rs ⟨#[116, 114, 117, 101]⟩ 3 hs (by decide))
              have SP := hide (show Spec5 key out 3 0 none_ (out ++ [⟨0, key, 0, none_, 0⟩]) (wordX [116, 114, 117, 101] (.ok (116 :: r))) VX by
                have h := HV2.out
                rw [if_neg (by decide)] at h
                unfold leafV at h
                rw [if_neg (by decide), if_neg (by decide), if_pos rfl] at h
                rw [wordX_V]
                cases hw : wordV [116, 114, 117, 101] (116 :: r) with
                | error b =>
                  rw [hw] at h
                  exact h
                | ok r5 =>
                  rw [hw] at h
                  exact ⟨[], rfl, by rw [h]; rfl⟩)
              clear HV2 HP
              go_wp2_with fail
              refine CW.out.mono ?_
              rintro x w6 ⟨rfl, s6, b6⟩
              have X6 := X5.out.bel b6 s6
              have d0 := X6.cell 0
              have f0 := X6.free 0
              have X7 := hide (X6.set 0 (.int .i64 3))
              clear s6 b6 X6
              go_wp2_with fail
              go_meet
              exact ⟨3, 0, none_, _, _, X7, SP, LEN1⟩
          by_cases h34 : c = 34
          · subst h34
            as_aux_lemma =>
              have X6 := hide (X5.out.set 0 (.int .i64 5))
              have d0 := X5.out.cell 0
              have f0 := X5.out.free 0
              have SP := hide (show Spec5 key out 5 0 (bT (litT (.ok (34 :: r)))) (out ++ [⟨0, key, 0, none_, 0⟩]) (litX (.ok (34 :: r))) VX by
                have h := HV2.out
                rw [if_neg (by decide)] at h
                unfold leafV at h
                rw [if_neg (by decide), if_neg (by decide), if_neg (by decide), if_pos rfl] at h
                cases hw : litV (34 :: r) with
                | error b =>
                  rw [hw] at h
                  simp only [litX, hw]
                  exact h
                | ok y =>
                  obtain ⟨t5, r5⟩ := y
                  rw [hw] at h
                  simp only [litX, litT, hw]
                  exact ⟨[], rfl, by rw [h]; rfl⟩)
              have LW := hide (fun w6 (hw : w5.setCell ⟨gx, 0, none⟩ (.int .i64 5) = w6) => show XS base rb gx s w (out ++ [⟨0, key, 0, none_, 0⟩]) (.ok (34 :: r)) #[.int .i64 5, .string key, .int .i64 0, .string ⟨#[]⟩, .int .i64 0] w6 from by
                rw [← hw]
                exact X6.out)
              clear HV2 HP X6
              go_upto_region 22 with fail
              generalize hw6 : w5.setCell ⟨gx, 0, none⟩ (.int .i64 5) = w6
              have X7 := hide (LW.out _ hw6)
              have CL := hide (rlit_run base rb s _ _ w6 X7.out.rs hs)
              clear LW hw6 d0 f0
              go_wp2_with fail
              refine CL.out.mono ?_
              rintro x w7 ⟨rfl, s7, b7⟩
              have X8 := X7.out.bel b7 s7
              have d3 := X8.cell 3
              have f3 := X8.free 3
              have X9 := hide (X8.set 3 (.string (bT (litT (.ok (34 :: r))))))
              clear s7 b7 X8
              go_wp2_with fail
              go_meet
              exact ⟨5, 0, _, _, _, X9, SP, LEN1⟩
          by_cases h91 : c = 91
          · subst h91
            as_aux_lemma =>
              have X6 := hide (X5.out.set 0 (.int .i64 6))
              have d0 := X5.out.cell 0
              have f0 := X5.out.free 0
              obtain ⟨PX, hPX⟩ : ∃ PX, Hid (partX f false (out ++ [(⟨0, key, 0, none_, 0⟩ : Nd)]).length deep r = PX) := ⟨_, hide rfl⟩
              have SP := hide (show (∀ b, PX = .error b → VX = .error b) ∧ ∀ t5 r5, PX = .ok (t5, r5) → VX = .ok (⟨6, key, 0, none_, (t5.length : Int) + 1⟩ :: t5, r5) by
                have h := HV2.out
                rw [if_pos (by decide)] at h
                have e0 := hPX.out
                unfold partX at e0
                rw [List.length_append, List.length_singleton] at e0
                rw [show ((91 : UInt8) == 123) = false by decide] at h
                cases he : endV false r with
                | mk a r1 =>
                  rw [he] at h e0
                  cases a with
                  | true =>
                    simp only at h e0
                    refine ⟨fun b hb => ?_, fun t5 r5 hb => ?_⟩
                    · rw [← e0] at hb; cases hb
                    · rw [← e0] at hb
                      injection hb with hb
                      injection hb with h1 h2
                      subst h1 h2
                      rw [h]
                      rfl
                  | false =>
                    simp only at h e0
                    cases hp : pp f false (out.length + 1) (deep + 1) [] r1 with
                    | error b =>
                      rw [hp] at h e0
                      simp only at h e0
                      refine ⟨fun b' hb => ?_, fun t5 r5 hb => ?_⟩
                      · rw [← e0] at hb; injection hb with hb; subst hb; exact h
                      · rw [← e0] at hb; cases hb
                    | ok y =>
                      obtain ⟨js, r2⟩ := y
                      rw [hp] at h e0
                      simp only at h e0
                      refine ⟨fun b' hb => ?_, fun t5 r5 hb => ?_⟩
                      · rw [← e0] at hb; cases hb
                      · rw [← e0] at hb
                        injection hb with hb
                        injection hb with h1 h2
                        subst h1 h2
                        rw [h]
                        simp only [J.rekey, flat_mk, kindOf]
                        rfl)
              have LW := hide (fun w6 (hw : w5.setCell ⟨gx, 0, none⟩ (.int .i64 6) = w6) => show XS base rb gx s w (out ++ [⟨0, key, 0, none_, 0⟩]) (.ok (91 :: r)) #[.int .i64 6, .string key, .int .i64 0, .string ⟨#[]⟩, .int .i64 0] w6 from by
                rw [← hw]
                exact X6.out)
              clear HV2 X6
              go_upto_region 25 with fail
              generalize hw6 : w5.setCell ⟨gx, 0, none⟩ (.int .i64 6) = w6
              have X7 := hide (LW.out _ hw6)
              have CP := hide ((HP.out (out ++ [⟨0, key, 0, none_, 0⟩]) false deep 91 r w6 X7.out.rs LEN1.out.2 (by have := HFU.out; simp only [List.length_cons] at this; omega) (by omega)).mono fun x w' h => (show x = .returned (.tuple #[]) ∧ RV base rb s (out ++ [⟨0, key, 0, none_, 0⟩]) PX w' ∧ RKeep base rb w6 w' from ⟨h.1, by rw [← hPX.out]; exact h.2.1, h.2.2⟩))
              clear LW hw6 d0 f0 hPX
              go_wp2_with fail
              refine CP.out.mono ?_
              rintro x w7 ⟨rfl, v7, k7⟩
              have FIN := hide (show ∃ (K n5 : Int) (s5 : ByteArray) (out2 : List Nd) (X5 : RX), Hid (XS base rb gx s w out2 X5 #[.int .i64 K, .string key, .int .i64 n5, .string s5, .int .i64 0] w7) ∧ Hid (Spec5 key out K n5 s5 out2 X5 VX) ∧ Hid (N + 1 ≤ out2.length ∧ out2.length ≤ 4000) from by
                cases PX with
                | error b =>
                  obtain ⟨out', g1, g2, g3⟩ := v7
                  exact ⟨6, 0, none_, out', .error b, hide (X7.out.next k7 g3), hide (SP.out.1 b rfl), hide ⟨Nat.le_trans LEN1.out.1 g1, g2⟩⟩
                | ok y =>
                  obtain ⟨t5, r5⟩ := y
                  obtain ⟨g1, g2⟩ := v7
                  rw [List.append_assoc] at g1 g2
                  exact ⟨6, 0, none_, _, .ok r5, hide (X7.out.next k7 g2), hide ⟨t5, rfl, SP.out.2 t5 r5 rfl⟩, hide ⟨by have := LEN1.out.1; simp only [List.length_append, List.length_cons] at this ⊢; omega, g1⟩⟩)
              clear v7 k7
              go_wp2_with fail
              go_meet
              exact FIN.out
          by_cases h123 : c = 123
          · subst h123
            as_aux_lemma =>
              have X6 := hide (X5.out.set 0 (.int .i64 7))
              have d0 := X5.out.cell 0
              have f0 := X5.out.free 0
              obtain ⟨PX, hPX⟩ : ∃ PX, Hid (partX f true (out ++ [(⟨0, key, 0, none_, 0⟩ : Nd)]).length deep r = PX) := ⟨_, hide rfl⟩
              have SP := hide (show (∀ b, PX = .error b → VX = .error b) ∧ ∀ t5 r5, PX = .ok (t5, r5) → VX = .ok (⟨7, key, 0, none_, (t5.length : Int) + 1⟩ :: t5, r5) by
                have h := HV2.out
                rw [if_pos (by decide)] at h
                have e0 := hPX.out
                unfold partX at e0
                rw [List.length_append, List.length_singleton] at e0
                rw [show ((123 : UInt8) == 123) = true by decide] at h
                cases he : endV true r with
                | mk a r1 =>
                  rw [he] at h e0
                  cases a with
                  | true =>
                    simp only at h e0
                    refine ⟨fun b hb => ?_, fun t5 r5 hb => ?_⟩
                    · rw [← e0] at hb; cases hb
                    · rw [← e0] at hb
                      injection hb with hb
                      injection hb with h1 h2
                      subst h1 h2
                      rw [h]
                      rfl
                  | false =>
                    simp only at h e0
                    cases hp : pp f true (out.length + 1) (deep + 1) [] r1 with
                    | error b =>
                      rw [hp] at h e0
                      simp only at h e0
                      refine ⟨fun b' hb => ?_, fun t5 r5 hb => ?_⟩
                      · rw [← e0] at hb; injection hb with hb; subst hb; exact h
                      · rw [← e0] at hb; cases hb
                    | ok y =>
                      obtain ⟨js, r2⟩ := y
                      rw [hp] at h e0
                      simp only at h e0
                      refine ⟨fun b' hb => ?_, fun t5 r5 hb => ?_⟩
                      · rw [← e0] at hb; cases hb
                      · rw [← e0] at hb
                        injection hb with hb
                        injection hb with h1 h2
                        subst h1 h2
                        rw [h]
                        simp only [J.rekey, flat_mk, kindOf]
                        rfl)
              have LW := hide (fun w6 (hw : w5.setCell ⟨gx, 0, none⟩ (.int .i64 7) = w6) => show XS base rb gx s w (out ++ [⟨0, key, 0, none_, 0⟩]) (.ok (123 :: r)) #[.int .i64 7, .string key, .int .i64 0, .string ⟨#[]⟩, .int .i64 0] w6 from by
                rw [← hw]
                exact X6.out)
              clear HV2 X6
              go_upto_region 28 with fail
              generalize hw6 : w5.setCell ⟨gx, 0, none⟩ (.int .i64 7) = w6
              have X7 := hide (LW.out _ hw6)
              have CP := hide ((HP.out (out ++ [⟨0, key, 0, none_, 0⟩]) true deep 123 r w6 X7.out.rs LEN1.out.2 (by have := HFU.out; simp only [List.length_cons] at this; omega) (by omega)).mono fun x w' h => (show x = .returned (.tuple #[]) ∧ RV base rb s (out ++ [⟨0, key, 0, none_, 0⟩]) PX w' ∧ RKeep base rb w6 w' from ⟨h.1, by rw [← hPX.out]; exact h.2.1, h.2.2⟩))
              clear LW hw6 d0 f0 hPX
              go_wp2_with fail
              refine CP.out.mono ?_
              rintro x w7 ⟨rfl, v7, k7⟩
              have FIN := hide (show ∃ (K n5 : Int) (s5 : ByteArray) (out2 : List Nd) (X5 : RX), Hid (XS base rb gx s w out2 X5 #[.int .i64 K, .string key, .int .i64 n5, .string s5, .int .i64 0] w7) ∧ Hid (Spec5 key out K n5 s5 out2 X5 VX) ∧ Hid (N + 1 ≤ out2.length ∧ out2.length ≤ 4000) from by
                cases PX with
                | error b =>
                  obtain ⟨out', g1, g2, g3⟩ := v7
                  exact ⟨7, 0, none_, out', .error b, hide (X7.out.next k7 g3), hide (SP.out.1 b rfl), hide ⟨Nat.le_trans LEN1.out.1 g1, g2⟩⟩
                | ok y =>
                  obtain ⟨t5, r5⟩ := y
                  obtain ⟨g1, g2⟩ := v7
                  rw [List.append_assoc] at g1 g2
                  exact ⟨7, 0, none_, _, .ok r5, hide (X7.out.next k7 g2), hide ⟨t5, rfl, SP.out.2 t5 r5 rfl⟩, hide ⟨by have := LEN1.out.1; simp only [List.length_append, List.length_cons] at this ⊢; omega, g1⟩⟩)
              clear v7 k7
              go_wp2_with fail
              go_meet
              exact FIN.out
          as_aux_lemma =>
            have X6 := hide (X5.out.set 0 (.int .i64 4))
            have d0 := X5.out.cell 0
            have f0 := X5.out.free 0
            have SP := hide (show Spec5 key out 4 (numR (.ok (c :: r))) none_ (out ++ [⟨0, key, 0, none_, 0⟩]) (numX (.ok (c :: r))) VX by
              have h := HV2.out
              rw [if_neg (by rintro (e | e); exact h91 e; exact h123 e)] at h
              unfold leafV at h
              rw [if_neg h110, if_neg h102, if_neg h116, if_neg h34] at h
              cases hw : numV (c :: r) with
              | error b =>
                rw [hw] at h
                simp only [numX, hw]
                exact h
              | ok y =>
                obtain ⟨t5, r5⟩ := y
                rw [hw] at h
                simp only [numX, numR, hw]
                exact ⟨[], rfl, by rw [h]; rfl⟩)
            have LW := hide (fun w6 (hw : w5.setCell ⟨gx, 0, none⟩ (.int .i64 4) = w6) => show XS base rb gx s w (out ++ [⟨0, key, 0, none_, 0⟩]) (.ok (c :: r)) #[.int .i64 4, .string key, .int .i64 0, .string ⟨#[]⟩, .int .i64 0] w6 from by
              rw [← hw]
              exact X6.out)
            have hn : ∀ k : UInt8, c ≠ k → ((c.toNat : Int) == (k.toNat : Int)) = false := fun k hk => by
              have : c.toNat ≠ k.toNat := fun e => hk (UInt8.toNat_inj.1 e)
              simp; omega
            have n1 : ((c.toNat : Int) == 110) = false := hn 110 h110
            have n2 : ((c.toNat : Int) == 102) = false := hn 102 h102
            have n3 : ((c.toNat : Int) == 116) = false := hn 116 h116
            have n4 : ((c.toNat : Int) == 34) = false := hn 34 h34
            have n5 : ((c.toNat : Int) == 91) = false := hn 91 h91
            have n6 : ((c.toNat : Int) == 123) = false := hn 123 h123
            clear HV2 HP X6 hn h110 h102 h116 h34 h91 h123
            go_upto_region 13 with fail
            generalize hw6 : w5.setCell ⟨gx, 0, none⟩ (.int .i64 4) = w6
            have X7 := hide (LW.out _ hw6)
            have CL := hide (rnum_run base rb s _ _ w6 X7.out.rs hs)
            clear LW hw6 d0 f0 n1 n2 n3 n4 n5 n6
            go_wp2_with fail
            refine CL.out.mono ?_
            rintro x w7 ⟨rfl, s7, b7⟩
            have X8 := X7.out.bel b7 s7
            have d3 := X8.cell 2
            have f3 := X8.free 2
            have X9 := hide (X8.set 2 (.int .i64 (numR (.ok (c :: r)))))
            clear s7 b7 X8
            go_wp2_with fail
            go_meet
            exact ⟨4, _, none_, _, _, X9, SP, LEN1⟩
        case rest =>
          obtain ⟨K, n5, s5, out2, X6, XX, SP, LN⟩ := hcut
          clear X5 HV2 HP LEN1
          have hNM : N < out2.length := by have := LN.out.1; omega
          obtain ⟨g, cap, z2, h1, h2, _, _, _, _⟩ := XX.out.put (K := K) (n5 := n5) (sz := 0) (key := key) (s5 := s5) hNM
          obtain ⟨M, hM⟩ : ∃ M, Hid (out2.length = M) := ⟨_, hide rfl⟩
          rw [hM.out] at z2 h1 hNM
          unfold maxLen at h2
          have hNMi : (N : Int) ≤ (M : Int) := by omega
          have hM4 : M ≤ 4000 := by have := LN.out.2; rw [hM.out] at this; exact this
          have d4 := XX.out.cell 4
          have f4 := XX.out.free 4
          have LW := hide (fun w7 (hw : wc.setCell ⟨gx, 4, none⟩ (.int .i64 ((M : Int) - (N : Int))) = w7) => show XS base rb gx s w out2 X6 #[.int .i64 K, .string key, .int .i64 n5, .string s5, .int .i64 ((M : Int) - (N : Int))] w7 from by
            rw [← hw]
            exact XX.out.set 4 (.int .i64 ((M : Int) - (N : Int))))
          go_upto_region 30 with fail
          generalize hw7 : wc.setCell ⟨gx, 4, none⟩ (.int .i64 ((M : Int) - (N : Int))) = w7
          have X7 := hide (LW.out _ hw7)
          clear LW hw7 d4 f4 z2 h1 h2
          have d0 : w7.cell? ⟨gx, 0, none⟩ = some (.int .i64 K) := X7.out.cell 0
          have d1 : w7.cell? ⟨gx, 1, none⟩ = some (.string key) := X7.out.cell 1
          have d2 : w7.cell? ⟨gx, 2, none⟩ = some (.int .i64 n5) := X7.out.cell 2
          have d3 : w7.cell? ⟨gx, 3, none⟩ = some (.string s5) := X7.out.cell 3
          have d4 : w7.cell? ⟨gx, 4, none⟩ = some (.int .i64 ((M : Int) - (N : Int))) := X7.out.cell 4
          obtain ⟨g', cap', z2, h1, h2, h3, h4, hr, hk⟩ := X7.out.put (K := K) (n5 := n5) (sz := (M : Int) - (N : Int)) (key := key) (s5 := s5) (by rw [hM.out]; exact hNM)
          rw [hM.out] at z2 h1
          unfold maxLen at h2
          have HR := hide hr
          have HK := hide hk
          obtain ⟨u0, c0⟩ := h3 0 (by omega)
          obtain ⟨u1, c1⟩ := h3 1 (by omega)
          obtain ⟨u2, c2'⟩ := h3 2 (by omega)
          obtain ⟨u3, c3'⟩ := h3 3 (by omega)
          obtain ⟨u4, c4'⟩ := h3 4 (by omega)
          rw [Nat.add_zero] at c0
          have g0 := h4 (N * 5)
          have g1 := h4 (N * 5 + 1)
          have g2 := h4 (N * 5 + 2)
          have g3 := h4 (N * 5 + 3)
          have g4 := h4 (N * 5 + 4)
          have hNMj : (N : Int) < (M : Int) := by omega
          have HLN := hide LN.out
          clear hr hk h3 h4 CG2
          go_region
          all_goals
            have HF := hide (show RV base rb s out VX (((((w7.setCell ⟨g', N * 5, none⟩ (.int .i64 K)).setCell ⟨g', N * 5 + 1, none⟩ (.string key)).setCell ⟨g', N * 5 + 2, none⟩ (.int .i64 n5)).setCell ⟨g', N * 5 + 3, none⟩ (.string s5)).setCell ⟨g', N * 5 + 4, none⟩ (.int .i64 ((M : Int) - (N : Int)))).drew ∧ RKeep base rb w (((((w7.setCell ⟨g', N * 5, none⟩ (.int .i64 K)).setCell ⟨g', N * 5 + 1, none⟩ (.string key)).setCell ⟨g', N * 5 + 2, none⟩ (.int .i64 n5)).setCell ⟨g', N * 5 + 3, none⟩ (.string s5)).setCell ⟨g', N * 5 + 4, none⟩ (.int .i64 ((M : Int) - (N : Int)))).drew from by
              refine ⟨?_, HK.out.trans (RKeep.ofOld (Old.drew (Old.refl _)) HR.out)⟩
              have hr := HR.out.old (Old.drew (Old.refl _))
              have hsp := SP.out
              cases X6 with
              | error b =>
                have hsp2 : VX = .error b := hsp
                rw [hsp2]
                refine ⟨_, ?_, ?_, hr⟩
                · rw [List.length_set, hN.out]; have := HLN.out.1; omega
                · rw [List.length_set]; exact HLN.out.2
              | ok r5 =>
                obtain ⟨rest, e1, e2⟩ := hsp
                rw [e2]
                have hMr : (M : Int) - (N : Int) = (rest.length : Int) + 1 := by
                  have := hM.out
                  rw [e1, List.length_append, List.length_cons, hN.out] at this
                  omega
                have e3 : out2.set N ⟨K, key, n5, s5, (M : Int) - (N : Int)⟩ = out ++ ⟨K, key, n5, s5, (rest.length : Int) + 1⟩ :: rest := by
                  rw [e1, hMr, ← hN.out, List.set_append_right _ _ (Nat.le_refl _), Nat.sub_self]
                  rfl
                rw [e3] at hr
                refine ⟨?_, hr⟩
                have := HLN.out.2
                rw [e1] at this
                simpa using this)
            go_wp2_with fail
            go_end0
            exact ⟨rfl, HF.out⟩
end Go.Proofs.YtdlcibbbebhcoaaGreatDoor
