/- The document's Parse. -/
import Derived.Test.YtdlcibbbebhcoaaGreatDoorRrQ
import Derived.Test.YtdlcibbbebhcoaaGreatDoorRrW
import Derived.Test.YtdlcibbbebhcoaaGreatDoorJr13
/-! ### The document's Parse. -/
namespace Go.Proofs.YtdlcibbbebhcoaaGreatDoor
open Go.RowKit

theorem value_all (base rb : Nat) (s : ByteArray) (hs : s.size ≤ 1048576) : ∀ f, ValC base rb s f := by
  intro f
  induction f using Nat.strongRecOn with
  | ind f ih =>
    intro out X key deep w h ho hf hd
    cases X with
    | error b => exact rvalue_err base rb s (by omega) f out b key deep w h ho
    | ok l =>
      cases f with
      | zero => exact absurd (hf l rfl) (by omega)
      | succ f => exact rvalue_ok base rb s (by omega) f (rparts_run base rb s hs f fun g hg => ih g (by omega)) out l key deep w h ho (hf l rfl) hd
theorem rekey_self {j : J} (h : j.key = none_) : j.rekey none_ = j := by
  cases j with
  | mk hd l =>
    obtain ⟨k, ky, n, s⟩ := hd
    have : ky = none_ := h
    subst this
    rfl
/-- what the document's Parse comes to -/
def finX (l : List UInt8) (V : Except Bad (List Nd × List UInt8)) : Except (Nat × Int) (List Nd) :=
  match V with
  | .error (p, e) => .error (l.length - p.length, e)
  | .ok (t, r) => match skipB r with
    | [] => .ok t
    | c :: p => .error (l.length - (c :: p).length, 70)
theorem fin_parse (l : List UInt8) (h : l.length ≤ 1048576) : finX l (valX (fuelOf l) none_ 0 0 (.ok l)) = match parseV l with | .error x => .error x | .ok j => .ok j.flat := by
  unfold parseV valX finX
  rw [if_neg (by omega)]
  simp only
  cases hp : pv (fuelOf l) 0 0 (skipB l) with
  | error b => rfl
  | ok y =>
    obtain ⟨j, r⟩ := y
    simp only
    cases skipB r with
    | nil => simp only; rw [rekey_self (pv_key hp)]
    | cons c p => rfl
set_option maxRecDepth 100000 in
set_option maxHeartbeats 1000000 in
theorem rparse_run (s : ByteArray) (w : World) (hs : s.size ≤ 1048576) : Calls Tryz.prog 8 #[.string s] w fun e w' => JParsed w.heap.size s e w' ∧ Old w w' := by
  obtain ⟨l, hl⟩ : ∃ l, Hid (s.data.toList = l) := ⟨_, hide rfl⟩
  have hll : l.length = s.size := by rw [← hl.out, list_size]
  have FP := hide (fin_parse l (by omega))
  have hsi : ¬ (1048576 : Int) < (s.size : Int) := by omega
  have hs2 : s.size ≤ 1073741824 := by omega
  obtain ⟨rb, hrb⟩ : ∃ rb, w.heap.size = rb := ⟨_, rfl⟩
  have HRB := hide hrb
  have LW := hide (show ∀ w1, w1 = w.alloc (.cells #[.string s, .int .i64 0, .slice none 0 0, .int .i64 0, .int .i64 0] 61) → RS rb rb s [] (.ok l) w1 ∧ Old w w1 from fun w1 hw => by
    subst hw
    refine ⟨⟨0, ⟨by rw [Nat.zero_add]; exact hll, by rw [List.drop_zero]; exact hl.out⟩, ⟨Nat.le_refl _, .slice none 0 0, ?_, World.ownsRow_nil _ _ _ _⟩⟩, Old.alloc (Old.refl _) _⟩
    rw [← hrb]
    exact heap_alloc_new w _)
  go_enter Tryz.func8, Tryz.ntmps8
  go_upto_region 4 with fail
  generalize hw1 : w.alloc (.cells #[.string s, .int .i64 0, .slice none 0 0, .int .i64 0, .int .i64 0] 61) = w1
  obtain ⟨s1, o1⟩ := LW.out _ hw1.symm
  have S1 := hide s1
  have O1 := hide o1
  have CV := hide (value_all rb rb s hs (fuelOf l) [] (.ok l) none_ 0 w1 s1 (by simp) (fun l' e => by
    injection e with e
    subst e
    have := skipB_len l
    unfold fuelOf
    omega) (by omega))
  clear LW hw1 s1 o1 hrb
  go_wp2_with fail
  refine CV.out.mono ?_
  rintro x w2 ⟨rfl, v2, k2⟩
  obtain ⟨out2, X2, s2, _, _, hXe, hXo⟩ := v2.one
  have S2 := hide s2
  have B2 := hide (show Old w w2 from by
    have := k2.low
    rw [← HRB.out] at this
    exact Below.trans O1.out this)
  have FE := hide (show ∀ b, X2 = .error b → finX l (valX (fuelOf l) none_ 0 0 (.ok l)) = .error (l.length - b.1.length, b.2) from fun b e => by
    rw [show valX (fuelOf l) none_ 0 0 (.ok l) = .error b from hXe b e]
    rfl)
  have FO := hide (show ∀ r, X2 = .ok r → finX l (valX (fuelOf l) none_ 0 0 (.ok l)) = match skipB r with | [] => .ok out2 | c :: p => .error (l.length - (c :: p).length, 70) from fun r e => by
    obtain ⟨t, h1, h2⟩ := hXo r e
    rw [show valX (fuelOf l) none_ 0 0 (.ok l) = .ok (t, r) from h1, h2]
    rfl)
  have CB := hide (rblanks_run rb rb s out2 X2 w2 s2 hs2)
  clear s2 v2 k2 hXe hXo CV
  go_wp2_with fail
  refine CB.out.mono ?_
  rintro x w3 ⟨rfl, s3, b3⟩
  have S3 := hide s3
  have B3 := hide (show Old w w3 from by
    have := b3.low
    rw [← HRB.out] at this
    exact Below.trans B2.out this)
  obtain ⟨n3, wh3, e3, hR3, he3, hJ3⟩ := S3.out.open_
  obtain ⟨ov3, ⟨_, x31, x32, x33, x34⟩, _, hown⟩ := hR3.cells
  clear s3 b3 CB S2
  cases X2 with
  | error b =>
    obtain ⟨p, c⟩ := b
    obtain ⟨hc0, hp, n4, hR4⟩ := S3.out
    obtain ⟨_, ⟨_, x41, _, x43, x44⟩, _, _⟩ := hR4.cells
    have hcb : (c != 0) = true := by simp [hc0]
    have CF := hide (rdfail_run rb rb s out2 (.error (p, c)) w3 S3.out (n4 : Int) 70 [] (by decide) (fun l' e => by (cases e)) (by simp))
    have FIN := hide (show ∀ w', JParsed w.heap.size s (.returned (.tuple #[.slice none 0 0, .int .i64 ((s.size : Int) - (p.length : Int)), .int .i64 c])) w' from fun w' => by
      have h := FE.out (p, c) rfl
      rw [FP.out] at h
      unfold JParsed
      rw [hl.out]
      cases hpv : parseV l with
      | error x =>
        obtain ⟨q, c'⟩ := x
        rw [hpv] at h
        injection h with h
        injection h with h1 h2
        subst h1 h2
        simp only
        rw [hll, show ((s.size - p.length : Nat) : Int) = (s.size : Int) - (p.length : Int) by omega]
      | ok j => rw [hpv] at h; cases h)
    have ways : Hid ((n4 : Int) < (s.size : Int)) ∨ Hid (¬ (n4 : Int) < (s.size : Int)) := by
      by_cases h : (n4 : Int) < (s.size : Int)
      · exact .inl (hide h)
      · exact .inr (hide h)
    clear FE FO FP hR3 he3 hJ3 x31 x32 x33 x34 hown hR4 hc0 hp
    rcases ways with q | q
    · have q1 := q.out
      clear q
      go_wp2_with fail
      refine CF.out.mono ?_
      rintro x w5 ⟨rfl, s5, b5⟩
      have B5 := hide (show Old w w5 from by
        have := b5.low
        rw [← HRB.out] at this
        exact Below.trans B3.out this)
      obtain ⟨_, _, n6, hR6⟩ := (show RS rb rb s out2 (.error (p, c)) w5 from s5)
      obtain ⟨_, ⟨_, x51, _, x53, x54⟩, _, _⟩ := hR6.cells
      have y3 : ∀ q : Later w5, q.world.cell? ⟨rb, 3, none⟩ = some (.int .i64 ((s.size : Int) - (p.length : Int))) := fun q => q.old.cell x53
      have y4 : ∀ q : Later w5, q.world.cell? ⟨rb, 4, none⟩ = some (.int .i64 c) := fun q => q.old.cell x54
      clear s5 b5 hR6 q1
      go_wp2_with fail
      refine region_later (by kernel_rfl) (by kernel_rfl) ?_
      repeat (go_big_quiet_step (fail))
      refine wpQuiet_nil ?_
      rintro w6 ⟨⟨_, o6⟩, rfl⟩
      have O6 := hide (Old.trans B5.out o6)
      clear o6 y3 y4
      go_wp2_with fail
      go_ret3
      exact ⟨FIN.out _, O6.out⟩
    · have q1 := q.out
      have y3 : ∀ q : Later w3, q.world.cell? ⟨rb, 3, none⟩ = some (.int .i64 ((s.size : Int) - (p.length : Int))) := fun q => q.old.cell x43
      have y4 : ∀ q : Later w3, q.world.cell? ⟨rb, 4, none⟩ = some (.int .i64 c) := fun q => q.old.cell x44
      clear q
      go_wp2_with fail
      refine region_later (by kernel_rfl) (by kernel_rfl) ?_
      repeat (go_big_quiet_step (fail))
      refine wpQuiet_nil ?_
      rintro w6 ⟨⟨_, o6⟩, rfl⟩
      have O6 := hide (Old.trans B3.out o6)
      clear o6 y3 y4
      go_wp2_with fail
      go_ret3
      exact ⟨FIN.out _, O6.out⟩
  | ok r =>
    have hA := (hJ3 (skipB r) rfl).1
    have hAl := hA.len
    obtain rfl : e3 = 0 := he3.2 ⟨_, rfl⟩
    have FO2 := FO.out r rfl
    rw [FP.out] at FO2
    cases hsk : skipB r with
    | nil =>
      rw [hsk] at FO2 hAl
      have hq : ¬ (n3 : Int) < (s.size : Int) := by simp at hAl; omega
      have FIN := hide (show ∀ A c0, ov3 = .slice A out2.length c0 → JParsed w.heap.size s (.returned (.tuple #[.slice A out2.length c0, .int .i64 0, .int .i64 0])) w3 from fun A c0 hv => by
        unfold JParsed
        rw [hl.out]
        cases hpv : parseV l with
        | error x => rw [hpv] at FO2; cases FO2
        | ok j =>
          rw [hpv] at FO2
          injection FO2 with h
          refine ⟨_, rfl, ?_⟩
          rw [h, HRB.out, ← hv]
          exact hown)
      obtain ⟨A3, c3, rfl, _, _, _⟩ := SlT.of_own hown
      have FIN2 := hide (FIN.out A3 c3 rfl)
      clear FE FO FP hR3 he3 hJ3 hown hA hAl FO2 hsk FIN
      go_wp2_with fail
      go_ret3
      exact ⟨FIN2.out, B3.out⟩
    | cons c p =>
      rw [hsk] at FO2 hAl
      have hq : (n3 : Int) < (s.size : Int) := by simp only [List.length_cons] at hAl; omega
      have CF := hide (rdfail_run rb rb s out2 _ w3 (show RS rb rb s out2 (.ok (c :: p)) w3 by have := S3.out; simp only [blanksX, hsk] at this; exact this) (n3 : Int) 70 (c :: p) (by decide) (fun _ _ => by omega) (by omega))
      have FIN := hide (show ∀ w', JParsed w.heap.size s (.returned (.tuple #[.slice none 0 0, .int .i64 ((s.size : Int) - ((c :: p).length : Int)), .int .i64 70])) w' from fun w' => by
        unfold JParsed
        rw [hl.out]
        cases hpv : parseV l with
        | error x =>
          obtain ⟨q, c'⟩ := x
          rw [hpv] at FO2
          injection FO2 with h
          injection h with h1 h2
          subst h1 h2
          simp only
          rw [hll, show ((s.size - (c :: p).length : Nat) : Int) = (s.size : Int) - ((c :: p).length : Int) by omega]
        | ok j => rw [hpv] at FO2; cases FO2)
      clear FE FO FP hR3 he3 hJ3 hown hA hAl FO2 hsk
      go_wp2_with fail
      refine CF.out.mono ?_
      rintro x w5 ⟨rfl, s5, b5⟩
      have B5 := hide (show Old w w5 from by
        have := b5.low
        rw [← HRB.out] at this
        exact Below.trans B3.out this)
      obtain ⟨_, _, n6, hR6⟩ := (show RS rb rb s out2 (.error (c :: p, 70)) w5 from s5)
      obtain ⟨_, ⟨_, x51, _, x53, x54⟩, _, _⟩ := hR6.cells
      have y3 : ∀ q : Later w5, q.world.cell? ⟨rb, 3, none⟩ = some (.int .i64 ((s.size : Int) - ((c :: p).length : Int))) := fun q => q.old.cell x53
      have y4 : ∀ q : Later w5, q.world.cell? ⟨rb, 4, none⟩ = some (.int .i64 70) := fun q => q.old.cell x54
      clear s5 b5 hR6
      go_wp2_with fail
      refine region_later (by kernel_rfl) (by kernel_rfl) ?_
      repeat (go_big_quiet_step (fail))
      refine wpQuiet_nil ?_
      rintro w6 ⟨⟨_, o6⟩, rfl⟩
      have O6 := hide (Old.trans B5.out o6)
      clear o6 y3 y4
      go_wp2_with fail
      go_ret3
      exact ⟨FIN.out _, O6.out⟩
end Go.Proofs.YtdlcibbbebhcoaaGreatDoor
