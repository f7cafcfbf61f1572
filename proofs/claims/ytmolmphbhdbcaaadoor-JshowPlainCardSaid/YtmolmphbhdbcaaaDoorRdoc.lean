/- The document's Check, Deep, Kids and Part. -/
import Derived.Test.YtmolmphbhdbcaaaDoorRvalue
namespace Go.Proofs.YtmolmphbhdbcaaaDoor
open Go.RowKit

theorem chk_no {t : List Nd} (hl : t.length ≤ 4000) (h : ¬ ∃ j, Tape vU j t) : chkT t = 60 := by
  unfold chkT
  rw [if_neg (by omega), look_none fun j hj => h ⟨j, hj⟩]
theorem chk_deep {t : List Nd} {j : J} (hl : t.length ≤ 4000) (h : Tape vU j t) : chkT t = if 64 < j.deep then 72 else 0 := by
  unfold chkT
  rw [if_neg (by omega), look_yes h]
theorem deeps_one (j : J) : J.deeps [j] = j.deep := by simp [J.deeps]
theorem tape_root {t : List Nd} {j : J} (h : Tape vU j t) : t.drop 0 = J.flats [j] ++ [] := by rw [List.drop_zero, List.append_nil, flats_one]; exact h.2.2
theorem tape_len {t : List Nd} {j : J} (h : Tape vU j t) : (J.flats [j]).length = t.length := by rw [flats_one, ← h.2.2]

set_option maxRecDepth 100000 in
set_option maxHeartbeats 1000000 in
theorem ref_Check (v : Value) (t : List Nd) (w : World) (ht : NodesIs w v t) (hk : TextsOk t) :
    Calls Tryd.prog 29 #[v] w fun e w' => e = .returned (.int .i64 (chkT t)) ∧ Old w w' := by
  have CV := hide (fun (h : t.length ≤ 4000) (h0 : 0 < t.length) => value_run v t w ht h hk t.length 0 t.length w (by omega) (Old.refl _) h0 (Nat.le_refl _))
  have CD := hide (fun (h : t.length ≤ 4000) (j : J) (hj : Tape vU j t) (w' : World) (ho : Old w w') => ref_deep v t w ht h t.length [j] 0 [] w' ho (tape_len hj) (tape_root hj) (Nat.zero_le _))
  obtain ⟨A, ca, rfl, hla, hma, hc⟩ := ht.nodes
  unfold maxLen at hma
  have HC := hide hc
  clear ht hk hc
  go_enter Tryd.func29, Tryd.ntmps29
  by_cases hl : 4000 < t.length
  · have hl' : (4000 : Int) < (t.length : Int) := by omega
    have E := hide (show chkT t = 5 by unfold chkT; rw [if_pos hl])
    go_wp2_with fail
    go_ret
    exact ⟨ret_int E.out.symm, Old.refl _⟩
  · have hl' : ¬ (4000 : Int) < (t.length : Int) := by omega
    have hl4 : t.length ≤ 4000 := by omega
    by_cases h0 : t.length = 0
    · have E := hide (show chkT t = 60 from chk_no hl4 (by
        rintro ⟨j, hj⟩
        have := flat_pos j
        rw [← hj.2.2] at this
        omega))
      have h0' : ((t.length : Int) == 0) = true := by simp [h0]
      clear h0
      go_wp2_with fail
      go_ret
      exact ⟨ret_int E.out.symm, Old.refl _⟩
    · have h0' : ((t.length : Int) == 0) = false := beq_eq_false_iff_ne.2 (by omega)
      have hpos : 0 < t.length := by omega
      have HTI := hide (tape_iff hpos)
      have HLP := hide hpos
      obtain ⟨b1, o1, rfl, hc1⟩ := HC.out.resolve_left h0
      obtain ⟨_, x1, _, _, x4⟩ := hc1 0 hpos
      obtain ⟨x, hx⟩ : ∃ x, Hid (t[0]'hpos = x) := ⟨_, hide rfl⟩
      have hx1 : t[0]'hpos = x := hx.out
      simp only [hx1] at x1 x4
      clear hx1
      simp only [Nat.zero_mul, Nat.add_zero] at x1 x4
      clear hc1 h0
      by_cases hkey : x.key = none_
      · have hkey' : x.key.toList = [] := (str_none _).2 hkey
        have HKEY := hide hkey
        clear hkey
        by_cases hsz : x.size = t.length
        · have hsz' : (x.size != (t.length : Int)) = false := by simp [hsz]
          have HSZ := hide hsz
          have CV1 := hide (show Calls Tryd.prog 50 #[.slice (some ⟨b1, o1, none⟩) t.length ca, .int .i64 0, .int .i64 t.length] w (SaysB (IsVal t 0 t.length) w) from CV.out hl4 HLP.out)
          clear hsz CV
          go_wp2_with fail
          refine CV1.out.mono ?_
          rintro e w1 ⟨b, hb, rfl, ow1⟩
          have HB := hide hb
          clear hb
          cases b
          · have E := hide (show chkT t = 60 from chk_no hl4 (by
              intro h
              have := (HTI.out.1 h).2.2
              have := HB.out.2 this
              cases this))
            go_wp2_with fail
            go_ret
            exact ⟨ret_int E.out.symm, ow1⟩
          · obtain ⟨j, hj⟩ := HTI.out.2 ⟨by rw [hx.out]; exact HKEY.out, by rw [hx.out]; exact HSZ.out, HB.out.1 rfl⟩
            have CD1 := hide (show Calls Tryd.prog 51 #[.slice (some ⟨b1, o1, none⟩) t.length ca, .int .i64 0, .int .i64 t.length] w1 fun e w' => e = .returned (.int .i64 j.deep) ∧ Old w1 w' by
              have := CD.out hl4 j hj w1 ow1
              rw [deeps_one, Nat.zero_add] at this
              exact this)
            have E := hide (chk_deep hl4 hj)
            clear CD hj x1 x4
            by_cases hd : 64 < j.deep
            · have hd' : (64 : Int) < (j.deep : Int) := by omega
              have E2 := hide (show chkT t = 72 by rw [E.out, if_pos hd])
              go_wp2_with fail
              refine CD1.out.mono ?_
              rintro e w2 ⟨rfl, ow2⟩
              go_wp2_with fail
              go_ret
              exact ⟨ret_int E2.out.symm, Old.trans ow1 ow2⟩
            · have hd' : ¬ (64 : Int) < (j.deep : Int) := by omega
              have E2 := hide (show chkT t = 0 by rw [E.out, if_neg hd])
              go_wp2_with fail
              refine CD1.out.mono ?_
              rintro e w2 ⟨rfl, ow2⟩
              go_wp2_with fail
              go_ret
              exact ⟨ret_int E2.out.symm, Old.trans ow1 ow2⟩
        · have hsz' : (x.size != (t.length : Int)) = true := by simp [hsz]
          have E := hide (show chkT t = 60 from chk_no hl4 (by
            intro h
            have := (HTI.out.1 h).2.1
            rw [hx.out] at this
            exact hsz this))
          go_wp2_with fail
          go_ret
          exact ⟨ret_int E.out.symm, Old.refl _⟩
      · have hkey' : ¬ x.key.toList = [] := fun h => hkey ((str_none _).1 h)
        have E := hide (show chkT t = 60 from chk_no hl4 (by
          intro h
          have := (HTI.out.1 h).1
          rw [hx.out] at this
          exact hkey this))
        clear hkey
        go_wp2_with fail
        go_ret
        exact ⟨ret_int E.out.symm, Old.refl _⟩

end Go.Proofs.YtmolmphbhdbcaaaDoor

