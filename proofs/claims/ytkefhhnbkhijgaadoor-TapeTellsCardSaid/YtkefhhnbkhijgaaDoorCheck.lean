/- tape.Check and tape.Deep. -/
import Derived.Test.YtkefhhnbkhijgaaDoorLook
namespace Go.Proofs.YtkefhhnbkhijgaaDoor
open Go.RowKit

def chkT (t : List Nd) : Int := if 4000 < t.length then 5 else match lookOf vU t with
  | none => 60
  | some d => if 64 < d then 72 else 0
def deepT (t : List Nd) : Nat := if chkT t = 0 then (lookOf vU t).getD 0 else 0
/-- what may be -/
def May (t : List Nd) (j : J) : Prop := Tape vU j t ∧ t.length ≤ 4000 ∧ j.deep ≤ 64
theorem chkT_may {t : List Nd} {j : J} (h : May t j) : chkT t = 0 := by
  unfold chkT
  rw [if_neg (by have := h.2.1; omega), look_yes h.1]
  simp only
  rw [if_neg (by have := h.2.2; omega)]
theorem deepT_may {t : List Nd} {j : J} (h : May t j) : deepT t = j.deep := by
  unfold deepT
  rw [if_pos (chkT_may h), look_yes h.1]
  rfl
theorem may_of {t : List Nd} (h : chkT t = 0) : ∃ j, May t j := by
  unfold chkT at h
  split at h
  · omega
  · split at h
    · omega
    · rename_i d e
      split at h
      · omega
      · obtain ⟨j, hj⟩ := look_no e
        refine ⟨j, hj, by omega, ?_⟩
        rw [look_yes hj] at e
        injection e with e
        omega
theorem Sl.form {w : World} {v : Value} {n : Nat} {xs : List Value} (h : Sl w v n xs) : ∃ A cap, v = .slice A n cap ∧ n ≤ cap ∧ cap ≤ maxLen := by
  obtain ⟨A, cap, rfl, h1, h2, _⟩ := h
  exact ⟨A, cap, rfl, h1, h2⟩

set_option maxRecDepth 100000 in
set_option maxHeartbeats 400000 in
theorem check_run (v : Value) (t : List Nd) (w : World) (ht : NodesIs w v t) (hk : TextsOk t) (hT : Tabs w) :
    Calls Tryd.prog 28 #[v] w fun e w' => e = .returned (.int .i64 (chkT t)) ∧ Old w w' := by
  have CL := hide (show t.length ≤ 4000 → Calls Tryd.prog 55 #[v] w fun e w' => e = .returned (lookVal (lookOf vU t)) ∧ Old w w' from fun h => look_run v t w ht h hk hT)
  obtain ⟨A, cap, rfl, h1, h2⟩ := ht.form
  unfold maxLen at h2
  clear ht hk hT
  by_cases hl : 4000 < t.length
  · have hl' : (4000 : Int) < (t.length : Int) := by omega
    have E := hide (show chkT t = 5 by unfold chkT; rw [if_pos hl])
    clear CL
    go_enter Tryd.func28, Tryd.ntmps28
    go_wp2_with fail
    go_ret
    exact ⟨ret_int E.out.symm, Old.refl _⟩
  · have hl' : ¬ (4000 : Int) < (t.length : Int) := by omega
    have C := hide (CL.out (by omega))
    have E : chkT t = match lookOf vU t with | none => 60 | some d => if 64 < d then 72 else 0 := by unfold chkT; rw [if_neg hl]
    clear CL
    cases e : lookOf vU t with
    | none =>
      rw [e] at C E
      have E := hide E
      simp only [lookVal] at C
      clear e
      go_enter Tryd.func28, Tryd.ntmps28
      go_wp2_with fail
      refine C.out.mono ?_
      rintro e w1 ⟨rfl, o1⟩
      go_wp2_with fail
      go_ret
      exact ⟨ret_int E.out.symm, o1⟩
    | some d =>
      rw [e] at C E
      simp only [lookVal] at C
      simp only at E
      clear e
      by_cases hd : 64 < d
      · have hd' : (64 : Int) < (d : Int) := by omega
        rw [if_pos hd] at E
        have E := hide E
        go_enter Tryd.func28, Tryd.ntmps28
        go_wp2_with fail
        refine C.out.mono ?_
        rintro e w1 ⟨rfl, o1⟩
        go_wp2_with fail
        go_ret
        exact ⟨ret_int E.out.symm, o1⟩
      · have hd' : ¬ (64 : Int) < (d : Int) := by omega
        rw [if_neg hd] at E
        have E := hide E
        go_enter Tryd.func28, Tryd.ntmps28
        go_wp2_with fail
        refine C.out.mono ?_
        rintro e w1 ⟨rfl, o1⟩
        go_wp2_with fail
        go_ret
        exact ⟨ret_int E.out.symm, o1⟩
theorem num_as {f : FuncId} {args : Array Value} {w : World} {n n' : Int} (h : Calls Tryd.prog f args w fun e w' => e = .returned (.int .i64 n) ∧ Old w w') (e : n = n') : Calls Tryd.prog f args w fun e w' => e = .returned (.int .i64 n') ∧ Old w w' := by
  subst e
  exact h

set_option maxRecDepth 100000 in
set_option maxHeartbeats 400000 in
theorem deep_run (v : Value) (t : List Nd) (w : World) (ht : NodesIs w v t) (hk : TextsOk t) (hT : Tabs w) :
    Calls Tryd.prog 35 #[v] w fun e w' => e = .returned (.int .i64 (deepT t)) ∧ Old w w' := by
  have CC := hide (check_run v t w ht hk hT)
  by_cases hc : chkT t = 0
  · obtain ⟨j, hj⟩ := may_of hc
    have CL := hide (show ∀ w', Old w w' → Calls Tryd.prog 55 #[v] w' fun e w2 => e = .returned (.tuple #[.int .i64 j.deep, .bool true]) ∧ Old w' w2 from fun w' h => by
      have := look_run v t w' (ht.old h) hj.2.1 hk (hT.old h)
      rwa [look_yes hj.1] at this)
    have E := hide (deepT_may hj)
    have C0 := hide (num_as CC.out hc)
    clear ht hk hT CC hc
    go_enter Tryd.func35, Tryd.ntmps35
    go_wp2_with fail
    refine C0.out.mono ?_
    rintro e w1 ⟨rfl, o1⟩
    go_wp2_with fail
    refine (CL.out _ o1).mono ?_
    rintro e w2 ⟨rfl, o2⟩
    go_wp2_with fail
    go_ret
    exact ⟨ret_int (by rw [E.out]), Old.trans o1 o2⟩
  · have hc' : (chkT t != 0) = true := by simpa using hc
    have E := hide (show deepT t = 0 by unfold deepT; rw [if_neg hc])
    clear ht hk hT hc
    go_enter Tryd.func35, Tryd.ntmps35
    go_wp2_with fail
    refine CC.out.mono ?_
    rintro e w1 ⟨rfl, o1⟩
    go_wp2_with fail
    go_ret
    exact ⟨ret_int (by rw [E.out]; rfl), o1⟩
end Go.Proofs.YtkefhhnbkhijgaaDoor
