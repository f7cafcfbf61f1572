/- tape.List. -/
import Derived.Test.YtcddfpcapbdphaaGreatDoorWhole
namespace Go.Proofs.YtcddfpcapbdphaaGreatDoor
open Go.RowKit

/-- all parts may be: these values -/
def AllMay (pl : List (List Nd)) (js : List J) : Prop := pl.length = js.length ∧ ∀ i, (h : i < pl.length) → (h' : i < js.length) → May pl[i] js[i]
theorem allMay_of : ∀ {pl : List (List Nd)}, (∀ i : Nat, (h : i < pl.length) → chkT pl[i] = 0) → ∃ js, AllMay pl js
  | [], _ => ⟨[], rfl, fun i h => absurd h (by simp)⟩
  | p :: pl, h => by
    obtain ⟨j, hj⟩ := may_of (show chkT p = 0 from h 0 (by simp))
    obtain ⟨js, h1, h2⟩ := allMay_of (pl := pl) (fun i hi => by have := h (i + 1) (by simpa using hi); simpa using this)
    refine ⟨j :: js, by simp [h1], fun i hi hi' => ?_⟩
    cases i with
    | zero => exact hj
    | succ i => exact h2 i (by simpa using hi) (by simpa using hi')
theorem allMay_chk {pl : List (List Nd)} {js : List J} (h : AllMay pl js) : ∀ i : Nat, (hi : i < pl.length) → chkT pl[i] = 0 := fun i hi => chkT_may (h.2 i hi (by have := h.1; omega))
theorem rekey_same {j : J} (h : j.key = none_) : j.rekey none_ = j := by
  cases j with
  | mk hd l =>
    obtain ⟨h1, h2, h3, h4⟩ := hd
    have e : h2 = none_ := h
    rw [J.rekey, e]
theorem rekeys_none : ∀ {js : List J}, (∀ j ∈ js, j.key = none_) → rekeys (List.replicate js.length none_) js = js
  | [], _ => rfl
  | j :: js, h => by
    rw [List.length_cons, List.replicate_succ, rekeys, rekey_same (h j (by simp)), rekeys_none fun x hx => h x (by simp [hx])]
theorem allMay_keys {pl : List (List Nd)} {js : List J} (h : AllMay pl js) : ∀ j ∈ js, j.key = none_ := by
  intro j hj
  obtain ⟨i, hi, rfl⟩ := List.getElem_of_mem hj
  exact (h.2 i (by have := h.1; omega) hi).1.2.1
/-- what List answers -/
def ListT (pl : List (List Nd)) (out : List Nd) (e : Int) : Prop :=
  (∃ i : Nat, ∃ h : i < pl.length, (∀ j : Nat, (hj : j < pl.length) → j < i → chkT pl[j] = 0) ∧ chkT pl[i] ≠ 0 ∧ e = chkT pl[i] ∧ out = []) ∨ ∃ js, AllMay pl js ∧ WholeT 6 js out e

set_option maxRecDepth 100000 in
set_option maxHeartbeats 1000000 in
theorem list_run (v : Value) (pl : List (List Nd)) (out : List Nd) (er : Int) (w : World) (hp : PartsIs w v pl) (htx : ∀ p ∈ pl, TextsOk p) (hT : Tabs w) (hl : ListT pl out er) :
    Calls Tryz.prog 59 #[v] w (NewNodesE w out er) := by
  have HP := hide hp
  obtain ⟨A, ca, rfl, hla, hma, hc⟩ := hp.open_
  unfold maxLen at hma
  have HC := hide hc
  have HTX := hide htx
  have HT := hide hT
  have HL := hide hl
  clear hp hc htx hT hl
  go_enter Tryz.func59, Tryz.ntmps59
  go_wp2_with fail
  go_loopw [9] (fun i wr => ∃ k : Nat, i = .int .i64 k ∧ k ≤ pl.length ∧ Hid (∀ j : Nat, (hj : j < pl.length) → j < k → chkT pl[j] = 0) ∧ Hid (Old w wr)) (fun i _ => pl.length - (intOf i).toNat)
  case atStart => exact ⟨0, rfl, by omega, hide (by intro j _ h; omega), hide (Old.refl _)⟩
  case round =>
    obtain ⟨k, rfl, hk, HQ, HO⟩ := hrel
    by_cases hlt : k < pl.length
    · obtain ⟨b1, o1, rfl, hc1⟩ := HC.out.resolve_left (by omega)
      obtain ⟨A', c', x0, x1, x2, x3⟩ := hc1 k hlt
      have CC := hide (check_run _ _ wr (x3.old HO.out) (HTX.out _ (List.getElem_mem hlt)) (HT.out.old HO.out))
      have e0 := HO.out.cell x0
      obtain ⟨c, hcc⟩ : ∃ c, Hid (chkT pl[k] = c) := ⟨_, hide rfl⟩
      rw [hcc.out] at CC
      unfold maxLen at x2
      clear hc1 x0 x3
      by_cases h0 : c = 0
      · subst h0
        go_wp2_with fail
        refine CC.out.mono ?_
        rintro e w1 ⟨rfl, ow1⟩
        have HQ2 := hide (show ∀ j : Nat, (hj : j < pl.length) → j < k + 1 → chkT pl[j] = 0 from fun j hj hjk => by
          rcases Nat.lt_or_ge j k with h | h
          · exact HQ.out j hj h
          · have : j = k := by omega
            subst this
            exact hcc.out)
        have O2 := hide (Old.trans HO.out ow1)
        clear ow1 e0
        go_wp2_with fail
        go_roundw
        case rel => exact ⟨k + 1, by go_num, by omega, HQ2, O2⟩
        case measure => simp [intOf]; omega
      · have h0' : (c != 0) = true := by simpa using h0
        have FIN := hide (show out = [] ∧ er = c by
          rcases HL.out with ⟨i, hi, h1, h2, h3, h4⟩ | ⟨js, hj, _⟩
          · have : i = k := by
              rcases Nat.lt_trichotomy i k with h | h | h
              · exact absurd (HQ.out i hi h) h2
              · exact h
              · exact absurd (hcc.out.symm.trans (h1 k hlt h)) h0
            subst this
            exact ⟨h4, h3.trans hcc.out⟩
          · exact absurd (hcc.out.symm.trans (allMay_chk hj k hlt)) h0)
        clear h0
        go_wp2_with fail
        refine CC.out.mono ?_
        rintro e w1 ⟨rfl, ow1⟩
        have O2 := hide (Old.trans HO.out ow1)
        clear ow1 e0
        go_wp2_with fail
        go_ret2
        exact ⟨_, by rw [FIN.out.2]; rfl, by rw [FIN.out.1]; exact SlT.nil_ _, O2.out⟩
    · have CW := hide (show Calls Tryz.prog 84 #[.int .i64 6, .func (.func 85) #[] #[], .slice A pl.length ca] wr (NewNodesE wr out er) by
        rcases HL.out with ⟨i, hi, h1, h2, h3, h4⟩ | ⟨js, hj, hw⟩
        · exact absurd (HQ.out i hi (by omega)) h2
        · refine whole_list _ pl js (List.replicate js.length none_) out er wr (fun k hk => (List.mem_replicate.1 hk).2) (HP.out.old HO.out) hj.1 (by simp) hj.2 HTX.out (HT.out.old HO.out) ?_
          rw [rekeys_none (allMay_keys hj)]
          exact hw)
      go_wp2_with fail
      refine CW.out.mono ?_
      rintro e w1 ⟨v1, rfl, h1, o1⟩
      have H1 := hide (h1.mono HO.out.size)
      have O2 := hide (Old.trans HO.out o1)
      clear h1 o1
      go_wp2_with fail
      go_ret2
      exact ⟨_, rfl, H1.out, O2.out⟩
end Go.Proofs.YtcddfpcapbdphaaGreatDoor


