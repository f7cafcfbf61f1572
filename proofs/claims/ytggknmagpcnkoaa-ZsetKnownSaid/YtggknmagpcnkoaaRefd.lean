/- The document's Add. -/
import Derived.Test.YtggknmagpcnkoaaRefb
namespace Go.Proofs.Ytggknmagpcnkoaa
open Go.RowKit

set_option maxRecDepth 100000 in
set_option maxHeartbeats 1000000 in
theorem ref_Add (va vb : Value) (a b : List Item) (w : World) (ha : ItemsIs w va a) (hb : ItemsIs w vb b) (fa : Fine 262144 a) (fb : Fine 262144 b) :
    Calls Try.prog 14 #[va, vb] w (NewItems2 w (addOut a b) (addErr a b)) := by
  have HA := hide ha
  have HB := hide hb
  have FF := hide (fa.append fb)
  have la := fa.len
  have lb := fb.len
  have C1 := hide (show ∀ w', Old w w' → Calls Try.prog 31 #[va] w' fun e w2 => e = .returned (.int .i64 (chk a)) ∧ Old w w2 from fun w' h => (ref_Check _ _ _ (HA.out.old h)).mono fun _ _ q => ⟨q.1, Old.trans h q.2⟩)
  have C2 := hide (show ∀ w', Old w w' → Calls Try.prog 31 #[vb] w' fun e w2 => e = .returned (.int .i64 (chk b)) ∧ Old w w2 from fun w' h => (ref_Check _ _ _ (HB.out.old h)).mono fun _ _ q => ⟨q.1, Old.trans h q.2⟩)
  obtain ⟨A, ca, _, rfl, hla, hma, _⟩ := ha.open_
  obtain ⟨B, cb, _, rfl, hlb, hmb, _⟩ := hb.open_
  have hN := chk_or a
  have hM := chk_or b
  by_cases h : chk a = 0 ∧ chk b = 0
  · obtain ⟨e1, e2⟩ := h
    have E := hide (show addErr a b = normErr (a ++ b) ∧ addOut a b = normOut (a ++ b) from addErr_ok (chk_zero.1 e1) (chk_zero.1 e2))
    rw [e1] at C1
    rw [e2] at C2
    clear e1 e2 hN hM ha hb fa fb
    go_enter Try.func14, Try.ntmps14
    go_wp2_with fail
    refine (C1.out _ (Old.refl _)).mono ?_
    rintro e w1 ⟨rfl, h1⟩
    go_wp2_with fail
    refine (C2.out _ h1).mono ?_
    rintro e w2 ⟨rfl, h2⟩
    have L1 : ([] : List Item).length + a.length ≤ 4194304 := by simp; omega
    have L2 : ([] ++ a).length + b.length ≤ 4194304 := by simp; omega
    go_wp2_with (first
      | (at_builtin; refine wpList_plain rfl (fun K hK => ?_); refine step_push_items w _ _ _ rfl (.slice none 0 0) [] rfl (Mix.nil_ _ _) _ a rfl HA.out h2 L1 ?_; intro v3 w3 M3 O3; refine hK _ _ ?_; clear hK)
      | (at_builtin; refine wpList_plain rfl (fun K hK => ?_); refine step_push_items w _ _ _ rfl _ _ rfl M3 _ b rfl HB.out O3 L2 ?_; intro v4 w4 M4 O4; refine hK _ _ ?_; clear hK))
    have HI := hide (M4.is O4)
    have HO := hide O4
    clear M3 O3 M4 O4 h2
    refine (ref_Norm v4 ([] ++ a ++ b) w4 (by exact HI.out) (by simpa using Nat.le_trans FF.out.len (by omega)) (by simpa using FF.out.short) (by simpa using FF.out.fits)).mono ?_
    rintro e w5 ⟨v5, rfl, h5, h6⟩
    go_wp2_with fail
    go_ret2
    exact ⟨_, ret_pair (by simpa using E.out.1), by rw [E.out.2]; simpa using h5.mono HO.out.size, Old.trans HO.out h6⟩
  · have E := hide (show addErr a b = 2 ∧ addOut a b = [] from addErr_bad h)
    by_cases e1 : chk a = 0
    · have e2 : chk b = 2 := by omega
      rw [e1] at C1
      rw [e2] at C2
      clear e1 e2 hN hM h ha hb fa fb
      go_enter Try.func14, Try.ntmps14
      go_wp2_with fail
      refine (C1.out _ (Old.refl _)).mono ?_
      rintro e w1 ⟨rfl, h1⟩
      go_wp2_with fail
      refine (C2.out _ h1).mono ?_
      rintro e w2 ⟨rfl, h2⟩
      go_wp2_with fail
      go_ret2
      exact ⟨_, ret_pair E.out.1, by rw [E.out.2]; exact ⟨[], rfl, SlT.nil_ _, fun i h => absurd h (by simp)⟩, h2⟩
    · have e2 : chk a = 2 := by omega
      rw [e2] at C1
      clear e1 e2 hN hM h ha hb fa fb C2
      go_enter Try.func14, Try.ntmps14
      go_wp2_with fail
      refine (C1.out _ (Old.refl _)).mono ?_
      rintro e w1 ⟨rfl, h1⟩
      go_wp2_with fail
      go_ret2
      exact ⟨_, ret_pair E.out.1, by rw [E.out.2]; exact ⟨[], rfl, SlT.nil_ _, fun i h => absurd h (by simp)⟩, h1⟩
end Go.Proofs.Ytggknmagpcnkoaa
