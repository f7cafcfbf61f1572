/- The document's deep. -/
import Derived.Test.YtmolmphbhdbcaaaDoorObj
namespace Go.Proofs.YtmolmphbhdbcaaaDoor
open Go.RowKit

theorem deeps_len_both : (∀ j : J, j.deep ≤ j.flat.length) ∧ ∀ l : List J, J.deeps l ≤ (J.flats l).length := by
  refine J.both ?_ ?_ ?_
  · intro h l ih
    rw [flat_mk, List.length_cons, J.deep]
    omega
  · simp [J.deeps]
  · intro j l hj hl
    rw [flats_cons, List.length_append, J.deeps]
    omega
theorem drop_part {t : List Nd} {a : Nat} {l1 l2 : List J} {r : List Nd} (e : t.drop a = J.flats (l1 ++ l2) ++ r) : t.drop (a + (J.flats l1).length) = J.flats l2 ++ r := by
  rw [← List.drop_drop, e, flats_append, List.append_assoc, List.drop_left' rfl]
theorem drop_kids {t : List Nd} {a : Nat} {h : Hd} {l : List J} {r : List Nd} (e : t.drop a = J.flat (.mk h l) ++ r) : t.drop (a + 1) = J.flats l ++ r := by
  rw [← List.drop_drop, e, flat_mk, List.cons_append, List.drop_succ_cons, List.drop_zero]

set_option maxRecDepth 100000 in
set_option maxHeartbeats 1000000 in
theorem ref_deep (v : Value) (t : List Nd) (w0 : World) (ht : NodesIs w0 v t) (hl : t.length ≤ 4000) : ∀ (n : Nat) (l : List J) (a : Nat) (r : List Nd) (w : World), Old w0 w → (J.flats l).length = n → t.drop a = J.flats l ++ r → a ≤ t.length →
    Calls Tryd.prog 51 #[v, .int .i64 a, .int .i64 ((a + n : Nat) : Int)] w fun e w' => e = .returned (.int .i64 (J.deeps l)) ∧ Old w w' := by
  obtain ⟨A, ca, rfl, hla, hma, hc⟩ := ht.nodes
  unfold maxLen at hma
  have HC := hide hc
  clear ht hc
  intro n
  induction n using Nat.strongRecOn with
  | ind n ih =>
    intro l a r w ho hn hd ha
    have IH := hide ih
    have HD := hide hd
    have HW := hide ho
    have hb : a + n ≤ t.length := by
      have e := congrArg List.length hd
      rw [List.length_append, List.length_drop, hn] at e
      omega
    have HNL := hide hn
    obtain ⟨E, hE⟩ : ∃ E : Nat, Hid (a + n = E) := ⟨_, hide rfl⟩
    rw [hE.out] at hb
    rw [hE.out]
    have HDL := hide (deeps_len_both.2 l)
    clear ih ho hn hd
    go_enter Tryd.func51, Tryd.ntmps51
    go_wp2_with fail
    go_loopw [7, 8] (fun m i wr => ∃ (l1 l2 : List J) (p d : Nat), i = .int .i64 p ∧ m = .int .i64 d ∧ p ≤ E ∧ d ≤ 4000 ∧ Hid (l = l1 ++ l2) ∧ Hid (p = a + (J.flats l1).length) ∧ Hid (J.deeps l1 = d) ∧ Hid (Old w wr)) (fun _ i _ => E - (intOf i).toNat)
    case atStart => exact ⟨[], l, a, 0, rfl, rfl, by have := hE.out; omega, by omega, hide rfl, hide (by simp [J.flats]), hide rfl, hide (Old.refl _)⟩
    case round =>
      obtain ⟨l1, l2, p, d, rfl, rfl, hp, hd4, HL, HP, HDD, HO⟩ := hrel
      cases l2 with
      | nil =>
        have EQ := hide (show l = l1 by rw [HL.out]; simp)
        have hpe : E ≤ p := by have h1 := HP.out; have h2 := HNL.out; have h3 := hE.out; rw [EQ.out] at h2; omega
        go_wp2_with fail
        go_ret
        exact ⟨ret_int (by rw [EQ.out, HDD.out]), HO.out⟩
      | cons j l3 =>
        have HDP : t.drop p = j.flat ++ (J.flats l3 ++ r) := by
          have := HD.out
          rw [HL.out] at this
          rw [HP.out, drop_part this, flats_cons, List.append_assoc]
        obtain ⟨hpt, hpx⟩ := head_flat HDP
        obtain ⟨b1, o1, rfl, hc1⟩ := HC.out.resolve_left (by omega)
        have d4 := (hc1 p hpt).2.2.2.2
        rw [hpx] at d4
        have hq := flat_pos j
        have hsum : p + j.flat.length ≤ E := by
          have h1 := HP.out
          have h2 := HNL.out
          have h3 := hE.out
          rw [HL.out, flats_append, flats_cons, List.length_append, List.length_append] at h2
          omega
        have hjn : j.flat.length ≤ n := by have h1 := HP.out; have h3 := hE.out; omega
        obtain ⟨q, hqq⟩ : ∃ q, Hid (j.flat.length = q + 1) := ⟨j.flat.length - 1, hide (by omega)⟩
        obtain ⟨dj, hdj⟩ : ∃ dj, Hid (j.deep = dj + 1) := ⟨j.deep - 1, hide (by have := deep_pos j; omega)⟩
        have hdj4 : dj ≤ 4000 := by have h1 := deeps_len_both.1 j; have h2 := hqq.out; have h3 := hdj.out; omega
        have CR := hide (show ∀ w', Old w w' → Calls Tryd.prog 51 #[.slice (some ⟨b1, o1, none⟩) t.length ca, .int .i64 ((p : Int) + 1), .int .i64 ((p : Int) + ((q : Int) + 1))] w' fun e w2 => e = .returned (.int .i64 dj) ∧ Old w' w2 from fun w' ho => by
          cases j with
          | mk h kl =>
            have hk := drop_kids HDP
            have hkl : (J.flats kl).length = q := by have := hqq.out; rw [flat_mk, List.length_cons] at this; omega
            have hkd : J.deeps kl = dj := by have := hdj.out; rw [J.deep] at this; omega
            have := IH.out q (by have := hqq.out; omega) kl (p + 1) _ w' (Old.trans HW.out ho) hkl hk (by omega)
            rw [hkd] at this
            have e1 : ((p + 1 : Nat) : Int) = (p : Int) + 1 := by omega
            have e2 : ((p + 1 + q : Nat) : Int) = (p : Int) + ((q : Int) + 1) := by omega
            rwa [e1, e2] at this)
        have e4 : ((j.flat.length : Nat) : Int) = (q : Int) + 1 := by have := hqq.out; omega
        simp only [e4] at d4
        have D4 := hide ((Old.trans HW.out HO.out).cell d4)
        have d4' := D4.out
        have hs2 : p + (q + 1) ≤ E := by have := hqq.out; omega
        have HNEW := hide (show p + (q + 1) = a + (J.flats (l1 ++ [j])).length by have h1 := HP.out; rw [flats_append, flats_one, List.length_append, hqq.out]; omega)
        have HDN := hide (show J.deeps (l1 ++ [j]) = max d (dj + 1) by rw [deeps_append, HDD.out]; simp [J.deeps, hdj.out])
        have hmx : max d (dj + 1) ≤ 4000 := by
          have h1 := HDL.out
          rw [HL.out, deeps_append] at h1
          simp only [J.deeps] at h1
          have h2 := HNL.out
          rw [HL.out] at h2
          have h3 := hdj.out
          have h4 := hE.out
          omega
        clear d4 HDP hpx hpt hc1 e4 hsum hjn
        go_upto_region 4 with (go_at_call 51; refine (CR.out _ HO.out).mono ?_; rintro e w2 ⟨rfl, o2⟩)
        have O2 := hide (Old.trans HO.out o2)
        have d5 := o2.cell D4.out
        clear d4' o2
        go_wp2_with fail
        go_roundw
        case rel => exact ⟨l1 ++ [j], l3, p + (q + 1), max d (dj + 1), by go_num, by go_num, by omega, hmx, hide (by rw [HL.out]; simp), HNEW, HDN, O2⟩
        case measure => simp [intOf]; omega
end Go.Proofs.YtmolmphbhdbcaaaDoor

