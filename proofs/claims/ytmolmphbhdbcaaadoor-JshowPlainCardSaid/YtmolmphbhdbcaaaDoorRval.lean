/- The document's value and parts. -/
import Derived.Test.YtmolmphbhdbcaaaDoorVals
namespace Go.Proofs.YtmolmphbhdbcaaaDoor
open Go.RowKit

/-- it says whether P -/
def SaysB (P : Prop) (w : World) (e : Ending) (w' : World) : Prop := ∃ b : Bool, (b = true ↔ P) ∧ e = .returned (.bool b) ∧ Old w w'
theorem says_no {P : Prop} {w w' : World} (h : ¬ P) (o : Old w w') : SaysB P w (.returned (.bool false)) w' := ⟨false, by simp [h], rfl, o⟩
theorem says_yes {P : Prop} {w w' : World} (h : P) (o : Old w w') : SaysB P w (.returned (.bool true)) w' := ⟨true, by simp [h], rfl, o⟩
theorem says_as {P : Prop} {b : Bool} {w w' : World} (h : b = true ↔ P) (o : Old w w') : SaysB P w (.returned (.bool b)) w' := ⟨b, h, rfl, o⟩
theorem parts_key {t : List Nd} {p E : Nat} {obj : Bool} {had : List ByteArray} (hp : p < E) (hpt : p < t.length) (h : IsParts t p E obj had) : keyOk obj had t[p].key := by
  obtain ⟨l, r', h1, h2, h3, h4⟩ := h
  cases l with
  | nil => simp [J.flats] at h3; omega
  | cons j l =>
    rw [flats_cons, List.append_assoc] at h2
    obtain ⟨_, hx⟩ := head_flat h2
    rw [List.map_cons, keysAll_cons] at h4
    rw [hx]
    exact h4.1
theorem val_in {t : List Nd} {p E : Nat} {j : J} {r : List Nd} (h : ValAt t p E j r) : p < t.length := (head_flat h.2.1).1

section
variable (v : Value) (t : List Nd) (w0 : World) (a n : Nat)
set_option maxRecDepth 100000 in
set_option maxHeartbeats 1000000 in
theorem parts_list (ht : NodesIs w0 v t) (hl : t.length ≤ 4000) (ha : a < t.length) (hs : t[a].size = (n : Int) + 1) (hb : a + 1 + n ≤ t.length) (h6 : t[a].kind = 6)
    (IH : ∀ p E w, a < p → p < E → E ≤ t.length → Old w0 w → Calls Tryd.prog 50 #[v, .int .i64 p, .int .i64 E] w (SaysB (IsVal t p E) w)) :
    ∀ w, Old w0 w → Calls Tryd.prog 74 #[v, .int .i64 a] w (SaysB (IsParts t (a + 1) (a + 1 + n) false []) w) := by
  intro w ho
  obtain ⟨A, ca, rfl, hla, hma, hc⟩ := ht.nodes
  unfold maxLen at hma
  obtain ⟨b1, o1, rfl, hc1⟩ := hc.resolve_left (by omega)
  have HC := hide hc1
  have HI := hide IH
  have HO := hide ho
  obtain ⟨y0, _, _, _, y4⟩ := hc1 a ha
  rw [h6] at y0
  rw [hs] at y4
  have Y0 := hide y0
  have y0' := ho.cell y0
  have y4' := ho.cell y4
  obtain ⟨E, hE⟩ : ∃ E : Nat, Hid (a + 1 + n = E) := ⟨_, hide rfl⟩
  have hEt : E ≤ t.length := by rw [← hE.out]; exact hb
  have hn : n ≤ 4000 := by omega
  rw [hE.out]
  have haE : a + 1 ≤ E := by rw [← hE.out]; omega
  have hEn : (a : Int) + ((n : Int) + 1) = (E : Int) := by rw [← hE.out]; omega
  have HEN := hide hEn
  clear ht hc hc1 hs h6 IH ho y0 y4 hb hEn
  go_enter Tryd.func74, Tryd.ntmps74
  go_wp2_with fail
  rw [HEN.out]
  go_loopw [6] (fun i wr => ∃ (had : List ByteArray) (p : Nat), i = .int .i64 p ∧ a < p ∧ p ≤ E ∧ Hid (IsParts t (a + 1) E false [] ↔ IsParts t p E false had) ∧ Hid (Old w wr)) (fun i _ => E - (intOf i).toNat)
  case atStart => exact ⟨[], a + 1, rfl, by omega, by omega, hide Iff.rfl, hide (Old.refl _)⟩
  case round =>
    obtain ⟨had, p, rfl, hap, hpE, HIF, HW⟩ := hrel
    by_cases hlt : p < E
    · have hpt : p < t.length := by omega
      obtain ⟨x0, x1, x2, x3, x4⟩ := HC.out p hpt
      have HX4 := hide x4
      have o0 := Old.trans HO.out HW.out
      have k0 := o0.cell Y0.out
      have k1 := o0.cell x1
      have CV := hide (HI.out p E wr hap hlt hEt o0)
      clear x0 x1 x2 x3 x4 o0 y0' y4'
      by_cases hkey : t[p].key = none_
      · have hkey' : t[p].key.toList = [] := (str_none _).2 hkey
        have HKEY := hide hkey
        clear hkey
        go_wp2_with fail
        refine CV.out.mono ?_
        rintro e w1 ⟨b, hbv, rfl, ow1⟩
        have O1 := hide (Old.trans HW.out ow1)
        have HB := hide hbv
        clear hbv ow1 k0 k1
        cases b
        · go_wp2_with fail
          go_ret
          exact says_no (fun h => parts_none hlt (fun hv => by simpa using HB.out.2 hv) (HIF.out.1 h)) O1.out
        · obtain ⟨j, r, hv⟩ := HB.out.1 rfl
          obtain ⟨_, hx⟩ := head_flat hv.2.1
          obtain ⟨q, hq⟩ : ∃ q, j.flat.length = q := ⟨_, rfl⟩
          have HV := hide hv
          have hqE : p + q ≤ E := by rw [← hq]; exact hv.2.2
          have hqp : 0 < q := by rw [← hq]; exact flat_pos j
          have k4 := (Old.trans HO.out O1.out).cell HX4.out
          have k0 := (Old.trans HO.out O1.out).cell Y0.out
          rw [hx, hq] at k4
          have HQ := hide hq
          have HNX := hide (show IsParts t (a + 1) E false [] ↔ IsParts t (p + q) E false (had ++ [j.key]) by
            rw [HIF.out, parts_step hlt HV.out, HQ.out]
            have : keyOk false had j.key := by
              have e := HKEY.out
              rw [hx] at e
              exact e
            simp [this])
          clear hv hx hq hkey'
          go_wp2_with fail
          go_roundw
          case rel => exact ⟨had ++ [j.key], p + q, by go_num, by omega, hqE, HNX, O1⟩
          case measure => simp [intOf]; omega
      · have hkey' : ¬ t[p].key.toList = [] := fun h => hkey ((str_none _).1 h)
        have HKEY := hide hkey
        clear hkey
        go_wp2_with fail
        go_ret
        exact says_no (fun h => HKEY.out (parts_key hlt hpt (HIF.out.1 h))) HW.out
    · have hpe : p = E := by omega
      have HYES := hide (show IsParts t (a + 1) E false [] by rw [HIF.out, hpe]; exact parts_end)
      clear hpe y0' y4'
      go_wp2_with fail
      go_ret
      exact says_yes HYES.out HW.out

set_option maxRecDepth 100000 in
set_option maxHeartbeats 1000000 in
theorem parts_obj (ht : NodesIs w0 v t) (hl : t.length ≤ 4000) (hk : TextsOk t) (ha : a < t.length) (hs : t[a].size = (n : Int) + 1) (hb : a + 1 + n ≤ t.length) (h7 : t[a].kind = 7)
    (IH : ∀ p E w, a < p → p < E → E ≤ t.length → Old w0 w → Calls Tryd.prog 50 #[v, .int .i64 p, .int .i64 E] w (SaysB (IsVal t p E) w)) :
    ∀ w, Old w0 w → Calls Tryd.prog 74 #[v, .int .i64 a] w (SaysB (IsParts t (a + 1) (a + 1 + n) true []) w) := by
  intro w ho
  obtain ⟨A, ca, rfl, hla, hma, hc⟩ := ht.nodes
  unfold maxLen at hma
  obtain ⟨b1, o1, rfl, hc1⟩ := hc.resolve_left (by omega)
  have HC := hide hc1
  have HI := hide IH
  have HO := hide ho
  have HTX := hide hk
  obtain ⟨y0, _, _, _, y4⟩ := hc1 a ha
  rw [h7] at y0
  rw [hs] at y4
  have Y0 := hide y0
  have y0' := ho.cell y0
  have y4' := ho.cell y4
  obtain ⟨E, hE⟩ : ∃ E : Nat, Hid (a + 1 + n = E) := ⟨_, hide rfl⟩
  have hEt : E ≤ t.length := by rw [← hE.out]; exact hb
  have hn : n ≤ 4000 := by omega
  rw [hE.out]
  have haE : a + 1 ≤ E := by rw [← hE.out]; omega
  have hEn : (a : Int) + ((n : Int) + 1) = (E : Int) := by rw [← hE.out]; omega
  have HEN := hide hEn
  clear ht hc hc1 hs h7 IH ho hk y0 y4 hb hEn
  go_enter Tryd.func74, Tryd.ntmps74
  go_wp2_with fail
  rw [HEN.out]
  go_loopw [6] (fun i wr => ∃ (l1 : List J) (r1 : List Nd) (p : Nat), i = .int .i64 p ∧ a < p ∧ p ≤ E ∧ Hid (t.drop (a + 1) = J.flats l1 ++ r1) ∧ Hid (a + 1 + (J.flats l1).length = p) ∧ Hid (IsParts t (a + 1) E true [] ↔ IsParts t p E true (l1.map J.key)) ∧ Hid (Old w wr)) (fun i _ => E - (intOf i).toNat)
  case atStart => exact ⟨[], t.drop (a + 1), a + 1, rfl, by omega, by omega, hide (by simp [J.flats]), hide (by simp [J.flats]), hide Iff.rfl, hide (Old.refl _)⟩
  case round =>
    obtain ⟨l1, r1, p, rfl, hap, hpE, HD1, HP1, HIF, HW⟩ := hrel
    by_cases hlt : p < E
    · have hpt : p < t.length := by omega
      obtain ⟨x0, x1, x2, x3, x4⟩ := HC.out p hpt
      have HX1 := hide x1
      have HX4 := hide x4
      have o0 := Old.trans HO.out HW.out
      have k0 := o0.cell Y0.out
      have CV := hide (HI.out p E wr hap hlt hEt o0)
      clear x0 x1 x2 x3 x4 o0 y0' y4'
      go_wp2_with fail
      refine CV.out.mono ?_
      rintro e w1 ⟨b, hbv, rfl, ow1⟩
      have O1 := hide (Old.trans HW.out ow1)
      have HB := hide hbv
      clear hbv ow1 k0
      cases b
      · go_wp2_with fail
        go_ret
        exact says_no (fun h => parts_none hlt (fun hv => by simpa using HB.out.2 hv) (HIF.out.1 h)) O1.out
      · obtain ⟨j, r, hv⟩ := HB.out.1 rfl
        obtain ⟨_, hx⟩ := head_flat hv.2.1
        have hks := (HTX.out _ (List.getElem_mem hpt)).1
        have HX4' := hide (show w0.cell? ⟨b1, o1 + p * 5 + 4, none⟩ = some (.int .i64 j.flat.length) by have := HX4.out; rw [hx] at this; exact this)
        have HX1' := hide (show w0.cell? ⟨b1, o1 + p * 5 + 1, none⟩ = some (.string j.hd.key) by have := HX1.out; rw [hx] at this; exact this)
        rw [hx] at hks
        simp only at hks
        have HVK := hide (fun w' => ref_Valid' j.hd.key w' (by unfold maxLen at hks; omega))
        have HKE := hide (show keyOk true (l1.map J.key) j.hd.key ↔ vU j.hd.key = true ∧ j.hd.key ∉ l1.map J.key by unfold keyOk; simp)
        have HV := hide hv
        have HNX := hide (show IsParts t (a + 1) E true [] ↔ keyOk true (l1.map J.key) j.hd.key ∧ IsParts t (p + j.flat.length) E true ((l1 ++ [j]).map J.key) by
          rw [HIF.out, parts_step hlt HV.out]
          simp [J.key])
        have hqE : p + j.flat.length ≤ E := hv.2.2
        have hqp := flat_pos j
        have HDN := hide (show t.drop (a + 1) = J.flats (l1 ++ [j]) ++ r by
          have h1 := hv.2.1
          rw [← HP1.out, ← List.drop_drop, HD1.out, List.drop_left' rfl] at h1
          rw [HD1.out, h1, flats_append, flats_one, List.append_assoc])
        have HPN := hide (show a + 1 + (J.flats (l1 ++ [j])).length = p + j.flat.length by rw [flats_append, flats_one, List.length_append, ← HP1.out]; omega)
        clear hv hx HX4 HX1 hks
        obtain ⟨q, hq⟩ : ∃ q, Hid (j.flat.length = q) := ⟨_, hide rfl⟩
        rw [hq.out] at HX4' HNX hqE hqp HPN
        have k1 := (Old.trans HO.out O1.out).cell HX1'.out
        have k0 := (Old.trans HO.out O1.out).cell Y0.out
        cases hvk : vU j.hd.key
        · rw [hvk] at HKE
          have HVK1 := hide (show ∀ w', Calls Tryd.prog 73 #[.string j.hd.key] w' fun e w2 => e = .returned (.bool false) ∧ Old w' w2 by rw [← hvk]; exact HVK.out)
          clear hvk
          go_wp2_with fail
          refine (HVK1.out _).mono ?_
          rintro e w2 ⟨rfl, ow2⟩
          go_wp2_with fail
          go_ret
          exact says_no (fun h => by have := (HKE.out.1 (HNX.out.1 h).1).1; simp at this) (Old.trans O1.out ow2)
        · rw [hvk] at HKE
          have HVK1 := hide (show ∀ w', Calls Tryd.prog 73 #[.string j.hd.key] w' fun e w2 => e = .returned (.bool true) ∧ Old w' w2 by rw [← hvk]; exact HVK.out)
          clear hvk
          go_wp2_with fail
          refine (HVK1.out _).mono ?_
          rintro e w2 ⟨rfl, ow2⟩
          have O2 := hide (Old.trans O1.out ow2)
          clear ow2 k0 k1
          obtain ⟨wv, hwv⟩ : ∃ x, x = wr := ⟨_, rfl⟩
          subst hwv
          go_wp2_with fail
          go_loopw [7] (fun i wz => ∃ (la lb : List J) (p2 : Nat), i = .int .i64 p2 ∧ a < p2 ∧ p2 ≤ p ∧ Hid (l1 = la ++ lb) ∧ Hid (a + 1 + (J.flats la).length = p2) ∧ Hid (j.hd.key ∉ la.map J.key) ∧ Hid (Old w wz)) (fun i _ => p - (intOf i).toNat)
          case atStart => exact ⟨[], l1, a + 1, by go_num, by omega, by omega, hide rfl, hide (by simp [J.flats]), hide (by simp), O2⟩
          case round =>
            obtain ⟨la, lb, p2, rfl, hap2, hp2, HL, HP2, HNK, HZ⟩ := hrel
            by_cases hlt2 : p2 < p
            · have hp2t : p2 < t.length := by omega
              cases lb with
              | nil =>
                have h1 := HP2.out
                have h2 := HP1.out
                rw [HL.out, List.append_nil] at h2
                omega
              | cons jk lb =>
                have hdk : t.drop p2 = jk.flat ++ (J.flats lb ++ r1) := by
                  have := HD1.out
                  rw [HL.out] at this
                  rw [← HP2.out, drop_part this, flats_cons, List.append_assoc]
                obtain ⟨_, hxk⟩ := head_flat hdk
                obtain ⟨z0, z1, z2, z3, z4⟩ := HC.out p2 hp2t
                rw [hxk] at z1 z4
                have hjk := flat_pos jk
                have hsum : p2 + jk.flat.length ≤ p := by
                  have h1 := HP2.out
                  have h2 := HP1.out
                  rw [HL.out, flats_append, flats_cons, List.length_append, List.length_append] at h2
                  omega
                have HPN2 := hide (show a + 1 + (J.flats (la ++ [jk])).length = p2 + jk.flat.length by rw [flats_append, flats_one, List.length_append, ← HP2.out]; omega)
                obtain ⟨q2, hq2⟩ : ∃ q, Hid (jk.flat.length = q) := ⟨_, hide rfl⟩
                rw [hq2.out] at z4 hjk hsum HPN2
                have HZ4 := hide z4
                have u1 := (Old.trans HO.out HZ.out).cell z1
                have u2 := (Old.trans HO.out HZ.out).cell HX1'.out
                have u4 := (Old.trans HO.out HZ.out).cell HZ4.out
                clear z0 z1 z2 z3 z4 hdk hxk
                by_cases hke : jk.hd.key = j.hd.key
                · have HKE2 := hide hke
                  have hkt : (jk.hd.key.toList == j.hd.key.toList) = true := by rw [hke]; simp
                  clear hke
                  go_wp2_with fail
                  go_quiet (fail)
                  go_wp2_with fail
                  go_ret
                  exact says_no (fun h => by
                    have := (HKE.out.1 (HNX.out.1 h).1).2
                    apply this
                    rw [HL.out]
                    simp only [List.map_append, List.map_cons, List.mem_append, List.mem_cons]
                    exact .inr (.inl HKE2.out.symm)) (Old.drewN HZ.out _)
                · have HKE2 := hide hke
                  have hkt1 : ¬ jk.hd.key.toList = j.hd.key.toList := fun e => hke (bytes_ext e)
                  have hkt : (jk.hd.key.toList == j.hd.key.toList) = false := beq_eq_false_iff_ne.2 hkt1
                  clear hke hkt1
                  go_wp2_with fail
                  go_quiet (fail)
                  go_wp2_with fail
                  go_roundw
                  case rel => exact ⟨la ++ [jk], lb, p2 + q2, by go_num, by omega, hsum, hide (by rw [HL.out]; simp), HPN2, hide (by
                    simp only [List.map_append, List.map_cons, List.map_nil, List.mem_append, List.mem_singleton, not_or]
                    exact ⟨HNK.out, fun e => HKE2.out e.symm⟩), hide (Old.drewN HZ.out _)⟩
                  case measure => simp [intOf]; omega
            · have HNO := hide (show j.hd.key ∉ l1.map J.key by
                have h1 := HP2.out
                have h2 := HP1.out
                have h3 : (J.flats lb).length = 0 := by
                  rw [HL.out, flats_append, List.length_append] at h2
                  omega
                have h4 : lb = [] := by
                  cases lb with
                  | nil => rfl
                  | cons x lb => have := flat_pos x; rw [flats_cons, List.length_append] at h3; omega
                rw [HL.out, h4, List.append_nil]
                exact HNK.out)
              have u4 := (Old.trans HO.out HZ.out).cell HX4'.out
              have HFIN := hide (show IsParts t (a + 1) E true [] ↔ IsParts t (p + q) E true ((l1 ++ [j]).map J.key) by
                rw [HNX.out]
                have : keyOk true (l1.map J.key) j.hd.key := HKE.out.2 ⟨by trivial, HNO.out⟩
                simp [this])
              go_wp2_with fail
              go_roundw
              case rel => exact ⟨l1 ++ [j], r, p + q, by go_num, by omega, hqE, HDN, HPN, HFIN, HZ⟩
              case measure => simp [intOf]; omega
    · have hpe : p = E := by omega
      have HYES := hide (show IsParts t (a + 1) E true [] by rw [HIF.out, hpe]; exact parts_end)
      clear hpe y0' y4'
      go_wp2_with fail
      go_ret
      exact says_yes HYES.out HW.out
end
end Go.Proofs.YtmolmphbhdbcaaaDoor

