/- tape.Get. -/
import Derived.Test.YtkefhhnbkhijgaaDoorPartT
namespace Go.Proofs.YtkefhhnbkhijgaaDoor
open Go.RowKit

/-- the member of a key -/
def member (l : List J) (key : ByteArray) : Option J := l.find? fun j => decide (j.key = key)
/-- what Get answers -/
def GetT (t : List Nd) (key : ByteArray) (ps : List Nd) (is : Bool) : Prop :=
  ((chkT t ≠ 0 ∨ ∃ h l, May t (.mk h l) ∧ h.kind ≠ 7) ∧ ps = [] ∧ is = false) ∨ ∃ h l, May t (.mk h l) ∧ h.kind = 7 ∧ ((member l key = none ∧ ps = [] ∧ is = false) ∨ ∃ j, member l key = some j ∧ ps = j.unkey.flat ∧ is = true)
theorem GetT_some (t : List Nd) (key : ByteArray) : ∃ ps is, GetT t key ps is := by
  by_cases h : chkT t = 0
  · obtain ⟨⟨hd, l⟩, hj⟩ := may_of h
    by_cases hk : hd.kind = 7
    · cases hm : member l key with
      | none => exact ⟨_, _, .inr ⟨hd, l, hj, hk, .inl ⟨hm, rfl, rfl⟩⟩⟩
      | some j => exact ⟨_, _, .inr ⟨hd, l, hj, hk, .inr ⟨j, hm, rfl, rfl⟩⟩⟩
    · exact ⟨_, _, .inl ⟨.inr ⟨hd, l, hj, hk⟩, rfl, rfl⟩⟩
  · exact ⟨_, _, .inl ⟨.inl h, rfl, rfl⟩⟩
theorem member_none {l1 : List J} {key : ByteArray} (h : ∀ j ∈ l1, j.key ≠ key) (l2 : List J) : member (l1 ++ l2) key = member l2 key := by
  unfold member
  rw [List.find?_append, List.find?_eq_none.2 (by simpa using h)]
  rfl
theorem member_here {j : J} {l : List J} {key : ByteArray} (h : j.key = key) : member (j :: l) key = some j := by simp [member, h]
/-- new nodes, and whether there are some -/
def NewNodesB (w0 : World) (l : List Nd) (b : Bool) (e : Ending) (w' : World) : Prop := ∃ v, e = .returned (.tuple #[v, .bool b]) ∧ NodesT w0.heap.size w' v l ∧ Old w0 w'
theorem ints_cell {w : World} {v : Value} {l : List Nat} {lo m : Nat} (h : IntsT lo w v l) (hm : l.length = m) : ∃ A cap, v = .slice A m cap ∧ m ≤ cap ∧ cap ≤ maxLen ∧ (m = 0 ∨ ∃ b off, A = some ⟨b, off, none⟩ ∧ ∀ (i n : Nat), l[i]? = some n → w.cell? ⟨b, off + i, none⟩ = some (.int .i64 (n : Int))) := by
  subst hm
  obtain ⟨A, cap, rfl, h1, h2, h3⟩ := h.sl
  refine ⟨A, cap, rfl, h1, h2, ?_⟩
  cases l with
  | nil => exact .inl rfl
  | cons x l =>
    obtain ⟨b, off, rfl, hc⟩ := h3 (by simp [intVals])
    exact .inr ⟨b, off, rfl, fun i n hn => hc i _ (by simp only [intVals, List.getElem?_map, hn, Option.map_some])⟩
theorem starts_at {a : Nat} {l1 l2 : List J} {j : J} : (starts a (l1 ++ j :: l2))[l1.length]? = some (a + (J.flats l1).length) := by
  rw [starts_append, List.getElem?_append_right (by rw [starts_length]; exact Nat.le_refl _), starts_length, Nat.sub_self]
  rfl
theorem kids_ok {V : ByteArray → Bool} {h : Hd} {l : List J} (hok : J.Ok V (.mk h l)) : J.Oks V l := by
  simp only [J.Ok] at hok
  rcases hok with ⟨_, rfl⟩ | ⟨_, _, h, _⟩ | ⟨_, _, h, _⟩
  · simp [J.Oks]
  · exact h
  · exact h
theorem part_kid {t : List Nd} {h : Hd} {l1 l2 : List J} {j : J} (hm : May t (.mk h (l1 ++ j :: l2))) : PartT t ((0 + 1 + (J.flats l1).length : Nat) : Int) j.unkey.flat := by
  have hd : t.drop 0 = J.flat (.mk h (l1 ++ j :: l2)) ++ [] := by rw [List.drop_zero, List.append_nil]; exact hm.1.2.2
  have hd2 := drop_flat hd
  rw [flats_cons, List.append_assoc] at hd2
  obtain ⟨ha, _⟩ := head_flat hd2
  have hok := oks_mem (kids_ok hm.1.1) j (by simp)
  refine .inr ⟨_, j, _, _, hm, rfl, ha, hd2, hok, ?_, rfl⟩
  have := deep_le_deeps (l := l1 ++ j :: l2) (j := j) (by simp)
  simp only [J.deep]
  omega

set_option maxRecDepth 100000 in
set_option maxHeartbeats 1000000 in
theorem get_run (v : Value) (t : List Nd) (key : ByteArray) (ps : List Nd) (is : Bool) (w : World) (ht : NodesIs w v t) (hk : TextsOk t) (hT : Tabs w) (hg : GetT t key ps is) :
    Calls Tryd.prog 31 #[v, .string key] w (NewNodesB w ps is) := by
  have CC := hide (check_run v t w ht hk hT)
  have HTN := hide ht
  have HK := hide hk
  have HTT := hide hT
  have V0 : ∃ v', v' = v := ⟨v, rfl⟩
  obtain ⟨A, ca, rfl, hla, hma, hc⟩ := ht.nodes
  unfold maxLen at hma
  clear ht hk hT
  rcases hg with ⟨hbad, rfl, rfl⟩ | ⟨h, l, hj, hk7, hmem⟩
  · by_cases h0 : chkT t = 0
    · obtain ⟨h, l, hj, hk7⟩ := hbad.resolve_left (fun h => h h0)
      have C0 := hide (num_as CC.out h0)
      have hd : t.drop 0 = J.flat (.mk h l) ++ [] := by rw [List.drop_zero, List.append_nil]; exact hj.1.2.2
      obtain ⟨hpos, hx⟩ := head_flat (j := .mk h l) hd
      obtain ⟨b1, o1, rfl, hc1⟩ := hc.resolve_left (by omega)
      obtain ⟨d0, _⟩ := hc1 0 hpos
      rw [hx] at d0
      have D0 := hide (show w.cell? ⟨b1, o1, none⟩ = some (.int .i64 h.kind) by simpa [J.hd] using d0)
      have hk7' : (h.kind != 7) = true := by simpa using hk7
      clear CC hbad hc hc1 d0 hd hx hj h0 hk7
      go_enter Tryd.func31, Tryd.ntmps31
      go_wp2_with fail
      refine C0.out.mono ?_
      rintro e w1 ⟨rfl, ow1⟩
      have d0 := ow1.cell D0.out
      go_wp2_with fail
      go_ret2
      exact ⟨_, rfl, SlT.nil_ _, ow1⟩
    · have hc' : (chkT t != 0) = true := by simpa using h0
      clear hbad h0 hc
      go_enter Tryd.func31, Tryd.ntmps31
      go_wp2_with fail
      refine CC.out.mono ?_
      rintro e w1 ⟨rfl, o1⟩
      go_wp2_with fail
      go_ret2
      exact ⟨_, rfl, SlT.nil_ _, o1⟩
  · have C0 := hide (num_as CC.out (chkT_may hj))
    have hd : t.drop 0 = J.flat (.mk h l) ++ [] := by rw [List.drop_zero, List.append_nil]; exact hj.1.2.2
    obtain ⟨hpos, hx⟩ := head_flat (j := .mk h l) hd
    have hl4 := hj.2.1
    have CK := hide (show ∀ w', Old w w' → Calls Tryd.prog 56 #[.slice A t.length ca, .int .i64 (0 : Nat)] w' fun e w2 => ∃ v, e = .returned v ∧ IntsT w'.heap.size w2 v (starts (0 + 1) l) ∧ Old w' w2 from fun w' ho => kids_run _ t 0 h l [] w' (HTN.out.old ho) hl4 hd)
    have CP := hide (show ∀ w' l1 j l2, Old w w' → l = l1 ++ j :: l2 → Calls Tryd.prog 33 #[.slice A t.length ca, .int .i64 ((0 + 1 + (J.flats l1).length : Nat) : Int)] w' fun e w2 => ∃ v, e = .returned v ∧ NodesT w.heap.size w2 v j.unkey.flat ∧ Old w w2 from fun w' l1 j l2 ho e =>
      (part_run _ t _ _ w' (HTN.out.old ho) HK.out (HTT.out.old ho) (part_kid (by rw [← e]; exact hj))).mono fun _ _ ⟨v, h1, h2, h3⟩ => ⟨v, h1, h2.mono ho.size, Old.trans ho h3⟩)
    obtain ⟨b1, o1, rfl, hc1⟩ := hc.resolve_left (by omega)
    obtain ⟨d0, _⟩ := hc1 0 hpos
    rw [hx] at d0
    have D0 := hide (show w.cell? ⟨b1, o1, none⟩ = some (.int .i64 7) by simpa [J.hd, hk7] using d0)
    have HC := hide hc1
    have HD := hide hd
    have HMEM := hide hmem
    have hnk : l.length ≤ t.length := by
      have e := congrArg List.length hd
      rw [flat_mk] at e
      have := len_flats l
      simp at e
      omega
    clear CC hc hc1 d0 hd hx hk7 hmem hj
    go_enter Tryd.func31, Tryd.ntmps31
    go_wp2_with fail
    refine C0.out.mono ?_
    rintro e w1 ⟨rfl, ow1⟩
    have d0 := ow1.cell D0.out
    go_wp2_with fail
    refine (CK.out _ ow1).mono ?_
    rintro e w2 ⟨kv, rfl, hkv, ow2⟩
    obtain ⟨n, hn⟩ : ∃ n, Hid (l.length = n) := ⟨_, hide rfl⟩
    obtain ⟨AK, ck, rfl, k1, k2, k3⟩ := ints_cell hkv (show (starts (0 + 1) l).length = n by rw [starts_length, hn.out])
    unfold maxLen at k2
    have K3 := hide k3
    have O2 := hide (Old.trans ow1 ow2)
    have hn4 : n ≤ 4000 := by have := hn.out; omega
    clear hkv k3 ow2 d0 hnk
    go_wp2_with fail
    go_loopw [21] (fun i wr => ∃ (l1 l2 : List J) (k : Nat), i = .int .i64 k ∧ k ≤ n ∧ Hid (l = l1 ++ l2) ∧ Hid (l1.length = k) ∧ Hid (∀ j ∈ l1, j.key ≠ key) ∧ Hid (Old w2 wr)) (fun i _ => n - (intOf i).toNat)
    case atStart => exact ⟨[], l, 0, rfl, by omega, hide rfl, hide rfl, hide (by simp), hide (Old.refl _)⟩
    case round =>
      obtain ⟨l1, l2, k, rfl, hk, HL, HL1, HNO, HO⟩ := hrel
      by_cases hkn : k < n
      · cases l2 with
        | nil =>
          exfalso
          have h1 := HL.out
          have h2 := HL1.out
          have h3 := hn.out
          rw [h1] at h3
          simp at h3
          omega
        | cons j l3 =>
          obtain ⟨bk, ok, rfl, hkc⟩ := K3.out.resolve_left (by omega)
          have hst := hkc k (0 + 1 + (J.flats l1).length) (by
            have := starts_at (a := 0 + 1) (l1 := l1) (l2 := l3) (j := j)
            rw [← HL.out, HL1.out] at this
            exact this)
          have HDP : t.drop (0 + 1 + (J.flats l1).length) = j.flat ++ (J.flats l3 ++ []) := by
            have := HD.out
            rw [HL.out] at this
            rw [drop_flat this, flats_cons, List.append_assoc]
          obtain ⟨hpt, hpx⟩ := head_flat HDP
          obtain ⟨_, d1, _⟩ := HC.out _ hpt
          rw [hpx] at d1
          have CPJ := hide (fun w' ho => CP.out w' l1 j l3 ho HL.out)
          obtain ⟨p, hp⟩ : ∃ p, Hid (0 + 1 + (J.flats l1).length = p) := ⟨_, hide rfl⟩
          rw [hp.out] at hst hpt d1 CPJ
          have hst2 := HO.out.cell hst
          have d12 := (Old.trans O2.out HO.out).cell d1
          clear hkc hst HDP hpx d1
          by_cases hkey : j.key = key
          · have HKEY := hide hkey
            have hke : j.hd.key = key := hkey
            simp only [hke] at d12
            clear hkey hke
            go_wp2_with fail
            refine (CPJ.out _ (Old.trans O2.out HO.out)).mono ?_
            rintro e w3 ⟨pv, rfl, h3, o3⟩
            have P3 := hide h3
            clear h3
            have FIN := hide (show ps = j.unkey.flat ∧ is = true by
              have hm : member l key = some j := by rw [HL.out, member_none HNO.out, member_here HKEY.out]
              rcases HMEM.out with ⟨h, _, _⟩ | ⟨j', h, h5, h6⟩
              · rw [hm] at h; cases h
              · rw [hm] at h
                injection h with h
                subst h
                exact ⟨h5, h6⟩)
            go_wp2_with fail
            go_ret2
            exact ⟨_, by rw [FIN.out.2]; rfl, by rw [FIN.out.1]; exact P3.out, o3⟩
          · have hkey1 : ¬ j.hd.key.toList = key.toList := fun e => hkey (bytes_ext e)
            have hkey2 : (j.hd.key.toList == key.toList) = false := beq_eq_false_iff_ne.2 hkey1
            have HKEY := hide hkey
            clear hkey
            go_wp2_with fail
            go_roundw
            case rel => exact ⟨l1 ++ [j], l3, k + 1, by go_num, by omega, hide (by rw [HL.out]; simp), hide (by simp [HL1.out]), hide (by intro x hx; rcases List.mem_append.1 hx with hx | hx; exact HNO.out x hx; simp at hx; subst hx; exact HKEY.out), HO⟩
            case measure => simp [intOf]; omega
      · have hkk : k = n := by omega
        have FIN := hide (show ps = [] ∧ is = false by
          have hl2 : l2 = [] := by
            have h1 := hn.out
            have h2 := HL1.out
            rw [HL.out, List.length_append] at h1
            exact List.eq_nil_of_length_eq_zero (by omega)
          have hm : member l key = none := by
            rw [HL.out, hl2, member_none HNO.out]
            rfl
          rcases HMEM.out with ⟨_, h5, h6⟩ | ⟨j', h, _, _⟩
          · exact ⟨h5, h6⟩
          · rw [hm] at h; cases h)
        go_wp2_with fail
        go_ret2
        exact ⟨_, by rw [FIN.out.2]; rfl, by rw [FIN.out.1]; exact SlT.nil_ _, Old.trans O2.out HO.out⟩
end Go.Proofs.YtkefhhnbkhijgaaDoor
