/- tape.List. -/
import Derived.Test.YtmolmphbhdbcaaaGreatDoorWhole
/-! ### tape.List. -/
namespace Go.Proofs.YtmolmphbhdbcaaaGreatDoor
open Go.RowKit

/-- all parts may be: these values -/
def AllMay (pl : List (List Nd)) (js : List J) : Prop := pl.length = js.length ∧ ∀ i, (h : i < pl.length) → (h' : i < js.length) → May pl[i] js[i]
theorem allMay_of : ∀ {pl : List (List Nd)}, (∀ i : Nat, (h : i < pl.length) → chkT pl[i] = 0) → ∃ js, AllMay pl js
  | [], _ => ⟨[], rfl, fun i h => absurd h (by simp)⟩
  | p :: pl, h => by
    obtain ⟨j, hj⟩ := may_of (show chkT p = 0 from h 0 (by simp))
    obtain ⟨js, h1, h2⟩ := allMay_of (pl := pl) (fun i hi => by have := h (i + 1) (by simpa using hi); simpa using this)
    refine ⟨j :: js, by simp [h1], fun i hi hi' => ?_⟩
    cases i with
    | zero => exact hj
    | succ i => exact h2 i (by simpa using hi) (by simpa using hi')
theorem allMay_chk {pl : List (List Nd)} {js : List J} (h : AllMay pl js) : ∀ i : Nat, (hi : i < pl.length) → chkT pl[i] = 0 := fun i hi => chkT_may (h.2 i hi (by have := h.1; omega))
theorem rekey_same {j : J} (h : j.key = none_) : j.rekey none_ = j := by
  cases j with
  | mk hd l =>
    obtain ⟨h1, h2, h3, h4⟩ := hd
    have e : h2 = none_ := h
    rw [J.rekey, e]
theorem rekeys_none : ∀ {js : List J}, (∀ j ∈ js, j.key = none_) → rekeys (List.replicate js.length none_) js = js
  | [], _ => rfl
  | j :: js, h => by
    rw [List.length_cons, List.replicate_succ, rekeys, rekey_same (h j (by simp)), rekeys_none fun x hx => h x (by simp [hx])]
theorem allMay_keys {pl : List (List Nd)} {js : List J} (h : AllMay pl js) : ∀ j ∈ js, j.key = none_ := by
  intro j hj
  obtain ⟨i, hi, rfl⟩ := List.getElem_of_mem hj
  exact (h.2 i (by have := h.1; omega) hi).1.2.1
/-- what List answers -/
def ListT (pl : List (List Nd)) (out : List Nd) (e : Int) : Prop :=
  (∃ i : Nat, ∃ h : i < pl.length, (∀ j : Nat, (hj : j < pl.length) → j < i → chkT pl[j] = 0) ∧ chkT pl[i] ≠ 0 ∧ e = chkT pl[i] ∧ out = []) ∨ ∃ js, AllMay pl js ∧ WholeT 6 js out e

set_option maxRecDepth 100000 in
set_option maxHeartbeats 1000000 in
theorem list_run (v : Value) (pl : List (List Nd)) (out : List Nd) (er : Int) (w : World) (hp : PartsIs w v pl) (htx : ∀ p ∈ pl, TextsOk p) (hT : Tabs w) (hl : ListT pl out er) :
    Calls Tryz.prog 48 #[v] w (NewNodesE w out er) := by
  have HP := hide hp
  obtain ⟨A, ca, rfl, hla, hma, hc⟩ := hp.open_
  unfold maxLen at hma
  have HC := hide hc
  have HTX := hide htx
  have HT := hide hT
  have HL := hide hl
  clear hp hc htx hT hl
  go_enter Tryz.func48, Tryz.ntmps48
  go_wp2_with fail
  go_loopw [9] (fun i wr => ∃ k : Nat, i = .int .i64 k ∧ k ≤ pl.length ∧ Hid (∀ j : Nat, (hj : j < pl.length) → j < k → chkT pl[j] = 0) ∧ Hid (Old w wr)) (fun i _ => pl.length - (intOf i).toNat)
  case atStart => exact ⟨0, rfl, by omega, hide (by intro j _ h; omega), hide (Old.refl _)⟩
  case round =>
    obtain ⟨k, rfl, hk, HQ, HO⟩ := hrel
    by_cases hlt : k < pl.length
    · obtain ⟨b1, o1, rfl, hc1⟩ := HC.out.resolve_left (by omega)
      obtain ⟨A', c', x0, x1, x2, x3⟩ := hc1 k hlt
      have CC := hide (check_run _ _ wr (x3.old HO.out) (HTX.out _ (List.getElem_mem hlt)) (HT.out.old HO.out))
      have e0 := HO.out.cell x0
      obtain ⟨c, hcc⟩ : ∃ c, Hid (chkT pl[k] = c) := ⟨_, hide rfl⟩
      rw [hcc.out] at CC
      unfold maxLen at x2
      clear hc1 x0 x3
      by_cases h0 : c = 0
      · subst h0
        go_wp2_with fail
        refine CC.out.mono ?_
        rintro e w1 ⟨rfl, ow1⟩
        have HQ2 := hide (show ∀ j : Nat, (hj : j < pl.length) → j < k + 1 → chkT pl[j] = 0 from fun j hj hjk => by
          rcases Nat.lt_or_ge j k with h | h
          · exact HQ.out j hj h
          · have : j = k := by omega
            subst this
            exact hcc.out)
        have O2 := hide (Old.trans HO.out ow1)
        clear ow1 e0
        go_wp2_with fail
        go_roundw
        case rel => exact ⟨k + 1, by go_num, by omega, HQ2, O2⟩
        case measure => simp [intOf]; omega
      · have h0' : (c != 0) = true := by simpa using h0
        have FIN := hide (show out = [] ∧ er = c by
          rcases HL.out with ⟨i, hi, h1, h2, h3, h4⟩ | ⟨js, hj, _⟩
          · have : i = k := by
              rcases Nat.lt_trichotomy i k with h | h | h
              · exact absurd (HQ.out i hi h) h2
              · exact h
              · exact absurd (hcc.out.symm.trans (h1 k hlt h)) h0
            subst this
            exact ⟨h4, h3.trans hcc.out⟩
          · exact absurd (hcc.out.symm.trans (allMay_chk hj k hlt)) h0)
        clear h0
        go_wp2_with fail
        refine CC.out.mono ?_
        rintro e w1 ⟨rfl, ow1⟩
        have O2 := hide (Old.trans HO.out ow1)
        clear ow1 e0
        go_wp2_with fail
        go_ret2
        exact ⟨_, by rw [FIN.out.2]; rfl, by rw [FIN.out.1]; exact SlT.nil_ _, O2.out⟩
    · have CW := hide (show Calls Tryz.prog 63 #[.int .i64 6, .func (.func 64) #[] #[], .slice A pl.length ca] wr (NewNodesE wr out er) by
        rcases HL.out with ⟨i, hi, h1, h2, h3, h4⟩ | ⟨js, hj, hw⟩
        · exact absurd (HQ.out i hi (by omega)) h2
        · refine whole_list _ pl js (List.replicate js.length none_) out er wr (fun k hk => (List.mem_replicate.1 hk).2) (HP.out.old HO.out) hj.1 (by simp) hj.2 HTX.out (HT.out.old HO.out) ?_
          rw [rekeys_none (allMay_keys hj)]
          exact hw)
      go_wp2_with fail
      refine CW.out.mono ?_
      rintro e w1 ⟨v1, rfl, h1, o1⟩
      have H1 := hide (h1.mono HO.out.size)
      have O2 := hide (Old.trans HO.out o1)
      clear h1 o1
      go_wp2_with fail
      go_ret2
      exact ⟨_, rfl, H1.out, O2.out⟩
end Go.Proofs.YtmolmphbhdbcaaaGreatDoor

/-! ### tape.Obj. -/
namespace Go.Proofs.YtmolmphbhdbcaaaGreatDoor
open Go.RowKit

/-- what is wrong with a member -/
def objErr (ks : List ByteArray) (pl : List (List Nd)) (i : Nat) : Int :=
  if vU (ks.getD i none_) = false then 40 else if hasKey (ks.take i) (ks.getD i none_) = true then 71 else chkT (pl.getD i [])
def ObjT (ks : List ByteArray) (pl : List (List Nd)) (out : List Nd) (e : Int) : Prop :=
  (ks.length ≠ pl.length ∧ out = [] ∧ e = 2) ∨ (ks.length = pl.length ∧
    ((∃ i, i < pl.length ∧ (∀ j, j < i → objErr ks pl j = 0) ∧ objErr ks pl i ≠ 0 ∧ e = objErr ks pl i ∧ out = []) ∨ ((∀ j, j < pl.length → objErr ks pl j = 0) ∧ ∃ js, AllMay pl js ∧ WholeT 7 (rekeys ks js) out e)))
theorem getD_at {α : Type} {l : List α} {i : Nat} (h : i < l.length) (d : α) : l.getD i d = l[i] := by simp [List.getD, List.getElem?_eq_getElem h]
theorem objErr_40 {ks : List ByteArray} {pl : List (List Nd)} {i : Nat} (h : i < ks.length) (hv : vU ks[i] = false) : objErr ks pl i = 40 := by
  unfold objErr
  rw [getD_at h, if_pos hv]
theorem objErr_71 {ks : List ByteArray} {pl : List (List Nd)} {i : Nat} (h : i < ks.length) (hv : vU ks[i] = true) (hh : hasKey (ks.take i) ks[i] = true) : objErr ks pl i = 71 := by
  unfold objErr
  rw [getD_at h, if_neg (by rw [hv]; decide), if_pos hh]
theorem objErr_chk {ks : List ByteArray} {pl : List (List Nd)} {i : Nat} (h : i < ks.length) (h' : i < pl.length) (hv : vU ks[i] = true) (hh : hasKey (ks.take i) ks[i] = false) : objErr ks pl i = chkT pl[i] := by
  unfold objErr
  rw [getD_at h, getD_at h', if_neg (by rw [hv]; decide), if_neg (by rw [hh]; decide)]
theorem obj_first {ks : List ByteArray} {pl : List (List Nd)} {out : List Nd} {e c : Int} {k : Nat} (h : ObjT ks pl out e) (hl : ks.length = pl.length) (hk : k < pl.length) (hq : ∀ j, j < k → objErr ks pl j = 0) (hc : objErr ks pl k = c) (h0 : c ≠ 0) : out = [] ∧ e = c := by
  rcases h with ⟨h, _⟩ | ⟨_, ⟨i, hi, h1, h2, h3, h4⟩ | ⟨h1, _⟩⟩
  · exact absurd hl h
  · have : i = k := by
      rcases Nat.lt_trichotomy i k with h | h | h
      · exact absurd (hq i h) h2
      · exact h
      · exact absurd (hc.symm.trans (h1 k h)) h0
    subst this
    exact ⟨h4, h3.trans hc⟩
  · exact absurd (hc.symm.trans (h1 k hk)) h0

set_option maxRecDepth 100000 in
set_option maxHeartbeats 1000000 in
theorem obj_run (kv v : Value) (ks : List ByteArray) (pl : List (List Nd)) (out : List Nd) (er : Int) (w : World) (hkv : TextsIs w kv ks) (hks : ∀ s ∈ ks, s.size ≤ maxLen) (hp : PartsIs w v pl) (htx : ∀ p ∈ pl, TextsOk p) (hT : Tabs w) (hl : ObjT ks pl out er) :
    Calls Tryz.prog 49 #[kv, v] w (NewNodesE w out er) := by
  have HP := hide hp
  have HKV := hide hkv
  have HKS := hide hks
  have HTX := hide htx
  have HT := hide hT
  have HL := hide hl
  obtain ⟨A, ca, rfl, hla, hma, hc⟩ := hp.open_
  obtain ⟨Bk, cb, rfl, hlb, hmb, hb⟩ := hkv.texts
  unfold maxLen at hma hmb
  have HC := hide hc
  have HB := hide hb
  clear hp hkv hks hc hb htx hT hl
  by_cases hn : ks.length = pl.length
  · have HN := hide hn
    have hn' : ((ks.length : Int) != (pl.length : Int)) = false := by simp [hn]
    have hl1 : ks.length ≤ pl.length := by omega
    have hl2 : pl.length ≤ ks.length := by omega
    clear hn
    obtain ⟨W1, hW1⟩ : ∃ W, Hid (w.alloc (.cells #[.slice Bk ks.length cb] 76) = W) := ⟨_, hide rfl⟩
    have O1 := hide (show Old w W1 by rw [← hW1.out]; exact (Old.refl w).alloc _)
    have B1 := hide (show W1.cell? ⟨w.heap.size, 0, none⟩ = some (.slice Bk ks.length cb) by rw [← hW1.out]; go_simp)
    have hmm := @run_makeMap Tryz.prog
    go_enter Tryz.func49, Tryz.ntmps49
    go_wp2_with fail
    go_loopw [20] (fun i wr => ∃ k : Nat, i = .int .i64 k ∧ k ≤ pl.length ∧ Hid (∀ j : Nat, j < k → objErr ks pl j = 0) ∧ Hid (Keys wr (w.heap.size + 1) (ks.take k)) ∧ Hid (Old W1 wr)) (fun i _ => pl.length - (intOf i).toNat)
    case atStart => exact ⟨0, rfl, by omega, hide (by intro j h; omega), hide (by have := keys_new W1; rw [← hW1.out] at this; simpa using this), hide (by rw [← hW1.out]; exact (Old.refl _).alloc _)⟩
    case round =>
      clear hmm
      obtain ⟨k, rfl, hk, HQ, HKEYS, HO⟩ := hrel
      have HOW := hide (Old.trans O1.out HO.out)
      by_cases hlt : k < pl.length
      · have hltk : k < ks.length := by omega
        obtain ⟨bk, ok, rfl, hkc⟩ := HB.out.resolve_left (by omega)
        obtain ⟨bp, op, rfl, hpc⟩ := HC.out.resolve_left (by omega)
        obtain ⟨A', c', x0, x1, x2, x3⟩ := hpc k hlt
        have X0 := hide x0
        have XN := hide x3
        have e0 := HOW.out.cell (hkc k hltk)
        obtain ⟨s, hs⟩ : ∃ s, Hid (ks[k] = s) := ⟨_, hide rfl⟩
        rw [hs.out] at e0
        have HSZ := hide (show s.size ≤ maxLen by rw [← hs.out]; exact HKS.out _ (List.getElem_mem hltk))
        have HPT := hide (HTX.out _ (List.getElem_mem hlt))
        have CV := hide (utf_Valid s wr (by have := HSZ.out; unfold maxLen at this; omega) (HT.out.old HOW.out))
        have CC := hide (show ∀ w', Old w w' → Calls Tryz.prog 21 #[.slice A' pl[k].length c'] w' fun e w2 => e = .returned (.int .i64 (chkT pl[k])) ∧ Old w' w2 from fun w' ho => check_run _ _ w' (XN.out.old ho) HPT.out (HT.out.old ho))
        unfold maxLen at x2
        clear hkc hpc x0 x3
        cases hv : vU s
        · rw [hv] at CV
          have FIN := hide (obj_first HL.out (by omega) hlt HQ.out (objErr_40 hltk (by rw [hs.out]; exact hv)) (by decide))
          clear hv
          go_wp2_with fail
          refine CV.out.mono ?_
          rintro e w2 ⟨rfl, o2⟩
          have O2 := hide (Old.trans HOW.out o2)
          clear o2 e0
          go_wp2_with fail
          go_ret2
          exact ⟨_, by rw [FIN.out.2]; rfl, by rw [FIN.out.1]; exact SlT.nil_ _, O2.out⟩
        · rw [hv] at CV
          have HV := hide hv
          clear hv
          cases hh : hasKey (ks.take k) s
          · have HH := hide hh
            clear hh
            have OE := hide (objErr_chk (pl := pl) hltk hlt (by rw [hs.out]; exact HV.out) (by rw [hs.out]; exact HH.out))
            obtain ⟨c, hc⟩ : ∃ c, Hid (chkT pl[k] = c) := ⟨_, hide rfl⟩
            rw [hc.out] at OE CC
            have hn63 : (ks.take k).length < maxLen := by rw [List.length_take]; unfold maxLen; omega
            go_wp2_with fail
            refine CV.out.mono ?_
            rintro e w2 ⟨rfl, o2⟩
            have K2 := hide (HKEYS.out.old o2)
            have O2 := hide (Old.trans HO.out o2)
            clear o2 e0
            go_upto_region 13 with (first
              | (at_lookup; refine wpList_look_keysC _ rfl _ _ 67 rfl Tryz.underlying67 _ (ks.take k) rfl K2.out s rfl HSZ.out false HH.out ?_; intro c0)
              | (at_mapUpdate; refine wpList_put_keys _ rfl _ _ _ 67 rfl Tryz.underlying67 _ (ks.take k) rfl K2.out hn63 s rfl HSZ.out k rfl (WalkArith.wf_i64 (by omega)) ?_; intro w3 K3 G3))
            have O3 := hide (grown_old O2.out G3 (by rw [← hW1.out]; simp))
            have HK3 := hide K3
            have OW3 := hide (Old.trans O1.out O3.out)
            have x0 := OW3.out.cell X0.out
            clear K3 G3 hn63
            by_cases h0 : c = 0
            · subst h0
              go_wp2_with fail
              refine (CC.out _ OW3.out).mono ?_
              rintro e w4 ⟨rfl, o4⟩
              have O4 := hide (Old.trans O3.out o4)
              have HK4 := hide (HK3.out.old o4)
              clear o4 x0
              have HQ2 := hide (show ∀ j : Nat, j < k + 1 → objErr ks pl j = 0 from fun j hjk => by
                rcases Nat.lt_or_ge j k with h | h
                · exact HQ.out j h
                · have : j = k := by omega
                  subst this
                  exact OE.out)
              have HTK := hide (show ks.take (k + 1) = ks.take k ++ [s] by rw [List.take_succ_eq_append_getElem hltk, hs.out])
              go_wp2_with fail
              go_roundw
              case rel => exact ⟨k + 1, by go_num, by omega, HQ2, hide (by rw [HTK.out]; exact HK4.out), O4⟩
              case measure => simp [intOf]; omega
            · have h0' : (c != 0) = true := by simpa using h0
              have FIN := hide (obj_first HL.out (by omega) hlt HQ.out OE.out h0)
              clear h0
              go_wp2_with fail
              refine (CC.out _ OW3.out).mono ?_
              rintro e w4 ⟨rfl, o4⟩
              have O4 := hide (Old.trans OW3.out o4)
              clear o4 x0
              go_wp2_with fail
              go_ret2
              exact ⟨_, by rw [FIN.out.2]; rfl, by rw [FIN.out.1]; exact SlT.nil_ _, O4.out⟩
          · have HH := hide hh
            clear hh
            have FIN := hide (obj_first HL.out (by omega) hlt HQ.out (objErr_71 hltk (by rw [hs.out]; exact HV.out) (by rw [hs.out]; exact HH.out)) (by decide))
            go_wp2_with fail
            refine CV.out.mono ?_
            rintro e w2 ⟨rfl, o2⟩
            have K2 := hide (HKEYS.out.old o2)
            have O2 := hide (Old.trans HOW.out o2)
            clear o2 e0
            go_wp2_with (at_lookup; refine wpList_look_keysC _ rfl _ _ 67 rfl Tryz.underlying67 _ (ks.take k) rfl K2.out s rfl HSZ.out true HH.out ?_; intro c0)
            go_ret2
            exact ⟨_, by rw [FIN.out.2]; rfl, by rw [FIN.out.1]; exact SlT.nil_ _, O2.out⟩
      · have CW := hide (show Calls Tryz.prog 63 #[.int .i64 7, .func (.func 65) #[] #[.pointer (some ⟨w.heap.size, 0, none⟩)], .slice A pl.length ca] wr (NewNodesE wr out er) by
          rcases HL.out with ⟨h, _⟩ | ⟨hl, ⟨i, hi, h1, h2, h3, h4⟩ | ⟨h1, js, hj, hw⟩⟩
          · omega
          · exact absurd (HQ.out i (by omega)) h2
          · exact whole_obj _ pl js ks out er wr w.heap.size _ (HO.out.cell B1.out) (HKV.out.old HOW.out) (HP.out.old HOW.out) hj.1 (hl.trans hj.1) hj.2 HTX.out (HT.out.old HOW.out) hw)
        go_wp2_with fail
        refine CW.out.mono ?_
        rintro e w2 ⟨v1, rfl, h1, o1⟩
        have H1 := hide (h1.mono HOW.out.size)
        have O2 := hide (Old.trans HOW.out o1)
        clear h1 o1
        go_wp2_with fail
        go_ret2
        exact ⟨_, rfl, H1.out, O2.out⟩
  · have hn' : ((ks.length : Int) != (pl.length : Int)) = true := bne_iff_ne.2 (by omega)
    have FIN := hide (show out = [] ∧ er = 2 by
      rcases HL.out with ⟨_, h1, h2⟩ | ⟨h, _⟩
      · exact ⟨h1, h2⟩
      · exact absurd h hn)
    clear hn
    go_enter Tryz.func49, Tryz.ntmps49
    go_wp2_with fail
    go_ret2
    exact ⟨_, by rw [FIN.out.2]; rfl, by rw [FIN.out.1]; exact SlT.nil_ _, (Old.refl w).alloc _⟩
end Go.Proofs.YtmolmphbhdbcaaaGreatDoor
