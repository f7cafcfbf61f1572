/- The document's Show and Canon. -/
import Derived.Test.YtmolmphbhdbcaaaDoorRShow
namespace Go.Proofs.YtmolmphbhdbcaaaDoor
open Go.RowKit

/-- the bytes of all keys and texts -/
def ndText (l : List Nd) : Nat := (l.map fun x => x.key.size + x.s.size).sum
theorem ndText_nil : ndText [] = 0 := rfl
theorem ndText_cons (x : Nd) (l : List Nd) : ndText (x :: l) = x.key.size + x.s.size + ndText l := by simp [ndText]
theorem ndText_append (a b : List Nd) : ndText (a ++ b) = ndText a + ndText b := by simp [ndText]
theorem none_size : none_.size = 0 := rfl
theorem show_text : (∀ j : J, J.Ok vU j → ndText j.flat ≤ j.show.length + j.key.size) ∧ ∀ l : List J, J.Oks vU l → ∀ o f, (o = true ∨ ∀ j ∈ l, j.key = none_) → ndText (J.flats l) ≤ (J.shows o f l).length := by
  refine J.both ?_ ?_ ?_
  · intro h l ih hok
    rw [flat_mk, ndText_cons]
    have ek : (J.mk h l).key = h.key := rfl
    rw [ek]
    simp only [J.Ok] at hok
    rcases hok with ⟨hl, rfl⟩ | ⟨h6, hp, ho, hk⟩ | ⟨h7, hp, ho, hk⟩
    · have : ndText (J.flats []) = 0 := rfl
      rw [this]
      rcases hl with ⟨_, _, h3⟩ | ⟨_, h3⟩ | ⟨h5, _⟩
      · simp only [h3, none_size]; omega
      · simp only [h3, none_size]; omega
      · have := (quoteL_len h.s).1
        have e : (J.mk h []).show = quoteL h.s := by simp [J.show, h5]
        rw [e]
        simp only
        omega
    · have h1 := ih ho false true (.inr hk)
      have e : (J.mk h l).show = 91 :: (J.shows false true l ++ [93]) := by simp [J.show, h6]
      rw [e]
      simp only [hp.2, none_size, List.length_cons, List.length_append, List.length_nil]
      omega
    · have h1 := ih ho true true (.inl rfl)
      have e : (J.mk h l).show = 123 :: (J.shows true true l ++ [125]) := by simp [J.show, h7]
      rw [e]
      simp only [hp.2, none_size, List.length_cons, List.length_append, List.length_nil]
      omega
  · intro _ o f _
    simp [J.flats, ndText_nil]
  · intro j l h1 h2 ho o f hk
    simp only [J.Oks] at ho
    rw [flats_cons, ndText_append, shows_cons, List.length_append]
    have a1 := h1 ho.1
    have a2 := h2 ho.2 o false (hk.imp id fun h x hx => h x (by simp [hx]))
    have i4 := (quoteL_len j.key).1
    unfold partShow
    simp only [List.length_append]
    rcases hk with rfl | hk
    · simp only [if_true, List.length_append, List.length_cons, List.length_nil]
      omega
    · have := hk j (by simp)
      rw [this, none_size] at a1
      omega
theorem may_text {t : List Nd} {j : J} (h : May t j) : ndText t ≤ j.show.length := by
  have h1 := show_text.1 j h.1.1
  rw [← h.1.2.2, h.1.2.1, none_size] at h1
  exact h1
theorem text_at {t : List Nd} {k : Nat} (hk : k < t.length) : ndText (t.take k) + (t[k].key.size + t[k].s.size) + ndText (t.drop (k + 1)) = ndText t := by
  have e : t = t.take k ++ t[k] :: t.drop (k + 1) := by rw [← List.drop_eq_getElem_cons hk, List.take_append_drop]
  have e2 := congrArg ndText e
  rw [ndText_append, ndText_cons] at e2
  omega
theorem text_next {t : List Nd} {k : Nat} (hk : k < t.length) : ndText (t.take (k + 1)) = ndText (t.take k) + (t[k].key.size + t[k].s.size) := by
  rw [List.take_succ_eq_append_getElem hk, ndText_append, ndText_cons, ndText_nil]
  omega

set_option maxRecDepth 100000 in
set_option maxHeartbeats 4000000 in
theorem ref_Show (C : Nat) (v : Value) (t : List Nd) (out : List UInt8) (er : Int) (w : World) (hn : NodesIs w v t) (G : Fine C t) (hs : ShowT t out er) :
    Calls Tryd.prog 11 #[v] w fun e w' => e = .returned (strE out er) ∧ Old w w' := by
  unfold strE
  have CC := ref_Check v t w hn G.texts
  rcases hs with ⟨h0, rfl, rfl⟩ | ⟨j, hj, hs⟩
  · obtain ⟨c, hc⟩ : ∃ c, Hid (chkT t = c) := ⟨_, hide rfl⟩
    rw [hc.out] at CC h0 ⊢
    have hc0 : (c == 0) = false := beq_eq_false_iff_ne.2 h0
    have hc1 : (c != 0) = true := by simpa using h0
    clear hn G
    go_enter Tryd.func11, Tryd.ntmps11
    go_wp2_with fail
    refine CC.mono ?_
    rintro e w1 ⟨rfl, o1⟩
    have O1 := hide o1
    clear o1 CC
    go_wp2_with fail
    go_ret2
    exact ⟨rfl, O1.out⟩
  · rw [chkT_may hj] at CC
    obtain ⟨A, cap, rfl, hla, hma, hc⟩ := hn.nodes
    unfold maxLen at hma
    have HN := hide hn
    have HC := hide hc
    have HG := hide G
    have HJ := hide hj
    have HS := hide hs
    have HMT := hide (may_text hj)
    have hl4 : t.length ≤ 4000 := hj.2.1
    clear hn hc G hs hj
    go_enter Tryd.func11, Tryd.ntmps11
    go_wp2_with fail
    refine CC.mono ?_
    rintro e w1 ⟨rfl, o1⟩
    have O1 := hide o1
    clear o1 CC
    go_wp2_with fail
    go_loopw [5, 6] (fun nv iv wr => ∃ (k m : Nat), nv = .int .i64 m ∧ iv = .int .i64 k ∧ k ≤ t.length ∧ Hid (m = ndText (t.take k)) ∧ m ≤ 8589934592 ∧ Hid (Short (t.take k)) ∧ Hid (Old w wr)) (fun _ iv _ => t.length - (intOf iv).toNat)
    case atStart => exact ⟨0, 0, rfl, rfl, Nat.zero_le _, hide rfl, by omega, hide (fun x hx => by simp at hx), O1⟩
    case round =>
      obtain ⟨k, m, rfl, rfl, hk, HM, hm, HSH, HO⟩ := hrel
      by_cases hlt : k < t.length
      · obtain ⟨b1, o1, rfl, hc1⟩ := HC.out.resolve_left (by omega)
        obtain ⟨x0, e1, x2, e3, x4⟩ := hc1 k hlt
        clear x0 x2 x4
        have HTA := hide (text_at hlt)
        have HTN := hide (text_next hlt)
        have HX := hide (show Short (t.take k) → t[k].key.size ≤ 1048576 → t[k].s.size ≤ 1048576 → Short (t.take (k + 1)) from fun h0 h1 h2 x hx => by
          rw [List.take_succ_eq_append_getElem hlt] at hx
          rcases List.mem_append.1 hx with hx | hx
          · exact h0 x hx
          · rw [List.mem_singleton.1 hx]; exact ⟨h1, h2⟩)
        have c1 := HO.out.cell e1
        have c3 := HO.out.cell e3
        obtain ⟨ks, hks⟩ : ∃ ks, Hid (t[k].key = ks) := ⟨_, hide rfl⟩
        obtain ⟨ss, hss⟩ : ∃ ss, Hid (t[k].s = ss) := ⟨_, hide rfl⟩
        rw [hks.out] at c1 HTA HTN HX
        rw [hss.out] at c3 HTA HTN HX
        have HOVER := hide (show 1048576 < ss.size ∨ 1048576 < ks.size ∨ 1048576 < m → out = [] ∧ er = 5 from fun h => by
          rcases HS.out with ⟨h1, _⟩ | ⟨_, h1⟩
          · exfalso
            have h2 := HTA.out
            have h3 := HMT.out
            have h4 := HM.out
            unfold maxText at h1
            omega
          · exact h1)
        clear e1 e3 hc1
        by_cases g1 : (ss.size : Int) > 1048576
        · have HE := hide (HOVER.out (by omega))
          go_wp2_with fail
          go_ret2
          exact ⟨by rw [HE.out.1, HE.out.2]; rfl, HO.out⟩
        by_cases g2 : (ks.size : Int) > 1048576
        · have HE := hide (HOVER.out (by omega))
          go_wp2_with fail
          go_ret2
          exact ⟨by rw [HE.out.1, HE.out.2]; rfl, HO.out⟩
        by_cases g3 : (m : Int) > 1048576
        · have HE := hide (HOVER.out (by omega))
          go_wp2_with fail
          go_ret2
          exact ⟨by rw [HE.out.1, HE.out.2]; rfl, HO.out⟩
        have hw1 : IntKind.i64.wrap ((m : Int) + (ss.size : Int)) = (m : Int) + (ss.size : Int) := IntWalk.i64_in _ (by omega)
        have hw2 : IntKind.i64.wrap ((m : Int) + (ss.size : Int) + (ks.size : Int)) = (m : Int) + (ss.size : Int) + (ks.size : Int) := IntWalk.i64_in _ (by omega)
        have HX2 := hide (HX.out HSH.out (by omega) (by omega))
        clear HOVER
        go_wp2_with fail
        go_quiet (fail)
        go_wp2_with fail
        go_roundw
        case rel => exact ⟨k + 1, m + ss.size + ks.size, by go_num, by go_num, by omega, hide (by rw [HTN.out, HM.out]; omega), by omega, HX2, hide (Old.drewN HO.out _)⟩
        case measure => simp [intOf]; omega
      · have hkt : t.take k = t := List.take_of_length_le (by omega)
        have HSH2 := hide (show Short t by rw [← hkt]; exact HSH.out)
        obtain ⟨sh, hsh⟩ : ∃ sh, Hid (j.show = sh) := ⟨_, hide rfl⟩
        have CS := hide (show ∀ w', Old w w' → Calls Tryd.prog 30 #[.slice A t.length cap] w' fun e w2 => e = .returned (.string ⟨sh.toArray⟩) ∧ Old w' w2 from fun w' o => by
          have e := HJ.out.1.2.2
          have h1 := HN.out.old o
          have h2 := rshown_run t.length j (.slice A t.length cap) w' (by rw [← e]) (by rw [← e]; exact h1) hl4 HJ.out.1.1 (by rw [← e]; exact HG.out.nums) (by rw [← e]; exact HSH2.out)
          rwa [hsh.out] at h2)
        have HS2 := HS.out
        rw [hsh.out] at HS2
        have HS3 := hide HS2
        have hsz : (⟨sh.toArray⟩ : ByteArray).size = sh.length := by simp [ByteArray.size]
        obtain ⟨SB, hSB⟩ : ∃ SB : ByteArray, Hid (⟨sh.toArray⟩ = SB) := ⟨_, hide rfl⟩
        rw [hSB.out] at CS hsz
        have HZ := hide hsz
        clear hkt HS2 hsz
        go_wp2_with fail
        refine (CS.out _ HO.out).mono ?_
        rintro e w3 ⟨rfl, o3⟩
        have O3 := hide (Old.trans HO.out o3)
        clear o3
        by_cases g : (SB.size : Int) > 1048576
        · have HE := hide (show out = [] ∧ er = 5 by
            rcases HS3.out with ⟨h1, _⟩ | ⟨_, h⟩
            · exfalso
              have := HZ.out
              unfold maxText at h1
              omega
            · exact h)
          go_wp2_with fail
          go_ret2
          exact ⟨by rw [HE.out.1, HE.out.2]; rfl, O3.out⟩
        · have HE := hide (show out = sh ∧ er = 0 by
            rcases HS3.out with ⟨_, h⟩ | ⟨h1, _⟩
            · exact h
            · exfalso
              have := HZ.out
              unfold maxText at h1
              omega)
          go_wp2_with fail
          go_ret2
          exact ⟨by rw [HE.out.1, HE.out.2, hSB.out]; rfl, O3.out⟩
set_option maxRecDepth 100000 in
set_option maxHeartbeats 1000000 in
theorem ref_Canon (C : Nat) (v : Value) (t : List Nd) (out : List UInt8) (er : Int) (w : World) (hn : NodesIs w v t) (G : Fine C t) (hs : CanonT t out er) :
    Calls Tryd.prog 13 #[v] w fun e w' => e = .returned (strE out er) ∧ Old w w' := by
  unfold strE
  have CC := ref_Check v t w hn G.texts
  rcases hs with ⟨h0, rfl, rfl⟩ | ⟨j, hj, hs⟩
  · obtain ⟨c, hc⟩ : ∃ c, Hid (chkT t = c) := ⟨_, hide rfl⟩
    rw [hc.out] at CC h0 ⊢
    have hc0 : (c == 0) = false := beq_eq_false_iff_ne.2 h0
    have hc1 : (c != 0) = true := by simpa using h0
    clear hn G
    go_enter Tryd.func13, Tryd.ntmps13
    go_wp2_with fail
    refine CC.mono ?_
    rintro e w1 ⟨rfl, o1⟩
    have O1 := hide o1
    clear o1 CC
    go_wp2_with fail
    go_ret2
    exact ⟨rfl, O1.out⟩
  · rw [chkT_may hj] at CC
    have HN := hide hn
    have HG := hide G
    have HJ := hide hj
    have HS := hide hs
    clear hn G hs hj
    go_enter Tryd.func13, Tryd.ntmps13
    go_wp2_with fail
    refine CC.mono ?_
    rintro e w1 ⟨rfl, o1⟩
    have O1 := hide o1
    clear o1 CC
    go_wp2_with fail
    refine (ref_Sorted v t w1 (HN.out.old O1.out) HG.out.texts).mono ?_
    rintro e w2 ⟨ps, hps, v2, rfl, n2, o2⟩
    obtain ⟨j', hj', rfl⟩ := hps.good (chkT_may HJ.out)
    obtain rfl : j' = j := flat_inj (hj'.1.2.2.symm.trans HJ.out.1.2.2)
    have O2 := hide (Old.trans O1.out o2)
    have N2 := hide (SlT.sl n2)
    have G2 := hide (Fine.sort (C := C) (j := j') (by rw [← HJ.out.1.2.2]; exact HG.out) (sort_len.1 _))
    clear n2 o2 hps hj'
    go_wp2_with fail
    refine (ref_Show C _ _ out er w2 N2.out G2.out HS.out).mono ?_
    unfold strE
    rintro e w3 ⟨rfl, o3⟩
    have O3 := hide (Old.trans O2.out o3)
    clear o3
    go_wp2_with fail
    go_ret2
    exact ⟨rfl, O3.out⟩
end Go.Proofs.YtmolmphbhdbcaaaDoor
