/- The statement ZsetNorm: the walk. -/
import Derived.Test.YtggknmagpcnkoaaGetw
import Derived.Test.YtggknmagpcnkoaaOwn
namespace Go.Proofs.Ytggknmagpcnkoaa
open Go.RowKit

theorem ItemsT.read {tI lo br : Nat} {w : World} {v : Value} {l : List Item} (h : ItemsT tI 49 lo w v l) (hb : br ≤ lo) : ReadT br w v l := by
  obtain ⟨vs, h1, h2, h3⟩ := h
  exact ⟨vs, h1, h2.sl, fun i hi hi' => (h3 i hi hi').mono hb⟩
theorem ItemsOwn.rows2 {bo br : Nat} {w : World} {v : Value} {l : List Item} (h : ItemsOwn 37 49 bo w v l) (hb : br ≤ bo) : Rows2 bo br w v l := by
  obtain ⟨vs, h1, h2, h3⟩ := h
  exact ⟨vs, h1, h2, fun i hi hi' => (h3 i hi hi').mono hb⟩
theorem Rows2.lower {bo bo' br : Nat} {w : World} {v : Value} {l : List Item} (h : Rows2 bo br w v l) (hb : bo' ≤ bo) : Rows2 bo' br w v l := by
  obtain ⟨vs, h1, h2, h3⟩ := h
  exact ⟨vs, h1, own_mono h2 hb, h3⟩
theorem Rows2.is {bo br : Nat} {w : World} {v : Value} {l : List Item} (h : Rows2 bo br w v l) : ItemsIs w v l := by
  obtain ⟨vs, h1, h2, h3⟩ := h
  exact ⟨vs, h1, (SlT.of_own h2).sl, fun i hi hi' => (h3 i hi hi').sl⟩
theorem ReadT.is {br : Nat} {w : World} {v : Value} {l : List Item} (h : ReadT br w v l) : ItemsIs w v l := by
  obtain ⟨vs, h1, h2, h3⟩ := h
  exact ⟨vs, h1, h2, fun i hi hi' => (h3 i hi hi').sl⟩
theorem ReadT.none_ {br : Nat} {w : World} {A : Option Addr} {j c : Nat} {l : List Item} (hl : l = []) (hj : j = 0) (hc : c ≤ 1048576) : ReadT br w (.slice A j c) l := by
  subst hl hj
  exact ⟨[], rfl, ⟨A, c, rfl, Nat.zero_le _, by unfold maxLen; omega, fun h => absurd rfl h⟩, fun i h => absurd h (by simp)⟩
theorem ItemsOwn.readN {base N : Nat} {w : World} {v : Value} {l : List Item} (h : ItemsOwn 37 49 base w v l) (hN : l.length = N) : (v = .slice none 0 0 ∧ N = 0) ∨
    ∃ g cap, v = .slice (some ⟨g, 0, none⟩) N cap ∧ N ≤ cap ∧ cap ≤ maxLen ∧ (∀ m, m ≤ N → ReadT base w (.slice (some ⟨g, 0, none⟩) m cap) (l.take m)) ∧
      (∀ m, m ≤ N → ∀ A, (m < cap → A = some ⟨g, m * 2, none⟩) → ReadT base w (.slice A (N - m) (cap - m)) (l.drop m)) := by
  subst hN
  rcases h.read with h | ⟨g, cap, h1, h2, h3, _, _, h6, h7⟩
  · exact .inl h
  · exact .inr ⟨g, cap, h1, h2, h3, h6, h7⟩
theorem Fine.turned {n : Nat} {l : List Item} (h : Fine n l) (k : Nat) : Fine n (l.drop k ++ l.take k) where
  len := by have := h.len; simp; omega
  short := fun i hi => by
    have hm := List.getElem_mem hi
    generalize (l.drop k ++ l.take k)[i] = u at hm
    have hu : u ∈ l := by
      rcases List.mem_append.1 hm with h | h
      · exact List.mem_of_mem_drop h
      · exact List.mem_of_mem_take h
    obtain ⟨j, hj, rfl⟩ := List.getElem_of_mem hu
    exact h.short j hj
  fits := fun x hx => by
    rcases List.mem_append.1 hx with h' | h'
    · exact h.fits x (List.mem_of_mem_drop h')
    · exact h.fits x (List.mem_of_mem_take h')
theorem copy_turn (v : Value) (q : List Item) (lo br : Nat) (w0 w : World) (hl : ReadT br w v q) (hlen : q.length ≤ 1048576) (hs : Short q) (ho : Old w0 w) (hlo : lo = w0.heap.size) (hbr : br ≤ lo) :
    Calls Try.prog 12 #[v] w fun e w2 => ∃ v, e = .returned v ∧ Rows2 lo br w2 v q ∧ Old w w2 := by
  subst hlo
  refine (copy_own v q w hl.is hlen hs).mono fun e w2 ⟨v', he, h1, h2⟩ => ⟨v', he, (h1.rows2 (Nat.le_trans hbr ho.size)).lower ho.size, h2⟩
set_option maxRecDepth 100000 in
set_option maxHeartbeats 2000000 in
theorem zsetNorm_b0_g50_hx (va vb : Value) (la lb : List Item) (t : Int) (L M : List Item) (eb eg eh : Int) (w : World) (ha : ItemsIs w va la) (hb : ItemsIs w vb lb) (hL : cutItems la = L) (hM : cutItems lb = M) (fl : Fine 40 L) (fm : Fine 40 M)
    (xb : normErr (L ++ M) = eb) (xg : normErr L = eg) (xh : normErr M = eh) (hb0 : eb = 0) (hg0 : eg = 50) :
    Calls Try.prog 5 #[va, vb, .int .i64 t] w fun e w' => e = .returned (.bool true) ∧ Old w w' := by
  have HLA := hide ha
  have HLB := hide hb
  have EL := hide hL
  have EM := hide hM
  have FL := hide fl
  have FM := hide fm
  subst hb0 hg0
  have CK := hide (show chk (normOut (L ++ M)) = 0 from chk_ok (normOut_zok _))
  have XB := hide xb
  have XG := hide xg
  have XH := hide xh
  clear ha hb hL hM fl fm xb xg xh
  have HO := hide (Old.refl w)
  go_enter Try.func5, Try.ntmps5
  go_wp2_with fail
  refine (works_run _).mono ?_
  rintro e w1 ⟨rfl, o1⟩
  replace HO := hide (Old.trans HO.out o1)
  clear o1
  go_wp2_with fail
  refine (cut_run _ la _ (HLA.out.old HO.out)).mono ?_
  rintro e w2 ⟨v2, rfl, i2, o2⟩
  rw [EL.out] at i2
  have HX := hide i2.is
  replace HO := hide (Old.trans HO.out o2)
  clear i2 o2
  go_wp2_with fail
  refine (cut_run _ lb _ (HLB.out.old HO.out)).mono ?_
  rintro e w3 ⟨v3, rfl, i3, o3⟩
  rw [EM.out] at i3
  have HY := hide (i3.read HO.out.size)
  replace HX := hide (HX.out.old o3)
  replace HO := hide (Old.trans HO.out o3)
  clear i3 o3
  go_wp2_with fail
  refine (cut_own _ la _ (HLA.out.old HO.out)).mono ?_
  rintro e w4 ⟨v4, rfl, i4, o4⟩
  rw [EL.out] at i4
  have R4 := hide (i4.rows2 HO.out.size)
  have Y4 := hide (HY.out.old o4)
  have O4 := hide o4
  clear i4 o4
  have LEN := hide (show L.length + M.length ≤ 80 from Nat.add_le_add FL.out.len FM.out.len)
  have LE4 := Nat.le_trans LEN.out (show 80 ≤ 4194304 by omega)
  go_upto_region 5 with (at_builtin; refine wpList_plain rfl (fun K hK => ?_); refine step_push2 w4 _ _ rfl w3.heap.size w.heap.size _ L rfl R4.out _ M rfl Y4.out LE4 O4.out.size ?_; intro v5 w5 own5 kept5; refine hK _ _ ?_; clear hK)
  have O5 := hide (kept5.old O4.out (Nat.le_refl _))
  have HR0 := hide (own5.own HO.out.size)
  have HB5 := hide own5.is
  replace HX := hide (HX.out.old O5.out)
  replace HY := hide (HY.out.old O5.out)
  have HO5 := hide (Old.trans HO.out O5.out)
  clear own5 kept5 R4 Y4 O4 O5 LE4 HO
  obtain ⟨N, hN⟩ : ∃ N, Hid ((L ++ M).length = N) := ⟨_, hide rfl⟩
  have HN := hide hN.out
  have HR := hide (HR0.out.readN HN.out)
  clear hN HR0
  have hN80 : N ≤ 80 := by have h1 := LEN.out; have h2 := HN.out; rw [List.length_append] at h2; omega
  have HSD := hide (show ∀ k, Short ((L ++ M).drop k) from fun k i hi => by
    rw [List.getElem_drop]
    exact (FL.out.append FM.out).short _ (by simp at hi; simp; omega))
  have BR := hide (show Calls Try.prog 27 #[.int .i64 t, .int .i64 ((N : Int) + 1)] w5 fun e w' => (∃ k : Nat, k < N + 1 ∧ e = .returned (.int .i64 k)) ∧ w5 = w' from by have := bring_run t (N + 1) w5 (by omega) (by omega); simpa using this)
  rcases HR.out with ⟨rfl, hn⟩ | ⟨g, cap, rfl, hNcap, hmax, hpre, hpost⟩
  · subst hn
    have NIL := hide (List.eq_nil_of_length_eq_zero HN.out)
    clear HR
    go_wp2_with fail
    refine BR.out.mono ?_
    rintro e w' ⟨⟨k, hk, rfl⟩, rfl⟩
    obtain rfl : k = 0 := by omega
    clear hk BR
    go_wp2_with fail
    go_cut [11] (fun rv wr => ∃ k : Nat, Hid (k ≤ 0) ∧ Hid (ItemsIs wr rv ((L ++ M).drop k ++ (L ++ M).take k)) ∧ Hid (Old w5 wr))
    case first =>
      have HC := hide (show ∀ A j c w', j = 0 → c ≤ 1048576 → Old w5 w' → Calls Try.prog 12 #[.slice A j c] w' fun e w2 => ∃ v, e = .returned v ∧ Rows2 w5.heap.size w.heap.size w2 v ((L ++ M).drop 0) ∧ Old w' w2 from fun A j c w' hj hc h => copy_turn _ _ _ _ w5 w' (ReadT.none_ (by rw [List.drop_zero]; exact NIL.out) hj hc) (by rw [List.drop_zero, NIL.out]; simp) (by rw [List.drop_zero, NIL.out]; intro i hi; simp at hi) h rfl HO5.out.size)
      have PRE := hide (show ∀ A j c w', j = 0 → c ≤ 1048576 → Old w5 w' → ReadT w.heap.size w' (.slice A j c) ((L ++ M).take 0) from fun A j c w' hj hc h => ReadT.none_ (by simp) hj hc)
      have LN := hide (show ((L ++ M).drop 0).length + ((L ++ M).take 0).length ≤ 4194304 by rw [NIL.out]; simp)
      go_region_held3 (fun w' => Old w5 w')
        (first | (exact Old.drew (Old.refl _)) | (exact Old.alloc (by assumption) _) | (exact Old.trans (by assumption) (by assumption)) | (exact Kept.old (by assumption) (by assumption) (Nat.le_refl _)))
        (first
          | (go_at_call 12; refine (HC.out _ _ _ _ (by simp) (by simp) (by assumption)).mono ?_; rintro e w6 ⟨v6, rfl, hr1, hb1⟩)
          | (refine step_push2 _ _ _ rfl w5.heap.size w.heap.size _ ((L ++ M).drop 0) rfl hr1 _ ((L ++ M).take 0) rfl (PRE.out _ _ _ _ (by simp) (by simp) (by assumption)) LN.out (Below.size (w := w5) (by assumption)) ?_; intro v7 w7 own7 kept7))
      go_wp2_with fail
      go_meet
      exact ⟨0, hide (by omega), hide own7.is, hide (by assumption)⟩
    case rest =>
      obtain ⟨k, HK, HRD, HO6⟩ := hcut
      replace HB5 := hide (HB5.out.old HO6.out)
      replace HX := hide (HX.out.old HO6.out)
      replace HY := hide (HY.out.is.old HO6.out)
      replace HO := hide (Old.trans HO5.out HO6.out)
      clear HO6 HO5
      have FB := hide (FL.out.append FM.out)
      have FR := hide (FB.out.turned k)
      have NT := hide (norm_turn (L ++ M) k)
      obtain ⟨A, hA⟩ : ∃ A, Hid (normOut (L ++ M) = A) := ⟨_, hide rfl⟩
      rw [hA.out, XB.out] at NT
      rw [hA.out] at CK
      go_wp2_with fail
      refine (calls_as (zset_Norm _ _ _ HB5.out (Nat.le_trans FB.out.len (by omega)) FB.out.short FB.out.fits) hA.out XB.out).mono ?_
      rintro e w2 ⟨v2, rfl, i2, o2⟩
      replace HO := hide (Old.trans HO.out o2)
      replace HX := hide (HX.out.old o2)
      replace HY := hide (HY.out.old o2)
      replace HRD := hide (HRD.out.old o2)
      replace HB5 := hide (HB5.out.old o2)
      have HA := hide i2.is
      clear i2 o2
      go_wp2_with fail
      refine (calls_as (zset_Norm _ _ _ HRD.out (Nat.le_trans FR.out.len (by omega)) FR.out.short FR.out.fits) NT.out.2.symm NT.out.1.symm).mono ?_
      rintro e w3 ⟨v3, rfl, i3, o3⟩
      replace HO := hide (Old.trans HO.out o3)
      replace HX := hide (HX.out.old o3)
      replace HY := hide (HY.out.old o3)
      replace HRD := hide (HRD.out.old o3)
      replace HB5 := hide (HB5.out.old o3)
      replace HA := hide (HA.out.old o3)
      have HBB := hide i3.is
      clear i3 o3
      go_wp2_with fail
      refine (same_true _ _ A _ HA.out HBB.out).mono ?_
      rintro e w4 ⟨rfl, o4⟩
      replace HO := hide (Old.trans HO.out o4)
      replace HX := hide (HX.out.old o4)
      replace HY := hide (HY.out.old o4)
      replace HRD := hide (HRD.out.old o4)
      replace HB5 := hide (HB5.out.old o4)
      replace HA := hide (HA.out.old o4)
      replace HBB := hide (HBB.out.old o4)
      clear o4
      clear HBB HRD HB5
      go_wp2_with fail
      refine (check_as (zset_Check _ _ _ HA.out) CK.out).mono ?_
      rintro e w5 ⟨rfl, o5⟩
      replace HO := hide (Old.trans HO.out o5)
      replace HX := hide (HX.out.old o5)
      replace HY := hide (HY.out.old o5)
      replace HA := hide (HA.out.old o5)
      clear o5
      go_wp2_with fail
      refine (calls_as (zset_Norm _ _ _ HX.out (Nat.le_trans FL.out.len (by omega)) FL.out.short FL.out.fits) rfl XG.out).mono ?_
      rintro e w6 ⟨v6, rfl, i6, o6⟩
      replace HO := hide (Old.trans HO.out o6)
      replace HX := hide (HX.out.old o6)
      replace HY := hide (HY.out.old o6)
      replace HA := hide (HA.out.old o6)
      have HP := hide i6.is
      clear i6 o6
      go_wp2_with fail
      refine (calls_as (zset_Norm _ _ _ HY.out (Nat.le_trans FM.out.len (by omega)) FM.out.short FM.out.fits) rfl XH.out).mono ?_
      rintro e w7 ⟨v7, rfl, i7, o7⟩
      replace HO := hide (Old.trans HO.out o7)
      replace HX := hide (HX.out.old o7)
      replace HY := hide (HY.out.old o7)
      replace HA := hide (HA.out.old o7)
      replace HP := hide (HP.out.old o7)
      have HQ := hide i7.is
      clear i7 o7
      go_wp2_with fail
      go_ret
      exact ⟨rfl, HO.out⟩
  · have HPRE := hide hpre
    have HPOST := hide hpost
    unfold maxLen at hmax
    clear hpre hpost HR
    go_wp2_with fail
    refine BR.out.mono ?_
    rintro e w' ⟨⟨k, hk, rfl⟩, rfl⟩
    have hkN : k ≤ N := by omega
    clear hk BR
    go_wp2_with fail
    go_cut [11] (fun rv wr => ∃ k : Nat, Hid (k ≤ N) ∧ Hid (ItemsIs wr rv ((L ++ M).drop k ++ (L ++ M).take k)) ∧ Hid (Old w5 wr))
    case first =>
      have hkcap : k ≤ cap := by omega
      have hkI : (k : Int) ≤ (cap : Int) := by omega
      have hk0 : (0 : Int) ≤ (k : Int) := by omega
      by_cases hkc : k < cap
      · have PRE := hide (show ∀ w', Old w5 w' → ReadT w.heap.size w' (.slice (some ⟨g, 0, none⟩) k cap) ((L ++ M).take k) from fun w' h => (HPRE.out k (by omega)).old h)
        have HC := hide (show ∀ A w', Old w5 w' → (k < cap → A = some ⟨g, k * 2, none⟩) → Calls Try.prog 12 #[.slice A (N - k) (cap - k)] w' fun e w2 => ∃ v, e = .returned v ∧ Rows2 w5.heap.size w.heap.size w2 v ((L ++ M).drop k) ∧ Old w' w2 from fun A w' h hA => copy_turn _ _ _ _ w5 w' ((HPOST.out k (by omega) A hA).old h) (by have := HN.out; simp at this; simp; omega) (HSD.out k) h rfl HO5.out.size)
        have LN := hide (show ((L ++ M).drop k).length + ((L ++ M).take k).length ≤ 4194304 by have := HN.out; simp at this; simp; omega)
        go_region_held3 (fun w' => Old w5 w')
          (first | (exact Old.drew (Old.refl _)) | (exact Old.alloc (by assumption) _) | (exact Old.trans (by assumption) (by assumption)) | (exact Kept.old (by assumption) (by assumption) (Nat.le_refl _)))
          (first
            | (go_at_call 12; refine (HC.out _ _ (by assumption) (by intro h; first | (simp; done) | (simp; omega) | (split <;> simp <;> omega))).mono ?_; rintro e w6 ⟨v6, rfl, hr1, hb1⟩)
            | (refine step_push2 _ _ _ rfl w5.heap.size w.heap.size _ ((L ++ M).drop k) rfl hr1 _ ((L ++ M).take k) rfl (PRE.out _ (by assumption)) LN.out (Below.size (w := w5) (by assumption)) ?_; intro v7 w7 own7 kept7))
        go_wp2_with fail
        go_meet
        exact ⟨k, hide (by omega), hide own7.is, hide (by assumption)⟩
      · have PRE := hide (show ∀ w', Old w5 w' → ReadT w.heap.size w' (.slice (some ⟨g, 0, none⟩) k cap) ((L ++ M).take k) from fun w' h => (HPRE.out k (by omega)).old h)
        have HC := hide (show ∀ A j c w', j = 0 → c ≤ 1048576 → Old w5 w' → Calls Try.prog 12 #[.slice A j c] w' fun e w2 => ∃ v, e = .returned v ∧ Rows2 w5.heap.size w.heap.size w2 v ((L ++ M).drop k) ∧ Old w' w2 from fun A j c w' hj hc h => copy_turn _ _ _ _ w5 w' (ReadT.none_ (List.drop_of_length_le (by rw [HN.out]; omega)) hj hc) (by have := HN.out; simp at this; simp; omega) (HSD.out k) h rfl HO5.out.size)
        have LN := hide (show ((L ++ M).drop k).length + ((L ++ M).take k).length ≤ 4194304 by have := HN.out; simp at this; simp; omega)
        obtain rfl : k = N := by omega
        obtain rfl : k = cap := by omega
        clear hkN hNcap hkc hkcap hkI
        go_region_held3 (fun w' => Old w5 w')
          (first | (exact Old.drew (Old.refl _)) | (exact Old.alloc (by assumption) _) | (exact Old.trans (by assumption) (by assumption)) | (exact Kept.old (by assumption) (by assumption) (Nat.le_refl _)))
          (first
            | (go_at_call 12; refine (HC.out _ _ _ _ (by first | (simp; done) | omega) (by omega) (by assumption)).mono ?_; rintro e w6 ⟨v6, rfl, hr1, hb1⟩)
            | (refine step_push2 _ _ _ rfl w5.heap.size w.heap.size _ ((L ++ M).drop k) rfl hr1 _ ((L ++ M).take k) rfl (PRE.out _ (by assumption)) LN.out (Below.size (w := w5) (by assumption)) ?_; intro v7 w7 own7 kept7))
        go_wp2_with fail
        go_meet
        exact ⟨k, hide (by omega), hide own7.is, hide (by assumption)⟩
    case rest =>
      obtain ⟨k, HK, HRD, HO6⟩ := hcut
      replace HB5 := hide (HB5.out.old HO6.out)
      replace HX := hide (HX.out.old HO6.out)
      replace HY := hide (HY.out.is.old HO6.out)
      replace HO := hide (Old.trans HO5.out HO6.out)
      clear HO6 HO5
      have FB := hide (FL.out.append FM.out)
      have FR := hide (FB.out.turned k)
      have NT := hide (norm_turn (L ++ M) k)
      obtain ⟨A, hA⟩ : ∃ A, Hid (normOut (L ++ M) = A) := ⟨_, hide rfl⟩
      rw [hA.out, XB.out] at NT
      rw [hA.out] at CK
      go_wp2_with fail
      refine (calls_as (zset_Norm _ _ _ HB5.out (Nat.le_trans FB.out.len (by omega)) FB.out.short FB.out.fits) hA.out XB.out).mono ?_
      rintro e w2 ⟨v2, rfl, i2, o2⟩
      replace HO := hide (Old.trans HO.out o2)
      replace HX := hide (HX.out.old o2)
      replace HY := hide (HY.out.old o2)
      replace HRD := hide (HRD.out.old o2)
      replace HB5 := hide (HB5.out.old o2)
      have HA := hide i2.is
      clear i2 o2
      go_wp2_with fail
      refine (calls_as (zset_Norm _ _ _ HRD.out (Nat.le_trans FR.out.len (by omega)) FR.out.short FR.out.fits) NT.out.2.symm NT.out.1.symm).mono ?_
      rintro e w3 ⟨v3, rfl, i3, o3⟩
      replace HO := hide (Old.trans HO.out o3)
      replace HX := hide (HX.out.old o3)
      replace HY := hide (HY.out.old o3)
      replace HRD := hide (HRD.out.old o3)
      replace HB5 := hide (HB5.out.old o3)
      replace HA := hide (HA.out.old o3)
      have HBB := hide i3.is
      clear i3 o3
      go_wp2_with fail
      refine (same_true _ _ A _ HA.out HBB.out).mono ?_
      rintro e w4 ⟨rfl, o4⟩
      replace HO := hide (Old.trans HO.out o4)
      replace HX := hide (HX.out.old o4)
      replace HY := hide (HY.out.old o4)
      replace HRD := hide (HRD.out.old o4)
      replace HB5 := hide (HB5.out.old o4)
      replace HA := hide (HA.out.old o4)
      replace HBB := hide (HBB.out.old o4)
      clear o4
      clear HBB HRD HB5
      go_wp2_with fail
      refine (check_as (zset_Check _ _ _ HA.out) CK.out).mono ?_
      rintro e w5 ⟨rfl, o5⟩
      replace HO := hide (Old.trans HO.out o5)
      replace HX := hide (HX.out.old o5)
      replace HY := hide (HY.out.old o5)
      replace HA := hide (HA.out.old o5)
      clear o5
      go_wp2_with fail
      refine (calls_as (zset_Norm _ _ _ HX.out (Nat.le_trans FL.out.len (by omega)) FL.out.short FL.out.fits) rfl XG.out).mono ?_
      rintro e w6 ⟨v6, rfl, i6, o6⟩
      replace HO := hide (Old.trans HO.out o6)
      replace HX := hide (HX.out.old o6)
      replace HY := hide (HY.out.old o6)
      replace HA := hide (HA.out.old o6)
      have HP := hide i6.is
      clear i6 o6
      go_wp2_with fail
      refine (calls_as (zset_Norm _ _ _ HY.out (Nat.le_trans FM.out.len (by omega)) FM.out.short FM.out.fits) rfl XH.out).mono ?_
      rintro e w7 ⟨v7, rfl, i7, o7⟩
      replace HO := hide (Old.trans HO.out o7)
      replace HX := hide (HX.out.old o7)
      replace HY := hide (HY.out.old o7)
      replace HA := hide (HA.out.old o7)
      replace HP := hide (HP.out.old o7)
      have HQ := hide i7.is
      clear i7 o7
      go_wp2_with fail
      go_ret
      exact ⟨rfl, HO.out⟩

set_option maxRecDepth 100000 in
set_option maxHeartbeats 2000000 in
theorem zsetNorm_b0_g0_h50 (va vb : Value) (la lb : List Item) (t : Int) (L M : List Item) (eb eg eh : Int) (w : World) (ha : ItemsIs w va la) (hb : ItemsIs w vb lb) (hL : cutItems la = L) (hM : cutItems lb = M) (fl : Fine 40 L) (fm : Fine 40 M)
    (xb : normErr (L ++ M) = eb) (xg : normErr L = eg) (xh : normErr M = eh) (hb0 : eb = 0) (hg0 : eg = 0) (hh0 : eh = 50) :
    Calls Try.prog 5 #[va, vb, .int .i64 t] w fun e w' => e = .returned (.bool true) ∧ Old w w' := by
  have HLA := hide ha
  have HLB := hide hb
  have EL := hide hL
  have EM := hide hM
  have FL := hide fl
  have FM := hide fm
  subst hb0 hg0 hh0
  have CK := hide (show chk (normOut (L ++ M)) = 0 from chk_ok (normOut_zok _))
  have XB := hide xb
  have XG := hide xg
  have XH := hide xh
  clear ha hb hL hM fl fm xb xg xh
  have HO := hide (Old.refl w)
  go_enter Try.func5, Try.ntmps5
  go_wp2_with fail
  refine (works_run _).mono ?_
  rintro e w1 ⟨rfl, o1⟩
  replace HO := hide (Old.trans HO.out o1)
  clear o1
  go_wp2_with fail
  refine (cut_run _ la _ (HLA.out.old HO.out)).mono ?_
  rintro e w2 ⟨v2, rfl, i2, o2⟩
  rw [EL.out] at i2
  have HX := hide i2.is
  replace HO := hide (Old.trans HO.out o2)
  clear i2 o2
  go_wp2_with fail
  refine (cut_run _ lb _ (HLB.out.old HO.out)).mono ?_
  rintro e w3 ⟨v3, rfl, i3, o3⟩
  rw [EM.out] at i3
  have HY := hide (i3.read HO.out.size)
  replace HX := hide (HX.out.old o3)
  replace HO := hide (Old.trans HO.out o3)
  clear i3 o3
  go_wp2_with fail
  refine (cut_own _ la _ (HLA.out.old HO.out)).mono ?_
  rintro e w4 ⟨v4, rfl, i4, o4⟩
  rw [EL.out] at i4
  have R4 := hide (i4.rows2 HO.out.size)
  have Y4 := hide (HY.out.old o4)
  have O4 := hide o4
  clear i4 o4
  have LEN := hide (show L.length + M.length ≤ 80 from Nat.add_le_add FL.out.len FM.out.len)
  have LE4 := Nat.le_trans LEN.out (show 80 ≤ 4194304 by omega)
  go_upto_region 5 with (at_builtin; refine wpList_plain rfl (fun K hK => ?_); refine step_push2 w4 _ _ rfl w3.heap.size w.heap.size _ L rfl R4.out _ M rfl Y4.out LE4 O4.out.size ?_; intro v5 w5 own5 kept5; refine hK _ _ ?_; clear hK)
  have O5 := hide (kept5.old O4.out (Nat.le_refl _))
  have HR0 := hide (own5.own HO.out.size)
  have HB5 := hide own5.is
  replace HX := hide (HX.out.old O5.out)
  replace HY := hide (HY.out.old O5.out)
  have HO5 := hide (Old.trans HO.out O5.out)
  clear own5 kept5 R4 Y4 O4 O5 LE4 HO
  obtain ⟨N, hN⟩ : ∃ N, Hid ((L ++ M).length = N) := ⟨_, hide rfl⟩
  have HN := hide hN.out
  have HR := hide (HR0.out.readN HN.out)
  clear hN HR0
  have hN80 : N ≤ 80 := by have h1 := LEN.out; have h2 := HN.out; rw [List.length_append] at h2; omega
  have HSD := hide (show ∀ k, Short ((L ++ M).drop k) from fun k i hi => by
    rw [List.getElem_drop]
    exact (FL.out.append FM.out).short _ (by simp at hi; simp; omega))
  have BR := hide (show Calls Try.prog 27 #[.int .i64 t, .int .i64 ((N : Int) + 1)] w5 fun e w' => (∃ k : Nat, k < N + 1 ∧ e = .returned (.int .i64 k)) ∧ w5 = w' from by have := bring_run t (N + 1) w5 (by omega) (by omega); simpa using this)
  rcases HR.out with ⟨rfl, hn⟩ | ⟨g, cap, rfl, hNcap, hmax, hpre, hpost⟩
  · subst hn
    have NIL := hide (List.eq_nil_of_length_eq_zero HN.out)
    clear HR
    go_wp2_with fail
    refine BR.out.mono ?_
    rintro e w' ⟨⟨k, hk, rfl⟩, rfl⟩
    obtain rfl : k = 0 := by omega
    clear hk BR
    go_wp2_with fail
    go_cut [11] (fun rv wr => ∃ k : Nat, Hid (k ≤ 0) ∧ Hid (ItemsIs wr rv ((L ++ M).drop k ++ (L ++ M).take k)) ∧ Hid (Old w5 wr))
    case first =>
      have HC := hide (show ∀ A j c w', j = 0 → c ≤ 1048576 → Old w5 w' → Calls Try.prog 12 #[.slice A j c] w' fun e w2 => ∃ v, e = .returned v ∧ Rows2 w5.heap.size w.heap.size w2 v ((L ++ M).drop 0) ∧ Old w' w2 from fun A j c w' hj hc h => copy_turn _ _ _ _ w5 w' (ReadT.none_ (by rw [List.drop_zero]; exact NIL.out) hj hc) (by rw [List.drop_zero, NIL.out]; simp) (by rw [List.drop_zero, NIL.out]; intro i hi; simp at hi) h rfl HO5.out.size)
      have PRE := hide (show ∀ A j c w', j = 0 → c ≤ 1048576 → Old w5 w' → ReadT w.heap.size w' (.slice A j c) ((L ++ M).take 0) from fun A j c w' hj hc h => ReadT.none_ (by simp) hj hc)
      have LN := hide (show ((L ++ M).drop 0).length + ((L ++ M).take 0).length ≤ 4194304 by rw [NIL.out]; simp)
      go_region_held3 (fun w' => Old w5 w')
        (first | (exact Old.drew (Old.refl _)) | (exact Old.alloc (by assumption) _) | (exact Old.trans (by assumption) (by assumption)) | (exact Kept.old (by assumption) (by assumption) (Nat.le_refl _)))
        (first
          | (go_at_call 12; refine (HC.out _ _ _ _ (by simp) (by simp) (by assumption)).mono ?_; rintro e w6 ⟨v6, rfl, hr1, hb1⟩)
          | (refine step_push2 _ _ _ rfl w5.heap.size w.heap.size _ ((L ++ M).drop 0) rfl hr1 _ ((L ++ M).take 0) rfl (PRE.out _ _ _ _ (by simp) (by simp) (by assumption)) LN.out (Below.size (w := w5) (by assumption)) ?_; intro v7 w7 own7 kept7))
      go_wp2_with fail
      go_meet
      exact ⟨0, hide (by omega), hide own7.is, hide (by assumption)⟩
    case rest =>
      obtain ⟨k, HK, HRD, HO6⟩ := hcut
      replace HB5 := hide (HB5.out.old HO6.out)
      replace HX := hide (HX.out.old HO6.out)
      replace HY := hide (HY.out.is.old HO6.out)
      replace HO := hide (Old.trans HO5.out HO6.out)
      clear HO6 HO5
      have FB := hide (FL.out.append FM.out)
      have FR := hide (FB.out.turned k)
      have NT := hide (norm_turn (L ++ M) k)
      obtain ⟨A, hA⟩ : ∃ A, Hid (normOut (L ++ M) = A) := ⟨_, hide rfl⟩
      rw [hA.out, XB.out] at NT
      rw [hA.out] at CK
      go_wp2_with fail
      refine (calls_as (zset_Norm _ _ _ HB5.out (Nat.le_trans FB.out.len (by omega)) FB.out.short FB.out.fits) hA.out XB.out).mono ?_
      rintro e w2 ⟨v2, rfl, i2, o2⟩
      replace HO := hide (Old.trans HO.out o2)
      replace HX := hide (HX.out.old o2)
      replace HY := hide (HY.out.old o2)
      replace HRD := hide (HRD.out.old o2)
      replace HB5 := hide (HB5.out.old o2)
      have HA := hide i2.is
      clear i2 o2
      go_wp2_with fail
      refine (calls_as (zset_Norm _ _ _ HRD.out (Nat.le_trans FR.out.len (by omega)) FR.out.short FR.out.fits) NT.out.2.symm NT.out.1.symm).mono ?_
      rintro e w3 ⟨v3, rfl, i3, o3⟩
      replace HO := hide (Old.trans HO.out o3)
      replace HX := hide (HX.out.old o3)
      replace HY := hide (HY.out.old o3)
      replace HRD := hide (HRD.out.old o3)
      replace HB5 := hide (HB5.out.old o3)
      replace HA := hide (HA.out.old o3)
      have HBB := hide i3.is
      clear i3 o3
      go_wp2_with fail
      refine (same_true _ _ A _ HA.out HBB.out).mono ?_
      rintro e w4 ⟨rfl, o4⟩
      replace HO := hide (Old.trans HO.out o4)
      replace HX := hide (HX.out.old o4)
      replace HY := hide (HY.out.old o4)
      replace HRD := hide (HRD.out.old o4)
      replace HB5 := hide (HB5.out.old o4)
      replace HA := hide (HA.out.old o4)
      replace HBB := hide (HBB.out.old o4)
      clear o4
      clear HBB HRD HB5
      go_wp2_with fail
      refine (check_as (zset_Check _ _ _ HA.out) CK.out).mono ?_
      rintro e w5 ⟨rfl, o5⟩
      replace HO := hide (Old.trans HO.out o5)
      replace HX := hide (HX.out.old o5)
      replace HY := hide (HY.out.old o5)
      replace HA := hide (HA.out.old o5)
      clear o5
      go_wp2_with fail
      refine (calls_as (zset_Norm _ _ _ HX.out (Nat.le_trans FL.out.len (by omega)) FL.out.short FL.out.fits) rfl XG.out).mono ?_
      rintro e w6 ⟨v6, rfl, i6, o6⟩
      replace HO := hide (Old.trans HO.out o6)
      replace HX := hide (HX.out.old o6)
      replace HY := hide (HY.out.old o6)
      replace HA := hide (HA.out.old o6)
      have HP := hide i6.is
      clear i6 o6
      go_wp2_with fail
      refine (calls_as (zset_Norm _ _ _ HY.out (Nat.le_trans FM.out.len (by omega)) FM.out.short FM.out.fits) rfl XH.out).mono ?_
      rintro e w7 ⟨v7, rfl, i7, o7⟩
      replace HO := hide (Old.trans HO.out o7)
      replace HX := hide (HX.out.old o7)
      replace HY := hide (HY.out.old o7)
      replace HA := hide (HA.out.old o7)
      replace HP := hide (HP.out.old o7)
      have HQ := hide i7.is
      clear i7 o7
      go_wp2_with fail
      go_ret
      exact ⟨rfl, HO.out⟩
  · have HPRE := hide hpre
    have HPOST := hide hpost
    unfold maxLen at hmax
    clear hpre hpost HR
    go_wp2_with fail
    refine BR.out.mono ?_
    rintro e w' ⟨⟨k, hk, rfl⟩, rfl⟩
    have hkN : k ≤ N := by omega
    clear hk BR
    go_wp2_with fail
    go_cut [11] (fun rv wr => ∃ k : Nat, Hid (k ≤ N) ∧ Hid (ItemsIs wr rv ((L ++ M).drop k ++ (L ++ M).take k)) ∧ Hid (Old w5 wr))
    case first =>
      have hkcap : k ≤ cap := by omega
      have hkI : (k : Int) ≤ (cap : Int) := by omega
      have hk0 : (0 : Int) ≤ (k : Int) := by omega
      by_cases hkc : k < cap
      · have PRE := hide (show ∀ w', Old w5 w' → ReadT w.heap.size w' (.slice (some ⟨g, 0, none⟩) k cap) ((L ++ M).take k) from fun w' h => (HPRE.out k (by omega)).old h)
        have HC := hide (show ∀ A w', Old w5 w' → (k < cap → A = some ⟨g, k * 2, none⟩) → Calls Try.prog 12 #[.slice A (N - k) (cap - k)] w' fun e w2 => ∃ v, e = .returned v ∧ Rows2 w5.heap.size w.heap.size w2 v ((L ++ M).drop k) ∧ Old w' w2 from fun A w' h hA => copy_turn _ _ _ _ w5 w' ((HPOST.out k (by omega) A hA).old h) (by have := HN.out; simp at this; simp; omega) (HSD.out k) h rfl HO5.out.size)
        have LN := hide (show ((L ++ M).drop k).length + ((L ++ M).take k).length ≤ 4194304 by have := HN.out; simp at this; simp; omega)
        go_region_held3 (fun w' => Old w5 w')
          (first | (exact Old.drew (Old.refl _)) | (exact Old.alloc (by assumption) _) | (exact Old.trans (by assumption) (by assumption)) | (exact Kept.old (by assumption) (by assumption) (Nat.le_refl _)))
          (first
            | (go_at_call 12; refine (HC.out _ _ (by assumption) (by intro h; first | (simp; done) | (simp; omega) | (split <;> simp <;> omega))).mono ?_; rintro e w6 ⟨v6, rfl, hr1, hb1⟩)
            | (refine step_push2 _ _ _ rfl w5.heap.size w.heap.size _ ((L ++ M).drop k) rfl hr1 _ ((L ++ M).take k) rfl (PRE.out _ (by assumption)) LN.out (Below.size (w := w5) (by assumption)) ?_; intro v7 w7 own7 kept7))
        go_wp2_with fail
        go_meet
        exact ⟨k, hide (by omega), hide own7.is, hide (by assumption)⟩
      · have PRE := hide (show ∀ w', Old w5 w' → ReadT w.heap.size w' (.slice (some ⟨g, 0, none⟩) k cap) ((L ++ M).take k) from fun w' h => (HPRE.out k (by omega)).old h)
        have HC := hide (show ∀ A j c w', j = 0 → c ≤ 1048576 → Old w5 w' → Calls Try.prog 12 #[.slice A j c] w' fun e w2 => ∃ v, e = .returned v ∧ Rows2 w5.heap.size w.heap.size w2 v ((L ++ M).drop k) ∧ Old w' w2 from fun A j c w' hj hc h => copy_turn _ _ _ _ w5 w' (ReadT.none_ (List.drop_of_length_le (by rw [HN.out]; omega)) hj hc) (by have := HN.out; simp at this; simp; omega) (HSD.out k) h rfl HO5.out.size)
        have LN := hide (show ((L ++ M).drop k).length + ((L ++ M).take k).length ≤ 4194304 by have := HN.out; simp at this; simp; omega)
        obtain rfl : k = N := by omega
        obtain rfl : k = cap := by omega
        clear hkN hNcap hkc hkcap hkI
        go_region_held3 (fun w' => Old w5 w')
          (first | (exact Old.drew (Old.refl _)) | (exact Old.alloc (by assumption) _) | (exact Old.trans (by assumption) (by assumption)) | (exact Kept.old (by assumption) (by assumption) (Nat.le_refl _)))
          (first
            | (go_at_call 12; refine (HC.out _ _ _ _ (by first | (simp; done) | omega) (by omega) (by assumption)).mono ?_; rintro e w6 ⟨v6, rfl, hr1, hb1⟩)
            | (refine step_push2 _ _ _ rfl w5.heap.size w.heap.size _ ((L ++ M).drop k) rfl hr1 _ ((L ++ M).take k) rfl (PRE.out _ (by assumption)) LN.out (Below.size (w := w5) (by assumption)) ?_; intro v7 w7 own7 kept7))
        go_wp2_with fail
        go_meet
        exact ⟨k, hide (by omega), hide own7.is, hide (by assumption)⟩
    case rest =>
      obtain ⟨k, HK, HRD, HO6⟩ := hcut
      replace HB5 := hide (HB5.out.old HO6.out)
      replace HX := hide (HX.out.old HO6.out)
      replace HY := hide (HY.out.is.old HO6.out)
      replace HO := hide (Old.trans HO5.out HO6.out)
      clear HO6 HO5
      have FB := hide (FL.out.append FM.out)
      have FR := hide (FB.out.turned k)
      have NT := hide (norm_turn (L ++ M) k)
      obtain ⟨A, hA⟩ : ∃ A, Hid (normOut (L ++ M) = A) := ⟨_, hide rfl⟩
      rw [hA.out, XB.out] at NT
      rw [hA.out] at CK
      go_wp2_with fail
      refine (calls_as (zset_Norm _ _ _ HB5.out (Nat.le_trans FB.out.len (by omega)) FB.out.short FB.out.fits) hA.out XB.out).mono ?_
      rintro e w2 ⟨v2, rfl, i2, o2⟩
      replace HO := hide (Old.trans HO.out o2)
      replace HX := hide (HX.out.old o2)
      replace HY := hide (HY.out.old o2)
      replace HRD := hide (HRD.out.old o2)
      replace HB5 := hide (HB5.out.old o2)
      have HA := hide i2.is
      clear i2 o2
      go_wp2_with fail
      refine (calls_as (zset_Norm _ _ _ HRD.out (Nat.le_trans FR.out.len (by omega)) FR.out.short FR.out.fits) NT.out.2.symm NT.out.1.symm).mono ?_
      rintro e w3 ⟨v3, rfl, i3, o3⟩
      replace HO := hide (Old.trans HO.out o3)
      replace HX := hide (HX.out.old o3)
      replace HY := hide (HY.out.old o3)
      replace HRD := hide (HRD.out.old o3)
      replace HB5 := hide (HB5.out.old o3)
      replace HA := hide (HA.out.old o3)
      have HBB := hide i3.is
      clear i3 o3
      go_wp2_with fail
      refine (same_true _ _ A _ HA.out HBB.out).mono ?_
      rintro e w4 ⟨rfl, o4⟩
      replace HO := hide (Old.trans HO.out o4)
      replace HX := hide (HX.out.old o4)
      replace HY := hide (HY.out.old o4)
      replace HRD := hide (HRD.out.old o4)
      replace HB5 := hide (HB5.out.old o4)
      replace HA := hide (HA.out.old o4)
      replace HBB := hide (HBB.out.old o4)
      clear o4
      clear HBB HRD HB5
      go_wp2_with fail
      refine (check_as (zset_Check _ _ _ HA.out) CK.out).mono ?_
      rintro e w5 ⟨rfl, o5⟩
      replace HO := hide (Old.trans HO.out o5)
      replace HX := hide (HX.out.old o5)
      replace HY := hide (HY.out.old o5)
      replace HA := hide (HA.out.old o5)
      clear o5
      go_wp2_with fail
      refine (calls_as (zset_Norm _ _ _ HX.out (Nat.le_trans FL.out.len (by omega)) FL.out.short FL.out.fits) rfl XG.out).mono ?_
      rintro e w6 ⟨v6, rfl, i6, o6⟩
      replace HO := hide (Old.trans HO.out o6)
      replace HX := hide (HX.out.old o6)
      replace HY := hide (HY.out.old o6)
      replace HA := hide (HA.out.old o6)
      have HP := hide i6.is
      clear i6 o6
      go_wp2_with fail
      refine (calls_as (zset_Norm _ _ _ HY.out (Nat.le_trans FM.out.len (by omega)) FM.out.short FM.out.fits) rfl XH.out).mono ?_
      rintro e w7 ⟨v7, rfl, i7, o7⟩
      replace HO := hide (Old.trans HO.out o7)
      replace HX := hide (HX.out.old o7)
      replace HY := hide (HY.out.old o7)
      replace HA := hide (HA.out.old o7)
      replace HP := hide (HP.out.old o7)
      have HQ := hide i7.is
      clear i7 o7
      go_wp2_with fail
      go_ret
      exact ⟨rfl, HO.out⟩

set_option maxRecDepth 100000 in
set_option maxHeartbeats 2000000 in
theorem zsetNorm_b0_g0_h0 (va vb : Value) (la lb : List Item) (t : Int) (L M : List Item) (eb eg eh : Int) (w : World) (ha : ItemsIs w va la) (hb : ItemsIs w vb lb) (hL : cutItems la = L) (hM : cutItems lb = M) (fl : Fine 40 L) (fm : Fine 40 M)
    (xb : normErr (L ++ M) = eb) (xg : normErr L = eg) (xh : normErr M = eh) (hb0 : eb = 0) (hg0 : eg = 0) (hh0 : eh = 0) :
    Calls Try.prog 5 #[va, vb, .int .i64 t] w fun e w' => e = .returned (.bool true) ∧ Old w w' := by
  have HLA := hide ha
  have HLB := hide hb
  have EL := hide hL
  have EM := hide hM
  have FL := hide fl
  have FM := hide fm
  subst hb0 hg0 hh0
  have CK := hide (show chk (normOut (L ++ M)) = 0 from chk_ok (normOut_zok _))
  obtain ⟨P, hP⟩ : ∃ P, Hid (normOut L = P) := ⟨_, hide rfl⟩
  obtain ⟨Q, hQ⟩ : ∃ Q, Hid (normOut M = Q) := ⟨_, hide rfl⟩
  have FP := hide (show Fine 40 P by rw [← hP.out]; exact norm_fine fl)
  have FQ := hide (show Fine 40 Q by rw [← hQ.out]; exact norm_fine fm)
  have AG := hide (norm_again xg)
  have BO := hide (norm_both xg xh)
  rw [hP.out] at AG
  rw [hP.out, hQ.out, xb] at BO
  have XB := hide xb
  have XG := hide xg
  have XH := hide xh
  clear ha hb hL hM fl fm xb xg xh
  have HO := hide (Old.refl w)
  go_enter Try.func5, Try.ntmps5
  go_wp2_with fail
  refine (works_run _).mono ?_
  rintro e w1 ⟨rfl, o1⟩
  replace HO := hide (Old.trans HO.out o1)
  clear o1
  go_wp2_with fail
  refine (cut_run _ la _ (HLA.out.old HO.out)).mono ?_
  rintro e w2 ⟨v2, rfl, i2, o2⟩
  rw [EL.out] at i2
  have HX := hide i2.is
  replace HO := hide (Old.trans HO.out o2)
  clear i2 o2
  go_wp2_with fail
  refine (cut_run _ lb _ (HLB.out.old HO.out)).mono ?_
  rintro e w3 ⟨v3, rfl, i3, o3⟩
  rw [EM.out] at i3
  have HY := hide (i3.read HO.out.size)
  replace HX := hide (HX.out.old o3)
  replace HO := hide (Old.trans HO.out o3)
  clear i3 o3
  go_wp2_with fail
  refine (cut_own _ la _ (HLA.out.old HO.out)).mono ?_
  rintro e w4 ⟨v4, rfl, i4, o4⟩
  rw [EL.out] at i4
  have R4 := hide (i4.rows2 HO.out.size)
  have Y4 := hide (HY.out.old o4)
  have O4 := hide o4
  clear i4 o4
  have LEN := hide (show L.length + M.length ≤ 80 from Nat.add_le_add FL.out.len FM.out.len)
  have LE4 := Nat.le_trans LEN.out (show 80 ≤ 4194304 by omega)
  go_upto_region 5 with (at_builtin; refine wpList_plain rfl (fun K hK => ?_); refine step_push2 w4 _ _ rfl w3.heap.size w.heap.size _ L rfl R4.out _ M rfl Y4.out LE4 O4.out.size ?_; intro v5 w5 own5 kept5; refine hK _ _ ?_; clear hK)
  have O5 := hide (kept5.old O4.out (Nat.le_refl _))
  have HR0 := hide (own5.own HO.out.size)
  have HB5 := hide own5.is
  replace HX := hide (HX.out.old O5.out)
  replace HY := hide (HY.out.old O5.out)
  have HO5 := hide (Old.trans HO.out O5.out)
  clear own5 kept5 R4 Y4 O4 O5 LE4 HO
  obtain ⟨N, hN⟩ : ∃ N, Hid ((L ++ M).length = N) := ⟨_, hide rfl⟩
  have HN := hide hN.out
  have HR := hide (HR0.out.readN HN.out)
  clear hN HR0
  have hN80 : N ≤ 80 := by have h1 := LEN.out; have h2 := HN.out; rw [List.length_append] at h2; omega
  have HSD := hide (show ∀ k, Short ((L ++ M).drop k) from fun k i hi => by
    rw [List.getElem_drop]
    exact (FL.out.append FM.out).short _ (by simp at hi; simp; omega))
  have BR := hide (show Calls Try.prog 27 #[.int .i64 t, .int .i64 ((N : Int) + 1)] w5 fun e w' => (∃ k : Nat, k < N + 1 ∧ e = .returned (.int .i64 k)) ∧ w5 = w' from by have := bring_run t (N + 1) w5 (by omega) (by omega); simpa using this)
  rcases HR.out with ⟨rfl, hn⟩ | ⟨g, cap, rfl, hNcap, hmax, hpre, hpost⟩
  · subst hn
    have NIL := hide (List.eq_nil_of_length_eq_zero HN.out)
    clear HR
    go_wp2_with fail
    refine BR.out.mono ?_
    rintro e w' ⟨⟨k, hk, rfl⟩, rfl⟩
    obtain rfl : k = 0 := by omega
    clear hk BR
    go_wp2_with fail
    go_cut [11] (fun rv wr => ∃ k : Nat, Hid (k ≤ 0) ∧ Hid (ItemsIs wr rv ((L ++ M).drop k ++ (L ++ M).take k)) ∧ Hid (Old w5 wr))
    case first =>
      have HC := hide (show ∀ A j c w', j = 0 → c ≤ 1048576 → Old w5 w' → Calls Try.prog 12 #[.slice A j c] w' fun e w2 => ∃ v, e = .returned v ∧ Rows2 w5.heap.size w.heap.size w2 v ((L ++ M).drop 0) ∧ Old w' w2 from fun A j c w' hj hc h => copy_turn _ _ _ _ w5 w' (ReadT.none_ (by rw [List.drop_zero]; exact NIL.out) hj hc) (by rw [List.drop_zero, NIL.out]; simp) (by rw [List.drop_zero, NIL.out]; intro i hi; simp at hi) h rfl HO5.out.size)
      have PRE := hide (show ∀ A j c w', j = 0 → c ≤ 1048576 → Old w5 w' → ReadT w.heap.size w' (.slice A j c) ((L ++ M).take 0) from fun A j c w' hj hc h => ReadT.none_ (by simp) hj hc)
      have LN := hide (show ((L ++ M).drop 0).length + ((L ++ M).take 0).length ≤ 4194304 by rw [NIL.out]; simp)
      go_region_held3 (fun w' => Old w5 w')
        (first | (exact Old.drew (Old.refl _)) | (exact Old.alloc (by assumption) _) | (exact Old.trans (by assumption) (by assumption)) | (exact Kept.old (by assumption) (by assumption) (Nat.le_refl _)))
        (first
          | (go_at_call 12; refine (HC.out _ _ _ _ (by simp) (by simp) (by assumption)).mono ?_; rintro e w6 ⟨v6, rfl, hr1, hb1⟩)
          | (refine step_push2 _ _ _ rfl w5.heap.size w.heap.size _ ((L ++ M).drop 0) rfl hr1 _ ((L ++ M).take 0) rfl (PRE.out _ _ _ _ (by simp) (by simp) (by assumption)) LN.out (Below.size (w := w5) (by assumption)) ?_; intro v7 w7 own7 kept7))
      go_wp2_with fail
      go_meet
      exact ⟨0, hide (by omega), hide own7.is, hide (by assumption)⟩
    case rest =>
      obtain ⟨k, HK, HRD, HO6⟩ := hcut
      replace HB5 := hide (HB5.out.old HO6.out)
      replace HX := hide (HX.out.old HO6.out)
      replace HY := hide (HY.out.is.old HO6.out)
      replace HO := hide (Old.trans HO5.out HO6.out)
      clear HO6 HO5
      have FB := hide (FL.out.append FM.out)
      have FR := hide (FB.out.turned k)
      have NT := hide (norm_turn (L ++ M) k)
      obtain ⟨A, hA⟩ : ∃ A, Hid (normOut (L ++ M) = A) := ⟨_, hide rfl⟩
      rw [hA.out, XB.out] at NT
      rw [hA.out] at CK
      rw [hA.out] at BO
      go_wp2_with fail
      refine (calls_as (zset_Norm _ _ _ HB5.out (Nat.le_trans FB.out.len (by omega)) FB.out.short FB.out.fits) hA.out XB.out).mono ?_
      rintro e w2 ⟨v2, rfl, i2, o2⟩
      replace HO := hide (Old.trans HO.out o2)
      replace HX := hide (HX.out.old o2)
      replace HY := hide (HY.out.old o2)
      replace HRD := hide (HRD.out.old o2)
      replace HB5 := hide (HB5.out.old o2)
      have HA := hide i2.is
      clear i2 o2
      go_wp2_with fail
      refine (calls_as (zset_Norm _ _ _ HRD.out (Nat.le_trans FR.out.len (by omega)) FR.out.short FR.out.fits) NT.out.2.symm NT.out.1.symm).mono ?_
      rintro e w3 ⟨v3, rfl, i3, o3⟩
      replace HO := hide (Old.trans HO.out o3)
      replace HX := hide (HX.out.old o3)
      replace HY := hide (HY.out.old o3)
      replace HRD := hide (HRD.out.old o3)
      replace HB5 := hide (HB5.out.old o3)
      replace HA := hide (HA.out.old o3)
      have HBB := hide i3.is
      clear i3 o3
      go_wp2_with fail
      refine (same_true _ _ A _ HA.out HBB.out).mono ?_
      rintro e w4 ⟨rfl, o4⟩
      replace HO := hide (Old.trans HO.out o4)
      replace HX := hide (HX.out.old o4)
      replace HY := hide (HY.out.old o4)
      replace HRD := hide (HRD.out.old o4)
      replace HB5 := hide (HB5.out.old o4)
      replace HA := hide (HA.out.old o4)
      replace HBB := hide (HBB.out.old o4)
      clear o4
      clear HBB HRD HB5
      go_wp2_with fail
      refine (check_as (zset_Check _ _ _ HA.out) CK.out).mono ?_
      rintro e w5 ⟨rfl, o5⟩
      replace HO := hide (Old.trans HO.out o5)
      replace HX := hide (HX.out.old o5)
      replace HY := hide (HY.out.old o5)
      replace HA := hide (HA.out.old o5)
      clear o5
      go_wp2_with fail
      refine (calls_as (zset_Norm _ _ _ HX.out (Nat.le_trans FL.out.len (by omega)) FL.out.short FL.out.fits) hP.out XG.out).mono ?_
      rintro e w6 ⟨v6, rfl, i6, o6⟩
      replace HO := hide (Old.trans HO.out o6)
      replace HX := hide (HX.out.old o6)
      replace HY := hide (HY.out.old o6)
      replace HA := hide (HA.out.old o6)
      have HP := hide i6.is
      clear i6 o6
      go_wp2_with fail
      refine (calls_as (zset_Norm _ _ _ HY.out (Nat.le_trans FM.out.len (by omega)) FM.out.short FM.out.fits) hQ.out XH.out).mono ?_
      rintro e w7 ⟨v7, rfl, i7, o7⟩
      replace HO := hide (Old.trans HO.out o7)
      replace HX := hide (HX.out.old o7)
      replace HY := hide (HY.out.old o7)
      replace HA := hide (HA.out.old o7)
      replace HP := hide (HP.out.old o7)
      have HQ := hide i7.is
      clear i7 o7
      go_wp2_with fail
      refine (calls_as (zset_Norm _ _ _ HP.out (Nat.le_trans FP.out.len (by omega)) FP.out.short FP.out.fits) AG.out.2 AG.out.1).mono ?_
      rintro e w8 ⟨v8, rfl, i8, o8⟩
      replace HO := hide (Old.trans HO.out o8)
      replace HX := hide (HX.out.old o8)
      replace HY := hide (HY.out.old o8)
      replace HA := hide (HA.out.old o8)
      replace HP := hide (HP.out.old o8)
      replace HQ := hide (HQ.out.old o8)
      have HG := hide i8.is
      clear i8 o8
      go_wp2_with fail
      refine (calls_as (zset_Add _ _ P Q _ HP.out HQ.out (FP.out.mono (by omega)) (FQ.out.mono (by omega))) BO.out.2 BO.out.1).mono ?_
      rintro e w9 ⟨v9, rfl, i9, o9⟩
      replace HO := hide (Old.trans HO.out o9)
      replace HX := hide (HX.out.old o9)
      replace HY := hide (HY.out.old o9)
      replace HA := hide (HA.out.old o9)
      replace HP := hide (HP.out.old o9)
      replace HQ := hide (HQ.out.old o9)
      replace HG := hide (HG.out.old o9)
      have HS := hide i9.is
      clear i9 o9
      go_wp2_with fail
      refine (same_true _ _ P _ HG.out HP.out).mono ?_
      rintro e w10 ⟨rfl, o10⟩
      replace HO := hide (Old.trans HO.out o10)
      replace HX := hide (HX.out.old o10)
      replace HY := hide (HY.out.old o10)
      replace HA := hide (HA.out.old o10)
      replace HP := hide (HP.out.old o10)
      replace HQ := hide (HQ.out.old o10)
      replace HG := hide (HG.out.old o10)
      replace HS := hide (HS.out.old o10)
      clear o10
      go_wp2_with fail
      refine (same_true _ _ A _ HS.out HA.out).mono ?_
      rintro e w11 ⟨rfl, o11⟩
      replace HO := hide (Old.trans HO.out o11)
      replace HX := hide (HX.out.old o11)
      replace HY := hide (HY.out.old o11)
      replace HA := hide (HA.out.old o11)
      replace HP := hide (HP.out.old o11)
      replace HQ := hide (HQ.out.old o11)
      replace HG := hide (HG.out.old o11)
      replace HS := hide (HS.out.old o11)
      clear o11
      go_wp2_with fail
      go_ret
      exact ⟨rfl, HO.out⟩
  · have HPRE := hide hpre
    have HPOST := hide hpost
    unfold maxLen at hmax
    clear hpre hpost HR
    go_wp2_with fail
    refine BR.out.mono ?_
    rintro e w' ⟨⟨k, hk, rfl⟩, rfl⟩
    have hkN : k ≤ N := by omega
    clear hk BR
    go_wp2_with fail
    go_cut [11] (fun rv wr => ∃ k : Nat, Hid (k ≤ N) ∧ Hid (ItemsIs wr rv ((L ++ M).drop k ++ (L ++ M).take k)) ∧ Hid (Old w5 wr))
    case first =>
      have hkcap : k ≤ cap := by omega
      have hkI : (k : Int) ≤ (cap : Int) := by omega
      have hk0 : (0 : Int) ≤ (k : Int) := by omega
      by_cases hkc : k < cap
      · have PRE := hide (show ∀ w', Old w5 w' → ReadT w.heap.size w' (.slice (some ⟨g, 0, none⟩) k cap) ((L ++ M).take k) from fun w' h => (HPRE.out k (by omega)).old h)
        have HC := hide (show ∀ A w', Old w5 w' → (k < cap → A = some ⟨g, k * 2, none⟩) → Calls Try.prog 12 #[.slice A (N - k) (cap - k)] w' fun e w2 => ∃ v, e = .returned v ∧ Rows2 w5.heap.size w.heap.size w2 v ((L ++ M).drop k) ∧ Old w' w2 from fun A w' h hA => copy_turn _ _ _ _ w5 w' ((HPOST.out k (by omega) A hA).old h) (by have := HN.out; simp at this; simp; omega) (HSD.out k) h rfl HO5.out.size)
        have LN := hide (show ((L ++ M).drop k).length + ((L ++ M).take k).length ≤ 4194304 by have := HN.out; simp at this; simp; omega)
        go_region_held3 (fun w' => Old w5 w')
          (first | (exact Old.drew (Old.refl _)) | (exact Old.alloc (by assumption) _) | (exact Old.trans (by assumption) (by assumption)) | (exact Kept.old (by assumption) (by assumption) (Nat.le_refl _)))
          (first
            | (go_at_call 12; refine (HC.out _ _ (by assumption) (by intro h; first | (simp; done) | (simp; omega) | (split <;> simp <;> omega))).mono ?_; rintro e w6 ⟨v6, rfl, hr1, hb1⟩)
            | (refine step_push2 _ _ _ rfl w5.heap.size w.heap.size _ ((L ++ M).drop k) rfl hr1 _ ((L ++ M).take k) rfl (PRE.out _ (by assumption)) LN.out (Below.size (w := w5) (by assumption)) ?_; intro v7 w7 own7 kept7))
        go_wp2_with fail
        go_meet
        exact ⟨k, hide (by omega), hide own7.is, hide (by assumption)⟩
      · have PRE := hide (show ∀ w', Old w5 w' → ReadT w.heap.size w' (.slice (some ⟨g, 0, none⟩) k cap) ((L ++ M).take k) from fun w' h => (HPRE.out k (by omega)).old h)
        have HC := hide (show ∀ A j c w', j = 0 → c ≤ 1048576 → Old w5 w' → Calls Try.prog 12 #[.slice A j c] w' fun e w2 => ∃ v, e = .returned v ∧ Rows2 w5.heap.size w.heap.size w2 v ((L ++ M).drop k) ∧ Old w' w2 from fun A j c w' hj hc h => copy_turn _ _ _ _ w5 w' (ReadT.none_ (List.drop_of_length_le (by rw [HN.out]; omega)) hj hc) (by have := HN.out; simp at this; simp; omega) (HSD.out k) h rfl HO5.out.size)
        have LN := hide (show ((L ++ M).drop k).length + ((L ++ M).take k).length ≤ 4194304 by have := HN.out; simp at this; simp; omega)
        obtain rfl : k = N := by omega
        obtain rfl : k = cap := by omega
        clear hkN hNcap hkc hkcap hkI
        go_region_held3 (fun w' => Old w5 w')
          (first | (exact Old.drew (Old.refl _)) | (exact Old.alloc (by assumption) _) | (exact Old.trans (by assumption) (by assumption)) | (exact Kept.old (by assumption) (by assumption) (Nat.le_refl _)))
          (first
            | (go_at_call 12; refine (HC.out _ _ _ _ (by first | (simp; done) | omega) (by omega) (by assumption)).mono ?_; rintro e w6 ⟨v6, rfl, hr1, hb1⟩)
            | (refine step_push2 _ _ _ rfl w5.heap.size w.heap.size _ ((L ++ M).drop k) rfl hr1 _ ((L ++ M).take k) rfl (PRE.out _ (by assumption)) LN.out (Below.size (w := w5) (by assumption)) ?_; intro v7 w7 own7 kept7))
        go_wp2_with fail
        go_meet
        exact ⟨k, hide (by omega), hide own7.is, hide (by assumption)⟩
    case rest =>
      obtain ⟨k, HK, HRD, HO6⟩ := hcut
      replace HB5 := hide (HB5.out.old HO6.out)
      replace HX := hide (HX.out.old HO6.out)
      replace HY := hide (HY.out.is.old HO6.out)
      replace HO := hide (Old.trans HO5.out HO6.out)
      clear HO6 HO5
      have FB := hide (FL.out.append FM.out)
      have FR := hide (FB.out.turned k)
      have NT := hide (norm_turn (L ++ M) k)
      obtain ⟨A, hA⟩ : ∃ A, Hid (normOut (L ++ M) = A) := ⟨_, hide rfl⟩
      rw [hA.out, XB.out] at NT
      rw [hA.out] at CK
      rw [hA.out] at BO
      go_wp2_with fail
      refine (calls_as (zset_Norm _ _ _ HB5.out (Nat.le_trans FB.out.len (by omega)) FB.out.short FB.out.fits) hA.out XB.out).mono ?_
      rintro e w2 ⟨v2, rfl, i2, o2⟩
      replace HO := hide (Old.trans HO.out o2)
      replace HX := hide (HX.out.old o2)
      replace HY := hide (HY.out.old o2)
      replace HRD := hide (HRD.out.old o2)
      replace HB5 := hide (HB5.out.old o2)
      have HA := hide i2.is
      clear i2 o2
      go_wp2_with fail
      refine (calls_as (zset_Norm _ _ _ HRD.out (Nat.le_trans FR.out.len (by omega)) FR.out.short FR.out.fits) NT.out.2.symm NT.out.1.symm).mono ?_
      rintro e w3 ⟨v3, rfl, i3, o3⟩
      replace HO := hide (Old.trans HO.out o3)
      replace HX := hide (HX.out.old o3)
      replace HY := hide (HY.out.old o3)
      replace HRD := hide (HRD.out.old o3)
      replace HB5 := hide (HB5.out.old o3)
      replace HA := hide (HA.out.old o3)
      have HBB := hide i3.is
      clear i3 o3
      go_wp2_with fail
      refine (same_true _ _ A _ HA.out HBB.out).mono ?_
      rintro e w4 ⟨rfl, o4⟩
      replace HO := hide (Old.trans HO.out o4)
      replace HX := hide (HX.out.old o4)
      replace HY := hide (HY.out.old o4)
      replace HRD := hide (HRD.out.old o4)
      replace HB5 := hide (HB5.out.old o4)
      replace HA := hide (HA.out.old o4)
      replace HBB := hide (HBB.out.old o4)
      clear o4
      clear HBB HRD HB5
      go_wp2_with fail
      refine (check_as (zset_Check _ _ _ HA.out) CK.out).mono ?_
      rintro e w5 ⟨rfl, o5⟩
      replace HO := hide (Old.trans HO.out o5)
      replace HX := hide (HX.out.old o5)
      replace HY := hide (HY.out.old o5)
      replace HA := hide (HA.out.old o5)
      clear o5
      go_wp2_with fail
      refine (calls_as (zset_Norm _ _ _ HX.out (Nat.le_trans FL.out.len (by omega)) FL.out.short FL.out.fits) hP.out XG.out).mono ?_
      rintro e w6 ⟨v6, rfl, i6, o6⟩
      replace HO := hide (Old.trans HO.out o6)
      replace HX := hide (HX.out.old o6)
      replace HY := hide (HY.out.old o6)
      replace HA := hide (HA.out.old o6)
      have HP := hide i6.is
      clear i6 o6
      go_wp2_with fail
      refine (calls_as (zset_Norm _ _ _ HY.out (Nat.le_trans FM.out.len (by omega)) FM.out.short FM.out.fits) hQ.out XH.out).mono ?_
      rintro e w7 ⟨v7, rfl, i7, o7⟩
      replace HO := hide (Old.trans HO.out o7)
      replace HX := hide (HX.out.old o7)
      replace HY := hide (HY.out.old o7)
      replace HA := hide (HA.out.old o7)
      replace HP := hide (HP.out.old o7)
      have HQ := hide i7.is
      clear i7 o7
      go_wp2_with fail
      refine (calls_as (zset_Norm _ _ _ HP.out (Nat.le_trans FP.out.len (by omega)) FP.out.short FP.out.fits) AG.out.2 AG.out.1).mono ?_
      rintro e w8 ⟨v8, rfl, i8, o8⟩
      replace HO := hide (Old.trans HO.out o8)
      replace HX := hide (HX.out.old o8)
      replace HY := hide (HY.out.old o8)
      replace HA := hide (HA.out.old o8)
      replace HP := hide (HP.out.old o8)
      replace HQ := hide (HQ.out.old o8)
      have HG := hide i8.is
      clear i8 o8
      go_wp2_with fail
      refine (calls_as (zset_Add _ _ P Q _ HP.out HQ.out (FP.out.mono (by omega)) (FQ.out.mono (by omega))) BO.out.2 BO.out.1).mono ?_
      rintro e w9 ⟨v9, rfl, i9, o9⟩
      replace HO := hide (Old.trans HO.out o9)
      replace HX := hide (HX.out.old o9)
      replace HY := hide (HY.out.old o9)
      replace HA := hide (HA.out.old o9)
      replace HP := hide (HP.out.old o9)
      replace HQ := hide (HQ.out.old o9)
      replace HG := hide (HG.out.old o9)
      have HS := hide i9.is
      clear i9 o9
      go_wp2_with fail
      refine (same_true _ _ P _ HG.out HP.out).mono ?_
      rintro e w10 ⟨rfl, o10⟩
      replace HO := hide (Old.trans HO.out o10)
      replace HX := hide (HX.out.old o10)
      replace HY := hide (HY.out.old o10)
      replace HA := hide (HA.out.old o10)
      replace HP := hide (HP.out.old o10)
      replace HQ := hide (HQ.out.old o10)
      replace HG := hide (HG.out.old o10)
      replace HS := hide (HS.out.old o10)
      clear o10
      go_wp2_with fail
      refine (same_true _ _ A _ HS.out HA.out).mono ?_
      rintro e w11 ⟨rfl, o11⟩
      replace HO := hide (Old.trans HO.out o11)
      replace HX := hide (HX.out.old o11)
      replace HY := hide (HY.out.old o11)
      replace HA := hide (HA.out.old o11)
      replace HP := hide (HP.out.old o11)
      replace HQ := hide (HQ.out.old o11)
      replace HG := hide (HG.out.old o11)
      replace HS := hide (HS.out.old o11)
      clear o11
      go_wp2_with fail
      go_ret
      exact ⟨rfl, HO.out⟩

set_option maxRecDepth 100000 in
set_option maxHeartbeats 2000000 in
theorem zsetNorm_b50_g50_hx (va vb : Value) (la lb : List Item) (t : Int) (L M : List Item) (eb eg eh : Int) (w : World) (ha : ItemsIs w va la) (hb : ItemsIs w vb lb) (hL : cutItems la = L) (hM : cutItems lb = M) (fl : Fine 40 L) (fm : Fine 40 M)
    (xb : normErr (L ++ M) = eb) (xg : normErr L = eg) (xh : normErr M = eh) (hb0 : eb = 50) (hg0 : eg = 50) :
    Calls Try.prog 5 #[va, vb, .int .i64 t] w fun e w' => e = .returned (.bool true) ∧ Old w w' := by
  have HLA := hide ha
  have HLB := hide hb
  have EL := hide hL
  have EM := hide hM
  have FL := hide fl
  have FM := hide fm
  subst hb0 hg0
  have XB := hide xb
  have XG := hide xg
  have XH := hide xh
  clear ha hb hL hM fl fm xb xg xh
  have HO := hide (Old.refl w)
  go_enter Try.func5, Try.ntmps5
  go_wp2_with fail
  refine (works_run _).mono ?_
  rintro e w1 ⟨rfl, o1⟩
  replace HO := hide (Old.trans HO.out o1)
  clear o1
  go_wp2_with fail
  refine (cut_run _ la _ (HLA.out.old HO.out)).mono ?_
  rintro e w2 ⟨v2, rfl, i2, o2⟩
  rw [EL.out] at i2
  have HX := hide i2.is
  replace HO := hide (Old.trans HO.out o2)
  clear i2 o2
  go_wp2_with fail
  refine (cut_run _ lb _ (HLB.out.old HO.out)).mono ?_
  rintro e w3 ⟨v3, rfl, i3, o3⟩
  rw [EM.out] at i3
  have HY := hide (i3.read HO.out.size)
  replace HX := hide (HX.out.old o3)
  replace HO := hide (Old.trans HO.out o3)
  clear i3 o3
  go_wp2_with fail
  refine (cut_own _ la _ (HLA.out.old HO.out)).mono ?_
  rintro e w4 ⟨v4, rfl, i4, o4⟩
  rw [EL.out] at i4
  have R4 := hide (i4.rows2 HO.out.size)
  have Y4 := hide (HY.out.old o4)
  have O4 := hide o4
  clear i4 o4
  have LEN := hide (show L.length + M.length ≤ 80 from Nat.add_le_add FL.out.len FM.out.len)
  have LE4 := Nat.le_trans LEN.out (show 80 ≤ 4194304 by omega)
  go_upto_region 5 with (at_builtin; refine wpList_plain rfl (fun K hK => ?_); refine step_push2 w4 _ _ rfl w3.heap.size w.heap.size _ L rfl R4.out _ M rfl Y4.out LE4 O4.out.size ?_; intro v5 w5 own5 kept5; refine hK _ _ ?_; clear hK)
  have O5 := hide (kept5.old O4.out (Nat.le_refl _))
  have HR0 := hide (own5.own HO.out.size)
  have HB5 := hide own5.is
  replace HX := hide (HX.out.old O5.out)
  replace HY := hide (HY.out.old O5.out)
  have HO5 := hide (Old.trans HO.out O5.out)
  clear own5 kept5 R4 Y4 O4 O5 LE4 HO
  obtain ⟨N, hN⟩ : ∃ N, Hid ((L ++ M).length = N) := ⟨_, hide rfl⟩
  have HN := hide hN.out
  have HR := hide (HR0.out.readN HN.out)
  clear hN HR0
  have hN80 : N ≤ 80 := by have h1 := LEN.out; have h2 := HN.out; rw [List.length_append] at h2; omega
  have HSD := hide (show ∀ k, Short ((L ++ M).drop k) from fun k i hi => by
    rw [List.getElem_drop]
    exact (FL.out.append FM.out).short _ (by simp at hi; simp; omega))
  have BR := hide (show Calls Try.prog 27 #[.int .i64 t, .int .i64 ((N : Int) + 1)] w5 fun e w' => (∃ k : Nat, k < N + 1 ∧ e = .returned (.int .i64 k)) ∧ w5 = w' from by have := bring_run t (N + 1) w5 (by omega) (by omega); simpa using this)
  rcases HR.out with ⟨rfl, hn⟩ | ⟨g, cap, rfl, hNcap, hmax, hpre, hpost⟩
  · subst hn
    have NIL := hide (List.eq_nil_of_length_eq_zero HN.out)
    clear HR
    go_wp2_with fail
    refine BR.out.mono ?_
    rintro e w' ⟨⟨k, hk, rfl⟩, rfl⟩
    obtain rfl : k = 0 := by omega
    clear hk BR
    go_wp2_with fail
    go_cut [11] (fun rv wr => ∃ k : Nat, Hid (k ≤ 0) ∧ Hid (ItemsIs wr rv ((L ++ M).drop k ++ (L ++ M).take k)) ∧ Hid (Old w5 wr))
    case first =>
      have HC := hide (show ∀ A j c w', j = 0 → c ≤ 1048576 → Old w5 w' → Calls Try.prog 12 #[.slice A j c] w' fun e w2 => ∃ v, e = .returned v ∧ Rows2 w5.heap.size w.heap.size w2 v ((L ++ M).drop 0) ∧ Old w' w2 from fun A j c w' hj hc h => copy_turn _ _ _ _ w5 w' (ReadT.none_ (by rw [List.drop_zero]; exact NIL.out) hj hc) (by rw [List.drop_zero, NIL.out]; simp) (by rw [List.drop_zero, NIL.out]; intro i hi; simp at hi) h rfl HO5.out.size)
      have PRE := hide (show ∀ A j c w', j = 0 → c ≤ 1048576 → Old w5 w' → ReadT w.heap.size w' (.slice A j c) ((L ++ M).take 0) from fun A j c w' hj hc h => ReadT.none_ (by simp) hj hc)
      have LN := hide (show ((L ++ M).drop 0).length + ((L ++ M).take 0).length ≤ 4194304 by rw [NIL.out]; simp)
      go_region_held3 (fun w' => Old w5 w')
        (first | (exact Old.drew (Old.refl _)) | (exact Old.alloc (by assumption) _) | (exact Old.trans (by assumption) (by assumption)) | (exact Kept.old (by assumption) (by assumption) (Nat.le_refl _)))
        (first
          | (go_at_call 12; refine (HC.out _ _ _ _ (by simp) (by simp) (by assumption)).mono ?_; rintro e w6 ⟨v6, rfl, hr1, hb1⟩)
          | (refine step_push2 _ _ _ rfl w5.heap.size w.heap.size _ ((L ++ M).drop 0) rfl hr1 _ ((L ++ M).take 0) rfl (PRE.out _ _ _ _ (by simp) (by simp) (by assumption)) LN.out (Below.size (w := w5) (by assumption)) ?_; intro v7 w7 own7 kept7))
      go_wp2_with fail
      go_meet
      exact ⟨0, hide (by omega), hide own7.is, hide (by assumption)⟩
    case rest =>
      obtain ⟨k, HK, HRD, HO6⟩ := hcut
      replace HB5 := hide (HB5.out.old HO6.out)
      replace HX := hide (HX.out.old HO6.out)
      replace HY := hide (HY.out.is.old HO6.out)
      replace HO := hide (Old.trans HO5.out HO6.out)
      clear HO6 HO5
      have FB := hide (FL.out.append FM.out)
      have FR := hide (FB.out.turned k)
      have NT := hide (norm_turn (L ++ M) k)
      have hA := hide (show normOut (L ++ M) = [] from normOut_bad (by rw [XB.out]; decide))
      rw [hA.out, XB.out] at NT
      go_wp2_with fail
      refine (calls_as (zset_Norm _ _ _ HB5.out (Nat.le_trans FB.out.len (by omega)) FB.out.short FB.out.fits) hA.out XB.out).mono ?_
      rintro e w2 ⟨v2, he2, i2, o2⟩
      obtain ⟨A2, c2, rfl⟩ := items_nil i2
      subst he2
      replace HO := hide (Old.trans HO.out o2)
      replace HX := hide (HX.out.old o2)
      replace HY := hide (HY.out.old o2)
      replace HRD := hide (HRD.out.old o2)
      replace HB5 := hide (HB5.out.old o2)
      have HA := hide i2.is
      clear i2 o2
      go_wp2_with fail
      refine (calls_as (zset_Norm _ _ _ HRD.out (Nat.le_trans FR.out.len (by omega)) FR.out.short FR.out.fits) NT.out.2.symm NT.out.1.symm).mono ?_
      rintro e w3 ⟨v3, rfl, i3, o3⟩
      replace HO := hide (Old.trans HO.out o3)
      replace HX := hide (HX.out.old o3)
      replace HY := hide (HY.out.old o3)
      replace HRD := hide (HRD.out.old o3)
      replace HB5 := hide (HB5.out.old o3)
      replace HA := hide (HA.out.old o3)
      have HBB := hide i3.is
      clear i3 o3
      go_wp2_with fail
      refine (same_true _ _ [] _ HA.out HBB.out).mono ?_
      rintro e w4 ⟨rfl, o4⟩
      replace HO := hide (Old.trans HO.out o4)
      replace HX := hide (HX.out.old o4)
      replace HY := hide (HY.out.old o4)
      replace HRD := hide (HRD.out.old o4)
      replace HB5 := hide (HB5.out.old o4)
      replace HA := hide (HA.out.old o4)
      replace HBB := hide (HBB.out.old o4)
      clear o4
      clear HBB HRD HB5
      go_wp2_with fail
      refine (calls_as (zset_Norm _ _ _ HX.out (Nat.le_trans FL.out.len (by omega)) FL.out.short FL.out.fits) rfl XG.out).mono ?_
      rintro e w5 ⟨v5, rfl, i5, o5⟩
      replace HO := hide (Old.trans HO.out o5)
      replace HX := hide (HX.out.old o5)
      replace HY := hide (HY.out.old o5)
      replace HA := hide (HA.out.old o5)
      have HP := hide i5.is
      clear i5 o5
      go_wp2_with fail
      refine (calls_as (zset_Norm _ _ _ HY.out (Nat.le_trans FM.out.len (by omega)) FM.out.short FM.out.fits) rfl XH.out).mono ?_
      rintro e w6 ⟨v6, rfl, i6, o6⟩
      replace HO := hide (Old.trans HO.out o6)
      replace HX := hide (HX.out.old o6)
      replace HY := hide (HY.out.old o6)
      replace HA := hide (HA.out.old o6)
      replace HP := hide (HP.out.old o6)
      have HQ := hide i6.is
      clear i6 o6
      go_wp2_with fail
      go_ret
      exact ⟨rfl, HO.out⟩
  · have HPRE := hide hpre
    have HPOST := hide hpost
    unfold maxLen at hmax
    clear hpre hpost HR
    go_wp2_with fail
    refine BR.out.mono ?_
    rintro e w' ⟨⟨k, hk, rfl⟩, rfl⟩
    have hkN : k ≤ N := by omega
    clear hk BR
    go_wp2_with fail
    go_cut [11] (fun rv wr => ∃ k : Nat, Hid (k ≤ N) ∧ Hid (ItemsIs wr rv ((L ++ M).drop k ++ (L ++ M).take k)) ∧ Hid (Old w5 wr))
    case first =>
      have hkcap : k ≤ cap := by omega
      have hkI : (k : Int) ≤ (cap : Int) := by omega
      have hk0 : (0 : Int) ≤ (k : Int) := by omega
      by_cases hkc : k < cap
      · have PRE := hide (show ∀ w', Old w5 w' → ReadT w.heap.size w' (.slice (some ⟨g, 0, none⟩) k cap) ((L ++ M).take k) from fun w' h => (HPRE.out k (by omega)).old h)
        have HC := hide (show ∀ A w', Old w5 w' → (k < cap → A = some ⟨g, k * 2, none⟩) → Calls Try.prog 12 #[.slice A (N - k) (cap - k)] w' fun e w2 => ∃ v, e = .returned v ∧ Rows2 w5.heap.size w.heap.size w2 v ((L ++ M).drop k) ∧ Old w' w2 from fun A w' h hA => copy_turn _ _ _ _ w5 w' ((HPOST.out k (by omega) A hA).old h) (by have := HN.out; simp at this; simp; omega) (HSD.out k) h rfl HO5.out.size)
        have LN := hide (show ((L ++ M).drop k).length + ((L ++ M).take k).length ≤ 4194304 by have := HN.out; simp at this; simp; omega)
        go_region_held3 (fun w' => Old w5 w')
          (first | (exact Old.drew (Old.refl _)) | (exact Old.alloc (by assumption) _) | (exact Old.trans (by assumption) (by assumption)) | (exact Kept.old (by assumption) (by assumption) (Nat.le_refl _)))
          (first
            | (go_at_call 12; refine (HC.out _ _ (by assumption) (by intro h; first | (simp; done) | (simp; omega) | (split <;> simp <;> omega))).mono ?_; rintro e w6 ⟨v6, rfl, hr1, hb1⟩)
            | (refine step_push2 _ _ _ rfl w5.heap.size w.heap.size _ ((L ++ M).drop k) rfl hr1 _ ((L ++ M).take k) rfl (PRE.out _ (by assumption)) LN.out (Below.size (w := w5) (by assumption)) ?_; intro v7 w7 own7 kept7))
        go_wp2_with fail
        go_meet
        exact ⟨k, hide (by omega), hide own7.is, hide (by assumption)⟩
      · have PRE := hide (show ∀ w', Old w5 w' → ReadT w.heap.size w' (.slice (some ⟨g, 0, none⟩) k cap) ((L ++ M).take k) from fun w' h => (HPRE.out k (by omega)).old h)
        have HC := hide (show ∀ A j c w', j = 0 → c ≤ 1048576 → Old w5 w' → Calls Try.prog 12 #[.slice A j c] w' fun e w2 => ∃ v, e = .returned v ∧ Rows2 w5.heap.size w.heap.size w2 v ((L ++ M).drop k) ∧ Old w' w2 from fun A j c w' hj hc h => copy_turn _ _ _ _ w5 w' (ReadT.none_ (List.drop_of_length_le (by rw [HN.out]; omega)) hj hc) (by have := HN.out; simp at this; simp; omega) (HSD.out k) h rfl HO5.out.size)
        have LN := hide (show ((L ++ M).drop k).length + ((L ++ M).take k).length ≤ 4194304 by have := HN.out; simp at this; simp; omega)
        obtain rfl : k = N := by omega
        obtain rfl : k = cap := by omega
        clear hkN hNcap hkc hkcap hkI
        go_region_held3 (fun w' => Old w5 w')
          (first | (exact Old.drew (Old.refl _)) | (exact Old.alloc (by assumption) _) | (exact Old.trans (by assumption) (by assumption)) | (exact Kept.old (by assumption) (by assumption) (Nat.le_refl _)))
          (first
            | (go_at_call 12; refine (HC.out _ _ _ _ (by first | (simp; done) | omega) (by omega) (by assumption)).mono ?_; rintro e w6 ⟨v6, rfl, hr1, hb1⟩)
            | (refine step_push2 _ _ _ rfl w5.heap.size w.heap.size _ ((L ++ M).drop k) rfl hr1 _ ((L ++ M).take k) rfl (PRE.out _ (by assumption)) LN.out (Below.size (w := w5) (by assumption)) ?_; intro v7 w7 own7 kept7))
        go_wp2_with fail
        go_meet
        exact ⟨k, hide (by omega), hide own7.is, hide (by assumption)⟩
    case rest =>
      obtain ⟨k, HK, HRD, HO6⟩ := hcut
      replace HB5 := hide (HB5.out.old HO6.out)
      replace HX := hide (HX.out.old HO6.out)
      replace HY := hide (HY.out.is.old HO6.out)
      replace HO := hide (Old.trans HO5.out HO6.out)
      clear HO6 HO5
      have FB := hide (FL.out.append FM.out)
      have FR := hide (FB.out.turned k)
      have NT := hide (norm_turn (L ++ M) k)
      have hA := hide (show normOut (L ++ M) = [] from normOut_bad (by rw [XB.out]; decide))
      rw [hA.out, XB.out] at NT
      go_wp2_with fail
      refine (calls_as (zset_Norm _ _ _ HB5.out (Nat.le_trans FB.out.len (by omega)) FB.out.short FB.out.fits) hA.out XB.out).mono ?_
      rintro e w2 ⟨v2, he2, i2, o2⟩
      obtain ⟨A2, c2, rfl⟩ := items_nil i2
      subst he2
      replace HO := hide (Old.trans HO.out o2)
      replace HX := hide (HX.out.old o2)
      replace HY := hide (HY.out.old o2)
      replace HRD := hide (HRD.out.old o2)
      replace HB5 := hide (HB5.out.old o2)
      have HA := hide i2.is
      clear i2 o2
      go_wp2_with fail
      refine (calls_as (zset_Norm _ _ _ HRD.out (Nat.le_trans FR.out.len (by omega)) FR.out.short FR.out.fits) NT.out.2.symm NT.out.1.symm).mono ?_
      rintro e w3 ⟨v3, rfl, i3, o3⟩
      replace HO := hide (Old.trans HO.out o3)
      replace HX := hide (HX.out.old o3)
      replace HY := hide (HY.out.old o3)
      replace HRD := hide (HRD.out.old o3)
      replace HB5 := hide (HB5.out.old o3)
      replace HA := hide (HA.out.old o3)
      have HBB := hide i3.is
      clear i3 o3
      go_wp2_with fail
      refine (same_true _ _ [] _ HA.out HBB.out).mono ?_
      rintro e w4 ⟨rfl, o4⟩
      replace HO := hide (Old.trans HO.out o4)
      replace HX := hide (HX.out.old o4)
      replace HY := hide (HY.out.old o4)
      replace HRD := hide (HRD.out.old o4)
      replace HB5 := hide (HB5.out.old o4)
      replace HA := hide (HA.out.old o4)
      replace HBB := hide (HBB.out.old o4)
      clear o4
      clear HBB HRD HB5
      go_wp2_with fail
      refine (calls_as (zset_Norm _ _ _ HX.out (Nat.le_trans FL.out.len (by omega)) FL.out.short FL.out.fits) rfl XG.out).mono ?_
      rintro e w5 ⟨v5, rfl, i5, o5⟩
      replace HO := hide (Old.trans HO.out o5)
      replace HX := hide (HX.out.old o5)
      replace HY := hide (HY.out.old o5)
      replace HA := hide (HA.out.old o5)
      have HP := hide i5.is
      clear i5 o5
      go_wp2_with fail
      refine (calls_as (zset_Norm _ _ _ HY.out (Nat.le_trans FM.out.len (by omega)) FM.out.short FM.out.fits) rfl XH.out).mono ?_
      rintro e w6 ⟨v6, rfl, i6, o6⟩
      replace HO := hide (Old.trans HO.out o6)
      replace HX := hide (HX.out.old o6)
      replace HY := hide (HY.out.old o6)
      replace HA := hide (HA.out.old o6)
      replace HP := hide (HP.out.old o6)
      have HQ := hide i6.is
      clear i6 o6
      go_wp2_with fail
      go_ret
      exact ⟨rfl, HO.out⟩

set_option maxRecDepth 100000 in
set_option maxHeartbeats 2000000 in
theorem zsetNorm_b50_g0_h50 (va vb : Value) (la lb : List Item) (t : Int) (L M : List Item) (eb eg eh : Int) (w : World) (ha : ItemsIs w va la) (hb : ItemsIs w vb lb) (hL : cutItems la = L) (hM : cutItems lb = M) (fl : Fine 40 L) (fm : Fine 40 M)
    (xb : normErr (L ++ M) = eb) (xg : normErr L = eg) (xh : normErr M = eh) (hb0 : eb = 50) (hg0 : eg = 0) (hh0 : eh = 50) :
    Calls Try.prog 5 #[va, vb, .int .i64 t] w fun e w' => e = .returned (.bool true) ∧ Old w w' := by
  have HLA := hide ha
  have HLB := hide hb
  have EL := hide hL
  have EM := hide hM
  have FL := hide fl
  have FM := hide fm
  subst hb0 hg0 hh0
  have XB := hide xb
  have XG := hide xg
  have XH := hide xh
  clear ha hb hL hM fl fm xb xg xh
  have HO := hide (Old.refl w)
  go_enter Try.func5, Try.ntmps5
  go_wp2_with fail
  refine (works_run _).mono ?_
  rintro e w1 ⟨rfl, o1⟩
  replace HO := hide (Old.trans HO.out o1)
  clear o1
  go_wp2_with fail
  refine (cut_run _ la _ (HLA.out.old HO.out)).mono ?_
  rintro e w2 ⟨v2, rfl, i2, o2⟩
  rw [EL.out] at i2
  have HX := hide i2.is
  replace HO := hide (Old.trans HO.out o2)
  clear i2 o2
  go_wp2_with fail
  refine (cut_run _ lb _ (HLB.out.old HO.out)).mono ?_
  rintro e w3 ⟨v3, rfl, i3, o3⟩
  rw [EM.out] at i3
  have HY := hide (i3.read HO.out.size)
  replace HX := hide (HX.out.old o3)
  replace HO := hide (Old.trans HO.out o3)
  clear i3 o3
  go_wp2_with fail
  refine (cut_own _ la _ (HLA.out.old HO.out)).mono ?_
  rintro e w4 ⟨v4, rfl, i4, o4⟩
  rw [EL.out] at i4
  have R4 := hide (i4.rows2 HO.out.size)
  have Y4 := hide (HY.out.old o4)
  have O4 := hide o4
  clear i4 o4
  have LEN := hide (show L.length + M.length ≤ 80 from Nat.add_le_add FL.out.len FM.out.len)
  have LE4 := Nat.le_trans LEN.out (show 80 ≤ 4194304 by omega)
  go_upto_region 5 with (at_builtin; refine wpList_plain rfl (fun K hK => ?_); refine step_push2 w4 _ _ rfl w3.heap.size w.heap.size _ L rfl R4.out _ M rfl Y4.out LE4 O4.out.size ?_; intro v5 w5 own5 kept5; refine hK _ _ ?_; clear hK)
  have O5 := hide (kept5.old O4.out (Nat.le_refl _))
  have HR0 := hide (own5.own HO.out.size)
  have HB5 := hide own5.is
  replace HX := hide (HX.out.old O5.out)
  replace HY := hide (HY.out.old O5.out)
  have HO5 := hide (Old.trans HO.out O5.out)
  clear own5 kept5 R4 Y4 O4 O5 LE4 HO
  obtain ⟨N, hN⟩ : ∃ N, Hid ((L ++ M).length = N) := ⟨_, hide rfl⟩
  have HN := hide hN.out
  have HR := hide (HR0.out.readN HN.out)
  clear hN HR0
  have hN80 : N ≤ 80 := by have h1 := LEN.out; have h2 := HN.out; rw [List.length_append] at h2; omega
  have HSD := hide (show ∀ k, Short ((L ++ M).drop k) from fun k i hi => by
    rw [List.getElem_drop]
    exact (FL.out.append FM.out).short _ (by simp at hi; simp; omega))
  have BR := hide (show Calls Try.prog 27 #[.int .i64 t, .int .i64 ((N : Int) + 1)] w5 fun e w' => (∃ k : Nat, k < N + 1 ∧ e = .returned (.int .i64 k)) ∧ w5 = w' from by have := bring_run t (N + 1) w5 (by omega) (by omega); simpa using this)
  rcases HR.out with ⟨rfl, hn⟩ | ⟨g, cap, rfl, hNcap, hmax, hpre, hpost⟩
  · subst hn
    have NIL := hide (List.eq_nil_of_length_eq_zero HN.out)
    clear HR
    go_wp2_with fail
    refine BR.out.mono ?_
    rintro e w' ⟨⟨k, hk, rfl⟩, rfl⟩
    obtain rfl : k = 0 := by omega
    clear hk BR
    go_wp2_with fail
    go_cut [11] (fun rv wr => ∃ k : Nat, Hid (k ≤ 0) ∧ Hid (ItemsIs wr rv ((L ++ M).drop k ++ (L ++ M).take k)) ∧ Hid (Old w5 wr))
    case first =>
      have HC := hide (show ∀ A j c w', j = 0 → c ≤ 1048576 → Old w5 w' → Calls Try.prog 12 #[.slice A j c] w' fun e w2 => ∃ v, e = .returned v ∧ Rows2 w5.heap.size w.heap.size w2 v ((L ++ M).drop 0) ∧ Old w' w2 from fun A j c w' hj hc h => copy_turn _ _ _ _ w5 w' (ReadT.none_ (by rw [List.drop_zero]; exact NIL.out) hj hc) (by rw [List.drop_zero, NIL.out]; simp) (by rw [List.drop_zero, NIL.out]; intro i hi; simp at hi) h rfl HO5.out.size)
      have PRE := hide (show ∀ A j c w', j = 0 → c ≤ 1048576 → Old w5 w' → ReadT w.heap.size w' (.slice A j c) ((L ++ M).take 0) from fun A j c w' hj hc h => ReadT.none_ (by simp) hj hc)
      have LN := hide (show ((L ++ M).drop 0).length + ((L ++ M).take 0).length ≤ 4194304 by rw [NIL.out]; simp)
      go_region_held3 (fun w' => Old w5 w')
        (first | (exact Old.drew (Old.refl _)) | (exact Old.alloc (by assumption) _) | (exact Old.trans (by assumption) (by assumption)) | (exact Kept.old (by assumption) (by assumption) (Nat.le_refl _)))
        (first
          | (go_at_call 12; refine (HC.out _ _ _ _ (by simp) (by simp) (by assumption)).mono ?_; rintro e w6 ⟨v6, rfl, hr1, hb1⟩)
          | (refine step_push2 _ _ _ rfl w5.heap.size w.heap.size _ ((L ++ M).drop 0) rfl hr1 _ ((L ++ M).take 0) rfl (PRE.out _ _ _ _ (by simp) (by simp) (by assumption)) LN.out (Below.size (w := w5) (by assumption)) ?_; intro v7 w7 own7 kept7))
      go_wp2_with fail
      go_meet
      exact ⟨0, hide (by omega), hide own7.is, hide (by assumption)⟩
    case rest =>
      obtain ⟨k, HK, HRD, HO6⟩ := hcut
      replace HB5 := hide (HB5.out.old HO6.out)
      replace HX := hide (HX.out.old HO6.out)
      replace HY := hide (HY.out.is.old HO6.out)
      replace HO := hide (Old.trans HO5.out HO6.out)
      clear HO6 HO5
      have FB := hide (FL.out.append FM.out)
      have FR := hide (FB.out.turned k)
      have NT := hide (norm_turn (L ++ M) k)
      have hA := hide (show normOut (L ++ M) = [] from normOut_bad (by rw [XB.out]; decide))
      rw [hA.out, XB.out] at NT
      go_wp2_with fail
      refine (calls_as (zset_Norm _ _ _ HB5.out (Nat.le_trans FB.out.len (by omega)) FB.out.short FB.out.fits) hA.out XB.out).mono ?_
      rintro e w2 ⟨v2, he2, i2, o2⟩
      obtain ⟨A2, c2, rfl⟩ := items_nil i2
      subst he2
      replace HO := hide (Old.trans HO.out o2)
      replace HX := hide (HX.out.old o2)
      replace HY := hide (HY.out.old o2)
      replace HRD := hide (HRD.out.old o2)
      replace HB5 := hide (HB5.out.old o2)
      have HA := hide i2.is
      clear i2 o2
      go_wp2_with fail
      refine (calls_as (zset_Norm _ _ _ HRD.out (Nat.le_trans FR.out.len (by omega)) FR.out.short FR.out.fits) NT.out.2.symm NT.out.1.symm).mono ?_
      rintro e w3 ⟨v3, rfl, i3, o3⟩
      replace HO := hide (Old.trans HO.out o3)
      replace HX := hide (HX.out.old o3)
      replace HY := hide (HY.out.old o3)
      replace HRD := hide (HRD.out.old o3)
      replace HB5 := hide (HB5.out.old o3)
      replace HA := hide (HA.out.old o3)
      have HBB := hide i3.is
      clear i3 o3
      go_wp2_with fail
      refine (same_true _ _ [] _ HA.out HBB.out).mono ?_
      rintro e w4 ⟨rfl, o4⟩
      replace HO := hide (Old.trans HO.out o4)
      replace HX := hide (HX.out.old o4)
      replace HY := hide (HY.out.old o4)
      replace HRD := hide (HRD.out.old o4)
      replace HB5 := hide (HB5.out.old o4)
      replace HA := hide (HA.out.old o4)
      replace HBB := hide (HBB.out.old o4)
      clear o4
      clear HBB HRD HB5
      go_wp2_with fail
      refine (calls_as (zset_Norm _ _ _ HX.out (Nat.le_trans FL.out.len (by omega)) FL.out.short FL.out.fits) rfl XG.out).mono ?_
      rintro e w5 ⟨v5, rfl, i5, o5⟩
      replace HO := hide (Old.trans HO.out o5)
      replace HX := hide (HX.out.old o5)
      replace HY := hide (HY.out.old o5)
      replace HA := hide (HA.out.old o5)
      have HP := hide i5.is
      clear i5 o5
      go_wp2_with fail
      refine (calls_as (zset_Norm _ _ _ HY.out (Nat.le_trans FM.out.len (by omega)) FM.out.short FM.out.fits) rfl XH.out).mono ?_
      rintro e w6 ⟨v6, rfl, i6, o6⟩
      replace HO := hide (Old.trans HO.out o6)
      replace HX := hide (HX.out.old o6)
      replace HY := hide (HY.out.old o6)
      replace HA := hide (HA.out.old o6)
      replace HP := hide (HP.out.old o6)
      have HQ := hide i6.is
      clear i6 o6
      go_wp2_with fail
      go_ret
      exact ⟨rfl, HO.out⟩
  · have HPRE := hide hpre
    have HPOST := hide hpost
    unfold maxLen at hmax
    clear hpre hpost HR
    go_wp2_with fail
    refine BR.out.mono ?_
    rintro e w' ⟨⟨k, hk, rfl⟩, rfl⟩
    have hkN : k ≤ N := by omega
    clear hk BR
    go_wp2_with fail
    go_cut [11] (fun rv wr => ∃ k : Nat, Hid (k ≤ N) ∧ Hid (ItemsIs wr rv ((L ++ M).drop k ++ (L ++ M).take k)) ∧ Hid (Old w5 wr))
    case first =>
      have hkcap : k ≤ cap := by omega
      have hkI : (k : Int) ≤ (cap : Int) := by omega
      have hk0 : (0 : Int) ≤ (k : Int) := by omega
      by_cases hkc : k < cap
      · have PRE := hide (show ∀ w', Old w5 w' → ReadT w.heap.size w' (.slice (some ⟨g, 0, none⟩) k cap) ((L ++ M).take k) from fun w' h => (HPRE.out k (by omega)).old h)
        have HC := hide (show ∀ A w', Old w5 w' → (k < cap → A = some ⟨g, k * 2, none⟩) → Calls Try.prog 12 #[.slice A (N - k) (cap - k)] w' fun e w2 => ∃ v, e = .returned v ∧ Rows2 w5.heap.size w.heap.size w2 v ((L ++ M).drop k) ∧ Old w' w2 from fun A w' h hA => copy_turn _ _ _ _ w5 w' ((HPOST.out k (by omega) A hA).old h) (by have := HN.out; simp at this; simp; omega) (HSD.out k) h rfl HO5.out.size)
        have LN := hide (show ((L ++ M).drop k).length + ((L ++ M).take k).length ≤ 4194304 by have := HN.out; simp at this; simp; omega)
        go_region_held3 (fun w' => Old w5 w')
          (first | (exact Old.drew (Old.refl _)) | (exact Old.alloc (by assumption) _) | (exact Old.trans (by assumption) (by assumption)) | (exact Kept.old (by assumption) (by assumption) (Nat.le_refl _)))
          (first
            | (go_at_call 12; refine (HC.out _ _ (by assumption) (by intro h; first | (simp; done) | (simp; omega) | (split <;> simp <;> omega))).mono ?_; rintro e w6 ⟨v6, rfl, hr1, hb1⟩)
            | (refine step_push2 _ _ _ rfl w5.heap.size w.heap.size _ ((L ++ M).drop k) rfl hr1 _ ((L ++ M).take k) rfl (PRE.out _ (by assumption)) LN.out (Below.size (w := w5) (by assumption)) ?_; intro v7 w7 own7 kept7))
        go_wp2_with fail
        go_meet
        exact ⟨k, hide (by omega), hide own7.is, hide (by assumption)⟩
      · have PRE := hide (show ∀ w', Old w5 w' → ReadT w.heap.size w' (.slice (some ⟨g, 0, none⟩) k cap) ((L ++ M).take k) from fun w' h => (HPRE.out k (by omega)).old h)
        have HC := hide (show ∀ A j c w', j = 0 → c ≤ 1048576 → Old w5 w' → Calls Try.prog 12 #[.slice A j c] w' fun e w2 => ∃ v, e = .returned v ∧ Rows2 w5.heap.size w.heap.size w2 v ((L ++ M).drop k) ∧ Old w' w2 from fun A j c w' hj hc h => copy_turn _ _ _ _ w5 w' (ReadT.none_ (List.drop_of_length_le (by rw [HN.out]; omega)) hj hc) (by have := HN.out; simp at this; simp; omega) (HSD.out k) h rfl HO5.out.size)
        have LN := hide (show ((L ++ M).drop k).length + ((L ++ M).take k).length ≤ 4194304 by have := HN.out; simp at this; simp; omega)
        obtain rfl : k = N := by omega
        obtain rfl : k = cap := by omega
        clear hkN hNcap hkc hkcap hkI
        go_region_held3 (fun w' => Old w5 w')
          (first | (exact Old.drew (Old.refl _)) | (exact Old.alloc (by assumption) _) | (exact Old.trans (by assumption) (by assumption)) | (exact Kept.old (by assumption) (by assumption) (Nat.le_refl _)))
          (first
            | (go_at_call 12; refine (HC.out _ _ _ _ (by first | (simp; done) | omega) (by omega) (by assumption)).mono ?_; rintro e w6 ⟨v6, rfl, hr1, hb1⟩)
            | (refine step_push2 _ _ _ rfl w5.heap.size w.heap.size _ ((L ++ M).drop k) rfl hr1 _ ((L ++ M).take k) rfl (PRE.out _ (by assumption)) LN.out (Below.size (w := w5) (by assumption)) ?_; intro v7 w7 own7 kept7))
        go_wp2_with fail
        go_meet
        exact ⟨k, hide (by omega), hide own7.is, hide (by assumption)⟩
    case rest =>
      obtain ⟨k, HK, HRD, HO6⟩ := hcut
      replace HB5 := hide (HB5.out.old HO6.out)
      replace HX := hide (HX.out.old HO6.out)
      replace HY := hide (HY.out.is.old HO6.out)
      replace HO := hide (Old.trans HO5.out HO6.out)
      clear HO6 HO5
      have FB := hide (FL.out.append FM.out)
      have FR := hide (FB.out.turned k)
      have NT := hide (norm_turn (L ++ M) k)
      have hA := hide (show normOut (L ++ M) = [] from normOut_bad (by rw [XB.out]; decide))
      rw [hA.out, XB.out] at NT
      go_wp2_with fail
      refine (calls_as (zset_Norm _ _ _ HB5.out (Nat.le_trans FB.out.len (by omega)) FB.out.short FB.out.fits) hA.out XB.out).mono ?_
      rintro e w2 ⟨v2, he2, i2, o2⟩
      obtain ⟨A2, c2, rfl⟩ := items_nil i2
      subst he2
      replace HO := hide (Old.trans HO.out o2)
      replace HX := hide (HX.out.old o2)
      replace HY := hide (HY.out.old o2)
      replace HRD := hide (HRD.out.old o2)
      replace HB5 := hide (HB5.out.old o2)
      have HA := hide i2.is
      clear i2 o2
      go_wp2_with fail
      refine (calls_as (zset_Norm _ _ _ HRD.out (Nat.le_trans FR.out.len (by omega)) FR.out.short FR.out.fits) NT.out.2.symm NT.out.1.symm).mono ?_
      rintro e w3 ⟨v3, rfl, i3, o3⟩
      replace HO := hide (Old.trans HO.out o3)
      replace HX := hide (HX.out.old o3)
      replace HY := hide (HY.out.old o3)
      replace HRD := hide (HRD.out.old o3)
      replace HB5 := hide (HB5.out.old o3)
      replace HA := hide (HA.out.old o3)
      have HBB := hide i3.is
      clear i3 o3
      go_wp2_with fail
      refine (same_true _ _ [] _ HA.out HBB.out).mono ?_
      rintro e w4 ⟨rfl, o4⟩
      replace HO := hide (Old.trans HO.out o4)
      replace HX := hide (HX.out.old o4)
      replace HY := hide (HY.out.old o4)
      replace HRD := hide (HRD.out.old o4)
      replace HB5 := hide (HB5.out.old o4)
      replace HA := hide (HA.out.old o4)
      replace HBB := hide (HBB.out.old o4)
      clear o4
      clear HBB HRD HB5
      go_wp2_with fail
      refine (calls_as (zset_Norm _ _ _ HX.out (Nat.le_trans FL.out.len (by omega)) FL.out.short FL.out.fits) rfl XG.out).mono ?_
      rintro e w5 ⟨v5, rfl, i5, o5⟩
      replace HO := hide (Old.trans HO.out o5)
      replace HX := hide (HX.out.old o5)
      replace HY := hide (HY.out.old o5)
      replace HA := hide (HA.out.old o5)
      have HP := hide i5.is
      clear i5 o5
      go_wp2_with fail
      refine (calls_as (zset_Norm _ _ _ HY.out (Nat.le_trans FM.out.len (by omega)) FM.out.short FM.out.fits) rfl XH.out).mono ?_
      rintro e w6 ⟨v6, rfl, i6, o6⟩
      replace HO := hide (Old.trans HO.out o6)
      replace HX := hide (HX.out.old o6)
      replace HY := hide (HY.out.old o6)
      replace HA := hide (HA.out.old o6)
      replace HP := hide (HP.out.old o6)
      have HQ := hide i6.is
      clear i6 o6
      go_wp2_with fail
      go_ret
      exact ⟨rfl, HO.out⟩

set_option maxRecDepth 100000 in
set_option maxHeartbeats 2000000 in
theorem zsetNorm_b50_g0_h0 (va vb : Value) (la lb : List Item) (t : Int) (L M : List Item) (eb eg eh : Int) (w : World) (ha : ItemsIs w va la) (hb : ItemsIs w vb lb) (hL : cutItems la = L) (hM : cutItems lb = M) (fl : Fine 40 L) (fm : Fine 40 M)
    (xb : normErr (L ++ M) = eb) (xg : normErr L = eg) (xh : normErr M = eh) (hb0 : eb = 50) (hg0 : eg = 0) (hh0 : eh = 0) :
    Calls Try.prog 5 #[va, vb, .int .i64 t] w fun e w' => e = .returned (.bool true) ∧ Old w w' := by
  have HLA := hide ha
  have HLB := hide hb
  have EL := hide hL
  have EM := hide hM
  have FL := hide fl
  have FM := hide fm
  subst hb0 hg0 hh0
  obtain ⟨P, hP⟩ : ∃ P, Hid (normOut L = P) := ⟨_, hide rfl⟩
  obtain ⟨Q, hQ⟩ : ∃ Q, Hid (normOut M = Q) := ⟨_, hide rfl⟩
  have FP := hide (show Fine 40 P by rw [← hP.out]; exact norm_fine fl)
  have FQ := hide (show Fine 40 Q by rw [← hQ.out]; exact norm_fine fm)
  have AG := hide (norm_again xg)
  have BO := hide (norm_both xg xh)
  rw [hP.out] at AG
  rw [hP.out, hQ.out, xb] at BO
  rw [normOut_bad (l := L ++ M) (by rw [xb]; decide)] at BO
  have XB := hide xb
  have XG := hide xg
  have XH := hide xh
  clear ha hb hL hM fl fm xb xg xh
  have HO := hide (Old.refl w)
  go_enter Try.func5, Try.ntmps5
  go_wp2_with fail
  refine (works_run _).mono ?_
  rintro e w1 ⟨rfl, o1⟩
  replace HO := hide (Old.trans HO.out o1)
  clear o1
  go_wp2_with fail
  refine (cut_run _ la _ (HLA.out.old HO.out)).mono ?_
  rintro e w2 ⟨v2, rfl, i2, o2⟩
  rw [EL.out] at i2
  have HX := hide i2.is
  replace HO := hide (Old.trans HO.out o2)
  clear i2 o2
  go_wp2_with fail
  refine (cut_run _ lb _ (HLB.out.old HO.out)).mono ?_
  rintro e w3 ⟨v3, rfl, i3, o3⟩
  rw [EM.out] at i3
  have HY := hide (i3.read HO.out.size)
  replace HX := hide (HX.out.old o3)
  replace HO := hide (Old.trans HO.out o3)
  clear i3 o3
  go_wp2_with fail
  refine (cut_own _ la _ (HLA.out.old HO.out)).mono ?_
  rintro e w4 ⟨v4, rfl, i4, o4⟩
  rw [EL.out] at i4
  have R4 := hide (i4.rows2 HO.out.size)
  have Y4 := hide (HY.out.old o4)
  have O4 := hide o4
  clear i4 o4
  have LEN := hide (show L.length + M.length ≤ 80 from Nat.add_le_add FL.out.len FM.out.len)
  have LE4 := Nat.le_trans LEN.out (show 80 ≤ 4194304 by omega)
  go_upto_region 5 with (at_builtin; refine wpList_plain rfl (fun K hK => ?_); refine step_push2 w4 _ _ rfl w3.heap.size w.heap.size _ L rfl R4.out _ M rfl Y4.out LE4 O4.out.size ?_; intro v5 w5 own5 kept5; refine hK _ _ ?_; clear hK)
  have O5 := hide (kept5.old O4.out (Nat.le_refl _))
  have HR0 := hide (own5.own HO.out.size)
  have HB5 := hide own5.is
  replace HX := hide (HX.out.old O5.out)
  replace HY := hide (HY.out.old O5.out)
  have HO5 := hide (Old.trans HO.out O5.out)
  clear own5 kept5 R4 Y4 O4 O5 LE4 HO
  obtain ⟨N, hN⟩ : ∃ N, Hid ((L ++ M).length = N) := ⟨_, hide rfl⟩
  have HN := hide hN.out
  have HR := hide (HR0.out.readN HN.out)
  clear hN HR0
  have hN80 : N ≤ 80 := by have h1 := LEN.out; have h2 := HN.out; rw [List.length_append] at h2; omega
  have HSD := hide (show ∀ k, Short ((L ++ M).drop k) from fun k i hi => by
    rw [List.getElem_drop]
    exact (FL.out.append FM.out).short _ (by simp at hi; simp; omega))
  have BR := hide (show Calls Try.prog 27 #[.int .i64 t, .int .i64 ((N : Int) + 1)] w5 fun e w' => (∃ k : Nat, k < N + 1 ∧ e = .returned (.int .i64 k)) ∧ w5 = w' from by have := bring_run t (N + 1) w5 (by omega) (by omega); simpa using this)
  rcases HR.out with ⟨rfl, hn⟩ | ⟨g, cap, rfl, hNcap, hmax, hpre, hpost⟩
  · subst hn
    have NIL := hide (List.eq_nil_of_length_eq_zero HN.out)
    clear HR
    go_wp2_with fail
    refine BR.out.mono ?_
    rintro e w' ⟨⟨k, hk, rfl⟩, rfl⟩
    obtain rfl : k = 0 := by omega
    clear hk BR
    go_wp2_with fail
    go_cut [11] (fun rv wr => ∃ k : Nat, Hid (k ≤ 0) ∧ Hid (ItemsIs wr rv ((L ++ M).drop k ++ (L ++ M).take k)) ∧ Hid (Old w5 wr))
    case first =>
      have HC := hide (show ∀ A j c w', j = 0 → c ≤ 1048576 → Old w5 w' → Calls Try.prog 12 #[.slice A j c] w' fun e w2 => ∃ v, e = .returned v ∧ Rows2 w5.heap.size w.heap.size w2 v ((L ++ M).drop 0) ∧ Old w' w2 from fun A j c w' hj hc h => copy_turn _ _ _ _ w5 w' (ReadT.none_ (by rw [List.drop_zero]; exact NIL.out) hj hc) (by rw [List.drop_zero, NIL.out]; simp) (by rw [List.drop_zero, NIL.out]; intro i hi; simp at hi) h rfl HO5.out.size)
      have PRE := hide (show ∀ A j c w', j = 0 → c ≤ 1048576 → Old w5 w' → ReadT w.heap.size w' (.slice A j c) ((L ++ M).take 0) from fun A j c w' hj hc h => ReadT.none_ (by simp) hj hc)
      have LN := hide (show ((L ++ M).drop 0).length + ((L ++ M).take 0).length ≤ 4194304 by rw [NIL.out]; simp)
      go_region_held3 (fun w' => Old w5 w')
        (first | (exact Old.drew (Old.refl _)) | (exact Old.alloc (by assumption) _) | (exact Old.trans (by assumption) (by assumption)) | (exact Kept.old (by assumption) (by assumption) (Nat.le_refl _)))
        (first
          | (go_at_call 12; refine (HC.out _ _ _ _ (by simp) (by simp) (by assumption)).mono ?_; rintro e w6 ⟨v6, rfl, hr1, hb1⟩)
          | (refine step_push2 _ _ _ rfl w5.heap.size w.heap.size _ ((L ++ M).drop 0) rfl hr1 _ ((L ++ M).take 0) rfl (PRE.out _ _ _ _ (by simp) (by simp) (by assumption)) LN.out (Below.size (w := w5) (by assumption)) ?_; intro v7 w7 own7 kept7))
      go_wp2_with fail
      go_meet
      exact ⟨0, hide (by omega), hide own7.is, hide (by assumption)⟩
    case rest =>
      obtain ⟨k, HK, HRD, HO6⟩ := hcut
      replace HB5 := hide (HB5.out.old HO6.out)
      replace HX := hide (HX.out.old HO6.out)
      replace HY := hide (HY.out.is.old HO6.out)
      replace HO := hide (Old.trans HO5.out HO6.out)
      clear HO6 HO5
      have FB := hide (FL.out.append FM.out)
      have FR := hide (FB.out.turned k)
      have NT := hide (norm_turn (L ++ M) k)
      have hA := hide (show normOut (L ++ M) = [] from normOut_bad (by rw [XB.out]; decide))
      rw [hA.out, XB.out] at NT
      go_wp2_with fail
      refine (calls_as (zset_Norm _ _ _ HB5.out (Nat.le_trans FB.out.len (by omega)) FB.out.short FB.out.fits) hA.out XB.out).mono ?_
      rintro e w2 ⟨v2, he2, i2, o2⟩
      obtain ⟨A2, c2, rfl⟩ := items_nil i2
      subst he2
      replace HO := hide (Old.trans HO.out o2)
      replace HX := hide (HX.out.old o2)
      replace HY := hide (HY.out.old o2)
      replace HRD := hide (HRD.out.old o2)
      replace HB5 := hide (HB5.out.old o2)
      have HA := hide i2.is
      clear i2 o2
      go_wp2_with fail
      refine (calls_as (zset_Norm _ _ _ HRD.out (Nat.le_trans FR.out.len (by omega)) FR.out.short FR.out.fits) NT.out.2.symm NT.out.1.symm).mono ?_
      rintro e w3 ⟨v3, rfl, i3, o3⟩
      replace HO := hide (Old.trans HO.out o3)
      replace HX := hide (HX.out.old o3)
      replace HY := hide (HY.out.old o3)
      replace HRD := hide (HRD.out.old o3)
      replace HB5 := hide (HB5.out.old o3)
      replace HA := hide (HA.out.old o3)
      have HBB := hide i3.is
      clear i3 o3
      go_wp2_with fail
      refine (same_true _ _ [] _ HA.out HBB.out).mono ?_
      rintro e w4 ⟨rfl, o4⟩
      replace HO := hide (Old.trans HO.out o4)
      replace HX := hide (HX.out.old o4)
      replace HY := hide (HY.out.old o4)
      replace HRD := hide (HRD.out.old o4)
      replace HB5 := hide (HB5.out.old o4)
      replace HA := hide (HA.out.old o4)
      replace HBB := hide (HBB.out.old o4)
      clear o4
      clear HBB HRD HB5
      go_wp2_with fail
      refine (calls_as (zset_Norm _ _ _ HX.out (Nat.le_trans FL.out.len (by omega)) FL.out.short FL.out.fits) hP.out XG.out).mono ?_
      rintro e w5 ⟨v5, rfl, i5, o5⟩
      replace HO := hide (Old.trans HO.out o5)
      replace HX := hide (HX.out.old o5)
      replace HY := hide (HY.out.old o5)
      replace HA := hide (HA.out.old o5)
      have HP := hide i5.is
      clear i5 o5
      go_wp2_with fail
      refine (calls_as (zset_Norm _ _ _ HY.out (Nat.le_trans FM.out.len (by omega)) FM.out.short FM.out.fits) hQ.out XH.out).mono ?_
      rintro e w6 ⟨v6, rfl, i6, o6⟩
      replace HO := hide (Old.trans HO.out o6)
      replace HX := hide (HX.out.old o6)
      replace HY := hide (HY.out.old o6)
      replace HA := hide (HA.out.old o6)
      replace HP := hide (HP.out.old o6)
      have HQ := hide i6.is
      clear i6 o6
      go_wp2_with fail
      refine (calls_as (zset_Norm _ _ _ HP.out (Nat.le_trans FP.out.len (by omega)) FP.out.short FP.out.fits) AG.out.2 AG.out.1).mono ?_
      rintro e w7 ⟨v7, rfl, i7, o7⟩
      replace HO := hide (Old.trans HO.out o7)
      replace HX := hide (HX.out.old o7)
      replace HY := hide (HY.out.old o7)
      replace HA := hide (HA.out.old o7)
      replace HP := hide (HP.out.old o7)
      replace HQ := hide (HQ.out.old o7)
      have HG := hide i7.is
      clear i7 o7
      go_wp2_with fail
      refine (calls_as (zset_Add _ _ P Q _ HP.out HQ.out (FP.out.mono (by omega)) (FQ.out.mono (by omega))) BO.out.2 BO.out.1).mono ?_
      rintro e w8 ⟨v8, rfl, i8, o8⟩
      replace HO := hide (Old.trans HO.out o8)
      replace HX := hide (HX.out.old o8)
      replace HY := hide (HY.out.old o8)
      replace HA := hide (HA.out.old o8)
      replace HP := hide (HP.out.old o8)
      replace HQ := hide (HQ.out.old o8)
      replace HG := hide (HG.out.old o8)
      have HS := hide i8.is
      clear i8 o8
      go_wp2_with fail
      refine (same_true _ _ P _ HG.out HP.out).mono ?_
      rintro e w9 ⟨rfl, o9⟩
      replace HO := hide (Old.trans HO.out o9)
      replace HX := hide (HX.out.old o9)
      replace HY := hide (HY.out.old o9)
      replace HA := hide (HA.out.old o9)
      replace HP := hide (HP.out.old o9)
      replace HQ := hide (HQ.out.old o9)
      replace HG := hide (HG.out.old o9)
      replace HS := hide (HS.out.old o9)
      clear o9
      go_wp2_with fail
      refine (same_true _ _ [] _ HS.out HA.out).mono ?_
      rintro e w10 ⟨rfl, o10⟩
      replace HO := hide (Old.trans HO.out o10)
      replace HX := hide (HX.out.old o10)
      replace HY := hide (HY.out.old o10)
      replace HA := hide (HA.out.old o10)
      replace HP := hide (HP.out.old o10)
      replace HQ := hide (HQ.out.old o10)
      replace HG := hide (HG.out.old o10)
      replace HS := hide (HS.out.old o10)
      clear o10
      go_wp2_with fail
      go_ret
      exact ⟨rfl, HO.out⟩
  · have HPRE := hide hpre
    have HPOST := hide hpost
    unfold maxLen at hmax
    clear hpre hpost HR
    go_wp2_with fail
    refine BR.out.mono ?_
    rintro e w' ⟨⟨k, hk, rfl⟩, rfl⟩
    have hkN : k ≤ N := by omega
    clear hk BR
    go_wp2_with fail
    go_cut [11] (fun rv wr => ∃ k : Nat, Hid (k ≤ N) ∧ Hid (ItemsIs wr rv ((L ++ M).drop k ++ (L ++ M).take k)) ∧ Hid (Old w5 wr))
    case first =>
      have hkcap : k ≤ cap := by omega
      have hkI : (k : Int) ≤ (cap : Int) := by omega
      have hk0 : (0 : Int) ≤ (k : Int) := by omega
      by_cases hkc : k < cap
      · have PRE := hide (show ∀ w', Old w5 w' → ReadT w.heap.size w' (.slice (some ⟨g, 0, none⟩) k cap) ((L ++ M).take k) from fun w' h => (HPRE.out k (by omega)).old h)
        have HC := hide (show ∀ A w', Old w5 w' → (k < cap → A = some ⟨g, k * 2, none⟩) → Calls Try.prog 12 #[.slice A (N - k) (cap - k)] w' fun e w2 => ∃ v, e = .returned v ∧ Rows2 w5.heap.size w.heap.size w2 v ((L ++ M).drop k) ∧ Old w' w2 from fun A w' h hA => copy_turn _ _ _ _ w5 w' ((HPOST.out k (by omega) A hA).old h) (by have := HN.out; simp at this; simp; omega) (HSD.out k) h rfl HO5.out.size)
        have LN := hide (show ((L ++ M).drop k).length + ((L ++ M).take k).length ≤ 4194304 by have := HN.out; simp at this; simp; omega)
        go_region_held3 (fun w' => Old w5 w')
          (first | (exact Old.drew (Old.refl _)) | (exact Old.alloc (by assumption) _) | (exact Old.trans (by assumption) (by assumption)) | (exact Kept.old (by assumption) (by assumption) (Nat.le_refl _)))
          (first
            | (go_at_call 12; refine (HC.out _ _ (by assumption) (by intro h; first | (simp; done) | (simp; omega) | (split <;> simp <;> omega))).mono ?_; rintro e w6 ⟨v6, rfl, hr1, hb1⟩)
            | (refine step_push2 _ _ _ rfl w5.heap.size w.heap.size _ ((L ++ M).drop k) rfl hr1 _ ((L ++ M).take k) rfl (PRE.out _ (by assumption)) LN.out (Below.size (w := w5) (by assumption)) ?_; intro v7 w7 own7 kept7))
        go_wp2_with fail
        go_meet
        exact ⟨k, hide (by omega), hide own7.is, hide (by assumption)⟩
      · have PRE := hide (show ∀ w', Old w5 w' → ReadT w.heap.size w' (.slice (some ⟨g, 0, none⟩) k cap) ((L ++ M).take k) from fun w' h => (HPRE.out k (by omega)).old h)
        have HC := hide (show ∀ A j c w', j = 0 → c ≤ 1048576 → Old w5 w' → Calls Try.prog 12 #[.slice A j c] w' fun e w2 => ∃ v, e = .returned v ∧ Rows2 w5.heap.size w.heap.size w2 v ((L ++ M).drop k) ∧ Old w' w2 from fun A j c w' hj hc h => copy_turn _ _ _ _ w5 w' (ReadT.none_ (List.drop_of_length_le (by rw [HN.out]; omega)) hj hc) (by have := HN.out; simp at this; simp; omega) (HSD.out k) h rfl HO5.out.size)
        have LN := hide (show ((L ++ M).drop k).length + ((L ++ M).take k).length ≤ 4194304 by have := HN.out; simp at this; simp; omega)
        obtain rfl : k = N := by omega
        obtain rfl : k = cap := by omega
        clear hkN hNcap hkc hkcap hkI
        go_region_held3 (fun w' => Old w5 w')
          (first | (exact Old.drew (Old.refl _)) | (exact Old.alloc (by assumption) _) | (exact Old.trans (by assumption) (by assumption)) | (exact Kept.old (by assumption) (by assumption) (Nat.le_refl _)))
          (first
            | (go_at_call 12; refine (HC.out _ _ _ _ (by first | (simp; done) | omega) (by omega) (by assumption)).mono ?_; rintro e w6 ⟨v6, rfl, hr1, hb1⟩)
            | (refine step_push2 _ _ _ rfl w5.heap.size w.heap.size _ ((L ++ M).drop k) rfl hr1 _ ((L ++ M).take k) rfl (PRE.out _ (by assumption)) LN.out (Below.size (w := w5) (by assumption)) ?_; intro v7 w7 own7 kept7))
        go_wp2_with fail
        go_meet
        exact ⟨k, hide (by omega), hide own7.is, hide (by assumption)⟩
    case rest =>
      obtain ⟨k, HK, HRD, HO6⟩ := hcut
      replace HB5 := hide (HB5.out.old HO6.out)
      replace HX := hide (HX.out.old HO6.out)
      replace HY := hide (HY.out.is.old HO6.out)
      replace HO := hide (Old.trans HO5.out HO6.out)
      clear HO6 HO5
      have FB := hide (FL.out.append FM.out)
      have FR := hide (FB.out.turned k)
      have NT := hide (norm_turn (L ++ M) k)
      have hA := hide (show normOut (L ++ M) = [] from normOut_bad (by rw [XB.out]; decide))
      rw [hA.out, XB.out] at NT
      go_wp2_with fail
      refine (calls_as (zset_Norm _ _ _ HB5.out (Nat.le_trans FB.out.len (by omega)) FB.out.short FB.out.fits) hA.out XB.out).mono ?_
      rintro e w2 ⟨v2, he2, i2, o2⟩
      obtain ⟨A2, c2, rfl⟩ := items_nil i2
      subst he2
      replace HO := hide (Old.trans HO.out o2)
      replace HX := hide (HX.out.old o2)
      replace HY := hide (HY.out.old o2)
      replace HRD := hide (HRD.out.old o2)
      replace HB5 := hide (HB5.out.old o2)
      have HA := hide i2.is
      clear i2 o2
      go_wp2_with fail
      refine (calls_as (zset_Norm _ _ _ HRD.out (Nat.le_trans FR.out.len (by omega)) FR.out.short FR.out.fits) NT.out.2.symm NT.out.1.symm).mono ?_
      rintro e w3 ⟨v3, rfl, i3, o3⟩
      replace HO := hide (Old.trans HO.out o3)
      replace HX := hide (HX.out.old o3)
      replace HY := hide (HY.out.old o3)
      replace HRD := hide (HRD.out.old o3)
      replace HB5 := hide (HB5.out.old o3)
      replace HA := hide (HA.out.old o3)
      have HBB := hide i3.is
      clear i3 o3
      go_wp2_with fail
      refine (same_true _ _ [] _ HA.out HBB.out).mono ?_
      rintro e w4 ⟨rfl, o4⟩
      replace HO := hide (Old.trans HO.out o4)
      replace HX := hide (HX.out.old o4)
      replace HY := hide (HY.out.old o4)
      replace HRD := hide (HRD.out.old o4)
      replace HB5 := hide (HB5.out.old o4)
      replace HA := hide (HA.out.old o4)
      replace HBB := hide (HBB.out.old o4)
      clear o4
      clear HBB HRD HB5
      go_wp2_with fail
      refine (calls_as (zset_Norm _ _ _ HX.out (Nat.le_trans FL.out.len (by omega)) FL.out.short FL.out.fits) hP.out XG.out).mono ?_
      rintro e w5 ⟨v5, rfl, i5, o5⟩
      replace HO := hide (Old.trans HO.out o5)
      replace HX := hide (HX.out.old o5)
      replace HY := hide (HY.out.old o5)
      replace HA := hide (HA.out.old o5)
      have HP := hide i5.is
      clear i5 o5
      go_wp2_with fail
      refine (calls_as (zset_Norm _ _ _ HY.out (Nat.le_trans FM.out.len (by omega)) FM.out.short FM.out.fits) hQ.out XH.out).mono ?_
      rintro e w6 ⟨v6, rfl, i6, o6⟩
      replace HO := hide (Old.trans HO.out o6)
      replace HX := hide (HX.out.old o6)
      replace HY := hide (HY.out.old o6)
      replace HA := hide (HA.out.old o6)
      replace HP := hide (HP.out.old o6)
      have HQ := hide i6.is
      clear i6 o6
      go_wp2_with fail
      refine (calls_as (zset_Norm _ _ _ HP.out (Nat.le_trans FP.out.len (by omega)) FP.out.short FP.out.fits) AG.out.2 AG.out.1).mono ?_
      rintro e w7 ⟨v7, rfl, i7, o7⟩
      replace HO := hide (Old.trans HO.out o7)
      replace HX := hide (HX.out.old o7)
      replace HY := hide (HY.out.old o7)
      replace HA := hide (HA.out.old o7)
      replace HP := hide (HP.out.old o7)
      replace HQ := hide (HQ.out.old o7)
      have HG := hide i7.is
      clear i7 o7
      go_wp2_with fail
      refine (calls_as (zset_Add _ _ P Q _ HP.out HQ.out (FP.out.mono (by omega)) (FQ.out.mono (by omega))) BO.out.2 BO.out.1).mono ?_
      rintro e w8 ⟨v8, rfl, i8, o8⟩
      replace HO := hide (Old.trans HO.out o8)
      replace HX := hide (HX.out.old o8)
      replace HY := hide (HY.out.old o8)
      replace HA := hide (HA.out.old o8)
      replace HP := hide (HP.out.old o8)
      replace HQ := hide (HQ.out.old o8)
      replace HG := hide (HG.out.old o8)
      have HS := hide i8.is
      clear i8 o8
      go_wp2_with fail
      refine (same_true _ _ P _ HG.out HP.out).mono ?_
      rintro e w9 ⟨rfl, o9⟩
      replace HO := hide (Old.trans HO.out o9)
      replace HX := hide (HX.out.old o9)
      replace HY := hide (HY.out.old o9)
      replace HA := hide (HA.out.old o9)
      replace HP := hide (HP.out.old o9)
      replace HQ := hide (HQ.out.old o9)
      replace HG := hide (HG.out.old o9)
      replace HS := hide (HS.out.old o9)
      clear o9
      go_wp2_with fail
      refine (same_true _ _ [] _ HS.out HA.out).mono ?_
      rintro e w10 ⟨rfl, o10⟩
      replace HO := hide (Old.trans HO.out o10)
      replace HX := hide (HX.out.old o10)
      replace HY := hide (HY.out.old o10)
      replace HA := hide (HA.out.old o10)
      replace HP := hide (HP.out.old o10)
      replace HQ := hide (HQ.out.old o10)
      replace HG := hide (HG.out.old o10)
      replace HS := hide (HS.out.old o10)
      clear o10
      go_wp2_with fail
      go_ret
      exact ⟨rfl, HO.out⟩

theorem zsetNorm_run (va vb : Value) (la lb : List Item) (t : Int) (w : World) (ha : ItemsIs w va la) (hb : ItemsIs w vb lb) (fa : ∀ x ∈ la, fit x.w) (fb : ∀ x ∈ lb, fit x.w) :
    Calls Try.prog 5 #[va, vb, .int .i64 t] w fun e w' => e = .returned (.bool true) ∧ Old w w' := by
  have FA := cut_fine fa
  have FB := cut_fine fb
  rcases normErr_or (cutItems la ++ cutItems lb) with h0 | h0 <;> rcases normErr_or (cutItems la) with h1 | h1 <;> rcases normErr_or (cutItems lb) with h2 | h2
  · exact zsetNorm_b0_g0_h0 va vb la lb t _ _ _ _ _ w ha hb rfl rfl FA FB rfl rfl rfl h0 h1 h2
  · exact zsetNorm_b0_g0_h50 va vb la lb t _ _ _ _ _ w ha hb rfl rfl FA FB rfl rfl rfl h0 h1 h2
  · exact zsetNorm_b0_g50_hx va vb la lb t _ _ _ _ _ w ha hb rfl rfl FA FB rfl rfl rfl h0 h1
  · exact zsetNorm_b0_g50_hx va vb la lb t _ _ _ _ _ w ha hb rfl rfl FA FB rfl rfl rfl h0 h1
  · exact zsetNorm_b50_g0_h0 va vb la lb t _ _ _ _ _ w ha hb rfl rfl FA FB rfl rfl rfl h0 h1 h2
  · exact zsetNorm_b50_g0_h50 va vb la lb t _ _ _ _ _ w ha hb rfl rfl FA FB rfl rfl rfl h0 h1 h2
  · exact zsetNorm_b50_g50_hx va vb la lb t _ _ _ _ _ w ha hb rfl rfl FA FB rfl rfl rfl h0 h1
  · exact zsetNorm_b50_g50_hx va vb la lb t _ _ _ _ _ w ha hb rfl rfl FA FB rfl rfl rfl h0 h1
end Go.Proofs.Ytggknmagpcnkoaa
