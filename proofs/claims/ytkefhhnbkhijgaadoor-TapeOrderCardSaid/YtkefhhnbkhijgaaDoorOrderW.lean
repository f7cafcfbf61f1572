/- TapeOrder: the walk. -/
import Derived.Test.YtkefhhnbkhijgaaDoorOrderA
namespace Go.Proofs.YtkefhhnbkhijgaaDoor
open Go.RowKit

theorem seeds_cut {w : World} {A : Option Addr} {n c : Nat} {L : List (Value × List Int)} (h : SeedsIs w (.slice A n c) L) {m : Nat} (hm : m ≤ L.length) : SeedsIs w (.slice A m c) (L.take m) := by
  obtain ⟨⟨A2, cap, he, h1, h2, h3⟩, h4⟩ := h
  injection he with e1 e2 e3
  subst e1 e2 e3
  have e : (L.take m).length = m := by simp; omega
  refine ⟨⟨A, c, by rw [e], by omega, h2, fun hx => ?_⟩, fun p hp => h4 p (List.mem_of_mem_take hp)⟩
  have hL : L.map (·.1) ≠ [] := by
    intro e0
    have e1 : L = [] := List.map_eq_nil_iff.1 e0
    subst e1
    simp at hx
  obtain ⟨b, off, rfl, hc⟩ := h3 hL
  refine ⟨b, off, rfl, fun j u hu => hc j u ?_⟩
  rw [List.map_take] at hu
  have hj : j < m := by
    have := (List.getElem?_eq_some_iff.1 hu).1
    rw [List.length_take] at this
    omega
  rwa [List.getElem?_take_of_lt hj] at hu

theorem deeps_mem {l : List J} {x : J} (h : x ∈ l) : x.deep ≤ J.deeps l := by
  induction l with
  | nil => simp at h
  | cons j l ih =>
    simp only [J.deeps]
    rcases List.mem_cons.1 h with e | h
    · subst e; omega
    · have := ih h; omega

theorem inList_size (j : J) : (inList j).flat.length = j.flat.length + 1 := by rw [inList, flat_mk, List.length_cons, one_flats]
theorem KidsA.mono {pl : List (List Nd)} {js : List J} {d z d' z' : Nat} (h : KidsA pl js d z) (hd : d ≤ d') (hz : z ≤ z') : KidsA pl js d' z' :=
  ⟨h.may, h.texts, Nat.le_trans h.deeps hd, Nat.le_trans h.size hz⟩
/-- the parts, one of them in a list -/
theorem order_set {pl : List (List Nd)} {js : List J} {z q : Nat} (h : KidsA pl js 7 (301 * z)) (hq : 0 < pl.length → q < pl.length) (hl : pl.length ≤ 6) {jq : J} (hj : js.getD q (leafJ 1 0 none_) = jq) (hz : z ≤ 6 := by omega) : KidsA (pl.set q (inList jq).flat) (js.set q (inList jq)) 8 (301 * z + 1) := by
  rcases Nat.eq_zero_or_pos pl.length with h0 | h0
  · have e1 : pl = [] := List.eq_nil_of_length_eq_zero h0
    have e2 : js = [] := List.eq_nil_of_length_eq_zero (by rw [← h.may.1, h0])
    subst e1 e2
    exact h.mono (by omega) (by omega)
  · have hqp := hq h0
    have hqj : q < js.length := by rw [← h.may.1]; exact hqp
    rw [getD_at hqj] at hj
    have hm := h.may.2 q hqp hqj
    have hx := h.texts _ (List.getElem_mem hqp)
    have hdj : js[q].deep ≤ J.deeps js := deeps_mem (List.getElem_mem hqj)
    have hsj : js[q].flat.length ≤ (J.flats js).length := flats_mem_le (List.getElem_mem hqj)
    rw [hj] at hm hdj hsj
    have h1 := h.deeps
    have h2 := h.size
    have h4 : pl[q].length < 4000 := by rw [hm.1.2.2]; omega
    refine (h.mono (d' := 8) (z' := 301 * z + 1) (by omega) (by omega)).set (inList_may hm (by omega) h4) (inList_texts hm hx) (by rw [inList_deep]; omega) hqp ?_
    have h5 := flats_set hqj (inList jq)
    rw [inList_size, hj] at h5
    omega

set_option maxRecDepth 100000 in
set_option maxHeartbeats 4000000 in
theorem tapeOrder_run (v : Value) (l0 : List (Value × List Int)) (by_ at_ : Int) (w : World) (h : SeedsIs w v l0) (hT : Tabs w) (WK : WorksOk) :
    Calls Tryd.prog 9 #[v, .int .i64 by_, .int .i64 at_] w fun e w' => e = .returned (.bool true) ∧ Old w w' := by
  have HT := hide hT
  obtain ⟨A, c, rfl, hlc0, hcm⟩ := h.form
  unfold maxLen at hcm
  obtain ⟨n, hn⟩ : ∃ n, Hid (l0.length = n) := ⟨_, hide rfl⟩
  rw [hn.out] at h hlc0 ⊢
  obtain ⟨m, hm⟩ : ∃ m, Hid (min n 6 = m) := ⟨_, hide rfl⟩
  have hmn : min (n : Int) 6 = (m : Int) := by have := hm.out; omega
  have hm6 : m ≤ 6 := by have := hm.out; omega
  have hmc : m ≤ c := by have := hm.out; omega
  have hml : m ≤ l0.length := by rw [hn.out]; have := hm.out; omega
  obtain ⟨l, hll⟩ : ∃ l, Hid (l0.take m = l) := ⟨_, hide rfl⟩
  have HS := hide (seeds_cut h hml)
  have hL : l.length = m := by rw [← hll.out]; simp; omega
  have HL := hide hL
  rw [hll.out] at HS
  have CD := hide (fun (p : Value × List Int) w' (o : Old w w') (hp : NumsIs w p.1 p.2) => drawn_run p.1 p.2 w' (hp.old o) (HT.out.old o))
  clear h hT hL hml
  go_enter Tryd.func9, Tryd.ntmps9
  go_wp2_with fail
  go_loopw [7, 10, 12] (fun pv kv i wr => ∃ (k : Nat) (pl : List (List Nd)) (js : List J), i = .int .i64 k ∧ k ≤ m ∧ Hid (pl.length = k) ∧ Hid (KidsA pl js 7 (301 * k)) ∧ Hid (PartsOwn w.heap.size wr pv pl) ∧ Hid (TextsOwn w.heap.size wr kv (bd6.take k)) ∧ Hid (Old w wr)) (fun _ _ i _ => m - (intOf i).toNat)
  case atStart => exact ⟨0, [], [], rfl, by omega, hide rfl, hide (KidsA.nil 7), hide (PartsOwn.nil_ _ _), hide (own_nil _ _ _ _), hide (by first | exact Old.refl _ | exact Old.drew (Old.refl _))⟩
  case round =>
    obtain ⟨k, pl, js, rfl, hk, hpl, HK, HPO, HTO, HO⟩ := hrel
    by_cases hlt : k < m
    · have hkl : k < l.length := by rw [HL.out]; exact hlt
      have h6 : k < 6 := by omega
      obtain ⟨b0, f0, rfl, z0, z1⟩ := SeedsIs.at_ HS.out (List.getElem?_eq_getElem hkl)
      obtain ⟨⟨u, N⟩, hu⟩ : ∃ p, Hid (l[k] = p) := ⟨_, hide rfl⟩
      rw [hu.out] at z0 z1
      have e0 := HO.out.cell z0
      have CDD := hide (CD.out (u, N) wr HO.out z1)
      obtain ⟨s, hs⟩ : ∃ s, Hid (bd6[k]'h6 = s) := ⟨_, hide rfl⟩
      have hcut := bd6_cut h6
      rw [hs.out] at hcut
      have hnx := hide (bd6_next h6)
      rw [hs.out] at hnx
      have hwk : IntKind.i64.wrap ((k : Int) + 1) = (k : Int) + 1 := IntWalk.i64_in _ (by omega)
      have hl1 : pl.length + 1 ≤ 4194304 := by rw [hpl.out]; omega
      have hl2 : (bd6.take k).length + 1 ≤ 4194304 := by simp [bd6_len]; omega
      clear z0 z1 hs
      go_wp2_with fail
      refine CDD.out.mono ?_
      rintro e w6 ⟨v6, t, j, rfl, n6, m6, x6, d6, l6, o6⟩
      obtain ⟨M, hM⟩ : ∃ M, Hid (t.length = M) := ⟨_, hide rfl⟩
      obtain ⟨A6, c6, rfl, q6, r6⟩ := nodes_form n6 hM.out
      unfold maxLen at r6
      have HK6 := hide (HK.out.next m6 x6 d6 (z' := 301 * (k + 1)) (by omega))
      have HPL := hide (show (pl ++ [t]).length = k + 1 by simp [hpl.out])
      have N6 := hide (SlT.mono (SlT.old n6 (Old.alloc (Old.refl _) (.cells #[.slice A6 M c6] 25))) HO.out.size)
      have OA := hide (Old.trans o6 (Old.alloc (Old.refl _) (.cells #[.slice A6 M c6] 25)))
      have HPO6 := hide (HPO.out.old OA.out)
      have OZA := hide (Old.trans HO.out OA.out)
      clear n6 m6 x6 d6 l6 o6 e0 CDD
      go_upto_region 11 with (at_builtin; refine wpList_plain rfl (fun K hK => ?_); refine step_push_part _ _ _ rfl w.heap.size _ pl rfl HPO6.out _ _ (.slice A6 M c6) t rfl (by go_simp) N6.out hl1 OZA.out.size ?_; intro v7 w7 own7 kept7; refine hK _ _ ?_; clear hK)
      have O7 := hide (kept7.old OZA.out (Nat.le_refl _))
      have P7 := hide own7
      have T7 := hide (Kept.own kept7 (own_old HTO.out OA.out) (by decide))
      clear own7 kept7
      go_wp2_with (at_builtin; refine wpList_plain rfl (fun K hK => ?_); refine step_push_text _ _ _ rfl w.heap.size _ (bd6.take k) rfl (own_old T7.out (Old.alloc (Old.refl _) _)) _ _ s rfl (by go_simp) hl2 (O7.out.alloc _).size ?_; intro v8 w8 own8 kept8; refine hK _ _ ?_; clear hK)
      have O8 := hide (kept8.old (O7.out.alloc _) (Nat.le_refl _))
      have P8 := hide (PartsOwn.kept (P7.out.old (Old.alloc (Old.refl _) _)) kept8 (by decide) (by decide))
      have T8 := hide own8
      clear own8 kept8
      go_roundw
      case rel => exact ⟨k + 1, pl ++ [t], js ++ [j], by go_num, by omega, HPL, HK6, P8, hide (by rw [hnx.out]; exact T8.out), O8⟩
      case measure => simp [intOf]; omega
    · obtain rfl : k = m := by omega
      obtain ⟨A7, c7, rfl, q7, r7⟩ := part_form HPO.out hpl.out
      obtain ⟨A10, c10, rfl, q10, r10⟩ := text_form HTO.out (show (bd6.take k).length = k by simp [bd6_len]; omega)
      unfold maxLen at r7 r10
      have hq6 : k ≤ 1048576 := by omega
      have BR := hide (fun (i : Int) w' (h0 : 0 < k) => bring_at i k w' (by omega) (by omega))
      obtain ⟨r, hr⟩ : ∃ r, Hid (bringN by_ k = r) := ⟨_, hide rfl⟩
      obtain ⟨q, hq⟩ : ∃ r, Hid (bringN at_ k = r) := ⟨_, hide rfl⟩
      have HRQ := hide (show 0 < k → r < k ∧ q < k from fun h0 => ⟨by rw [← hr.out]; exact bringN_lt h0, by rw [← hq.out]; exact bringN_lt h0⟩)
      have B1 := hide (fun w' (h0 : 0 < k) => BR.out by_ w' h0)
      have B2 := hide (fun w' (h0 : 0 < k) => BR.out at_ w' h0)
      rw [hr.out] at B1
      rw [hq.out] at B2
      obtain ⟨ks, hks⟩ : ∃ ks, Hid (bd6.take k = ks) := ⟨_, hide rfl⟩
      have KA := hide (bd6_keys.take k)
      have HKL := hide (show (bd6.take k).length = k by simp [bd6_len]; omega)
      rw [hks.out] at HTO KA HKL
      obtain ⟨jq, hjq⟩ : ∃ j, Hid (js.getD q (leafJ 1 0 none_) = j) := ⟨_, hide rfl⟩
      obtain ⟨U, hU⟩ : ∃ U, Hid ((inList jq).flat = U) := ⟨_, hide rfl⟩
      obtain ⟨R, hR⟩ : ∃ R, Hid (rotL r pl = R) := ⟨_, hide rfl⟩
      obtain ⟨RK, hRK⟩ : ∃ R, Hid (rotL r ks = R) := ⟨_, hide rfl⟩
      obtain ⟨OT, hOT⟩ : ∃ R, Hid (pl.set q U = R) := ⟨_, hide rfl⟩
      obtain ⟨wA, hwA⟩ : ∃ y, y = wr := ⟨_, rfl⟩
      rw [← hwA] at HPO HTO HO
      have HWA := hide hwA
      have PIS := hide HPO.out.is
      have KIS := hide (TextsOwn.is HTO.out)
      have HTR := hide (HT.out.old HO.out)
      clear hwA BR
      go_wp2_with fail
      go_loopw [8, 9, 11, 15] (fun tv ov mv i wr => ∃ (k' : Nat), i = .int .i64 k' ∧ k' ≤ k ∧ Hid (PartsIn wA.heap.size w.heap.size wr tv (R.take k')) ∧ Hid (PartsIn wA.heap.size w.heap.size wr ov (OT.take k')) ∧ Hid (TwoRows tv ov) ∧ Hid (TextsOwn wA.heap.size wr mv (RK.take k')) ∧ Hid (Old wA wr)) (fun _ _ _ i _ => k - (intOf i).toNat)
      case atStart => exact ⟨0, rfl, by omega, hide (PartsIn.nil_ _ _ _), hide (PartsIn.nil_ _ _ _), hide (by intro g hg; simp [Value.ownBlock] at hg), hide (own_nil _ _ _ _), hide (by rw [HWA.out]; first | exact Old.refl _ | exact Old.drew (Old.refl _))⟩
      case round =>
        obtain ⟨i, rfl, hi, HT8, HO9, HTW, HM, HZ⟩ := hrel
        by_cases hik : i < k
        · have hk0 : 0 < k := by omega
          obtain ⟨hrk, hqk⟩ := HRQ.out hk0
          have C1 := hide (B1.out wr hk0)
          obtain ⟨x, hx⟩ : ∃ x, Hid ((i + r) % k = x) := ⟨_, hide rfl⟩
          have hxk : x < k := by rw [← hx.out]; exact Nat.mod_lt _ hk0
          have hz0 : ¬ (k : Int) = 0 := by omega
          have hw1 : IntKind.i64.wrap ((i : Int) + (r : Int)) = ((i + r : Nat) : Int) := (IntWalk.i64_in _ (by omega)).trans (by simp)
          have hw2 : ((i : Int) + (r : Int)) % (k : Int) = (x : Int) := by rw [← hx.out]; simp
          have hw3 : IntKind.i64.wrap (x : Int) = (x : Int) := IntWalk.i64_in _ (by omega)
          have hxP : x < pl.length := by rw [hpl.out]; exact hxk
          have hiP : i < pl.length := by rw [hpl.out]; exact hik
          have hxK : x < ks.length := by rw [HKL.out]; exact hxk
          have hiJ : i < js.length := by rw [← HK.out.may.1]; exact hiP
          have HMI := hide (HK.out.may.2 i hiP hiJ)
          obtain ⟨ti, hti⟩ : ∃ t, Hid (pl[i] = t) := ⟨_, hide rfl⟩
          obtain ⟨tx, htx⟩ : ∃ t, Hid (pl[x] = t) := ⟨_, hide rfl⟩
          obtain ⟨s, hs⟩ : ∃ t, Hid (ks[x] = t) := ⟨_, hide rfl⟩
          obtain ⟨ji, hji⟩ : ∃ t, Hid (js[i] = t) := ⟨_, hide rfl⟩
          obtain ⟨b7, f7, A9, c9, rfl, g1, g2, z7, n7⟩ := PartsOwn.cell HPO.out (List.getElem?_eq_getElem hxP)
          obtain ⟨b7', f7', A8, c8, he7, g3, g4, z8, n8⟩ := PartsOwn.cell HPO.out (List.getElem?_eq_getElem hiP)
          injection he7 with he7
          injection he7 with e1 e2 e3
          subst e1 e2
          clear e3
          obtain ⟨_, _, hke, _, _, hkc⟩ := KIS.out
          injection hke with e1 e2 e3
          subst e1 e3
          clear e2
          obtain ⟨bk, fk, rfl, kc⟩ := hkc (by intro e; have := congrArg List.length e; simp at this; subst this; simp at hxK)
          have zk := kc x (.string s) (by simp [List.getElem?_map, List.getElem?_eq_getElem hxK, hs.out])
          have HTI := hide (HK.out.texts ti (by rw [← hti.out]; exact List.getElem_mem hiP))
          have HR1 := hide (show R.take (i + 1) = R.take i ++ [tx] by
            have h1 : i < R.length := by rw [← hR.out, rotL_len]; exact hiP
            rw [List.take_succ_eq_append_getElem h1]
            congr 2
            have hm2 : (i + r) % pl.length < pl.length := Nat.mod_lt _ (by omega)
            rw [← htx.out]
            have e := rotL_get (r := r) (l := pl) (by rw [hpl.out]; exact hrk) hiP hm2 (by rw [rotL_len]; exact hiP)
            have e4 : (i + r) % pl.length = x := by rw [hpl.out]; exact hx.out
            simp only [e4] at e
            rw [← e]
            simp only [← hR.out])
          have HR2 := hide (show RK.take (i + 1) = RK.take i ++ [s] by
            have h1 : i < RK.length := by rw [← hRK.out, rotL_len, HKL.out]; exact hik
            rw [List.take_succ_eq_append_getElem h1]
            congr 2
            have hm2 : (i + r) % ks.length < ks.length := Nat.mod_lt _ (by omega)
            rw [← hs.out]
            have e := rotL_get (r := r) (l := ks) (by rw [HKL.out]; exact hrk) (by rw [HKL.out]; exact hik) hm2 (by rw [rotL_len, HKL.out]; exact hik)
            have e4 : (i + r) % ks.length = x := by rw [HKL.out]; exact hx.out
            simp only [e4] at e
            rw [← e]
            simp only [← hRK.out])
          have HR3 := hide (show OT.take (i + 1) = OT.take i ++ [if q = i then U else ti] by
            have h1 : i < OT.length := by rw [← hOT.out, List.length_set]; exact hiP
            rw [List.take_succ_eq_append_getElem h1]
            congr 2
            simp only [← hOT.out, List.getElem_set, hti.out])
          rw [hti.out, hji.out] at HMI
          rw [htx.out] at g1 z7 n7
          rw [hti.out] at g3 z8 n8
          obtain ⟨M7, hM7⟩ : ∃ M, Hid (tx.length = M) := ⟨_, hide rfl⟩
          obtain ⟨M8, hM8⟩ : ∃ M, Hid (ti.length = M) := ⟨_, hide rfl⟩
          rw [hM7.out] at g1 z7 n7
          rw [hM8.out] at g3 z8 n8
          unfold maxLen at g2 g4
          have e7 := HZ.out.cell z7
          have Z8 := hide z8
          have ZK := hide zk
          have N8 := hide n8
          have OA := hide (Old.alloc (Old.refl wr) (.cells #[.slice A9 M7 c9] 25))
          have NX := hide ((n7.old HZ.out).old OA.out)
          have P6 := hide (HT8.out.old OA.out)
          have Q6 := hide (HO9.out.old OA.out)
          have OZA := hide (Old.trans HZ.out OA.out)
          have hl1 : (R.take i).length + 1 ≤ 4194304 := by simp; omega
          have hl2 : (RK.take i).length + 1 ≤ 4194304 := by simp; omega
          have hl3 : (OT.take i).length + 1 ≤ 4194304 := by simp; omega
          have hji2 := hide hji.out
          clear z7 z8 n7 n8 zk kc hkc hs hti htx hji hxP hxK
          go_wp2_with fail
          refine C1.out.mono ?_
          rintro e w1 ⟨rfl, rfl⟩
          go_upto_region 17 with (at_builtin; refine wpList_plain rfl (fun K hK => ?_); refine step_push_in _ _ _ rfl wA.heap.size w.heap.size _ u9 (R.take i) (OT.take i) rfl P6.out Q6.out HTW.out _ _ (.slice A9 M7 c9) tx rfl (by go_simp) NX.out hl1 OZA.out.size ?_; intro v7 w7 own7 oth7 ap7 kept7; refine hK _ _ ?_; clear hK)
          have O7 := hide (kept7.old OZA.out (Nat.le_refl _))
          have P7 := hide own7
          have Q7 := hide oth7
          have W7 := hide ap7.symm
          have T7 := hide (Kept.own kept7 (own_old HM.out OA.out) (by decide))
          have ek := O7.out.cell ZK.out
          clear own7 oth7 ap7 kept7 P6 Q6 e7
          go_upto_region 18 with (at_builtin; refine wpList_plain rfl (fun K hK => ?_); refine step_push_text _ _ _ rfl wA.heap.size _ (RK.take i) rfl (own_old T7.out (Old.alloc (Old.refl _) _)) _ _ s rfl (by go_simp) hl2 (O7.out.alloc _).size ?_; intro v8 w8 own8 kept8; refine hK _ _ ?_; clear hK)
          have O8 := hide (kept8.old (O7.out.alloc _) (Nat.le_refl _))
          have P8 := hide (PartsIn.kept (P7.out.old (Old.alloc (Old.refl _) _)) kept8 (by decide) (by decide))
          have Q8 := hide (PartsIn.kept (Q7.out.old (Old.alloc (Old.refl _) _)) kept8 (by decide) (by decide))
          have T8 := hide own8
          have e8 := O8.out.cell Z8.out
          have C2 := hide (B2.out w8 hk0)
          clear own8 kept8 ek
          by_cases hiq : q = i
          · have hb : ((i : Int) == (q : Int)) = true := by simp [hiq]
            rw [if_pos hiq] at HR3
            have hjj : jq = ji := by
              rw [← hjq.out, hiq, getD_at hiJ]
              exact hji2.out
            have hd64 : ji.deep < 64 := by
              have h1 := HK.out.deeps
              have h2 : ji.deep ≤ J.deeps js := by rw [← hji2.out]; exact deeps_mem (List.getElem_mem hiJ)
              omega
            have hl4 : ti.length < 4000 := by
              have h1 := HK.out.size
              have h2 : ji.flat.length ≤ (J.flats js).length := by rw [← hji2.out]; exact flats_mem_le (List.getElem_mem hiJ)
              have h3 := HMI.out.1.2.2
              rw [h3]
              omega
            have LI := hide (list_in HMI.out hd64 hl4)
            rw [← hjj, hU.out] at LI
            have HX1 := hide (show ∀ p ∈ [ti], TextsOk p by simpa using HTI.out)
            have N9 := hide ((N8.out.old O8.out).sl)
            have TB := hide (HTR.out.old O8.out)
            obtain ⟨MU, hMU⟩ : ∃ M, Hid (U.length = M) := ⟨_, hide rfl⟩
            clear hjj hd64 hl4 hiq
            go_wp2_with fail
            refine C2.out.mono ?_
            rintro e w9 ⟨rfl, rfl⟩
            go_wp2_with fail
            refine (list_run _ [ti] U 0 _ (parts_lit _ [((.slice A8 M8 c8), ti)] _ rfl (one_parts N9.out)) HX1.out (TB.out.old (Old.alloc (Old.refl _) _)) LI.out).mono ?_
            rintro e w10 ⟨v10, rfl, n10, o10⟩
            obtain ⟨A11, c11, rfl, q11, r11⟩ := nodes_form n10 hMU.out
            unfold maxLen at r11
            have T10 := Old.trans (Old.alloc (Old.refl _) _) o10
            have OB := hide (Old.trans T10 (Old.alloc (Old.refl _) (.cells #[.slice A11 MU c11] 25)))
            have OZB := hide (Old.trans O8.out OB.out)
            have N11 := hide (SlT.mono (SlT.old n10 (Old.alloc (Old.refl _) (.cells #[.slice A11 MU c11] 25))) (Nat.le_trans HO.out.size (Nat.le_trans O8.out.size (Old.alloc (Old.refl _) (.cells #[.slice A8 M8 c8] 25)).size)))
            have P11 := hide (P8.out.old OB.out)
            have Q11 := hide (Q8.out.old OB.out)
            clear n10 o10 T10
            go_wp2_with (at_builtin; refine wpList_plain rfl (fun K hK => ?_); refine step_push_in _ _ _ rfl wA.heap.size w.heap.size _ v7 (OT.take i) (R.take i ++ [tx]) rfl Q11.out P11.out W7.out _ _ (.slice A11 MU c11) U rfl (by go_simp) N11.out hl3 OZB.out.size ?_; intro v12 w12 own12 oth12 ap12 kept12; refine hK _ _ ?_; clear hK)
            have O12 := hide (kept12.old OZB.out (Nat.le_refl _))
            have T12 := hide (Kept.own kept12 (own_old T8.out OB.out) (by decide))
            have Q12 := hide own12
            have P12 := hide oth12
            have W12 := hide ap12.symm
            clear own12 oth12 ap12 kept12
            go_roundw
            case rel => exact ⟨i + 1, by go_num, by omega, hide (by rw [HR1.out]; exact P12.out), hide (by rw [HR3.out]; exact Q12.out), W12, hide (by rw [HR2.out]; exact T12.out), O12⟩
            case measure => simp [intOf]; omega
          · have hb : ((i : Int) == (q : Int)) = false := beq_eq_false_iff_ne.2 (by omega)
            rw [if_neg hiq] at HR3
            have OB := hide (Old.alloc (Old.refl w8) (.cells #[.slice A8 M8 c8] 25))
            have OZB := hide (Old.trans O8.out OB.out)
            have N11 := hide ((N8.out.old O8.out).old OB.out)
            have P11 := hide (P8.out.old OB.out)
            have Q11 := hide (Q8.out.old OB.out)
            clear hiq
            go_wp2_with fail
            refine C2.out.mono ?_
            rintro e w9 ⟨rfl, rfl⟩
            go_wp2_with (at_builtin; refine wpList_plain rfl (fun K hK => ?_); refine step_push_in _ _ _ rfl wA.heap.size w.heap.size _ v7 (OT.take i) (R.take i ++ [tx]) rfl Q11.out P11.out W7.out _ _ (.slice A8 M8 c8) ti rfl (by go_simp) N11.out hl3 OZB.out.size ?_; intro v12 w12 own12 oth12 ap12 kept12; refine hK _ _ ?_; clear hK)
            have O12 := hide (kept12.old OZB.out (Nat.le_refl _))
            have T12 := hide (Kept.own kept12 (own_old T8.out OB.out) (by decide))
            have Q12 := hide own12
            have P12 := hide oth12
            have W12 := hide ap12.symm
            clear own12 oth12 ap12 kept12
            go_roundw
            case rel => exact ⟨i + 1, by go_num, by omega, hide (by rw [HR1.out]; exact P12.out), hide (by rw [HR3.out]; exact Q12.out), W12, hide (by rw [HR2.out]; exact T12.out), O12⟩
            case measure => simp [intOf]; omega
        · have hik2 : k ≤ i := by omega
          have KB := hide (show KidsA R (rotL r js) 7 (301 * k) from by
            rcases Nat.eq_zero_or_pos k with h0 | h0
            · have e1 : pl = [] := List.eq_nil_of_length_eq_zero (by rw [hpl.out, h0])
              have e2 : js = [] := List.eq_nil_of_length_eq_zero (by rw [← HK.out.may.1, hpl.out, h0])
              rw [← hR.out, e1, e2, h0]
              simpa [rotL] using KidsA.nil 7
            · rw [← hR.out]
              exact HK.out.rot (by rw [hpl.out]; exact (HRQ.out h0).1))
          have KC := hide (order_set HK.out (q := q) (fun h0 => (HRQ.out (by rw [← hpl.out]; exact h0)).2 |> fun h => by rw [hpl.out]; exact h) (by rw [hpl.out]; exact hm6) hjq.out)
          rw [hU.out, hOT.out] at KC
          obtain ⟨JS, hJS⟩ : ∃ l, Hid (js.set q (inList jq) = l) := ⟨_, hide rfl⟩
          obtain ⟨JR, hJR⟩ : ∃ l, Hid (rotL r js = l) := ⟨_, hide rfl⟩
          rw [hJS.out] at KC
          rw [hJR.out] at KB
          have LR : R.length = k := by rw [← hR.out, rotL_len, hpl.out]
          have LO : OT.length = k := by rw [← hOT.out, List.length_set, hpl.out]
          have LK : RK.length = k := by rw [← hRK.out, rotL_len, HKL.out]
          have hz1 : 301 * k < 4000 := by omega
          have hz2 : 301 * k + 1 < 4000 := by omega
          have hka : ks.length = pl.length := by rw [HKL.out, hpl.out]
          have hkj : ks.length = js.length := by rw [hka]; exact HK.out.may.1
          have hkb : RK.length = R.length := by rw [LK, LR]
          have hkc : ks.length = OT.length := by rw [HKL.out, LO]
          have KRK := hide (show KeysA RK by rw [← hRK.out]; exact KA.out.rot r)
          have MA := hide (HK.out.obj_may (by omega) hz1 hka KA.out)
          have MB := hide (KB.out.obj_may (by omega) hz1 hkb KRK.out)
          have MC := hide (KC.out.obj_may (by omega) hz2 hkc KA.out)
          have TA := hide (HK.out.obj (by omega) hz1 hka KA.out)
          have TB := hide (KB.out.obj (by omega) hz1 hkb KRK.out)
          have TC := hide (KC.out.obj (by omega) hz2 hkc KA.out)
          have XA := hide (HK.out.obj_texts KA.out)
          have XB := hide (KB.out.obj_texts KRK.out)
          have XC := hide (KC.out.obj_texts KA.out)
          have SAB := hide (show (objOf RK JR).sort = (objOf ks js).sort by rw [← hRK.out, ← hJR.out]; exact sort_rot r KA.out.nodup hkj)
          have SAC := hide (show ∀ B, SameT (objOf ks js).flat (objOf ks JS).flat B → B = ((k : Int) == 0) from fun B hB => by
            rcases Nat.eq_zero_or_pos k with h0 | h0
            · have e2 : js = [] := List.eq_nil_of_length_eq_zero (by rw [← HK.out.may.1, hpl.out, h0])
              rw [same_sorts hB MA.out MC.out (by rw [← hJS.out, e2]; rfl), h0]
              rfl
            · rw [same_not hB MA.out MC.out (by
                rw [HK.out.obj_len hka, KC.out.obj_len hkc, ← hJS.out]
                have hqj : q < js.length := by rw [← HK.out.may.1, hpl.out]; exact (HRQ.out h0).2
                have h1 := flats_set hqj (inList jq)
                have h2 : jq = js[q] := by rw [← hjq.out, getD_at hqj]
                have h3 : (inList jq).flat.length = jq.flat.length + 1 := inList_size jq
                rw [h3, ← h2] at h1
                omega)]
              exact (beq_eq_false_iff_ne.2 (by omega)).symm)
          obtain ⟨A8, c8, rfl, q8, r8⟩ := PartsIn.form HT8.out (m := k) (by rw [List.length_take, LR]; omega)
          obtain ⟨A9, c9, rfl, q9, r9⟩ := PartsIn.form HO9.out (m := k) (by rw [List.length_take, LO]; omega)
          obtain ⟨A11, c11, rfl, q11, r11⟩ := text_form HM.out (m := k) (by rw [List.length_take, LK]; omega)
          unfold maxLen at r8 r9 r11
          have PR := hide (show PartsIs wr (.slice A8 k c8) R by
            have h := HT8.out.is
            rwa [List.take_of_length_le (by rw [LR]; exact hik2)] at h)
          have PO := hide (show PartsIs wr (.slice A9 k c9) OT by
            have h := HO9.out.is
            rwa [List.take_of_length_le (by rw [LO]; exact hik2)] at h)
          have PK := hide (show TextsIs wr (.slice A11 k c11) RK by
            have h := TextsOwn.is HM.out
            rwa [List.take_of_length_le (by rw [LK]; exact hik2)] at h)
          have PA := hide (PIS.out.old HZ.out)
          have PKA := hide (show TextsIs wr (.slice A10 k c10) ks from Sl.old KIS.out HZ.out)
          have HTW2 := hide (HTR.out.old HZ.out)
          have OW := hide (Old.trans HO.out HZ.out)
          have xt1 := hide HK.out.texts
          have xt2 := hide KB.out.texts
          have xt3 := hide KC.out.texts
          have sz1 := hide KA.out.size
          have sz2 := hide KRK.out.size
          obtain ⟨Fa, hFa⟩ : ∃ l, Hid ((objOf ks js).flat = l) := ⟨_, hide rfl⟩
          obtain ⟨Fb, hFb⟩ : ∃ l, Hid ((objOf RK JR).flat = l) := ⟨_, hide rfl⟩
          obtain ⟨Fc, hFc⟩ : ∃ l, Hid ((objOf ks JS).flat = l) := ⟨_, hide rfl⟩
          rw [hFa.out] at MA TA XA SAC
          rw [hFb.out] at MB TB XB
          rw [hFc.out] at MC TC XC SAC
          obtain ⟨La, hLa⟩ : ∃ l, Hid (Fa.length = l) := ⟨_, hide rfl⟩
          obtain ⟨Lb, hLb⟩ : ∃ l, Hid (Fb.length = l) := ⟨_, hide rfl⟩
          obtain ⟨Lc, hLc⟩ : ∃ l, Hid (Fc.length = l) := ⟨_, hide rfl⟩
          clear LR LO LK hz1 hz2 hka hkj hkb hkc hik2
          go_wp2_with fail
          refine (obj_run _ _ ks pl Fa 0 _ PKA.out sz1.out PA.out xt1.out HTW2.out TA.out).mono ?_
          rintro e w2 ⟨v2, rfl, n2, o2⟩
          obtain ⟨A20, c20, rfl, q20, r20⟩ := nodes_form n2 hLa.out
          unfold maxLen at r20
          have O2 := hide o2
          have N2 := hide (SlT.sl n2)
          clear n2 o2
          go_wp2_with fail
          refine (obj_run _ _ RK R Fb 0 _ (PK.out.old O2.out) sz2.out (PR.out.old O2.out) xt2.out (HTW2.out.old O2.out) TB.out).mono ?_
          rintro e w3 ⟨v3, rfl, n3, o3⟩
          obtain ⟨A21, c21, rfl, q21, r21⟩ := nodes_form n3 hLb.out
          unfold maxLen at r21
          have O3 := hide (Old.trans O2.out o3)
          have N2' := hide (N2.out.old o3)
          have N3 := hide (SlT.sl n3)
          clear n3 o3 N2
          go_wp2_with fail
          refine (obj_run _ _ ks OT Fc 0 _ (PKA.out.old O3.out) sz1.out (PO.out.old O3.out) xt3.out (HTW2.out.old O3.out) TC.out).mono ?_
          rintro e w4 ⟨v4, rfl, n4, o4⟩
          obtain ⟨A22, c22, rfl, q22, r22⟩ := nodes_form n4 hLc.out
          unfold maxLen at r22
          have O4 := hide (Old.trans O3.out o4)
          have NA := hide (N2'.out.old o4)
          have NB := hide (N3.out.old o4)
          have NC := hide (SlT.sl n4)
          clear n4 o4 N2' N3
          go_wp2_with fail
          refine (same_run _ _ Fa Fb w4 NA.out NB.out XA.out XB.out (HTW2.out.old O4.out)).mono ?_
          rintro e w5 ⟨B1, hB1, rfl, o5⟩
          obtain rfl := same_sorts hB1 MA.out MB.out SAB.out.symm
          have P5 := hide o5
          clear hB1 o5
          go_wp2_with fail
          refine (same_run _ _ Fb Fa w5 (NB.out.old P5.out) (NA.out.old P5.out) XB.out XA.out (HTW2.out.old (Old.trans O4.out P5.out))).mono ?_
          rintro e w6 ⟨B2, hB2, rfl, o6⟩
          obtain rfl := same_sorts hB2 MB.out MA.out SAB.out
          have P6 := hide (Old.trans P5.out o6)
          clear hB2 o6
          go_wp2_with fail
          refine (same_run _ _ Fa Fc w6 (NA.out.old P6.out) (NC.out.old P6.out) XA.out XC.out (HTW2.out.old (Old.trans O4.out P6.out))).mono ?_
          rintro e w7 ⟨B3, hB3, rfl, o7⟩
          obtain rfl := SAC.out _ hB3
          have P7 := hide (Old.trans P6.out o7)
          clear hB3 o7
          go_wp2_with fail
          refine (WK _ (HTW2.out.old (Old.trans O4.out P7.out))).mono ?_
          rintro e w8 ⟨rfl, o8⟩
          have O8 := hide (Old.trans OW.out (Old.trans O4.out (Old.trans P7.out o8)))
          clear o8
          go_wp2_with fail
          go_ret
          exact ⟨rfl, O8.out⟩
end Go.Proofs.YtkefhhnbkhijgaaDoor
