/- The document's Apply. -/
import Derived.Test.YtmfbblcipakaiaaGreatDoorGrpHp
import Derived.Test.YtmfbblcipakaiaaGreatDoorGrpT
import Derived.Test.YtmfbblcipakaiaaGreatDoorRefb
import Derived.Test.YtmfbblcipakaiaaGreatDoorGrpHr
import Derived.Test.YtmfbblcipakaiaaGreatDoorGrpZ
/-! ### The document's Apply. -/
namespace Go.Proofs.YtmfbblcipakaiaaGreatDoor
open Go.RowKit

theorem sum_fit {w : World} {t : Int} {e : Ending} {w' : World} (h : SumPost w t e w') (hf : fit t) : e = .returned (.tuple #[.int .i64 t, .int .i64 0]) ∧ Old w w' := by
  have : fits t = true := by
    unfold fit at hf
    simp only [fits, Bool.and_eq_true, decide_eq_true_eq]
    omega
  obtain ⟨rfl, h2⟩ := h
  exact ⟨by simp [intOr, intErr, this], h2⟩
theorem sum_over {w : World} {t : Int} {e : Ending} {w' : World} (h : SumPost w t e w') (hf : ¬ fit t) : e = .returned (.tuple #[.int .i64 0, .int .i64 50]) ∧ Old w w' := by
  have : fits t = false := by
    cases h : fits t
    · rfl
    · refine absurd ?_ hf
      simp only [fits, Bool.and_eq_true, decide_eq_true_eq] at h
      unfold fit
      omega
  obtain ⟨rfl, h2⟩ := h
  exact ⟨by simp [intOr, intErr, this], h2⟩
theorem gsOf_snoc (S : Nat) (f : Gf) (ks : List (List Cell)) (k : List Cell) : gsOf S f (ks ++ [k]) = gsOf S f ks ++ [grpOf S f k] := by simp [gsOf]
theorem zeros_slL {w : World} {lo g n : Nat} (hg : lo ≤ g) (hh : w.heap[g]? = some (.cells (zeros64 n) 2 (0, 0))) (hn : n ≤ 1048576) : SlT 2 lo w (.slice (some ⟨g, 0, none⟩) n n) (List.replicate n (0 : Int)).length (numVals (List.replicate n 0)) := by
  rw [List.length_replicate]
  exact zeros_sl hg hh hn
/-- what holds ahead of Apply's loops -/
structure HAp (w : World) (h K S m : Nat) (f : Gf) (ks : List (List Cell)) (B : Nat → Prop) (v : Value) (l : List Ent) : Prop where
  st : HSt w h K S m f ks B
  ents : EntsIs w v l
  fine : ∀ e ∈ l, EntFine e
  hK : K ≤ 64
  hS : S ≤ 64
  hm : m ≤ 20000
  hn : l.length ≤ 5000
theorem over_any {K S m h : Nat} {f : Gf} {ks : List (List Cell)} {B : Nat → Prop} {w : World} {l : List Ent} {k : List Cell} {i : Nat} (H : HSt w h K S m f ks B) (hm : allMay K S l = true) (hi : i ≤ S) (hn : ¬ fit (f k i + tot l k i)) : appErr K S f l = 50 ∧ appF K S f l = f := by
  refine over_of hm ?_ hi hn
  refine Classical.byContradiction fun hk => hn ?_
  rw [tot_none (fun e he hh => hk ⟨e, he, hh⟩), Int.add_zero]
  exact H.fit k i hi
set_option maxRecDepth 100000 in
set_option maxHeartbeats 1500000 in
theorem happly_run (h K S m : Nat) (f : Gf) (ks : List (List Cell)) (B : Nat → Prop) (v : Value) (l : List Ent) (w : World) (HA : Hid (HAp w h K S m f ks B v l)) :
    Calls Tryz.prog 13 #[.pointer (some ⟨h, 0, none⟩), v] w (HAppPost w h K S m f l B) := by
  obtain ⟨A, ca, us, vs, rfl, hla, hma, hul, hvl, hur, hvr, ha⟩ := HA.out.ents.open_
  unfold maxLen at hma
  have HU := hide hur
  have HV := hide hvr
  have hKK := HA.out.hK
  have hSS := HA.out.hS
  have hmm := HA.out.hm
  have hnn := HA.out.hn
  clear hur hvr
  go_enter Tryz.func13, Tryz.ntmps13
  go_wp2_with fail
  go_loopw [6] (fun i wr => ∃ k : Nat, i = .int .i64 k ∧ k ≤ l.length ∧ Hid (∀ j, (hj : j < l.length) → j < k → entMay K S l[j] = true) ∧ Hid (Old w wr)) (fun i _ => l.length - (intOf i).toNat)
  case atStart => exact ⟨0, rfl, by omega, hide (fun j _ h => absurd h (by omega)), hide (Old.refl _)⟩
  case round =>
    obtain ⟨k, rfl, hk, HM, HO⟩ := hrel
    by_cases hlt : k < l.length
    · have hku : k < us.length := by omega
      have hkv : k < vs.length := by omega
      obtain ⟨b1, o1, rfl, hc1⟩ := ha.resolve_left (by omega)
      obtain ⟨x0, x1, x2⟩ := hc1 k hlt hku hkv
      have y0 := HO.out.cell x0
      have y1 := HO.out.cell x1
      have y2 := HO.out.cell x2
      obtain ⟨T, hT⟩ : ∃ T, Hid (entMay K S l[k] = T) := ⟨_, hide rfl⟩
      have HC := hmay_run h K S us[k] vs[k] l[k] wr (HA.out.st.is.head.old HO.out) ((HU.out k hlt hku).old HO.out) ((HV.out k hlt hkv).old HO.out)
      rw [hT.out] at HC
      have HC := hide HC
      clear ha hc1 x0 x1 x2
      go_wp2_with fail
      refine HC.out.mono ?_
      rintro e w1 ⟨rfl, h1⟩
      have H1 := hide (HO.out.trans h1)
      clear h1 y0 y1 y2
      cases T
      · have hE := hide (appErr_may (K := K) (S := S) (f := f) (l := l) (by
          cases hh : allMay K S l
          · rfl
          · have := List.all_eq_true.1 hh _ (List.getElem_mem hlt)
            rw [hT.out] at this
            exact absurd this (by simp)))
        go_wp2_with fail
        go_ret2
        exact HAppPost.same HA.out.st H1.out hE.out.1 hE.out.2
      · go_wp2_with fail
        go_roundw
        case rel => exact ⟨k + 1, by go_num, by omega, hide (fun j hj hj2 => by
          by_cases e : j = k
          · subst e; exact hT.out
          · exact HM.out j hj (by omega)), H1⟩
        case measure => simp [intOf]; omega
    · have HMAY : Hid (allMay K S l = true) := hide (List.all_eq_true.2 fun e he => by
        obtain ⟨j, hj, rfl⟩ := List.getElem_of_mem he
        exact HM.out j hj (by omega))
      obtain ⟨v0, c2, HB0⟩ := HA.out.st.is.l
      have HB0 := hide HB0
      have hgl := gsOf_len S f ks
      have hcnt := HA.out.st.cnt
      rw [← hgl] at hcnt
      have d2 := HO.out.cell c2
      have HO1 := HO.out
      have HGL := hide hgl
      clear HM hgl
      go_wp2_with (at_builtin; refine wpList_plain rfl (fun K' hK => ?_); refine step_push_grps w wr _ _ B rfl (gsOf S f ks) rfl v0 rfl HB0.out HO1 (by omega) ?_; intro vn w1 own hn1; refine hK _ _ ?_; clear hK)
      have OWN := hide own
      have O1 := hide hn1
      clear own hn1 HO HO1 d2 hcnt
      go_wp2_with fail
      go_loopw [7, 8] (fun o i wz => ∃ k : Nat, i = .int .i64 k ∧ k ≤ l.length ∧ Hid (GOwn w B wz o (gsOf S f (addKeys ks (l.take k)))) ∧ Hid (Old w wz)) (fun _ i _ => l.length - (intOf i).toNat)
      case atStart => exact ⟨0, rfl, by omega, OWN, O1⟩
      case round =>
        obtain ⟨k, rfl, hk, HG, HO⟩ := hrel
        by_cases hlt : k < l.length
        · have hku : k < us.length := by omega
          have hkv : k < vs.length := by omega
          obtain ⟨b1, o1, rfl, hc1⟩ := ha.resolve_left (by omega)
          obtain ⟨x0, x1, x2⟩ := hc1 k hlt hku hkv
          have y0 := HO.out.cell x0
          have HN := hide (addKeys_next (ks := ks) hlt)
          have hlen := addKeys_len (l.take k) ks
          rw [List.length_take] at hlen
          have hcnt := HA.out.st.cnt
          have CF := find_run _ us[k] _ l[k].key wr (HG.out.is HO.out) ((HU.out k hlt hku).old HO.out)
          have HUk := hide (HU.out k hlt hku)
          have hkey := hide (entMay_iff.1 (List.all_eq_true.1 HMAY.out _ (List.getElem_mem hlt))).1
          have hcov : Hid (l[k].key ∉ addKeys ks (l.take k) → ∀ i, i ≤ S → f l[k].key i = 0) := hide (fun hn i hi => HA.out.st.cov _ (fun hh => hn (addKeys_old hh)) i hi)
          obtain ⟨nks, hnks⟩ : ∃ n, addKeys ks (l.take k) = n := ⟨_, rfl⟩
          rw [hnks] at HN hlen CF HG hcov
          obtain ⟨key, hke⟩ : ∃ x, l[k].key = x := ⟨_, rfl⟩
          rw [hke] at CF HUk hkey hcov
          have HKE := hide hke
          obtain ⟨uk, huk⟩ : ∃ u, us[k] = u := ⟨_, rfl⟩
          rw [huk] at CF HUk x0 y0
          clear ha hc1 x1 x2 hnks hke huk
          by_cases hmem : key ∈ nks
          · have hsame : Hid (addKeys ks (l.take (k + 1)) = nks) := hide (by rw [HN.out, addKey, HKE.out, if_pos hmem])
            have CF2 := hide (show Calls Tryz.prog 41 #[u7, uk] wr (fun e w' => Old wr w' ∧ ∃ j : Nat, e = .returned (.int .i64 j)) from CF.mono (by
              rintro e w' ⟨q1, ⟨q2, -⟩ | ⟨-, j, rfl⟩⟩
              · rw [hasKey_of] at q2; simp [hmem] at q2
              · exact ⟨q1, j, rfl⟩))
            clear CF hmem
            go_wp2_with fail
            refine CF2.out.mono ?_
            rintro e w2 ⟨q1, j, rfl⟩
            have HG2 := hide (HG.out.old q1)
            have HO2 := hide (HO.out.trans q1)
            have hj0 : 0 ≤ (j : Int) := by omega
            clear q1 y0 x0
            go_wp2_with fail
            go_roundw
            case rel => exact ⟨k + 1, by go_num, by omega, hide (by rw [hsame.out]; exact HG2.out), HO2⟩
            case measure => simp [intOf]; omega
          · have hnew : Hid (addKeys ks (l.take (k + 1)) = nks ++ [key]) := hide (by rw [HN.out, addKey, HKE.out, if_neg hmem])
            have hz := hide (zero_sums (hcov.out hmem))
            have CF2 := hide (show Calls Tryz.prog 41 #[u7, uk] wr (fun e w' => Old wr w' ∧ e = .returned (.int .i64 (-1))) from CF.mono (by
              rintro e w' ⟨q1, ⟨-, rfl⟩ | ⟨q2, -⟩⟩
              · exact ⟨q1, rfl⟩
              · rw [hasKey_of] at q2; simp [hmem] at q2))
            clear CF hmem hcov
            go_wp2_with fail
            refine CF2.out.mono ?_
            rintro e w2 ⟨q1, rfl⟩
            have HG2 := hide (HG.out.old q1)
            have HO2 := hide (HO.out.trans q1)
            have ho2 := HO2.out
            have f0 : ∀ w', Old w w' → w'.cell? ⟨b1, o1 + k * 3, none⟩ = some uk := fun w' h => h.cell x0
            have f1 : ∀ w', Old w w' → w'.cell? ⟨h, 1, none⟩ = some (.int .i64 S) := fun w' h => h.cell HA.out.st.is.c1
            have hmk := make_i64 S (by omega)
            have HC := hide (show ∀ w', Old w w' → Calls Tryz.prog 42 #[uk] w' fun e w3 => ∃ A cp, e = .returned (.slice A key.length cp) ∧ SlT 65 w.heap.size w3 (.slice A key.length cp) key.length (rowVals key) ∧ Old w' w3 from fun w' h =>
              (copyRow _ _ _ (HUk.out.old h) (by have := hkey.out; omega)).mono fun _ _ hn => hn.form h.size)
            have hpush : (gsOf S f nks).length + 1 ≤ 1048576 := by rw [gsOf_len]; omega
            have hsz := ho2.size
            clear q1 y0 x0 hlen hcnt
            go_wp2_with fail
            go_region_held3 (fun w' => Old w w')
              (first | (exact Old.drew ho2) | (exact Old.alloc (by assumption) _) | (exact Old.trans (by assumption) (by assumption)) | (exact Kept.old (by assumption) (by assumption) (Nat.le_refl _)))
              (first
                | (go_at_call 42; (with_reducible refine (HC.out _ (by assumption)).mono ?_); rintro e w3 ⟨A3, c3, rfl, hr3, hb3⟩)
                | (refine step_push_grp w _ _ _ B rfl _ (gsOf S f nks) rfl (HG2.out.old ((((Old.refl w2).drew.trans hb3).alloc _).alloc _)) _ _ (.slice A3 key.length c3) (.slice (some ⟨_, 0, none⟩) S S) ⟨key, 0, List.replicate S 0⟩ rfl (by go_simp) (by go_simp) (by go_simp) (SlT.old hr3 (((Old.refl w3).alloc _).alloc _)) (zeros_slL (Nat.le_trans hsz hb3.size) (((Old.refl _).alloc _).heap (heap_alloc_at _)) (by omega)) hpush (by assumption) ?_; intro v' w4 own4 kept4)
                | (refine step_push_grp w _ _ _ B rfl _ (gsOf S f nks) rfl (HG2.out.old (((((Old.refl w2).drew).alloc _).trans hb3).alloc _)) _ _ (.slice A3 key.length c3) (.slice (some ⟨_, 0, none⟩) S S) ⟨key, 0, List.replicate S 0⟩ rfl (by go_simp) (by go_simp) (by go_simp) (SlT.old hr3 ((Old.refl w3).alloc _)) (zeros_slL hsz ((hb3.trans ((Old.refl _).alloc _)).heap (heap_alloc_at _)) (by omega)) hpush (by assumption) ?_; intro v' w4 own4 kept4)
                | (fail "none"))
            all_goals
              have OWN4 := hide own4
              have O4 : Hid (Old w w4) := hide (by assumption)
              clear own4 kept4 f0 f1 hmk
              go_wp2_with fail
              go_roundw
              case rel => exact ⟨k + 1, by go_num, by omega, hide (by rw [hnew.out, gsOf_snoc, hz.out]; exact OWN4.out), O4⟩
              case measure => simp [intOf]; omega
        · have hkn : k = l.length := by omega
          rw [hkn, List.take_length] at HG
          have hkl := addKeys_len l ks
          have hcnt := HA.out.st.cnt
          have hnd := hide (addKeys_nodup (l := l) HA.out.st.nodup)
          have hlen := hide (show ∀ k ∈ addKeys ks l, k.length = K from fun k hk => by
            rcases addKeys_mem hk with h | ⟨e, he, rfl⟩
            · exact HA.out.st.len k h
            · exact (entMay_iff.1 (List.all_eq_true.1 HMAY.out e he)).1)
          have hcov := hide (show ∀ k, k ∉ addKeys ks l → ∀ i, i ≤ S → f k i = 0 ∧ gAdd f l k i = 0 from fun k hk i hi => by
            have h1 := HA.out.st.cov k (fun hh => hk (addKeys_old hh)) i hi
            refine ⟨h1, ?_⟩
            unfold gAdd
            rw [h1, tot_none (fun e he hh => hk (by rw [← hh]; exact addKeys_new he))]; rfl)
          have hin := hide (show ∀ e ∈ l, e.key ∈ addKeys ks l from fun e he => addKeys_new he)
          obtain ⟨nks, hnks⟩ : ∃ n, addKeys ks l = n := ⟨_, rfl⟩
          rw [hnks] at HG hkl hnd hlen hcov hin
          clear hnks hkn
          have HG0 : Hid (GOwn w B wr u7 (mixG S f (gAdd f l) nks 0)) := hide (by rw [mixG_zero]; exact HG.out)
          obtain ⟨An, cn, rfl, hn1, hn2⟩ : ∃ A c, u7 = .slice A nks.length c ∧ nks.length ≤ c ∧ c ≤ 9223372036854775807 := by
            obtain ⟨vs, -, h2, -⟩ := HG.out
            obtain ⟨A, c, h3, h4, h5, -⟩ := SlT.of_own h2
            rw [gsOf_len] at h3 h4
            exact ⟨A, c, h3, h4, by unfold maxLen at h5; omega⟩
          clear HG
          go_wp2_with fail
          go_loopw [9] (fun i wz => ∃ k : Nat, i = .int .i64 k ∧ k ≤ nks.length ∧ Hid (GOwn w B wz (.slice An nks.length cn) (mixG S f (gAdd f l) nks k)) ∧ Hid (∀ j, (hj : j < nks.length) → j < k → ∀ q, q ≤ S → fit (gAdd f l nks[j] q)) ∧ Hid (Old w wz)) (fun i _ => nks.length - (intOf i).toNat)
          case atStart => exact ⟨0, rfl, by omega, HG0, hide (fun j _ h => absurd h (by omega)), HO⟩
          case round =>
            obtain ⟨k, rfl, hk, HG, HF, HO⟩ := hrel
            clear HG0
            by_cases hlt : k < nks.length
            · obtain ⟨g, kv, sv, rfl, hgl, y0, y1, y2, hfz, hkv, hsv, hput⟩ := mix_open HG.out hlt
              have hkl2 := hide (hlen.out nks[k] (List.getElem_mem hlt))
              obtain ⟨key, hke⟩ : ∃ x, nks[k] = x := ⟨_, rfl⟩
              rw [hke] at y1 hkv hsv hput hkl2
              have HKE := hide hke
              have HKV := hide (hkv.sl HO.out)
              have HSV := hide (hsv.sl HO.out)
              have HPUT := hide hput
              obtain ⟨Ak, ck, rfl⟩ := hkv.form
              obtain ⟨As, cs, rfl⟩ := hsv.form
              obtain ⟨c0, hc0⟩ : ∃ c, f key 0 = c := ⟨_, rfl⟩
              rw [hc0] at y1
              have HC0 := hide hc0
              have hfz' := hfz
              have HFZ := hide hfz
              have HL := hide HA.out.ents
              have CS0 := hide (show ∀ o, Calls Tryz.prog 43 #[.int .i64 c0, .slice A l.length ca, .slice Ak key.length ck, .int .i64 (-1)] (wr.alloc o) (SumPost (wr.alloc o) (gAdd f l key 0)) from fun o => by
                have hh := summed_cnt c0 (.slice A l.length ca) (.slice Ak key.length ck) l key (wr.alloc o) (HL.out.old (HO.out.alloc o)) (HKV.out.old ((Old.refl wr).alloc o)) (by omega) (by rw [← HC0.out]; exact HA.out.st.fit key 0 (by omega)) HA.out.fine
                rw [← HC0.out] at hh ⊢
                exact hh)
              have Y0 := hide y0
              have Y1 := hide y1
              have Y2 := hide y2
              clear hke hc0 hfz hfz' hput hkv hsv
              by_cases hft : fit (gAdd f l key 0)
              · have HFT := hide hft
                clear hft
                go_wp2_with fail
                refine (CS0.out _).mono ?_
                rintro e w2 hpost
                obtain ⟨rfl, h2⟩ := sum_fit hpost HFT.out
                have O2 := hide (HO.out.trans (((Old.refl wr).alloc _).trans h2))
                have OR := hide (((Old.refl wr).alloc _).trans h2)
                have q0 := hide (h2.cell (p := ⟨wr.heap.size, 0, none⟩) (v := .slice Ak key.length ck) (by go_simp))
                have q2 := hide (h2.cell (p := ⟨wr.heap.size, 2, none⟩) (v := .slice As S cs) (by go_simp))
                clear hpost h2 y0 y1 y2 CS0
                obtain ⟨q, hq⟩ : ∃ q, q = wr.heap.size := ⟨_, rfl⟩
                rw [← hq] at q0 q2 ⊢
                clear hq
                obtain ⟨wo, hwo⟩ : ∃ wo, wo = wr := ⟨_, rfl⟩
                subst hwo
                go_wp2_with fail
                go_loopw [13, 14] (fun o i wz => ∃ j : Nat, i = .int .i64 j ∧ j ≤ S ∧ Hid (wz.ownsRow w2.heap.size 2 1 o j (numVals (sumsOf j (gAdd f l) key))) ∧ Hid (∀ q, q ≤ j → fit (gAdd f l key q)) ∧ Hid (Old w2 wz)) (fun _ i _ => S - (intOf i).toNat)
                case atStart => exact ⟨0, rfl, by omega, hide (World.ownsRow_nil _ _ _ _), hide (fun q hq => by rw [show q = 0 by omega]; exact HFT.out), hide (Old.refl _)⟩
                case round =>
                  obtain ⟨j, rfl, hj, HOW, HFJ, HO3⟩ := hrel
                  have z1 := HO3.out.cell (O2.out.cell HA.out.st.is.c1)
                  by_cases hjt : j < S
                  · obtain ⟨A9, c9, hs9, hs1, hs2, hs3⟩ := HSV.out
                    injection hs9 with hs4 _ hs5
                    subst hs4
                    subst hs5
                    have g1 := numVals_get (l := sumsOf S f key) (i := j) (by rw [sumsOf_len]; exact hjt)
                    obtain ⟨b2, o2, rfl, hcell⟩ := hs3 (by intro e; rw [e] at g1; simp at g1)
                    have hx := hcell _ _ g1
                    rw [sumsOf_get] at hx
                    unfold maxLen at hs2
                    obtain ⟨n, hn⟩ : ∃ n, f key (j + 1) = n := ⟨_, rfl⟩
                    rw [hn] at hx
                    have HN := hide hn
                    have x0 : ∀ p : Later wr, p.world.cell? ⟨q, 0, none⟩ = some (.slice Ak key.length ck) := fun p => p.old.cell (HO3.out.cell q0.out)
                    have x2 : ∀ p : Later wr, p.world.cell? ⟨q, 2, none⟩ = some (.slice (some ⟨b2, o2, none⟩) S cs) := fun p => p.old.cell (HO3.out.cell q2.out)
                    have x3 : ∀ p : Later wr, p.world.cell? ⟨b2, o2 + j, none⟩ = some (.int .i64 n) := fun p => p.old.cell (HO3.out.cell (OR.out.cell hx))
                    have CS := hide (show ∀ p : Later wr, Calls Tryz.prog 43 #[.int .i64 n, .slice A l.length ca, .slice Ak key.length ck, .int .i64 j] p.world (SumPost p.world (gAdd f l key (j + 1))) from fun p => by
                      have hh := summed_sum n j (.slice A l.length ca) (.slice Ak key.length ck) l key p.world (HL.out.old (O2.out.trans (HO3.out.trans p.old))) (HKV.out.old (OR.out.trans (HO3.out.trans p.old))) (by omega) (by rw [← HN.out]; exact HA.out.st.fit key (j + 1) (by omega)) HA.out.fine
                        (fun e he => by rw [(entMay_iff.1 (List.all_eq_true.1 HMAY.out e he)).2.1]; exact hjt) (by omega)
                      rw [← HN.out] at hh ⊢
                      exact hh)
                    clear hcell hs3 hn g1 hx
                    by_cases hft : fit (gAdd f l key (j + 1))
                    · have HFT2 := hide hft
                      have CSY := hide (fun p => (CS.out p).mono (fun e w' hp => sum_fit hp hft))
                      clear hft
                      go_wp2_with fail
                      refine region_later (by kernel_rfl) (by kernel_rfl) ?_
                      repeat (go_big_quiet_step ((go_at_call 43; exact Later.call (CSY.out _))))
                      refine wpQuiet_nil ?_
                      rintro wq ⟨⟨_, hwq⟩, rfl⟩
                      clear x0 x2 x3 z1
                      have O4 := hide (HO3.out.trans hwq)
                      have HOW4 := hide (own_old HOW.out hwq)
                      clear hwq
                      go_wp2_with (at_builtin; refine wpList_plain rfl (fun K' hK => ?_); refine step_push_num _ _ _ rfl w2.heap.size _ j (sumsOf j (gAdd f l) key) rfl (own_old HOW4.out ((Old.refl wq).alloc _)) _ (gAdd f l key (j + 1)) rfl (one_num (by go_simp) (Nat.le_refl _) (by unfold maxLen; omega)) (by omega) (O4.out.alloc _).size ?_; intro v' w5 own5 kept5; refine hK _ _ ?_; clear hK)
                      have H5 := hide (kept5.old (O4.out.alloc _) (Nat.le_refl _))
                      have OW5 := hide own5
                      clear own5 kept5
                      go_roundw
                      case rel => exact ⟨j + 1, by go_num, by omega, hide (by rw [sumsOf_next]; exact OW5.out), hide (fun q hq => by
                        by_cases e : q = j + 1
                        · subst e; exact HFT2.out
                        · exact HFJ.out q (by omega)), H5⟩
                      case measure => simp [intOf]; omega
                    · have HAE := hide (over_any HA.out.st HMAY.out (show j + 1 ≤ S by omega) (by have := hft; unfold gAdd at this; exact this))
                      have CSN := hide (fun p => (CS.out p).mono (fun e w' hp => sum_over hp hft))
                      clear hft
                      go_wp2_with fail
                      refine region_later (by kernel_rfl) (by kernel_rfl) ?_
                      repeat (go_big_quiet_step ((go_at_call 43; exact Later.call (CSN.out _))))
                      refine wpQuiet_nil ?_
                      rintro wq ⟨⟨_, hwq⟩, rfl⟩
                      clear x0 x2 x3 z1
                      have O4 := hide ((O2.out.trans HO3.out).trans hwq)
                      clear hwq
                      go_wp2_with fail
                      go_ret2
                      exact HAppPost.same HA.out.st O4.out HAE.out.1 HAE.out.2
                  · have hjS : j = S := by omega
                    subst hjS
                    have OWR := hide (OR.out.trans HO3.out)
                    have e0 := OWR.out.cell Y0.out
                    have e1 := OWR.out.cell Y1.out
                    have e2 := OWR.out.cell Y2.out
                    have f0 := OWR.out.frozen Y0.out (HFZ.out _)
                    have f1 := OWR.out.frozen Y1.out (HFZ.out _)
                    have f2 := OWR.out.frozen Y2.out (HFZ.out _)
                    have q0' := HO3.out.cell q0.out
                    have hOW := HOW.out
                    obtain ⟨A13, c13, rfl, -⟩ := id (SlT.of_own hOW)
                    have PUT := hide (HPUT.out wr OWR.out (.slice A13 j c13) (.inr ((SlT.of_own hOW).mono O2.out.size)))
                    have HOF := hide (O2.out.trans HO3.out)
                    clear hOW
                    go_wp2_with fail
                    go_roundw
                    case rel => exact ⟨k + 1, by go_num, by omega, PUT, hide (fun i hi hi2 q hq => by
                      by_cases e : i = k
                      · subst e; rw [HKE.out]; exact HFJ.out q hq
                      · exact HF.out i hi (by omega) q hq), hide (((HOF.out.setCell hgl _).setCell hgl _).setCell hgl _)⟩
                    case measure => simp [intOf]; omega
              · have HAE := hide (over_any HA.out.st HMAY.out (Nat.zero_le S) (by have := hft; unfold gAdd at this; exact this))
                have HFT := hide hft
                clear hft
                go_wp2_with fail
                refine (CS0.out _).mono ?_
                rintro e w2 hpost
                obtain ⟨rfl, h2⟩ := sum_over hpost HFT.out
                have O2 := hide (HO.out.trans (((Old.refl wr).alloc _).trans h2))
                clear hpost h2 y0 y1 y2 CS0
                go_wp2_with fail
                go_ret2
                exact HAppPost.same HA.out.st O2.out HAE.out.1 HAE.out.2
            · have hkn : k = nks.length := by omega
              have hall : Hid (∀ x ∈ nks, ∀ q, q ≤ S → fit (gAdd f l x q)) := hide (fun x hx q hq => by
                obtain ⟨j, hj, rfl⟩ := List.getElem_of_mem hx
                exact HF.out j hj (by omega) q hq)
              have hG := HG.out
              rw [mixG_all (by omega)] at hG
              have HG := hide hG
              have hAE := hide (appErr_ok HMAY.out (okB_iff.2 fun e he i hi => hall.out e.key (hin.out e he) i hi))
              have hD := hide (show normErr (seenAll S f ks (-1) ++ seenAll S (gAdd f l) nks 1) = 0 ∧ Delta K S f (gAdd f l) (normOut (seenAll S f ks (-1) ++ seenAll S (gAdd f l) nks 1)) from ref_delta HA.out.st.nodup HA.out.st.len (fun k hk => Classical.byContradiction fun hn => hk (HA.out.st.cov k hn 0 (by omega))) hnd.out hlen.out (fun k hk => Classical.byContradiction fun hn => hk (hcov.out k hn 0 (by omega)).2))
              have d2 := HO.out.cell c2
              have CR1 := hide (rows_ref v0 (gsOf S f ks) (-1) wr (HB0.out.is.old HO.out) (by rw [gsOf_len]; omega) (fun x hx => by
                obtain ⟨k, hk, rfl⟩ := List.mem_map.1 hx
                exact ⟨by have := HA.out.st.len k hk; show k.length ≤ 1000; omega, by show (sumsOf S f k).length ≤ 1000; rw [sumsOf_len]; omega⟩))
              rw [hRows_of] at CR1
              have CR2 := hide (fun w' (o : Old wr w') => rows_ref (.slice An nks.length cn) (gsOf S (gAdd f l) nks) 1 w' ((hG.is HO.out).old o) (by rw [gsOf_len]; omega) (fun x hx => by
                obtain ⟨k, hk, rfl⟩ := List.mem_map.1 hx
                exact ⟨by have := hlen.out k hk; show k.length ≤ 1000; omega, by show (sumsOf S (gAdd f l) k).length ≤ 1000; rw [sumsOf_len]; omega⟩))
              have hl1 := seenAll_len S f ks (-1)
              have hl2 := seenAll_len S (gAdd f l) nks 1
              clear hG hkn
              go_wp2_with fail
              refine CR1.out.mono ?_
              rintro e w2 ⟨va, rfl, hva, ho2⟩
              have HVA := hide hva
              have CR3 := hide (CR2.out w2 ho2)
              rw [hRows_of] at CR3
              have HO2 := hide (HO.out.trans ho2)
              have HOR := hide ho2
              clear hva ho2 CR1 CR2 d2
              go_wp2_with fail
              refine CR3.out.mono ?_
              rintro e w3 ⟨vb, rfl, hvb, ho3⟩
              have HVB := hide (hvb.t.mono (show wr.heap.size ≤ w2.heap.size from HOR.out.size))
              have HVA3 := hide (HVA.out.old ho3)
              have HO3 := hide (HO2.out.trans ho3)
              have HOR3 := hide (HOR.out.trans ho3)
              clear hvb ho3 CR3 HVA HO2 HOR
              have hb3 := HOR3.out.size
              go_wp2_with (at_builtin; refine wpList_plain rfl (fun K' hK => ?_); refine step_push_seen _ _ _ rfl wr.heap.size _ (seenAll S f ks (-1)) rfl HVA3.out _ (seenAll S (gAdd f l) nks 1) rfl HVB.out (by omega) hb3 ?_; intro v' w4 own4 kept4 _hg; refine hK _ _ ?_; clear hK)
              have OR4 := hide (kept4.old HOR3.out (Nat.le_refl _))
              have O4 := hide (HO.out.trans OR4.out)
              have hfi : ∀ x ∈ seenAll S f ks (-1) ++ seenAll S (gAdd f l) nks 1, x.row.length ≤ 1048576 ∧ fit x.w := fun x hx => by
                rcases List.mem_append.1 hx with hx | hx
                · have := seenAll_fine (S := S) (f := f) (w := -1) HA.out.st.len (by unfold fit; omega) x hx
                  exact ⟨by have := this.1; omega, this.2⟩
                · have := seenAll_fine (S := S) (f := gAdd f l) (w := 1) hlen.out (by unfold fit; omega) x hx
                  exact ⟨by have := this.1; omega, this.2⟩
              have CN := ref_Norm v' (seenAll S f ks (-1) ++ seenAll S (gAdd f l) nks 1) w4 own4.t.is (by rw [List.length_append]; omega) (fun i hi => (hfi _ (List.getElem_mem hi)).1) (fun x hx => (hfi x hx).2)
              obtain ⟨z, hz⟩ : ∃ z, normOut (seenAll S f ks (-1) ++ seenAll S (gAdd f l) nks 1) = z := ⟨_, rfl⟩
              have hDD := hD.out
              rw [hz] at hDD CN
              rw [hDD.1] at CN
              have CN := hide CN
              have HDD := hide hDD.2
              clear own4 kept4 hfi hz hDD hD hl1 hl2 HVA3 HVB HO3 hb3
              go_wp2_with fail
              refine CN.out.mono ?_
              rintro e w5 ⟨vo, rfl, hit, ho5⟩
              have O5 := hide (O4.out.trans ho5)
              have OR5 := hide (OR4.out.trans ho5)
              have IT := hide hit
              have e0 := O5.out.cell HA.out.st.is.c0
              have e1 := O5.out.cell HA.out.st.is.c1
              have e2 := O5.out.cell c2
              have f2 := O5.out.frozen c2 (HA.out.st.is.free 2)
              clear hit ho5 CN
              go_wp2_with fail
              go_ret2
              have hlt5 := HA.out.st.is.lt
              refine ⟨vo, z, nks, (fun b => (B b ∨ w.heap.size ≤ b) ∧ b < w5.heap.size), by rw [hAE.out.1]; rfl, ?_, by rw [hAE.out.2]; exact HDD.out, ?_, fun b hb => hb.1, Chg.set (X := fun b => b = h) (p := h) (Chg.of_old O5.out) rfl 2 _⟩
              · refine (IT.out.chg (X := fun b => b = h) (Chg.set (X := fun b => b = h) (p := h) (Chg.refl _ _) rfl 2 _) (fun b cs T f hb _ e => ?_)).mono O4.out.size
                subst e
                have := O4.out.size
                omega
              · rw [hAE.out.2]
                refine ⟨⟨?_, ?_, ⟨.slice An nks.length cn, ?_, ?_⟩, fun b hb => by simpa using hb.2, ?_, fun i => ?_⟩, hnd.out, hlen.out, fun k hk i hi => (hcov.out k hk i hi).2, by omega, ?_⟩
                · go_simp
                · go_simp
                · go_simp
                · refine (((HG.out.old OR5.out).slb O5.out).mono (B' := fun b => (B b ∨ w.heap.size ≤ b) ∧ b < w5.heap.size) (fun b hb hB => ⟨hB, hb⟩)).chg (X := fun b => b = h) (Chg.set (X := fun b => b = h) (p := h) (Chg.refl _ _) rfl 2 _) (fun b hb hB e => ?_)
                  subst e
                  rcases hB.1 with hB | hB
                  · exact HA.out.st.is.noh hB
                  · omega
                · rintro ⟨hB | hB, _⟩
                  · exact HA.out.st.is.noh hB
                  · omega
                · have := (Below.frozen O5.out (p := ⟨h, i, none⟩) hlt5).trans (HA.out.st.is.free i)
                  go_simp
                · have := GFit.app (K := K) (l := l) HA.out.st.fit
                  rwa [hAE.out.2] at this
end Go.Proofs.YtmfbblcipakaiaaGreatDoor

/-! ### The document's Rows; the statement's own and wreck. -/
namespace Go.Proofs.YtmfbblcipakaiaaGreatDoor
open Go.RowKit

def HRowsPost (w : World) (K S : Nat) (f : Gf) (e : Ending) (w' : World) : Prop :=
  ∃ (v : Value) (z : List Item), e = .returned v ∧ ItemsT 60 65 w.heap.size w' v z ∧ RowsZ K S f z ∧ Old w w'
set_option maxRecDepth 100000 in
set_option maxHeartbeats 1000000 in
theorem hrows_run (h K S m : Nat) (f : Gf) (ks : List (List Cell)) (B : Nat → Prop) (w : World) (H : HSt w h K S m f ks B) (hK : K ≤ 64) (hS : S ≤ 64) (hm : m ≤ 100000) :
    Calls Tryz.prog 19 #[.pointer (some ⟨h, 0, none⟩)] w (HRowsPost w K S f) := by
  obtain ⟨v0, c2, hB⟩ := H.is.l
  have HH := hide H
  have hcnt := H.cnt
  have CR := rows_ref v0 (gsOf S f ks) 1 w hB.is (by rw [gsOf_len]; omega) (fun x hx => by
    obtain ⟨k, hk, rfl⟩ := List.mem_map.1 hx
    exact ⟨by have := H.len k hk; show k.length ≤ 1000; omega, by show (sumsOf S f k).length ≤ 1000; rw [sumsOf_len]; omega⟩)
  rw [hRows_of] at CR
  have hl1 := seenAll_len S f ks 1
  have hD : normErr (seenAll S f ks 1) = 0 ∧ RowsZ K S f (normOut (seenAll S f ks 1)) := seen_rows H.nodup H.len (fun k hk => Classical.byContradiction fun hn => hk (H.cov k hn 0 (by omega)))
  have hfi := hide (seenAll_fine (S := S) (f := f) (w := 1) H.len (by unfold fit; omega))
  have CN := hide (fun (v : Value) (w' : World) (hi : ItemsIs w' v (seenAll S f ks 1)) => ref_Norm v (seenAll S f ks 1) w' hi (by omega) (fun i hi => by have := (hfi.out _ (List.getElem_mem hi)).1; omega) (fun x hx => (hfi.out x hx).2))
  obtain ⟨z, hz⟩ : ∃ z, normOut (seenAll S f ks 1) = z := ⟨_, rfl⟩
  rw [hz, hD.1] at CN
  rw [hz] at hD
  have HD := hide hD.2
  have CR := hide CR
  clear hz hD hB H hl1 hcnt
  go_enter Tryz.func19, Tryz.ntmps19
  go_wp2_with fail
  refine CR.out.mono ?_
  rintro e w1 ⟨v, rfl, hv, ho⟩
  have CN1 := hide (CN.out v w1 hv.t.is)
  have HO := hide ho
  clear hv ho CN CR
  go_wp2_with fail
  refine CN1.out.mono ?_
  rintro e w2 ⟨u, rfl, hu, ho⟩
  have HU := hide (hu.mono HO.out.size)
  have HO2 := hide (HO.out.trans ho)
  clear hu ho CN1
  go_wp2_with fail
  go_ret
  exact ⟨_, z, rfl, HU.out, HD.out, HO2.out⟩

/-! ### entries, as the document has them -/
def EOwn (w0 w : World) (v : Value) (l : List Ent) : Prop :=
  ∃ vs : List (Value × Value), vs.length = l.length ∧ w.ownsRow w0.heap.size 91 3 v l.length (entVals vs l) ∧
    ∀ i, (h : i < l.length) → (h' : i < vs.length) → RowIs w0 vs[i].1 l[i].key ∧ RowIs w0 vs[i].2 l[i].vals
theorem EOwn.old {w0 w w' : World} {v : Value} {l : List Ent} (h : EOwn w0 w v l) (o : Old w w') : EOwn w0 w' v l := by
  obtain ⟨vs, h1, h2, h3⟩ := h
  exact ⟨vs, h1, own_old h2 o, h3⟩
theorem EOwn.is {w0 w : World} {v : Value} {l : List Ent} (h : EOwn w0 w v l) (o : Old w0 w) : EntsIs w v l := by
  obtain ⟨vs, h1, h2, h3⟩ := h
  exact ⟨vs, h1, (SlT.of_own h2).sl, fun i hi hi' => ⟨(h3 i hi hi').1.old o, (h3 i hi hi').2.old o⟩⟩
theorem entInfoD : (Tryz.prog.info? 91).map (fun i => (i.zero, i.size, i.bytes)) = some (some (.agg #[.slice none 0 0, .slice none 0 0, .int .i64 0]), 3, 56) := by kernel_rfl
theorem step_push_entD {o : Oper} {a : Act} {K : Act → World → Prop} {Q : Exit → Act → World → Prop} (w0 w : World) (s x : Operand)
    (ho : o.op = .call { callee := .builtin .append, args := #[s, x], argTypes := #[37, 37] })
    (v : Value) (l : List Ent) (hs : a.eval s = v) (hown : EOwn w0 w v l)
    (g cap : Nat) (kv vv : Value) (e : Ent) (hx : a.eval x = .slice (some ⟨g, 0, none⟩) 1 cap)
    (h0 : w.cell? ⟨g, 0, none⟩ = some kv) (h1 : w.cell? ⟨g, 1, none⟩ = some vv) (h2 : w.cell? ⟨g, 2, none⟩ = some (.int .i64 e.w)) (hk : RowIs w0 kv e.key) (hv : RowIs w0 vv e.vals)
    (hlen : l.length + 1 ≤ 2097152) (hbase : w0.heap.size ≤ w.heap.size)
    (h : ∀ v' w', EOwn w0 w' v' (l ++ [e]) → Kept 91 w0.heap.size w w' → K (a.put o.dst v') w') : o.wp Tryz.prog a w K Q := by
  obtain ⟨i0, hi, hz0, hz1, hz2⟩ := info_parts entInfoD
  obtain ⟨vs, e1, e2, e3⟩ := hown
  obtain ⟨A, cp, rfl, _⟩ := id hk.row
  obtain ⟨B, cq, rfl, _⟩ := id hv.row
  refine wp_append_own w s x 37 ho w0.heap.size 91 i0 (.agg #[.slice none 0 0, .slice none 0 0, .int .i64 0]) 3 56 Tryz.underlying37 hi hz0 hz1 hz2 rfl (by omega) v l.length (entVals vs l) hs e2
    ⟨g, 0, none⟩ 1 cap [.slice A e.key.length cp, .slice B e.vals.length cq, .int .i64 e.w] hx rfl ?_ ?_ (by unfold maxLen; omega) (by omega) hbase ?_
  · intro j u hu
    match j, hu with
    | 0, hu => simp at hu; subst hu; exact h0
    | 1, hu => simp at hu; subst hu; simpa [Addr.add] using h1
    | 2, hu => simp at hu; subst hu; simpa [Addr.add] using h2
    | j + 3, hu => simp at hu
  · intro u hu
    simp at hu
    rcases hu with rfl | rfl | rfl <;> rfl
  · intro v' w' own' hg _
    have hK := Kept.of_grown e2 hg hbase
    refine h v' w' ⟨vs ++ [(.slice A e.key.length cp, .slice B e.vals.length cq)], by simp [e1], ?_, ?_⟩ hK
    · rw [entVals_append vs l _ _ e1, List.length_append]
      exact own'
    · intro i hi hi'
      rcases Nat.lt_or_ge i l.length with hlt | hge
      · have : i < vs.length := by omega
        rw [List.getElem_append_left this]
        simp only [List.getElem_append_left hlt]
        exact e3 i hlt this
      · have : i = l.length := by simp at hi; omega
        subst this
        simp only [List.getElem_append_right (Nat.le_refl _), Nat.sub_self, List.getElem_cons_zero]
        rw [List.getElem_append_right (by omega)]
        simp only [e1, Nat.sub_self, List.getElem_cons_zero]
        exact ⟨hk, hv⟩
theorem ents_next {l : List Ent} {k : Nat} (h : k < l.length) : l.take (k + 1) = l.take k ++ [⟨l[k].key, l[k].vals, l[k].w⟩] := by
  rw [List.take_succ_eq_append_getElem h]
set_option maxRecDepth 100000 in
set_option maxHeartbeats 1000000 in
theorem own_run (v : Value) (l : List Ent) (w : World) (hl : EntsIs w v l) (hn : l.length ≤ 1048576) : Calls Tryz.prog 14 #[v] w fun e w' => ∃ u, e = .returned u ∧ EntsIs w' u l ∧ Old w w' := by
  obtain ⟨A, ca, us, vs, rfl, hla, hma, hul, hvl, hur, hvr, ha⟩ := hl.open_
  unfold maxLen at hma
  have HU := hide hur
  have HV := hide hvr
  clear hur hvr hl
  go_enter Tryz.func14, Tryz.ntmps14
  go_wp2_with fail
  go_loopw [3, 4] (fun o i wr => ∃ k : Nat, i = .int .i64 k ∧ k ≤ l.length ∧ Hid (EOwn w wr o (l.take k)) ∧ Hid (Old w wr)) (fun _ i _ => l.length - (intOf i).toNat)
  case atStart => exact ⟨0, rfl, by omega, hide ⟨[], rfl, World.ownsRow_nil _ _ _ _, fun i hi => absurd hi (by simp)⟩, hide (Old.refl _)⟩
  case round =>
    obtain ⟨k, rfl, hk, HE, HO⟩ := hrel
    by_cases hlt : k < l.length
    · have hku : k < us.length := by omega
      have hkv : k < vs.length := by omega
      obtain ⟨b1, o1, rfl, hc1⟩ := ha.resolve_left (by omega)
      obtain ⟨x0, x1, x2⟩ := hc1 k hlt hku hkv
      have HUk := hide (HU.out k hlt hku)
      have HVk := hide (HV.out k hlt hkv)
      have HN := hide (ents_next hlt)
      obtain ⟨uk, huk⟩ : ∃ u, us[k] = u := ⟨_, rfl⟩
      obtain ⟨vk, hvk⟩ : ∃ u, vs[k] = u := ⟨_, rfl⟩
      obtain ⟨⟨ekey, evals, ew⟩, hx⟩ : ∃ e, l[k] = e := ⟨_, rfl⟩
      rw [hx] at HUk HVk HN x2
      rw [huk] at x0 HUk
      rw [hvk] at x1 HVk
      obtain ⟨Ak, ck, rfl, -⟩ := id HUk.out.row
      obtain ⟨Av, cv, rfl, -⟩ := id HVk.out.row
      have f0 : ∀ w', Old w w' → w'.cell? ⟨b1, o1 + k * 3, none⟩ = some (.slice Ak ekey.length ck) := fun w' h => h.cell x0
      have f1 : ∀ w', Old w w' → w'.cell? ⟨b1, o1 + k * 3 + 1, none⟩ = some (.slice Av evals.length cv) := fun w' h => h.cell x1
      have f2 : ∀ w', Old w w' → w'.cell? ⟨b1, o1 + k * 3 + 2, none⟩ = some (.int .i64 ew) := fun w' h => h.cell x2
      have ho := HO.out
      have hlen : (l.take k).length + 1 ≤ 2097152 := by rw [List.length_take]; omega
      clear ha hc1 huk hvk hx x0 x1 x2
      go_wp2_with fail
      go_region_held3 (fun w' => Old w w')
        (first | (exact Old.drew ho) | (exact Old.alloc (by assumption) _) | (exact Old.trans (by assumption) (by assumption)) | (exact Kept.old (by assumption) (by assumption) (Nat.le_refl _)))
        (first
          | (refine step_push_entD w _ _ _ rfl _ (l.take k) rfl (HE.out.old (((Old.refl wr).drew).alloc _)) _ _ (.slice Ak ekey.length ck) (.slice Av evals.length cv) ⟨ekey, evals, ew⟩ rfl (by go_simp) (by go_simp) (by go_simp) HUk.out HVk.out hlen (Below.size (w := w) (by assumption)) ?_; intro v' w4 own4 kept4)
          | (fail "none"))
      have OW := hide own4
      have O4 : Hid (Old w w4) := hide (by assumption)
      clear own4 kept4 f0 f1 f2
      go_wp2_with fail
      go_roundw
      case rel => exact ⟨k + 1, by go_num, by omega, hide (by rw [HN.out]; exact OW.out), O4⟩
      case measure => simp [intOf]; omega
    · have hkl : k = l.length := by omega
      have h := HE.out
      rw [hkl, List.take_length] at h
      have H := hide h
      clear h
      go_wp2_with fail
      go_ret
      exact ⟨_, rfl, H.out.is HO.out, HO.out⟩

/-! ### entries are made other ones -/
set_option maxRecDepth 100000 in
set_option maxHeartbeats 1000000 in
theorem wreck_run (lo : Nat) (v : Value) (l : List Ent) (w0 w : World) (hl : EntsT 51 65 lo w0 v l) (hk : Kin lo w0 w) :
    Calls Tryz.prog 15 #[v] w fun e w' => e = .returned (.tuple #[]) ∧ Spx lo w0.heap.size w0 w w' := by
  obtain ⟨vs, hvl, ⟨A, ca, rfl, hla, hma, hb⟩, hrows⟩ := hl
  unfold maxLen at hma
  have HB := hide hb
  have HR := hide hrows
  clear hb hrows
  have h0 : Spx lo w0.heap.size w0 w w := ⟨hk, Chg.refl _ _⟩
  go_enter Tryz.func15, Tryz.ntmps15
  go_wp2_with fail
  go_loopw [2] (fun i wr => ∃ k : Nat, i = .int .i64 k ∧ k ≤ l.length ∧ Hid (Spx lo w0.heap.size w0 w wr)) (fun i _ => l.length - (intOf i).toNat)
  case atStart => exact ⟨0, rfl, by omega, hide h0⟩
  case round =>
    obtain ⟨k, rfl, hk, HS⟩ := hrel
    by_cases hlt : k < l.length
    · have hkv : k < vs.length := by omega
      obtain ⟨g1, g2, g3⟩ := entVals_get vs l k hlt hkv
      obtain ⟨b, off, cs, rfl, hlo, hheap, hcs⟩ := HB.out (by intro e; rw [e] at g1; simp at g1)
      obtain ⟨⟨Ar, cr, hr, hr1, hr2, hr3⟩, ⟨As, cq, hs, hs1, hs2, hs3⟩⟩ := HR.out k hlt hkv
      rw [hr] at g1
      rw [hs] at g2
      have c1 := hide (hcs _ _ g1)
      have c2 := hide (show cs[off + k * 3 + 1]? = some (.slice As l[k].vals.length cq) by rw [Nat.add_assoc]; exact hcs _ _ g2)
      have HH := hide hheap
      have H3 := hide hr3
      have H4 := hide hs3
      unfold maxLen at hr2 hs2
      clear g1 g2 g3 hcs hheap hr hr3 hs hs3
      go_wp2_with fail
      go_loopw [3] (fun j wz => ∃ m : Nat, j = .int .i64 m ∧ m ≤ l[k].key.length ∧ Hid (Spx lo w0.heap.size w0 w wz)) (fun j _ => l[k].key.length - (intOf j).toNat)
      case atStart => exact ⟨0, rfl, by omega, HS⟩
      case round =>
        obtain ⟨m, rfl, hm, HZ⟩ := hrel
        have x0 := HZ.out.kin.slice HH.out hlo c1.out
        by_cases hmt : m < l[k].key.length
        · have r0 := rowVals_get l[k].key m 0 (by omega) hmt
          have r1 := rowVals_get l[k].key m 1 (by omega) hmt
          have r2 := rowVals_get l[k].key m 2 (by omega) hmt
          obtain ⟨b2, o2, cs2, rfl, hlo2, hheap2, hcs2⟩ := H3.out (rowVals_ne (by omega))
          have q0 : cs2[o2 + m * 3]? = some (.bool l[k].key[m].null) := by have := hcs2 _ _ r0; simpa using this
          have q1 : cs2[o2 + m * 3 + 1]? = some (.int .i64 l[k].key[m].n) := by have := hcs2 _ _ r1; rw [← Nat.add_assoc] at this; simpa using this
          have q2 : cs2[o2 + m * 3 + 2]? = some (.string l[k].key[m].s) := by have := hcs2 _ _ r2; rw [← Nat.add_assoc] at this; simpa using this
          obtain ⟨⟨y0, e0⟩, f0⟩ := HZ.out.kin.some hheap2 hlo2 q0
          obtain ⟨⟨y1, e1⟩, f1⟩ := HZ.out.kin.some hheap2 hlo2 q1
          obtain ⟨⟨y2, e2⟩, f2⟩ := HZ.out.kin.some hheap2 hlo2 q2
          have HN := hide (((HZ.out.set hheap2 hlo2 (Nat.le_refl _) (by rw [q0]; simp) (.bool false)).set hheap2 hlo2 (Nat.le_refl _) (by rw [q1]; simp) (.int .i64 (-9))).set hheap2 hlo2 (Nat.le_refl _) (by rw [q2]; simp) (.string ⟨#[115, 112, 111, 105, 108, 116]⟩))
          clear r0 r1 r2 hcs2 hheap2 q0 q1 q2 H3
          go_wp2_with fail
          go_roundw
          case rel => exact ⟨m + 1, by go_num, by omega, HN⟩
          case measure => simp [intOf]; omega
        · go_wp2_with fail
          go_loopw [4] (fun j wz => ∃ m : Nat, j = .int .i64 m ∧ m ≤ l[k].vals.length ∧ Hid (Spx lo w0.heap.size w0 w wz)) (fun j _ => l[k].vals.length - (intOf j).toNat)
          case atStart => exact ⟨0, rfl, by omega, HZ⟩
          case round =>
            obtain ⟨m, rfl, hm, HY⟩ := hrel
            clear x0
            have x1 := HY.out.kin.slice HH.out hlo c2.out
            by_cases hmt : m < l[k].vals.length
            · have r0 := rowVals_get l[k].vals m 0 (by omega) hmt
              have r1 := rowVals_get l[k].vals m 1 (by omega) hmt
              have r2 := rowVals_get l[k].vals m 2 (by omega) hmt
              obtain ⟨b2, o2, cs2, rfl, hlo2, hheap2, hcs2⟩ := H4.out (rowVals_ne (by omega))
              have q0 : cs2[o2 + m * 3]? = some (.bool l[k].vals[m].null) := by have := hcs2 _ _ r0; simpa using this
              have q1 : cs2[o2 + m * 3 + 1]? = some (.int .i64 l[k].vals[m].n) := by have := hcs2 _ _ r1; rw [← Nat.add_assoc] at this; simpa using this
              have q2 : cs2[o2 + m * 3 + 2]? = some (.string l[k].vals[m].s) := by have := hcs2 _ _ r2; rw [← Nat.add_assoc] at this; simpa using this
              obtain ⟨⟨y0, e0⟩, f0⟩ := HY.out.kin.some hheap2 hlo2 q0
              obtain ⟨⟨y1, e1⟩, f1⟩ := HY.out.kin.some hheap2 hlo2 q1
              obtain ⟨⟨y2, e2⟩, f2⟩ := HY.out.kin.some hheap2 hlo2 q2
              have HN := hide (((HY.out.set hheap2 hlo2 (Nat.le_refl _) (by rw [q0]; simp) (.bool false)).set hheap2 hlo2 (Nat.le_refl _) (by rw [q1]; simp) (.int .i64 (-9))).set hheap2 hlo2 (Nat.le_refl _) (by rw [q2]; simp) (.string ⟨#[]⟩))
              clear r0 r1 r2 hcs2 hheap2 q0 q1 q2 H4
              go_wp2_with fail
              go_roundw
              case rel => exact ⟨m + 1, by go_num, by omega, HN⟩
              case measure => simp [intOf]; omega
            · go_wp2_with fail
              go_roundw
              case rel => exact ⟨k + 1, by go_num, by omega, HY⟩
              case measure => simp [intOf]; omega
    · go_wp2_with fail
      exact bodyPost_end (results_none rfl _ _ _) rfl ⟨rfl, HS.out⟩
end Go.Proofs.YtmfbblcipakaiaaGreatDoor

/-! ### The document's New. -/
namespace Go.Proofs.YtmfbblcipakaiaaGreatDoor
open Go.RowKit

def HNewPost (w : World) (k0 k1 : Int) (e : Ending) (w' : World) : Prop :=
  Old w w' ∧ ((¬ (0 ≤ k0 ∧ k0 ≤ 16 ∧ 0 ≤ k1 ∧ k1 ≤ 16) ∧ e = .returned (.tuple #[.pointer none, .int .i64 2])) ∨
    ((0 ≤ k0 ∧ k0 ≤ 16 ∧ 0 ≤ k1 ∧ k1 ≤ 16) ∧ ∃ h, e = .returned (.tuple #[.pointer (some ⟨h, 0, none⟩), .int .i64 0]) ∧ w.heap.size ≤ h ∧ HIs w' h k0.toNat k1.toNat [] (fun _ => False)))
set_option maxRecDepth 100000 in
set_option maxHeartbeats 1000000 in
theorem hnew_run (k0 k1 : Int) (w : World) : Calls Tryz.prog 10 #[.int .i64 k0, .int .i64 k1] w (HNewPost w k0 k1) := by
  go_enter Tryz.func10, Tryz.ntmps10
  by_cases h : 0 ≤ k0 ∧ k0 ≤ 16 ∧ 0 ≤ k1 ∧ k1 ≤ 16
  · obtain ⟨h1, h2, h3, h4⟩ := h
    obtain ⟨K, rfl⟩ := Int.eq_ofNat_of_zero_le h1
    obtain ⟨S, rfl⟩ := Int.eq_ofNat_of_zero_le h3
    go_wp2_with fail
    go_ret2
    have hB := heap_alloc_at (w := w) (.cells #[.int .i64 K, .int .i64 S, .slice none 0 0] 70)
    exact ⟨(Old.refl w).alloc _, .inr ⟨⟨h1, h2, h3, h4⟩, w.heap.size, rfl, Nat.le_refl _, ⟨(cell_of_heap hB).trans rfl, (cell_of_heap hB).trans rfl, ⟨_, (cell_of_heap hB).trans rfl, GrpsB.nil_ _ _⟩, fun _ h => h.elim, fun h => h, fun i => free_of_heap hB⟩⟩⟩
  · have hc : k0 < 0 ∨ (0 ≤ k0 ∧ 16 < k0) ∨ (0 ≤ k0 ∧ k0 ≤ 16 ∧ k1 < 0) ∨ (0 ≤ k0 ∧ k0 ≤ 16 ∧ 0 ≤ k1 ∧ 16 < k1) := by omega
    rcases hc with h1 | ⟨h1, h2⟩ | ⟨h1, h2, h3⟩ | ⟨h1, h2, h3, h4⟩
    all_goals
      have H := hide h
      clear h
      go_wp2_with fail
      go_ret2
      exact ⟨Old.refl w, .inl ⟨H.out, rfl⟩⟩
end Go.Proofs.YtmfbblcipakaiaaGreatDoor
