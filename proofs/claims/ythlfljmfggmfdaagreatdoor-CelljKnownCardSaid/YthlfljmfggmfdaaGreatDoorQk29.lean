/-  -/
import Derived.Test.YthlfljmfggmfdaaGreatDoorQk28
/-! ###  -/
namespace Go.Proofs.YthlfljmfggmfdaaGreatDoor
open Go.RowKit
theorem zero_node (w : World) : (zeroValue 36).run Tryz.prog w = .ok (.agg #[.int .i64 0, .string ⟨#[]⟩, .int .i64 0, .string ⟨#[]⟩, .int .i64 0]) w := by kernel_rfl
theorem row_may {cols : List Col} {t : List Nd} {out : List Cell} {er : Int} (hr : RowOf cols t out er) (h : namedB cols = true) (hk : ∀ i, (hi : i < cols.length) → mayK cols[i].kind = true) :
 (chkT t ≠ 0 ∧ out = [] ∧ er = chkT t) ∨ ∃ h l, May t (.mk h l) ∧ (((h.kind ≠ 7 ∨ l.length ≠ cols.length ∨ ∃ c ∈ cols, findM l c.name = none) ∧ out = [] ∧ er = 200) ∨ (h.kind = 7 ∧ l.length = cols.length ∧ (∀ c ∈ cols, findM l c.name ≠ none) ∧ ((takenAll cols l = none ∧ out = [] ∧ er = 90) ∨ (takenAll cols l = some out ∧ er = 0)))) := by
 rcases hr with ⟨h1 | ⟨c, hc, h1⟩, _⟩ | ⟨_, _, hrest⟩
 · rw [h] at h1; cases h1
 · rw [all_at (P := fun c => mayK c.kind = true) hk c hc] at h1; cases h1
 · exact hrest
theorem ints_far {w : World} {v : Value} {l : List Nat} {lo m : Nat} (h : IntsT lo w v l) (hm : l.length = m) : ∃ A cap, v = .slice A m cap ∧ m ≤ cap ∧ cap ≤ maxLen ∧ (m = 0 ∨ ∃ b off, A = some ⟨b, off, none⟩ ∧ lo ≤ b ∧ b < w.heap.size ∧ ∀ (i n : Nat), l[i]? = some n → w.cell? ⟨b, off + i, none⟩ = some (.int .i64 (n : Int))) := by
 subst hm
 obtain ⟨A, cap, rfl, h1, h2, h3⟩ := SlT.slb h
 refine ⟨A, cap, by simp, by simpa using h1, h2, ?_⟩
 cases l with
 | nil => exact .inl rfl
 | cons x l =>
   obtain ⟨b, off, rfl, hb, hlt, hc⟩ := h3 (by simp [intVals])
   exact .inr ⟨b, off, rfl, hb, hlt, fun i n hn => hc i _ (by simp only [intVals, List.getElem?_map, hn, Option.map_some])⟩
theorem mem_next {t : List Nd} {h : Hd} {l : List J} (hm : May t (.mk h l)) {k : Nat} (hk : k < l.length) (h7 : h.kind = 7) : memM (l.take k) l[k].key = none ∧ upd (memM (l.take k)) l[k].key (some (Nv l[k].hd (l[k].flat.length : Int))) = memM (l.take (k + 1)) := by
 have hf := find_take hk (keys_nodup hm h7)
 refine ⟨by unfold memM; rw [hf]; rfl, ?_⟩
 rw [List.take_succ_eq_append_getElem hk]
 exact memM_next hf
set_option maxRecDepth 100000 in
set_option maxHeartbeats 4000000 in
theorem row_run (cv v : Value) (cols : List Col) (t : List Nd) (out : List Cell) (er : Int) (w : World) (hc : ColsIs w cv cols) (ht : NodesIs w v t) (hx : TextsOk t) (hf : NdFit t) (hnm : ∀ c ∈ cols, c.name.size ≤ maxLen) (hz : cols.length ≤ 4000) (hT : Tabs w) (hr : RowOf cols t out er) :
 Calls Tryz.prog 18 #[cv, v] w (NewRowE w out er) := by
 have CN := hide (fun w' (o : Old w w') => named_run cv cols w' (hc.old o) hnm)
 have CM := hide (fun (k : Int) (nl : Bool) w' => may_run k nl w')
 have CC := hide (fun w' (o : Old w w') => check_run v t w' (ht.old o) hx (hT.old o))
 have CK := hide (fun ks (hk : kidsT t ks) w' (o : Old w w') => Kids_run v t ks w' (ht.old o) hx (hT.old o) hk)
 have CT := hide (fun (k : Int) (nl : Bool) (h : Hd) (z : Int) (hk : mayK k = true) (ho : HdOk h) (hs : h.s.size ≤ 1073741824) w' (o : Old w w') => taken_run k nl h z hk ho hs w' (hT.old o))
 have HN := hide ht
 have HTX := hide hx
 have HNM := hide hnm
 unfold Ret at CN CM
 obtain ⟨B, cb, rfl, hlb, hmb, hc'⟩ := cols_form hc
 obtain ⟨A, ca, rfl, hla, hma, _⟩ := ht.nodes
 unfold maxLen at hma hmb
 have HC := hide hc'
 have HR := hide hr
 clear hc hc' ht hx hr hT hnm
 cases hnb : namedB cols
 · rw [hnb] at CN
   have HO1 : Hid (out = [] ∧ er = 2) := hide (by
    rcases HR.out with ⟨_, h1, h2⟩ | ⟨h1, _⟩
    · exact ⟨h1, h2⟩
    · rw [hnb] at h1; cases h1)
   clear hnb
   go_enter Tryz.func18, Tryz.ntmps18
   go_wp2_with fail
   refine (CN.out _ (Old.refl _)).mono ?_
   rintro e w1 ⟨rfl, o1⟩
   go_wp2_with fail
   go_ret2
   exact ⟨_, by rw [HO1.out.2]; rfl, by rw [HO1.out.1]; exact SlT.nil_ _, o1⟩
 rw [hnb] at CN
 have HNB := hide hnb
 clear hnb
 go_enter Tryz.func18, Tryz.ntmps18
 go_wp2_with fail
 refine (CN.out _ (Old.refl _)).mono ?_
 rintro e w1 ⟨rfl, o1⟩
 have O1 := hide o1
 clear o1 CN
 go_wp2_with fail
 go_loopw [26] (fun iv wr => ∃ k : Nat, iv = .int .i64 k ∧ k ≤ cols.length ∧ Hid (∀ i, i < k → (hi : i < cols.length) → mayK cols[i].kind = true) ∧ Hid (Old w wr)) (fun iv _ => cols.length - (intOf iv).toNat)
 case atStart => exact ⟨0, rfl, by omega, hide (fun i h => by omega), O1⟩
 case round =>
  obtain ⟨k, rfl, hk, HMK, HO⟩ := hrel
  by_cases hlt : k < cols.length
  · have hli : (k : Int) < (cols.length : Int) := by omega
    obtain ⟨b1, o1, rfl, hc1⟩ := HC.out.resolve_left (by omega)
    obtain ⟨e0, e1, e2, e3, e4, e5, e6⟩ := (hc1 k hlt).old HO.out
    have HBAD := hide (show mayK cols[k].kind = false → out = [] ∧ er = 2 from fun hb => by
     rcases HR.out with ⟨_, h1, h2⟩ | ⟨_, h1, _⟩
     · exact ⟨h1, h2⟩
     · rw [h1 _ (List.getElem_mem hlt)] at hb; cases hb)
    have HGOOD := hide (show mayK cols[k].kind = true → ∀ i, i < k + 1 → (hi : i < cols.length) → mayK cols[i].kind = true from fun hb i hi hic => by
     rcases Nat.lt_or_ge i k with h' | h'
     · exact HMK.out i h' hic
     · obtain rfl : i = k := by omega
       exact hb)
    generalize hxx : cols[k] = x at e0 e1 e2 e3 e4 e5 e6
    rw [hxx] at HBAD HGOOD
    clear hxx
    cases hmk : mayK x.kind
    · have HO1 := hide (HBAD.out hmk)
      have CMX := hide (fun w' => (show Calls Tryz.prog 43 #[Ty x.kind x.null] w' (fun e w2 => e = .returned (.bool false) ∧ Old w' w2) from by have := CM.out x.kind x.null w'; rwa [hmk] at this))
      clear HBAD HGOOD hmk
      go_wp2_with fail
      refine (CMX.out _).mono ?_
      rintro e w2 ⟨rfl, o2⟩
      have O2 := hide (Old.trans HO.out (Old.trans (Old.alloc (Old.refl _) _) o2))
      clear o2
      go_wp2_with fail
      go_ret2
      exact ⟨_, by rw [HO1.out.2]; rfl, by rw [HO1.out.1]; exact SlT.nil_ _, O2.out⟩
    · have HG2 := hide (HGOOD.out hmk)
      have CMX := hide (fun w' => (show Calls Tryz.prog 43 #[Ty x.kind x.null] w' (fun e w2 => e = .returned (.bool true) ∧ Old w' w2) from by have := CM.out x.kind x.null w'; rwa [hmk] at this))
      clear HBAD HGOOD hmk
      go_wp2_with fail
      refine (CMX.out _).mono ?_
      rintro e w2 ⟨rfl, o2⟩
      have O2 := hide (Old.trans HO.out (Old.trans (Old.alloc (Old.refl _) _) o2))
      clear o2
      go_wp2_with fail
      go_roundw
      case rel => exact ⟨k + 1, by go_num, by omega, HG2, O2⟩
      case measure => simp [intOf]; omega
  · have HKM := hide (show ∀ i, (hi : i < cols.length) → mayK cols[i].kind = true from fun i hi => HMK.out i (by omega) hi)
    have HRT := hide (row_may HR.out HNB.out HKM.out)
    have hli : ¬ (k : Int) < (cols.length : Int) := by omega
    clear HMK
    by_cases h0 : chkT t = 0
    · obtain ⟨h, l, hm, hcase⟩ : ∃ h l, May t (.mk h l) ∧ (((h.kind ≠ 7 ∨ l.length ≠ cols.length ∨ ∃ c ∈ cols, findM l c.name = none) ∧ out = [] ∧ er = 200) ∨ (h.kind = 7 ∧ l.length = cols.length ∧ (∀ c ∈ cols, findM l c.name ≠ none) ∧ ((takenAll cols l = none ∧ out = [] ∧ er = 90) ∨ (takenAll cols l = some out ∧ er = 0)))) := by
       rcases HRT.out with ⟨h1, _⟩ | hh
       · exact absurd h0 h1
       · exact hh
      have CC0 := hide (fun w' o => (show Calls Tryz.prog 44 #[.slice A t.length ca] w' (fun e w2 => e = .returned (.int .i64 0) ∧ Old w' w2) from by have := CC.out w' o; rwa [h0] at this))
      have HMY := hide hm
      have HCS := hide hcase
      clear hcase h0 HRT CC
      obtain ⟨b5, f5, rfl, y0, _, _, _, _⟩ := nodes_cells HN.out (root_at hm.1.2.2)
      simp only [Nat.zero_mul, Nat.add_zero] at y0
      have Y0 := hide y0
      have htl : (0 : Int) < (t.length : Int) := by
       have := congrArg List.length hm.1.2.2
       rw [flat_mk, List.length_cons] at this
       omega
      clear y0
      have CKK := hide (CK.out _ (.inl ⟨h, l, hm, rfl⟩))
      clear hm CK
      have hmm := @run_makeMap Tryz.prog
      go_wp2_with fail
      refine (CC0.out _ HO.out).mono ?_
      rintro e w3 ⟨rfl, o3⟩
      have O3 := hide (Old.trans HO.out o3)
      clear o3 CC0
      go_wp2_with fail
      refine (CKK.out _ (Old.alloc O3.out _)).mono ?_
      rintro e w4 ⟨v4, rfl, n4, o4⟩
      clear hmm
      obtain ⟨L, hL⟩ : ∃ L, Hid (l.length = L) := ⟨_, hide rfl⟩
      obtain ⟨A4, c4, rfl, q4, r4, k4⟩ := ints_far n4 (show (starts 1 l).length = L by rw [starts_length, hL.out])
      unfold maxLen at r4
      have K4 := hide k4
      have O4 := hide (Old.trans (Old.alloc O3.out _) o4)
      obtain ⟨bm, hbm⟩ : ∃ bm, Hid (w3.heap.size = bm) := ⟨_, hide rfl⟩
      have M4 := hide (show TM Tryz.prog 9 w4 bm 0 (h.kind = 7) (memM (l.take 0)) by rw [← hbm.out]; exact (TM.made w3 _ _ _).old o4)
      have hbw := hide (show w.heap.size ≤ bm by rw [← hbm.out]; exact O3.out.size)
      have hbl := hide (show bm < (w3.alloc (.map #[] 0)).heap.size by rw [← hbm.out]; simp)
      have hLt : L < t.length := by
       have h1 := len_flats l
       have h2 := congrArg List.length HMY.out.1.2.2
       rw [flat_mk, List.length_cons] at h2
       rw [hL.out] at h1
       omega
      have hlo := hide (show ∀ b, (w3.alloc (.map #[] 0)).heap.size ≤ b → bm ≠ b from fun b hb e => by have := hbl.out; omega)
      rw [hbm.out]
      clear n4 o4 k4 CKK hbm
      obtain ⟨wq, hwq⟩ : ∃ x, x = wr := ⟨_, rfl⟩
      subst hwq
      go_wp2_with fail
      go_loopw [44] (fun iv wr => ∃ k : Nat, iv = .int .i64 k ∧ k ≤ L ∧ Hid (TM Tryz.prog 9 wr bm k (h.kind = 7) (memM (l.take k))) ∧ Hid (Chg (fun n => n = bm) w4 wr)) (fun iv _ => L - (intOf iv).toNat)
      case atStart => exact ⟨0, rfl, by omega, M4, hide (Chg.refl _ _)⟩
      case round =>
       obtain ⟨k2, rfl, hk2, HM, HG⟩ := hrel
       have HOW := hide (show Old w wr from Below.trans O4.out (HG.out.below O4.out.size (fun n hn e => by have := hbw.out; omega)))
       by_cases hlt2 : k2 < L
       · have hli2 : (k2 : Int) < (L : Int) := by omega
         have hkl : k2 < l.length := by rw [hL.out]; exact hlt2
         obtain ⟨jk, hjk⟩ : ∃ jk, Hid (l[k2] = jk) := ⟨_, hide rfl⟩
         have hsplit : l = l.take k2 ++ jk :: l.drop (k2 + 1) := by rw [← hjk.out, ← List.drop_eq_getElem_cons hkl, List.take_append_drop]
         have htlen : (l.take k2).length = k2 := by simp; omega
         obtain ⟨p, hp⟩ : ∃ p, Hid (0 + 1 + (J.flats (l.take k2)).length = p) := ⟨_, hide rfl⟩
         obtain ⟨b4, f4, rfl, hb4, hs4, kc⟩ := K4.out.resolve_left (by omega)
         have ck := kc k2 p (by
          have := starts_at (a := 0 + 1) (l1 := l.take k2) (l2 := l.drop (k2 + 1)) (j := jk)
          rw [← hsplit, htlen, hp.out] at this
          exact this)
         have ckr := (World.cell?_of_block (a := ⟨b4, f4 + k2, none⟩) (HG.out.block b4 hs4 (fun e => hlo.out b4 hb4 e.symm))).trans ck
         have htd : t.drop p = jk.flat ++ J.flats (l.drop (k2 + 1)) := by
          rw [← hp.out]
          exact kid_drop (h := h) (by rw [← hsplit]; exact HMY.out.1.2.2)
         obtain ⟨hpt, htx⟩ := head_flat htd
         have hpi : (p : Int) < (t.length : Int) := by omega
         obtain ⟨b', f', e', y0, y1, y2, y3, y4⟩ := nodes_cells HN.out (List.getElem?_eq_getElem hpt)
         obtain ⟨rfl, rfl⟩ : b5 = b' ∧ f5 = f' := by
          injection e' with e'
          injection e' with e1 e2
          exact ⟨e1, e2⟩
         rw [htx] at y0 y1 y2 y3 y4
         simp only at y0 y1 y2 y3 y4
         have hks := kid_key_size HTX.out HMY.out (show jk ∈ l by rw [hsplit]; simp)
         have HMN := hide (fun (h7 : h.kind = 7) => mem_next HMY.out hkl h7)
         rw [hjk.out] at HMN
         obtain ⟨⟨jkd, jky, jn, js⟩, jl⟩ := jk
         simp only [J.hd] at y0 y1 y2 y3 y4 hks
         obtain ⟨Z, hZ⟩ : ∃ Z, Hid ((J.mk ⟨jkd, jky, jn, js⟩ jl).flat.length = Z) := ⟨_, hide rfl⟩
         rw [hZ.out] at y4 HMN
         have z0 := HOW.out.cell y0
         have z1 := HOW.out.cell y1
         have z2 := HOW.out.cell y2
         have z3 := HOW.out.cell y3
         have z4 := HOW.out.cell y4
         obtain ⟨w9, hrun, M9, G9⟩ := (HM.out.old (Old.drew (Old.refl wr))).put undS Tryz.underlying79 (by unfold maxLen; omega) (s := jky) hks (Nv ⟨jkd, jky, jn, js⟩ Z) (fun h7 => (HMN.out h7).1)
         have M9' := hide (M9.congr fun h7 => (HMN.out h7).2)
         have G9' := hide (show Chg (fun n => n = bm) w4 w9 from Chg.trans (Z := fun n => n = bm) HG.out (Chg.trans (Z := fun n => n = bm) (Chg.of_old (X := fun n => n = bm) (Old.drew (Old.refl wr))) (Chg.of_grown G9) (fun _ _ e => e) (fun _ _ e => e)) (fun _ _ e => e) (fun _ _ e => e))
         have hkk := hjk
         clear y0 y1 y2 y3 y4 htx ck kc htd hsplit htlen M9 G9 HMN e'
         unfold Nv at hrun
         simp only at hrun
         go_upto_region 16 with fail
         go_region
         go_wp2_with fail
         go_roundw
         case rel => exact ⟨k2 + 1, by go_num, by omega, M9', G9'⟩
         case measure => simp [intOf]; omega
       · have hkL : k2 = L := by omega
         have HM5 := hide (show TM Tryz.prog 9 wr bm L (h.kind = 7) (memM l) by
          have := HM.out
          rwa [hkL, ← hL.out, List.take_length, hL.out] at this)
         have yk := HOW.out.cell Y0.out
         have hli2 : ¬ (k2 : Int) < (L : Int) := by omega
         clear hkL HM hlt2
         by_cases h7 : h.kind = 7
         · have h7n : (h.kind != 7) = false := by simp [h7]
           have HLN := hide (fun ty => HM5.out.len h7 Tryz.underlying79 ty)
           have HLK := hide (fun w' (o : Old wr w') (s : ByteArray) (hs : s.size ≤ maxLen) => (HM5.out.old o).look h7 undS Tryz.underlying79 (zero_node w') hs)
           have HLO := hide (fun w' (o : Old wr w') (s : ByteArray) (hs : s.size ≤ maxLen) => (HM5.out.old o).look_ok h7 undS Tryz.underlying79 (zero_node w') hs)
           have H7 := hide h7
           have hln0 := HLN.out
           clear h7
           obtain ⟨K, hK⟩ : ∃ K, Hid (h.kind = K) := ⟨_, hide rfl⟩
           rw [hK.out] at yk h7n
           by_cases hlen : L = cols.length
           · have hln : ((L : Int) != (cols.length : Int)) = false := by simp [hlen]
             have HRR := hide (RowRest.of H7.out (by rw [hL.out]; exact hlen) HCS.out)
             clear HCS hlen q4 r4
             obtain ⟨w5, hw5⟩ : ∃ x, x = wr := ⟨_, rfl⟩
             subst hw5
             go_wp2_with fail
             clear hln0
             go_loopw [73] (fun iv wr => ∃ k : Nat, iv = .int .i64 k ∧ k ≤ cols.length ∧ Hid (∀ i, i < k → (hi : i < cols.length) → findM l cols[i].name ≠ none) ∧ Hid (Old w5 wr)) (fun iv _ => cols.length - (intOf iv).toNat)
             case atStart => exact ⟨0, rfl, by omega, hide (fun i h => by omega), hide (Old.refl _)⟩
             case round =>
              obtain ⟨k3, rfl, hk3, HF, HO3⟩ := hrel
              have HOW3 := hide (Old.trans HOW.out HO3.out)
              by_cases hlt3 : k3 < cols.length
              · have hli3 : (k3 : Int) < (cols.length : Int) := by omega
                obtain ⟨b1, o1, rfl, hc1⟩ := HC.out.resolve_left (by omega)
                obtain ⟨e0, e1, e2, e3, e4, e5, e6⟩ := (hc1 k3 hlt3).old HOW3.out
                obtain ⟨N, hN⟩ : ∃ N, Hid (cols[k3].name = N) := ⟨_, hide rfl⟩
                have hNs : N.size ≤ maxLen := by rw [← hN.out]; exact HNM.out _ (List.getElem_mem hlt3)
                have hlk := fun o => HLO.out (wr.alloc o) (Old.alloc HO3.out o) N hNs
                have HMS := hide (fun (hf : findM l N = none) => HRR.out.miss k3 hlt3 (by rw [hN.out]; exact hf))
                have HFN := hide (show ∀ j, findM l N = some j → ∀ i, i < k3 + 1 → (hi : i < cols.length) → findM l cols[i].name ≠ none from fun j hj i hi hic => by
                 rcases Nat.lt_or_ge i k3 with h' | h'
                 · exact HF.out i h' hic
                 · obtain rfl : i = k3 := by omega
                   rw [hN.out, hj]
                   simp)
                rw [hN.out] at e1
                generalize cols[k3] = x at e0 e2 e3 e4 e5 e6
                clear hc1
                unfold memM at hlk
                cases hfm : findM l N with
                | none =>
                  rw [hfm] at hlk
                  simp only [Option.map_none, Option.getD_none, Option.isSome_none] at hlk
                  have HE := hide (HMS.out hfm)
                  clear HMS HFN hfm
                  go_wp2_with fail
                  go_ret2
                  exact ⟨_, by rw [HE.out.2]; rfl, by rw [HE.out.1]; exact SlT.nil_ _, Old.alloc (Old.alloc HOW3.out _) _⟩
                | some j =>
                  rw [hfm] at hlk
                  simp only [Option.map_some, Option.getD_some, Option.isSome_some] at hlk
                  have HF2 := hide (HFN.out j hfm)
                  clear HMS HFN hfm
                  go_wp2_with fail
                  go_roundw
                  case rel => exact ⟨k3 + 1, by go_num, by omega, HF2, hide (Old.alloc (Old.alloc HO3.out _) _)⟩
                  case measure => simp [intOf]; omega
              · have HALL := hide (show ∀ i, (hi : i < cols.length) → findM l cols[i].name ≠ none from fun i hi => HF.out i (by omega) hi)
                have hli3 : ¬ (k3 : Int) < (cols.length : Int) := by omega
                clear HF
                obtain ⟨wv, hwv⟩ : ∃ x, x = wr := ⟨_, rfl⟩
                subst hwv
                go_wp2_with fail
                go_loopw [16, 89] (fun ov iv wr => ∃ (k : Nat) (r : List Cell), iv = .int .i64 k ∧ k ≤ cols.length ∧ Hid (takenAll (cols.take k) l = some r) ∧ Hid (CellsOwn wv.heap.size wr ov r) ∧ Hid (Old wv wr)) (fun _ iv _ => cols.length - (intOf iv).toNat)
                case atStart => exact ⟨0, [], rfl, by omega, hide rfl, hide (World.ownsRow_nil _ _ _ _), hide (Old.refl _)⟩
                case round =>
                 obtain ⟨k4, r, rfl, hk4, HTK, HRO, HO4⟩ := hrel
                 have HOW4 := hide (Old.trans HOW3.out HO4.out)
                 by_cases hlt4 : k4 < cols.length
                 · have hli4 : (k4 : Int) < (cols.length : Int) := by omega
                   obtain ⟨b1, o1, rfl, hc1⟩ := HC.out.resolve_left (by omega)
                   obtain ⟨e0, e1, e2, e3, e4, e5, e6⟩ := (hc1 k4 hlt4).old HOW4.out
                   have HNX := hide (takenAll_next hlt4 HTK.out)
                   have HNO := hide (fun (h : takenAll (cols.take (k4 + 1)) l = none) => takenAll_none h)
                   have HKX := HKM.out k4 hlt4
                   have hNs := HNM.out _ (List.getElem_mem hlt4)
                   obtain ⟨j, hj⟩ := Option.ne_none_iff_exists'.1 (HALL.out k4 hlt4)
                   have HRL := hide (takenAll_len HTK.out)
                   have hlk := fun o => HLK.out (wr.alloc o) (Old.alloc (Old.trans HO3.out HO4.out) o) cols[k4].name hNs
                   unfold takenM at HNX
                   unfold memM at hlk
                   rw [hj] at HNX hlk
                   simp only [Option.map_some, Option.getD_some] at hlk
                   generalize cols[k4] = x at *
                   simp only [Option.bind_some] at HNX
                   have CTZ := hide (fun w' (o : Old wr w') => CT.out x.kind x.null j.hd (j.flat.length : Int) HKX (kid_hd HMY.out (find_mem hj)) (kid_fit hf HMY.out (find_mem hj)).2 w' (Old.trans HOW4.out o))
                   clear hj hc1
                   unfold TakenP at CTZ
                   cases hk6 : takenC vU x.kind x.null j.hd with
                   | none =>
                     rw [hk6] at HNX CTZ
                     have HE := hide (HRR.out.bad HALL.out (HNO.out (by rw [HNX.out]; rfl)))
                     clear hk6
                     go_wp2_with fail
                     refine (CTZ.out _ (Old.alloc (Old.refl _) _)).mono ?_
                     rintro e w7 ⟨c, rfl, _, o7⟩
                     have O7 := hide (Old.trans HOW4.out (Old.trans (Old.alloc (Old.refl _) _) o7))
                     clear o7
                     go_wp2_with fail
                     go_ret2
                     exact ⟨_, by rw [HE.out.2]; rfl, by rw [HE.out.1]; exact SlT.nil_ _, Old.alloc O7.out _⟩
                   | some c =>
                     rw [hk6] at HNX CTZ
                     have HNX2 := hide (show takenAll (cols.take (k4 + 1)) l = some (r ++ [c]) from HNX.out)
                     have HLN2 := hide (show r.length + [c].length ≤ 4194304 by rw [HRL.out]; simp; omega)
                     clear hk6
                     go_wp2_with fail
                     refine (CTZ.out _ (Old.alloc (Old.refl _) _)).mono ?_
                     rintro e w7 ⟨c', rfl, hcc, o7⟩
                     obtain rfl := hcc c rfl
                     have O7 := hide (Old.trans (Old.alloc (Old.refl _) _) o7)
                     have RO7 := hide (own_old HRO.out O7.out)
                     clear o7 hcc
                     unfold Cl
                     go_upto_region 34 with fail
                     obtain ⟨W8, hW8⟩ : ∃ W8, W8 = (w7.alloc (.cells #[.bool c'.null, .int .i64 c'.n, .string c'.s] 38)) := ⟨_, rfl⟩
                     have HB8 := hide (show CBox W8 w7.heap.size c' by rw [hW8]; exact heap_alloc_new _ _)
                     have O8 := hide (show Old w7 W8 by rw [hW8]; exact Old.alloc (Old.refl _) _)
                     rw [← hW8]
                     clear hW8
                     obtain ⟨d0, d1, d2⟩ := HB8.out.cells
                     generalize w7.heap.size = p at *
                     have hsz8 := Nat.le_trans (Old.trans HO4.out O7.out).size (O8.out.alloc (.cells #[.bool c'.null, .int .i64 c'.n, .string c'.s] 38)).size
                     go_wp2_with (at_builtin; refine wpList_plain rfl (fun K' hK' => ?_); refine step_push_row _ _ _ rfl wv.heap.size _ r rfl (own_old RO7.out (Old.alloc O8.out _)) _ [c'] rfl (one_row (by go_simp) (by go_simp) (by go_simp) (by omega) (by unfold maxLen; omega)) HLN2.out hsz8 ?_; intro v9 w9 own9 kept9; refine hK' _ _ ?_; clear hK')
                     have O9 := hide (show Old wv w9 from Below.trans (Old.trans (Old.trans HO4.out O7.out) (Old.alloc O8.out _)) kept9.low)
                     have OW9 := hide own9
                     clear own9 kept9
                     go_roundw
                     case rel => exact ⟨k4 + 1, r ++ [c'], by go_num, by omega, HNX2, OW9, O9⟩
                     case measure => simp [intOf]; omega
                 · have hli4 : ¬ (k4 : Int) < (cols.length : Int) := by omega
                   have HE := hide (HRR.out.ok r HALL.out (by
                    have := HTK.out
                    rwa [List.take_of_length_le (by omega)] at this))
                   obtain ⟨A9, c9, rfl, _⟩ := SlT.of_own HRO.out
                   have HRT2 := hide (SlT.mono (SlT.of_own HRO.out) HOW3.out.size)
                   go_wp2_with fail
                   go_ret2
                   exact ⟨_, by rw [HE.out.2]; rfl, by rw [HE.out.1]; exact HRT2.out, HOW4.out⟩
           · have hln : ((L : Int) != (cols.length : Int)) = true := by simp; omega
             have HO1 : Hid (out = [] ∧ er = 200) := hide (by
              rcases HCS.out with ⟨_, h1, h2⟩ | ⟨_, h1, _⟩
              · exact ⟨h1, h2⟩
              · exact absurd (hL.out.symm.trans h1) hlen)
             clear HCS hlen
             go_wp2_with fail
             go_ret2
             exact ⟨_, by rw [HO1.out.2]; rfl, by rw [HO1.out.1]; exact SlT.nil_ _, HOW.out⟩
         · have h7n : (h.kind != 7) = true := by simp [h7]
           have HO1 : Hid (out = [] ∧ er = 200) := hide (by
            rcases HCS.out with ⟨_, h1, h2⟩ | ⟨h1, _⟩
            · exact ⟨h1, h2⟩
            · exact absurd h1 h7)
           clear HCS h7 HM5
           generalize h.kind = K at yk h7n
           go_wp2_with fail
           go_ret2
           exact ⟨_, by rw [HO1.out.2]; rfl, by rw [HO1.out.1]; exact SlT.nil_ _, HOW.out⟩
    · have hne : (chkT t != 0) = true := by simp [h0]
      have HO1 : Hid (out = [] ∧ er = chkT t) := hide (by
       rcases HRT.out with ⟨_, h1, h2⟩ | ⟨h, l, hm, _⟩
       · exact ⟨h1, h2⟩
       · exact absurd (chkT_may hm) h0)
      clear h0
      go_wp2_with fail
      refine (CC.out _ HO.out).mono ?_
      rintro e w3 ⟨rfl, o3⟩
      have O3 := hide (Old.trans HO.out o3)
      clear o3
      go_wp2_with fail
      go_ret2
      exact ⟨_, by rw [HO1.out.2]; rfl, by rw [HO1.out.1]; exact SlT.nil_ _, O3.out⟩
end Go.Proofs.YthlfljmfggmfdaaGreatDoor
