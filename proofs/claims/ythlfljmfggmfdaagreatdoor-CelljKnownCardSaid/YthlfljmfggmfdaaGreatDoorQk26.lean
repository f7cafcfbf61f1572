/-  -/
import Derived.Test.YthlfljmfggmfdaaGreatDoorQk24
import Derived.Test.YthlfljmfggmfdaaGreatDoorQk21
import Derived.Test.YthlfljmfggmfdaaGreatDoorQk25
import Derived.Deep.RegionHeld3
import Derived.Test.YthlfljmfggmfdaaGreatDoorProg
import Derived.Shelf.Strings.SlTrimAscii
/-! ###  -/
namespace Go.Proofs.YthlfljmfggmfdaaGreatDoor
open Go.RowKit
def mayTo (cols : List Col) (k : Nat) : Bool := namedB cols && (cols.take k).all fun c => mayK c.kind
theorem mayTo_next {cols : List Col} {k : Nat} (h : k < cols.length) : mayTo cols (k + 1) = (mayTo cols k && mayK cols[k].kind) := by
 unfold mayTo
 rw [List.take_succ_eq_append_getElem h, List.all_append]
 simp [Bool.and_assoc]
theorem mayTo_all (cols : List Col) : mayTo cols cols.length = true ↔ namedB cols = true ∧ ∀ c ∈ cols, mayK c.kind = true := by
 unfold mayTo
 rw [List.take_length, Bool.and_eq_true, List.all_eq_true]
def NdFit (t : List Nd) : Prop := ∀ x ∈ t, (-9223372036854775808 ≤ x.n ∧ x.n ≤ 9223372036854775807) ∧ x.s.size ≤ 1073741824
theorem flats_has : ∀ {l : List J} {j : J}, j ∈ l → (⟨j.hd.kind, j.hd.key, j.hd.n, j.hd.s, j.flat.length⟩ : Nd) ∈ J.flats l
 | [], _, h => by cases h
 | i :: l, j, h => by
   rw [J.flats, List.mem_append]
   rcases List.mem_cons.1 h with rfl | h
   · left
     cases j with
     | mk h k => simp [J.flat, J.hd]
   · exact .inr (flats_has h)
theorem kid_fit {t : List Nd} {h : Hd} {l : List J} (hf : NdFit t) (hm : May t (.mk h l)) {j : J} (hj : j ∈ l) : (-9223372036854775808 ≤ j.hd.n ∧ j.hd.n ≤ 9223372036854775807) ∧ j.hd.s.size ≤ 1073741824 :=
 hf ⟨j.hd.kind, j.hd.key, j.hd.n, j.hd.s, j.flat.length⟩ (by rw [hm.1.2.2, flat_mk]; exact List.mem_cons_of_mem _ (flats_has hj))
theorem oks_memR {V : ByteArray → Bool} : ∀ {l : List J} {j : J}, J.Oks V l → j ∈ l → J.Ok V j
 | i :: l, j, h, hj => by
   rw [J.Oks] at h
   rcases List.mem_cons.1 hj with rfl | hj
   · exact h.1
   · exact oks_memR h.2 hj
theorem ok_hd {j : J} (h : J.Ok vU j) : HdOk j.hd := by
 obtain ⟨hd, l⟩ := j
 rw [J.Ok] at h
 rcases h with ⟨h, _⟩ | ⟨h6, h, _⟩ | ⟨h7, h, _⟩
 · exact .inl h
 · exact .inr ⟨.inl h6, h⟩
 · exact .inr ⟨.inr h7, h⟩
theorem kid_hd {t : List Nd} {h : Hd} {l : List J} (hm : May t (.mk h l)) {j : J} (hj : j ∈ l) : HdOk j.hd := by
 have hok := hm.1.1
 rw [J.Ok] at hok
 rcases hok with ⟨_, h2⟩ | ⟨_, _, h2, _⟩ | ⟨_, _, h2, _⟩
 · rw [h2] at hj; cases hj
 · exact ok_hd (oks_memR h2 hj)
 · exact ok_hd (oks_memR h2 hj)
theorem find_mem {l : List J} {k : ByteArray} {j : J} (h : findM l k = some j) : j ∈ l := List.mem_of_find?_eq_some h
theorem take_key_taken {k : Int} {nl : Bool} (h : Hd) (key : ByteArray) : takenC vU k nl ⟨h.kind, key, h.n, h.s⟩ = takenC vU k nl h := rfl
theorem unkey_root (j : J) : j.unkey.flat[0]? = some ⟨j.hd.kind, none_, j.hd.n, j.hd.s, j.flat.length⟩ := by
 cases j with
 | mk h l => simp [J.unkey, J.flat, J.hd]
theorem hdOk_key {h : Hd} (k : ByteArray) (ho : HdOk h) : HdOk ⟨h.kind, k, h.n, h.s⟩ := ho
abbrev CellsOwn (base : Nat) (w : World) (v : Value) (r : List Cell) : Prop := w.ownsRow base 38 3 v r.length (rowVals r)
abbrev CellsT (lo : Nat) (w : World) (v : Value) (r : List Cell) : Prop := SlT 38 lo w v r.length (rowVals r)
def NewRowE (w0 : World) (r : List Cell) (n : Int) (e : Ending) (w' : World) : Prop := ∃ v, e = .returned (.tuple #[v, .int .i64 n]) ∧ CellsT w0.heap.size w' v r ∧ Old w0 w'
structure RowRest (cols : List Col) (l : List J) (out : List Cell) (er : Int) : Prop where
 miss : ∀ i, (h : i < cols.length) → findM l cols[i].name = none → out = [] ∧ er = 200
 bad : (∀ i, (h : i < cols.length) → findM l cols[i].name ≠ none) → takenAll cols l = none → out = [] ∧ er = 90
 ok : ∀ r, (∀ i, (h : i < cols.length) → findM l cols[i].name ≠ none) → takenAll cols l = some r → out = r ∧ er = 0
theorem all_at {cols : List Col} {P : Col → Prop} (h : ∀ i, (h : i < cols.length) → P cols[i]) : ∀ c ∈ cols, P c := by
 intro c hc
 obtain ⟨i, hi, rfl⟩ := List.mem_iff_getElem.1 hc
 exact h i hi
theorem RowRest.of {cols : List Col} {h : Hd} {l : List J} {out : List Cell} {er : Int} (h7 : h.kind = 7) (hl : l.length = cols.length)
 (hc : ((h.kind ≠ 7 ∨ l.length ≠ cols.length ∨ ∃ c ∈ cols, findM l c.name = none) ∧ out = [] ∧ er = 200) ∨ (h.kind = 7 ∧ l.length = cols.length ∧ (∀ c ∈ cols, findM l c.name ≠ none) ∧ ((takenAll cols l = none ∧ out = [] ∧ er = 90) ∨ (takenAll cols l = some out ∧ er = 0)))) : RowRest cols l out er := by
 rcases hc with ⟨h1 | h1 | ⟨c, hc, h1⟩, h2, h3⟩ | ⟨_, _, h1, h2⟩
 · exact absurd h7 h1
 · exact absurd hl h1
 · refine ⟨fun i hi _ => ⟨h2, h3⟩, fun hh _ => ?_, fun r hh _ => ?_⟩
   · exact absurd h1 (all_at (P := fun c => findM l c.name ≠ none) hh c hc)
   · exact absurd h1 (all_at (P := fun c => findM l c.name ≠ none) hh c hc)
 · refine ⟨fun i hi hn => absurd hn (h1 _ (List.getElem_mem hi)), fun _ hn => ?_, fun r _ hs => ?_⟩
   · rcases h2 with ⟨_, h⟩ | ⟨h, _⟩
     · exact h
     · rw [hn] at h; cases h
   · rcases h2 with ⟨h, _⟩ | ⟨h, h0⟩
     · rw [hs] at h; cases h
     · rw [hs] at h; injection h with h; exact ⟨h.symm, h0⟩
theorem zero_then {w a : World} (o : Old (w.alloc (.cells #[.bool false, .int .i64 0, .string ⟨#[]⟩] 38)).drew a) : CBox a w.heap.size ⟨false, 0, ⟨#[]⟩⟩ :=
 (o.block _ (by show w.heap.size < (w.alloc _).heap.size; simp)).trans (heap_alloc_new w _)
set_option maxRecDepth 100000 in
set_option maxHeartbeats 4000000 in
theorem rrow_run (cv v : Value) (cols : List Col) (t : List Nd) (out : List Cell) (er : Int) (w : World) (hc : ColsIs w cv cols) (ht : NodesIs w v t) (hx : TextsOk t) (hf : NdFit t) (hz : cols.length ≤ 4000) (hr : RowOf cols t out er) :
 Calls Tryz.prog 19 #[cv, v] w (NewRowE w out er) := by
 have CN := hide (fun w' (o : Old w w') => rnamed_run cv cols w' (hc.old o))
 have CM := hide (fun (k : Int) (nl : Bool) w' => rmay_run k nl w')
 have CC := hide (fun w' (o : Old w w') => ref_Check v t w' (ht.old o) hx)
 have CK := hide (fun ks (hk : kidsT t ks) w' (o : Old w w') => ref_Kids v t ks w' (ht.old o) hx hk)
 have CG := hide (fun key ps is (hg : GetT t key ps is) w' (o : Old w w') => ref_Get v t key ps is w' (ht.old o) hx hg)
 have HN := hide ht
 unfold Ret at CN CM
 obtain ⟨B, cb, rfl, hlb, hmb, hc'⟩ := cols_form hc
 obtain ⟨A, ca, rfl, hla, hma, _⟩ := ht.nodes
 unfold maxLen at hma hmb
 have HC := hide hc'
 have HR := hide hr
 clear hc hc' ht hx hr
 have HM0 := hide (show mayTo cols 0 = namedB cols by simp [mayTo])
 have HML := hide (mayTo_all cols)
 go_enter Tryz.func19, Tryz.ntmps19
 go_wp2_with fail
 refine (CN.out _ (Old.refl _)).mono ?_
 rintro e w1 ⟨rfl, o1⟩
 have O1 := hide o1
 clear o1 CN
 rw [← HM0.out]
 go_wp2_with fail
 go_loopw [6, 7] (fun mv iv wr => ∃ k : Nat, iv = .int .i64 k ∧ k ≤ cols.length ∧ mv = .bool (mayTo cols k) ∧ Hid (Old w wr)) (fun _ iv _ => cols.length - (intOf iv).toNat)
 case atStart => exact ⟨0, rfl, by omega, rfl, O1⟩
 case round =>
  obtain ⟨k, rfl, hk, rfl, HO⟩ := hrel
  by_cases hlt : k < cols.length
  · have hli : (k : Int) < (cols.length : Int) := by omega
    obtain ⟨b1, o1, rfl, hc1⟩ := HC.out.resolve_left (by omega)
    obtain ⟨e0, e1, e2, e3, e4, e5, e6⟩ := (hc1 k hlt).old HO.out
    have HX := hide (mayTo_next hlt)
    generalize cols[k] = x at *
    cases hmk : mayTo cols k
    · rw [hmk] at HX
      have HXF := hide (show mayTo cols (k + 1) = false by rw [HX.out]; rfl)
      clear HX hmk
      go_wp2_with fail
      go_roundw
      case rel => exact ⟨k + 1, by go_num, by omega, by rw [HXF.out], HO⟩
      case measure => simp [intOf]; omega
    · rw [hmk] at HX
      have HXF := hide (show mayTo cols (k + 1) = mayK x.kind by rw [HX.out]; rfl)
      clear HX hmk
      go_wp2_with fail
      refine (CM.out _ _ _).mono ?_
      rintro e w2 ⟨rfl, o2⟩
      have O2 := hide (Old.trans HO.out o2)
      clear o2
      go_wp2_with fail
      go_roundw
      case rel => exact ⟨k + 1, by go_num, by omega, by rw [HXF.out], O2⟩
      case measure => simp [intOf]; omega
  · obtain rfl : k = cols.length := by omega
    rcases HR.out with ⟨hb, ho1, ho2⟩ | ⟨hb1, hb2, hrest⟩
    · have hF : mayTo cols cols.length = false := by
       cases h : mayTo cols cols.length
       · rfl
       · obtain ⟨h1, h2⟩ := HML.out.1 h
         rcases hb with h3 | ⟨c, hcm, h3⟩
         · rw [h1] at h3; cases h3
         · rw [h2 c hcm] at h3; cases h3
      have HO1 := hide (show out = [] ∧ er = 2 from ⟨ho1, ho2⟩)
      clear hb ho1 ho2
      rw [hF]
      go_wp2_with fail
      go_ret2
      exact ⟨_, by rw [HO1.out.2]; rfl, by rw [HO1.out.1]; exact SlT.nil_ _, HO.out⟩
    · have hF : mayTo cols cols.length = true := HML.out.2 ⟨hb1, hb2⟩
      have HKM := hide hb2
      have HRT := hide hrest
      clear hb1 hb2 hrest
      rw [hF]
      clear hF
      go_wp2_with fail
      refine (CC.out _ HO.out).mono ?_
      rintro e w3 ⟨rfl, o3⟩
      have O3 := hide (Old.trans HO.out o3)
      clear o3
      by_cases h0 : chkT t = 0
      · obtain ⟨h, l, hm, hcase⟩ : ∃ h l, May t (.mk h l) ∧ (((h.kind ≠ 7 ∨ l.length ≠ cols.length ∨ ∃ c ∈ cols, findM l c.name = none) ∧ out = [] ∧ er = 200) ∨ (h.kind = 7 ∧ l.length = cols.length ∧ (∀ c ∈ cols, findM l c.name ≠ none) ∧ ((takenAll cols l = none ∧ out = [] ∧ er = 90) ∨ (takenAll cols l = some out ∧ er = 0)))) := by
         rcases HRT.out with ⟨h1, _⟩ | hh
         · exact absurd h0 h1
         · exact hh
        obtain ⟨b5, f5, rfl, y0, _, _, _, _⟩ := nodes_cells HN.out (root_at hm.1.2.2)
        simp only [Nat.zero_mul, Nat.add_zero] at y0
        have yk := O3.out.cell y0
        have HMY := hide hm
        have htl : (0 : Int) < (t.length : Int) := by
         have := congrArg List.length hm.1.2.2
         rw [flat_mk, List.length_cons] at this
         omega
        rw [h0]
        by_cases h7 : h.kind = 7
        · have h7n : (h.kind != 7) = false := by simp [h7]
          have H7 := hide h7
          have CKK := hide (CK.out _ (.inl ⟨h, l, hm, rfl⟩))
          have HCS := hide hcase
          clear hm hcase h7 h0 HRT CC
          generalize h.kind = K at yk h7n
          go_wp2_with fail
          refine (CKK.out _ O3.out).mono ?_
          rintro e w4 ⟨v4, rfl, n4, o4⟩
          obtain ⟨L, hL⟩ : ∃ L, Hid (l.length = L) := ⟨_, hide rfl⟩
          obtain ⟨A4, c4, rfl, q4, r4, _⟩ := ints_cell n4 (show (starts 1 l).length = L by rw [starts_length, hL.out])
          have O4 := hide (Old.trans O3.out o4)
          clear n4 o4 CKK yk y0
          by_cases hlen : L = cols.length
          · have hln : ((L : Int) != (cols.length : Int)) = false := by simp [hlen]
            have HRR := hide (RowRest.of H7.out (by rw [hL.out]; exact hlen) HCS.out)
            clear HCS hlen q4 r4
            go_wp2_with fail
            go_loopw [9] (fun iv wz => ∃ k : Nat, iv = .int .i64 k ∧ k ≤ cols.length ∧ Hid (∀ i, i < k → (hi : i < cols.length) → findM l cols[i].name ≠ none) ∧ Hid (Old w wz)) (fun iv _ => cols.length - (intOf iv).toNat)
            case atStart => exact ⟨0, rfl, by omega, hide (fun i h => by omega), O4⟩
            case round =>
             obtain ⟨k, rfl, hk, HF, HO2⟩ := hrel
             by_cases hlt2 : k < cols.length
             · have hli : (k : Int) < (cols.length : Int) := by omega
               obtain ⟨b1, o1, rfl, hc1⟩ := HC.out.resolve_left (by omega)
               obtain ⟨_, e1, _, _, _, _, _⟩ := (hc1 k hlt2).old HO2.out
               obtain ⟨N, hN⟩ : ∃ N, Hid (cols[k].name = N) := ⟨_, hide rfl⟩
               rw [hN.out] at e1
               cases hfm : findM l N with
               | none =>
                 have HE := hide (HRR.out.miss k hlt2 (by rw [hN.out]; exact hfm))
                 have CGN := hide (CG.out N [] false (.inr ⟨h, l, HMY.out, H7.out, .inl ⟨hfm, rfl, rfl⟩⟩))
                 clear hfm
                 go_wp2_with fail
                 refine (CGN.out _ HO2.out).mono ?_
                 rintro e w5 ⟨v5, rfl, n5, o5⟩
                 have O5 := hide (Old.trans HO2.out o5)
                 clear n5 o5
                 go_wp2_with fail
                 go_ret2
                 exact ⟨_, by rw [HE.out.2]; rfl, by rw [HE.out.1]; exact SlT.nil_ _, O5.out⟩
               | some j =>
                 have CGN := hide (CG.out N j.unkey.flat true (.inr ⟨h, l, HMY.out, H7.out, .inr ⟨j, hfm, rfl, rfl⟩⟩))
                 have HF2 := hide (show ∀ i, i < k + 1 → (hi : i < cols.length) → findM l cols[i].name ≠ none from fun i hi hic => by
                  rcases Nat.lt_or_ge i k with h' | h'
                  · exact HF.out i h' hic
                  · obtain rfl : i = k := by omega
                    rw [hN.out, hfm]
                    simp)
                 clear hfm
                 go_wp2_with fail
                 refine (CGN.out _ HO2.out).mono ?_
                 rintro e w5 ⟨v5, rfl, n5, o5⟩
                 have O5 := hide (Old.trans HO2.out o5)
                 clear n5 o5
                 go_wp2_with fail
                 go_roundw
                 case rel => exact ⟨k + 1, by go_num, by omega, HF2, O5⟩
                 case measure => simp [intOf]; omega
             · have HALL := hide (show ∀ i, (hi : i < cols.length) → findM l cols[i].name ≠ none from fun i hi => HF.out i (by omega) hi)
               have hli : ¬ (k : Int) < (cols.length : Int) := by omega
               clear HF
               obtain ⟨wv, hwv⟩ : ∃ x, x = wr := ⟨_, rfl⟩
               subst hwv
               go_wp2_with fail
               go_loopw [12, 13] (fun ov iv wz => ∃ (k : Nat) (r : List Cell), iv = .int .i64 k ∧ k ≤ cols.length ∧ Hid (takenAll (cols.take k) l = some r) ∧ Hid (CellsOwn wv.heap.size wz ov r) ∧ Hid (Old wv wz)) (fun _ iv _ => cols.length - (intOf iv).toNat)
               case atStart => exact ⟨0, [], rfl, by omega, hide rfl, hide (World.ownsRow_nil _ _ _ _), hide (Old.refl _)⟩
               case round =>
                obtain ⟨k3, r, rfl, hk3, HTK, HRO, HO3⟩ := hrel
                have HO3W := hide (Old.trans HO2.out HO3.out)
                by_cases hlt3 : k3 < cols.length
                · have hli3 : (k3 : Int) < (cols.length : Int) := by omega
                  obtain ⟨b1, o1, rfl, hc1⟩ := HC.out.resolve_left (by omega)
                  obtain ⟨_, e1, e2, e3, _, _, _⟩ := hc1 k3 hlt3
                  have HNX := hide (takenAll_next hlt3 HTK.out)
                  have HNO := hide (fun (h : takenAll (cols.take (k3 + 1)) l = none) => takenAll_none h)
                  have HKX := HKM.out _ (List.getElem_mem hlt3)
                  obtain ⟨j, hj⟩ := Option.ne_none_iff_exists'.1 (HALL.out k3 hlt3)
                  have HRL := hide (takenAll_len HTK.out)
                  unfold takenM at HNX
                  rw [hj] at HNX
                  generalize cols[k3] = x at *
                  simp only [Option.bind_some] at HNX
                  have HJH := hide (kid_hd HMY.out (find_mem hj))
                  have HJF := hide (kid_fit hf HMY.out (find_mem hj))
                  have CGN := hide (CG.out x.name j.unkey.flat true (.inr ⟨h, l, HMY.out, H7.out, .inr ⟨j, hj, rfl, rfl⟩⟩))
                  have HUR := hide (unkey_root j)
                  have CT := hide (fun z w' => rtaken_run x.kind x.null ⟨j.hd.kind, none_, j.hd.n, j.hd.s⟩ z HKX (hdOk_key none_ HJH.out) HJF.out.2 HJF.out.1 w')
                  rw [take_key_taken] at CT
                  clear hj HJH HJF hc1
                  obtain ⟨⟨jk, jy, jn, js⟩, jl⟩ := j
                  simp only [J.hd] at CT HUR HNX
                  obtain ⟨M, hM⟩ : ∃ M, Hid ((J.mk ⟨jk, jy, jn, js⟩ jl).unkey.flat.length = M + 1) := ⟨(J.mk ⟨jk, jy, jn, js⟩ jl).unkey.flat.length - 1, hide (by simp only [J.unkey, J.flat, List.length_cons]; omega)⟩
                  obtain ⟨Z, hZ⟩ : ∃ Z, Hid ((J.mk ⟨jk, jy, jn, js⟩ jl).flat.length = Z) := ⟨_, hide rfl⟩
                  rw [hZ.out] at HUR
                  obtain ⟨P, hP⟩ : ∃ P, Hid ((J.mk ⟨jk, jy, jn, js⟩ jl).unkey.flat = P) := ⟨_, hide rfl⟩
                  rw [hP.out] at CGN HUR hM
                  have CTZ := hide (fun w' => CT.out (Z : Int) w')
                  have EN := HO3W.out.cell e1
                  have E2 := hide e2
                  have E3 := hide e3
                  clear CT e1 e2 e3
                  go_wp2_with fail
                  refine (CGN.out _ HO3W.out).mono ?_
                  rintro e w6 ⟨v6, rfl, n6, o6⟩
                  obtain ⟨A6, c6, rfl, q6, r6⟩ := nodes_form n6 hM.out
                  unfold maxLen at r6
                  obtain ⟨b6, f6, rfl, y0, y1, y2, y3, y4⟩ := nodes_cells (SlT.sl n6) HUR.out
                  simp only [Nat.zero_mul, Nat.add_zero] at y0 y1 y2 y3 y4
                  have O6 := hide (Old.trans HO3.out o6)
                  have O6W := hide (Old.trans HO3W.out o6)
                  have RO6 := hide (own_old HRO.out o6)
                  clear n6 o6 CGN EN
                  have g2 := O6W.out.cell E2.out
                  have g3 := O6W.out.cell E3.out
                  have z0 : ∀ w', Old w6 w' → w'.cell? ⟨b6, f6, none⟩ = some (.int .i64 jk) := fun w' o => o.cell y0
                  have z1 : ∀ w', Old w6 w' → w'.cell? ⟨b6, f6 + 1, none⟩ = some (.string none_) := fun w' o => o.cell y1
                  have z2 : ∀ w', Old w6 w' → w'.cell? ⟨b6, f6 + 2, none⟩ = some (.int .i64 jn) := fun w' o => o.cell y2
                  have z3 : ∀ w', Old w6 w' → w'.cell? ⟨b6, f6 + 3, none⟩ = some (.string js) := fun w' o => o.cell y3
                  have z4 : ∀ w', Old w6 w' → w'.cell? ⟨b6, f6 + 4, none⟩ = some (.int .i64 Z) := fun w' o => o.cell y4
                  have x2 : ∀ w', Old w6 w' → w'.cell? ⟨b1, o1 + k3 * 7 + 2, none⟩ = some (.int .i64 x.kind) := fun w' o => o.cell g2
                  have x3 : ∀ w', Old w6 w' → w'.cell? ⟨b1, o1 + k3 * 7 + 2 + 1, none⟩ = some (.bool x.null) := fun w' o => o.cell g3
                  have hM0 : (0 : Int) < ((M + 1 : Nat) : Int) := by omega
                  clear y0 y1 y2 y3 y4 g2 g3
                  have ho : Old w6 w6 := Old.refl _
                  go_wp2_with fail
                  cases hk6 : takenC vU x.kind x.null ⟨jk, jy, jn, js⟩ with
                  | none =>
                    rw [hk6] at HNX CTZ
                    have HE := hide (HRR.out.bad HALL.out (HNO.out (by rw [HNX.out]; rfl)))
                    unfold Ret saidV at CTZ
                    simp only at CTZ
                    go_region_held3 (fun w' => Old w6 w')
                     (first | assumption | (exact Old.drew ho) | (exact Old.drew (Old.alloc ho _)) | (exact Old.trans (Old.drew ho) o7) | (exact Old.trans (Old.drew (Old.alloc ho _)) o7) | (exact Old.alloc (Old.trans (Old.drew ho) o7) _) | (exact Old.setCell (Old.setCell (Old.setCell (Old.trans (Old.drew (Old.alloc ho _)) o7) (Nat.le_refl _) _) (Nat.le_refl _) _) (Nat.le_refl _) _) | (fail "none"))
                     (first
                       | (go_at_call 50; (with_reducible refine (CTZ.out _).mono ?_); rintro e w7 ⟨rfl, o7⟩; (first | (have hz7 := zero_then o7; obtain ⟨q0, q1, q2⟩ := hz7.cells; have qf := hz7.free) | skip))
                       | (fail "none"))
                    all_goals
                     go_wp2_with fail
                     go_ret2
                     exact ⟨_, by rw [HE.out.2]; rfl, by rw [HE.out.1]; exact SlT.nil_ _, Old.trans O6W.out (by assumption)⟩
                  | some c =>
                    rw [hk6] at HNX CTZ
                    have HNX2 := hide (show takenAll (cols.take (k3 + 1)) l = some (r ++ [c]) from HNX.out)
                    have HLN := hide (show r.length + [c].length ≤ 4194304 by rw [HRL.out]; simp; omega)
                    unfold Ret saidV Cl at CTZ
                    simp only at CTZ
                    go_region_held3 (fun w' => Old w6 w')
                     (first | assumption | (exact Old.drew ho) | (exact Old.drew (Old.alloc ho _)) | (exact Old.trans (Old.drew ho) o7) | (exact Old.trans (Old.drew (Old.alloc ho _)) o7) | (exact Old.alloc (Old.trans (Old.drew ho) o7) _) | (exact Old.setCell (Old.setCell (Old.setCell (Old.trans (Old.drew (Old.alloc ho _)) o7) (Nat.le_refl _) _) (Nat.le_refl _) _) (Nat.le_refl _) _) | (fail "none"))
                     (first
                       | (go_at_call 50; (with_reducible refine (CTZ.out _).mono ?_); rintro e w7 ⟨rfl, o7⟩; (first | (have hz7 := zero_then o7; obtain ⟨q0, q1, q2⟩ := hz7.cells; have qf := hz7.free) | skip))
                       | (fail "none"))
                    · obtain ⟨W8, hW8⟩ : ∃ W8, W8 = (w7.alloc (.cells #[.bool c.null, .int .i64 c.n, .string c.s] 38)) := ⟨_, rfl⟩
                      have HB8 := hide (show CBox W8 w7.heap.size c by rw [hW8]; exact heap_alloc_new _ _)
                      have O8 := hide (show Old w6 W8 by rw [hW8]; assumption)
                      rw [← hW8]
                      clear hW8
                      obtain ⟨d0, d1, d2⟩ := HB8.out.cells
                      generalize w7.heap.size = p at *
                      go_wp2_with (at_builtin; refine wpList_plain rfl (fun K' hK' => ?_); refine step_push_row _ _ _ rfl wv.heap.size _ r rfl (own_old RO6.out (Old.alloc O8.out _)) _ [c] rfl (one_row (by go_simp) (by go_simp) (by go_simp) (by omega) (by unfold maxLen; omega)) HLN.out (Nat.le_trans O6.out.size (O8.out.alloc _).size) ?_; intro v9 w9 own9 kept9; refine hK' _ _ ?_; clear hK')
                      have O9 := hide (show Old wv w9 from Below.trans (Old.trans O6.out (Old.alloc O8.out _)) kept9.low)
                      have OW9 := hide own9
                      clear own9 kept9
                      go_roundw
                      case rel => exact ⟨k3 + 1, r ++ [c], by go_num, by omega, HNX2, OW9, O9⟩
                      case measure => simp [intOf]; omega
                    · obtain ⟨W8, hW8⟩ : ∃ W8, W8 = (((w7.setCell ⟨w6.heap.size, 0, none⟩ (.bool c.null)).setCell ⟨w6.heap.size, 1, none⟩ (.int .i64 c.n)).setCell ⟨w6.heap.size, 2, none⟩ (.string c.s)) := ⟨_, rfl⟩
                      have HB8 := hide (show CBox W8 w6.heap.size c by rw [hW8]; exact set3_heap hz7 _ _ _)
                      have O8 := hide (show Old w6 W8 by rw [hW8]; assumption)
                      rw [← hW8]
                      clear hW8
                      obtain ⟨d0, d1, d2⟩ := HB8.out.cells
                      generalize w6.heap.size = p at *
                      go_wp2_with (at_builtin; refine wpList_plain rfl (fun K' hK' => ?_); refine step_push_row _ _ _ rfl wv.heap.size _ r rfl (own_old RO6.out (Old.alloc O8.out _)) _ [c] rfl (one_row (by go_simp) (by go_simp) (by go_simp) (by omega) (by unfold maxLen; omega)) HLN.out (Nat.le_trans O6.out.size (O8.out.alloc _).size) ?_; intro v9 w9 own9 kept9; refine hK' _ _ ?_; clear hK')
                      have O9 := hide (show Old wv w9 from Below.trans (Old.trans O6.out (Old.alloc O8.out _)) kept9.low)
                      have OW9 := hide own9
                      clear own9 kept9
                      go_roundw
                      case rel => exact ⟨k3 + 1, r ++ [c], by go_num, by omega, HNX2, OW9, O9⟩
                      case measure => simp [intOf]; omega
                · have hli3 : ¬ (k3 : Int) < (cols.length : Int) := by omega
                  have HE := hide (HRR.out.ok r HALL.out (by
                   have := HTK.out
                   rwa [List.take_of_length_le (by omega)] at this))
                  obtain ⟨A9, c9, rfl, _⟩ := SlT.of_own HRO.out
                  have HRT2 := hide (SlT.mono (SlT.of_own HRO.out) HO2.out.size)
                  go_wp2_with fail
                  go_ret2
                  exact ⟨_, by rw [HE.out.2]; rfl, by rw [HE.out.1]; exact HRT2.out, HO3W.out⟩
          · have hln : ((L : Int) != (cols.length : Int)) = true := by simp; omega
            have HO1 : Hid (out = [] ∧ er = 200) := hide (by
             rcases HCS.out with ⟨_, h1, h2⟩ | ⟨_, h1, _⟩
             · exact ⟨h1, h2⟩
             · exact absurd (hL.out.symm.trans h1) hlen)
            clear HCS hlen
            go_wp2_with fail
            go_ret2
            exact ⟨_, by rw [HO1.out.2]; rfl, by rw [HO1.out.1]; exact SlT.nil_ _, O4.out⟩
        · have h7n : (h.kind != 7) = true := by simp [h7]
          have HO1 : Hid (out = [] ∧ er = 200) := hide (by
           rcases hcase with ⟨_, h1, h2⟩ | ⟨h1, _⟩
           · exact ⟨h1, h2⟩
           · exact absurd h1 h7)
          clear hm hcase h7 h0
          generalize h.kind = K at yk h7n
          go_wp2_with fail
          go_ret2
          exact ⟨_, by rw [HO1.out.2]; rfl, by rw [HO1.out.1]; exact SlT.nil_ _, O3.out⟩
      · have hne : (chkT t != 0) = true := by simp [h0]
        have HO1 : Hid (out = [] ∧ er = chkT t) := hide (by
         rcases HRT.out with ⟨_, h1, h2⟩ | ⟨h, l, hm, _⟩
         · exact ⟨h1, h2⟩
         · exact absurd (chkT_may hm) h0)
        clear h0
        go_wp2_with fail
        go_ret2
        exact ⟨_, by rw [HO1.out.2]; rfl, by rw [HO1.out.1]; exact SlT.nil_ _, O3.out⟩
end Go.Proofs.YthlfljmfggmfdaaGreatDoor

/-! ###  -/
namespace Go.Proofs
open Go.Shelf
def Tryz.lays160_ren : Go.Shelf.Ren := ⟨fun | 160 => 110 | 232 => 159 | 231 => 158 | 227 => 160 | 234 => 162 | 233 => 161 | 236 => 164 | 235 => 163 | 228 => 192 | 271 => 195 | 151 => 194 | 197 => 193 | 120 => 217 | 152 => 216 | 260 => 215 | 137 => 186 | 119 => 232 | 224 => 233 | 225 => 234 | 217 => 213 | 266 => 231 | n => n, fun | 9 => 9 | 4 => 4 | 3 => 3 | 5 => 5 | 117 => 200 | 116 => 199 | 0 => 0 | 124 => 203 | 21 => 21 | 105 => 236 | 46 => 155 | 119 => 179 | 139 => 182 | 138 => 181 | n => n, fun | 3 => 0 | 4 => 1 | n => n⟩
theorem Tryz.lays160 : Go.Proofs.Lays.n160 Tryz.prog Tryz.lays160_ren := {
 mixed := by kernel_rfl
 f119 := Tryz.func232.trans (congrArg some (by kernel_rfl))
 f120 := Tryz.func217.trans (congrArg some (by kernel_rfl))
 f137 := Tryz.func186.trans (congrArg some (by kernel_rfl))
 f151 := Tryz.func194.trans (congrArg some (by kernel_rfl))
 f152 := Tryz.func216.trans (congrArg some (by kernel_rfl))
 f160 := Tryz.func110.trans (congrArg some (by kernel_rfl))
 f197 := Tryz.func193.trans (congrArg some (by kernel_rfl))
 f217 := Tryz.func213.trans (congrArg some (by kernel_rfl))
 f224 := Tryz.func233.trans (congrArg some (by kernel_rfl))
 f225 := Tryz.func234.trans (congrArg some (by kernel_rfl))
 f227 := Tryz.func160.trans (congrArg some (by kernel_rfl))
 f228 := Tryz.func192.trans (congrArg some (by kernel_rfl))
 f231 := Tryz.func158.trans (congrArg some (by kernel_rfl))
 f232 := Tryz.func159.trans (congrArg some (by kernel_rfl))
 f233 := Tryz.func161.trans (congrArg some (by kernel_rfl))
 f234 := Tryz.func162.trans (congrArg some (by kernel_rfl))
 f235 := Tryz.func163.trans (congrArg some (by kernel_rfl))
 f236 := Tryz.func164.trans (congrArg some (by kernel_rfl))
 f260 := Tryz.func215.trans (congrArg some (by kernel_rfl))
 f266 := Tryz.func231.trans (congrArg some (by kernel_rfl))
 f271 := Tryz.func195.trans (congrArg some (by kernel_rfl))
 t0 := Tryz.underlying0
 a0 := Tryz.isAgg0
 z0 := Tryz.sizeOf0
 v0 := Tryz.zeroValue0
 t3 := Tryz.underlying3
 a3 := Tryz.isAgg3
 z3 := Tryz.sizeOf3
 v3 := Tryz.zeroValue3
 t4 := Tryz.underlying4
 a4 := Tryz.isAgg4
 z4 := Tryz.sizeOf4
 v4 := Tryz.zeroValue4
 t5 := Tryz.underlying5
 a5 := Tryz.isAgg5
 z5 := Tryz.sizeOf5
 v5 := Tryz.zeroValue5
 t9 := Tryz.underlying9
 a9 := Tryz.isAgg9
 z9 := Tryz.sizeOf9
 v9 := Tryz.zeroValue9
 t21 := Tryz.underlying21
 a21 := Tryz.isAgg21
 z21 := Tryz.sizeOf21
 v21 := Tryz.zeroValue21
 t46 := Tryz.underlying155
 a46 := Tryz.isAgg155
 z46 := Tryz.sizeOf155
 v46 := Tryz.zeroValue155
 t105 := Tryz.underlying236
 a105 := Tryz.isAgg236
 z105 := Tryz.sizeOf236
 v105 := Tryz.zeroValue236
 t116 := Tryz.underlying199
 a116 := Tryz.isAgg199
 z116 := Tryz.sizeOf199
 t117 := Tryz.underlying200
 a117 := Tryz.isAgg200
 z117 := Tryz.sizeOf200
 v117 := Tryz.zeroValue200
 t119 := Tryz.underlying179
 a119 := Tryz.isAgg179
 z119 := Tryz.sizeOf179
 t124 := Tryz.underlying203
 a124 := Tryz.isAgg203
 z124 := Tryz.sizeOf203
 v124 := Tryz.zeroValue203
 t138 := Tryz.underlying181
 a138 := Tryz.isAgg181
 z138 := Tryz.sizeOf181
 v138 := Tryz.zeroValue181
 t139 := Tryz.underlying182
 a139 := Tryz.isAgg182
 z139 := Tryz.sizeOf182
 v139 := Tryz.zeroValue182
 g3 := by kernel_rfl
 g4 := by kernel_rfl }
open Go.RowKit in
theorem Tryz.strings_Trim_laid (s cutset : ByteArray) (w : World) (hs : s.size ≤ 9223372036854775807) (hcs : cutset.size < 4294967281) (hascii : ∀ (j : Nat) b, cutset.data.toList[j]? = some b → b.toNat < 128) :
 Calls Tryz.prog 110 #[.string s, .string cutset] w fun e w' => e = .returned (.string ⟨(Lib.trimS s.data.toList cutset.data.toList).toArray⟩) ∧ Below w.heap.size w w' := Any.strings_Trim_laid Tryz.lays160 (by kernel_rfl) s cutset w hs hcs hascii
end Go.Proofs
