/-  -/
import Derived.Test.YthlfljmfggmfdaaGreatDoorQf39
import Derived.Test.YthlfljmfggmfdaaGreatDoorQf34
import Derived.Test.YthlfljmfggmfdaaGreatDoorQf17
import Derived.Test.YthlfljmfggmfdaaGreatDoorQf11
import Derived.StillTailTactics
import Derived.Deep.DeepCutAuto
import Derived.Test.YthlfljmfggmfdaaGreatDoorQf08
import Derived.Shelf.SlSortCmp.NoneTotal
/-! ###  -/
namespace Go.Proofs.YthlfljmfggmfdaaGreatDoor
open Go.RowKit
theorem step_push_text2 {o : Oper} {a : Act} {K : Act → World → Prop} {Q : Exit → Act → World → Prop} (w : World) (s x : Operand)
 (ho : o.op = .call { callee := .builtin .append, args := #[s, x], argTypes := #[52, 52] })
 (base : Nat) (v u : Value) (l m : List ByteArray) (hs : a.eval s = v) (hown : TextsOwn base w v l) (hother : TextsOwn base w u m) (hap : TwoRows v u) (g cap : Nat) (k : ByteArray) (hx : a.eval x = .slice (some ⟨g, 0, none⟩) 1 cap) (h0 : w.cell? ⟨g, 0, none⟩ = some (.string k))
 (hlen : l.length + 1 ≤ 4194304) (hbase : base ≤ w.heap.size)
 (h : ∀ v' w', TextsOwn base w' v' (l ++ [k]) → TextsOwn base w' u m → TwoRows v' u → Kept 9 base w w' → K (a.put o.dst v') w') : o.wp Tryz.prog a w K Q := by
 obtain ⟨i0, hi, hz0, hz1, hz2⟩ := info_parts textInfo
 have hone : ∀ y ∈ [Value.string k], y.oneCell' = true := by
  intro y hy
  simp at hy
  subst hy
  rfl
 obtain ⟨v', w', hr, own', hg, _, hblk⟩ := run_append_own_at (P := Tryz.prog) (w := w) base 52 o.type 9 i0 (.string ⟨#[]⟩) 1 16 Tryz.underlying52 hi hz0 hz1 hz2 rfl (by omega) v l.length (l.map Value.string) hown ⟨g, 0, none⟩ 1 cap [.string k] rfl (fun j y hy => by
  match j, hy with
  | 0, hy => simp at hy; subst hy; exact h0
  | j + 1, hy => simp at hy) hone (by unfold maxLen; omega) (by omega) hbase
 have kp := Kept.of_grown hown hg hbase
 unfold Oper.wp execOp
 simp only [ho, resolve, invoke, builtin, Sem.run_bind, Sem.run_pure, Result.andThen_ok, List.map_toArray, List.map_cons, List.map_nil, hs, hx, hr]
 refine h v' w' ?_ (own_else hother hg hap.symm) ?_ kp
 · unfold TextsOwn
   rw [List.length_append, List.map_append]
   exact own'
 · intro g' hg' hu
   rcases hblk with hb | hb
   · exact hap g' (hb.symm.trans hg') hu
   · rw [hb] at hg'
     injection hg' with hg'
     have := (hother.lt g' hu).2
     omega
theorem step_push_texts {o : Oper} {a : Act} {K : Act → World → Prop} {Q : Exit → Act → World → Prop} (w : World) (s x : Operand)
 (ho : o.op = .call { callee := .builtin .append, args := #[s, x], argTypes := #[52, 52] })
 (base : Nat) (v : Value) (l : List ByteArray) (hs : a.eval s = v) (hown : TextsOwn base w v l) (xv : Value) (q : List ByteArray) (hev : a.eval x = xv) (hx : TextsIs w xv q)
 (hlen : l.length + q.length ≤ 4194304) (hbase : base ≤ w.heap.size)
 (h : ∀ v' w', TextsOwn base w' v' (l ++ q) → Kept 9 base w w' → K (a.put o.dst v') w') : o.wp Tryz.prog a w K Q := by
 obtain ⟨i0, hi, hz0, hz1, hz2⟩ := info_parts textInfo
 refine wp_append_sl w s x 52 ho base 9 i0 (.string ⟨#[]⟩) 1 16 Tryz.underlying52 hi hz0 hz1 hz2 rfl (by omega) v l.length (l.map Value.string) hs hown
  xv q.length (q.map Value.string) hev hx (by rw [List.length_map]; omega) (fun u hu => by
   obtain ⟨y, _, rfl⟩ := List.mem_map.1 hu
   rfl) (by unfold maxLen; omega) (by omega) hbase ?_
 intro v' w' own' hg
 refine h v' w' ?_ (Kept.of_grown hown hg hbase)
 unfold TextsOwn
 rw [List.length_append, List.map_append]
 exact own'
def PartsZ (base lo : Nat) (w : World) (v : Value) (ps : List (List Nd)) : Prop :=
 ∃ vs : List Value, vs.length = ps.length ∧ w.ownsRow base 24 1 v ps.length vs ∧ ∀ i, (h : i < ps.length) → (h' : i < vs.length) → NodesT lo w vs[i] ps[i]
theorem PartsZ.old {base lo : Nat} {w w' : World} {v : Value} {ps : List (List Nd)} (h : PartsZ base lo w v ps) (k : Old w w') : PartsZ base lo w' v ps := by
 obtain ⟨vs, h1, h2, h3⟩ := h
 exact ⟨vs, h1, own_old h2 k, fun i hi hi' => (h3 i hi hi').old k⟩
theorem PartsZ.is {base lo : Nat} {w : World} {v : Value} {ps : List (List Nd)} (h : PartsZ base lo w v ps) : PartsIs w v ps := by
 obtain ⟨vs, h1, h2, h3⟩ := h
 exact ⟨vs, h1, (SlT.of_own h2).sl, fun i hi hi' => (h3 i hi hi').sl⟩
theorem PartsZ.of {base lo : Nat} {w : World} {v : Value} {ps : List (List Nd)} (h : PartsOwn base w v ps) (hl : lo ≤ base) : PartsZ base lo w v ps := by
 obtain ⟨vs, h1, h2, h3⟩ := h
 exact ⟨vs, h1, h2, fun i hi hi' => SlT.mono (h3 i hi hi') hl⟩
set_option maxRecDepth 100000 in
theorem step_push_parts {o : Oper} {a : Act} {K : Act → World → Prop} {Q : Exit → Act → World → Prop} (w : World) (s x : Operand)
 (ho : o.op = .call { callee := .builtin .append, args := #[s, x], argTypes := #[60, 60] })
 (base base' lo : Nat) (v : Value) (ps : List (List Nd)) (hs : a.eval s = v) (hown : PartsZ base lo w v ps) (xv : Value) (qs : List (List Nd)) (hev : a.eval x = xv) (hx : PartsZ base' lo w xv qs)
 (hlen : ps.length + qs.length ≤ 4194304) (hbase : base ≤ w.heap.size)
 (h : ∀ v' w', PartsZ base lo w' v' (ps ++ qs) → Kept 24 base w w' → K (a.put o.dst v') w') : o.wp Tryz.prog a w K Q := by
 obtain ⟨i0, hi, hz0, hz1, hz2⟩ := info_parts partInfo
 obtain ⟨vs, g1, g2, g3⟩ := hown
 obtain ⟨us, k1, k2, k3⟩ := hx
 refine wp_append_sl w s x 60 ho base 24 i0 (.slice none 0 0) 1 24 Tryz.underlying60 hi hz0 hz1 hz2 rfl (by omega) v ps.length vs hs g2
  xv qs.length us hev (SlT.of_own k2).sl (by omega) (fun u hu => by
   obtain ⟨i, hi, rfl⟩ := List.mem_iff_getElem.1 hu
   obtain ⟨A, c, e, _⟩ := k3 i (by omega) hi
   rw [e]
   rfl) (by unfold maxLen; omega) (by omega) hbase ?_
 intro v' w' own' hg
 have k := Kept.of_grown g2 hg hbase
 refine h v' w' ⟨vs ++ us, by simp [g1, k1], ?_, fun i hi hi' => ?_⟩ k
 · rw [List.length_append]; exact own'
 · rcases Nat.lt_or_ge i ps.length with hl | hl
   · rw [List.getElem_append_left (by omega), List.getElem_append_left hl]
     exact k.slT (g3 i hl (by omega)) (by decide)
   · rw [List.length_append] at hi hi'
     have e1 : (ps ++ qs)[i]'(by rw [List.length_append]; exact hi) = qs[i - ps.length] := List.getElem_append_right hl
     have e2 : (vs ++ us)[i]'(by rw [List.length_append]; exact hi') = us[i - ps.length]'(by omega) := by
      rw [List.getElem_append_right (by omega)]
      congr 1
      omega
     rw [e1, e2]
     exact k.slT (k3 _ (by omega) (by omega)) (by decide)
theorem take_nextM {α : Type} {l : List α} {k : Nat} (h : k < l.length) : l.take (k + 1) = l.take k ++ [l[k]] := List.take_succ_eq_append_getElem h
theorem starts_leaf : ∀ (l : List J) (a : Nat), (∀ j ∈ l, j.kids = []) → (starts a l).length = l.length ∧ ∀ i, i < l.length → (starts a l)[i]? = some (a + i)
 | [], _, _ => ⟨rfl, fun i h => absurd h (by simp)⟩
 | j :: l, a, h => by
   have hj : j.flat.length = 1 := by
    obtain ⟨hd, k⟩ := j
    have : k = [] := h (.mk hd k) (by simp)
    subst this
    simp [J.flat, J.flats]
   obtain ⟨h1, h2⟩ := starts_leaf l (a + 1) (fun i hi => h i (by simp [hi]))
   rw [starts, hj]
   refine ⟨by simp [h1], fun i hi => ?_⟩
   match i with
   | 0 => rfl
   | i + 1 =>
     rw [List.getElem?_cons_succ, h2 i (by simpa using hi)]
     congr 1
     omega
theorem part_leaf {cols : List Col} {r : List Cell} (hm : May (objC cols r).flat (objC cols r)) {i : Nat} (h1 : i < cols.length) (h2 : i < r.length) : PartT (objC cols r).flat ((1 + i : Nat) : Int) (leafC cols[i].kind r[i]) := by
 have hi : i < (memsC cols r).length := by simp [memsC]; omega
 have e : memsC cols r = (memsC cols r).take i ++ (memsC cols r)[i] :: (memsC cols r).drop (i + 1) := by rw [← List.drop_eq_getElem_cons hi, List.take_append_drop]
 have hm2 : May (objC cols r).flat (.mk ⟨7, none_, 0, none_⟩ ((memsC cols r).take i ++ (memsC cols r)[i] :: (memsC cols r).drop (i + 1))) := by
  rw [← e]
  exact hm
 have h := part_kid hm2
 have hl := (flats_leaf ((memsC cols r).take i) (fun j hj => memsC_kids _ _ j (List.mem_of_mem_take hj))).1
 rw [hl, List.length_take, Nat.min_eq_left (by omega)] at h
 have e2 : ((memsC cols r)[i]).unkey.flat = leafC cols[i].kind r[i] := by
  simp [memsC, memC, J.unkey, J.flat, J.flats, leafC, leafT]
 rw [e2] at h
 simpa using h
set_option maxRecDepth 100000 in
set_option maxHeartbeats 4000000 in
theorem miss_run (u : Value) (L : List Trip) (at_ : Int) (w : World) (h : TripsIs w u L) (hE : Errs w) (hT : Tabs w) (hP : PowTab w) :
 Calls Tryz.prog 6 #[.agg #[u], .int .i64 at_] w fun e w' => e = .returned (.bool true) ∧ Old w w' := by
 have HT := hide hT
 have CM := hide (fun (w' : World) (o : Old w w') => made_run u L w' (Sl.old h o))
 have CW := hide (fun (w' : World) (o : Old w w') => works19_run w' (hE.old o) (hT.old o) (hP.old o))
 have OK := hide (madeR L)
 unfold MadeT at CM
 generalize mCols L (mLen L) = cols at *
 generalize mRow L (mLen L) = r at *
 obtain ⟨t, ht⟩ : ∃ t, Hid ((objC cols r).flat = t) := ⟨_, hide rfl⟩
 have HMAY := hide (show May t (objC cols r) by rw [← ht.out]; exact objC_may OK.out.named OK.out.row (by have := OK.out.few; omega))
 have HTX := hide (show TextsOk t by rw [← ht.out]; exact objC_texts OK.out.named OK.out.row)
 have HRT := hide (show RowT cols r t 0 by rw [← ht.out]; exact RowT_fine OK.out.named OK.out.row (by have := OK.out.few; omega))
 obtain ⟨M, hM⟩ : ∃ M, Hid (cols.length = M) := ⟨_, hide rfl⟩
 have hM20 : M ≤ 20 := by rw [← hM.out]; exact OK.out.few
 have hRL := hide (show r.length = M by rw [← hM.out]; exact (rowErr_zero.1 OK.out.row).1.symm)
 clear h hT hE hP
 unfold Ret at CW
 go_enter Tryz.func6, Tryz.ntmps6
 go_wp2_with fail
 refine (CM.out _ (Old.alloc (Old.refl _) _)).mono ?_
 rintro e w1 ⟨cv, rv, rfl, c1, r1, o1⟩
 have O1 := hide (Old.trans (Old.alloc (Old.refl _) _) o1)
 have C1 := hide c1.sl
 have R1 := hide r1.sl
 clear o1 c1 r1
 go_wp2_with fail
 refine (tapeR_run cv rv cols r t 0 w1 C1.out R1.out OK.out.names (by have := OK.out.few; omega) (HT.out.old O1.out) HRT.out).mono ?_
 rintro e w2 ⟨tv, rfl, t2, o2⟩
 have O2 := hide (Old.trans O1.out o2)
 have C2 := hide (Sl.old C1.out o2)
 have R2 := hide (Sl.old R1.out o2)
 have T2 := hide t2.sl
 clear t2 o2
 go_wp2_with fail
 refine (Kids_run tv t (starts 1 (memsC cols r)) w2 T2.out HTX.out (HT.out.old O2.out) (.inl ⟨_, _, HMAY.out, rfl⟩)).mono ?_
 rintro e w3 ⟨lv, rfl, l3, o3⟩
 obtain ⟨KL, KA⟩ := starts_leaf (memsC cols r) 1 (memsC_kids cols r)
 have hml : (memsC cols r).length = M := by rw [memsC_len (by rw [hM.out, hRL.out]), hM.out]
 rw [hml] at KL KA
 obtain ⟨AL, cl, rfl, hLl, hLm, hLc⟩ := ints_cell l3 KL
 unfold maxLen at hLm
 have HLC := hide hLc
 have HKA := hide KA
 have O3 := hide (Old.trans O2.out o3)
 have C3 := hide (Sl.old C2.out o3)
 have T3 := hide (Sl.old T2.out o3)
 obtain ⟨AR, cr, rfl, hRl, hRm, _⟩ := R2.out.row
 unfold maxLen at hRm
 rw [hRL.out] at hRl
 simp only [hRL.out]
 obtain ⟨AC, cc, rfl, hCl, hCm, hCc⟩ := cols_form C3.out
 unfold maxLen at hCm
 have HCC := hide hCc
 have HCF := hide (show ColsIs w3 (.slice AC M cc) cols by rw [← hM.out]; exact C3.out)
 simp only [hM.out] at hCl ⊢
 clear l3 o3 KL KA hml hLc hCc C3
 obtain ⟨NM, hNM⟩ : ∃ NM, Hid (cols.map Col.name = NM) := ⟨_, hide rfl⟩
 obtain ⟨PT, hPT⟩ : ∃ PT, Hid (partsC cols r = PT) := ⟨_, hide rfl⟩
 have hNL := hide (show NM.length = M by rw [← hNM.out, List.length_map, hM.out])
 have hPL := hide (show PT.length = M by rw [← hPT.out, partsC_len (by rw [hM.out, hRL.out]), hM.out])
 obtain ⟨x, hx⟩ : ∃ x, Hid (brg at_ M = x) := ⟨_, hide rfl⟩
 have hxM : x < M ∨ M = 0 := by
  rcases Nat.eq_zero_or_pos M with h0 | h0
  · exact .inr h0
  · exact .inl (by rw [← hx.out]; exact brg_lt _ h0)
 go_wp2_with fail
 go_loopw [10, 11, 12, 13, 14] (fun kv ov pv av iv wr => ∃ k : Nat, iv = .int .i64 k ∧ k ≤ M ∧ Hid (TextsOwn w3.heap.size wr kv ((NM.take k).eraseIdx x)) ∧ Hid (TextsOwn w3.heap.size wr ov ((NM.take k).set x z9)) ∧ Hid (TwoRows kv ov) ∧ Hid (PartsOwn w3.heap.size wr pv ((PT.take k).eraseIdx x)) ∧ Hid (PartsOwn w3.heap.size wr av (PT.take k)) ∧ Hid (TwoRows pv av) ∧ Hid (Old w3 wr)) (fun _ _ _ _ iv _ => M - (intOf iv).toNat)
 case atStart => exact ⟨0, rfl, by omega, hide (own_nil _ _ _ _), hide (own_nil _ _ _ _), hide (by intro g hg; simp [Value.ownBlock] at hg), hide (PartsOwn.nil_ _ _), hide (PartsOwn.nil_ _ _), hide (by intro g hg; simp [Value.ownBlock] at hg), hide (Old.refl _)⟩
 case round =>
  obtain ⟨k, rfl, hk, HKO, HOO, HTW, HPO, HAO, HTP, HO⟩ := hrel
  by_cases hlt : k < M
  · have hli : (k : Int) < (M : Int) := by omega
    have hM0 : 0 < M := by omega
    have hkC : k < cols.length := by rw [hM.out]; exact hlt
    have hkR : k < r.length := by rw [hRL.out]; exact hlt
    obtain ⟨b1, f1, rfl, hc1⟩ := HCC.out.resolve_left (by rw [hM.out]; omega)
    have x1 := ((hc1 k hkC).old HO.out).2.1
    obtain ⟨b2, f2, rfl, hc2⟩ := HLC.out.resolve_left (by omega)
    have X3 : w3.cell? ⟨b2, f2 + k, none⟩ = some (.int .i64 ((1 + k : Nat) : Int)) := hc2 k _ (HKA.out k hlt)
    have hNk : NM[k]'(by rw [hNL.out]; exact hlt) = cols[k].name := by simp [← hNM.out]
    have hPk : PT[k]'(by rw [hPL.out]; exact hlt) = leafC cols[k].kind r[k] := by
     have := partsC_at hkC hkR (by rw [partsC_len (by rw [hM.out, hRL.out])]; exact hkC)
     simp only [hPT.out] at this
     exact this
    have HPT := hide (show PartT t ((1 + k : Nat) : Int) (leafC cols[k].kind r[k]) by
     have h9 := part_leaf (show May (objC cols r).flat (objC cols r) by rw [ht.out]; exact HMAY.out) hkC hkR
     rwa [ht.out] at h9)
    have HL1 := hide (less_next (l := NM) (i := x) (k := k) (by rw [hNL.out]; exact hlt))
    have HL2 := hide (less_next (l := PT) (i := x) (k := k) (by rw [hPL.out]; exact hlt))
    have HL3 := hide (set_next' (l := NM) (i := x) (k := k) (z := z9) (by rw [hNL.out]; exact hlt))
    have HL4 := hide (take_nextM (l := PT) (k := k) (by rw [hPL.out]; exact hlt))
    rw [hNk] at HL1 HL3
    rw [hPk] at HL2 HL4
    have hlf : (leafC cols[k].kind r[k]).length = 1 := rfl
    generalize cols[k].name = nm at *
    generalize leafC cols[k].kind r[k] = lf at *
    have HLF := hide hlf
    have CPT := hide (fun (w' : World) (o : Old w3 w') => part_run tv t ((1 + k : Nat) : Int) lf w' (T3.out.old o) HTX.out (HT.out.old (Old.trans O3.out o)) HPT.out)
    obtain ⟨q, hq⟩ : ∃ q : Nat, q = 1 + k := ⟨_, rfl⟩
    rw [← hq] at CPT X3
    have X3 := hide X3
    have hq1 : q ≤ 21 := by omega
    clear hc1 hc2 hNk hPk HPT hlf hq
    have l1 : ((NM.take k).eraseIdx x).length + 1 ≤ 4194304 := by have := List.length_eraseIdx_le (NM.take k) x; have h2 := List.length_take_le k NM; omega
    have l2 : ((PT.take k).eraseIdx x).length + 1 ≤ 4194304 := by have := List.length_eraseIdx_le (PT.take k) x; have h2 := List.length_take_le k PT; omega
    have l3 : ((NM.take k).set x z9).length + 1 ≤ 4194304 := by have h2 := List.length_take_le k NM; rw [List.length_set]; omega
    have l4 : (PT.take k).length + 1 ≤ 4194304 := by have h2 := List.length_take_le k PT; omega
    have BR := hide (bring_is at_ M wr hM0 (by omega))
    rw [hx.out] at BR
    clear hM0
    go_wp2_with fail
    refine BR.out.mono ?_
    rintro e w4 ⟨rfl, rfl⟩
    go_upto_if 66 with fail
    obtain ⟨nx, hnx⟩ : ∃ nx, Hid ((if x = k then z9 else nm) = nx) := ⟨_, hide rfl⟩
    go_cut [10, 12, 15] (fun kv pv nv wc => nv = .string nx ∧ Hid (TextsOwn w3.heap.size wc kv ((NM.take (k + 1)).eraseIdx x)) ∧ Hid (TextsOwn w3.heap.size wc u11 ((NM.take k).set x z9)) ∧ Hid (TwoRows kv u11) ∧ Hid (PartsOwn w3.heap.size wc pv ((PT.take (k + 1)).eraseIdx x)) ∧ Hid (PartsOwn w3.heap.size wc u13 (PT.take k)) ∧ Hid (TwoRows pv u13) ∧ Hid (Old w3 wc))
    case first =>
     by_cases hkx : x = k
     · have hne : ((k : Int) != (x : Int)) = false := by simp [hkx]
       have E1 := hide (show nx = z9 by rw [← hnx.out, if_pos hkx])
       have E2 := hide (HL1.out.1 hkx)
       have E3 := hide (HL2.out.1 hkx)
       clear hkx
       go_wp2_with fail
       go_meet
       exact ⟨by rw [E1.out]; rfl, hide (by rw [E2.out]; exact HKO.out), HOO, HTW, hide (by rw [E3.out]; exact HPO.out), HAO, HTP, HO⟩
     · have hne : ((k : Int) != (x : Int)) = true := by
        rw [bne_iff_ne]
        omega
       have E1 := hide (show nx = nm by rw [← hnx.out, if_neg hkx])
       have E2 := hide (HL1.out.2 hkx)
       have E3 := hide (HL2.out.2 hkx)
       clear hkx x1
       have HOA := hide (Old.alloc HO.out (.cells #[.string nm] 9))
       go_upto_region 14 with (at_builtin; refine wpList_plain rfl (fun K hK => ?_); refine step_push_text2 _ _ _ rfl w3.heap.size _ u11 _ _ rfl (own_old HKO.out (Old.alloc (Old.refl _) _)) (own_old HOO.out (Old.alloc (Old.refl _) _)) HTW.out _ _ nm rfl (by go_simp) l1 HOA.out.size ?_; intro v4 w4 own4 oth4 ap4 kept4; refine hK _ _ ?_; clear hK)
       have O4 := hide (kept4.old HOA.out (Nat.le_refl _))
       have K4 := hide own4
       have U4 := hide oth4
       have W4 := hide ap4
       have P4 := hide (PartsOwn.kept (HPO.out.old (Old.alloc (Old.refl _) _)) kept4 (by decide) (by decide))
       have A4 := hide (PartsOwn.kept (HAO.out.old (Old.alloc (Old.refl _) _)) kept4 (by decide) (by decide))
       have y2 := Old.cell O4.out X3.out
       clear own4 oth4 ap4 kept4
       go_wp2_with fail
       refine (CPT.out _ O4.out).mono ?_
       rintro e w5 ⟨v5, rfl, n5, o5⟩
       obtain ⟨A5, c5, rfl, q5, r5⟩ := nodes_form n5 HLF.out
       unfold maxLen at r5
       have N5 := hide (SlT.mono (SlT.old n5 (Old.alloc (Old.refl _) (.cells #[.slice A5 1 c5] 24))) O4.out.size)
       have OA := hide (Old.trans o5 (Old.alloc (Old.refl _) (.cells #[.slice A5 1 c5] 24)))
       have P5 := hide (P4.out.old OA.out)
       have A6 := hide (A4.out.old OA.out)
       have O5 := hide (Old.trans O4.out OA.out)
       clear n5 y2
       go_wp2_with (at_builtin; refine wpList_plain rfl (fun K hK => ?_); refine step_push_two _ _ _ rfl w3.heap.size _ u13 _ _ rfl P5.out A6.out HTP.out _ _ (.slice A5 1 c5) lf rfl (by go_simp) N5.out l2 O5.out.size ?_; intro v7 w7 own7 oth7 ap7 kept7; refine hK _ _ ?_; clear hK)
       go_meet
       exact ⟨by rw [E1.out], hide (by rw [E2.out]; exact Kept.own kept7 (own_old K4.out OA.out) (by decide)), hide (Kept.own kept7 (own_old U4.out OA.out) (by decide)), W4, hide (by rw [E3.out]; exact own7), hide oth7, hide ap7, hide (kept7.old O5.out (Nat.le_refl _))⟩
    obtain ⟨hnv, HKC, HOC, HTC, HPC, HAC, HTPC, HC⟩ := hcut
    subst hnv
    have y2 := Old.cell HC.out X3.out
    have HOA := hide (Old.alloc HC.out (.cells #[.string nx] 9))
    have HN4 := hide (show (NM.take (k + 1)).set x z9 = (NM.take k).set x z9 ++ [nx] by
     by_cases hkx : x = k
     · rw [HL3.out.1 hkx, ← hnx.out, if_pos hkx]
     · rw [HL3.out.2 hkx, ← hnx.out, if_neg hkx])
    clear HKO HOO HTW HPO HAO HTP HO
    go_upto_region 17 with (at_builtin; refine wpList_plain rfl (fun K hK => ?_); refine step_push_text2 _ _ _ rfl w3.heap.size _ _ _ _ rfl (own_old HOC.out (Old.alloc (Old.refl _) _)) (own_old HKC.out (Old.alloc (Old.refl _) _)) HTC.out.symm _ _ nx rfl (by go_simp) l3 HOA.out.size ?_; intro v4 w4 own4 oth4 ap4 kept4; refine hK _ _ ?_; clear hK)
    have O4 := hide (kept4.old HOA.out (Nat.le_refl _))
    have K4 := hide oth4
    have U4 := hide own4
    have W4 := hide ap4.symm
    have P4 := hide (PartsOwn.kept (HPC.out.old (Old.alloc (Old.refl _) _)) kept4 (by decide) (by decide))
    have A4 := hide (PartsOwn.kept (HAC.out.old (Old.alloc (Old.refl _) _)) kept4 (by decide) (by decide))
    have z2 := Old.cell O4.out X3.out
    clear own4 oth4 ap4 kept4 y2
    go_wp2_with fail
    refine (CPT.out _ O4.out).mono ?_
    rintro e w5 ⟨v5, rfl, n5, o5⟩
    obtain ⟨A5, c5, rfl, q5, r5⟩ := nodes_form n5 HLF.out
    unfold maxLen at r5
    have N5 := hide (SlT.mono (SlT.old n5 (Old.alloc (Old.refl _) (.cells #[.slice A5 1 c5] 24))) O4.out.size)
    have OA := hide (Old.trans o5 (Old.alloc (Old.refl _) (.cells #[.slice A5 1 c5] 24)))
    have P5 := hide (P4.out.old OA.out)
    have A6 := hide (A4.out.old OA.out)
    have O5 := hide (Old.trans O4.out OA.out)
    clear n5 z2
    go_wp2_with (at_builtin; refine wpList_plain rfl (fun K hK => ?_); refine step_push_two _ _ _ rfl w3.heap.size _ _ _ _ rfl A6.out P5.out HTPC.out.symm _ _ (.slice A5 1 c5) lf rfl (by go_simp) N5.out l4 O5.out.size ?_; intro v7 w7 own7 oth7 ap7 kept7; refine hK _ _ ?_; clear hK)
    go_roundw
    case rel => exact ⟨k + 1, by go_num, by omega, hide (Kept.own kept7 (own_old K4.out OA.out) (by decide)), hide (by rw [HN4.out]; exact Kept.own kept7 (own_old U4.out OA.out) (by decide)), W4, hide oth7, hide (by rw [HL4.out]; exact own7), hide ap7.symm, hide (kept7.old O5.out (Nat.le_refl _))⟩
    case measure => simp [intOf]; omega
  · have hli : ¬ (k : Int) < (M : Int) := by omega
    have hkk : k = M := by omega
    obtain ⟨ta, ea, hta, hea⟩ := miss_less OK.out (x := x) (by rw [hM.out]; exact hxM)
    obtain ⟨tb, htb⟩ := miss_more OK.out x
    obtain ⟨td, ed, htd, hed⟩ := miss_other OK.out (x := x) (by rw [hM.out]; exact hxM)
    rw [hNM.out, hPT.out] at hta htb htd
    have HTA := hide hta
    have HTB := hide htb
    have HTD := hide htd
    rw [hM.out] at hea hed
    have hn : NM.take k = NM := List.take_of_length_le (by rw [hNL.out]; omega)
    have hp : PT.take k = PT := List.take_of_length_le (by rw [hPL.out]; omega)
    rw [hn] at HKO HOO
    rw [hp] at HPO HAO
    clear hkk hta htb htd hn hp
    have HEA := hide hea
    have HED := hide hed
    clear hea hed
    go_wp2_with fail
    refine (obj_run _ _ _ _ ta 0 wr HKO.out.is HTA.out.keys HPO.out.is HTA.out.texts (HT.out.old (Old.trans O3.out HO.out)) HTA.out.obj).mono ?_
    rintro e w4 ⟨va, rfl, na, o4⟩
    have O4 := hide (Old.trans HO.out o4)
    have NA := hide na.sl
    have HK4 := hide (own_old HKO.out o4)
    have HO4 := hide (own_old HOO.out o4)
    have HP4 := hide (HPO.out.old o4)
    have HA4 := hide (HAO.out.old o4)
    clear na o4
    have L1 : ([] : List ByteArray).length + (NM.eraseIdx x).length ≤ 4194304 := by have := List.length_eraseIdx_le NM x; have := hNL.out; simp; omega
    have L2 : (NM.eraseIdx x).length + [z8, z9].length ≤ 4194304 := by have := List.length_eraseIdx_le NM x; have := hNL.out; simp; omega
    have L3 : ([] : List (List Nd)).length + (PT.eraseIdx x).length ≤ 4194304 := by have := List.length_eraseIdx_le PT x; have := hPL.out; simp; omega
    have L4 : (PT.eraseIdx x).length + [leafT 1 0 none_, leafT 1 0 none_].length ≤ 4194304 := by have := List.length_eraseIdx_le PT x; have := hPL.out; simp; omega
    have PZ := hide (PartsZ.of HP4.out (Nat.zero_le _))
    go_wp2_with (first
     | (at_builtin; refine wpList_plain rfl (fun K hK => ?_); refine step_push_texts _ _ _ rfl w4.heap.size _ [] rfl (World.ownsRow_lit w4 #[] 0 (Nat.le_refl _) (by unfold maxLen; omega) rfl) _ _ rfl (TextsOwn.is (own_old HK4.out (Old.alloc (Old.refl _) _))) L1 (by simp) ?_; intro v5 w5 own5 kept5; have O5 := hide (kept5.old (Old.alloc (Old.refl w4) _) (Nat.le_refl _)); refine hK _ _ ?_; clear hK)
     | (at_builtin; refine wpList_plain rfl (fun K hK => ?_); refine step_push_texts _ _ _ rfl w4.heap.size _ (NM.eraseIdx x) rfl (own_old own5 (Old.alloc (Old.refl _) _)) _ [z8, z9] rfl (texts_lit w5 [z8, z9] _ rfl) L2 (Old.alloc O5.out _).size ?_; intro v6 w6 own6 kept6; have O6 := hide (kept6.old (Old.alloc O5.out _) (Nat.le_refl _)); refine hK _ _ ?_; clear hK)
     | (at_builtin; refine wpList_plain rfl (fun K hK => ?_); refine step_push_parts _ _ _ rfl w4.heap.size w3.heap.size 0 _ [] rfl ⟨[], rfl, World.ownsRow_lit w6 #[] 0 O6.out.size (by unfold maxLen; omega) rfl, fun i hi => absurd hi (by simp)⟩ _ _ rfl (PZ.out.old (Old.alloc O6.out _)) L3 (Old.alloc O6.out _).size ?_; intro v7 w7 own7 kept7; have O7 := hide (kept7.old (Old.alloc O6.out _) (Nat.le_refl _)); refine hK _ _ ?_; clear hK))
    have K7 := hide (show TextsOwn w4.heap.size w7 v6 (NM.eraseIdx x ++ [z8, z9]) from Kept.own kept7 (own_old own6 (Old.alloc (Old.refl _) _)) (by decide))
    have P7 := hide (show PartsZ w4.heap.size 0 w7 v7 (PT.eraseIdx x) from own7)
    clear own5 own6 own7 kept5 kept6 kept7 O5 O6
    refine (null_run _).mono ?_
    rintro e w8 ⟨v8, rfl, n8, o8⟩
    obtain ⟨A8, c8, rfl, q8, r8⟩ := nodes_form (m := 1) n8 rfl
    have K8 := hide (own_old K7.out o8)
    have P8 := hide (P7.out.old o8)
    have O8 := hide (Old.trans O7.out o8)
    have N8 := hide (SlT.mono n8 (Nat.zero_le _))
    clear n8 o8
    go_wp2_with fail
    refine (null_run _).mono ?_
    rintro e w9 ⟨v9, rfl, n9, o9⟩
    obtain ⟨A9, c9, rfl, q9, r9⟩ := nodes_form (m := 1) n9 rfl
    have K9 := hide (own_old K8.out o9)
    have P9 := hide (P8.out.old o9)
    have O9 := hide (Old.trans O8.out o9)
    have N9 := hide (SlT.mono n9 (Nat.zero_le _))
    have N89 := hide (SlT.old N8.out o9)
    have SRC := hide (show PartsZ w9.heap.size 0 (w9.alloc (.cells #[.slice A8 1 c8, .slice A9 1 c9] 24)) (.slice (some ⟨w9.heap.size, 0, none⟩) 2 2) [leafT 1 0 none_, leafT 1 0 none_] from ⟨[.slice A8 1 c8, .slice A9 1 c9], rfl, World.ownsRow_lit w9 #[.slice A8 1 c8, .slice A9 1 c9] 2 (Nat.le_refl _) (by unfold maxLen; omega) rfl, fun i hi hi' => by
     match i, hi with
     | 0, _ => exact SlT.old N89.out (Old.alloc (Old.refl _) _)
     | 1, _ => exact SlT.old N9.out (Old.alloc (Old.refl _) _)⟩)
    clear n9 o9
    go_wp2_with (at_builtin; refine wpList_plain rfl (fun K hK => ?_); refine step_push_parts _ _ _ rfl w4.heap.size w9.heap.size 0 _ (PT.eraseIdx x) rfl (P9.out.old (Old.alloc (Old.refl _) _)) _ _ rfl SRC.out L4 (Old.alloc O9.out _).size ?_; intro v10 w10 own10 kept10; refine hK _ _ ?_; clear hK)
    have O10 := hide (kept10.old (Old.alloc O9.out _) (Nat.le_refl _))
    have K10 := hide (show TextsOwn w4.heap.size w10 v6 (NM.eraseIdx x ++ [z8, z9]) from Kept.own kept10 (own_old K9.out (Old.alloc (Old.refl _) _)) (by decide))
    refine (obj_run _ _ _ _ tb 0 w10 K10.out.is HTB.out.keys own10.is HTB.out.texts (HT.out.old (Old.trans O3.out (Old.trans O4.out O10.out))) HTB.out.obj).mono ?_
    rintro e w11 ⟨vb, rfl, nb, o11⟩
    have O11 := hide (Old.trans O10.out o11)
    have NB := hide nb.sl
    have HO11 := hide (own_old HO4.out O11.out)
    have HA11 := hide (HA4.out.old O11.out)
    clear nb o11 own10 kept10 K10 K9 K8 K7 P7 P8 P9 SRC N8 N9 N89 O7 O8 O9 O10
    go_wp2_with fail
    refine (obj_run _ _ _ _ td 0 w11 (TextsOwn.is HO11.out) HTD.out.keys HA11.out.is HTD.out.texts (HT.out.old (Old.trans O3.out (Old.trans O4.out O11.out))) HTD.out.obj).mono ?_
    rintro e w12 ⟨vd, rfl, nd, o12⟩
    have O12 := hide (Old.trans O11.out o12)
    have ND := hide nd.sl
    have NB2 := hide (Sl.old NB.out o12)
    have NA2 := hide (Sl.old NA.out O12.out)
    have OZ := hide (Old.trans O4.out O12.out)
    clear nd o12
    go_wp2_with fail
    refine (row_run _ va cols ta [] ea w12 (HCF.out.old OZ.out) NA2.out HTA.out.ok HTA.out.fit OK.out.names (by have := OK.out.few; omega) (HT.out.old (Old.trans O3.out OZ.out)) HTA.out.row).mono ?_
    rintro e w13 ⟨ra, rfl, _, o13⟩
    have O13 := hide (Old.trans OZ.out o13)
    have NB3 := hide (Sl.old NB2.out o13)
    have ND3 := hide (Sl.old ND.out o13)
    clear o13
    go_wp2_with fail
    refine (row_run _ vb cols tb [] 200 w13 (HCF.out.old O13.out) NB3.out HTB.out.ok HTB.out.fit OK.out.names (by have := OK.out.few; omega) (HT.out.old (Old.trans O3.out O13.out)) HTB.out.row).mono ?_
    rintro e w14 ⟨rb, rfl, _, o14⟩
    have O14 := hide (Old.trans O13.out o14)
    have ND4 := hide (Sl.old ND3.out o14)
    clear o14
    go_wp2_with fail
    refine (row_run _ vd cols td [] ed w14 (HCF.out.old O14.out) ND4.out HTD.out.ok HTD.out.fit OK.out.names (by have := OK.out.few; omega) (HT.out.old (Old.trans O3.out O14.out)) HTD.out.row).mono ?_
    rintro e w15 ⟨rd, rfl, _, o15⟩
    have O15 := hide (Old.trans (Old.trans O3.out O14.out) o15)
    clear o15
    by_cases hM0 : M = 0
    · have hMb : ((M : Int) == 0) = true := by simp [hM0]
      go_wp2_with fail
      refine (CW.out _ O15.out).mono ?_
      rintro e w16 ⟨rfl, o16⟩
      have O16 := hide (Old.trans O15.out o16)
      clear o16
      go_wp2_with fail
      go_ret
      exact ⟨rfl, O16.out⟩
    · have hMb : ((M : Int) == 0) = false := by rw [beq_eq_false_iff_ne]; omega
      obtain rfl : ea = 200 := HEA.out.resolve_right hM0
      obtain rfl : ed = 200 := HED.out.resolve_right hM0
      go_wp2_with fail
      refine (CW.out _ O15.out).mono ?_
      rintro e w16 ⟨rfl, o16⟩
      have O16 := hide (Old.trans O15.out o16)
      clear o16
      go_wp2_with fail
      go_ret
      exact ⟨rfl, O16.out⟩
end Go.Proofs.YthlfljmfggmfdaaGreatDoor

/-! ###  -/
namespace Go.Proofs.YthlfljmfggmfdaaGreatDoor
open Go.RowKit Go.Shelf
set_option maxRecDepth 100000 in
set_option maxHeartbeats 400000 in
theorem slices_Equal (va vb : Value) (a b : List Nd) (w : World) (ha : NodesIs w va a) (hb : NodesIs w vb b) :
 Calls Tryz.prog 75 #[va, vb] w fun e w' => e = .returned (.bool (sameNds a b)) ∧ Old w w' := by
 have hG := nodeGuard
 obtain ⟨A, ca, rfl, hla, hma, ha⟩ := ha.nodes
 obtain ⟨B, cb, rfl, hlb, hmb, hb⟩ := hb.nodes
 unfold maxLen at hma hmb
 go_enter Tryz.func75, Tryz.ntmps75
 by_cases hl : a.length = b.length
 · have hl' : ((a.length : Int) != (b.length : Int)) = false := by simp [hl]
   have HL := hide hl
   have hl1 : a.length ≤ b.length := by omega
   have hl2 : b.length ≤ a.length := by omega
   clear hl
   go_wp2_with fail
   go_loopw [13] (fun i wr => ∃ k : Nat, i = .int .i64 k ∧ k ≤ a.length ∧ Hid (∀ j : Nat, j < k → a[j]? = b[j]?) ∧ Old w wr) (fun i _ => a.length - (intOf i).toNat)
   case atStart => exact ⟨0, rfl, by omega, hide (by intro j hj; omega), Old.refl _⟩
   case round =>
    obtain ⟨k, rfl, hk, HQ, hbl⟩ := hrel
    by_cases hlt : k < a.length
    · have hlt' : k < b.length := by omega
      obtain ⟨b1, o1, rfl, hc1⟩ := ha.resolve_left (by omega)
      obtain ⟨b2, o2, rfl, hc2⟩ := hb.resolve_left (by omega)
      obtain ⟨x0, x1, x2, x3, x4⟩ := hc1 k hlt
      obtain ⟨y0, y1, y2, y3, y4⟩ := hc2 k hlt'
      have hx0 := hbl.cell x0
      have hx1 := hbl.cell x1
      have hx2 := hbl.cell x2
      have hx3 := hbl.cell x3
      have hx4 := hbl.cell x4
      have hy0 := hbl.cell y0
      have hy1 := hbl.cell y1
      have hy2 := hbl.cell y2
      have hy3 := hbl.cell y3
      have hy4 := hbl.cell y4
      have hq := neq_node a[k] b[k]
      obtain ⟨C, hC⟩ : ∃ C, Hid ((!sameNd a[k] b[k]) = C) := ⟨_, hide rfl⟩
      rw [hC.out] at hq
      clear ha hb hc1 hc2 x0 x1 x2 x3 x4 y0 y1 y2 y3 y4
      go_wp2_with fail
      go_quiet (fail)
      clear hx0 hx1 hx2 hx3 hx4 hy0 hy1 hy2 hy3 hy4 hq
      cases C
      · go_wp2_with fail
        go_roundw
        case rel => exact ⟨k + 1, by go_num, by omega, hide (same_next hlt hlt' HQ.out (sameNd_true hC.out)), Old.drewN hbl _⟩
        case measure => simp [intOf]; omega
      · go_wp2_with fail
        go_ret
        exact ⟨ret_bool (same_at hlt hlt' (sameNd_false hC.out)).symm, Old.drewN hbl _⟩
    · go_wp2_with fail
      go_ret
      exact ⟨ret_bool (same_end HL.out (fun j hj => HQ.out j (by omega))).symm, hbl⟩
 · have hl' : ((a.length : Int) != (b.length : Int)) = true := by simp; omega
   go_wp2_with fail
   go_ret
   exact ⟨ret_bool (same_len hl).symm, Old.refl _⟩
def keyOrd (a b : ByteArray) : Int := bif Op.bytesLess a.toList b.toList then -1 else 1
set_option maxRecDepth 100000 in
set_option maxHeartbeats 400000 in
theorem key_order (i j kb : Nat) (kv : Value) (l : List Nd) (w : World) (hi : i < l.length) (hj : j < l.length) (hkb : w.cell? ⟨kb, 0, none⟩ = some kv) (hkv : NodesIs w kv l) :
 Calls Tryz.prog 78 #[.int .i64 i, .int .i64 j, .pointer (some ⟨kb, 0, none⟩)] w fun e w' => e = .returned (.int .i64 (keyOrd l[i].key l[j].key)) ∧ ∃ q, w' = w.drewN q := by
 obtain ⟨A, ca, rfl, hla, hma, ha⟩ := hkv.nodes
 unfold maxLen at hma
 obtain ⟨b1, o1, rfl, hc1⟩ := ha.resolve_left (by omega)
 obtain ⟨_, x1, _, _, _⟩ := hc1 i hi
 obtain ⟨_, y1, _, _, _⟩ := hc1 j hj
 obtain ⟨K1, hK1⟩ : ∃ K, Hid (l[i].key = K) := ⟨_, hide rfl⟩
 obtain ⟨K2, hK2⟩ : ∃ K, Hid (l[j].key = K) := ⟨_, hide rfl⟩
 rw [hK1.out] at x1 ⊢
 rw [hK2.out] at y1 ⊢
 obtain ⟨n, hn⟩ : ∃ n, l.length = n := ⟨_, rfl⟩
 rw [hn] at hla hkb
 have hi' : i < n := by omega
 have hj' : j < n := by omega
 clear ha hc1 hkv
 go_enter Tryz.func78, Tryz.ntmps78
 go_wp2_with fail
 go_quiet (fail)
 obtain ⟨B, hB⟩ : ∃ B, Hid (Op.bytesLess K1.toList K2.toList = B) := ⟨_, hide rfl⟩
 rw [hB.out]
 cases B
 · go_wp2_with fail
   go_ret
   exact ⟨by rw [keyOrd, hB.out]; rfl, _, rfl⟩
 · go_wp2_with fail
   go_ret
   exact ⟨by rw [keyOrd, hB.out]; rfl, _, rfl⟩
end Go.Proofs.YthlfljmfggmfdaaGreatDoor
namespace Go.Proofs.YthlfljmfggmfdaaGreatDoor
open Go.RowKit
def keyLt (a b : ByteArray) : Prop := a.toList < b.toList
theorem bytesLess_lt : ∀ (x y : List UInt8), Op.bytesLess x y = decide (x < y)
 | [], [] => by simp [Op.bytesLess]
 | _ :: _, [] => by simp [Op.bytesLess]
 | [], _ :: _ => by simp [Op.bytesLess]
 | a :: x, b :: y => by
   rw [Op.bytesLess, bytesLess_lt x y]
   simp only [List.cons_lt_cons_iff]
   by_cases h1 : a < b <;> by_cases h2 : a = b <;> by_cases h3 : x < y <;> simp [h1, h2, h3]
theorem less_iff (a b : ByteArray) : Op.bytesLess a.toList b.toList = true ↔ keyLt a b := by
 rw [bytesLess_lt, decide_eq_true_eq]; rfl
theorem keyLt_irrefl (a : ByteArray) : ¬ keyLt a a := List.lt_irrefl _
theorem keyLt_trans {a b c : ByteArray} (h : keyLt a b) (k : keyLt b c) : keyLt a c := List.lt_trans h k
theorem keyLt_asymm {a b : ByteArray} (h : keyLt a b) : ¬ keyLt b a := fun k => keyLt_irrefl _ (keyLt_trans h k)
theorem keyLt_total {a b : ByteArray} (h : ¬ keyLt a b) (hne : a ≠ b) : keyLt b a := by
 rcases Classical.em (keyLt b a) with k | k
 · exact k
 · exact absurd (bytes_ext (List.le_antisymm (List.not_lt.1 k) (List.not_lt.1 h))) hne
def insJ (x : J) : List J → List J
 | [] => [x]
 | y :: l => bif Op.bytesLess x.key.toList y.key.toList then x :: y :: l else y :: insJ x l
def ordJ : List J → List J
 | [] => []
 | x :: l => insJ x (ordJ l)
mutual
def J.sort : J → J
 | .mk h l => .mk h (if h.kind = 7 then ordJ (J.sorts l) else J.sorts l)
def J.sorts : List J → List J
 | [] => []
 | j :: l => J.sort j :: J.sorts l
end
theorem sorts_map : ∀ l, J.sorts l = l.map J.sort
 | [] => by simp [J.sorts]
 | j :: l => by simp [J.sorts, sorts_map l]
theorem sort_hd (j : J) : j.sort.hd = j.hd := by cases j; simp [J.sort, J.hd]
theorem sort_key (j : J) : j.sort.key = j.key := by rw [J.key, J.key, sort_hd]
theorem insJ_perm (x : J) : ∀ l, (insJ x l).Perm (x :: l)
 | [] => .refl _
 | y :: l => by
   rw [insJ]
   cases Op.bytesLess x.key.toList y.key.toList
   · exact ((insJ_perm x l).cons y).trans (List.Perm.swap x y l)
   · exact .refl _
theorem ordJ_perm : ∀ l, (ordJ l).Perm l
 | [] => .refl _
 | x :: l => (insJ_perm x (ordJ l)).trans ((ordJ_perm l).cons x)
def UpJ (l : List J) : Prop := l.Pairwise fun a b => keyLt a.key b.key
def AptJ (l : List J) : Prop := l.Pairwise fun a b => a.key ≠ b.key
theorem insJ_up {x : J} : ∀ {l : List J}, UpJ l → (∀ y ∈ l, x.key ≠ y.key) → UpJ (insJ x l)
 | [], _, _ => List.pairwise_singleton _ _
 | y :: l, h, hne => by
   obtain ⟨h1, h2⟩ := List.pairwise_cons.1 h
   rw [insJ]
   cases hB : Op.bytesLess x.key.toList y.key.toList
   · have hlt : keyLt y.key x.key := keyLt_total (fun k => by rw [(less_iff _ _).2 k] at hB; exact Bool.noConfusion hB) (hne y (by simp))
     refine List.pairwise_cons.2 ⟨fun z hz => ?_, insJ_up h2 fun z hz => hne z (by simp [hz])⟩
     rcases List.mem_cons.1 ((insJ_perm x l).mem_iff.1 hz) with e | hz
     · rw [e]; exact hlt
     · exact h1 z hz
   · have hlt := (less_iff _ _).1 hB
     refine List.pairwise_cons.2 ⟨fun z hz => ?_, h⟩
     rcases List.mem_cons.1 hz with e | hz
     · rw [e]; exact hlt
     · exact keyLt_trans hlt (h1 z hz)
theorem ordJ_up : ∀ {l : List J}, AptJ l → UpJ (ordJ l)
 | [], _ => List.Pairwise.nil
 | x :: l, h => by
   obtain ⟨h1, h2⟩ := List.pairwise_cons.1 h
   exact insJ_up (ordJ_up h2) fun y hy => h1 y ((ordJ_perm l).mem_iff.1 hy)
theorem up_unique : ∀ {a b : List J}, a.Perm b → UpJ a → UpJ b → a = b
 | [], b, hp, _, _ => (List.nil_perm.1 hp).symm
 | x :: a, [], hp, _, _ => absurd hp.length_eq (by simp)
 | x :: a, y :: b, hp, ha, hb => by
   obtain ⟨a1, a2⟩ := List.pairwise_cons.1 ha
   obtain ⟨b1, b2⟩ := List.pairwise_cons.1 hb
   have hxy : x = y := by
    rcases List.mem_cons.1 (hp.mem_iff.1 (List.mem_cons_self (a := x) (l := a))) with e | hx
    · exact e
    rcases List.mem_cons.1 (hp.mem_iff.2 (List.mem_cons_self (a := y) (l := b))) with e | hy
    · exact e.symm
    exact absurd (a1 y hy) (keyLt_asymm (b1 x hx))
   subst hxy
   rw [up_unique (List.Perm.cons_inv hp) a2 b2]
theorem ord_found {l l' : List J} (hp : l'.Perm l) (h : AptJ l) (hu : UpJ l') : l'.map J.sort = ordJ (J.sorts l) := by
 have key : ∀ m : List J, UpJ m → UpJ (m.map J.sort) := fun m hm => List.pairwise_map.2 (hm.imp fun {a b} hab => by rw [sort_key, sort_key]; exact hab)
 have hA : AptJ (J.sorts l) := by rw [sorts_map]; exact List.pairwise_map.2 (h.imp fun {a b} hab => by rw [sort_key, sort_key]; exact hab)
 refine up_unique ?_ (key _ hu) (ordJ_up hA)
 refine List.Perm.trans ?_ (ordJ_perm _).symm
 rw [sorts_map]
 exact hp.map _
theorem flats_perm {l l' : List J} (hp : l.Perm l') : (J.flats l).length = (J.flats l').length := by
 induction hp with
 | nil => rfl
 | cons x _ ih => simp [J.flats, ih]
 | swap x y l => simp [J.flats]; omega
 | trans _ _ ih1 ih2 => rw [ih1, ih2]
theorem sort_len : (∀ j : J, j.sort.flat.length = j.flat.length) ∧ ∀ l : List J, (J.flats (J.sorts l)).length = (J.flats l).length := by
 refine J.both ?_ ?_ ?_
 · intro h l ih
   rw [J.sort, flat_mk, flat_mk, List.length_cons, List.length_cons]
   split
   · rw [flats_perm (ordJ_perm _), ih]
   · rw [ih]
 · simp [J.sorts, J.flats]
 · intro j l h1 h2; simp [J.sorts, J.flats, h1, h2]
theorem apt_of_keys (V : ByteArray → Bool) : ∀ (l : List J) (had : List ByteArray), keysOk V had (l.map J.key) → AptJ l ∧ ∀ j ∈ l, j.key ∉ had
 | [], _, _ => ⟨List.Pairwise.nil, fun _ h => absurd h (by simp)⟩
 | j :: l, had, h => by
   obtain ⟨_, h2, h3⟩ := h
   obtain ⟨k1, k2⟩ := apt_of_keys V l (had ++ [j.key]) h3
   refine ⟨List.pairwise_cons.2 ⟨fun x hx e => k2 x hx (by rw [← e]; simp), k1⟩, fun x hx => ?_⟩
   rcases List.mem_cons.1 hx with e | hx
   · rw [e]; exact h2
   · exact fun hh => k2 x hx (by simp [hh])
end Go.Proofs.YthlfljmfggmfdaaGreatDoor
