/- The document's sums of entries. -/
import Derived.Test.YtmfbblcipakaiaaGreatDoorGrpHr
import Derived.Test.YtmfbblcipakaiaaGreatDoorGrpT
/-! ### The document's sums of entries. -/
namespace Go.Proofs.YtmfbblcipakaiaaGreatDoor
open Go.RowKit

theorem step_push_pairG {o : Oper} {a : Act} {K : Act → World → Prop} {Q : Exit → Act → World → Prop} (w : World) (s x : Operand)
    (ho : o.op = .call { callee := .builtin .append, args := #[s, x], argTypes := #[121, 121] })
    (base : Nat) (v : Value) (ws : List (Int × Int)) (hs : a.eval s = v) (hown : w.ownsRow base 120 2 v ws.length (pairValsG ws))
    (g cap : Nat) (y z : Int) (hx : a.eval x = .slice (some ⟨g, 0, none⟩) 1 cap)
    (h0 : w.cell? ⟨g, 0, none⟩ = some (.int .i64 y)) (h1 : w.cell? ⟨g, 1, none⟩ = some (.int .i64 z))
    (hlen : ws.length + 1 ≤ 4194304) (hbase : base ≤ w.heap.size)
    (h : ∀ v' w', w'.ownsRow base 120 2 v' (ws ++ [(y, z)]).length (pairValsG (ws ++ [(y, z)])) → Kept 120 base w w' → K (a.put o.dst v') w') : o.wp Tryz.prog a w K Q := by
  obtain ⟨i0, hi, hz0, hz1, hz2⟩ := info_parts pairInfo
  refine wp_append_own w s x 121 ho base 120 i0 (.agg #[.int .i64 0, .int .i64 0]) 2 16 Tryz.underlying121 hi hz0 hz1 hz2 rfl (by omega) v ws.length (pairValsG ws) hs hown
    ⟨g, 0, none⟩ 1 cap [.int .i64 y, .int .i64 z] hx rfl ?_ ?_ (by unfold maxLen; omega) (by omega) hbase ?_
  · intro j u hu
    match j, hu with
    | 0, hu => simp at hu; subst hu; exact h0
    | 1, hu => simp at hu; subst hu; simpa [Addr.add] using h1
    | j + 2, hu => simp at hu
  · intro u hu
    simp at hu
    rcases hu with rfl | rfl <;> rfl
  · intro v' w' own' hg _
    refine h v' w' ?_ (Kept.of_grown hown hg hbase)
    rw [pairG_append, List.length_append]
    exact own'

/-! ### which pairs -/
def prs (key : List Cell) (f : Ent → List (Int × Int)) (l : List Ent) : List (Int × Int) := l.flatMap fun e => if sameRow e.key key then f e else []
theorem prs_next {key : List Cell} {f : Ent → List (Int × Int)} {l : List Ent} {k : Nat} (h : k < l.length) : prs key f (l.take (k + 1)) = prs key f (l.take k) ++ (if sameRow l[k].key key then f l[k] else []) := by
  unfold prs
  rw [List.take_succ_eq_append_getElem h, List.flatMap_append]
  simp
theorem prs_len {key : List Cell} {f : Ent → List (Int × Int)} (hf : ∀ e, (f e).length ≤ 1) (l : List Ent) : (prs key f l).length ≤ l.length := by
  induction l with
  | nil => simp [prs]
  | cons e l ih =>
    have : prs key f (e :: l) = (if sameRow e.key key then f e else []) ++ prs key f l := by simp [prs]
    have h1 : (if sameRow e.key key then f e else []).length ≤ 1 := by
      split
      · exact hf e
      · simp
    rw [this, List.length_append, List.length_cons]
    omega
theorem dotG_append (a b : List (Int × Int)) : dotG (a ++ b) = dotG a + dotG b := by simp [dotG]
theorem prs_dot {key : List Cell} {f : Ent → List (Int × Int)} {i : Nat} {l : List Ent} (h : ∀ e ∈ l, dotG (f e) = part e i) : dotG (prs key f l) = tot l key i := by
  induction l with
  | nil => rfl
  | cons e l ih =>
    have : prs key f (e :: l) = (if sameRow e.key key then f e else []) ++ prs key f l := by simp [prs]
    rw [this, dotG_append, ih (fun x hx => h x (by simp [hx])), tot]
    by_cases hk : e.key = key
    · rw [if_pos (by simp [sameRow, hk]), if_pos hk, h e (by simp)]
    · rw [if_neg (by simp [sameRow, hk]), if_neg hk]; rfl
theorem prs_fit {key : List Cell} {f : Ent → List (Int × Int)} {l : List Ent} (h : ∀ e ∈ l, ∀ x ∈ f e, fit x.1 ∧ fit x.2) : ∀ x ∈ prs key f l, fit x.1 ∧ fit x.2 := by
  intro x hx
  obtain ⟨e, he, hx⟩ := List.mem_flatMap.1 hx
  split at hx
  · exact h e he x hx
  · simp at hx
def fCnt (e : Ent) : List (Int × Int) := [(e.w, 1)]
def fSum (i : Nat) (e : Ent) : List (Int × Int) := match e.vals[i]? with
  | some c => if c.null then [] else [(e.w, c.n)]
  | none => []
theorem fCnt_dot (e : Ent) : dotG (fCnt e) = part e 0 := by simp [fCnt, dotG, part]
theorem fSum_dot (i : Nat) (e : Ent) : dotG (fSum i e) = part e (i + 1) := by
  cases hv : e.vals[i]? with
  | none => simp [fSum, part, hv, dotG]
  | some c => cases h : c.null <;> simp [fSum, part, hv, h, dotG]
theorem fSum_len (i : Nat) (e : Ent) : (fSum i e).length ≤ 1 := by
  unfold fSum
  split
  · split <;> simp
  · simp
theorem fSum_at {i : Nat} {e : Ent} (h : i < e.vals.length) : fSum i e = if e.vals[i].null then [] else [(e.w, e.vals[i].n)] := by
  unfold fSum
  rw [List.getElem?_eq_getElem h]
theorem one_fit : fit 1 := by unfold fit; omega
theorem fCnt_fit {e : Ent} (h : EntFine e) : ∀ x ∈ fCnt e, fit x.1 ∧ fit x.2 := by
  intro x hx
  simp [fCnt] at hx
  subst hx
  exact ⟨h.w, one_fit⟩
theorem fSum_fit {i : Nat} {e : Ent} (h : EntFine e) : ∀ x ∈ fSum i e, fit x.1 ∧ fit x.2 := by
  intro x hx
  unfold fSum at hx
  split at hx
  · rename_i c hc
    split at hx
    · simp at hx
    · simp at hx
      subst hx
      exact ⟨h.w, h.vals c (List.mem_of_getElem? hc)⟩
  · simp at hx
def allP (was : Int) (key : List Cell) (f : Ent → List (Int × Int)) (l : List Ent) : List (Int × Int) := (was, 1) :: prs key f l
theorem allP_dot {was : Int} {key : List Cell} {f : Ent → List (Int × Int)} {i : Nat} {l : List Ent} (h : ∀ e ∈ l, dotG (f e) = part e i) : dotG (allP was key f l) = was + tot l key i := by
  have : dotG (allP was key f l) = was * 1 + dotG (prs key f l) := by simp [allP, dotG]
  rw [this, prs_dot h, Int.mul_one]
theorem allP_same {was : Int} {key : List Cell} {f : Ent → List (Int × Int)} {l : List Ent} {k : Nat} (h : k < l.length) (hs : sameRow l[k].key key = false) : allP was key f (l.take (k + 1)) = allP was key f (l.take k) := by
  unfold allP
  rw [prs_next h, hs]; simp
theorem allP_next {was : Int} {key : List Cell} {f : Ent → List (Int × Int)} {l : List Ent} {k : Nat} (h : k < l.length) (hs : sameRow l[k].key key = true) : allP was key f (l.take (k + 1)) = allP was key f (l.take k) ++ f l[k] := by
  unfold allP
  rw [prs_next h, hs]; simp
theorem allP_len {was : Int} {key : List Cell} {f : Ent → List (Int × Int)} (hf : ∀ e, (f e).length ≤ 1) (l : List Ent) : (allP was key f l).length ≤ l.length + 1 := by
  have := prs_len (key := key) hf l
  simp [allP]; omega
theorem allP_fit {was : Int} {key : List Cell} {f : Ent → List (Int × Int)} {l : List Ent} (hw : fit was) (h : ∀ e ∈ l, ∀ x ∈ f e, fit x.1 ∧ fit x.2) : ∀ x ∈ allP was key f l, fit x.1 ∧ fit x.2 := by
  intro x hx
  rcases List.mem_cons.1 hx with rfl | hx
  · exact ⟨hw, one_fit⟩
  · exact prs_fit h x hx
def SumPost (w : World) (t : Int) (e : Ending) (w' : World) : Prop := e = .returned (.tuple #[.int .i64 (intOr t), .int .i64 (intErr t)]) ∧ Old w w'

set_option maxRecDepth 100000 in
set_option maxHeartbeats 2000000 in
theorem summed_cnt (was : Int) (v kv : Value) (l : List Ent) (key : List Cell) (w : World) (hl : EntsIs w v l) (hk : RowIs w kv key) (hn : l.length ≤ 5000) (hw : fit was) (hf : ∀ e ∈ l, EntFine e) :
    Calls Tryz.prog 43 #[.int .i64 was, v, kv, .int .i64 (-1)] w (SumPost w (was + tot l key 0)) := by
  obtain ⟨A, ca, us, vs, rfl, hla, hma, hul, hvl, hur, hvr, ha⟩ := hl.open_
  unfold maxLen at hma
  have HU := hide hur
  have HK := hide hk
  have HF := hide hf
  have HW := hide hw
  clear hur hvr hk hl hf hw
  go_enter Tryz.func43, Tryz.ntmps43
  go_wp2_with fail
  go_loopw [10, 11] (fun o i wr => ∃ k : Nat, i = .int .i64 k ∧ k ≤ l.length ∧ Hid (wr.ownsRow w.heap.size 120 2 o (allP was key fCnt (l.take k)).length (pairValsG (allP was key fCnt (l.take k)))) ∧ Hid (Old w wr)) (fun _ i _ => l.length - (intOf i).toNat)
  case atStart => exact ⟨0, rfl, by omega, hide (World.ownsRow_lit w #[.int .i64 was, .int .i64 1] 1 (Nat.le_refl _) (by unfold maxLen; omega) rfl), hide ((Old.refl w).alloc _)⟩
  case round =>
    obtain ⟨k, rfl, hk, HOWN, HO⟩ := hrel
    by_cases hlt : k < l.length
    · have hku : k < us.length := by omega
      have hkv : k < vs.length := by omega
      obtain ⟨b1, o1, rfl, hc1⟩ := ha.resolve_left (by omega)
      obtain ⟨x0, x1, x2⟩ := hc1 k hlt hku hkv
      have y0 := HO.out.cell x0
      have HC := hide (eqRow us[k] kv l[k].key key wr ((HU.out k hlt hku).old HO.out) (HK.out.old HO.out))
      have hlen := allP_len (was := was) (key := key) (f := fCnt) (fun e => by simp [fCnt]) (l.take k)
      rw [List.length_take] at hlen
      have HA := hide (allP_same (was := was) (key := key) (f := fCnt) hlt)
      have HB := hide (allP_next (was := was) (key := key) (f := fCnt) hlt)
      clear ha hc1 x0 x1
      go_wp2_with fail
      refine HC.out.mono ?_
      rintro e w1 ⟨rfl, h1⟩
      have hx2 := (Old.trans HO.out h1).cell x2
      have HO1 := hide (Old.trans HO.out h1)
      have HOW := hide (own_old HOWN.out h1)
      clear y0 x2 h1
      cases hs : sameRow l[k].key key
      · have HE := hide (HA.out hs)
        clear hs
        go_wp2_with fail
        go_roundw
        case rel => exact ⟨k + 1, by go_num, by omega, hide (by rw [HE.out]; exact HOW.out), HO1⟩
        case measure => simp [intOf]; omega
      · have HE := hide (HB.out hs)
        clear hs
        go_wp2_with (at_builtin; refine wpList_plain rfl (fun K hK => ?_); refine step_push_pairG _ _ _ rfl w.heap.size _ _ rfl (own_old HOW.out ((Old.refl w1).alloc _)) _ _ l[k].w 1 rfl (by go_simp) (by go_simp) (by omega) (HO1.out.alloc _).size ?_; intro v' w4 own4 kept4; refine hK _ _ ?_; clear hK)
        have H5 := hide (kept4.old (HO1.out.alloc _) (Nat.le_refl _))
        clear kept4
        go_roundw
        case rel => exact ⟨k + 1, by go_num, by omega, hide (by rw [HE.out]; exact own4), H5⟩
        case measure => simp [intOf]; omega
    · have hkn : k = l.length := by omega
      have HO1 := HOWN.out
      rw [hkn, List.take_length] at HO1
      have CD := hide (ref_DotG _ (allP was key fCnt l) wr (SlT.of_own HO1).sl (Nat.le_trans (allP_len (fun e => by simp [fCnt]) l) (by omega)) (allP_fit HW.out (fun e he => fCnt_fit (HF.out e he))))
      rw [allP_dot (fun e _ => fCnt_dot e)] at CD
      clear HO1
      go_wp2_with fail
      refine CD.out.mono ?_
      rintro e w2 ⟨rfl, h2⟩
      go_wp2_with fail
      go_ret2
      exact ⟨rfl, Old.trans HO.out h2⟩

set_option maxRecDepth 100000 in
set_option maxHeartbeats 2000000 in
theorem summed_sum (was : Int) (i : Nat) (v kv : Value) (l : List Ent) (key : List Cell) (w : World) (hl : EntsIs w v l) (hk : RowIs w kv key) (hn : l.length ≤ 5000) (hw : fit was) (hf : ∀ e ∈ l, EntFine e) (hi : ∀ e ∈ l, i < e.vals.length) (hi2 : i ≤ 1000) :
    Calls Tryz.prog 43 #[.int .i64 was, v, kv, .int .i64 i] w (SumPost w (was + tot l key (i + 1))) := by
  obtain ⟨A, ca, us, vs, rfl, hla, hma, hul, hvl, hur, hvr, ha⟩ := hl.open_
  unfold maxLen at hma
  have HU := hide hur
  have HV := hide hvr
  have HK := hide hk
  have HF := hide hf
  have HW := hide hw
  have HI := hide hi
  clear hur hvr hk hl hf hw hi
  go_enter Tryz.func43, Tryz.ntmps43
  go_wp2_with fail
  go_loopw [10, 11] (fun o i' wr => ∃ k : Nat, i' = .int .i64 k ∧ k ≤ l.length ∧ Hid (wr.ownsRow w.heap.size 120 2 o (allP was key (fSum i) (l.take k)).length (pairValsG (allP was key (fSum i) (l.take k)))) ∧ Hid (Old w wr)) (fun _ i' _ => l.length - (intOf i').toNat)
  case atStart => exact ⟨0, rfl, by omega, hide (World.ownsRow_lit w #[.int .i64 was, .int .i64 1] 1 (Nat.le_refl _) (by unfold maxLen; omega) rfl), hide ((Old.refl w).alloc _)⟩
  case round =>
    obtain ⟨k, rfl, hk, HOWN, HO⟩ := hrel
    by_cases hlt : k < l.length
    · have hku : k < us.length := by omega
      have hkv : k < vs.length := by omega
      obtain ⟨b1, o1, rfl, hc1⟩ := ha.resolve_left (by omega)
      obtain ⟨x0, x1, x2⟩ := hc1 k hlt hku hkv
      have y0 := HO.out.cell x0
      have HC := hide (eqRow us[k] kv l[k].key key wr ((HU.out k hlt hku).old HO.out) (HK.out.old HO.out))
      have hlen := allP_len (was := was) (key := key) (f := fSum i) (fSum_len i) (l.take k)
      rw [List.length_take] at hlen
      have HA := hide (allP_same (was := was) (key := key) (f := fSum i) hlt)
      have HB := hide (allP_next (was := was) (key := key) (f := fSum i) hlt)
      have hiv := HI.out l[k] (List.getElem_mem hlt)
      have HFS := hide (fSum_at hiv)
      obtain ⟨Av, cv, hve, hv1, hv2, hv3⟩ := (HV.out k hlt hkv).row
      rw [hve] at x1
      unfold maxLen at hv2
      obtain ⟨b2, o2, rfl, hc2⟩ := hv3.resolve_left (by omega)
      obtain ⟨z0, z1, z2⟩ := hc2 i hiv
      clear ha hc1 x0 hve hv3 hc2 z2
      go_wp2_with fail
      refine HC.out.mono ?_
      rintro e w1 ⟨rfl, h1⟩
      have HO1 := hide (Old.trans HO.out h1)
      have HOW := hide (own_old HOWN.out h1)
      have hx1 := HO1.out.cell x1
      have hx2 := HO1.out.cell x2
      have hz0 := HO1.out.cell z0
      have hz1 := HO1.out.cell z1
      clear y0 h1 z0
      cases hs : sameRow l[k].key key
      · have HE := hide (HA.out hs)
        clear hs
        go_wp2_with fail
        go_roundw
        case rel => exact ⟨k + 1, by go_num, by omega, hide (by rw [HE.out]; exact HOW.out), HO1⟩
        case measure => simp [intOf]; omega
      · have HE := hide (HB.out hs)
        clear hs
        cases hnul : l[k].vals[i].null
        · have HE2 := hide (show allP was key (fSum i) (l.take (k + 1)) = allP was key (fSum i) (l.take k) ++ [(l[k].w, l[k].vals[i].n)] by rw [HE.out, HFS.out, hnul]; rfl)
          obtain ⟨y, hy⟩ : ∃ y, Hid (l[k].w = y) := ⟨_, hide rfl⟩
          obtain ⟨z, hz⟩ : ∃ z, Hid (l[k].vals[i].n = z) := ⟨_, hide rfl⟩
          rw [hy.out] at x2 hx2 HE2
          rw [hz.out] at z1 hz1 HE2
          rw [hnul] at hz0
          have hbase := HO1.out.size
          have f1 : ∀ w', Old w w' → w'.cell? ⟨b1, o1 + k * 3 + 1, none⟩ = some (.slice (some ⟨b2, o2, none⟩) l[k].vals.length cv) := fun w' h => h.cell x1
          have f2 : ∀ w', Old w w' → w'.cell? ⟨b1, o1 + k * 3 + 2, none⟩ = some (.int .i64 y) := fun w' h => h.cell x2
          have f3 : ∀ w', Old w w' → w'.cell? ⟨b2, o2 + i * 3 + 1, none⟩ = some (.int .i64 z) := fun w' h => h.cell z1
          have ho1 := HO1.out
          clear hnul
          go_wp2_with fail
          go_region_held3 (fun w' => Old w w')
            (first | (exact Old.drew ho1) | (exact Old.alloc (by assumption) _) | (exact Old.trans (by assumption) (by assumption)) | (exact Kept.old (by assumption) (by assumption) (Nat.le_refl _)))
            (first
              | (refine step_push_pairG _ _ _ rfl w.heap.size _ _ rfl (own_old HOW.out (((Old.refl w1).drew).alloc _)) _ _ y z rfl (by go_simp) (by go_simp) (by omega) (Below.size (w := w) (by assumption)) ?_; intro v' w4 own4 kept4)
              | (fail "none"))
          have H5 : Hid (Old w w4) := hide (by assumption)
          have OWN4 := hide own4
          clear own4 kept4 f1 f2 f3 ho1
          go_wp2_with fail
          go_roundw
          case rel => exact ⟨k + 1, by go_num, by omega, hide (by rw [HE2.out]; exact OWN4.out), H5⟩
          case measure => simp [intOf]; omega
        · have HE2 := hide (show allP was key (fSum i) (l.take (k + 1)) = allP was key (fSum i) (l.take k) by rw [HE.out, HFS.out, hnul]; simp)
          rw [hnul] at hz0
          clear hnul
          go_wp2_with fail
          go_roundw
          case rel => exact ⟨k + 1, by go_num, by omega, hide (by rw [HE2.out]; exact HOW.out), HO1⟩
          case measure => simp [intOf]; omega
    · have hkn : k = l.length := by omega
      have HO1 := HOWN.out
      rw [hkn, List.take_length] at HO1
      have CD := hide (ref_DotG _ (allP was key (fSum i) l) wr (SlT.of_own HO1).sl (Nat.le_trans (allP_len (fSum_len i) l) (by omega)) (allP_fit HW.out (fun e he => fSum_fit (HF.out e he))))
      rw [allP_dot (fun e _ => fSum_dot i e)] at CD
      clear HO1
      go_wp2_with fail
      refine CD.out.mono ?_
      rintro e w2 ⟨rfl, h2⟩
      go_wp2_with fail
      go_ret2
      exact ⟨rfl, Old.trans HO.out h2⟩
end Go.Proofs.YtmfbblcipakaiaaGreatDoor

/-! ### What the document's Apply keeps while it goes: groups that grow, or are stored over; which keys; plain laws of them. No walk here. -/
namespace Go.Proofs.YtmfbblcipakaiaaGreatDoor
open Go.RowKit

/-! ### plain laws -/
def sumsOf (S : Nat) (f : Gf) (k : List Cell) : List Int := (List.range S).map fun i => f k (i + 1)
def grpOf (S : Nat) (f : Gf) (k : List Cell) : Grp := ⟨k, f k 0, sumsOf S f k⟩
def gsOf (S : Nat) (f : Gf) (ks : List (List Cell)) : List Grp := ks.map (grpOf S f)
theorem sumsOf_len (S : Nat) (f : Gf) (k : List Cell) : (sumsOf S f k).length = S := by simp [sumsOf]
theorem sumsOf_get {S : Nat} {f : Gf} {k : List Cell} {i : Nat} (h : i < (sumsOf S f k).length) : (sumsOf S f k)[i] = f k (i + 1) := by simp [sumsOf]
theorem sumsOf_next (S : Nat) (f : Gf) (k : List Cell) : sumsOf (S + 1) f k = sumsOf S f k ++ [f k (S + 1)] := by simp [sumsOf, List.range_succ]
theorem nums_split (S : Nat) (f : Gf) (k : List Cell) : numsOf S f k = f k 0 :: sumsOf S f k := by
  simp [numsOf, sumsOf, List.range_succ_eq_map, Function.comp_def]
theorem gsOf_len (S : Nat) (f : Gf) (ks : List (List Cell)) : (gsOf S f ks).length = ks.length := by simp [gsOf]
theorem hOne_of (S : Nat) (f : Gf) (k : List Cell) (w : Int) : hOne (grpOf S f k) w = seenIt S f k w := by
  unfold hOne seenIt hRow rowOf
  rw [nums_split]
  rfl
theorem hRows_of (S : Nat) (f : Gf) (ks : List (List Cell)) (w : Int) : hRows (gsOf S f ks) w = seenAll S f ks w := by
  induction ks with
  | nil => rfl
  | cons k ks ih =>
    have e1 : hRows (gsOf S f (k :: ks)) w = hOne (grpOf S f k) w ++ hRows (gsOf S f ks) w := by simp [hRows, gsOf]
    have e2 : seenAll S f (k :: ks) w = seenIt S f k w ++ seenAll S f ks w := by simp [seenAll]
    rw [e1, e2, ih, hOne_of]
theorem hasKey_of (S : Nat) (f : Gf) (ks : List (List Cell)) (k : List Cell) : hasKey (gsOf S f ks) k = decide (k ∈ ks) := by
  induction ks with
  | nil => rfl
  | cons x ks ih =>
    have e1 : hasKey (gsOf S f (x :: ks)) k = (decide (x = k) || hasKey (gsOf S f ks) k) := by simp [hasKey, gsOf, grpOf]
    rw [e1, ih, Bool.eq_iff_iff]
    simp only [Bool.or_eq_true, decide_eq_true_eq, List.mem_cons]
    constructor
    · rintro (h | h)
      · exact .inl h.symm
      · exact .inr h
    · rintro (h | h)
      · exact .inl h.symm
      · exact .inr h
def addKey (ks : List (List Cell)) (e : Ent) : List (List Cell) := if e.key ∈ ks then ks else ks ++ [e.key]
def addKeys (ks : List (List Cell)) (l : List Ent) : List (List Cell) := l.foldl addKey ks
theorem addKeys_next {ks : List (List Cell)} {l : List Ent} {k : Nat} (h : k < l.length) : addKeys ks (l.take (k + 1)) = addKey (addKeys ks (l.take k)) l[k] := by
  unfold addKeys
  rw [List.take_succ_eq_append_getElem h, List.foldl_append]
  rfl
theorem addKey_old {ks : List (List Cell)} {e : Ent} {k : List Cell} (h : k ∈ ks) : k ∈ addKey ks e := by
  unfold addKey; split
  · exact h
  · simp [h]
theorem addKey_new (ks : List (List Cell)) (e : Ent) : e.key ∈ addKey ks e := by
  unfold addKey; split
  · assumption
  · simp
theorem addKey_mem {ks : List (List Cell)} {e : Ent} {k : List Cell} (h : k ∈ addKey ks e) : k ∈ ks ∨ k = e.key := by
  unfold addKey at h; split at h
  · exact .inl h
  · simpa using h
theorem addKey_nodup {ks : List (List Cell)} {e : Ent} (h : ks.Nodup) : (addKey ks e).Nodup := by
  unfold addKey; split
  · exact h
  · rename_i hn
    rw [List.nodup_append]
    refine ⟨h, by simp, fun a ha b hb => ?_⟩
    simp at hb
    subst hb
    rintro rfl
    exact hn ha
theorem addKey_len (ks : List (List Cell)) (e : Ent) : (addKey ks e).length ≤ ks.length + 1 := by unfold addKey; split <;> simp
theorem addKeys_old {l : List Ent} : ∀ {ks : List (List Cell)} {k : List Cell}, k ∈ ks → k ∈ addKeys ks l := by
  induction l with
  | nil => exact fun h => h
  | cons e l ih => exact fun h => ih (addKey_old h)
theorem addKeys_new {l : List Ent} : ∀ {ks : List (List Cell)} {e : Ent}, e ∈ l → e.key ∈ addKeys ks l := by
  induction l with
  | nil => intro ks e h; simp at h
  | cons x l ih =>
    intro ks e h
    rcases List.mem_cons.1 h with rfl | h
    · exact addKeys_old (l := l) (addKey_new ks e)
    · exact ih h
theorem addKeys_mem {l : List Ent} : ∀ {ks : List (List Cell)} {k : List Cell}, k ∈ addKeys ks l → k ∈ ks ∨ ∃ e ∈ l, e.key = k := by
  induction l with
  | nil => exact fun h => .inl h
  | cons e l ih =>
    intro ks k h
    rcases ih (ks := addKey ks e) h with h | ⟨x, hx, rfl⟩
    · rcases addKey_mem h with h | rfl
      · exact .inl h
      · exact .inr ⟨e, by simp, rfl⟩
    · exact .inr ⟨x, by simp [hx], rfl⟩
theorem addKeys_nodup {l : List Ent} : ∀ {ks : List (List Cell)}, ks.Nodup → (addKeys ks l).Nodup := by
  induction l with
  | nil => exact fun h => h
  | cons e l ih => exact fun h => ih (addKey_nodup h)
theorem addKeys_len (l : List Ent) : ∀ (ks : List (List Cell)), (addKeys ks l).length ≤ ks.length + l.length := by
  induction l with
  | nil => intro ks; exact Nat.le_refl _
  | cons e l ih =>
    intro ks
    have h1 := ih (addKey ks e)
    have h2 := addKey_len ks e
    have : addKeys ks (e :: l) = addKeys (addKey ks e) l := rfl
    rw [this, List.length_cons]
    omega
/-- the first i groups are those of f', the rest those of f -/
def mixG (S : Nat) (f f' : Gf) (ks : List (List Cell)) (i : Nat) : List Grp := gsOf S f' (ks.take i) ++ gsOf S f (ks.drop i)
theorem mixG_len (S : Nat) (f f' : Gf) (ks : List (List Cell)) (i : Nat) : (mixG S f f' ks i).length = ks.length := by simp [mixG, gsOf]; omega
theorem mixG_zero (S : Nat) (f f' : Gf) (ks : List (List Cell)) : mixG S f f' ks 0 = gsOf S f ks := by simp [mixG, gsOf]
theorem mixG_all {S : Nat} {f f' : Gf} {ks : List (List Cell)} {i : Nat} (h : ks.length ≤ i) : mixG S f f' ks i = gsOf S f' ks := by
  unfold mixG
  rw [List.take_of_length_le h, List.drop_eq_nil_of_le h]
  simp [gsOf]
theorem mixG_at {S : Nat} {f f' : Gf} {ks : List (List Cell)} {i : Nat} (h : i < ks.length) (h' : i < (mixG S f f' ks i).length) : (mixG S f f' ks i)[i] = grpOf S f ks[i] := by
  have e : (mixG S f f' ks i)[i]? = some (grpOf S f ks[i]) := by
    have hl : (gsOf S f' (ks.take i)).length = i := by simp [gsOf]; omega
    unfold mixG
    rw [List.getElem?_append_right (by omega), hl, Nat.sub_self, List.drop_eq_getElem_cons h]
    rfl
  exact (List.getElem?_eq_some_iff.1 e).2
theorem mixG_set {S : Nat} {f f' : Gf} {ks : List (List Cell)} {i : Nat} (h : i < ks.length) : (mixG S f f' ks i).set i (grpOf S f' ks[i]) = mixG S f f' ks (i + 1) := by
  unfold mixG
  have hl : (gsOf S f' (ks.take i)).length = i := by simp [gsOf]; omega
  rw [List.set_append_right _ _ (by omega), hl, Nat.sub_self, List.drop_eq_getElem_cons h, List.take_succ_eq_append_getElem h]
  simp only [gsOf, List.map_cons, List.set_cons_zero, List.map_append, List.map_nil, List.append_assoc, List.cons_append, List.nil_append]
theorem grpVals_set : ∀ (vs : List (Value × Value)) (gs : List Grp) (i : Nat) (u : Value × Value) (x : Grp), vs.length = gs.length → i < gs.length →
    grpVals (vs.set i u) (gs.set i x) = (((grpVals vs gs).set (i * 3) u.1).set (i * 3 + 1) (.int .i64 x.count)).set (i * 3 + 2) u.2
  | [], gs, i, u, x, h, hi => by simp at h; omega
  | v :: vs, [], i, u, x, h, hi => by simp at hi
  | v :: vs, y :: gs, 0, u, x, h, hi => by simp [grpVals]
  | v :: vs, y :: gs, i + 1, u, x, h, hi => by
    have := grpVals_set vs gs i u x (by simpa using h) (by simpa using hi)
    have e : (i + 1) * 3 = i * 3 + 3 := by omega
    rw [e]
    simp only [List.set_cons_succ, grpVals, this]

/-! ### groups that Apply owns -/
/-- a slice that lay there at w0 in blocks of B, or lies in blocks of its type that were made since -/
def KSl (w0 : World) (B : Nat → Prop) (T : TypeId) (w : World) (v : Value) (n : Nat) (xs : List Value) : Prop := SlB B w0 v n xs ∨ SlT T w0.heap.size w v n xs
section
variable {w0 w w' : World} {B : Nat → Prop} {T T' : TypeId} {v : Value} {n base : Nat} {xs : List Value}
theorem KSl.sl (h : KSl w0 B T w v n xs) (o : Old w0 w) : Sl w v n xs := h.elim (fun h => h.sl.old o) (fun h => h.sl)
theorem KSl.old (h : KSl w0 B T w v n xs) (o : Old w w') : KSl w0 B T w' v n xs := h.imp id (fun h => h.old o)
theorem KSl.kept (h : KSl w0 B T w v n xs) (k : Kept T' base w w') (hne : T ≠ T') : KSl w0 B T w' v n xs := h.imp id (fun h => k.slT h hne)
theorem KSl.form (h : KSl w0 B T w v n xs) : ∃ A cap, v = .slice A n cap := by
  rcases h with h | ⟨A, cap, rfl, _⟩
  · exact h.form
  · exact ⟨A, cap, rfl⟩
theorem KSl.slb (h : KSl w0 B T w v n xs) (o : Old w0 w) : SlB (fun b => B b ∨ w0.heap.size ≤ b) w v n xs :=
  h.elim (fun h => (h.old o).mono (fun _ _ hb => .inl hb)) (fun h => h.slb.mono (fun _ _ hb => .inr hb))
end
def GOwn (w0 : World) (B : Nat → Prop) (w : World) (v : Value) (gs : List Grp) : Prop :=
  ∃ vs : List (Value × Value), vs.length = gs.length ∧ w.ownsRow w0.heap.size 94 3 v gs.length (grpVals vs gs) ∧
    ∀ i, (h : i < gs.length) → (h' : i < vs.length) → KSl w0 B 65 w vs[i].1 gs[i].key.length (rowVals gs[i].key) ∧ KSl w0 B 2 w vs[i].2 gs[i].sums.length (numVals gs[i].sums)
section
variable {w0 w w' : World} {B : Nat → Prop} {v : Value} {gs : List Grp}
theorem GOwn.old (h : GOwn w0 B w v gs) (o : Old w w') : GOwn w0 B w' v gs := by
  obtain ⟨vs, h1, h2, h3⟩ := h
  exact ⟨vs, h1, own_old h2 o, fun i hi hi' => ⟨(h3 i hi hi').1.old o, (h3 i hi hi').2.old o⟩⟩
theorem GOwn.is (h : GOwn w0 B w v gs) (o : Old w0 w) : GrpsIs w v gs := by
  obtain ⟨vs, h1, h2, h3⟩ := h
  exact ⟨vs, h1, (SlT.of_own h2).sl, fun i hi hi' => ⟨(h3 i hi hi').1.sl o, (h3 i hi hi').2.sl o⟩⟩
theorem GOwn.slb (h : GOwn w0 B w v gs) (o : Old w0 w) : GrpsB (fun b => B b ∨ w0.heap.size ≤ b) w v gs := by
  obtain ⟨vs, h1, h2, h3⟩ := h
  exact ⟨vs, h1, (SlT.of_own h2).slb.mono (fun _ _ hb => .inr hb), fun i hi hi' => ⟨(h3 i hi hi').1.slb o, (h3 i hi hi').2.slb o⟩⟩
theorem GOwn.nil_ (w0 : World) (B : Nat → Prop) (w : World) : GOwn w0 B w (.slice none 0 0) [] := ⟨[], rfl, World.ownsRow_nil _ _ _ _, fun i hi => absurd hi (by simp)⟩
theorem grpVals_cell {vs : List (Value × Value)} {l : List Grp} (h : ∀ v ∈ vs, v.1.oneCell' = true ∧ v.2.oneCell' = true) : ∀ u ∈ grpVals vs l, u.oneCell' = true := by
  induction vs generalizing l with
  | nil => intro u hu; cases l <;> simp [grpVals] at hu
  | cons v vs ih =>
    cases l with
    | nil => intro u hu; simp [grpVals] at hu
    | cons x l =>
      intro u hu
      simp only [grpVals, List.mem_cons] at hu
      rcases hu with rfl | rfl | rfl | hu
      · exact (h v (by simp)).1
      · rfl
      · exact (h v (by simp)).2
      · exact ih (fun y hy => h y (by simp [hy])) u hu
end
theorem grpInfo : (Tryz.prog.info? 94).map (fun i => (i.zero, i.size, i.bytes)) = some (some (.agg #[.slice none 0 0, .int .i64 0, .slice none 0 0]), 3, 56) := by kernel_rfl
theorem step_push_grps {o : Oper} {a : Act} {K : Act → World → Prop} {Q : Exit → Act → World → Prop} (w0 w : World) (s x : Operand) (B : Nat → Prop)
    (ho : o.op = .call { callee := .builtin .append, args := #[s, x], argTypes := #[68, 68] })
    (gs : List Grp) (hs : a.eval s = .slice none 0 0) (xv : Value) (hev : a.eval x = xv) (hx : GrpsB B w0 xv gs) (hold : Old w0 w) (hlen : gs.length ≤ 1048576)
    (h : ∀ v' w', GOwn w0 B w' v' gs → Old w0 w' → K (a.put o.dst v') w') : o.wp Tryz.prog a w K Q := by
  obtain ⟨i0, hi, hz0, hz1, hz2⟩ := info_parts grpInfo
  obtain ⟨vs, e1, e2, e3⟩ := hx
  refine wp_append_sl w s x 68 ho w0.heap.size 94 i0 _ 3 56 Tryz.underlying68 hi hz0 hz1 hz2 rfl (by omega) (.slice none 0 0) 0 [] hs (World.ownsRow_nil _ _ _ _)
    xv gs.length (grpVals vs gs) hev (e2.sl.old hold) (grpVals_length vs gs e1) (grpVals_cell (fun v hv => ?_)) (by unfold maxLen; omega) (by omega) hold.size ?_
  · obtain ⟨i, hi, rfl⟩ := List.getElem_of_mem hv
    obtain ⟨A, c, h1⟩ := (e3 i (by omega) hi).1.form
    obtain ⟨A', c', h2⟩ := (e3 i (by omega) hi).2.form
    rw [h1, h2]
    exact ⟨rfl, rfl⟩
  · intro v' w' own' hg
    have hk := Kept.of_grown (World.ownsRow_nil w w0.heap.size 94 3) hg hold.size
    refine h v' w' ⟨vs, e1, by simpa using own', fun i hi hi' => ⟨.inl (e3 i hi hi').1, .inl (e3 i hi hi').2⟩⟩ (hk.old hold (Nat.le_refl _))
theorem step_push_grp {o : Oper} {a : Act} {K : Act → World → Prop} {Q : Exit → Act → World → Prop} (w0 w : World) (s x : Operand) (B : Nat → Prop)
    (ho : o.op = .call { callee := .builtin .append, args := #[s, x], argTypes := #[68, 68] })
    (v : Value) (gs : List Grp) (hs : a.eval s = v) (hown : GOwn w0 B w v gs)
    (g cap : Nat) (kv sv : Value) (e : Grp) (hx : a.eval x = .slice (some ⟨g, 0, none⟩) 1 cap)
    (h0 : w.cell? ⟨g, 0, none⟩ = some kv) (h1 : w.cell? ⟨g, 1, none⟩ = some (.int .i64 e.count)) (h2 : w.cell? ⟨g, 2, none⟩ = some sv) (hk : SlT 65 w0.heap.size w kv e.key.length (rowVals e.key)) (hv : SlT 2 w0.heap.size w sv e.sums.length (numVals e.sums))
    (hlen : gs.length + 1 ≤ 1048576) (hold : Old w0 w)
    (h : ∀ v' w', GOwn w0 B w' v' (gs ++ [e]) → Kept 94 w0.heap.size w w' → K (a.put o.dst v') w') : o.wp Tryz.prog a w K Q := by
  obtain ⟨i0, hi, hz0, hz1, hz2⟩ := info_parts grpInfo
  obtain ⟨vs, e1, e2, e3⟩ := hown
  obtain ⟨A, cp, rfl, _⟩ := id hk
  obtain ⟨C, cq, rfl, _⟩ := id hv
  refine wp_append_own w s x 68 ho w0.heap.size 94 i0 (.agg #[.slice none 0 0, .int .i64 0, .slice none 0 0]) 3 56 Tryz.underlying68 hi hz0 hz1 hz2 rfl (by omega) v gs.length (grpVals vs gs) hs e2
    ⟨g, 0, none⟩ 1 cap [.slice A e.key.length cp, .int .i64 e.count, .slice C e.sums.length cq] hx rfl ?_ ?_ (by unfold maxLen; omega) (by omega) hold.size ?_
  · intro j u hu
    match j, hu with
    | 0, hu => simp at hu; subst hu; exact h0
    | 1, hu => simp at hu; subst hu; simpa [Addr.add] using h1
    | 2, hu => simp at hu; subst hu; simpa [Addr.add] using h2
    | j + 3, hu => simp at hu
  · intro u hu
    simp at hu
    rcases hu with rfl | rfl | rfl <;> rfl
  · intro v' w' own' hg _
    have hK := Kept.of_grown e2 hg hold.size
    refine h v' w' ⟨vs ++ [(.slice A e.key.length cp, .slice C e.sums.length cq)], by simp [e1], ?_, ?_⟩ hK
    · rw [grpVals_append vs gs _ _ e1, List.length_append]
      exact own'
    · intro i hi hi'
      rcases Nat.lt_or_ge i gs.length with hlt | hge
      · have : i < vs.length := by omega
        rw [List.getElem_append_left this]
        simp only [List.getElem_append_left hlt]
        exact ⟨(e3 i hlt this).1.kept hK (by decide), (e3 i hlt this).2.kept hK (by decide)⟩
      · have : i = gs.length := by simp at hi; omega
        subst this
        simp only [List.getElem_append_right (Nat.le_refl _), Nat.sub_self, List.getElem_cons_zero]
        rw [List.getElem_append_right (by omega)]
        simp only [e1, Nat.sub_self, List.getElem_cons_zero]
        exact ⟨.inr (hK.slT hk (by decide)), .inr (hK.slT hv (by decide))⟩
/-- where the groups lie -/
theorem GOwn.open_ {w0 w : World} {B : Nat → Prop} {v : Value} {gs : List Grp} (h : GOwn w0 B w v gs) (i : Nat) (hi : i < gs.length) : ∃ g cap kv sv, v = .slice (some ⟨g, 0, none⟩) gs.length cap ∧ gs.length ≤ cap ∧ cap ≤ maxLen ∧ w0.heap.size ≤ g ∧
    w.cell? ⟨g, i * 3, none⟩ = some kv ∧ w.cell? ⟨g, i * 3 + 1, none⟩ = some (.int .i64 gs[i].count) ∧ w.cell? ⟨g, i * 3 + 2, none⟩ = some sv ∧ (∀ j, w.frozen? ⟨g, j, none⟩ = false) ∧
    KSl w0 B 65 w kv gs[i].key.length (rowVals gs[i].key) ∧ KSl w0 B 2 w sv gs[i].sums.length (numVals gs[i].sums) ∧
    ∀ w', Old w w' → ∀ sv' c ss, KSl w0 B 2 w' sv' ss.length (numVals ss) →
      GOwn w0 B (((w'.setCell ⟨g, i * 3, none⟩ kv).setCell ⟨g, i * 3 + 1, none⟩ (.int .i64 c)).setCell ⟨g, i * 3 + 2, none⟩ sv') v (gs.set i ⟨gs[i].key, c, ss⟩) := by
  obtain ⟨vs, e1, e2, e3⟩ := h
  have hv : i < vs.length := by omega
  obtain ⟨r1, r2⟩ := id e2
  rcases r2 with ⟨rfl, r3⟩ | ⟨g, cap, cur, rfl, hb, hh, hn, hm, hs, ht⟩
  · omega
  · obtain ⟨g1, g2, g3⟩ := grpVals_get vs gs i hi hv
    have hcell : ∀ j u, j < gs.length * 3 → (grpVals vs gs)[j]? = some u → w.cell? ⟨g, j, none⟩ = some u := fun j u hj hu => (e2.cellAt j hj).trans hu
    refine ⟨g, cap, vs[i].1, vs[i].2, rfl, hn, hm, hb, hcell _ _ (by omega) g1, hcell _ _ (by omega) g2, hcell _ _ (by omega) g3, fun j => e2.frozenAt j, (e3 i hi hv).1, (e3 i hi hv).2, fun w' o sv' c ss hss => ?_⟩
    have s1 := (own_old e2 o).stored (i * 3) vs[i].1
    have s2 := s1.1.stored (i * 3 + 1) (.int .i64 c)
    have s3 := s2.1.stored (i * 3 + 2) sv'
    have hgr : Chg (fun b => b = g) w' (((w'.setCell ⟨g, i * 3, none⟩ vs[i].1).setCell ⟨g, i * 3 + 1, none⟩ (.int .i64 c)).setCell ⟨g, i * 3 + 2, none⟩ sv') :=
      ((Chg.of_grown s1.2).trans (Chg.of_grown s2.2) (fun _ _ e => e) (fun _ _ e => e)).trans (Chg.of_grown s3.2) (fun _ _ e => e) (fun _ _ e => e)
    have hh' := o.heap hh
    have hks : ∀ {T : TypeId} {u : Value} {n : Nat} {xs : List Value}, T ≠ 94 → KSl w0 B T w' u n xs → KSl w0 B T (((w'.setCell ⟨g, i * 3, none⟩ vs[i].1).setCell ⟨g, i * 3 + 1, none⟩ (.int .i64 c)).setCell ⟨g, i * 3 + 2, none⟩ sv') u n xs := by
      intro T u n xs hT hk
      refine hk.imp id (fun hk => hk.chg hgr (fun b cs f _ hb' e => ?_))
      subst e
      rw [hh'] at hb'
      injection hb' with hb'
      injection hb' with _ hT' _
      exact hT hT'.symm
    refine ⟨vs.set i (vs[i].1, sv'), by simp [e1], ?_, ?_⟩
    · rw [grpVals_set vs gs i _ _ e1 hi, List.length_set]
      exact s3.1
    · intro j hj hj'
      rw [List.length_set] at hj hj'
      by_cases e : i = j
      · subst e
        simp only [List.getElem_set_self]
        exact ⟨hks (by decide) ((e3 i hi hv).1.old o), hks (by decide) hss⟩
      · simp only [List.getElem_set_ne e]
        exact ⟨hks (by decide) ((e3 j hj hj').1.old o), hks (by decide) ((e3 j hj hj').2.old o)⟩
theorem mix_open {w0 w : World} {B : Nat → Prop} {A : Option Addr} {c S k : Nat} {f f' : Gf} {nks : List (List Cell)} (h : GOwn w0 B w (.slice A nks.length c) (mixG S f f' nks k)) (hk : k < nks.length) :
    ∃ g kv sv, A = some ⟨g, 0, none⟩ ∧ w0.heap.size ≤ g ∧ w.cell? ⟨g, k * 3, none⟩ = some kv ∧ w.cell? ⟨g, k * 3 + 1, none⟩ = some (.int .i64 (f nks[k] 0)) ∧ w.cell? ⟨g, k * 3 + 2, none⟩ = some sv ∧ (∀ j, w.frozen? ⟨g, j, none⟩ = false) ∧
    KSl w0 B 65 w kv nks[k].length (rowVals nks[k]) ∧ KSl w0 B 2 w sv S (numVals (sumsOf S f nks[k])) ∧
    ∀ w', Old w w' → ∀ sv', KSl w0 B 2 w' sv' S (numVals (sumsOf S f' nks[k])) →
      GOwn w0 B (((w'.setCell ⟨g, k * 3, none⟩ kv).setCell ⟨g, k * 3 + 1, none⟩ (.int .i64 (f' nks[k] 0))).setCell ⟨g, k * 3 + 2, none⟩ sv') (.slice A nks.length c) (mixG S f f' nks (k + 1)) := by
  have hl := mixG_len S f f' nks k
  obtain ⟨g, cap, kv, sv, h1, h2, h3, h4, h5, h6, h7, h8, h9, h10, h11⟩ := h.open_ k (by rw [hl]; exact hk)
  rw [mixG_at hk] at h6 h9 h10 h11
  injection h1 with hA hN hC
  refine ⟨g, kv, sv, hA, h4, h5, h6, h7, h8, h9, by have := h10; rw [show (grpOf S f nks[k]).sums.length = S from sumsOf_len _ _ _] at this; exact this, fun w' o sv' hs => ?_⟩
  have := h11 w' o sv' (f' nks[k] 0) (sumsOf S f' nks[k]) (by rw [sumsOf_len]; exact hs)
  rw [← mixG_set hk]
  exact this
def zeros64 (n : Nat) : Array Value := madeCells (Value.int .i64 0).cells n
theorem make_i64 (n : Nat) (hn : n ≤ 1048576) (w : World) : (Instr.makeSlice 61 (.int .i64 n) (.int .i64 n)).run Tryz.prog w = .ok (.slice (some ⟨w.heap.size, 0, none⟩) n n) (w.alloc (.cells (zeros64 n) 2)) := by
  obtain ⟨i, hi, hz0, hz1, hz2⟩ := info_parts (show (Tryz.prog.info? 2).map (fun i => (i.zero, i.size, i.bytes)) = some (some (.int .i64 0), 1, 8) by kernel_rfl)
  rw [run_makeSlice w 61 2 i _ Tryz.underlying61 hi hz0 .i64 .i64 n n (by omega) (by omega) (by rw [hz1]; omega) (by rw [hz2]; omega) (by omega)]
  unfold zeros64
  rw [hz1]
  simp
theorem zeros_sl {w : World} {lo g n : Nat} (hg : lo ≤ g) (hh : w.heap[g]? = some (.cells (zeros64 n) 2 (0, 0))) (hn : n ≤ 1048576) : SlT 2 lo w (.slice (some ⟨g, 0, none⟩) n n) n (numVals (List.replicate n 0)) := by
  refine ⟨_, _, rfl, Nat.le_refl _, by unfold maxLen; omega, fun _ => ⟨g, 0, _, rfl, hg, hh, fun j u hu => ?_⟩⟩
  have := toList_madeCells_one (.int .i64 0) n
  unfold zeros64
  rw [show (Value.int IntKind.i64 0).cells = #[.int .i64 0] from rfl, Nat.zero_add, ← Array.getElem?_toList, this]
  rw [← hu]
  simp [numVals]
theorem zero_sums {S : Nat} {f : Gf} {k : List Cell} (h : ∀ i, i ≤ S → f k i = 0) : grpOf S f k = ⟨k, 0, List.replicate S 0⟩ := by
  unfold grpOf sumsOf
  rw [h 0 (by omega)]
  congr 1
  apply List.ext_getElem
  · simp
  · intro i h1 h2
    simp at h1
    simp [h (i + 1) (by omega)]

theorem GrpsB.mono {B B' : Nat → Prop} {w : World} {v : Value} {gs : List Grp} (h : GrpsB B w v gs) (hB : ∀ b, b < w.heap.size → B b → B' b) : GrpsB B' w v gs := by
  obtain ⟨vs, h1, h2, h3⟩ := h
  exact ⟨vs, h1, h2.mono hB, fun i hi hi' => ⟨(h3 i hi hi').1.mono hB, (h3 i hi hi').2.mono hB⟩⟩
/-! ### the document's groups between calls -/
structure HSt (w : World) (h K S m : Nat) (f : Gf) (ks : List (List Cell)) (B : Nat → Prop) : Prop where
  is : HIs w h K S (gsOf S f ks) B
  nodup : ks.Nodup
  len : ∀ k ∈ ks, k.length = K
  cov : ∀ k, k ∉ ks → ∀ i, i ≤ S → f k i = 0
  cnt : ks.length ≤ m
  fit : GFit S f
theorem HIs.chg {w w' : World} {h K S : Nat} {gs : List Grp} {B X : Nat → Prop} (H : HIs w h K S gs B) (c : Chg X w w') (hh : ¬ X h) (hd : ∀ b, b < w.heap.size → B b → ¬ X b) : HIs w' h K S gs B where
  c0 := (World.cell?_of_block (a := ⟨h, 0, none⟩) (c.block h H.lt hh)).trans H.c0
  c1 := (World.cell?_of_block (a := ⟨h, 1, none⟩) (c.block h H.lt hh)).trans H.c1
  l := by
    obtain ⟨v, h1, h2⟩ := H.l
    exact ⟨v, (World.cell?_of_block (a := ⟨h, 2, none⟩) (c.block h H.lt hh)).trans h1, h2.chg c hd⟩
  low := fun b hb => Nat.lt_of_lt_of_le (H.low b hb) c.size
  noh := H.noh
  free := fun i => (World.frozen?_of_block (a := ⟨h, i, none⟩) (c.block h H.lt hh)).trans (H.free i)
theorem HSt.chg {w w' : World} {h K S m : Nat} {f : Gf} {ks : List (List Cell)} {B X : Nat → Prop} (H : HSt w h K S m f ks B) (c : Chg X w w') (hh : ¬ X h) (hd : ∀ b, b < w.heap.size → B b → ¬ X b) : HSt w' h K S m f ks B :=
  ⟨H.is.chg c hh hd, H.nodup, H.len, H.cov, H.cnt, H.fit⟩
theorem HSt.old {w w' : World} {h K S m : Nat} {f : Gf} {ks : List (List Cell)} {B : Nat → Prop} (H : HSt w h K S m f ks B) (o : Old w w') : HSt w' h K S m f ks B :=
  H.chg (X := fun _ => False) (Chg.of_old o) (fun e => e) (fun _ _ _ e => e)
theorem HSt.mono {w : World} {h K S m m' : Nat} {f : Gf} {ks : List (List Cell)} {B : Nat → Prop} (H : HSt w h K S m f ks B) (hm : m ≤ m') : HSt w h K S m' f ks B :=
  ⟨H.is, H.nodup, H.len, H.cov, Nat.le_trans H.cnt hm, H.fit⟩
/-- the document's Apply -/
def HAppPost (w : World) (h K S m : Nat) (f : Gf) (l : List Ent) (B : Nat → Prop) (e : Ending) (w' : World) : Prop :=
  ∃ (out : Value) (z : List Item) (ks' : List (List Cell)) (B' : Nat → Prop), e = .returned (.tuple #[out, .int .i64 (appErr K S f l)]) ∧ ItemsT 60 65 w.heap.size w' out z ∧ Delta K S f (appF K S f l) z ∧
    HSt w' h K S (m + l.length) (appF K S f l) ks' B' ∧ (∀ b, B' b → B b ∨ w.heap.size ≤ b) ∧ Chg (fun b => b = h) w w'
theorem HAppPost.same {w w' : World} {h K S m : Nat} {f : Gf} {l : List Ent} {ks : List (List Cell)} {B : Nat → Prop} {n : Int} (H : HSt w h K S m f ks B) (o : Old w w') (he : appErr K S f l = n) (hf : appF K S f l = f) :
    HAppPost w h K S m f l B (.returned (.tuple #[.slice none 0 0, .int .i64 n])) w' := by
  refine ⟨_, [], ks, B, by rw [he], ⟨[], rfl, SlT.nil_ _, fun i h => absurd h (by simp)⟩, by rw [hf]; exact Delta.none_ K S f, ?_, fun _ hb => .inl hb, Chg.of_old o⟩
  rw [hf]
  exact (H.old o).mono (by omega)
end Go.Proofs.YtmfbblcipakaiaaGreatDoor
