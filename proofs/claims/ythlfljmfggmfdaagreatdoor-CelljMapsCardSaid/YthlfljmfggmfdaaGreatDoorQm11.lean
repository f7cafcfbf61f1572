/- tape.whole: a list, or an object, of parts that may be. -/
import Derived.Test.YthlfljmfggmfdaaGreatDoorQm10
/-! ### tape.whole: a list, or an object, of parts that may be. -/
namespace Go.Proofs.YthlfljmfggmfdaaGreatDoor
open Go.RowKit

/-- a slice value that is these lists of nodes -/
def PartsIs (w : World) (v : Value) (ps : List (List Nd)) : Prop :=
  ∃ vs : List Value, vs.length = ps.length ∧ Sl w v ps.length vs ∧ ∀ i, (h : i < ps.length) → (h' : i < vs.length) → NodesIs w vs[i] ps[i]
theorem PartsIs.old {w w' : World} {v : Value} {ps : List (List Nd)} (h : PartsIs w v ps) (ho : Old w w') : PartsIs w' v ps := by
  obtain ⟨vs, h1, h2, h3⟩ := h
  exact ⟨vs, h1, h2.old ho, fun i hi hi' => (h3 i hi hi').old ho⟩
theorem PartsIs.open_ {w : World} {v : Value} {ps : List (List Nd)} (h : PartsIs w v ps) : ∃ A cap, v = .slice A ps.length cap ∧ ps.length ≤ cap ∧ cap ≤ maxLen ∧ (ps.length = 0 ∨ ∃ b off, A = some ⟨b, off, none⟩ ∧ ∀ i, (hi : i < ps.length) → ∃ A' c', w.cell? ⟨b, off + i, none⟩ = some (.slice A' ps[i].length c') ∧ ps[i].length ≤ c' ∧ c' ≤ maxLen ∧ NodesIs w (.slice A' ps[i].length c') ps[i]) := by
  obtain ⟨vs, h1, ⟨A, cap, rfl, h2, h3, h4⟩, h5⟩ := h
  refine ⟨A, cap, rfl, h2, h3, ?_⟩
  rcases Nat.eq_zero_or_pos ps.length with h0 | h0
  · exact .inl h0
  · obtain ⟨b, off, rfl, hc⟩ := h4 (by intro e; rw [e] at h1; simp at h1; omega)
    refine .inr ⟨b, off, rfl, fun i hi => ?_⟩
    have hi' : i < vs.length := by omega
    obtain ⟨A', c', e, g1, g2⟩ := (h5 i hi hi').form
    have hn := h5 i hi hi'
    have hcell := hc i vs[i] (List.getElem?_eq_getElem hi')
    rw [e] at hn hcell
    exact ⟨A', c', hcell, g1, g2, hn⟩
def J.rekey (k : ByteArray) : J → J
  | .mk h l => .mk ⟨h.kind, k, h.n, h.s⟩ l
def rekeys : List ByteArray → List J → List J
  | k :: ks, j :: js => j.rekey k :: rekeys ks js
  | _, _ => []
theorem rekeys_length : ∀ (ks : List ByteArray) (js : List J), ks.length = js.length → (rekeys ks js).length = js.length
  | [], [], _ => rfl
  | k :: ks, j :: js, h => by simp only [rekeys, List.length_cons]; rw [rekeys_length ks js (by simpa using h)]
theorem rekeys_get : ∀ (ks : List ByteArray) (js : List J) (i : Nat) (h : i < js.length) (h' : i < ks.length) (h'' : i < (rekeys ks js).length), (rekeys ks js)[i] = js[i].rekey ks[i]
  | k :: ks, j :: js, 0, _, _, _ => rfl
  | k :: ks, j :: js, i + 1, h, h', h'' => by
    simp only [rekeys, List.getElem_cons_succ]
    exact rekeys_get ks js i (by simpa using h) (by simpa using h') (by simpa [rekeys] using h'')
theorem rekey_size (k : ByteArray) (j : J) : (j.rekey k).flat.length = j.flat.length := by cases j; simp [J.rekey, flat_mk]
theorem rekey_vals (k : ByteArray) (j : J) : ndVals (j.rekey k).flat = (ndVals j.flat).set 1 (.string k) := by
  cases j
  simp [J.rekey, flat_mk, ndVals, Nd.vals]
theorem rekey_deep (k : ByteArray) (j : J) : (j.rekey k).deep = j.deep := by cases j; simp [J.rekey, J.deep]
theorem rekeys_deeps : ∀ (ks : List ByteArray) (js : List J), ks.length = js.length → J.deeps (rekeys ks js) = J.deeps js
  | [], [], _ => rfl
  | k :: ks, j :: js, h => by simp only [rekeys, J.deeps, rekey_deep]; rw [rekeys_deeps ks js (by simpa using h)]
/-- what a list, or an object, is before its size is known, with some parts -/
def madeTo (kind : Int) (l : List J) (z : Int) : List Nd := ⟨kind, none_, 0, none_, z⟩ :: J.flats l
theorem madeTo_length (kind : Int) (l : List J) (z : Int) : (madeTo kind l z).length = 1 + (J.flats l).length := by simp [madeTo]; omega
theorem madeTo_vals (kind : Int) (l : List J) (z z' : Int) : ndVals (madeTo kind l z') = (ndVals (madeTo kind l z)).set 4 (.int .i64 z') := by simp [madeTo, ndVals, Nd.vals]
theorem madeTo_snoc (kind : Int) (l : List J) (j : J) (k : ByteArray) (z : Int) : ndVals (madeTo kind (l ++ [j.rekey k]) z) = (ndVals (madeTo kind l z ++ j.flat)).set ((1 + (J.flats l).length) * 5 + 1) (.string k) := by
  have e : madeTo kind (l ++ [j.rekey k]) z = madeTo kind l z ++ (j.rekey k).flat := by simp [madeTo, flats_append, flats_one]
  rw [e, ndVals_append, ndVals_append, rekey_vals, List.set_append_right _ _ (by rw [ndVals_length, madeTo_length]; omega), ndVals_length, madeTo_length, Nat.add_sub_cancel_left]
/-- what comes of parts that may be -/
def WholeT (kind : Int) (l : List J) (ps : List Nd) (e : Int) : Prop :=
  (4000 < 1 + (J.flats l).length ∧ ps = [] ∧ e = 5) ∨ (1 + (J.flats l).length ≤ 4000 ∧ 64 ≤ J.deeps l ∧ ps = [] ∧ e = 72) ∨ (1 + (J.flats l).length ≤ 4000 ∧ J.deeps l < 64 ∧ ps = J.flat (.mk ⟨kind, none_, 0, none_⟩ l) ∧ e = 0)
def NewNodesE (w0 : World) (l : List Nd) (n : Int) (e : Ending) (w' : World) : Prop := ∃ v, e = .returned (.tuple #[v, .int .i64 n]) ∧ NodesT w0.heap.size w' v l ∧ Old w0 w'
theorem own_node (w : World) (kind : Int) : NodesOwn w.heap.size (w.alloc (.cells #[.int .i64 kind, .string ⟨#[]⟩, .int .i64 0, .string ⟨#[]⟩, .int .i64 0] 36)) (.slice (some ⟨w.heap.size, 0, none⟩) 1 1) (madeTo kind [] 0) :=
  World.ownsRow_lit w #[.int .i64 kind, .string ⟨#[]⟩, .int .i64 0, .string ⟨#[]⟩, .int .i64 0] 1 (Nat.le_refl _) (by unfold maxLen; omega) rfl
theorem own_set {base T size n : Nat} {w : World} {v : Value} {xs : List Value} (h : w.ownsRow base T size v n xs) (hn : 0 < n) : ∃ g cap, v = .slice (some ⟨g, 0, none⟩) n cap ∧ n ≤ cap ∧ cap ≤ maxLen ∧ base ≤ g ∧ (∀ j u, xs[j]? = some u → w.cell? ⟨g, j, none⟩ = some u) ∧ (∀ j, w.frozen? ⟨g, j, none⟩ = false) ∧ ∀ j u, (w.setCell ⟨g, j, none⟩ u).ownsRow base T size v n (xs.set j u) := by
  obtain ⟨g, cap, rfl, h1, h2, h3, h4⟩ := own_fits h hn
  exact ⟨g, cap, rfl, h1, h2, h3, h4, fun j => h.frozenAt j, fun j u => (h.stored j u).1⟩
theorem flats_take_snoc {l : List J} {k : Nat} (h : k < l.length) : J.flats (l.take (k + 1)) = J.flats (l.take k) ++ l[k].flat := by
  rw [List.take_succ_eq_append_getElem h, flats_append, flats_one]
theorem flats_take_le (l : List J) (k : Nat) : (J.flats (l.take k)).length ≤ (J.flats l).length := by
  have e : J.flats l = J.flats (l.take k) ++ J.flats (l.drop k) := by rw [← flats_append, List.take_append_drop]
  rw [e, List.length_append]
  omega
theorem deeps_take_snoc {l : List J} {k : Nat} (h : k < l.length) : J.deeps (l.take (k + 1)) = max (J.deeps (l.take k)) l[k].deep := by
  rw [List.take_succ_eq_append_getElem h, deeps_append]
  simp [J.deeps]

/-- a slice value that is these texts -/
abbrev TextsIs (w : World) (v : Value) (l : List ByteArray) : Prop := Sl w v l.length (l.map Value.string)
theorem Sl.texts {w : World} {v : Value} {l : List ByteArray} (h : TextsIs w v l) : ∃ A cap, v = .slice A l.length cap ∧ l.length ≤ cap ∧ cap ≤ maxLen ∧ (l.length = 0 ∨ ∃ b off, A = some ⟨b, off, none⟩ ∧ ∀ i, (hi : i < l.length) → w.cell? ⟨b, off + i, none⟩ = some (.string l[i])) := by
  obtain ⟨A, cap, rfl, h1, h2, h3⟩ := h
  refine ⟨A, cap, rfl, h1, h2, ?_⟩
  rcases Nat.eq_zero_or_pos l.length with h0 | h0
  · exact .inl h0
  · obtain ⟨b, off, rfl, hc⟩ := h3 (by intro e; have := congrArg List.length e; simp at this; subst this; simp at h0)
    exact .inr ⟨b, off, rfl, fun i hi => hc i _ (by simp [List.getElem?_eq_getElem hi])⟩
set_option maxRecDepth 100000 in
theorem obj_key (i kb : Nat) (kv : Value) (ks : List ByteArray) (w : World) (hi : i < ks.length) (hkb : w.cell? ⟨kb, 0, none⟩ = some kv) (hkv : TextsIs w kv ks) : Calls Tryz.prog 68 #[.int .i64 i, .pointer (some ⟨kb, 0, none⟩)] w fun e w' => e = .returned (.string ks[i]) ∧ Old w w' := by
  obtain ⟨A, cap, rfl, h1, h2, h3⟩ := hkv.texts
  unfold maxLen at h2
  obtain ⟨b, off, rfl, hc⟩ := h3.resolve_left (by omega)
  have hx := hc i hi
  clear h3 hc hkv
  go_enter Tryz.func68, Tryz.ntmps68
  go_wp2_with fail
  go_ret
  exact ⟨rfl, Old.refl _⟩

set_option maxRecDepth 100000 in
set_option maxHeartbeats 2000000 in
theorem whole_obj (v : Value) (pl : List (List Nd)) (js : List J) (ks : List ByteArray) (ps : List Nd) (er : Int) (w : World) (kb : Nat) (kv : Value) (hkb : w.cell? ⟨kb, 0, none⟩ = some kv) (hkv : TextsIs w kv ks) (hp : PartsIs w v pl) (hlen : pl.length = js.length) (hks : ks.length = js.length) (hmay : ∀ i, (h : i < pl.length) → (h' : i < js.length) → May pl[i] js[i]) (htx : ∀ p ∈ pl, TextsOk p) (hT : Tabs w)
    (hw : WholeT 7 (rekeys ks js) ps er) :
    Calls Tryz.prog 67 #[.int .i64 7, .func (.func 68) #[] #[.pointer (some ⟨kb, 0, none⟩)], v] w (NewNodesE w ps er) := by
  obtain ⟨A, ca, rfl, hla, hma, hc⟩ := hp.open_
  unfold maxLen at hma
  have HC := hide hc
  have HMAY := hide hmay
  have HTX := hide htx
  have HT := hide hT
  have HW := hide hw
  have HKS := hide hks
  have KEYC := hide (fun w' (ho : Old w w') (i : Nat) (hi : i < ks.length) => obj_key i kb kv ks w' hi (ho.cell hkb) (hkv.old ho))
  clear hkb hkv
  obtain ⟨rk, hrk⟩ : ∃ rk, Hid (rekeys ks js = rk) := ⟨_, hide rfl⟩
  have HRK := hide hrk.out
  have HRL := hide (show rk.length = pl.length by rw [← hrk.out, rekeys_length ks js hks, hlen])
  have HRD := hide (show J.deeps rk = J.deeps js by rw [← hrk.out, rekeys_deeps ks js hks])
  have HLEN := hide hlen
  rw [hrk.out] at HW
  clear hp hc hmay htx hT hw hks hlen hrk
  go_enter Tryz.func67, Tryz.ntmps67
  go_wp2_with fail
  go_loopw [8, 9, 18] (fun o d i wr => ∃ (k dd N : Nat), i = .int .i64 k ∧ d = .int .i64 dd ∧ k ≤ pl.length ∧ dd ≤ 64 ∧ N ≤ 3999 ∧ Hid ((J.flats (rk.take k)).length = N) ∧ Hid (J.deeps (rk.take k) = dd) ∧ Hid (NodesOwn w.heap.size wr o (madeTo 7 (rk.take k) 0)) ∧ Hid (Old w wr)) (fun _ _ i _ => pl.length - (intOf i).toNat)
  case atStart => exact ⟨0, 0, 0, rfl, rfl, by omega, by omega, by omega, hide rfl, hide rfl, hide (own_node w 7), hide ((Old.refl w).alloc _)⟩
  case round =>
    obtain ⟨k, dd, N, rfl, rfl, hk, hdd, hN, HN, HDD, HOWN, HO⟩ := hrel
    have HML := hide (show (madeTo 7 (rk.take k) 0).length = N + 1 by rw [madeTo_length, HN.out]; omega)
    have OW := hide (show wr.ownsRow w.heap.size 36 5 _ (N + 1) (ndVals (madeTo 7 (rk.take k) 0)) by have := HOWN.out; unfold NodesOwn at this; rwa [HML.out] at this)
    obtain ⟨g, cap, rfl, s1, s2, s3, s4, s5, s6⟩ := own_set OW.out (by omega)
    unfold maxLen at s2
    by_cases hlt : k < pl.length
    · clear s4 s5 s6
      obtain ⟨b1, o1, rfl, hc1⟩ := HC.out.resolve_left (by omega)
      obtain ⟨A', c', x0, x1, x2, x3⟩ := hc1 k hlt
      have hjl : k < js.length := by have := HLEN.out; omega
      have hkl : k < ks.length := by have := HKS.out; omega
      have hrkl : k < rk.length := by have := HRL.out; omega
      have hm := HMAY.out k hlt hjl
      have HPF := hide (show pl[k] = js[k].flat from hm.1.2.2)
      have HR := hide (show rk[k] = js[k].rekey ks[k] by have := rekeys_get ks js k hjl hkl (by rw [HRK.out]; exact hrkl); simp only [HRK.out] at this; exact this)
      obtain ⟨dj, hdj⟩ : ∃ dj, Hid (js[k].deep = dj) := ⟨_, hide rfl⟩
      have hdj64 : dj ≤ 64 := by rw [← hdj.out]; exact hm.2.2
      have CD := hide (show ∀ w', Old w w' → Calls Tryz.prog 106 #[.slice A' pl[k].length c'] w' fun e w2 => e = .returned (.int .i64 dj) ∧ Old w' w2 from fun w' ho => num_as (deep_run _ _ w' (x3.old ho) (HTX.out _ (List.getElem_mem hlt)) (HT.out.old ho)) (by rw [deepT_may hm, hdj.out]))
      have XN := hide x3
      obtain ⟨q, hq⟩ : ∃ q, Hid (pl[k].length = q) := ⟨_, hide rfl⟩
      have hq0 : 0 < q := by rw [← hq.out, HPF.out]; exact flat_pos _
      have hq4 : q ≤ 4000 := by rw [← hq.out]; exact hm.2.1
      have HRS := hide (show rk[k].flat.length = q by rw [HR.out, rekey_size, ← HPF.out, hq.out])
      have HTOT := hide (show N + q ≤ (J.flats rk).length by have h1 := flats_take_le rk (k + 1); rw [flats_take_snoc hrkl, List.length_append, HN.out, HRS.out] at h1; exact h1)
      rw [hq.out] at x0 x1 CD
      have HX := hide x0
      have e0 := HO.out.cell x0
      unfold maxLen at x2
      clear hc1 x0 x3 hm
      have XQ : ∀ w', Old w w' → NodesIs w' (.slice A' q c') pl[k] := fun w' ho => by rw [← hq.out]; exact XN.out.old ho
      have HXQ := hide XQ
      clear XQ
      by_cases hlim : 4000 < N + 1 + q
      · have hlim' : (4000 : Int) - ((N : Int) + 1) < (q : Int) := by omega
        have FIN := hide (show ps = [] ∧ er = 5 by
          have := HTOT.out
          rcases HW.out with ⟨_, h1, h2⟩ | ⟨h, _⟩ | ⟨h, _⟩
          · exact ⟨h1, h2⟩
          · omega
          · omega)
        go_wp2_with fail
        go_ret2
        exact ⟨_, by rw [FIN.out.2]; rfl, by rw [FIN.out.1]; exact SlT.nil_ _, HO.out⟩
      · have hlim' : ¬ (4000 : Int) - ((N : Int) + 1) < (q : Int) := by omega
        go_wp2_with fail
        refine (CD.out _ HO.out).mono ?_
        rintro e w3 ⟨rfl, o3⟩
        have O3 := hide (Old.trans HO.out o3)
        have OW3 := hide (own_old HOWN.out o3)
        clear o3 e0
        have hl1 : (madeTo 7 (rk.take k) 0).length + pl[k].length ≤ 4194304 := by rw [HML.out, hq.out]; omega
        go_upto_region 11 with (at_builtin; refine wpList_plain rfl (fun K hK => ?_); refine step_push_nodes _ _ _ rfl w.heap.size _ (madeTo 7 (rk.take k) 0) rfl OW3.out _ pl[k] rfl (HXQ.out _ O3.out) hl1 O3.out.size ?_; intro v4 w4 own4 kept4; refine hK _ _ ?_; clear hK)
        have O4 := hide (kept4.old O3.out (Nat.le_refl _))
        have OW4 := hide (show w4.ownsRow w.heap.size 36 5 v4 (N + 1 + q) (ndVals (madeTo 7 (rk.take k) 0 ++ pl[k])) by have h := own4; unfold NodesOwn at h; rwa [List.length_append, HML.out, hq.out] at h)
        clear own4 kept4 hl1
        obtain ⟨g4, cap4, rfl, r1, r2, r3, r4, r5, r6⟩ := own_set OW4.out (by omega)
        unfold maxLen at r2
        clear r4 r5 r6
        go_wp2_with fail
        refine (KEYC.out w4 O4.out k hkl).mono ?_
        rintro e w5 ⟨rfl, o5⟩
        have OW5 := hide (own_old OW4.out o5)
        have O5 := hide (Old.trans O4.out o5)
        obtain ⟨g5, cap5, he, _, _, r3', r4, r5, r6⟩ := own_set OW5.out (by omega)
        injection he with he1 _ he3
        injection he1 with he1
        injection he1 with he1
        subst he1 he3
        have hlt5 : (N + 1) * 5 + 1 < (ndVals (madeTo 7 (rk.take k) 0 ++ pl[k])).length := by rw [ndVals_length, List.length_append, HML.out, hq.out]; omega
        have c5 := r4 ((N + 1) * 5 + 1) _ (List.getElem?_eq_getElem hlt5)
        have f5 := r5 ((N + 1) * 5 + 1)
        have R6 := hide (r6 ((N + 1) * 5 + 1) (.string ks[k]))
        have O6 := hide (O5.out.setCell (p := ⟨g4, (N + 1) * 5 + 1, none⟩) r3' (.string ks[k]))
        generalize (ndVals (madeTo 7 (rk.take k) 0 ++ pl[k]))[(N + 1) * 5 + 1] = zz at c5
        clear r3' r4 r5 r6 o5 hlt5
        have HNEW := hide (show (J.flats (rk.take (k + 1))).length = N + q by rw [flats_take_snoc hrkl, List.length_append, HN.out, HRS.out])
        have HDNEW := hide (show J.deeps (rk.take (k + 1)) = max dd dj by rw [deeps_take_snoc hrkl, HDD.out, HR.out, rekey_deep, hdj.out])
        have HVALS := hide (show ndVals (madeTo 7 (rk.take (k + 1)) 0) = (ndVals (madeTo 7 (rk.take k) 0 ++ pl[k])).set ((N + 1) * 5 + 1) (.string ks[k]) by
          rw [List.take_succ_eq_append_getElem hrkl, HR.out, madeTo_snoc, HN.out, HPF.out, Nat.add_comm 1 N]
)
        go_wp2_with fail
        go_roundw
        case rel => exact ⟨k + 1, max dd dj, N + q, by go_num, by go_num, by omega, by omega, by omega, HNEW, HDNEW, hide (by unfold NodesOwn; rw [madeTo_length, HNEW.out, HVALS.out, show 1 + (N + q) = N + 1 + q by omega]; exact R6.out), O6⟩
        case measure => simp [intOf]; omega
    · have hkk : k = pl.length := by omega
      have HALL := hide (show rk.take k = rk by rw [List.take_of_length_le (by have := HRL.out; omega)])
      rw [HALL.out] at HN HDD
      by_cases h64 : 64 ≤ dd
      · have h64' : (64 : Int) ≤ (dd : Int) := by omega
        have FIN := hide (show ps = [] ∧ er = 72 by
          have h1 := HN.out
          have h2 := HDD.out
          rcases HW.out with ⟨h, _⟩ | ⟨_, _, h1, h2⟩ | ⟨_, h, _⟩
          · omega
          · exact ⟨h1, h2⟩
          · omega)
        clear s4 s5 s6
        go_wp2_with fail
        go_ret2
        exact ⟨_, by rw [FIN.out.2]; rfl, by rw [FIN.out.1]; exact SlT.nil_ _, HO.out⟩
      · have h64' : ¬ (64 : Int) ≤ (dd : Int) := by omega
        have FIN := hide (show ps = J.flat (.mk ⟨7, none_, 0, none_⟩ rk) ∧ er = 0 by
          have h1 := HN.out
          have h2 := HDD.out
          rcases HW.out with ⟨h, _⟩ | ⟨_, h, _⟩ | ⟨_, _, h1, h2⟩
          · omega
          · omega
          · exact ⟨h1, h2⟩)
        have hlt5 : 4 < (ndVals (madeTo 7 (rk.take k) 0)).length := by rw [ndVals_length, HML.out]; omega
        have c5 := s4 4 _ (List.getElem?_eq_getElem hlt5)
        have f5 := s5 4
        have R6 := hide (s6 4 (.int .i64 ((N : Int) + 1)))
        have O6 := hide (HO.out.setCell (p := ⟨g, 4, none⟩) s3 (.int .i64 ((N : Int) + 1)))
        generalize (ndVals (madeTo 7 (rk.take k) 0))[4] = zz at c5
        have HV := hide (show J.flat (.mk ⟨7, none_, 0, none_⟩ rk) = madeTo 7 (rk.take k) ((N : Int) + 1) by rw [HALL.out, flat_mk, HN.out]; rfl)
        clear s4 s5 s6 hlt5
        go_wp2_with fail
        go_ret2
        refine ⟨_, by rw [FIN.out.2]; rfl, ?_, O6.out⟩
        rw [FIN.out.1, HV.out]
        unfold NodesT
        rw [madeTo_length, madeTo_vals _ _ 0, HALL.out, HN.out, Nat.add_comm 1 N]
        have := SlT.of_own R6.out
        rwa [HALL.out] at this
end Go.Proofs.YthlfljmfggmfdaaGreatDoor

/-! ### What a text of JSON is as a value, or what is wrong in it, and where: plain laws. No program is named here. -/
namespace Go.Proofs.YthlfljmfggmfdaaGreatDoor

/-- what is wrong, and the rest of the text where it is -/
abbrev Bad := List UInt8 × Int
def isBlank (c : UInt8) : Bool := c == 32 || c == 9 || c == 10 || c == 13
def skipB : List UInt8 → List UInt8
  | [] => []
  | c :: r => if isBlank c then skipB r else c :: r
def isDig (c : UInt8) : Bool := decide (48 ≤ c.toNat) && decide (c.toNat ≤ 57)
def digsOf : List UInt8 → List UInt8
  | [] => []
  | c :: r => if isDig c then c :: digsOf r else []
def digsEnd : List UInt8 → List UInt8
  | [] => []
  | c :: r => if isDig c then digsEnd r else c :: r
/-- digits, one at least -/
def digs1 (l : List UInt8) : Except Bad (List UInt8 × List UInt8) := if digsOf l = [] then .error (l, 70) else .ok (digsOf l, digsEnd l)
def decV (ds : List UInt8) : Nat := ds.foldl (fun n d => 10 * n + (d.toNat - 48)) 0
/-- past a byte, if it stands there -/
def opt1 (x : UInt8) : List UInt8 → Bool × List UInt8
  | [] => (false, [])
  | c :: r => if c = x then (true, r) else (false, c :: r)
def opt2 (x y : UInt8) : List UInt8 → Bool × List UInt8
  | [] => (false, [])
  | c :: r => if c = x ∨ c = y then (true, r) else (false, c :: r)
/-- the whole part of a number -/
def wholeV (l : List UInt8) : Except Bad (List UInt8 × List UInt8) :=
  match opt1 48 l with
  | (true, r) => .ok ([48], r)
  | (false, _) => digs1 l
/-- a number's fraction, if it has one: is there one? -/
def fracV (l : List UInt8) : Except Bad (Bool × List UInt8) :=
  match opt1 46 l with
  | (true, r) => (match digs1 r with | .error b => .error b | .ok (_, r2) => .ok (true, r2))
  | (false, _) => .ok (false, l)
def expV (l : List UInt8) : Except Bad (Bool × List UInt8) :=
  match opt2 101 69 l with
  | (true, r) => (match digs1 (opt2 43 45 r).2 with | .error b => .error b | .ok (_, r2) => .ok (true, r2))
  | (false, _) => .ok (false, l)
def signed (neg : Bool) (n : Nat) : Int := if neg then -(n : Int) else (n : Int)
def numV (l : List UInt8) : Except Bad (Int × List UInt8) :=
  match wholeV (opt1 45 l).2 with
  | .error b => .error b
  | .ok (ds, l2) => match fracV l2 with
    | .error b => .error b
    | .ok (f, l3) => match expV l3 with
      | .error b => .error b
      | .ok (e, l4) =>
        if f = true ∨ e = true ∨ signed (opt1 45 l).1 (decV ds) < -9223372036854775808 ∨ 9223372036854775807 < signed (opt1 45 l).1 (decV ds) then .error (l, 73)
        else .ok (signed (opt1 45 l).1 (decV ds), l4)
/-- bytes that must stand there -/
def wordV : List UInt8 → List UInt8 → Except Bad (List UInt8)
  | [], l => .ok l
  | _ :: _, [] => .error ([], 70)
  | x :: xs, c :: r => if c = x then wordV xs r else .error (c :: r, 70)
def litV (l : List UInt8) : Except Bad (List UInt8 × List UInt8) :=
  match l with
  | [] => .error ([], 70)
  | c :: r => if c ≠ 34 then .error (c :: r, 70) else match unqV (c :: r) with
    | .error e => .error (c :: r, e)
    | .ok x => .ok x
/-- may a value begin with that byte? -/
def begB (c : UInt8) : Bool := c == 110 || c == 102 || c == 116 || c == 34 || c == 91 || c == 123 || c == 45 || isDig c
def oneJ (k n : Int) (s : ByteArray) : J := .mk ⟨k, none_, n, s⟩ []
def leafV (c : UInt8) (l : List UInt8) : Except Bad (J × List UInt8) :=
  if c = 110 then (match wordV [110, 117, 108, 108] l with | .error b => .error b | .ok r => .ok (oneJ 1 0 none_, r))
  else if c = 102 then (match wordV [102, 97, 108, 115, 101] l with | .error b => .error b | .ok r => .ok (oneJ 2 0 none_, r))
  else if c = 116 then (match wordV [116, 114, 117, 101] l with | .error b => .error b | .ok r => .ok (oneJ 3 0 none_, r))
  else if c = 34 then (match litV l with | .error b => .error b | .ok (s, r) => .ok (oneJ 5 0 (bT s), r))
  else (match numV l with | .error b => .error b | .ok (n, r) => .ok (oneJ 4 n none_, r))
def lastOf (obj : Bool) : UInt8 := if obj then 125 else 93
def kindOf (obj : Bool) : Int := if obj then 7 else 6
/-- a member's key and its colon; nothing in a list -/
def keyV (obj : Bool) (had : List ByteArray) (l : List UInt8) : Except Bad (ByteArray × List UInt8) :=
  if obj = false then .ok (none_, l) else match litV (skipB l) with
  | .error b => .error b
  | .ok (s, r) => if hasKey had (bT s) = true then .error (skipB l, 71) else match skipB r with
    | [] => .error ([], 70)
    | c :: r2 => if c = 58 then .ok (bT s, r2) else .error (c :: r2, 70)
/-- what stands behind a part: is there one more? -/
def moreV (obj : Bool) (l : List UInt8) : Except Bad (Bool × List UInt8) :=
  match skipB l with
  | [] => .error ([], 70)
  | c :: r => if c = 44 then .ok (true, r) else if c = lastOf obj then .ok (false, r) else .error (c :: r, 70)
/-- does the end stand there? -/
def endV (obj : Bool) (l : List UInt8) : Bool × List UInt8 := opt1 (lastOf obj) (skipB l)
/-- the keys that were there, behind one more part -/
def hadOf (obj : Bool) (had : List ByteArray) (k : ByteArray) : List ByteArray := if obj then had ++ [k] else had
mutual
/-- the value that stands there, behind n nodes, within so many others -/
def pv : Nat → Nat → Nat → List UInt8 → Except Bad (J × List UInt8)
  | 0, _, _, l => .error (l, 70)
  | f + 1, n, deep, l => match l with
    | [] => .error ([], 70)
    | c :: r => if begB c = false then .error (c :: r, 70) else if 4000 ≤ n then .error (c :: r, 5) else if 64 ≤ deep then .error (c :: r, 72)
      else if c = 91 ∨ c = 123 then (match endV (c == 123) r with
        | (true, r1) => .ok (.mk ⟨kindOf (c == 123), none_, 0, none_⟩ [], r1)
        | (false, r1) => match pp f (c == 123) (n + 1) (deep + 1) [] r1 with
          | .error b => .error b
          | .ok (js, r2) => .ok (.mk ⟨kindOf (c == 123), none_, 0, none_⟩ js, r2))
      else leafV c (c :: r)
/-- the parts that stand there, up to what ends them -/
def pp : Nat → Bool → Nat → Nat → List ByteArray → List UInt8 → Except Bad (List J × List UInt8)
  | 0, _, _, _, _, l => .error (l, 70)
  | f + 1, obj, n, deep, had, l => match keyV obj had l with
    | .error b => .error b
    | .ok (k, l1) => match pv f n deep (skipB l1) with
      | .error b => .error b
      | .ok (j, l2) => match moreV obj l2 with
        | .error b => .error b
        | .ok (false, l3) => .ok ([j.rekey k], l3)
        | .ok (true, l3) => match pp f obj (n + j.flat.length) deep (hadOf obj had k) l3 with
          | .error b => .error b
          | .ok (js, l4) => .ok (j.rekey k :: js, l4)
end
/-- enough steps for a text -/
def fuelOf (l : List UInt8) : Nat := 2 * l.length + 2
/-- a text as a value; else the place and what is wrong there -/
def parseV (l : List UInt8) : Except (Nat × Int) J :=
  if 1048576 < l.length then .error (0, 5) else match pv (fuelOf l) 0 0 (skipB l) with
  | .error (p, e) => .error (l.length - p.length, e)
  | .ok (j, r) => match skipB r with
    | [] => .ok j
    | c :: p => .error (l.length - (c :: p).length, 70)
end Go.Proofs.YthlfljmfggmfdaaGreatDoor
