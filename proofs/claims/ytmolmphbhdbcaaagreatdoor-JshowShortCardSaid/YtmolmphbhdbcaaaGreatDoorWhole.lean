/- Small helpers of the statements and of the document: eq, Eq, EqInts, Copy, spoil. -/
import Derived.Test.YtmolmphbhdbcaaaGreatDoorPartT
import Derived.Deep.RegionHeld3
/-! ### Small helpers of the statements and of the document: eq, Eq, EqInts, Copy, spoil. -/
namespace Go.Proofs.YtmolmphbhdbcaaaGreatDoor
open Go.RowKit

def sameNds (a b : List Nd) : Bool := decide (a = b)
theorem same_len {α : Type} [DecidableEq α] {a b : List α} (h : a.length ≠ b.length) : decide (a = b) = false := by
  simp only [decide_eq_false_iff_not]; intro e; exact h (by rw [e])
theorem same_at {α : Type} [DecidableEq α] {a b : List α} {k : Nat} (ha : k < a.length) (hb : k < b.length) (h : a[k] ≠ b[k]) : decide (a = b) = false := by
  simp only [decide_eq_false_iff_not]
  rintro rfl
  exact h rfl
theorem same_end {α : Type} [DecidableEq α] {a b : List α} (hl : a.length = b.length) (h : ∀ j : Nat, j < a.length → a[j]? = b[j]?) : decide (a = b) = true := by
  simp only [decide_eq_true_eq]
  apply List.ext_getElem?
  intro j
  rcases Nat.lt_or_ge j a.length with h1 | h1
  · exact h j h1
  · rw [List.getElem?_eq_none h1, List.getElem?_eq_none (by omega)]
theorem same_next {α : Type} {a b : List α} {k : Nat} (ha : k < a.length) (hb : k < b.length) (h : ∀ j : Nat, j < k → a[j]? = b[j]?) (hc : a[k] = b[k]) : ∀ j : Nat, j < k + 1 → a[j]? = b[j]? := by
  intro j hj
  rcases Nat.lt_or_ge j k with h1 | h1
  · exact h j h1
  · have : j = k := by omega
    subst this
    rw [List.getElem?_eq_getElem ha, List.getElem?_eq_getElem hb, hc]
theorem sameNd_false {a b : Nd} (h : (!sameNd a b) = true) : a ≠ b := by simpa [sameNd] using h
theorem sameNd_true {a b : Nd} (h : (!sameNd a b) = false) : a = b := by simpa [sameNd] using h

set_option maxRecDepth 100000 in
set_option maxHeartbeats 400000 in
theorem law_eq (va vb : Value) (a b : List Nd) (w : World) (ha : NodesIs w va a) (hb : NodesIs w vb b) :
    Calls Tryz.prog 9 #[va, vb] w fun e w' => e = .returned (.bool (sameNds a b)) ∧ Old w w' := by
  have hG := nodeGuard
  obtain ⟨A, ca, rfl, hla, hma, ha⟩ := ha.nodes
  obtain ⟨B, cb, rfl, hlb, hmb, hb⟩ := hb.nodes
  unfold maxLen at hma hmb
  go_enter Tryz.func9, Tryz.ntmps9
  by_cases hl : a.length = b.length
  · have hl' : ((a.length : Int) != (b.length : Int)) = false := by simp [hl]
    have HL := hide hl
    have hl1 : a.length ≤ b.length := by omega
    have hl2 : b.length ≤ a.length := by omega
    clear hl
    go_wp2_with fail
    go_loopw [5] (fun i wr => ∃ k : Nat, i = .int .i64 k ∧ k ≤ a.length ∧ Hid (∀ j : Nat, j < k → a[j]? = b[j]?) ∧ Old w wr) (fun i _ => a.length - (intOf i).toNat)
    case atStart => exact ⟨0, rfl, by omega, hide (by intro j hj; omega), Old.refl _⟩
    case round =>
      obtain ⟨k, rfl, hk, HQ, hbl⟩ := hrel
      by_cases hlt : k < a.length
      · have hlt' : k < b.length := by omega
        obtain ⟨b1, o1, rfl, hc1⟩ := ha.resolve_left (by omega)
        obtain ⟨b2, o2, rfl, hc2⟩ := hb.resolve_left (by omega)
        obtain ⟨x0, x1, x2, x3, x4⟩ := hc1 k hlt
        obtain ⟨y0, y1, y2, y3, y4⟩ := hc2 k hlt'
        have hx0 := hbl.cell x0
        have hx1 := hbl.cell x1
        have hx2 := hbl.cell x2
        have hx3 := hbl.cell x3
        have hx4 := hbl.cell x4
        have hy0 := hbl.cell y0
        have hy1 := hbl.cell y1
        have hy2 := hbl.cell y2
        have hy3 := hbl.cell y3
        have hy4 := hbl.cell y4
        have hq := neq_node a[k] b[k]
        obtain ⟨C, hC⟩ : ∃ C, Hid ((!sameNd a[k] b[k]) = C) := ⟨_, hide rfl⟩
        rw [hC.out] at hq
        clear ha hb hc1 hc2 x0 x1 x2 x3 x4 y0 y1 y2 y3 y4
        go_wp2_with fail
        go_quiet (fail)
        clear hx0 hx1 hx2 hx3 hx4 hy0 hy1 hy2 hy3 hy4 hq
        cases C
        · go_wp2_with fail
          go_roundw
          case rel => exact ⟨k + 1, by go_num, by omega, hide (same_next hlt hlt' HQ.out (sameNd_true hC.out)), Old.drewN hbl _⟩
          case measure => simp [intOf]; omega
        · go_wp2_with fail
          go_ret
          exact ⟨ret_bool (same_at hlt hlt' (sameNd_false hC.out)).symm, Old.drewN hbl _⟩
      · go_wp2_with fail
        go_ret
        exact ⟨ret_bool (same_end HL.out (fun j hj => HQ.out j (by omega))).symm, hbl⟩
  · have hl' : ((a.length : Int) != (b.length : Int)) = true := by simp; omega
    go_wp2_with fail
    go_ret
    exact ⟨ret_bool (same_len hl).symm, Old.refl _⟩

theorem Sl.ints {w : World} {v : Value} {l : List Nat} (h : IntsIs w v l) : ∃ A cap, v = .slice A l.length cap ∧ l.length ≤ cap ∧ cap ≤ maxLen ∧ (l.length = 0 ∨ ∃ b off, A = some ⟨b, off, none⟩ ∧ ∀ i, (hi : i < l.length) → w.cell? ⟨b, off + i, none⟩ = some (.int .i64 (l[i] : Int))) := by
  obtain ⟨A, cap, rfl, h1, h2, h3⟩ := h
  refine ⟨A, cap, rfl, h1, h2, ?_⟩
  rcases Nat.eq_zero_or_pos l.length with h0 | h0
  · exact .inl h0
  · obtain ⟨b, off, rfl, hc⟩ := h3 (by intro e; have := intVals_length l; rw [e] at this; simp at this; omega)
    exact .inr ⟨b, off, rfl, fun i hi => hc i _ (by simp [intVals, List.getElem?_eq_getElem hi])⟩
/-- worlds in which what lies from block lo on may have been spoilt -/
structure Spo (lo : Nat) (w wr : World) : Prop where
  low : Below lo w wr
  cells : ∀ (b : Nat) (cs : Array Value) (T : TypeId) (f : Nat × Nat), w.heap[b]? = some (.cells cs T f) → ∃ cs' : Array Value, wr.heap[b]? = some (.cells cs' T f) ∧ cs'.size = cs.size
theorem Spo.refl (lo : Nat) (w : World) : Spo lo w w := ⟨Below.refl _ _, fun _ cs _ _ h => ⟨cs, h, rfl⟩⟩
theorem Spo.set {lo : Nat} {w wr : World} (h : Spo lo w wr) {p i : Nat} (hp : lo ≤ p) (u : Value) : Spo lo w (wr.setCell ⟨p, i, none⟩ u) where
  low := h.low.setCell hp u
  cells := by
    intro b cs1 T1 f1 hb1
    obtain ⟨cs', h1, h2⟩ := h.cells b cs1 T1 f1 hb1
    by_cases e : p = b
    · subst e
      exact ⟨cs'.setIfInBounds i u, by simp [World.setCell, Array.getElem?_modify, h1], by simpa using h2⟩
    · exact ⟨cs', by simp [World.setCell, Array.getElem?_modify, h1, e], h2⟩
theorem Spo.some {lo : Nat} {w wr : World} (h : Spo lo w wr) {p i : Nat} {cs : Array Value} {T : TypeId} (hb : w.heap[p]? = some (.cells cs T (0, 0))) (hi : i < cs.size) : (∃ x, wr.cell? ⟨p, i, none⟩ = some x) ∧ wr.frozen? ⟨p, i, none⟩ = false := by
  obtain ⟨cs', h1, h2⟩ := h.cells p cs T _ hb
  exact ⟨⟨cs'[i], by rw [cell_of_heap h1]; exact Array.getElem?_eq_getElem (by omega)⟩, free_of_heap h1⟩

end Go.Proofs.YtmolmphbhdbcaaaGreatDoor

/-! ### tape.whole: a list, or an object, of parts that may be. -/
namespace Go.Proofs.YtmolmphbhdbcaaaGreatDoor
open Go.RowKit

/-- a slice value that is these lists of nodes -/
def PartsIs (w : World) (v : Value) (ps : List (List Nd)) : Prop :=
  ∃ vs : List Value, vs.length = ps.length ∧ Sl w v ps.length vs ∧ ∀ i, (h : i < ps.length) → (h' : i < vs.length) → NodesIs w vs[i] ps[i]
theorem PartsIs.old {w w' : World} {v : Value} {ps : List (List Nd)} (h : PartsIs w v ps) (ho : Old w w') : PartsIs w' v ps := by
  obtain ⟨vs, h1, h2, h3⟩ := h
  exact ⟨vs, h1, h2.old ho, fun i hi hi' => (h3 i hi hi').old ho⟩
theorem PartsIs.open_ {w : World} {v : Value} {ps : List (List Nd)} (h : PartsIs w v ps) : ∃ A cap, v = .slice A ps.length cap ∧ ps.length ≤ cap ∧ cap ≤ maxLen ∧ (ps.length = 0 ∨ ∃ b off, A = some ⟨b, off, none⟩ ∧ ∀ i, (hi : i < ps.length) → ∃ A' c', w.cell? ⟨b, off + i, none⟩ = some (.slice A' ps[i].length c') ∧ ps[i].length ≤ c' ∧ c' ≤ maxLen ∧ NodesIs w (.slice A' ps[i].length c') ps[i]) := by
  obtain ⟨vs, h1, ⟨A, cap, rfl, h2, h3, h4⟩, h5⟩ := h
  refine ⟨A, cap, rfl, h2, h3, ?_⟩
  rcases Nat.eq_zero_or_pos ps.length with h0 | h0
  · exact .inl h0
  · obtain ⟨b, off, rfl, hc⟩ := h4 (by intro e; rw [e] at h1; simp at h1; omega)
    refine .inr ⟨b, off, rfl, fun i hi => ?_⟩
    have hi' : i < vs.length := by omega
    obtain ⟨A', c', e, g1, g2⟩ := (h5 i hi hi').form
    have hn := h5 i hi hi'
    have hcell := hc i vs[i] (List.getElem?_eq_getElem hi')
    rw [e] at hn hcell
    exact ⟨A', c', hcell, g1, g2, hn⟩
def J.rekey (k : ByteArray) : J → J
  | .mk h l => .mk ⟨h.kind, k, h.n, h.s⟩ l
def rekeys : List ByteArray → List J → List J
  | k :: ks, j :: js => j.rekey k :: rekeys ks js
  | _, _ => []
theorem rekeys_length : ∀ (ks : List ByteArray) (js : List J), ks.length = js.length → (rekeys ks js).length = js.length
  | [], [], _ => rfl
  | k :: ks, j :: js, h => by simp only [rekeys, List.length_cons]; rw [rekeys_length ks js (by simpa using h)]
theorem rekeys_get : ∀ (ks : List ByteArray) (js : List J) (i : Nat) (h : i < js.length) (h' : i < ks.length) (h'' : i < (rekeys ks js).length), (rekeys ks js)[i] = js[i].rekey ks[i]
  | k :: ks, j :: js, 0, _, _, _ => rfl
  | k :: ks, j :: js, i + 1, h, h', h'' => by
    simp only [rekeys, List.getElem_cons_succ]
    exact rekeys_get ks js i (by simpa using h) (by simpa using h') (by simpa [rekeys] using h'')
theorem rekey_size (k : ByteArray) (j : J) : (j.rekey k).flat.length = j.flat.length := by cases j; simp [J.rekey, flat_mk]
theorem rekey_vals (k : ByteArray) (j : J) : ndVals (j.rekey k).flat = (ndVals j.flat).set 1 (.string k) := by
  cases j
  simp [J.rekey, flat_mk, ndVals, Nd.vals]
theorem rekey_deep (k : ByteArray) (j : J) : (j.rekey k).deep = j.deep := by cases j; simp [J.rekey, J.deep]
theorem rekeys_deeps : ∀ (ks : List ByteArray) (js : List J), ks.length = js.length → J.deeps (rekeys ks js) = J.deeps js
  | [], [], _ => rfl
  | k :: ks, j :: js, h => by simp only [rekeys, J.deeps, rekey_deep]; rw [rekeys_deeps ks js (by simpa using h)]
/-- what a list, or an object, is before its size is known, with some parts -/
def madeTo (kind : Int) (l : List J) (z : Int) : List Nd := ⟨kind, none_, 0, none_, z⟩ :: J.flats l
theorem madeTo_length (kind : Int) (l : List J) (z : Int) : (madeTo kind l z).length = 1 + (J.flats l).length := by simp [madeTo]; omega
theorem madeTo_vals (kind : Int) (l : List J) (z z' : Int) : ndVals (madeTo kind l z') = (ndVals (madeTo kind l z)).set 4 (.int .i64 z') := by simp [madeTo, ndVals, Nd.vals]
theorem madeTo_snoc (kind : Int) (l : List J) (j : J) (k : ByteArray) (z : Int) : ndVals (madeTo kind (l ++ [j.rekey k]) z) = (ndVals (madeTo kind l z ++ j.flat)).set ((1 + (J.flats l).length) * 5 + 1) (.string k) := by
  have e : madeTo kind (l ++ [j.rekey k]) z = madeTo kind l z ++ (j.rekey k).flat := by simp [madeTo, flats_append, flats_one]
  rw [e, ndVals_append, ndVals_append, rekey_vals, List.set_append_right _ _ (by rw [ndVals_length, madeTo_length]; omega), ndVals_length, madeTo_length, Nat.add_sub_cancel_left]
/-- what comes of parts that may be -/
def WholeT (kind : Int) (l : List J) (ps : List Nd) (e : Int) : Prop :=
  (4000 < 1 + (J.flats l).length ∧ ps = [] ∧ e = 5) ∨ (1 + (J.flats l).length ≤ 4000 ∧ 64 ≤ J.deeps l ∧ ps = [] ∧ e = 72) ∨ (1 + (J.flats l).length ≤ 4000 ∧ J.deeps l < 64 ∧ ps = J.flat (.mk ⟨kind, none_, 0, none_⟩ l) ∧ e = 0)
def NewNodesE (w0 : World) (l : List Nd) (n : Int) (e : Ending) (w' : World) : Prop := ∃ v, e = .returned (.tuple #[v, .int .i64 n]) ∧ NodesT w0.heap.size w' v l ∧ Old w0 w'
theorem own_node (w : World) (kind : Int) : NodesOwn w.heap.size (w.alloc (.cells #[.int .i64 kind, .string ⟨#[]⟩, .int .i64 0, .string ⟨#[]⟩, .int .i64 0] 57)) (.slice (some ⟨w.heap.size, 0, none⟩) 1 1) (madeTo kind [] 0) :=
  World.ownsRow_lit w #[.int .i64 kind, .string ⟨#[]⟩, .int .i64 0, .string ⟨#[]⟩, .int .i64 0] 1 (Nat.le_refl _) (by unfold maxLen; omega) rfl
theorem own_set {base T size n : Nat} {w : World} {v : Value} {xs : List Value} (h : w.ownsRow base T size v n xs) (hn : 0 < n) : ∃ g cap, v = .slice (some ⟨g, 0, none⟩) n cap ∧ n ≤ cap ∧ cap ≤ maxLen ∧ base ≤ g ∧ (∀ j u, xs[j]? = some u → w.cell? ⟨g, j, none⟩ = some u) ∧ (∀ j, w.frozen? ⟨g, j, none⟩ = false) ∧ ∀ j u, (w.setCell ⟨g, j, none⟩ u).ownsRow base T size v n (xs.set j u) := by
  obtain ⟨g, cap, rfl, h1, h2, h3, h4⟩ := own_fits h hn
  exact ⟨g, cap, rfl, h1, h2, h3, h4, fun j => h.frozenAt j, fun j u => (h.stored j u).1⟩
theorem flats_take_snoc {l : List J} {k : Nat} (h : k < l.length) : J.flats (l.take (k + 1)) = J.flats (l.take k) ++ l[k].flat := by
  rw [List.take_succ_eq_append_getElem h, flats_append, flats_one]
theorem flats_take_le (l : List J) (k : Nat) : (J.flats (l.take k)).length ≤ (J.flats l).length := by
  have e : J.flats l = J.flats (l.take k) ++ J.flats (l.drop k) := by rw [← flats_append, List.take_append_drop]
  rw [e, List.length_append]
  omega
theorem deeps_take_snoc {l : List J} {k : Nat} (h : k < l.length) : J.deeps (l.take (k + 1)) = max (J.deeps (l.take k)) l[k].deep := by
  rw [List.take_succ_eq_append_getElem h, deeps_append]
  simp [J.deeps]

set_option maxRecDepth 100000 in
theorem list_key (i : Int) (w : World) : Calls Tryz.prog 64 #[.int .i64 i] w fun e w' => e = .returned (.string ⟨#[]⟩) ∧ Old w w' := by
  go_enter Tryz.func64, Tryz.ntmps64
  go_wp2_with fail
  go_ret
  exact ⟨rfl, Old.refl _⟩

set_option maxRecDepth 100000 in
set_option maxHeartbeats 2000000 in
theorem whole_list (v : Value) (pl : List (List Nd)) (js : List J) (ks : List ByteArray) (ps : List Nd) (er : Int) (w : World) (hkn : ∀ k ∈ ks, k = none_) (hp : PartsIs w v pl) (hlen : pl.length = js.length) (hks : ks.length = js.length) (hmay : ∀ i, (h : i < pl.length) → (h' : i < js.length) → May pl[i] js[i]) (htx : ∀ p ∈ pl, TextsOk p) (hT : Tabs w)
    (hw : WholeT 6 (rekeys ks js) ps er) :
    Calls Tryz.prog 63 #[.int .i64 6, .func (.func 64) #[] #[], v] w (NewNodesE w ps er) := by
  obtain ⟨A, ca, rfl, hla, hma, hc⟩ := hp.open_
  unfold maxLen at hma
  have HC := hide hc
  have HMAY := hide hmay
  have HTX := hide htx
  have HT := hide hT
  have HW := hide hw
  have HKS := hide hks
  have HKN := hide hkn
  clear hkn
  obtain ⟨rk, hrk⟩ : ∃ rk, Hid (rekeys ks js = rk) := ⟨_, hide rfl⟩
  have HRK := hide hrk.out
  have HRL := hide (show rk.length = pl.length by rw [← hrk.out, rekeys_length ks js hks, hlen])
  have HRD := hide (show J.deeps rk = J.deeps js by rw [← hrk.out, rekeys_deeps ks js hks])
  have HLEN := hide hlen
  rw [hrk.out] at HW
  clear hp hc hmay htx hT hw hks hlen hrk
  go_enter Tryz.func63, Tryz.ntmps63
  go_wp2_with fail
  go_loopw [8, 9, 18] (fun o d i wr => ∃ (k dd N : Nat), i = .int .i64 k ∧ d = .int .i64 dd ∧ k ≤ pl.length ∧ dd ≤ 64 ∧ N ≤ 3999 ∧ Hid ((J.flats (rk.take k)).length = N) ∧ Hid (J.deeps (rk.take k) = dd) ∧ Hid (NodesOwn w.heap.size wr o (madeTo 6 (rk.take k) 0)) ∧ Hid (Old w wr)) (fun _ _ i _ => pl.length - (intOf i).toNat)
  case atStart => exact ⟨0, 0, 0, rfl, rfl, by omega, by omega, by omega, hide rfl, hide rfl, hide (own_node w 6), hide ((Old.refl w).alloc _)⟩
  case round =>
    obtain ⟨k, dd, N, rfl, rfl, hk, hdd, hN, HN, HDD, HOWN, HO⟩ := hrel
    have HML := hide (show (madeTo 6 (rk.take k) 0).length = N + 1 by rw [madeTo_length, HN.out]; omega)
    have OW := hide (show wr.ownsRow w.heap.size 57 5 _ (N + 1) (ndVals (madeTo 6 (rk.take k) 0)) by have := HOWN.out; unfold NodesOwn at this; rwa [HML.out] at this)
    obtain ⟨g, cap, rfl, s1, s2, s3, s4, s5, s6⟩ := own_set OW.out (by omega)
    unfold maxLen at s2
    by_cases hlt : k < pl.length
    · clear s4 s5 s6
      obtain ⟨b1, o1, rfl, hc1⟩ := HC.out.resolve_left (by omega)
      obtain ⟨A', c', x0, x1, x2, x3⟩ := hc1 k hlt
      have hjl : k < js.length := by have := HLEN.out; omega
      have hkl : k < ks.length := by have := HKS.out; omega
      have hrkl : k < rk.length := by have := HRL.out; omega
      have hm := HMAY.out k hlt hjl
      have HPF := hide (show pl[k] = js[k].flat from hm.1.2.2)
      have HR := hide (show rk[k] = js[k].rekey ks[k] by have := rekeys_get ks js k hjl hkl (by rw [HRK.out]; exact hrkl); simp only [HRK.out] at this; exact this)
      obtain ⟨dj, hdj⟩ : ∃ dj, Hid (js[k].deep = dj) := ⟨_, hide rfl⟩
      have hdj64 : dj ≤ 64 := by rw [← hdj.out]; exact hm.2.2
      have CD := hide (show ∀ w', Old w w' → Calls Tryz.prog 92 #[.slice A' pl[k].length c'] w' fun e w2 => e = .returned (.int .i64 dj) ∧ Old w' w2 from fun w' ho => num_as (deep_run _ _ w' (x3.old ho) (HTX.out _ (List.getElem_mem hlt)) (HT.out.old ho)) (by rw [deepT_may hm, hdj.out]))
      have XN := hide x3
      obtain ⟨q, hq⟩ : ∃ q, Hid (pl[k].length = q) := ⟨_, hide rfl⟩
      have hq0 : 0 < q := by rw [← hq.out, HPF.out]; exact flat_pos _
      have hq4 : q ≤ 4000 := by rw [← hq.out]; exact hm.2.1
      have HRS := hide (show rk[k].flat.length = q by rw [HR.out, rekey_size, ← HPF.out, hq.out])
      have HTOT := hide (show N + q ≤ (J.flats rk).length by have h1 := flats_take_le rk (k + 1); rw [flats_take_snoc hrkl, List.length_append, HN.out, HRS.out] at h1; exact h1)
      rw [hq.out] at x0 x1 CD
      have HX := hide x0
      have e0 := HO.out.cell x0
      unfold maxLen at x2
      clear hc1 x0 x3 hm
      have XQ : ∀ w', Old w w' → NodesIs w' (.slice A' q c') pl[k] := fun w' ho => by rw [← hq.out]; exact XN.out.old ho
      have HXQ := hide XQ
      clear XQ
      by_cases hlim : 4000 < N + 1 + q
      · have hlim' : (4000 : Int) - ((N : Int) + 1) < (q : Int) := by omega
        have FIN := hide (show ps = [] ∧ er = 5 by
          have := HTOT.out
          rcases HW.out with ⟨_, h1, h2⟩ | ⟨h, _⟩ | ⟨h, _⟩
          · exact ⟨h1, h2⟩
          · omega
          · omega)
        go_wp2_with fail
        go_ret2
        exact ⟨_, by rw [FIN.out.2]; rfl, by rw [FIN.out.1]; exact SlT.nil_ _, HO.out⟩
      · have hlim' : ¬ (4000 : Int) - ((N : Int) + 1) < (q : Int) := by omega
        go_wp2_with fail
        refine (CD.out _ HO.out).mono ?_
        rintro e w3 ⟨rfl, o3⟩
        have O3 := hide (Old.trans HO.out o3)
        have OW3 := hide (own_old HOWN.out o3)
        clear o3 e0
        have hl1 : (madeTo 6 (rk.take k) 0).length + pl[k].length ≤ 4194304 := by rw [HML.out, hq.out]; omega
        go_upto_region 11 with (at_builtin; refine wpList_plain rfl (fun K hK => ?_); refine step_push_nodes _ _ _ rfl w.heap.size _ (madeTo 6 (rk.take k) 0) rfl OW3.out _ pl[k] rfl (HXQ.out _ O3.out) hl1 O3.out.size ?_; intro v4 w4 own4 kept4; refine hK _ _ ?_; clear hK)
        have O4 := hide (kept4.old O3.out (Nat.le_refl _))
        have OW4 := hide (show w4.ownsRow w.heap.size 57 5 v4 (N + 1 + q) (ndVals (madeTo 6 (rk.take k) 0 ++ pl[k])) by have h := own4; unfold NodesOwn at h; rwa [List.length_append, HML.out, hq.out] at h)
        clear own4 kept4 hl1
        obtain ⟨g4, cap4, rfl, r1, r2, r3, r4, r5, r6⟩ := own_set OW4.out (by omega)
        unfold maxLen at r2
        clear r4 r5 r6
        go_wp2_with fail
        refine (list_key k w4).mono ?_
        rintro e w5 ⟨rfl, o5⟩
        have OW5 := hide (own_old OW4.out o5)
        have O5 := hide (Old.trans O4.out o5)
        obtain ⟨g5, cap5, he, _, _, r3', r4, r5, r6⟩ := own_set OW5.out (by omega)
        injection he with he1 _ he3
        injection he1 with he1
        injection he1 with he1
        subst he1 he3
        have hlt5 : (N + 1) * 5 + 1 < (ndVals (madeTo 6 (rk.take k) 0 ++ pl[k])).length := by rw [ndVals_length, List.length_append, HML.out, hq.out]; omega
        have c5 := r4 ((N + 1) * 5 + 1) _ (List.getElem?_eq_getElem hlt5)
        have f5 := r5 ((N + 1) * 5 + 1)
        have R6 := hide (r6 ((N + 1) * 5 + 1) (.string ⟨#[]⟩))
        have O6 := hide (O5.out.setCell (p := ⟨g4, (N + 1) * 5 + 1, none⟩) r3' (.string ⟨#[]⟩))
        generalize (ndVals (madeTo 6 (rk.take k) 0 ++ pl[k]))[(N + 1) * 5 + 1] = zz at c5
        clear r3' r4 r5 r6 o5 hlt5
        have HNEW := hide (show (J.flats (rk.take (k + 1))).length = N + q by rw [flats_take_snoc hrkl, List.length_append, HN.out, HRS.out])
        have HDNEW := hide (show J.deeps (rk.take (k + 1)) = max dd dj by rw [deeps_take_snoc hrkl, HDD.out, HR.out, rekey_deep, hdj.out])
        have HVALS := hide (show ndVals (madeTo 6 (rk.take (k + 1)) 0) = (ndVals (madeTo 6 (rk.take k) 0 ++ pl[k])).set ((N + 1) * 5 + 1) (.string ⟨#[]⟩) by
          rw [List.take_succ_eq_append_getElem hrkl, HR.out, madeTo_snoc, HN.out, HPF.out, Nat.add_comm 1 N]
          rw [show ks[k] = none_ from HKN.out _ (List.getElem_mem hkl)]
          rfl)
        go_wp2_with fail
        go_roundw
        case rel => exact ⟨k + 1, max dd dj, N + q, by go_num, by go_num, by omega, by omega, by omega, HNEW, HDNEW, hide (by unfold NodesOwn; rw [madeTo_length, HNEW.out, HVALS.out, show 1 + (N + q) = N + 1 + q by omega]; exact R6.out), O6⟩
        case measure => simp [intOf]; omega
    · have hkk : k = pl.length := by omega
      have HALL := hide (show rk.take k = rk by rw [List.take_of_length_le (by have := HRL.out; omega)])
      rw [HALL.out] at HN HDD
      by_cases h64 : 64 ≤ dd
      · have h64' : (64 : Int) ≤ (dd : Int) := by omega
        have FIN := hide (show ps = [] ∧ er = 72 by
          have h1 := HN.out
          have h2 := HDD.out
          rcases HW.out with ⟨h, _⟩ | ⟨_, _, h1, h2⟩ | ⟨_, h, _⟩
          · omega
          · exact ⟨h1, h2⟩
          · omega)
        clear s4 s5 s6
        go_wp2_with fail
        go_ret2
        exact ⟨_, by rw [FIN.out.2]; rfl, by rw [FIN.out.1]; exact SlT.nil_ _, HO.out⟩
      · have h64' : ¬ (64 : Int) ≤ (dd : Int) := by omega
        have FIN := hide (show ps = J.flat (.mk ⟨6, none_, 0, none_⟩ rk) ∧ er = 0 by
          have h1 := HN.out
          have h2 := HDD.out
          rcases HW.out with ⟨h, _⟩ | ⟨_, h, _⟩ | ⟨_, _, h1, h2⟩
          · omega
          · omega
          · exact ⟨h1, h2⟩)
        have hlt5 : 4 < (ndVals (madeTo 6 (rk.take k) 0)).length := by rw [ndVals_length, HML.out]; omega
        have c5 := s4 4 _ (List.getElem?_eq_getElem hlt5)
        have f5 := s5 4
        have R6 := hide (s6 4 (.int .i64 ((N : Int) + 1)))
        have O6 := hide (HO.out.setCell (p := ⟨g, 4, none⟩) s3 (.int .i64 ((N : Int) + 1)))
        generalize (ndVals (madeTo 6 (rk.take k) 0))[4] = zz at c5
        have HV := hide (show J.flat (.mk ⟨6, none_, 0, none_⟩ rk) = madeTo 6 (rk.take k) ((N : Int) + 1) by rw [HALL.out, flat_mk, HN.out]; rfl)
        clear s4 s5 s6 hlt5
        go_wp2_with fail
        go_ret2
        refine ⟨_, by rw [FIN.out.2]; rfl, ?_, O6.out⟩
        rw [FIN.out.1, HV.out]
        unfold NodesT
        rw [madeTo_length, madeTo_vals _ _ 0, HALL.out, HN.out, Nat.add_comm 1 N]
        have := SlT.of_own R6.out
        rwa [HALL.out] at this

/-- a slice value that is these texts -/
abbrev TextsIs (w : World) (v : Value) (l : List ByteArray) : Prop := Sl w v l.length (l.map Value.string)
theorem Sl.texts {w : World} {v : Value} {l : List ByteArray} (h : TextsIs w v l) : ∃ A cap, v = .slice A l.length cap ∧ l.length ≤ cap ∧ cap ≤ maxLen ∧ (l.length = 0 ∨ ∃ b off, A = some ⟨b, off, none⟩ ∧ ∀ i, (hi : i < l.length) → w.cell? ⟨b, off + i, none⟩ = some (.string l[i])) := by
  obtain ⟨A, cap, rfl, h1, h2, h3⟩ := h
  refine ⟨A, cap, rfl, h1, h2, ?_⟩
  rcases Nat.eq_zero_or_pos l.length with h0 | h0
  · exact .inl h0
  · obtain ⟨b, off, rfl, hc⟩ := h3 (by intro e; have := congrArg List.length e; simp at this; subst this; simp at h0)
    exact .inr ⟨b, off, rfl, fun i hi => hc i _ (by simp [List.getElem?_eq_getElem hi])⟩
set_option maxRecDepth 100000 in
theorem obj_key (i kb : Nat) (kv : Value) (ks : List ByteArray) (w : World) (hi : i < ks.length) (hkb : w.cell? ⟨kb, 0, none⟩ = some kv) (hkv : TextsIs w kv ks) : Calls Tryz.prog 65 #[.int .i64 i, .pointer (some ⟨kb, 0, none⟩)] w fun e w' => e = .returned (.string ks[i]) ∧ Old w w' := by
  obtain ⟨A, cap, rfl, h1, h2, h3⟩ := hkv.texts
  unfold maxLen at h2
  obtain ⟨b, off, rfl, hc⟩ := h3.resolve_left (by omega)
  have hx := hc i hi
  clear h3 hc hkv
  go_enter Tryz.func65, Tryz.ntmps65
  go_wp2_with fail
  go_ret
  exact ⟨rfl, Old.refl _⟩

set_option maxRecDepth 100000 in
set_option maxHeartbeats 2000000 in
theorem whole_obj (v : Value) (pl : List (List Nd)) (js : List J) (ks : List ByteArray) (ps : List Nd) (er : Int) (w : World) (kb : Nat) (kv : Value) (hkb : w.cell? ⟨kb, 0, none⟩ = some kv) (hkv : TextsIs w kv ks) (hp : PartsIs w v pl) (hlen : pl.length = js.length) (hks : ks.length = js.length) (hmay : ∀ i, (h : i < pl.length) → (h' : i < js.length) → May pl[i] js[i]) (htx : ∀ p ∈ pl, TextsOk p) (hT : Tabs w)
    (hw : WholeT 7 (rekeys ks js) ps er) :
    Calls Tryz.prog 63 #[.int .i64 7, .func (.func 65) #[] #[.pointer (some ⟨kb, 0, none⟩)], v] w (NewNodesE w ps er) := by
  obtain ⟨A, ca, rfl, hla, hma, hc⟩ := hp.open_
  unfold maxLen at hma
  have HC := hide hc
  have HMAY := hide hmay
  have HTX := hide htx
  have HT := hide hT
  have HW := hide hw
  have HKS := hide hks
  have KEYC := hide (fun w' (ho : Old w w') (i : Nat) (hi : i < ks.length) => obj_key i kb kv ks w' hi (ho.cell hkb) (hkv.old ho))
  clear hkb hkv
  obtain ⟨rk, hrk⟩ : ∃ rk, Hid (rekeys ks js = rk) := ⟨_, hide rfl⟩
  have HRK := hide hrk.out
  have HRL := hide (show rk.length = pl.length by rw [← hrk.out, rekeys_length ks js hks, hlen])
  have HRD := hide (show J.deeps rk = J.deeps js by rw [← hrk.out, rekeys_deeps ks js hks])
  have HLEN := hide hlen
  rw [hrk.out] at HW
  clear hp hc hmay htx hT hw hks hlen hrk
  go_enter Tryz.func63, Tryz.ntmps63
  go_wp2_with fail
  go_loopw [8, 9, 18] (fun o d i wr => ∃ (k dd N : Nat), i = .int .i64 k ∧ d = .int .i64 dd ∧ k ≤ pl.length ∧ dd ≤ 64 ∧ N ≤ 3999 ∧ Hid ((J.flats (rk.take k)).length = N) ∧ Hid (J.deeps (rk.take k) = dd) ∧ Hid (NodesOwn w.heap.size wr o (madeTo 7 (rk.take k) 0)) ∧ Hid (Old w wr)) (fun _ _ i _ => pl.length - (intOf i).toNat)
  case atStart => exact ⟨0, 0, 0, rfl, rfl, by omega, by omega, by omega, hide rfl, hide rfl, hide (own_node w 7), hide ((Old.refl w).alloc _)⟩
  case round =>
    obtain ⟨k, dd, N, rfl, rfl, hk, hdd, hN, HN, HDD, HOWN, HO⟩ := hrel
    have HML := hide (show (madeTo 7 (rk.take k) 0).length = N + 1 by rw [madeTo_length, HN.out]; omega)
    have OW := hide (show wr.ownsRow w.heap.size 57 5 _ (N + 1) (ndVals (madeTo 7 (rk.take k) 0)) by have := HOWN.out; unfold NodesOwn at this; rwa [HML.out] at this)
    obtain ⟨g, cap, rfl, s1, s2, s3, s4, s5, s6⟩ := own_set OW.out (by omega)
    unfold maxLen at s2
    by_cases hlt : k < pl.length
    · clear s4 s5 s6
      obtain ⟨b1, o1, rfl, hc1⟩ := HC.out.resolve_left (by omega)
      obtain ⟨A', c', x0, x1, x2, x3⟩ := hc1 k hlt
      have hjl : k < js.length := by have := HLEN.out; omega
      have hkl : k < ks.length := by have := HKS.out; omega
      have hrkl : k < rk.length := by have := HRL.out; omega
      have hm := HMAY.out k hlt hjl
      have HPF := hide (show pl[k] = js[k].flat from hm.1.2.2)
      have HR := hide (show rk[k] = js[k].rekey ks[k] by have := rekeys_get ks js k hjl hkl (by rw [HRK.out]; exact hrkl); simp only [HRK.out] at this; exact this)
      obtain ⟨dj, hdj⟩ : ∃ dj, Hid (js[k].deep = dj) := ⟨_, hide rfl⟩
      have hdj64 : dj ≤ 64 := by rw [← hdj.out]; exact hm.2.2
      have CD := hide (show ∀ w', Old w w' → Calls Tryz.prog 92 #[.slice A' pl[k].length c'] w' fun e w2 => e = .returned (.int .i64 dj) ∧ Old w' w2 from fun w' ho => num_as (deep_run _ _ w' (x3.old ho) (HTX.out _ (List.getElem_mem hlt)) (HT.out.old ho)) (by rw [deepT_may hm, hdj.out]))
      have XN := hide x3
      obtain ⟨q, hq⟩ : ∃ q, Hid (pl[k].length = q) := ⟨_, hide rfl⟩
      have hq0 : 0 < q := by rw [← hq.out, HPF.out]; exact flat_pos _
      have hq4 : q ≤ 4000 := by rw [← hq.out]; exact hm.2.1
      have HRS := hide (show rk[k].flat.length = q by rw [HR.out, rekey_size, ← HPF.out, hq.out])
      have HTOT := hide (show N + q ≤ (J.flats rk).length by have h1 := flats_take_le rk (k + 1); rw [flats_take_snoc hrkl, List.length_append, HN.out, HRS.out] at h1; exact h1)
      rw [hq.out] at x0 x1 CD
      have HX := hide x0
      have e0 := HO.out.cell x0
      unfold maxLen at x2
      clear hc1 x0 x3 hm
      have XQ : ∀ w', Old w w' → NodesIs w' (.slice A' q c') pl[k] := fun w' ho => by rw [← hq.out]; exact XN.out.old ho
      have HXQ := hide XQ
      clear XQ
      by_cases hlim : 4000 < N + 1 + q
      · have hlim' : (4000 : Int) - ((N : Int) + 1) < (q : Int) := by omega
        have FIN := hide (show ps = [] ∧ er = 5 by
          have := HTOT.out
          rcases HW.out with ⟨_, h1, h2⟩ | ⟨h, _⟩ | ⟨h, _⟩
          · exact ⟨h1, h2⟩
          · omega
          · omega)
        go_wp2_with fail
        go_ret2
        exact ⟨_, by rw [FIN.out.2]; rfl, by rw [FIN.out.1]; exact SlT.nil_ _, HO.out⟩
      · have hlim' : ¬ (4000 : Int) - ((N : Int) + 1) < (q : Int) := by omega
        go_wp2_with fail
        refine (CD.out _ HO.out).mono ?_
        rintro e w3 ⟨rfl, o3⟩
        have O3 := hide (Old.trans HO.out o3)
        have OW3 := hide (own_old HOWN.out o3)
        clear o3 e0
        have hl1 : (madeTo 7 (rk.take k) 0).length + pl[k].length ≤ 4194304 := by rw [HML.out, hq.out]; omega
        go_upto_region 11 with (at_builtin; refine wpList_plain rfl (fun K hK => ?_); refine step_push_nodes _ _ _ rfl w.heap.size _ (madeTo 7 (rk.take k) 0) rfl OW3.out _ pl[k] rfl (HXQ.out _ O3.out) hl1 O3.out.size ?_; intro v4 w4 own4 kept4; refine hK _ _ ?_; clear hK)
        have O4 := hide (kept4.old O3.out (Nat.le_refl _))
        have OW4 := hide (show w4.ownsRow w.heap.size 57 5 v4 (N + 1 + q) (ndVals (madeTo 7 (rk.take k) 0 ++ pl[k])) by have h := own4; unfold NodesOwn at h; rwa [List.length_append, HML.out, hq.out] at h)
        clear own4 kept4 hl1
        obtain ⟨g4, cap4, rfl, r1, r2, r3, r4, r5, r6⟩ := own_set OW4.out (by omega)
        unfold maxLen at r2
        clear r4 r5 r6
        go_wp2_with fail
        refine (KEYC.out w4 O4.out k hkl).mono ?_
        rintro e w5 ⟨rfl, o5⟩
        have OW5 := hide (own_old OW4.out o5)
        have O5 := hide (Old.trans O4.out o5)
        obtain ⟨g5, cap5, he, _, _, r3', r4, r5, r6⟩ := own_set OW5.out (by omega)
        injection he with he1 _ he3
        injection he1 with he1
        injection he1 with he1
        subst he1 he3
        have hlt5 : (N + 1) * 5 + 1 < (ndVals (madeTo 7 (rk.take k) 0 ++ pl[k])).length := by rw [ndVals_length, List.length_append, HML.out, hq.out]; omega
        have c5 := r4 ((N + 1) * 5 + 1) _ (List.getElem?_eq_getElem hlt5)
        have f5 := r5 ((N + 1) * 5 + 1)
        have R6 := hide (r6 ((N + 1) * 5 + 1) (.string ks[k]))
        have O6 := hide (O5.out.setCell (p := ⟨g4, (N + 1) * 5 + 1, none⟩) r3' (.string ks[k]))
        generalize (ndVals (madeTo 7 (rk.take k) 0 ++ pl[k]))[(N + 1) * 5 + 1] = zz at c5
        clear r3' r4 r5 r6 o5 hlt5
        have HNEW := hide (show (J.flats (rk.take (k + 1))).length = N + q by rw [flats_take_snoc hrkl, List.length_append, HN.out, HRS.out])
        have HDNEW := hide (show J.deeps (rk.take (k + 1)) = max dd dj by rw [deeps_take_snoc hrkl, HDD.out, HR.out, rekey_deep, hdj.out])
        have HVALS := hide (show ndVals (madeTo 7 (rk.take (k + 1)) 0) = (ndVals (madeTo 7 (rk.take k) 0 ++ pl[k])).set ((N + 1) * 5 + 1) (.string ks[k]) by
          rw [List.take_succ_eq_append_getElem hrkl, HR.out, madeTo_snoc, HN.out, HPF.out, Nat.add_comm 1 N]
)
        go_wp2_with fail
        go_roundw
        case rel => exact ⟨k + 1, max dd dj, N + q, by go_num, by go_num, by omega, by omega, by omega, HNEW, HDNEW, hide (by unfold NodesOwn; rw [madeTo_length, HNEW.out, HVALS.out, show 1 + (N + q) = N + 1 + q by omega]; exact R6.out), O6⟩
        case measure => simp [intOf]; omega
    · have hkk : k = pl.length := by omega
      have HALL := hide (show rk.take k = rk by rw [List.take_of_length_le (by have := HRL.out; omega)])
      rw [HALL.out] at HN HDD
      by_cases h64 : 64 ≤ dd
      · have h64' : (64 : Int) ≤ (dd : Int) := by omega
        have FIN := hide (show ps = [] ∧ er = 72 by
          have h1 := HN.out
          have h2 := HDD.out
          rcases HW.out with ⟨h, _⟩ | ⟨_, _, h1, h2⟩ | ⟨_, h, _⟩
          · omega
          · exact ⟨h1, h2⟩
          · omega)
        clear s4 s5 s6
        go_wp2_with fail
        go_ret2
        exact ⟨_, by rw [FIN.out.2]; rfl, by rw [FIN.out.1]; exact SlT.nil_ _, HO.out⟩
      · have h64' : ¬ (64 : Int) ≤ (dd : Int) := by omega
        have FIN := hide (show ps = J.flat (.mk ⟨7, none_, 0, none_⟩ rk) ∧ er = 0 by
          have h1 := HN.out
          have h2 := HDD.out
          rcases HW.out with ⟨h, _⟩ | ⟨_, h, _⟩ | ⟨_, _, h1, h2⟩
          · omega
          · omega
          · exact ⟨h1, h2⟩)
        have hlt5 : 4 < (ndVals (madeTo 7 (rk.take k) 0)).length := by rw [ndVals_length, HML.out]; omega
        have c5 := s4 4 _ (List.getElem?_eq_getElem hlt5)
        have f5 := s5 4
        have R6 := hide (s6 4 (.int .i64 ((N : Int) + 1)))
        have O6 := hide (HO.out.setCell (p := ⟨g, 4, none⟩) s3 (.int .i64 ((N : Int) + 1)))
        generalize (ndVals (madeTo 7 (rk.take k) 0))[4] = zz at c5
        have HV := hide (show J.flat (.mk ⟨7, none_, 0, none_⟩ rk) = madeTo 7 (rk.take k) ((N : Int) + 1) by rw [HALL.out, flat_mk, HN.out]; rfl)
        clear s4 s5 s6 hlt5
        go_wp2_with fail
        go_ret2
        refine ⟨_, by rw [FIN.out.2]; rfl, ?_, O6.out⟩
        rw [FIN.out.1, HV.out]
        unfold NodesT
        rw [madeTo_length, madeTo_vals _ _ 0, HALL.out, HN.out, Nat.add_comm 1 N]
        have := SlT.of_own R6.out
        rwa [HALL.out] at this
end Go.Proofs.YtmolmphbhdbcaaaGreatDoor
