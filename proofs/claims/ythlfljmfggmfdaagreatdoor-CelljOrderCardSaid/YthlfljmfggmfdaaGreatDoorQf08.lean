/-  -/
import Derived.Test.YthlfljmfggmfdaaGreatDoorQf07
import Derived.Deep.RegionHeld3
/-! ###  -/
namespace Go.Proofs.YthlfljmfggmfdaaGreatDoor
open Go.RowKit
def member (l : List J) (key : ByteArray) : Option J := l.find? fun j => decide (j.key = key)
def GetT (t : List Nd) (key : ByteArray) (ps : List Nd) (is : Bool) : Prop :=
 ((chkT t ≠ 0 ∨ ∃ h l, May t (.mk h l) ∧ h.kind ≠ 7) ∧ ps = [] ∧ is = false) ∨ ∃ h l, May t (.mk h l) ∧ h.kind = 7 ∧ ((member l key = none ∧ ps = [] ∧ is = false) ∨ ∃ j, member l key = some j ∧ ps = j.unkey.flat ∧ is = true)
theorem member_none {l1 : List J} {key : ByteArray} (h : ∀ j ∈ l1, j.key ≠ key) (l2 : List J) : member (l1 ++ l2) key = member l2 key := by
 unfold member
 rw [List.find?_append, List.find?_eq_none.2 (by simpa using h)]
 rfl
theorem member_here {j : J} {l : List J} {key : ByteArray} (h : j.key = key) : member (j :: l) key = some j := by simp [member, h]
def NewNodesB (w0 : World) (l : List Nd) (b : Bool) (e : Ending) (w' : World) : Prop := ∃ v, e = .returned (.tuple #[v, .bool b]) ∧ NodesT w0.heap.size w' v l ∧ Old w0 w'
theorem ints_cell {w : World} {v : Value} {l : List Nat} {lo m : Nat} (h : IntsT lo w v l) (hm : l.length = m) : ∃ A cap, v = .slice A m cap ∧ m ≤ cap ∧ cap ≤ maxLen ∧ (m = 0 ∨ ∃ b off, A = some ⟨b, off, none⟩ ∧ ∀ (i n : Nat), l[i]? = some n → w.cell? ⟨b, off + i, none⟩ = some (.int .i64 (n : Int))) := by
 subst hm
 obtain ⟨A, cap, rfl, h1, h2, h3⟩ := h.sl
 refine ⟨A, cap, rfl, h1, h2, ?_⟩
 cases l with
 | nil => exact .inl rfl
 | cons x l =>
   obtain ⟨b, off, rfl, hc⟩ := h3 (by simp [intVals])
   exact .inr ⟨b, off, rfl, fun i n hn => hc i _ (by simp only [intVals, List.getElem?_map, hn, Option.map_some])⟩
theorem starts_at {a : Nat} {l1 l2 : List J} {j : J} : (starts a (l1 ++ j :: l2))[l1.length]? = some (a + (J.flats l1).length) := by
 rw [starts_append, List.getElem?_append_right (by rw [starts_length]; exact Nat.le_refl _), starts_length, Nat.sub_self]
 rfl
theorem kids_ok {V : ByteArray → Bool} {h : Hd} {l : List J} (hok : J.Ok V (.mk h l)) : J.Oks V l := by
 simp only [J.Ok] at hok
 rcases hok with ⟨_, rfl⟩ | ⟨_, _, h, _⟩ | ⟨_, _, h, _⟩
 · simp [J.Oks]
 · exact h
 · exact h
theorem part_kid {t : List Nd} {h : Hd} {l1 l2 : List J} {j : J} (hm : May t (.mk h (l1 ++ j :: l2))) : PartT t ((0 + 1 + (J.flats l1).length : Nat) : Int) j.unkey.flat := by
 have hd : t.drop 0 = J.flat (.mk h (l1 ++ j :: l2)) ++ [] := by rw [List.drop_zero, List.append_nil]; exact hm.1.2.2
 have hd2 := drop_flat hd
 rw [flats_cons, List.append_assoc] at hd2
 obtain ⟨ha, _⟩ := head_flat hd2
 have hok := oks_mem (kids_ok hm.1.1) j (by simp)
 refine .inr ⟨_, j, _, _, hm, rfl, ha, hd2, hok, ?_, rfl⟩
 have := deep_le_deeps (l := l1 ++ j :: l2) (j := j) (by simp)
 simp only [J.deep]
 omega
set_option maxRecDepth 100000 in
set_option maxHeartbeats 1000000 in
theorem get_run (v : Value) (t : List Nd) (key : ByteArray) (ps : List Nd) (is : Bool) (w : World) (ht : NodesIs w v t) (hk : TextsOk t) (hT : Tabs w) (hg : GetT t key ps is) :
 Calls Tryz.prog 35 #[v, .string key] w (NewNodesB w ps is) := by
 have CC := hide (check_run v t w ht hk hT)
 have HTN := hide ht
 have HK := hide hk
 have HTT := hide hT
 have V0 : ∃ v', v' = v := ⟨v, rfl⟩
 obtain ⟨A, ca, rfl, hla, hma, hc⟩ := ht.nodes
 unfold maxLen at hma
 clear ht hk hT
 rcases hg with ⟨hbad, rfl, rfl⟩ | ⟨h, l, hj, hk7, hmem⟩
 · by_cases h0 : chkT t = 0
   · obtain ⟨h, l, hj, hk7⟩ := hbad.resolve_left (fun h => h h0)
     have C0 := hide (num_as CC.out h0)
     have hd : t.drop 0 = J.flat (.mk h l) ++ [] := by rw [List.drop_zero, List.append_nil]; exact hj.1.2.2
     obtain ⟨hpos, hx⟩ := head_flat (j := .mk h l) hd
     obtain ⟨b1, o1, rfl, hc1⟩ := hc.resolve_left (by omega)
     obtain ⟨d0, _⟩ := hc1 0 hpos
     rw [hx] at d0
     have D0 := hide (show w.cell? ⟨b1, o1, none⟩ = some (.int .i64 h.kind) by simpa [J.hd] using d0)
     have hk7' : (h.kind != 7) = true := by simpa using hk7
     clear CC hbad hc hc1 d0 hd hx hj h0 hk7
     go_enter Tryz.func35, Tryz.ntmps35
     go_wp2_with fail
     refine C0.out.mono ?_
     rintro e w1 ⟨rfl, ow1⟩
     have d0 := ow1.cell D0.out
     go_wp2_with fail
     go_ret2
     exact ⟨_, rfl, SlT.nil_ _, ow1⟩
   · have hc' : (chkT t != 0) = true := by simpa using h0
     clear hbad h0 hc
     go_enter Tryz.func35, Tryz.ntmps35
     go_wp2_with fail
     refine CC.out.mono ?_
     rintro e w1 ⟨rfl, o1⟩
     go_wp2_with fail
     go_ret2
     exact ⟨_, rfl, SlT.nil_ _, o1⟩
 · have C0 := hide (num_as CC.out (chkT_may hj))
   have hd : t.drop 0 = J.flat (.mk h l) ++ [] := by rw [List.drop_zero, List.append_nil]; exact hj.1.2.2
   obtain ⟨hpos, hx⟩ := head_flat (j := .mk h l) hd
   have hl4 := hj.2.1
   have CK := hide (show ∀ w', Old w w' → Calls Tryz.prog 70 #[.slice A t.length ca, .int .i64 (0 : Nat)] w' fun e w2 => ∃ v, e = .returned v ∧ IntsT w'.heap.size w2 v (starts (0 + 1) l) ∧ Old w' w2 from fun w' ho => kids_run _ t 0 h l [] w' (HTN.out.old ho) hl4 hd)
   have CP := hide (show ∀ w' l1 j l2, Old w w' → l = l1 ++ j :: l2 → Calls Tryz.prog 31 #[.slice A t.length ca, .int .i64 ((0 + 1 + (J.flats l1).length : Nat) : Int)] w' fun e w2 => ∃ v, e = .returned v ∧ NodesT w.heap.size w2 v j.unkey.flat ∧ Old w w2 from fun w' l1 j l2 ho e =>
    (part_run _ t _ _ w' (HTN.out.old ho) HK.out (HTT.out.old ho) (part_kid (by rw [← e]; exact hj))).mono fun _ _ ⟨v, h1, h2, h3⟩ => ⟨v, h1, h2.mono ho.size, Old.trans ho h3⟩)
   obtain ⟨b1, o1, rfl, hc1⟩ := hc.resolve_left (by omega)
   obtain ⟨d0, _⟩ := hc1 0 hpos
   rw [hx] at d0
   have D0 := hide (show w.cell? ⟨b1, o1, none⟩ = some (.int .i64 7) by simpa [J.hd, hk7] using d0)
   have HC := hide hc1
   have HD := hide hd
   have HMEM := hide hmem
   have hnk : l.length ≤ t.length := by
    have e := congrArg List.length hd
    rw [flat_mk] at e
    have := len_flats l
    simp at e
    omega
   clear CC hc hc1 d0 hd hx hk7 hmem hj
   go_enter Tryz.func35, Tryz.ntmps35
   go_wp2_with fail
   refine C0.out.mono ?_
   rintro e w1 ⟨rfl, ow1⟩
   have d0 := ow1.cell D0.out
   go_wp2_with fail
   refine (CK.out _ ow1).mono ?_
   rintro e w2 ⟨kv, rfl, hkv, ow2⟩
   obtain ⟨n, hn⟩ : ∃ n, Hid (l.length = n) := ⟨_, hide rfl⟩
   obtain ⟨AK, ck, rfl, k1, k2, k3⟩ := ints_cell hkv (show (starts (0 + 1) l).length = n by rw [starts_length, hn.out])
   unfold maxLen at k2
   have K3 := hide k3
   have O2 := hide (Old.trans ow1 ow2)
   have hn4 : n ≤ 4000 := by have := hn.out; omega
   clear hkv k3 ow2 d0 hnk
   go_wp2_with fail
   go_loopw [21] (fun i wr => ∃ (l1 l2 : List J) (k : Nat), i = .int .i64 k ∧ k ≤ n ∧ Hid (l = l1 ++ l2) ∧ Hid (l1.length = k) ∧ Hid (∀ j ∈ l1, j.key ≠ key) ∧ Hid (Old w2 wr)) (fun i _ => n - (intOf i).toNat)
   case atStart => exact ⟨[], l, 0, rfl, by omega, hide rfl, hide rfl, hide (by simp), hide (Old.refl _)⟩
   case round =>
    obtain ⟨l1, l2, k, rfl, hk, HL, HL1, HNO, HO⟩ := hrel
    by_cases hkn : k < n
    · cases l2 with
      | nil =>
        exfalso
        have h1 := HL.out
        have h2 := HL1.out
        have h3 := hn.out
        rw [h1] at h3
        simp at h3
        omega
      | cons j l3 =>
        obtain ⟨bk, ok, rfl, hkc⟩ := K3.out.resolve_left (by omega)
        have hst := hkc k (0 + 1 + (J.flats l1).length) (by
         have := starts_at (a := 0 + 1) (l1 := l1) (l2 := l3) (j := j)
         rw [← HL.out, HL1.out] at this
         exact this)
        have HDP : t.drop (0 + 1 + (J.flats l1).length) = j.flat ++ (J.flats l3 ++ []) := by
         have := HD.out
         rw [HL.out] at this
         rw [drop_flat this, flats_cons, List.append_assoc]
        obtain ⟨hpt, hpx⟩ := head_flat HDP
        obtain ⟨_, d1, _⟩ := HC.out _ hpt
        rw [hpx] at d1
        have CPJ := hide (fun w' ho => CP.out w' l1 j l3 ho HL.out)
        obtain ⟨p, hp⟩ : ∃ p, Hid (0 + 1 + (J.flats l1).length = p) := ⟨_, hide rfl⟩
        rw [hp.out] at hst hpt d1 CPJ
        have hst2 := HO.out.cell hst
        have d12 := (Old.trans O2.out HO.out).cell d1
        clear hkc hst HDP hpx d1
        by_cases hkey : j.key = key
        · have HKEY := hide hkey
          have hke : j.hd.key = key := hkey
          simp only [hke] at d12
          clear hkey hke
          go_wp2_with fail
          refine (CPJ.out _ (Old.trans O2.out HO.out)).mono ?_
          rintro e w3 ⟨pv, rfl, h3, o3⟩
          have P3 := hide h3
          clear h3
          have FIN := hide (show ps = j.unkey.flat ∧ is = true by
           have hm : member l key = some j := by rw [HL.out, member_none HNO.out, member_here HKEY.out]
           rcases HMEM.out with ⟨h, _, _⟩ | ⟨j', h, h5, h6⟩
           · rw [hm] at h; cases h
           · rw [hm] at h
             injection h with h
             subst h
             exact ⟨h5, h6⟩)
          go_wp2_with fail
          go_ret2
          exact ⟨_, by rw [FIN.out.2]; rfl, by rw [FIN.out.1]; exact P3.out, o3⟩
        · have hkey1 : ¬ j.hd.key.toList = key.toList := fun e => hkey (bytes_ext e)
          have hkey2 : (j.hd.key.toList == key.toList) = false := beq_eq_false_iff_ne.2 hkey1
          have HKEY := hide hkey
          clear hkey
          go_wp2_with fail
          go_roundw
          case rel => exact ⟨l1 ++ [j], l3, k + 1, by go_num, by omega, hide (by rw [HL.out]; simp), hide (by simp [HL1.out]), hide (by intro x hx; rcases List.mem_append.1 hx with hx | hx; exact HNO.out x hx; simp at hx; subst hx; exact HKEY.out), HO⟩
          case measure => simp [intOf]; omega
    · have hkk : k = n := by omega
      have FIN := hide (show ps = [] ∧ is = false by
       have hl2 : l2 = [] := by
        have h1 := hn.out
        have h2 := HL1.out
        rw [HL.out, List.length_append] at h1
        exact List.eq_nil_of_length_eq_zero (by omega)
       have hm : member l key = none := by
        rw [HL.out, hl2, member_none HNO.out]
        rfl
       rcases HMEM.out with ⟨_, h5, h6⟩ | ⟨j', h, _, _⟩
       · exact ⟨h5, h6⟩
       · rw [hm] at h; cases h)
      go_wp2_with fail
      go_ret2
      exact ⟨_, by rw [FIN.out.2]; rfl, by rw [FIN.out.1]; exact SlT.nil_ _, Old.trans O2.out HO.out⟩
end Go.Proofs.YthlfljmfggmfdaaGreatDoor

/-! ###  -/
namespace Go.Proofs.YthlfljmfggmfdaaGreatDoor
open Go.RowKit
def sameNds (a b : List Nd) : Bool := decide (a = b)
theorem same_len {α : Type} [DecidableEq α] {a b : List α} (h : a.length ≠ b.length) : decide (a = b) = false := by
 simp only [decide_eq_false_iff_not]; intro e; exact h (by rw [e])
theorem same_at {α : Type} [DecidableEq α] {a b : List α} {k : Nat} (ha : k < a.length) (hb : k < b.length) (h : a[k] ≠ b[k]) : decide (a = b) = false := by
 simp only [decide_eq_false_iff_not]
 rintro rfl
 exact h rfl
theorem same_end {α : Type} [DecidableEq α] {a b : List α} (hl : a.length = b.length) (h : ∀ j : Nat, j < a.length → a[j]? = b[j]?) : decide (a = b) = true := by
 simp only [decide_eq_true_eq]
 apply List.ext_getElem?
 intro j
 rcases Nat.lt_or_ge j a.length with h1 | h1
 · exact h j h1
 · rw [List.getElem?_eq_none h1, List.getElem?_eq_none (by omega)]
theorem same_next {α : Type} {a b : List α} {k : Nat} (ha : k < a.length) (hb : k < b.length) (h : ∀ j : Nat, j < k → a[j]? = b[j]?) (hc : a[k] = b[k]) : ∀ j : Nat, j < k + 1 → a[j]? = b[j]? := by
 intro j hj
 rcases Nat.lt_or_ge j k with h1 | h1
 · exact h j h1
 · have : j = k := by omega
   subst this
   rw [List.getElem?_eq_getElem ha, List.getElem?_eq_getElem hb, hc]
theorem sameNd_false {a b : Nd} (h : (!sameNd a b) = true) : a ≠ b := by simpa [sameNd] using h
theorem sameNd_true {a b : Nd} (h : (!sameNd a b) = false) : a = b := by simpa [sameNd] using h
set_option maxRecDepth 100000 in
theorem ref_Copy (v : Value) (r : List Nd) (w : World) (h : NodesIs w v r) (hlen : r.length ≤ 1048576) : Calls Tryz.prog 15 #[v] w (NewNodes w r) := by
 have H := hide h
 obtain ⟨A, cap, rfl, rest⟩ := h
 clear rest
 go_enter Tryz.func15, Tryz.ntmps15
 go_wp2_with (at_builtin; refine wpList_plain rfl (fun K hK => ?_); refine step_push_nodes _ _ _ rfl w.heap.size (.slice none 0 0) [] rfl (World.ownsRow_nil _ _ _ _) _ r rfl H.out (by simp; omega) (Nat.le_refl _) ?_; intro v' w' own hk; refine hK _ _ ?_; clear hK)
 go_ret
 exact ⟨_, rfl, SlT.of_own own, hk.old (Old.refl _) (Nat.le_refl _)⟩
structure Spo (lo : Nat) (w wr : World) : Prop where
 low : Below lo w wr
 cells : ∀ (b : Nat) (cs : Array Value) (T : TypeId) (f : Nat × Nat), w.heap[b]? = some (.cells cs T f) → ∃ cs' : Array Value, wr.heap[b]? = some (.cells cs' T f) ∧ cs'.size = cs.size
theorem Spo.refl (lo : Nat) (w : World) : Spo lo w w := ⟨Below.refl _ _, fun _ cs _ _ h => ⟨cs, h, rfl⟩⟩
theorem Spo.set {lo : Nat} {w wr : World} (h : Spo lo w wr) {p i : Nat} (hp : lo ≤ p) (u : Value) : Spo lo w (wr.setCell ⟨p, i, none⟩ u) where
 low := h.low.setCell hp u
 cells := by
  intro b cs1 T1 f1 hb1
  obtain ⟨cs', h1, h2⟩ := h.cells b cs1 T1 f1 hb1
  by_cases e : p = b
  · subst e
    exact ⟨cs'.setIfInBounds i u, by simp [World.setCell, Array.getElem?_modify, h1], by simpa using h2⟩
  · exact ⟨cs', by simp [World.setCell, Array.getElem?_modify, h1, e], h2⟩
theorem Spo.some {lo : Nat} {w wr : World} (h : Spo lo w wr) {p i : Nat} {cs : Array Value} {T : TypeId} (hb : w.heap[p]? = some (.cells cs T (0, 0))) (hi : i < cs.size) : (∃ x, wr.cell? ⟨p, i, none⟩ = some x) ∧ wr.frozen? ⟨p, i, none⟩ = false := by
 obtain ⟨cs', h1, h2⟩ := h.cells p cs T _ hb
 exact ⟨⟨cs'[i], by rw [cell_of_heap h1]; exact Array.getElem?_eq_getElem (by omega)⟩, free_of_heap h1⟩
end Go.Proofs.YthlfljmfggmfdaaGreatDoor

/-! ###  -/
namespace Go.Proofs.YthlfljmfggmfdaaGreatDoor
open Go.RowKit
def PartsIs (w : World) (v : Value) (ps : List (List Nd)) : Prop :=
 ∃ vs : List Value, vs.length = ps.length ∧ Sl w v ps.length vs ∧ ∀ i, (h : i < ps.length) → (h' : i < vs.length) → NodesIs w vs[i] ps[i]
theorem PartsIs.old {w w' : World} {v : Value} {ps : List (List Nd)} (h : PartsIs w v ps) (ho : Old w w') : PartsIs w' v ps := by
 obtain ⟨vs, h1, h2, h3⟩ := h
 exact ⟨vs, h1, h2.old ho, fun i hi hi' => (h3 i hi hi').old ho⟩
theorem PartsIs.open_ {w : World} {v : Value} {ps : List (List Nd)} (h : PartsIs w v ps) : ∃ A cap, v = .slice A ps.length cap ∧ ps.length ≤ cap ∧ cap ≤ maxLen ∧ (ps.length = 0 ∨ ∃ b off, A = some ⟨b, off, none⟩ ∧ ∀ i, (hi : i < ps.length) → ∃ A' c', w.cell? ⟨b, off + i, none⟩ = some (.slice A' ps[i].length c') ∧ ps[i].length ≤ c' ∧ c' ≤ maxLen ∧ NodesIs w (.slice A' ps[i].length c') ps[i]) := by
 obtain ⟨vs, h1, ⟨A, cap, rfl, h2, h3, h4⟩, h5⟩ := h
 refine ⟨A, cap, rfl, h2, h3, ?_⟩
 rcases Nat.eq_zero_or_pos ps.length with h0 | h0
 · exact .inl h0
 · obtain ⟨b, off, rfl, hc⟩ := h4 (by intro e; rw [e] at h1; simp at h1; omega)
   refine .inr ⟨b, off, rfl, fun i hi => ?_⟩
   have hi' : i < vs.length := by omega
   obtain ⟨A', c', e, g1, g2⟩ := (h5 i hi hi').form
   have hn := h5 i hi hi'
   have hcell := hc i vs[i] (List.getElem?_eq_getElem hi')
   rw [e] at hn hcell
   exact ⟨A', c', hcell, g1, g2, hn⟩
def J.rekey (k : ByteArray) : J → J
 | .mk h l => .mk ⟨h.kind, k, h.n, h.s⟩ l
def rekeys : List ByteArray → List J → List J
 | k :: ks, j :: js => j.rekey k :: rekeys ks js
 | _, _ => []
theorem rekeys_length : ∀ (ks : List ByteArray) (js : List J), ks.length = js.length → (rekeys ks js).length = js.length
 | [], [], _ => rfl
 | k :: ks, j :: js, h => by simp only [rekeys, List.length_cons]; rw [rekeys_length ks js (by simpa using h)]
theorem rekeys_get : ∀ (ks : List ByteArray) (js : List J) (i : Nat) (h : i < js.length) (h' : i < ks.length) (h'' : i < (rekeys ks js).length), (rekeys ks js)[i] = js[i].rekey ks[i]
 | k :: ks, j :: js, 0, _, _, _ => rfl
 | k :: ks, j :: js, i + 1, h, h', h'' => by
   simp only [rekeys, List.getElem_cons_succ]
   exact rekeys_get ks js i (by simpa using h) (by simpa using h') (by simpa [rekeys] using h'')
theorem rekey_size (k : ByteArray) (j : J) : (j.rekey k).flat.length = j.flat.length := by cases j; simp [J.rekey, flat_mk]
theorem rekey_vals (k : ByteArray) (j : J) : ndVals (j.rekey k).flat = (ndVals j.flat).set 1 (.string k) := by
 cases j
 simp [J.rekey, flat_mk, ndVals, Nd.vals]
theorem rekey_deep (k : ByteArray) (j : J) : (j.rekey k).deep = j.deep := by cases j; simp [J.rekey, J.deep]
theorem rekeys_deeps : ∀ (ks : List ByteArray) (js : List J), ks.length = js.length → J.deeps (rekeys ks js) = J.deeps js
 | [], [], _ => rfl
 | k :: ks, j :: js, h => by simp only [rekeys, J.deeps, rekey_deep]; rw [rekeys_deeps ks js (by simpa using h)]
def madeTo (kind : Int) (l : List J) (z : Int) : List Nd := ⟨kind, none_, 0, none_, z⟩ :: J.flats l
theorem madeTo_length (kind : Int) (l : List J) (z : Int) : (madeTo kind l z).length = 1 + (J.flats l).length := by simp [madeTo]; omega
theorem madeTo_vals (kind : Int) (l : List J) (z z' : Int) : ndVals (madeTo kind l z') = (ndVals (madeTo kind l z)).set 4 (.int .i64 z') := by simp [madeTo, ndVals, Nd.vals]
theorem madeTo_snoc (kind : Int) (l : List J) (j : J) (k : ByteArray) (z : Int) : ndVals (madeTo kind (l ++ [j.rekey k]) z) = (ndVals (madeTo kind l z ++ j.flat)).set ((1 + (J.flats l).length) * 5 + 1) (.string k) := by
 have e : madeTo kind (l ++ [j.rekey k]) z = madeTo kind l z ++ (j.rekey k).flat := by simp [madeTo, flats_append, flats_one]
 rw [e, ndVals_append, ndVals_append, rekey_vals, List.set_append_right _ _ (by rw [ndVals_length, madeTo_length]; omega), ndVals_length, madeTo_length, Nat.add_sub_cancel_left]
def WholeT (kind : Int) (l : List J) (ps : List Nd) (e : Int) : Prop :=
 (4000 < 1 + (J.flats l).length ∧ ps = [] ∧ e = 5) ∨ (1 + (J.flats l).length ≤ 4000 ∧ 64 ≤ J.deeps l ∧ ps = [] ∧ e = 72) ∨ (1 + (J.flats l).length ≤ 4000 ∧ J.deeps l < 64 ∧ ps = J.flat (.mk ⟨kind, none_, 0, none_⟩ l) ∧ e = 0)
def NewNodesE (w0 : World) (l : List Nd) (n : Int) (e : Ending) (w' : World) : Prop := ∃ v, e = .returned (.tuple #[v, .int .i64 n]) ∧ NodesT w0.heap.size w' v l ∧ Old w0 w'
theorem own_node (w : World) (kind : Int) : NodesOwn w.heap.size (w.alloc (.cells #[.int .i64 kind, .string ⟨#[]⟩, .int .i64 0, .string ⟨#[]⟩, .int .i64 0] 36)) (.slice (some ⟨w.heap.size, 0, none⟩) 1 1) (madeTo kind [] 0) :=
 World.ownsRow_lit w #[.int .i64 kind, .string ⟨#[]⟩, .int .i64 0, .string ⟨#[]⟩, .int .i64 0] 1 (Nat.le_refl _) (by unfold maxLen; omega) rfl
theorem own_set {base T size n : Nat} {w : World} {v : Value} {xs : List Value} (h : w.ownsRow base T size v n xs) (hn : 0 < n) : ∃ g cap, v = .slice (some ⟨g, 0, none⟩) n cap ∧ n ≤ cap ∧ cap ≤ maxLen ∧ base ≤ g ∧ (∀ j u, xs[j]? = some u → w.cell? ⟨g, j, none⟩ = some u) ∧ (∀ j, w.frozen? ⟨g, j, none⟩ = false) ∧ ∀ j u, (w.setCell ⟨g, j, none⟩ u).ownsRow base T size v n (xs.set j u) := by
 obtain ⟨g, cap, rfl, h1, h2, h3, h4⟩ := own_fits h hn
 exact ⟨g, cap, rfl, h1, h2, h3, h4, fun j => h.frozenAt j, fun j u => (h.stored j u).1⟩
theorem flats_take_snoc {l : List J} {k : Nat} (h : k < l.length) : J.flats (l.take (k + 1)) = J.flats (l.take k) ++ l[k].flat := by
 rw [List.take_succ_eq_append_getElem h, flats_append, flats_one]
theorem flats_take_le (l : List J) (k : Nat) : (J.flats (l.take k)).length ≤ (J.flats l).length := by
 have e : J.flats l = J.flats (l.take k) ++ J.flats (l.drop k) := by rw [← flats_append, List.take_append_drop]
 rw [e, List.length_append]
 omega
theorem deeps_take_snoc {l : List J} {k : Nat} (h : k < l.length) : J.deeps (l.take (k + 1)) = max (J.deeps (l.take k)) l[k].deep := by
 rw [List.take_succ_eq_append_getElem h, deeps_append]
 simp [J.deeps]
abbrev TextsIs (w : World) (v : Value) (l : List ByteArray) : Prop := Sl w v l.length (l.map Value.string)
theorem Sl.texts {w : World} {v : Value} {l : List ByteArray} (h : TextsIs w v l) : ∃ A cap, v = .slice A l.length cap ∧ l.length ≤ cap ∧ cap ≤ maxLen ∧ (l.length = 0 ∨ ∃ b off, A = some ⟨b, off, none⟩ ∧ ∀ i, (hi : i < l.length) → w.cell? ⟨b, off + i, none⟩ = some (.string l[i])) := by
 obtain ⟨A, cap, rfl, h1, h2, h3⟩ := h
 refine ⟨A, cap, rfl, h1, h2, ?_⟩
 rcases Nat.eq_zero_or_pos l.length with h0 | h0
 · exact .inl h0
 · obtain ⟨b, off, rfl, hc⟩ := h3 (by intro e; have := congrArg List.length e; simp at this; subst this; simp at h0)
   exact .inr ⟨b, off, rfl, fun i hi => hc i _ (by simp [List.getElem?_eq_getElem hi])⟩
set_option maxRecDepth 100000 in
theorem obj_key (i kb : Nat) (kv : Value) (ks : List ByteArray) (w : World) (hi : i < ks.length) (hkb : w.cell? ⟨kb, 0, none⟩ = some kv) (hkv : TextsIs w kv ks) : Calls Tryz.prog 68 #[.int .i64 i, .pointer (some ⟨kb, 0, none⟩)] w fun e w' => e = .returned (.string ks[i]) ∧ Old w w' := by
 obtain ⟨A, cap, rfl, h1, h2, h3⟩ := hkv.texts
 unfold maxLen at h2
 obtain ⟨b, off, rfl, hc⟩ := h3.resolve_left (by omega)
 have hx := hc i hi
 clear h3 hc hkv
 go_enter Tryz.func68, Tryz.ntmps68
 go_wp2_with fail
 go_ret
 exact ⟨rfl, Old.refl _⟩
set_option maxRecDepth 100000 in
set_option maxHeartbeats 2000000 in
theorem whole_obj (v : Value) (pl : List (List Nd)) (js : List J) (ks : List ByteArray) (ps : List Nd) (er : Int) (w : World) (kb : Nat) (kv : Value) (hkb : w.cell? ⟨kb, 0, none⟩ = some kv) (hkv : TextsIs w kv ks) (hp : PartsIs w v pl) (hlen : pl.length = js.length) (hks : ks.length = js.length) (hmay : ∀ i, (h : i < pl.length) → (h' : i < js.length) → May pl[i] js[i]) (htx : ∀ p ∈ pl, TextsOk p) (hT : Tabs w)
 (hw : WholeT 7 (rekeys ks js) ps er) :
 Calls Tryz.prog 67 #[.int .i64 7, .func (.func 68) #[] #[.pointer (some ⟨kb, 0, none⟩)], v] w (NewNodesE w ps er) := by
 obtain ⟨A, ca, rfl, hla, hma, hc⟩ := hp.open_
 unfold maxLen at hma
 have HC := hide hc
 have HMAY := hide hmay
 have HTX := hide htx
 have HT := hide hT
 have HW := hide hw
 have HKS := hide hks
 have KEYC := hide (fun w' (ho : Old w w') (i : Nat) (hi : i < ks.length) => obj_key i kb kv ks w' hi (ho.cell hkb) (hkv.old ho))
 clear hkb hkv
 obtain ⟨rk, hrk⟩ : ∃ rk, Hid (rekeys ks js = rk) := ⟨_, hide rfl⟩
 have HRK := hide hrk.out
 have HRL := hide (show rk.length = pl.length by rw [← hrk.out, rekeys_length ks js hks, hlen])
 have HRD := hide (show J.deeps rk = J.deeps js by rw [← hrk.out, rekeys_deeps ks js hks])
 have HLEN := hide hlen
 rw [hrk.out] at HW
 clear hp hc hmay htx hT hw hks hlen hrk
 go_enter Tryz.func67, Tryz.ntmps67
 go_wp2_with fail
 go_loopw [8, 9, 18] (fun o d i wr => ∃ (k dd N : Nat), i = .int .i64 k ∧ d = .int .i64 dd ∧ k ≤ pl.length ∧ dd ≤ 64 ∧ N ≤ 3999 ∧ Hid ((J.flats (rk.take k)).length = N) ∧ Hid (J.deeps (rk.take k) = dd) ∧ Hid (NodesOwn w.heap.size wr o (madeTo 7 (rk.take k) 0)) ∧ Hid (Old w wr)) (fun _ _ i _ => pl.length - (intOf i).toNat)
 case atStart => exact ⟨0, 0, 0, rfl, rfl, by omega, by omega, by omega, hide rfl, hide rfl, hide (own_node w 7), hide ((Old.refl w).alloc _)⟩
 case round =>
  obtain ⟨k, dd, N, rfl, rfl, hk, hdd, hN, HN, HDD, HOWN, HO⟩ := hrel
  have HML := hide (show (madeTo 7 (rk.take k) 0).length = N + 1 by rw [madeTo_length, HN.out]; omega)
  have OW := hide (show wr.ownsRow w.heap.size 36 5 _ (N + 1) (ndVals (madeTo 7 (rk.take k) 0)) by have := HOWN.out; unfold NodesOwn at this; rwa [HML.out] at this)
  obtain ⟨g, cap, rfl, s1, s2, s3, s4, s5, s6⟩ := own_set OW.out (by omega)
  unfold maxLen at s2
  by_cases hlt : k < pl.length
  · clear s4 s5 s6
    obtain ⟨b1, o1, rfl, hc1⟩ := HC.out.resolve_left (by omega)
    obtain ⟨A', c', x0, x1, x2, x3⟩ := hc1 k hlt
    have hjl : k < js.length := by have := HLEN.out; omega
    have hkl : k < ks.length := by have := HKS.out; omega
    have hrkl : k < rk.length := by have := HRL.out; omega
    have hm := HMAY.out k hlt hjl
    have HPF := hide (show pl[k] = js[k].flat from hm.1.2.2)
    have HR := hide (show rk[k] = js[k].rekey ks[k] by have := rekeys_get ks js k hjl hkl (by rw [HRK.out]; exact hrkl); simp only [HRK.out] at this; exact this)
    obtain ⟨dj, hdj⟩ : ∃ dj, Hid (js[k].deep = dj) := ⟨_, hide rfl⟩
    have hdj64 : dj ≤ 64 := by rw [← hdj.out]; exact hm.2.2
    have CD := hide (show ∀ w', Old w w' → Calls Tryz.prog 106 #[.slice A' pl[k].length c'] w' fun e w2 => e = .returned (.int .i64 dj) ∧ Old w' w2 from fun w' ho => num_as (deep_run _ _ w' (x3.old ho) (HTX.out _ (List.getElem_mem hlt)) (HT.out.old ho)) (by rw [deepT_may hm, hdj.out]))
    have XN := hide x3
    obtain ⟨q, hq⟩ : ∃ q, Hid (pl[k].length = q) := ⟨_, hide rfl⟩
    have hq0 : 0 < q := by rw [← hq.out, HPF.out]; exact flat_pos _
    have hq4 : q ≤ 4000 := by rw [← hq.out]; exact hm.2.1
    have HRS := hide (show rk[k].flat.length = q by rw [HR.out, rekey_size, ← HPF.out, hq.out])
    have HTOT := hide (show N + q ≤ (J.flats rk).length by have h1 := flats_take_le rk (k + 1); rw [flats_take_snoc hrkl, List.length_append, HN.out, HRS.out] at h1; exact h1)
    rw [hq.out] at x0 x1 CD
    have HX := hide x0
    have e0 := HO.out.cell x0
    unfold maxLen at x2
    clear hc1 x0 x3 hm
    have XQ : ∀ w', Old w w' → NodesIs w' (.slice A' q c') pl[k] := fun w' ho => by rw [← hq.out]; exact XN.out.old ho
    have HXQ := hide XQ
    clear XQ
    by_cases hlim : 4000 < N + 1 + q
    · have hlim' : (4000 : Int) - ((N : Int) + 1) < (q : Int) := by omega
      have FIN := hide (show ps = [] ∧ er = 5 by
       have := HTOT.out
       rcases HW.out with ⟨_, h1, h2⟩ | ⟨h, _⟩ | ⟨h, _⟩
       · exact ⟨h1, h2⟩
       · omega
       · omega)
      go_wp2_with fail
      go_ret2
      exact ⟨_, by rw [FIN.out.2]; rfl, by rw [FIN.out.1]; exact SlT.nil_ _, HO.out⟩
    · have hlim' : ¬ (4000 : Int) - ((N : Int) + 1) < (q : Int) := by omega
      go_wp2_with fail
      refine (CD.out _ HO.out).mono ?_
      rintro e w3 ⟨rfl, o3⟩
      have O3 := hide (Old.trans HO.out o3)
      have OW3 := hide (own_old HOWN.out o3)
      clear o3 e0
      have hl1 : (madeTo 7 (rk.take k) 0).length + pl[k].length ≤ 4194304 := by rw [HML.out, hq.out]; omega
      go_upto_region 11 with (at_builtin; refine wpList_plain rfl (fun K hK => ?_); refine step_push_nodes _ _ _ rfl w.heap.size _ (madeTo 7 (rk.take k) 0) rfl OW3.out _ pl[k] rfl (HXQ.out _ O3.out) hl1 O3.out.size ?_; intro v4 w4 own4 kept4; refine hK _ _ ?_; clear hK)
      have O4 := hide (kept4.old O3.out (Nat.le_refl _))
      have OW4 := hide (show w4.ownsRow w.heap.size 36 5 v4 (N + 1 + q) (ndVals (madeTo 7 (rk.take k) 0 ++ pl[k])) by have h := own4; unfold NodesOwn at h; rwa [List.length_append, HML.out, hq.out] at h)
      clear own4 kept4 hl1
      obtain ⟨g4, cap4, rfl, r1, r2, r3, r4, r5, r6⟩ := own_set OW4.out (by omega)
      unfold maxLen at r2
      clear r4 r5 r6
      go_wp2_with fail
      refine (KEYC.out w4 O4.out k hkl).mono ?_
      rintro e w5 ⟨rfl, o5⟩
      have OW5 := hide (own_old OW4.out o5)
      have O5 := hide (Old.trans O4.out o5)
      obtain ⟨g5, cap5, he, _, _, r3', r4, r5, r6⟩ := own_set OW5.out (by omega)
      injection he with he1 _ he3
      injection he1 with he1
      injection he1 with he1
      subst he1 he3
      have hlt5 : (N + 1) * 5 + 1 < (ndVals (madeTo 7 (rk.take k) 0 ++ pl[k])).length := by rw [ndVals_length, List.length_append, HML.out, hq.out]; omega
      have c5 := r4 ((N + 1) * 5 + 1) _ (List.getElem?_eq_getElem hlt5)
      have f5 := r5 ((N + 1) * 5 + 1)
      have R6 := hide (r6 ((N + 1) * 5 + 1) (.string ks[k]))
      have O6 := hide (O5.out.setCell (p := ⟨g4, (N + 1) * 5 + 1, none⟩) r3' (.string ks[k]))
      generalize (ndVals (madeTo 7 (rk.take k) 0 ++ pl[k]))[(N + 1) * 5 + 1] = zz at c5
      clear r3' r4 r5 r6 o5 hlt5
      have HNEW := hide (show (J.flats (rk.take (k + 1))).length = N + q by rw [flats_take_snoc hrkl, List.length_append, HN.out, HRS.out])
      have HDNEW := hide (show J.deeps (rk.take (k + 1)) = max dd dj by rw [deeps_take_snoc hrkl, HDD.out, HR.out, rekey_deep, hdj.out])
      have HVALS := hide (show ndVals (madeTo 7 (rk.take (k + 1)) 0) = (ndVals (madeTo 7 (rk.take k) 0 ++ pl[k])).set ((N + 1) * 5 + 1) (.string ks[k]) by
       rw [List.take_succ_eq_append_getElem hrkl, HR.out, madeTo_snoc, HN.out, HPF.out, Nat.add_comm 1 N]
       )
      go_wp2_with fail
      go_roundw
      case rel => exact ⟨k + 1, max dd dj, N + q, by go_num, by go_num, by omega, by omega, by omega, HNEW, HDNEW, hide (by unfold NodesOwn; rw [madeTo_length, HNEW.out, HVALS.out, show 1 + (N + q) = N + 1 + q by omega]; exact R6.out), O6⟩
      case measure => simp [intOf]; omega
  · have hkk : k = pl.length := by omega
    have HALL := hide (show rk.take k = rk by rw [List.take_of_length_le (by have := HRL.out; omega)])
    rw [HALL.out] at HN HDD
    by_cases h64 : 64 ≤ dd
    · have h64' : (64 : Int) ≤ (dd : Int) := by omega
      have FIN := hide (show ps = [] ∧ er = 72 by
       have h1 := HN.out
       have h2 := HDD.out
       rcases HW.out with ⟨h, _⟩ | ⟨_, _, h1, h2⟩ | ⟨_, h, _⟩
       · omega
       · exact ⟨h1, h2⟩
       · omega)
      clear s4 s5 s6
      go_wp2_with fail
      go_ret2
      exact ⟨_, by rw [FIN.out.2]; rfl, by rw [FIN.out.1]; exact SlT.nil_ _, HO.out⟩
    · have h64' : ¬ (64 : Int) ≤ (dd : Int) := by omega
      have FIN := hide (show ps = J.flat (.mk ⟨7, none_, 0, none_⟩ rk) ∧ er = 0 by
       have h1 := HN.out
       have h2 := HDD.out
       rcases HW.out with ⟨h, _⟩ | ⟨_, h, _⟩ | ⟨_, _, h1, h2⟩
       · omega
       · omega
       · exact ⟨h1, h2⟩)
      have hlt5 : 4 < (ndVals (madeTo 7 (rk.take k) 0)).length := by rw [ndVals_length, HML.out]; omega
      have c5 := s4 4 _ (List.getElem?_eq_getElem hlt5)
      have f5 := s5 4
      have R6 := hide (s6 4 (.int .i64 ((N : Int) + 1)))
      have O6 := hide (HO.out.setCell (p := ⟨g, 4, none⟩) s3 (.int .i64 ((N : Int) + 1)))
      generalize (ndVals (madeTo 7 (rk.take k) 0))[4] = zz at c5
      have HV := hide (show J.flat (.mk ⟨7, none_, 0, none_⟩ rk) = madeTo 7 (rk.take k) ((N : Int) + 1) by rw [HALL.out, flat_mk, HN.out]; rfl)
      clear s4 s5 s6 hlt5
      go_wp2_with fail
      go_ret2
      refine ⟨_, by rw [FIN.out.2]; rfl, ?_, O6.out⟩
      rw [FIN.out.1, HV.out]
      unfold NodesT
      rw [madeTo_length, madeTo_vals _ _ 0, HALL.out, HN.out, Nat.add_comm 1 N]
      have := SlT.of_own R6.out
      rwa [HALL.out] at this
end Go.Proofs.YthlfljmfggmfdaaGreatDoor

/-! ###  -/
namespace Go.Proofs.YthlfljmfggmfdaaGreatDoor
abbrev Bad := List UInt8 × Int
def isBlank (c : UInt8) : Bool := c == 32 || c == 9 || c == 10 || c == 13
def skipB : List UInt8 → List UInt8
 | [] => []
 | c :: r => if isBlank c then skipB r else c :: r
def isDig (c : UInt8) : Bool := decide (48 ≤ c.toNat) && decide (c.toNat ≤ 57)
def digsOf : List UInt8 → List UInt8
 | [] => []
 | c :: r => if isDig c then c :: digsOf r else []
def digsEnd : List UInt8 → List UInt8
 | [] => []
 | c :: r => if isDig c then digsEnd r else c :: r
def digs1 (l : List UInt8) : Except Bad (List UInt8 × List UInt8) := if digsOf l = [] then .error (l, 70) else .ok (digsOf l, digsEnd l)
def decV (ds : List UInt8) : Nat := ds.foldl (fun n d => 10 * n + (d.toNat - 48)) 0
def opt1 (x : UInt8) : List UInt8 → Bool × List UInt8
 | [] => (false, [])
 | c :: r => if c = x then (true, r) else (false, c :: r)
def opt2 (x y : UInt8) : List UInt8 → Bool × List UInt8
 | [] => (false, [])
 | c :: r => if c = x ∨ c = y then (true, r) else (false, c :: r)
def wholeV (l : List UInt8) : Except Bad (List UInt8 × List UInt8) :=
 match opt1 48 l with
 | (true, r) => .ok ([48], r)
 | (false, _) => digs1 l
def fracV (l : List UInt8) : Except Bad (Bool × List UInt8) :=
 match opt1 46 l with
 | (true, r) => (match digs1 r with | .error b => .error b | .ok (_, r2) => .ok (true, r2))
 | (false, _) => .ok (false, l)
def expV (l : List UInt8) : Except Bad (Bool × List UInt8) :=
 match opt2 101 69 l with
 | (true, r) => (match digs1 (opt2 43 45 r).2 with | .error b => .error b | .ok (_, r2) => .ok (true, r2))
 | (false, _) => .ok (false, l)
def signed (neg : Bool) (n : Nat) : Int := if neg then -(n : Int) else (n : Int)
def numV (l : List UInt8) : Except Bad (Int × List UInt8) :=
 match wholeV (opt1 45 l).2 with
 | .error b => .error b
 | .ok (ds, l2) => match fracV l2 with
   | .error b => .error b
   | .ok (f, l3) => match expV l3 with
     | .error b => .error b
     | .ok (e, l4) =>
       if f = true ∨ e = true ∨ signed (opt1 45 l).1 (decV ds) < -9223372036854775808 ∨ 9223372036854775807 < signed (opt1 45 l).1 (decV ds) then .error (l, 73)
       else .ok (signed (opt1 45 l).1 (decV ds), l4)
def wordV : List UInt8 → List UInt8 → Except Bad (List UInt8)
 | [], l => .ok l
 | _ :: _, [] => .error ([], 70)
 | x :: xs, c :: r => if c = x then wordV xs r else .error (c :: r, 70)
def litV (l : List UInt8) : Except Bad (List UInt8 × List UInt8) :=
 match l with
 | [] => .error ([], 70)
 | c :: r => if c ≠ 34 then .error (c :: r, 70) else match unqV (c :: r) with
   | .error e => .error (c :: r, e)
   | .ok x => .ok x
def begB (c : UInt8) : Bool := c == 110 || c == 102 || c == 116 || c == 34 || c == 91 || c == 123 || c == 45 || isDig c
def oneJ (k n : Int) (s : ByteArray) : J := .mk ⟨k, none_, n, s⟩ []
def leafV (c : UInt8) (l : List UInt8) : Except Bad (J × List UInt8) :=
 if c = 110 then (match wordV [110, 117, 108, 108] l with | .error b => .error b | .ok r => .ok (oneJ 1 0 none_, r))
 else if c = 102 then (match wordV [102, 97, 108, 115, 101] l with | .error b => .error b | .ok r => .ok (oneJ 2 0 none_, r))
 else if c = 116 then (match wordV [116, 114, 117, 101] l with | .error b => .error b | .ok r => .ok (oneJ 3 0 none_, r))
 else if c = 34 then (match litV l with | .error b => .error b | .ok (s, r) => .ok (oneJ 5 0 (bT s), r))
 else (match numV l with | .error b => .error b | .ok (n, r) => .ok (oneJ 4 n none_, r))
def lastOf (obj : Bool) : UInt8 := if obj then 125 else 93
def kindOf (obj : Bool) : Int := if obj then 7 else 6
def keyV (obj : Bool) (had : List ByteArray) (l : List UInt8) : Except Bad (ByteArray × List UInt8) :=
 if obj = false then .ok (none_, l) else match litV (skipB l) with
 | .error b => .error b
 | .ok (s, r) => if hasKey had (bT s) = true then .error (skipB l, 71) else match skipB r with
   | [] => .error ([], 70)
   | c :: r2 => if c = 58 then .ok (bT s, r2) else .error (c :: r2, 70)
def moreV (obj : Bool) (l : List UInt8) : Except Bad (Bool × List UInt8) :=
 match skipB l with
 | [] => .error ([], 70)
 | c :: r => if c = 44 then .ok (true, r) else if c = lastOf obj then .ok (false, r) else .error (c :: r, 70)
def endV (obj : Bool) (l : List UInt8) : Bool × List UInt8 := opt1 (lastOf obj) (skipB l)
def hadOf (obj : Bool) (had : List ByteArray) (k : ByteArray) : List ByteArray := if obj then had ++ [k] else had
mutual
def pv : Nat → Nat → Nat → List UInt8 → Except Bad (J × List UInt8)
 | 0, _, _, l => .error (l, 70)
 | f + 1, n, deep, l => match l with
   | [] => .error ([], 70)
   | c :: r => if begB c = false then .error (c :: r, 70) else if 4000 ≤ n then .error (c :: r, 5) else if 64 ≤ deep then .error (c :: r, 72)
     else if c = 91 ∨ c = 123 then (match endV (c == 123) r with
      | (true, r1) => .ok (.mk ⟨kindOf (c == 123), none_, 0, none_⟩ [], r1)
      | (false, r1) => match pp f (c == 123) (n + 1) (deep + 1) [] r1 with
        | .error b => .error b
        | .ok (js, r2) => .ok (.mk ⟨kindOf (c == 123), none_, 0, none_⟩ js, r2))
     else leafV c (c :: r)
def pp : Nat → Bool → Nat → Nat → List ByteArray → List UInt8 → Except Bad (List J × List UInt8)
 | 0, _, _, _, _, l => .error (l, 70)
 | f + 1, obj, n, deep, had, l => match keyV obj had l with
   | .error b => .error b
   | .ok (k, l1) => match pv f n deep (skipB l1) with
     | .error b => .error b
     | .ok (j, l2) => match moreV obj l2 with
       | .error b => .error b
       | .ok (false, l3) => .ok ([j.rekey k], l3)
       | .ok (true, l3) => match pp f obj (n + j.flat.length) deep (hadOf obj had k) l3 with
         | .error b => .error b
         | .ok (js, l4) => .ok (j.rekey k :: js, l4)
end
def fuelOf (l : List UInt8) : Nat := 2 * l.length + 2
def parseV (l : List UInt8) : Except (Nat × Int) J :=
 if 1048576 < l.length then .error (0, 5) else match pv (fuelOf l) 0 0 (skipB l) with
 | .error (p, e) => .error (l.length - p.length, e)
 | .ok (j, r) => match skipB r with
   | [] => .ok j
   | c :: p => .error (l.length - (c :: p).length, 70)
end Go.Proofs.YthlfljmfggmfdaaGreatDoor
