/- The statements' own inputs: few: nodes, 60 at most, of short texts, in memory of their own. -/
import Derived.Test.YtmolmphbhdbcaaaDoorGrow
namespace Go.Proofs.YtmolmphbhdbcaaaDoor
open Go.RowKit

def cutN (n : Int) (s : ByteArray) : ByteArray := s.extract 0 (min (s.size : Int) n).toNat
def cutKey (x : Nd) : Nd := ⟨x.kind, cutN 40 x.key, x.n, x.s, x.size⟩
def cutNd (x : Nd) : Nd := ⟨x.kind, cutN 40 x.key, x.n, cutN 60 x.s, x.size⟩
def fewL (t : List Nd) : List Nd := (t.take 60).map cutNd
theorem cutN_size (n : Nat) (s : ByteArray) : (cutN n s).size ≤ n := by
  unfold cutN
  rw [ByteArray.size_extract]
  omega
theorem fewL_len (t : List Nd) : (fewL t).length ≤ 60 := by simp [fewL]; omega
theorem fewL_texts (t : List Nd) : TextsOk (fewL t) := by
  intro x hx
  obtain ⟨y, _, rfl⟩ := List.mem_map.1 hx
  have h1 := cutN_size 40 y.key
  have h2 := cutN_size 60 y.s
  unfold maxLen
  have e1 : (cutNd y).key = cutN 40 y.key := rfl
  have e2 : (cutNd y).s = cutN 60 y.s := rfl
  rw [e1, e2]
  simp at h1 h2
  omega
/-- nodes of which the first are cut short -/
def fewTo (l : List Nd) (k : Nat) : List Nd := (l.take k).map cutNd ++ l.drop k
theorem fewTo_zero (l : List Nd) : fewTo l 0 = l := by simp [fewTo]
theorem fewTo_len (l : List Nd) (k : Nat) : (fewTo l k).length = l.length := by simp [fewTo]; omega
theorem fewTo_all (l : List Nd) {k : Nat} (h : l.length ≤ k) : fewTo l k = l.map cutNd := by
  unfold fewTo
  rw [List.take_of_length_le h, List.drop_eq_nil_of_le h, List.append_nil]
theorem fewTo_at {l : List Nd} {k : Nat} (h : k < l.length) : fewTo l k = (l.take k).map cutNd ++ l[k] :: l.drop (k + 1) := by
  unfold fewTo
  rw [List.drop_eq_getElem_cons h]
theorem fewTo_next {l : List Nd} {k : Nat} (h : k < l.length) : fewTo l (k + 1) = (l.take k).map cutNd ++ cutNd l[k] :: l.drop (k + 1) := by
  unfold fewTo
  rw [List.take_succ_eq_append_getElem h, List.map_append, List.append_assoc]
  rfl
theorem nodes_take {w : World} {A : Option Addr} {n cap : Nat} {t : List Nd} (h : NodesIs w (.slice A n cap) t) {m : Nat} (hm : (t.take m).length = m) : NodesIs w (.slice A m cap) (t.take m) := by
  have hmt : m ≤ t.length := by rw [← hm]; simp; omega
  obtain ⟨A', cp, he, h1, h2, h3⟩ := h
  injection he with e1 e2 e3
  subst e1 e2 e3
  refine ⟨A, cap, by rw [hm], by omega, h2, fun hne => ?_⟩
  obtain ⟨b, off, hA, hc⟩ := h3 (by
    intro e
    apply hne
    rw [ndVals_take, e, List.take_nil])
  refine ⟨b, off, hA, fun j u hu => hc j u ?_⟩
  rw [ndVals_take, List.getElem?_take] at hu
  split at hu
  · exact hu
  · cases hu
theorem nodes_form {lo : Nat} {w : World} {v : Value} {l : List Nd} {m : Nat} (h : NodesT lo w v l) (hm : l.length = m) : ∃ A cap, v = .slice A m cap ∧ m ≤ cap ∧ cap ≤ maxLen := by
  obtain ⟨A, cap, rfl, h1, h2, _⟩ := h
  exact ⟨A, cap, by rw [hm], by omega, h2⟩
/-- a text stored into a node of a row of the call's own -/
theorem set_text {lo m cap : Nat} {w : World} {A : Option Addr} {l1 l2 : List Nd} {x y : Nd} (i k : Nat) (s : ByteArray) (h : NodesT lo w (.slice A m cap) (l1 ++ x :: l2)) (hk : l1.length = k) (hi : i < 5) (hy : y.vals = x.vals.set i (.string s)) :
    ∃ g off, A = some ⟨g, off, none⟩ ∧ lo ≤ g ∧ (∀ j u, x.vals[j]? = some u → w.cell? ⟨g, off + k * 5 + j, none⟩ = some u) ∧ (∀ j, w.frozen? ⟨g, j, none⟩ = false) ∧
      NodesT lo (w.setCell ⟨g, off + k * 5 + i, none⟩ (.string s)) (.slice A m cap) (l1 ++ y :: l2) := by
  subst hk
  obtain ⟨A', cp, he, h1, h2, h3⟩ := h
  injection he with e1 e2 e3
  subst e1 e3
  obtain ⟨g, off, cs, rfl, hlo, hh, hc⟩ := h3 (ndVals_ne (by simp; omega))
  have e : ndVals (l1 ++ x :: l2) = ndVals l1 ++ (x.vals ++ ndVals l2) := by simp [ndVals]
  have e' : ndVals (l1 ++ y :: l2) = ndVals l1 ++ (y.vals ++ ndVals l2) := by simp [ndVals]
  have hx5 : x.vals.length = 5 := rfl
  have hcx : ∀ j u, x.vals[j]? = some u → cs[off + l1.length * 5 + j]? = some u := fun j u hu => by
    rw [Nat.add_assoc]
    refine hc _ _ ?_
    rw [e, List.getElem?_append_right (by rw [ndVals_length]; omega), ndVals_length, Nat.add_sub_cancel_left, List.getElem?_append_left (by have := (List.getElem?_eq_some_iff.1 hu).1; omega)]
    exact hu
  have e2' : ndVals (l1 ++ y :: l2) = (ndVals (l1 ++ x :: l2)).set (l1.length * 5 + i) (.string s) := by
    rw [e, e', hy, List.set_append_right _ _ (by rw [ndVals_length]; omega), ndVals_length, Nat.add_sub_cancel_left, List.set_append_left _ _ (by omega)]
  have hl' : (l1 ++ y :: l2).length = (l1 ++ x :: l2).length := by simp
  refine ⟨g, off, rfl, hlo, fun j u hu => by rw [cell_of_heap hh]; exact hcx j u hu, fun j => free_of_heap hh, ?_⟩
  unfold NodesT
  rw [hl']
  refine ⟨_, cap, by rw [e2], h1, h2, fun _ => ⟨g, off, cs.setIfInBounds (off + l1.length * 5 + i) (.string s), rfl, hlo, by simp [World.setCell, Array.getElem?_modify, hh], fun j u hu => ?_⟩⟩
  rw [e2', List.getElem?_set] at hu
  by_cases hj : l1.length * 5 + i = j
  · subst hj
    rw [if_pos rfl] at hu
    split at hu
    · injection hu with hu
      subst hu
      have hlt : off + l1.length * 5 + i < cs.size := by
        obtain ⟨z, hz⟩ : ∃ z, x.vals[i]? = some z := ⟨_, List.getElem?_eq_getElem (by omega)⟩
        exact (Array.getElem?_eq_some_iff.1 (hcx i z hz)).1
      rw [← Nat.add_assoc, Array.getElem?_setIfInBounds_self_of_lt hlt]
    · cases hu
  · rw [if_neg hj] at hu
    rw [Array.getElem?_setIfInBounds_ne (by omega)]
    exact hc j u hu

set_option maxRecDepth 100000 in
set_option maxHeartbeats 1000000 in
theorem few_run (v : Value) (t : List Nd) (w : World) (ht : NodesIs w v t) : Calls Tryd.prog 8 #[v] w (NewNodes w (fewL t)) := by
  have HT := hide ht
  obtain ⟨A, ca, rfl, hla, hma, _⟩ := ht.nodes
  unfold maxLen at hma
  obtain ⟨L, hL⟩ : ∃ L, Hid (t.take 60 = L) := ⟨_, hide rfl⟩
  obtain ⟨m, hm⟩ : ∃ m, Hid (L.length = m) := ⟨_, hide rfl⟩
  have hm60 : m ≤ 60 := by rw [← hm.out, ← hL.out]; simp; omega
  have CC := hide (show Calls Tryd.prog 9 #[.slice A (min (t.length : Int) 60).toNat ca] w (NewNodes w L) by
    have e : (min (t.length : Int) 60).toNat = m := by rw [← hm.out, ← hL.out]; simp; omega
    rw [e]
    have e3 : t.take 60 = t.take m := by
      rw [← hm.out, ← hL.out, List.length_take]
      rcases Nat.le_total 60 t.length with h | h
      · rw [Nat.min_eq_left h]
      · rw [Nat.min_eq_right h, List.take_of_length_le h, List.take_length]
    have e2 : t.take m = L := by rw [← hL.out, e3]
    have := nodes_take (m := m) HT.out (by rw [e2]; exact hm.out)
    rw [e2] at this
    exact ref_Copy _ _ w this (by rw [hm.out]; omega))
  clear ht
  go_enter Tryd.func8, Tryd.ntmps8
  go_wp2_with fail
  refine CC.out.mono ?_
  rintro e w1 ⟨v1, rfl, n1, ow1⟩
  obtain ⟨A1, c1, rfl, q1, q2⟩ := nodes_form n1 hm.out
  unfold maxLen at q2
  have N1 := hide n1
  have O1 := hide ow1
  clear n1 ow1
  go_wp2_with fail
  go_loopw [3] (fun i wr => ∃ k : Nat, i = .int .i64 k ∧ k ≤ m ∧ Hid (NodesT w.heap.size wr (.slice A1 m c1) (fewTo L k)) ∧ Hid (Old w wr)) (fun i _ => m - (intOf i).toNat)
  case atStart => exact ⟨0, rfl, by omega, hide (by rw [fewTo_zero]; exact N1.out), O1⟩
  case round =>
    obtain ⟨k, rfl, hk, HN, HO⟩ := hrel
    by_cases hlt : k < m
    · have hkl : k < L.length := by rw [hm.out]; exact hlt
      have hk1 : ((L.take k).map cutNd).length = k := by simp; omega
      have h := HN.out
      rw [fewTo_at hkl] at h
      obtain ⟨x, hx⟩ : ∃ x, Hid (L[k] = x) := ⟨_, hide rfl⟩
      rw [hx.out] at h
      obtain ⟨g, off, rfl, s1, s2, s3, s4⟩ := set_text (y := cutKey x) 1 k (x.key.extract 0 (min (x.key.size : Int) 40).toNat) h hk1 (by omega) rfl
      have x1 := s2 1 _ rfl
      have f1 := s3 (off + k * 5 + 1)
      have HN2 := hide (SlT.old s4 (Old.drew (Old.refl _)))
      have HO2 := hide (show Old w (wr.setCell ⟨g, off + k * 5 + 1, none⟩ (.string (x.key.extract 0 (min (x.key.size : Int) 40).toNat))).drew from Old.drew (HO.out.setCell s1 _))
      clear h s1 s2 s3 s4
      go_wp2_with fail
      go_region
      generalize (wr.setCell ⟨g, off + k * 5 + 1, none⟩ (.string (x.key.extract 0 (min (x.key.size : Int) 40).toNat))).drew = w2 at HN2 HO2 ⊢
      clear x1 f1
      obtain ⟨g', off', he, s1, s2, s3, s4⟩ := set_text (y := cutNd x) 3 k (x.s.extract 0 (min (x.s.size : Int) 60).toNat) HN2.out hk1 (by omega) rfl
      injection he with he
      injection he with e1 e2
      subst e1 e2
      have x1 := s2 3 _ rfl
      have f1 := s3 (off + k * 5 + 3)
      have HN3 := hide (SlT.old s4 (Old.drew (Old.refl _)))
      have HO3 := hide (show Old w (w2.setCell ⟨g, off + k * 5 + 3, none⟩ (.string (x.s.extract 0 (min (x.s.size : Int) 60).toNat))).drew from Old.drew (HO2.out.setCell s1 _))
      simp only [cutKey] at x1
      clear s1 s2 s3 s4 hk1 
      go_wp2_with fail
      go_region
      generalize (w2.setCell ⟨g, off + k * 5 + 3, none⟩ (.string (x.s.extract 0 (min (x.s.size : Int) 60).toNat))).drew = w3 at HN3 HO3 ⊢
      clear x1 f1
      go_wp2_with fail
      go_roundw
      case rel => exact ⟨k + 1, by go_num, by omega, hide (by rw [fewTo_next hkl, hx.out]; exact HN3.out), HO3⟩
      case measure => simp [intOf]; omega
    · go_wp2_with fail
      go_ret
      exact ⟨_, rfl, by have h := HN.out; rw [fewTo_all L (by rw [hm.out]; omega), ← hL.out] at h; exact h, HO.out⟩
end Go.Proofs.YtmolmphbhdbcaaaDoor

