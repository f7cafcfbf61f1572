/- Members placed one by one, each ahead of the first whose key is not less: the plain law of the document's sorted. -/
import Derived.Test.YtmolmphbhdbcaaaDoorOrdJ
namespace Go.Proofs.YtmolmphbhdbcaaaDoor
open Go.RowKit

/-- values sorted; as members, they stand by their keys, too -/
def sortedL (members : Bool) (l : List J) : List J := if members then ordJ (J.sorts l) else J.sorts l
/-- what some values have become so far -/
def InsIs (members : Bool) (l X : List J) : Prop := if members then X.Perm (J.sorts l) ∧ UpJ X else X = J.sorts l
theorem InsIs.nil (members : Bool) : InsIs members [] [] := by
  unfold InsIs
  cases members <;> simp [J.sorts, UpJ]
theorem aptJ_sorts {l : List J} (h : AptJ l) : AptJ (J.sorts l) := by
  rw [sorts_map]
  exact List.pairwise_map.2 (h.imp fun {a b} hab => by rw [sort_key, sort_key]; exact hab)
theorem InsIs.fin {members : Bool} {l X : List J} (h : InsIs members l X) (ha : members = true → AptJ l) : X = sortedL members l := by
  unfold InsIs at h
  unfold sortedL
  cases members
  · simpa using h
  · simp only [if_true] at h ⊢
    exact up_unique (h.1.trans (ordJ_perm _).symm) h.2 (ordJ_up (aptJ_sorts (ha rfl)))
theorem InsIs.len {members : Bool} {l X : List J} (h : InsIs members l X) : (J.flats X).length = (J.flats l).length := by
  unfold InsIs at h
  cases members
  · simp only [Bool.false_eq_true, if_false] at h
    rw [h, sort_len.2]
  · simp only [if_true] at h
    rw [flats_perm h.1, sort_len.2]
theorem InsIs.behind {l X : List J} (h : InsIs false l X) (j : J) : InsIs false (l ++ [j]) (X ++ [j.sort]) := by
  unfold InsIs at *
  simp only [Bool.false_eq_true, if_false] at h ⊢
  rw [h, sorts_map, sorts_map, List.map_append]
  rfl
theorem InsIs.at_ {l Xa Xb : List J} {j : J} (h : InsIs true l (Xa ++ Xb)) (hlt : ∀ x ∈ Xa, keyLt x.key j.key) (hge : ∀ y Y, Xb = y :: Y → ¬ keyLt y.key j.key) (hne : ∀ x ∈ l, x.key ≠ j.key) : InsIs true (l ++ [j]) (Xa ++ j.sort :: Xb) := by
  unfold InsIs at *
  simp only [if_true] at h ⊢
  obtain ⟨hp, hu⟩ := h
  have hk : ∀ x ∈ Xa ++ Xb, x.key ≠ j.key := by
    intro x hx
    have := hp.mem_iff.1 hx
    rw [sorts_map] at this
    obtain ⟨y, hy, rfl⟩ := List.mem_map.1 this
    rw [sort_key]
    exact hne y hy
  refine ⟨?_, ?_⟩
  · rw [sorts_map, List.map_append, ← sorts_map]
    exact List.perm_middle.trans ((hp.cons _).trans (List.perm_append_comm (l₁ := [j.sort]) (l₂ := J.sorts l)))
  · unfold UpJ at hu ⊢
    obtain ⟨u1, u2, u3⟩ := List.pairwise_append.1 hu
    have hb : ∀ x ∈ Xb, keyLt j.key x.key := by
      cases Xb with
      | nil => simp
      | cons y Y =>
        have hy : keyLt j.key y.key := keyLt_total (hge y Y rfl) (hk y (by simp))
        intro x hx
        rcases List.mem_cons.1 hx with rfl | hx
        · exact hy
        · exact keyLt_trans hy ((List.pairwise_cons.1 u2).1 x hx)
    refine List.pairwise_append.2 ⟨u1, List.pairwise_cons.2 ⟨fun x hx => by rw [sort_key]; exact hb x hx, u2⟩, fun x hx y hy => ?_⟩
    rcases List.mem_cons.1 hy with rfl | hy
    · rw [sort_key]; exact hlt x hx
    · exact u3 x hx y hy
theorem sort_one {j : J} {n : Nat} (hn : j.flat.length = n) : j.sort.flat = [⟨j.hd.kind, j.hd.key, j.hd.n, j.hd.s, n⟩] ++ J.flats (sortedL (decide (j.hd.kind = 7)) j.kids) := by
  cases j with
  | mk h l =>
    have hk : (J.flat (.mk h l)).length = (J.flats l).length + 1 := by rw [flat_mk, List.length_cons]
    rw [hk] at hn
    have hl : (J.flats (sortedL (decide (h.kind = 7)) l)).length = (J.flats l).length := by
      unfold sortedL
      split
      · rw [flats_perm (ordJ_perm _), sort_len.2]
      · rw [sort_len.2]
    have e : J.sort (.mk h l) = .mk h (sortedL (decide (h.kind = 7)) l) := by
      rw [J.sort]
      unfold sortedL
      simp
    rw [e, flat_mk, hl]
    have e2 : ((J.flats l).length : Int) + 1 = (n : Int) := by omega
    rw [e2]
    rfl
end Go.Proofs.YtmolmphbhdbcaaaDoor

