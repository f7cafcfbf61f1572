/- tape.Get. -/
import Derived.Test.YtcddfpcapbdphaaGreatDoorPartT
namespace Go.Proofs.YtcddfpcapbdphaaGreatDoor
open Go.RowKit

/-- the member of a key -/
def member (l : List J) (key : ByteArray) : Option J := l.find? fun j => decide (j.key = key)
/-- what Get answers -/
def GetT (t : List Nd) (key : ByteArray) (ps : List Nd) (is : Bool) : Prop :=
  ((chkT t ≠ 0 ∨ ∃ h l, May t (.mk h l) ∧ h.kind ≠ 7) ∧ ps = [] ∧ is = false) ∨ ∃ h l, May t (.mk h l) ∧ h.kind = 7 ∧ ((member l key = none ∧ ps = [] ∧ is = false) ∨ ∃ j, member l key = some j ∧ ps = j.unkey.flat ∧ is = true)
theorem GetT_some (t : List Nd) (key : ByteArray) : ∃ ps is, GetT t key ps is := by
  by_cases h : chkT t = 0
  · obtain ⟨⟨hd, l⟩, hj⟩ := may_of h
    by_cases hk : hd.kind = 7
    · cases hm : member l key with
      | none => exact ⟨_, _, .inr ⟨hd, l, hj, hk, .inl ⟨hm, rfl, rfl⟩⟩⟩
      | some j => exact ⟨_, _, .inr ⟨hd, l, hj, hk, .inr ⟨j, hm, rfl, rfl⟩⟩⟩
    · exact ⟨_, _, .inl ⟨.inr ⟨hd, l, hj, hk⟩, rfl, rfl⟩⟩
  · exact ⟨_, _, .inl ⟨.inl h, rfl, rfl⟩⟩
theorem member_none {l1 : List J} {key : ByteArray} (h : ∀ j ∈ l1, j.key ≠ key) (l2 : List J) : member (l1 ++ l2) key = member l2 key := by
  unfold member
  rw [List.find?_append, List.find?_eq_none.2 (by simpa using h)]
  rfl
theorem member_here {j : J} {l : List J} {key : ByteArray} (h : j.key = key) : member (j :: l) key = some j := by simp [member, h]
/-- new nodes, and whether there are some -/
def NewNodesB (w0 : World) (l : List Nd) (b : Bool) (e : Ending) (w' : World) : Prop := ∃ v, e = .returned (.tuple #[v, .bool b]) ∧ NodesT w0.heap.size w' v l ∧ Old w0 w'
theorem ints_cell {w : World} {v : Value} {l : List Nat} {lo m : Nat} (h : IntsT lo w v l) (hm : l.length = m) : ∃ A cap, v = .slice A m cap ∧ m ≤ cap ∧ cap ≤ maxLen ∧ (m = 0 ∨ ∃ b off, A = some ⟨b, off, none⟩ ∧ ∀ (i n : Nat), l[i]? = some n → w.cell? ⟨b, off + i, none⟩ = some (.int .i64 (n : Int))) := by
  subst hm
  obtain ⟨A, cap, rfl, h1, h2, h3⟩ := h.sl
  refine ⟨A, cap, rfl, h1, h2, ?_⟩
  cases l with
  | nil => exact .inl rfl
  | cons x l =>
    obtain ⟨b, off, rfl, hc⟩ := h3 (by simp [intVals])
    exact .inr ⟨b, off, rfl, fun i n hn => hc i _ (by simp only [intVals, List.getElem?_map, hn, Option.map_some])⟩
theorem starts_at {a : Nat} {l1 l2 : List J} {j : J} : (starts a (l1 ++ j :: l2))[l1.length]? = some (a + (J.flats l1).length) := by
  rw [starts_append, List.getElem?_append_right (by rw [starts_length]; exact Nat.le_refl _), starts_length, Nat.sub_self]
  rfl
theorem kids_ok {V : ByteArray → Bool} {h : Hd} {l : List J} (hok : J.Ok V (.mk h l)) : J.Oks V l := by
  simp only [J.Ok] at hok
  rcases hok with ⟨_, rfl⟩ | ⟨_, _, h, _⟩ | ⟨_, _, h, _⟩
  · simp [J.Oks]
  · exact h
  · exact h
theorem part_kid {t : List Nd} {h : Hd} {l1 l2 : List J} {j : J} (hm : May t (.mk h (l1 ++ j :: l2))) : PartT t ((0 + 1 + (J.flats l1).length : Nat) : Int) j.unkey.flat := by
  have hd : t.drop 0 = J.flat (.mk h (l1 ++ j :: l2)) ++ [] := by rw [List.drop_zero, List.append_nil]; exact hm.1.2.2
  have hd2 := drop_flat hd
  rw [flats_cons, List.append_assoc] at hd2
  obtain ⟨ha, _⟩ := head_flat hd2
  have hok := oks_mem (kids_ok hm.1.1) j (by simp)
  refine .inr ⟨_, j, _, _, hm, rfl, ha, hd2, hok, ?_, rfl⟩
  have := deep_le_deeps (l := l1 ++ j :: l2) (j := j) (by simp)
  simp only [J.deep]
  omega

end Go.Proofs.YtcddfpcapbdphaaGreatDoor


