/- Small laws for the walk of tape.Sorted's closure. -/
import Derived.Test.YtkefhhnbkhijgaaDoorSortAny
import Derived.Test.YtkefhhnbkhijgaaDoorWhole
namespace Go.Proofs.YtkefhhnbkhijgaaDoor
open Go.RowKit

theorem kid_ok {V : ByteArray → Bool} {j : J} (h : j.Ok V) : ∀ x ∈ j.kids, x.Ok V := by
  cases j with
  | mk hd l =>
    rw [J.Ok] at h
    intro x hx
    rcases h with ⟨_, e⟩ | ⟨_, _, h, _⟩ | ⟨_, _, h, _⟩
    · rw [J.kids, e] at hx; simp at hx
    · exact oks_mem h x hx
    · exact oks_mem h x hx
theorem ok_keys {V : ByteArray → Bool} {j : J} (h : j.Ok V) (h7 : j.hd.kind = 7) : keysOk V [] (j.kids.map J.key) := by
  cases j with
  | mk hd l =>
    rw [J.Ok] at h
    have h7' : hd.kind = 7 := h7
    rcases h with ⟨h, _⟩ | ⟨h, _⟩ | ⟨_, _, _, h⟩
    · rcases h with ⟨h | h | h, _⟩ | ⟨h, _⟩ | ⟨h, _⟩ <;> omega
    · omega
    · exact h
theorem flats_mem_le {l : List J} {x : J} (h : x ∈ l) : x.flat.length ≤ (J.flats l).length := by
  induction l with
  | nil => simp at h
  | cons j l ih =>
    rw [flats_cons, List.length_append]
    rcases List.mem_cons.1 h with e | h
    · subst e; omega
    · have := ih h; omega
theorem flat_kids (j : J) : j.flat.length = (J.flats j.kids).length + 1 := by
  cases j; rw [flat_mk, List.length_cons]; rfl
/-- the room that the parts placed so far have taken, and the next -/
theorem room_next {l l' : List J} (hp : l'.Perm l) {a : Nat} (ha : a < l'.length) : (J.flats ((l'.take a).map J.sort)).length + l'[a].flat.length ≤ (J.flats l).length := by
  have h1 : (J.flats ((l'.take a).map J.sort)).length = (J.flats (l'.take a)).length := by rw [← sorts_map, sort_len.2]
  rw [h1, ← List.length_append, ← flats_take_snoc ha, ← flats_perm hp]
  exact flats_take_le l' (a + 1)
theorem sorted_next {l : List J} {a : Nat} (ha : a < l.length) (acc : List Nd) : acc ++ J.flats ((l.take (a + 1)).map J.sort) = acc ++ J.flats ((l.take a).map J.sort) ++ l[a].sort.flat := by
  rw [List.take_succ_eq_append_getElem ha, List.map_append, flats_append, List.map_cons, List.map_nil, flats_one, List.append_assoc]
theorem sort_flat_obj {j : J} (h7 : j.hd.kind = 7) {n : Nat} (hn : j.flat.length = n) : j.sort.flat = [⟨j.hd.kind, j.hd.key, j.hd.n, j.hd.s, n⟩] ++ J.flats (ordJ (J.sorts j.kids)) := by
  cases j with
  | mk h l =>
    have e : h.kind = 7 := h7
    have hk := flat_kids (.mk h l)
    rw [J.sort, if_pos e, flat_mk, flats_perm (ordJ_perm _), sort_len.2]
    have e2 : ((J.flats l).length : Int) + 1 = (n : Int) := by rw [← hn, hk]; rfl
    rw [e2]; rfl
theorem sort_flat_not {j : J} (h7 : ¬ j.hd.kind = 7) {n : Nat} (hn : j.flat.length = n) : j.sort.flat = [⟨j.hd.kind, j.hd.key, j.hd.n, j.hd.s, n⟩] ++ J.flats (j.kids.map J.sort) := by
  cases j with
  | mk h l =>
    have e : ¬ h.kind = 7 := h7
    have hk := flat_kids (.mk h l)
    rw [J.sort, if_neg e, flat_mk, sort_len.2, sorts_map]
    have e2 : ((J.flats l).length : Int) + 1 = (n : Int) := by rw [← hn, hk]; rfl
    rw [e2]; rfl
end Go.Proofs.YtkefhhnbkhijgaaDoor
