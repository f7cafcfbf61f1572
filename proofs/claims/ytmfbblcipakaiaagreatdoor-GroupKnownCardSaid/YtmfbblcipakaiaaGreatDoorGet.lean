/- The walks of zset.Get and zset.Same. -/
import Derived.Test.YtmfbblcipakaiaaGreatDoorEq
namespace Go.Proofs.YtmfbblcipakaiaaGreatDoor
open Go.RowKit

/-- where the first item of a row stands; -1: nowhere -/
def idxRow (l : List Item) (r : List Cell) : Int :=
  match l.findIdx? (fun x => sameRow x.row r) with
  | some i => i
  | none => -1
theorem idxRow_at {l : List Item} {r : List Cell} {k : Nat} (hk : k < l.length) (hn : ∀ j : Nat, (hj : j < k) → (hj' : j < l.length) → sameRow l[j].row r = false) (h : sameRow l[k].row r = true) : idxRow l r = k := by
  have : l.findIdx? (fun x => sameRow x.row r) = some k := by
    rw [List.findIdx?_eq_some_iff_getElem]
    exact ⟨hk, h, fun j hj => by simpa using hn j hj (by omega)⟩
  simp [idxRow, this]
theorem idxRow_none {l : List Item} {r : List Cell} (hn : ∀ j : Nat, (hj' : j < l.length) → sameRow l[j].row r = false) : idxRow l r = -1 := by
  have : l.findIdx? (fun x => sameRow x.row r) = none := by
    rw [List.findIdx?_eq_none_iff]
    intro x hx
    obtain ⟨j, hj, rfl⟩ := List.getElem_of_mem hx
    exact hn j hj
  simp [idxRow, this]

def getW (l : List Item) (r : List Cell) : Int :=
  match l.find? (fun x => sameRow x.row r) with
  | some x => x.w
  | none => 0
theorem getW_at {l : List Item} {r : List Cell} (h : ¬ idxRow l r < 0) : ∃ k : Nat, idxRow l r = k ∧ ∃ hk : k < l.length, getW l r = l[k].w := by
  unfold idxRow getW at *
  cases hf : l.findIdx? (fun x => sameRow x.row r) with
  | none => rw [hf] at h; simp at h
  | some i =>
    rw [List.findIdx?_eq_some_iff_getElem] at hf
    obtain ⟨hi, h1, h2⟩ := hf
    refine ⟨i, rfl, hi, ?_⟩
    have : l.find? (fun x => sameRow x.row r) = some l[i] := by
      rw [List.find?_eq_some_iff_getElem]
      exact ⟨h1, i, hi, rfl, fun j hj => by simpa using h2 j hj⟩
    rw [this]
theorem getW_none {l : List Item} {r : List Cell} (h : idxRow l r < 0) : getW l r = 0 := by
  unfold idxRow getW at *
  cases hf : l.findIdx? (fun x => sameRow x.row r) with
  | some i => rw [hf] at h; simp at h; omega
  | none =>
    rw [List.findIdx?_eq_none_iff] at hf
    have : l.find? (fun x => sameRow x.row r) = none := by
      rw [List.find?_eq_none]
      intro x hx
      simpa using hf x hx
    rw [this]

set_option maxRecDepth 100000 in
theorem same_fn (x y : Value) (i j : Int) (a b : List Cell) (w : World) (ha : RowIs w x a) (hb : RowIs w y b) (c : Bool) (hc : (i == j) = c) :
    Calls Tryz.prog 57 #[.agg #[x, .int .i64 i], .agg #[y, .int .i64 j]] w fun e w' => e = .returned (.bool (c && sameRow a b)) ∧ Old w w' := by
  have hc' : ∀ o o', Calls Tryz.prog 58 #[x, y] ((w.alloc o).alloc o') fun e w' => e = .returned (.bool (sameRow a b)) ∧ Old ((w.alloc o).alloc o') w' := fun o o' =>
    row_Same _ _ _ _ _ (ha.old (Old.alloc (Old.alloc (Old.refl w) o) o')) (hb.old (Old.alloc (Old.alloc (Old.refl w) o) o'))
  have HC := Lib.hid hc'
  clear hc' ha hb
  cases c
  · go_enter Tryz.func57, Tryz.ntmps57
    go_wp2_with fail
    go_ret
    exact ⟨rfl, Old.alloc (Old.alloc (Old.refl w) _) _⟩
  · go_enter Tryz.func57, Tryz.ntmps57
    go_wp2_with fail
    refine (HC.out _ _).mono ?_
    rintro e w1 ⟨rfl, h1⟩
    go_wp2_with fail
    go_ret
    exact ⟨ret_bool (by simp), Old.trans (Old.alloc (Old.alloc (Old.refl w) _) _) h1⟩
end Go.Proofs.YtmfbblcipakaiaaGreatDoor

