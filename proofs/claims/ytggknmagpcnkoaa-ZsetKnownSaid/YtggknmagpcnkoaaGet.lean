/- The walks of zset.Get and zset.Same. -/
import Derived.Test.YtggknmagpcnkoaaEq
namespace Go.Proofs.Ytggknmagpcnkoaa
open Go.RowKit

set_option maxRecDepth 100000 in
theorem get_fn (x : Value) (wt : Int) (q : Nat) (vr : Value) (a r : List Cell) (w : World) (ha : RowIs w x a) (hq : w.cell? ⟨q, 0, none⟩ = some vr) (hr : RowIs w vr r) :
    Calls Try.prog 50 #[.agg #[x, .int .i64 wt], .pointer (some ⟨q, 0, none⟩)] w fun e w' => e = .returned (.bool (sameRow a r)) ∧ Old w w' := by
  have hqb : q < w.heap.size := World.block_lt_of_cell? w _ hq
  have hc : ∀ o, Calls Try.prog 51 #[x, vr] (w.alloc o) fun e w' => e = .returned (.bool (sameRow a r)) ∧ Old (w.alloc o) w' := fun o =>
    row_Same _ _ _ _ _ (ha.old (Old.alloc (Old.refl w) o)) (hr.old (Old.alloc (Old.refl w) o))
  have HC := Lib.hid hc
  clear hc ha hr
  go_enter Try.func50, Try.ntmps50
  go_wp2_with fail
  refine (HC.out _).mono ?_
  rintro e w1 ⟨rfl, h1⟩
  go_wp2_with fail
  go_ret
  exact ⟨rfl, Old.trans (Old.alloc (Old.refl w) _) h1⟩

/-- where the first item of a row stands; -1: nowhere -/
def idxRow (l : List Item) (r : List Cell) : Int :=
  match l.findIdx? (fun x => sameRow x.row r) with
  | some i => i
  | none => -1
theorem idxRow_at {l : List Item} {r : List Cell} {k : Nat} (hk : k < l.length) (hn : ∀ j : Nat, (hj : j < k) → (hj' : j < l.length) → sameRow l[j].row r = false) (h : sameRow l[k].row r = true) : idxRow l r = k := by
  have : l.findIdx? (fun x => sameRow x.row r) = some k := by
    rw [List.findIdx?_eq_some_iff_getElem]
    exact ⟨hk, h, fun j hj => by simpa using hn j hj (by omega)⟩
  simp [idxRow, this]
theorem idxRow_none {l : List Item} {r : List Cell} (hn : ∀ j : Nat, (hj' : j < l.length) → sameRow l[j].row r = false) : idxRow l r = -1 := by
  have : l.findIdx? (fun x => sameRow x.row r) = none := by
    rw [List.findIdx?_eq_none_iff]
    intro x hx
    obtain ⟨j, hj, rfl⟩ := List.getElem_of_mem hx
    exact hn j hj
  simp [idxRow, this]

set_option maxRecDepth 100000 in
set_option maxHeartbeats 400000 in
theorem indexFunc (v : Value) (l : List Item) (q : Nat) (vr : Value) (r : List Cell) (w : World) (hl : ItemsIs w v l) (hq : w.cell? ⟨q, 0, none⟩ = some vr) (hr : RowIs w vr r) :
    Calls Try.prog 49 #[v, .func (.func 50) #[] #[.pointer (some ⟨q, 0, none⟩)]] w fun e w' => e = .returned (.int .i64 (idxRow l r)) ∧ Old w w' := by
  obtain ⟨A, ca, us, rfl, hla, hma, hul, hur, ha⟩ := hl.open_
  unfold maxLen at hma
  have HUR := Lib.hid hur
  clear hur
  have HR := Lib.hid hr
  have HQ := Lib.hid hq
  clear hr hq
  go_enter Try.func49, Try.ntmps49
  go_wp2_with fail
  go_loopw [8] (fun i wr => ∃ k : Nat, i = .int .i64 k ∧ k ≤ l.length ∧ Hid (∀ j : Nat, (hj : j < k) → (hj' : j < l.length) → sameRow l[j].row r = false) ∧ Old w wr) (fun i _ => l.length - (intOf i).toNat)
  case atStart => exact ⟨0, rfl, by omega, Lib.hid (by intro j hj; omega), Old.refl _⟩
  case round =>
    obtain ⟨k, rfl, hk, HN, hbl⟩ := hrel
    by_cases hlt : k < l.length
    · have hku : k < us.length := by omega
      obtain ⟨b1, o1, rfl, hc1⟩ := ha.resolve_left (by omega)
      obtain ⟨x0, x1⟩ := hc1 k hlt hku
      have hx0 := Old.cell hbl x0
      have hx1 := Old.cell hbl x1
      have hc := get_fn us[k] l[k].w q vr l[k].row r wr ((HUR.out k hlt hku).old hbl) (Old.cell hbl HQ.out) (HR.out.old hbl)
      have HC := Lib.hid hc
      clear ha hc1 x0 x1 hc
      go_wp2_with fail
      refine HC.out.mono ?_
      rintro e w1 ⟨rfl, h1⟩
      clear hx0 hx1
      cases hs : sameRow l[k].row r
      · have HS := Lib.hid hs
        clear hs
        go_wp2_with fail
        go_roundw
        case rel => exact ⟨k + 1, by go_num, by omega, Lib.hid (fun j hj hj' => by
          rcases Nat.lt_or_ge j k with h | h
          · exact HN.out j h hj'
          · have : j = k := by omega
            subst this
            exact HS.out), Old.trans hbl h1⟩
        case measure => simp [intOf]; omega
      · have HS := Lib.hid hs
        clear hs
        go_wp2_with fail
        go_ret
        exact ⟨ret_int (idxRow_at hlt HN.out HS.out).symm, Old.trans hbl h1⟩
    · go_wp2_with fail
      go_ret
      exact ⟨ret_int (idxRow_none fun j hj => HN.out j (by omega) hj).symm, hbl⟩

def getW (l : List Item) (r : List Cell) : Int :=
  match l.find? (fun x => sameRow x.row r) with
  | some x => x.w
  | none => 0
theorem getW_at {l : List Item} {r : List Cell} (h : ¬ idxRow l r < 0) : ∃ k : Nat, idxRow l r = k ∧ ∃ hk : k < l.length, getW l r = l[k].w := by
  unfold idxRow getW at *
  cases hf : l.findIdx? (fun x => sameRow x.row r) with
  | none => rw [hf] at h; simp at h
  | some i =>
    rw [List.findIdx?_eq_some_iff_getElem] at hf
    obtain ⟨hi, h1, h2⟩ := hf
    refine ⟨i, rfl, hi, ?_⟩
    have : l.find? (fun x => sameRow x.row r) = some l[i] := by
      rw [List.find?_eq_some_iff_getElem]
      exact ⟨h1, i, hi, rfl, fun j hj => by simpa using h2 j hj⟩
    rw [this]
theorem getW_none {l : List Item} {r : List Cell} (h : idxRow l r < 0) : getW l r = 0 := by
  unfold idxRow getW at *
  cases hf : l.findIdx? (fun x => sameRow x.row r) with
  | some i => rw [hf] at h; simp at h; omega
  | none =>
    rw [List.findIdx?_eq_none_iff] at hf
    have : l.find? (fun x => sameRow x.row r) = none := by
      rw [List.find?_eq_none]
      intro x hx
      simpa using hf x hx
    rw [this]

set_option maxRecDepth 100000 in
set_option maxHeartbeats 400000 in
theorem zset_Get (v vr : Value) (l : List Item) (r : List Cell) (w : World) (hl : ItemsIs w v l) (hr : RowIs w vr r) :
    Calls Try.prog 25 #[v, vr] w fun e w' => e = .returned (.int .i64 (getW l r)) ∧ Old w w' := by
  obtain ⟨A, capr, rfl, rest⟩ := id hr
  clear rest
  have hi : ∀ o, o = Obj.cells #[.slice A r.length capr] 34 → Calls Try.prog 49 #[v, .func (.func 50) #[] #[.pointer (some ⟨w.heap.size, 0, none⟩)]] (w.alloc o) fun e w' => e = .returned (.int .i64 (idxRow l r)) ∧ Old (w.alloc o) w' := by
    rintro o rfl
    exact indexFunc v l w.heap.size _ r _ (hl.old (Old.alloc (Old.refl w) _)) (by go_simp) (hr.old (Old.alloc (Old.refl w) _))
  have HI := Lib.hid (hi _ rfl)
  clear hi
  obtain ⟨B, ca, us, rfl, hla, hma, hul, hur, ha⟩ := hl.open_
  clear hur
  unfold maxLen at hma
  go_enter Try.func25, Try.ntmps25
  go_wp2_with fail
  refine HI.out.mono ?_
  rintro e w1 ⟨rfl, h1⟩
  have hold : Old w w1 := Old.trans (Old.alloc (Old.refl w) _) h1
  clear h1
  by_cases hneg : idxRow l r < 0
  · have HN := Lib.hid hneg
    go_wp2_with fail
    go_ret
    exact ⟨ret_int (getW_none hneg).symm, hold⟩
  · obtain ⟨k, hk, hkl, hw⟩ := getW_at hneg
    obtain ⟨b1, o1, rfl, hc1⟩ := ha.resolve_left (by omega)
    obtain ⟨x0, x1⟩ := hc1 k hkl (by omega)
    have hx1 := Old.cell hold x1
    have HW := Lib.hid hw
    clear ha hc1 x0 x1 hw hneg
    rw [hk]
    clear hk
    go_wp2_with fail
    go_ret
    exact ⟨ret_int HW.out.symm, hold⟩

set_option maxRecDepth 100000 in
theorem same_fn (x y : Value) (i j : Int) (a b : List Cell) (w : World) (ha : RowIs w x a) (hb : RowIs w y b) (c : Bool) (hc : (i == j) = c) :
    Calls Try.prog 53 #[.agg #[x, .int .i64 i], .agg #[y, .int .i64 j]] w fun e w' => e = .returned (.bool (c && sameRow a b)) ∧ Old w w' := by
  have hc' : ∀ o o', Calls Try.prog 51 #[x, y] ((w.alloc o).alloc o') fun e w' => e = .returned (.bool (sameRow a b)) ∧ Old ((w.alloc o).alloc o') w' := fun o o' =>
    row_Same _ _ _ _ _ (ha.old (Old.alloc (Old.alloc (Old.refl w) o) o')) (hb.old (Old.alloc (Old.alloc (Old.refl w) o) o'))
  have HC := Lib.hid hc'
  clear hc' ha hb
  cases c
  · go_enter Try.func53, Try.ntmps53
    go_wp2_with fail
    go_ret
    exact ⟨rfl, Old.alloc (Old.alloc (Old.refl w) _) _⟩
  · go_enter Try.func53, Try.ntmps53
    go_wp2_with fail
    refine (HC.out _ _).mono ?_
    rintro e w1 ⟨rfl, h1⟩
    go_wp2_with fail
    go_ret
    exact ⟨ret_bool (by simp), Old.trans (Old.alloc (Old.alloc (Old.refl w) _) _) h1⟩
end Go.Proofs.Ytggknmagpcnkoaa
