/- The laws' groups, made. -/
import Derived.Test.YtmfbblcipakaiaaGreatDoorGrpX
import Derived.Test.YtmfbblcipakaiaaGreatDoorSame
import Derived.Test.YtmfbblcipakaiaaGreatDoorGrpH
import Derived.Test.YtmfbblcipakaiaaGreatDoorAdd
/-! ### The laws' groups, made. -/
namespace Go.Proofs.YtmfbblcipakaiaaGreatDoor
open Go.RowKit

def brg (i : Int) (n : Nat) : Nat := if i.tmod n < 0 then (i.tmod n + n).toNat else (i.tmod n).toNat
theorem brg_lt (i : Int) {n : Nat} (hn : 0 < n) : brg i n < n := by
  have h1 := Int.tmod_lt_of_pos i (show (0 : Int) < n by omega)
  unfold brg
  split <;> omega
set_option maxRecDepth 100000 in
theorem bring_is (i : Int) (n : Nat) (w : World) (hn : 0 < n) (hn' : n ≤ 1048576) :
    Calls Tryz.prog 22 #[.int .i64 i, .int .i64 n] w fun e w' => e = .returned (.int .i64 (brg i n)) ∧ w = w' := by
  have h1 := Int.tmod_lt_of_pos i (show (0 : Int) < n by omega)
  have h2 := Int.neg_tmod i n
  have h3 : -(n : Int) < i.tmod n := by
    have := Int.tmod_lt_of_pos (-i) (show (0 : Int) < n by omega)
    rw [h2] at this
    omega
  clear h2
  go_enter Tryz.func22, Tryz.ntmps22
  go_wp2_with fail
  · go_ret
    exact ⟨ret_int (by unfold brg; rw [if_pos (by omega)]; omega), rfl⟩
  · go_ret
    exact ⟨ret_int (by unfold brg; rw [if_neg (by omega)]; omega), rfl⟩
def MadePost (w : World) (K S : Nat) (e : Ending) (w' : World) : Prop :=
  ∃ g bm, e = .returned (.pointer (some ⟨g, 0, none⟩)) ∧ w.heap.size ≤ g ∧ w.heap.size ≤ bm ∧ GIs w' g bm K S 0 gZero (fun _ => False) ∧ Old w w'
theorem new_small (K S : Nat) (w : World) (hK : K ≤ 16) (hS : S ≤ 16) :
    Calls Tryz.prog 9 #[.int .i64 K, .int .i64 S] w fun e w' => ∃ g bm, e = .returned (.tuple #[.pointer (some ⟨g, 0, none⟩), .int .i64 0]) ∧ w.heap.size ≤ g ∧ w.heap.size ≤ bm ∧ GIs w' g bm K S 0 gZero (fun _ => False) ∧ Old w w' :=
  (new_run K S w).mono fun e w' ⟨ho, h⟩ => by
    rcases h with ⟨h, _⟩ | ⟨_, g, bm, h1, h2, h3, h4⟩
    · exact absurd ⟨by omega, by omega, by omega, by omega⟩ h
    · exact ⟨g, bm, h1, h2, h3, h4, ho⟩
set_option maxRecDepth 100000 in
set_option maxHeartbeats 1000000 in
theorem made_run (k0 k1 : Int) (w : World) : Calls Tryz.prog 21 #[.agg #[.int .i64 k0, .int .i64 k1]] w (MadePost w (brg k0 4) (brg k1 4)) := by
  have CB0 := hide (show ∀ w', Calls Tryz.prog 22 #[.int .i64 k0, .int .i64 4] w' fun e w2 => e = .returned (.int .i64 (brg k0 4)) ∧ w' = w2 from fun w' => bring_is k0 4 w' (by omega) (by omega))
  have CB1 := hide (show ∀ w', Calls Tryz.prog 22 #[.int .i64 k1, .int .i64 4] w' fun e w2 => e = .returned (.int .i64 (brg k1 4)) ∧ w' = w2 from fun w' => bring_is k1 4 w' (by omega) (by omega))
  have hK := brg_lt k0 (n := 4) (by omega)
  have hS := brg_lt k1 (n := 4) (by omega)
  generalize brg k0 4 = K at CB0 hK ⊢
  generalize brg k1 4 = S at CB1 hS ⊢
  have CN := hide (fun w' => new_small K S w' (by omega) (by omega))
  go_enter Tryz.func21, Tryz.ntmps21
  go_wp2_with fail
  have hb := heap_alloc_at (w := w) (.cells #[.int .i64 k0, .int .i64 k1] 22)
  have x0 : ∀ w', Old (w.alloc (.cells #[.int .i64 k0, .int .i64 k1] 22)) w' → w'.cell? ⟨w.heap.size, 0, none⟩ = some (.int .i64 k0) := fun w' h => h.cell ((cell_of_heap hb).trans rfl)
  have x1 : ∀ w', Old (w.alloc (.cells #[.int .i64 k0, .int .i64 k1] 22)) w' → w'.cell? ⟨w.heap.size, 1, none⟩ = some (.int .i64 k1) := fun w' h => h.cell ((cell_of_heap hb).trans rfl)
  clear hb
  go_region_held3 (fun w' => Old (w.alloc (.cells #[.int .i64 k0, .int .i64 k1] 22)) w')
    (first | (exact Old.drew (Old.refl _)) | (exact Old.trans (by assumption) (by assumption)))
    (first
      | (go_at_call 22; (with_reducible refine (CB0.out _).mono ?_); rintro e w1 ⟨rfl, rfl⟩)
      | (go_at_call 22; (with_reducible refine (CB1.out _).mono ?_); rintro e w2 ⟨rfl, rfl⟩)
      | (go_at_call 9; (with_reducible refine (CN.out _).mono ?_); rintro e w3 ⟨g, bm, rfl, hg, hbm, hG, ho3⟩)
      | (fail "none fits"))
  go_wp2_with fail
  go_ret
  have h1 : w.heap.size ≤ (w.alloc (.cells #[.int .i64 k0, .int .i64 k1] 22)).heap.size := by simp
  have hO : Old (w.alloc (.cells #[.int .i64 k0, .int .i64 k1] 22)) w3 := by assumption
  exact ⟨g, bm, rfl, Nat.le_trans h1 hg, Nat.le_trans h1 hbm, hG, Old.trans ((Old.refl _).alloc _) hO⟩
end Go.Proofs.YtmfbblcipakaiaaGreatDoor

/-! ### The laws' groups underway: what a call leaves. -/
namespace Go.Proofs.YtmfbblcipakaiaaGreatDoor
open Go.RowKit

structure LSt (w0 w : World) (g bm K S m : Nat) (f : Gf) : Prop where
  pow : PowTab w0
  g0 : w0.heap.size ≤ g
  b0 : w0.heap.size ≤ bm
  old : Old w0 w
  k3 : K ≤ 3
  s3 : S ≤ 3
  is : ∃ B, GIs w g bm K S m f B
theorem LSt.step {w0 w w' : World} {g bm K S m : Nat} {f : Gf} (h : LSt w0 w g bm K S m f) (o : Old w w') : LSt w0 w' g bm K S m f :=
  ⟨h.pow, h.g0, h.b0, h.old.trans o, h.k3, h.s3, by obtain ⟨B, hB⟩ := h.is; exact ⟨B, hB.old o⟩⟩
theorem LSt.mono {w0 w : World} {g bm K S m n : Nat} {f : Gf} (h : LSt w0 w g bm K S m f) (hn : m ≤ n) : LSt w0 w g bm K S n f :=
  ⟨h.pow, h.g0, h.b0, h.old, h.k3, h.s3, by obtain ⟨B, hB⟩ := h.is; exact ⟨B, hB.mono hn⟩⟩
theorem LSt.pow' {w0 w : World} {g bm K S m : Nat} {f : Gf} (h : LSt w0 w g bm K S m f) : PowTab w := h.pow.old h.old
theorem LSt.made {w0 w w' : World} {g bm K S : Nat} (hp : PowTab w0) (ho : Old w0 w) (hK : K < 4) (hS : S < 4) (hg : w.heap.size ≤ g) (hb : w.heap.size ≤ bm) (hG : GIs w' g bm K S 0 gZero (fun _ => False)) (o : Old w w') : LSt w0 w' g bm K S 0 gZero :=
  ⟨hp, Nat.le_trans ho.size hg, Nat.le_trans ho.size hb, ho.trans o, by omega, by omega, _, hG⟩
/-- a call that changed nothing but the groups' map -/
structure Turn (bm : Nat) (w w' : World) : Prop where
  chg : Chg (fun b => b = bm) w w'
  map : ∃ (n : Nat) (M : ByteArray → Option Value), MapIs Tryz.prog 9 w bm n M
theorem Turn.items {bm : Nat} {w w' : World} {v : Value} {l : List Item} (t : Turn bm w w') (h : ItemsIs w v l) : ItemsIs w' v l := by obtain ⟨n, M, hM⟩ := t.map; exact h.turn t.chg hM
theorem Turn.ents {bm : Nat} {w w' : World} {v : Value} {l : List Ent} (t : Turn bm w w') (h : EntsIs w v l) : EntsIs w' v l := by obtain ⟨n, M, hM⟩ := t.map; exact h.turn t.chg hM
theorem Turn.sl {bm : Nat} {w w' : World} {v : Value} {n : Nat} {xs : List Value} (t : Turn bm w w') (h : Sl w v n xs) : Sl w' v n xs := by
  obtain ⟨m, M, hM⟩ := t.map
  exact h.chg t.chg (fun b cs T f hh e => by subst e; exact map_ne hh hM rfl)
theorem Turn.other {w0 w w' : World} {bm g2 b2 K S m : Nat} {f : Gf} (t : Turn bm w w') (h : LSt w0 w g2 b2 K S m f) (hb : w0.heap.size ≤ bm) (hne : b2 ≠ bm) (hB : ∃ B, GIs w g2 b2 K S m f B ∧ ¬ B bm) : LSt w0 w' g2 b2 K S m f := by
  obtain ⟨B, hG, hn⟩ := hB
  obtain ⟨n, M, hM⟩ := t.map
  refine ⟨h.pow, h.g0, h.b0, Below.trans h.old (Chg.below (lo := w0.heap.size) t.chg h.old.size (fun n hn e => by omega)), h.k3, h.s3, B, hG.chg t.chg (fun e => ?_) hne (fun b _ hb e => hn (e ▸ hb))⟩
  obtain ⟨es, c, hes⟩ := hM.isMap
  have := hG.c0
  rw [e] at this
  unfold World.cell? at this
  simp [hes] at this
/-- the values of an Apply -/
def ApPost (w0 w : World) (g bm K S m : Nat) (f : Gf) (l : List Ent) (n : Int) (e : Ending) (w' : World) : Prop :=
  ∃ A c z, e = .returned (.tuple #[.slice A z.length c, .int .i64 n]) ∧ z.length ≤ c ∧ c ≤ maxLen ∧ ItemsIs w' (.slice A z.length c) z ∧ Delta K S f (appF K S f l) z ∧ z.length ≤ l.length * 2 ∧ LSt w0 w' g bm K S (m + l.length) (appF K S f l) ∧ Turn bm w w'
theorem lst_apply {w0 w : World} {g bm K S m : Nat} {f : Gf} (v : Value) (l : List Ent) (n : Int) (hs : LSt w0 w g bm K S m f) (hl : EntsIs w v l) (hm : m ≤ 10000) (hn : l.length ≤ 1000) (hf : ∀ e ∈ l, EntFine e) (he : appErr K S f l = n) :
    Calls Tryz.prog 12 #[.pointer (some ⟨g, 0, none⟩), v] w (ApPost w0 w g bm K S m f l n) := by
  obtain ⟨B, hB⟩ := hs.is
  have hk := hs.k3
  have h3 := hs.s3
  refine (apply_run g bm K S m f B v l w hB (by omega) (by omega) (by omega) hl (by omega) hf hs.pow').mono ?_
  rintro e w' ⟨h1, out, z, rfl, -, -, hi, hd, hz, hG, hc⟩
  obtain ⟨A, c, us, rfl, h4, h5, -⟩ := id hi.is.open_
  obtain ⟨M, hM⟩ := hB.map
  have hb := hs.b0
  rw [he]
  exact ⟨A, c, z, rfl, h4, h5, hi.is, hd, hz, ⟨hs.pow, hs.g0, hs.b0, Below.trans hs.old (Chg.below (lo := w0.heap.size) hc hs.old.size (fun n hn e => by omega)), hk, h3, _, hG⟩, hc, _, M, hM.map⟩
def RwPost (w : World) (K S m : Nat) (f : Gf) (e : Ending) (w' : World) : Prop :=
  ∃ A c z, e = .returned (.slice A z.length c) ∧ z.length ≤ c ∧ c ≤ maxLen ∧ ItemsIs w' (.slice A z.length c) z ∧ RowsZ K S f z ∧ z.length ≤ m ∧ Old w w'
theorem lst_rows {w0 w : World} {g bm K S m : Nat} {f : Gf} (hs : LSt w0 w g bm K S m f) (hm : m ≤ 10000) :
    Calls Tryz.prog 18 #[.pointer (some ⟨g, 0, none⟩)] w (RwPost w K S m f) := by
  obtain ⟨B, hB⟩ := hs.is
  have hk := hs.k3
  have h3 := hs.s3
  refine (rows_run g bm K S m f B w hB (by omega) (by omega) (by omega)).mono ?_
  rintro e w' ⟨v, z, rfl, hi, hz, hn, ho⟩
  obtain ⟨A, c, us, rfl, h4, h5, -⟩ := id hi.is.open_
  exact ⟨A, c, z, rfl, h4, h5, hi.is, hz, hn, ho⟩
def CutPost (w : World) (l : List Ent) (e : Ending) (w' : World) : Prop :=
  ∃ A c, e = .returned (.slice A l.length c) ∧ l.length ≤ c ∧ c ≤ maxLen ∧ EntsIs w' (.slice A l.length c) l ∧ Old w w'
theorem lst_cut {w : World} (v : Value) (l : List Ent) (hl : EntsIs w v l) : Calls Tryz.prog 11 #[v] w (CutPost w (cutEs l)) := by
  refine (cut_run v l w hl).mono ?_
  rintro e w' ⟨v, rfl, hi, ho⟩
  obtain ⟨A, c, us, vs, rfl, h4, h5, -⟩ := id hi.is.open_
  exact ⟨A, c, rfl, h4, h5, hi.is, ho⟩

/-! ### few items, of short rows -/
theorem delta_fine {K S n : Nat} {f g : Gf} {z : List Item} (h : Delta K S f g z) (hK : K ≤ 3) (hS : S ≤ 3) (hn : z.length ≤ n) : Fine n z where
  len := hn
  short := fun i hi => by
    have := delta_len h z[i] (List.getElem_mem hi)
    omega
  fits := fun x hx => by
    have h1 := wOf_mem h.ok.1 hx
    rw [h.wts] at h1
    rcases rowW_01 K S g x.row with h2 | h2 <;> rcases rowW_01 K S f x.row with h3 | h3 <;> rw [h2, h3] at h1 <;> rw [← h1] <;> decide
theorem RowsZ.delta {K S : Nat} {g : Gf} {z : List Item} (h : RowsZ K S g z) : Delta K S gZero g z := ⟨h.ok, fun r => by rw [h.wts, rowW_zero]; omega⟩
theorem same_refl (a : List Item) : sameItems a a = true := by simp [sameItems]
theorem same_true (va vb : Value) (a b : List Item) (w : World) (ha : ItemsIs w va a) (hb : ItemsIs w vb b) (hab : a = b) :
    Calls Tryz.prog 24 #[va, vb] w fun e w' => e = .returned (.bool true) ∧ Old w w' := by
  have := zset_Same va vb a b w ha hb
  rw [hab, same_refl] at this
  exact this
/-- lists of entries -/
def ListsIs (w : World) (v : Value) (ls : List (List Ent)) : Prop :=
  ∃ vs : List Value, vs.length = ls.length ∧ Sl w v ls.length vs ∧ ∀ i, (h : i < ls.length) → (h' : i < vs.length) → EntsIs w vs[i] ls[i]
end Go.Proofs.YtmfbblcipakaiaaGreatDoor
