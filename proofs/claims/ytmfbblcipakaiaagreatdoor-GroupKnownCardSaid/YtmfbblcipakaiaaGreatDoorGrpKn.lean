/- GroupKnown. -/
import Derived.Test.YtmfbblcipakaiaaGreatDoorGrpDo
import Derived.Test.YtmfbblcipakaiaaGreatDoorDag
namespace Go.Proofs.YtmfbblcipakaiaaGreatDoor
open Go.RowKit

/-- what an operation of the literal's region leaves -/
inductive KnK where
  | eq (v : Value)
  | ent (e : Ent)
  | ents (l : List Ent)
  | lists (ls : List (List Ent))
def KnK.good : KnK → Value → World → Prop
  | .eq u, v, _ => v = u
  | .ent e, v, w => ∃ a b, v = .agg #[.slice (some ⟨a, 0, none⟩) 1 1, .slice (some ⟨b, 0, none⟩) 1 1, .int .i64 e.w] ∧ RowIs w (.slice (some ⟨a, 0, none⟩) 1 1) e.key ∧ RowIs w (.slice (some ⟨b, 0, none⟩) 1 1) e.vals
  | .ents l, v, w => ∃ g n, v = .slice (some ⟨g, 0, none⟩) n n ∧ EntsIs w v l
  | .lists ls, v, w => ∃ g n, v = .slice (some ⟨g, 0, none⟩) n n ∧ ListsIs w v ls
theorem ListsIs.old {w w' : World} {v : Value} {ls : List (List Ent)} (h : ListsIs w v ls) (o : Old w w') : ListsIs w' v ls := by
  obtain ⟨vs, h1, h2, h3⟩ := h
  exact ⟨vs, h1, h2.old o, fun i hi hi' => (h3 i hi hi').old o⟩
theorem KnK.old {x : KnK} {v : Value} {w w' : World} (h : x.good v w) (o : Old w w') : x.good v w' := by
  cases x with
  | eq u => exact h
  | ent e =>
    obtain ⟨a, b, h1, h2, h3⟩ := h
    exact ⟨a, b, h1, h2.old o, h3.old o⟩
  | ents l =>
    obtain ⟨g, n, h1, h2⟩ := h
    exact ⟨g, n, h1, h2.old o⟩
  | lists ls =>
    obtain ⟨g, n, h1, h2⟩ := h
    exact ⟨g, n, h1, h2.old o⟩
theorem KnK.at_ {KD : List KnK} {i : Nat} {y : KnK} {v : Value} {w : World} (h : KD[i]? = some y) (hy : y.good v w) : ∀ x, KD[i]? = some x → x.good v w := fun x hx => by
  rw [h] at hx
  cases hx
  exact hy
theorem lists_lit {w : World} {g n : Nat} {cs : Array Value} {T : TypeId} {f : Nat × Nat} (h : w.heap[g]? = some (.cells cs T f)) {ls : List (List Ent)} (hn : n = ls.length) (hm : n ≤ 1000) (hl : cs.toList.length = ls.length) (hr : ∀ i, (hi : i < ls.length) → (hi' : i < cs.toList.length) → EntsIs w cs.toList[i] ls[i]) : ListsIs w (.slice (some ⟨g, 0, none⟩) n n) ls := by
  subst hn
  refine ⟨cs.toList, hl, ⟨_, _, rfl, Nat.le_refl _, by unfold maxLen; omega, fun _ => ⟨g, 0, rfl, fun j u hu => ?_⟩⟩, hr⟩
  rw [cell_of_heap h, Nat.zero_add, ← Array.getElem?_toList]
  exact hu
theorem lists3 {w : World} {g : Nat} {v0 v1 v2 : Value} {T : TypeId} {f : Nat × Nat} {l0 l1 l2 : List Ent} (h : w.heap[g]? = some (.cells #[v0, v1, v2] T f)) (h0 : EntsIs w v0 l0) (h1 : EntsIs w v1 l1) (h2 : EntsIs w v2 l2) : ListsIs w (.slice (some ⟨g, 0, none⟩) 3 3) [l0, l1, l2] :=
  lists_lit h rfl (by omega) rfl (fun i hi _ => match i, hi with
    | 0, _ => h0
    | 1, _ => h1
    | 2, _ => h2
    | n + 3, h => by simp at h; omega)
theorem lists2 {w : World} {g : Nat} {v0 v1 : Value} {T : TypeId} {f : Nat × Nat} {l0 l1 : List Ent} (h : w.heap[g]? = some (.cells #[v0, v1] T f)) (h0 : EntsIs w v0 l0) (h1 : EntsIs w v1 l1) : ListsIs w (.slice (some ⟨g, 0, none⟩) 2 2) [l0, l1] :=
  lists_lit h rfl (by omega) rfl (fun i hi _ => match i, hi with
    | 0, _ => h0
    | 1, _ => h1
    | n + 2, h => by simp at h; omega)
theorem lists1 {w : World} {g : Nat} {v0 : Value} {T : TypeId} {f : Nat × Nat} {l0 : List Ent} (h : w.heap[g]? = some (.cells #[v0] T f)) (h0 : EntsIs w v0 l0) : ListsIs w (.slice (some ⟨g, 0, none⟩) 1 1) [l0] :=
  lists_lit h rfl (by omega) rfl (fun i hi _ => match i, hi with
    | 0, _ => h0
    | n + 1, h => by simp at h)
theorem en_fits (s : ByteArray) {n w : Int} (hn : fit n) (hw : fit w) : (∀ c ∈ (enE s n w).key, fit c.n) ∧ (∀ c ∈ (enE s n w).vals, fit c.n) ∧ fit (enE s n w).w :=
  ⟨by simp [enE, txC, fit], by simpa [enE, numCell] using hn, hw⟩
theorem no_fits (s : ByteArray) {w : Int} (hw : fit w) : (∀ c ∈ (noE s w).key, fit c.n) ∧ (∀ c ∈ (noE s w).vals, fit c.n) ∧ fit (noE s w).w :=
  ⟨by simp [noE, txC, fit], by simp [noE, nuC, fit], hw⟩
theorem known_fits {a b : Int} (ha : fit a) (hb : fit b) : ∀ l ∈ ([[enE ⟨#[97]⟩ a b], [enE ⟨#[97]⟩ b 1, noE ⟨#[97]⟩ a], [enE ⟨#[97]⟩ b a, enE ⟨#[97]⟩ b (-1)]] : List (List Ent)), EFits l := by
  have h1 : fit 1 := by decide
  have h2 : fit (-1) := by decide
  intro l hl e he
  simp only [List.mem_cons, List.not_mem_nil, or_false] at hl
  rcases hl with rfl | rfl | rfl <;> simp only [List.mem_cons, List.not_mem_nil, or_false] at he
  · subst he; exact en_fits _ ha hb
  · rcases he with rfl | rfl
    · exact en_fits _ hb h1
    · exact no_fits _ ha
  · rcases he with rfl | rfl
    · exact en_fits _ hb ha
    · exact en_fits _ hb h2
theorem keys_ents2 {w : World} {g a b : Nat} {ra rb : List Cell} {x y : Int} {T : TypeId} {f : Nat × Nat} (h : w.heap[g]? = some (.cells #[.slice (some ⟨a, 0, none⟩) 2 2, .slice none 0 0, .int .i64 x, .slice (some ⟨b, 0, none⟩) 2 2, .slice none 0 0, .int .i64 y] T f))
    (ha : RowIs w (.slice (some ⟨a, 0, none⟩) 2 2) ra) (hb : RowIs w (.slice (some ⟨b, 0, none⟩) 2 2) rb) : EntsIs w (.slice (some ⟨g, 0, none⟩) 2 2) [⟨ra, [], x⟩, ⟨rb, [], y⟩] :=
  ents_lit h (vs := [(.slice (some ⟨a, 0, none⟩) 2 2, .slice none 0 0), (.slice (some ⟨b, 0, none⟩) 2 2, .slice none 0 0)]) rfl rfl rfl (by omega) (fun i hi _ => match i, hi with
    | 0, _ => ⟨ha, Sl.nil_ w⟩
    | 1, _ => ⟨hb, Sl.nil_ w⟩
    | n + 2, h => by simp at h; omega)
theorem keys_ents1 {w : World} {g a : Nat} {ra : List Cell} {x : Int} {T : TypeId} {f : Nat × Nat} (h : w.heap[g]? = some (.cells #[.slice (some ⟨a, 0, none⟩) 2 2, .slice none 0 0, .int .i64 x] T f))
    (ha : RowIs w (.slice (some ⟨a, 0, none⟩) 2 2) ra) : EntsIs w (.slice (some ⟨g, 0, none⟩) 1 1) [⟨ra, [], x⟩] :=
  ents_lit h (vs := [(.slice (some ⟨a, 0, none⟩) 2 2, .slice none 0 0)]) rfl rfl rfl (by omega) (fun i hi _ => match i, hi with
    | 0, _ => ⟨ha, Sl.nil_ w⟩
    | n + 1, h => by simp at h)
theorem keys_fits {ra rb : List Cell} (ha : ∀ c ∈ ra, fit c.n) (hb : ∀ c ∈ rb, fit c.n) : ∀ l ∈ ([[⟨ra, [], 1⟩, ⟨rb, [], 2⟩], [⟨rb, [], -2⟩]] : List (List Ent)), EFits l := by
  have h1 : fit 1 := by decide
  have h2 : fit 2 := by decide
  have h3 : fit (-2) := by decide
  intro l hl e he
  simp only [List.mem_cons, List.not_mem_nil, or_false] at hl
  rcases hl with rfl | rfl <;> simp only [List.mem_cons, List.not_mem_nil, or_false] at he
  · rcases he with rfl | rfl
    · exact ⟨ha, by simp, h1⟩
    · exact ⟨hb, by simp, h2⟩
  · subst he; exact ⟨hb, by simp, h3⟩
def allocL (w : World) (os : List Obj) : World := os.foldl World.alloc w
theorem allocL_old : ∀ (os : List Obj) (w : World), Old w (allocL w os)
  | [], w => Old.refl w
  | o :: os, w => ((Old.refl w).alloc o).trans (allocL_old os (w.alloc o))
theorem allocL_at : ∀ (os : List Obj) (w : World) (i : Nat) (o : Obj), os[i]? = some o → (allocL w os).heap[w.heap.size + i]? = some o
  | [], w, i, o, h => by simp at h
  | x :: os, w, 0, o, h => by
    simp at h
    subst h
    exact (allocL_old os (w.alloc x)).heap (heap_alloc_at x)
  | x :: os, w, i + 1, o, h => by
    have := allocL_at os (w.alloc x) i o (by simpa using h)
    rw [show (w.alloc x).heap.size = w.heap.size + 1 by simp] at this
    rw [show w.heap.size + (i + 1) = w.heap.size + 1 + i by omega]
    exact this
theorem row_off {w : World} {b off cap : Nat} {c : Cell} (h0 : w.cell? ⟨b, off, none⟩ = some (.bool c.null)) (h1 : w.cell? ⟨b, off + 1, none⟩ = some (.int .i64 c.n)) (h2 : w.cell? ⟨b, off + 2, none⟩ = some (.string c.s)) (hc : 1 ≤ cap) (hm : cap ≤ maxLen) : RowIs w (.slice (some ⟨b, off, none⟩) 1 cap) [c] := by
  refine ⟨_, cap, rfl, hc, hm, fun _ => ⟨b, off, rfl, fun j u hu => ?_⟩⟩
  match j, hu with
  | 0, hu => simp [rowVals, Cell.vals] at hu; subst hu; exact h0
  | 1, hu => simp [rowVals, Cell.vals] at hu; subst hu; exact h1
  | 2, hu => simp [rowVals, Cell.vals] at hu; subst hu; exact h2
  | j + 3, hu => simp [rowVals, Cell.vals] at hu
theorem vals_ents1 {w : World} {g : Nat} {v : Value} {r : List Cell} {x : Int} {T : TypeId} {f : Nat × Nat} (h : w.heap[g]? = some (.cells #[.slice none 0 0, v, .int .i64 x] T f)) (hv : RowIs w v r) : EntsIs w (.slice (some ⟨g, 0, none⟩) 1 1) [⟨[], r, x⟩] :=
  ents_lit h (vs := [(.slice none 0 0, v)]) rfl rfl rfl (by omega) (fun i hi _ => match i, hi with
    | 0, _ => ⟨Sl.nil_ w, hv⟩
    | n + 1, h => by simp at h)
def c3C : Cell := ⟨false, 3, ⟨#[]⟩⟩
def oddLs (c : Cell) : List (List Ent) := [[⟨[], [c], 1⟩], [⟨[], [c3C], 1⟩], [⟨[], [], 1⟩]]
theorem odd_lists (wr : World) (q3 o n : Nat) (c : Cell) (hn : 1 ≤ n) (hm : n ≤ 5) (hc : ∀ w', Old wr w' → w'.cell? ⟨q3, o, none⟩ = some (.bool c.null) ∧ w'.cell? ⟨q3, o + 1, none⟩ = some (.int .i64 c.n) ∧ w'.cell? ⟨q3, o + 2, none⟩ = some (.string c.s)) :
    ListsIs (((((wr.alloc (.cells #[.slice none 0 0, .slice (some ⟨q3, o, none⟩) 1 n, .int .i64 1] 51)).alloc (.cells #[.bool false, .int .i64 3, .string ⟨#[]⟩] 65)).alloc (.cells #[.slice none 0 0, .slice (some ⟨wr.heap.size + 1, 0, none⟩) 1 1, .int .i64 1] 51)).alloc (.cells #[.slice none 0 0, .slice none 0 0, .int .i64 1] 51)).alloc (.cells #[.slice (some ⟨wr.heap.size, 0, none⟩) 1 1, .slice (some ⟨wr.heap.size + 1 + 1, 0, none⟩) 1 1, .slice (some ⟨wr.heap.size + 1 + 1 + 1, 0, none⟩) 1 1] 31))
      (.slice (some ⟨wr.heap.size + 1 + 1 + 1 + 1, 0, none⟩) 3 3) (oddLs c) := by
  show ListsIs (allocL wr [.cells #[.slice none 0 0, .slice (some ⟨q3, o, none⟩) 1 n, .int .i64 1] 51, .cells #[.bool false, .int .i64 3, .string ⟨#[]⟩] 65, .cells #[.slice none 0 0, .slice (some ⟨wr.heap.size + 1, 0, none⟩) 1 1, .int .i64 1] 51, .cells #[.slice none 0 0, .slice none 0 0, .int .i64 1] 51, .cells #[.slice (some ⟨wr.heap.size, 0, none⟩) 1 1, .slice (some ⟨wr.heap.size + 1 + 1, 0, none⟩) 1 1, .slice (some ⟨wr.heap.size + 1 + 1 + 1, 0, none⟩) 1 1] 31]) _ _
  have ho := allocL_old [.cells #[.slice none 0 0, .slice (some ⟨q3, o, none⟩) 1 n, .int .i64 1] 51, .cells #[.bool false, .int .i64 3, .string ⟨#[]⟩] 65, .cells #[.slice none 0 0, .slice (some ⟨wr.heap.size + 1, 0, none⟩) 1 1, .int .i64 1] 51, .cells #[.slice none 0 0, .slice none 0 0, .int .i64 1] 51, .cells #[.slice (some ⟨wr.heap.size, 0, none⟩) 1 1, .slice (some ⟨wr.heap.size + 1 + 1, 0, none⟩) 1 1, .slice (some ⟨wr.heap.size + 1 + 1 + 1, 0, none⟩) 1 1] 31] wr
  obtain ⟨c0, c1, c2⟩ := hc _ ho
  exact lists3 (allocL_at _ wr 4 _ rfl) (vals_ents1 (allocL_at _ wr 0 _ rfl) (row_off c0 c1 c2 hn (by unfold maxLen; omega))) (vals_ents1 (allocL_at _ wr 2 _ rfl) (row_lit (r := [c3C]) (allocL_at _ wr 1 _ rfl) rfl rfl (by omega))) (vals_ents1 (allocL_at _ wr 3 _ rfl) (Sl.nil_ _))
theorem odd_fits {c : Cell} (h : fit c.n) : ∀ l ∈ oddLs c, EFits l := by
  have h1 : fit 1 := by decide
  have h3 : fit c3C.n := by decide
  intro l hl e he
  simp only [oddLs, List.mem_cons, List.not_mem_nil, or_false] at hl
  rcases hl with rfl | rfl | rfl <;> simp only [List.mem_cons, List.not_mem_nil, or_false] at he <;> subst he
  · exact ⟨by simp, by simpa using h, h1⟩
  · exact ⟨by simp, by simpa using h3, h1⟩
  · exact ⟨by simp, by simp, h1⟩
def endsL : List Int := [-9223372036854775808, -9223372036854775807, -4294967296, -1, 0, 1, 2, 4294967296, 4611686018427387904, 9223372036854775807]
set_option maxRecDepth 100000 in
set_option maxHeartbeats 4000000 in
theorem known_law (w : World) (hp : PowTab w) :
    Calls Tryz.prog 8 #[] w fun e w' => e = .returned (.bool true) ∧ Old w w' := by
  have HP := hide hp
  clear hp
  go_enter Tryz.func8, Tryz.ntmps8
  go_wp2_with fail
  have hE : Hid (∀ i : Nat, i < 10 → ∃ n : Int, fit n ∧ (w.alloc (.cells #[.int .i64 (-9223372036854775808), .int .i64 (-9223372036854775807), .int .i64 (-4294967296), .int .i64 (-1), .int .i64 0, .int .i64 1, .int .i64 2, .int .i64 4294967296, .int .i64 4611686018427387904, .int .i64 9223372036854775807] 2)).cell? ⟨w.heap.size, i, none⟩ = some (.int .i64 n)) := hide (fun i hi => by
    have h := fun i => cell_of_heap (i := i) (heap_alloc_at (w := w) (.cells #[.int .i64 (-9223372036854775808), .int .i64 (-9223372036854775807), .int .i64 (-4294967296), .int .i64 (-1), .int .i64 0, .int .i64 1, .int .i64 2, .int .i64 4294967296, .int .i64 4611686018427387904, .int .i64 9223372036854775807] 2))
    match i, hi with
    | 0, _ => exact ⟨_, by decide, (h 0).trans rfl⟩
    | 1, _ => exact ⟨_, by decide, (h 1).trans rfl⟩
    | 2, _ => exact ⟨_, by decide, (h 2).trans rfl⟩
    | 3, _ => exact ⟨_, by decide, (h 3).trans rfl⟩
    | 4, _ => exact ⟨_, by decide, (h 4).trans rfl⟩
    | 5, _ => exact ⟨_, by decide, (h 5).trans rfl⟩
    | 6, _ => exact ⟨_, by decide, (h 6).trans rfl⟩
    | 7, _ => exact ⟨_, by decide, (h 7).trans rfl⟩
    | 8, _ => exact ⟨_, by decide, (h 8).trans rfl⟩
    | 9, _ => exact ⟨_, by decide, (h 9).trans rfl⟩
    | n + 10, h => omega)
  obtain ⟨w1, hw1⟩ : ∃ w1, w1 = w.alloc (.cells #[.int .i64 (-9223372036854775808), .int .i64 (-9223372036854775807), .int .i64 (-4294967296), .int .i64 (-1), .int .i64 0, .int .i64 1, .int .i64 2, .int .i64 4294967296, .int .i64 4611686018427387904, .int .i64 9223372036854775807] 2) := ⟨_, rfl⟩
  have O1 : Hid (Old w w1) := hide (by rw [hw1]; exact (Old.refl w).alloc _)
  rw [← hw1] at hE ⊢
  clear hw1
  obtain ⟨q, hq⟩ : ∃ q, q = w.heap.size := ⟨_, rfl⟩
  rw [← hq] at hE ⊢
  clear hq
  go_loopw [2] (fun i wr => ∃ k : Nat, i = .int .i64 k ∧ k ≤ 10 ∧ Hid (Old w1 wr)) (fun i _ => 10 - (intOf i).toNat)
  case atStart => exact ⟨0, rfl, by omega, hide (Old.refl _)⟩
  case round =>
    obtain ⟨k, rfl, hk, HO⟩ := hrel
    by_cases hlt : k < 10
    · have hkb : decide ((k : Int) < 10) = true := by simp; omega
      go_wp2_with fail
      go_loopw [3] (fun i wz => ∃ j : Nat, i = .int .i64 j ∧ j ≤ 10 ∧ Hid (Old w1 wz)) (fun i _ => 10 - (intOf i).toNat)
      case atStart => exact ⟨0, rfl, by omega, HO⟩
      case round =>
        obtain ⟨j, rfl, hj, HO⟩ := hrel
        by_cases hjt : j < 10
        · obtain ⟨a, ha, ca⟩ := hE.out k hlt
          obtain ⟨b, hb, cb⟩ := hE.out j hjt
          have HA := hide ha
          have HB := hide hb
          have f0 : ∀ w', Old w1 w' → w'.cell? ⟨q, k, none⟩ = some (.int .i64 a) := fun w' h => h.cell ca
          have f1 : ∀ w', Old w1 w' → w'.cell? ⟨q, j, none⟩ = some (.int .i64 b) := fun w' h => h.cell cb
          clear ca cb ha hb
          go_wp2_with fail
          obtain ⟨KD, hKD⟩ : ∃ l : List KnK, l = [.eq (.slice (some ⟨q, 0, none⟩) 10 10), .eq (.int .i64 (k : Int)), .eq (.pointer (some ⟨q, k, none⟩)), .eq (.int .i64 a), .eq (.slice (some ⟨q, 0, none⟩) 10 10), .eq (.int .i64 (j : Int)), .eq (.pointer (some ⟨q, j, none⟩)), .eq (.int .i64 b), .ent (enE ⟨#[97]⟩ a b), .ents [(enE ⟨#[97]⟩ a b)], .eq (.slice (some ⟨q, 0, none⟩) 10 10), .eq (.int .i64 (j : Int)), .eq (.pointer (some ⟨q, j, none⟩)), .eq (.int .i64 b), .ent (enE ⟨#[97]⟩ b 1), .eq (.slice (some ⟨q, 0, none⟩) 10 10), .eq (.int .i64 (k : Int)), .eq (.pointer (some ⟨q, k, none⟩)), .eq (.int .i64 a), .ent (noE ⟨#[97]⟩ a), .ents [(enE ⟨#[97]⟩ b 1), (noE ⟨#[97]⟩ a)], .eq (.slice (some ⟨q, 0, none⟩) 10 10), .eq (.int .i64 (j : Int)), .eq (.pointer (some ⟨q, j, none⟩)), .eq (.int .i64 b), .eq (.slice (some ⟨q, 0, none⟩) 10 10), .eq (.int .i64 (k : Int)), .eq (.pointer (some ⟨q, k, none⟩)), .eq (.int .i64 a), .ent (enE ⟨#[97]⟩ b a), .eq (.slice (some ⟨q, 0, none⟩) 10 10), .eq (.int .i64 (j : Int)), .eq (.pointer (some ⟨q, j, none⟩)), .eq (.int .i64 b), .ent (enE ⟨#[97]⟩ b (-1)), .ents [(enE ⟨#[97]⟩ b a), (enE ⟨#[97]⟩ b (-1))], .lists [[(enE ⟨#[97]⟩ a b)], [(enE ⟨#[97]⟩ b 1), (noE ⟨#[97]⟩ a)], [(enE ⟨#[97]⟩ b a), (enE ⟨#[97]⟩ b (-1))]], .lists [[(enE ⟨#[97]⟩ a b)], [(enE ⟨#[97]⟩ b 1), (noE ⟨#[97]⟩ a)], [(enE ⟨#[97]⟩ b a), (enE ⟨#[97]⟩ b (-1))]]] := ⟨_, rfl⟩
          have hkd : ∀ (i : Nat) (x : KnK), ([.eq (.slice (some ⟨q, 0, none⟩) 10 10), .eq (.int .i64 (k : Int)), .eq (.pointer (some ⟨q, k, none⟩)), .eq (.int .i64 a), .eq (.slice (some ⟨q, 0, none⟩) 10 10), .eq (.int .i64 (j : Int)), .eq (.pointer (some ⟨q, j, none⟩)), .eq (.int .i64 b), .ent (enE ⟨#[97]⟩ a b), .ents [(enE ⟨#[97]⟩ a b)], .eq (.slice (some ⟨q, 0, none⟩) 10 10), .eq (.int .i64 (j : Int)), .eq (.pointer (some ⟨q, j, none⟩)), .eq (.int .i64 b), .ent (enE ⟨#[97]⟩ b 1), .eq (.slice (some ⟨q, 0, none⟩) 10 10), .eq (.int .i64 (k : Int)), .eq (.pointer (some ⟨q, k, none⟩)), .eq (.int .i64 a), .ent (noE ⟨#[97]⟩ a), .ents [(enE ⟨#[97]⟩ b 1), (noE ⟨#[97]⟩ a)], .eq (.slice (some ⟨q, 0, none⟩) 10 10), .eq (.int .i64 (j : Int)), .eq (.pointer (some ⟨q, j, none⟩)), .eq (.int .i64 b), .eq (.slice (some ⟨q, 0, none⟩) 10 10), .eq (.int .i64 (k : Int)), .eq (.pointer (some ⟨q, k, none⟩)), .eq (.int .i64 a), .ent (enE ⟨#[97]⟩ b a), .eq (.slice (some ⟨q, 0, none⟩) 10 10), .eq (.int .i64 (j : Int)), .eq (.pointer (some ⟨q, j, none⟩)), .eq (.int .i64 b), .ent (enE ⟨#[97]⟩ b (-1)), .ents [(enE ⟨#[97]⟩ b a), (enE ⟨#[97]⟩ b (-1))], .lists [[(enE ⟨#[97]⟩ a b)], [(enE ⟨#[97]⟩ b 1), (noE ⟨#[97]⟩ a)], [(enE ⟨#[97]⟩ b a), (enE ⟨#[97]⟩ b (-1))]], .lists [[(enE ⟨#[97]⟩ a b)], [(enE ⟨#[97]⟩ b 1), (noE ⟨#[97]⟩ a)], [(enE ⟨#[97]⟩ b a), (enE ⟨#[97]⟩ b (-1))]]] : List KnK)[i]? = some x → KD[i]? = some x := by rw [hKD]; exact fun i x h => h
          clear hKD
          refine region_dag_l (fun val => ⟨#[u0, Value.slice (some { block := q, off := 0 }) 10 10, Value.int IntKind.i64 (k : Int), Value.int IntKind.i64 (j : Int), val 37, undef, undef, undef, undef, undef, undef, undef, Value.slice (some { block := q, off := 0 }) 10 10, Value.int IntKind.i64 (k : Int), Value.slice (some { block := q, off := 0 }) 10 10, Value.int IntKind.i64 10, Value.bool true, u17, u18, Value.int IntKind.i64 (j : Int), Value.slice (some { block := q, off := 0 }) 10 10, Value.int IntKind.i64 10, Value.bool (decide ((j : Int) < 10)), u23, u24, val 0, val 1, val 2, val 3, val 4, val 5, val 6, val 7, val 8, val 9, val 10, val 11, val 12, val 13, val 14, val 15, val 16, val 17, val 18, val 19, val 20, val 21, val 22, val 23, val 24, val 25, val 26, val 27, val 28, val 29, val 30, val 31, val 32, val 33, val 34, val 35, val 36, u62, u63, u64, u65, u66, u67, u68, u69, u70, u71, undef, undef, undef, undef, undef, undef, undef, undef, undef, undef, undef, undef, undef, undef, undef, undef, undef, undef, undef, undef, undef, undef, undef, undef, undef, undef, undef, undef, undef, undef, undef, undef, undef, undef, undef, undef, undef, undef, undef, undef, undef, undef, undef, undef, undef, undef, undef, undef, undef, undef, undef, undef, undef, undef, undef, undef, undef, undef, undef, undef, undef, undef, undef, undef, undef, undef, undef, undef, undef, undef, undef, undef, undef, undef, undef, undef, undef, undef, undef, undef, undef, undef, undef, undef, undef, undef, undef, undef, undef, undef, undef, undef, undef, undef, undef, undef, undef, undef, undef, undef, undef, undef, undef, undef, undef, undef, undef, undef, undef, undef, undef, undef, undef, undef, undef, undef, undef, undef, undef, undef, undef, undef, undef, undef, undef], []⟩) (fun i => ([u25, u26, u27, u28, u29, u30, u31, u32, u33, u34, u35, u36, u37, u38, u39, u40, u41, u42, u43, u44, u45, u46, u47, u48, u49, u50, u51, u52, u53, u54, u55, u56, u57, u58, u59, u60, u61, u4] : List Value).getD i undef) (fun (i : Nat) v w' => ∀ x, KD[i]? = some x → x.good v w') (by kernel_rfl) (by kernel_rfl) rfl ?_ (fun i v w' w'' o h x hx => KnK.old (h x hx) o) ?_ ?_
          · repeat' (first | exact True.intro | refine And.intro (fun _ _ => rfl) ?_)
          · refine ⟨?s0, ?s1, ?s2, ?s3, ?s4, ?s5, ?s6, ?s7, ?s8, ?s9, ?s10, ?s11, ?s12, ?s13, ?s14, ?s15, ?s16, ?s17, ?s18, ?s19, ?s20, ?s21, ?s22, ?s23, ?s24, ?s25, ?s26, ?s27, ?s28, ?s29, ?s30, ?s31, ?s32, ?s33, ?s34, ?s35, ?s36, ?s37, True.intro⟩
            case s0 =>
              intro val w2 ho hw K hK
              refine wp_value (v := (.slice (some ⟨q, 0, none⟩) 10 10)) (w' := w2) ?_ (hK _ _ (Old.refl _) (KnK.at_ (hkd 0 _ rfl) rfl))
              go_simp
            case s1 =>
              intro val w2 ho hw K hK
              refine wp_value (v := (.int .i64 (k : Int))) (w' := w2) ?_ (hK _ _ (Old.refl _) (KnK.at_ (hkd 1 _ rfl) rfl))
              go_simp
            case s2 =>
              intro val w2 ho hw K hK
              have d0 : val 0 = (.slice (some ⟨q, 0, none⟩) 10 10) := hw ⟨0, .data⟩ (by simp) rfl _ (hkd 0 _ rfl)
              have d1 : val 1 = (.int .i64 (k : Int)) := hw ⟨1, .data⟩ (by simp) rfl _ (hkd 1 _ rfl)
              have hki : ¬ (10 : Int) ≤ (k : Int) := by omega
              refine wp_value (v := (.pointer (some ⟨q, k, none⟩))) (w' := w2) ?_ (hK _ _ (Old.refl _) (KnK.at_ (hkd 2 _ rfl) rfl))
              go_simp
            case s3 =>
              intro val w2 ho hw K hK
              have d2 : val 2 = (.pointer (some ⟨q, k, none⟩)) := hw ⟨2, .data⟩ (by simp) rfl _ (hkd 2 _ rfl)
              have ld := f0 w2 (HO.out.trans ho)
              refine wp_value (v := (.int .i64 a)) (w' := w2) ?_ (hK _ _ (Old.refl _) (KnK.at_ (hkd 3 _ rfl) rfl))
              go_simp
            case s4 =>
              intro val w2 ho hw K hK
              refine wp_value (v := (.slice (some ⟨q, 0, none⟩) 10 10)) (w' := w2) ?_ (hK _ _ (Old.refl _) (KnK.at_ (hkd 4 _ rfl) rfl))
              go_simp
            case s5 =>
              intro val w2 ho hw K hK
              refine wp_value (v := (.int .i64 (j : Int))) (w' := w2) ?_ (hK _ _ (Old.refl _) (KnK.at_ (hkd 5 _ rfl) rfl))
              go_simp
            case s6 =>
              intro val w2 ho hw K hK
              have d4 : val 4 = (.slice (some ⟨q, 0, none⟩) 10 10) := hw ⟨4, .data⟩ (by simp) rfl _ (hkd 4 _ rfl)
              have d5 : val 5 = (.int .i64 (j : Int)) := hw ⟨5, .data⟩ (by simp) rfl _ (hkd 5 _ rfl)
              refine wp_value (v := (.pointer (some ⟨q, j, none⟩))) (w' := w2) ?_ (hK _ _ (Old.refl _) (KnK.at_ (hkd 6 _ rfl) rfl))
              go_simp
            case s7 =>
              intro val w2 ho hw K hK
              have d6 : val 6 = (.pointer (some ⟨q, j, none⟩)) := hw ⟨6, .data⟩ (by simp) rfl _ (hkd 6 _ rfl)
              have ld := f1 w2 (HO.out.trans ho)
              refine wp_value (v := (.int .i64 b)) (w' := w2) ?_ (hK _ _ (Old.refl _) (KnK.at_ (hkd 7 _ rfl) rfl))
              go_simp
            case s8 =>
              intro val w2 ho hw K hK
              have d3 : val 3 = (.int .i64 a) := hw ⟨3, .data⟩ (by simp) rfl _ (hkd 3 _ rfl)
              have d7 : val 7 = (.int .i64 b) := hw ⟨7, .data⟩ (by simp) rfl _ (hkd 7 _ rfl)
              refine wp_enter (w' := w2) (by go_simp) (((entry_run ⟨#[97]⟩ a b w2)).mono ?_)
              rintro e w3 ⟨A, B, rfl, hA, hB, ho3⟩
              exact ⟨_, rfl, hK _ _ ho3 (KnK.at_ (hkd 8 _ rfl) ⟨A, B, rfl, hA, hB⟩)⟩
            case s9 =>
              intro val w2 ho hw K hK
              have d8 : KnK.good (.ent (enE ⟨#[97]⟩ a b)) (val 8) w2 := hw ⟨8, .data⟩ (by simp) rfl _ (hkd 8 _ rfl)
              obtain ⟨A0, B0, h0, ra0, rb0⟩ := d8
              refine wp_value (v := .slice (some ⟨w2.heap.size, 0, none⟩) 1 1) (w' := w2.alloc (.cells #[.slice (some ⟨A0, 0, none⟩) 1 1, .slice (some ⟨B0, 0, none⟩) 1 1, .int .i64 (enE ⟨#[97]⟩ a b).w] 51)) (by go_simp) (hK _ _ ((Old.refl _).alloc _) (KnK.at_ (hkd 9 _ rfl) ⟨_, _, rfl, ents1 (heap_alloc_at _) (ra0.old ((Old.refl _).alloc _)) (rb0.old ((Old.refl _).alloc _))⟩))
            case s10 =>
              intro val w2 ho hw K hK
              refine wp_value (v := (.slice (some ⟨q, 0, none⟩) 10 10)) (w' := w2) ?_ (hK _ _ (Old.refl _) (KnK.at_ (hkd 10 _ rfl) rfl))
              go_simp
            case s11 =>
              intro val w2 ho hw K hK
              refine wp_value (v := (.int .i64 (j : Int))) (w' := w2) ?_ (hK _ _ (Old.refl _) (KnK.at_ (hkd 11 _ rfl) rfl))
              go_simp
            case s12 =>
              intro val w2 ho hw K hK
              have d10 : val 10 = (.slice (some ⟨q, 0, none⟩) 10 10) := hw ⟨10, .data⟩ (by simp) rfl _ (hkd 10 _ rfl)
              have d11 : val 11 = (.int .i64 (j : Int)) := hw ⟨11, .data⟩ (by simp) rfl _ (hkd 11 _ rfl)
              refine wp_value (v := (.pointer (some ⟨q, j, none⟩))) (w' := w2) ?_ (hK _ _ (Old.refl _) (KnK.at_ (hkd 12 _ rfl) rfl))
              go_simp
            case s13 =>
              intro val w2 ho hw K hK
              have d12 : val 12 = (.pointer (some ⟨q, j, none⟩)) := hw ⟨12, .data⟩ (by simp) rfl _ (hkd 12 _ rfl)
              have ld := f1 w2 (HO.out.trans ho)
              refine wp_value (v := (.int .i64 b)) (w' := w2) ?_ (hK _ _ (Old.refl _) (KnK.at_ (hkd 13 _ rfl) rfl))
              go_simp
            case s14 =>
              intro val w2 ho hw K hK
              have d13 : val 13 = (.int .i64 b) := hw ⟨13, .data⟩ (by simp) rfl _ (hkd 13 _ rfl)
              refine wp_enter (w' := w2) (by go_simp) (((entry_run ⟨#[97]⟩ b 1 w2)).mono ?_)
              rintro e w3 ⟨A, B, rfl, hA, hB, ho3⟩
              exact ⟨_, rfl, hK _ _ ho3 (KnK.at_ (hkd 14 _ rfl) ⟨A, B, rfl, hA, hB⟩)⟩
            case s15 =>
              intro val w2 ho hw K hK
              refine wp_value (v := (.slice (some ⟨q, 0, none⟩) 10 10)) (w' := w2) ?_ (hK _ _ (Old.refl _) (KnK.at_ (hkd 15 _ rfl) rfl))
              go_simp
            case s16 =>
              intro val w2 ho hw K hK
              refine wp_value (v := (.int .i64 (k : Int))) (w' := w2) ?_ (hK _ _ (Old.refl _) (KnK.at_ (hkd 16 _ rfl) rfl))
              go_simp
            case s17 =>
              intro val w2 ho hw K hK
              have d15 : val 15 = (.slice (some ⟨q, 0, none⟩) 10 10) := hw ⟨15, .data⟩ (by simp) rfl _ (hkd 15 _ rfl)
              have d16 : val 16 = (.int .i64 (k : Int)) := hw ⟨16, .data⟩ (by simp) rfl _ (hkd 16 _ rfl)
              have hki : ¬ (10 : Int) ≤ (k : Int) := by omega
              refine wp_value (v := (.pointer (some ⟨q, k, none⟩))) (w' := w2) ?_ (hK _ _ (Old.refl _) (KnK.at_ (hkd 17 _ rfl) rfl))
              go_simp
            case s18 =>
              intro val w2 ho hw K hK
              have d17 : val 17 = (.pointer (some ⟨q, k, none⟩)) := hw ⟨17, .data⟩ (by simp) rfl _ (hkd 17 _ rfl)
              have ld := f0 w2 (HO.out.trans ho)
              refine wp_value (v := (.int .i64 a)) (w' := w2) ?_ (hK _ _ (Old.refl _) (KnK.at_ (hkd 18 _ rfl) rfl))
              go_simp
            case s19 =>
              intro val w2 ho hw K hK
              have d18 : val 18 = (.int .i64 a) := hw ⟨18, .data⟩ (by simp) rfl _ (hkd 18 _ rfl)
              refine wp_enter (w' := w2) (by go_simp) (((no_run ⟨#[97]⟩ a w2)).mono ?_)
              rintro e w3 ⟨A, B, rfl, hA, hB, ho3⟩
              exact ⟨_, rfl, hK _ _ ho3 (KnK.at_ (hkd 19 _ rfl) ⟨A, B, rfl, hA, hB⟩)⟩
            case s20 =>
              intro val w2 ho hw K hK
              have d14 : KnK.good (.ent (enE ⟨#[97]⟩ b 1)) (val 14) w2 := hw ⟨14, .data⟩ (by simp) rfl _ (hkd 14 _ rfl)
              have d19 : KnK.good (.ent (noE ⟨#[97]⟩ a)) (val 19) w2 := hw ⟨19, .data⟩ (by simp) rfl _ (hkd 19 _ rfl)
              obtain ⟨A0, B0, h0, ra0, rb0⟩ := d14
              obtain ⟨A1, B1, h1, ra1, rb1⟩ := d19
              refine wp_value (v := .slice (some ⟨w2.heap.size, 0, none⟩) 2 2) (w' := w2.alloc (.cells #[.slice (some ⟨A0, 0, none⟩) 1 1, .slice (some ⟨B0, 0, none⟩) 1 1, .int .i64 (enE ⟨#[97]⟩ b 1).w, .slice (some ⟨A1, 0, none⟩) 1 1, .slice (some ⟨B1, 0, none⟩) 1 1, .int .i64 (noE ⟨#[97]⟩ a).w] 51)) (by go_simp) (hK _ _ ((Old.refl _).alloc _) (KnK.at_ (hkd 20 _ rfl) ⟨_, _, rfl, ents2 (heap_alloc_at _) (ra0.old ((Old.refl _).alloc _)) (rb0.old ((Old.refl _).alloc _)) (ra1.old ((Old.refl _).alloc _)) (rb1.old ((Old.refl _).alloc _))⟩))
            case s21 =>
              intro val w2 ho hw K hK
              refine wp_value (v := (.slice (some ⟨q, 0, none⟩) 10 10)) (w' := w2) ?_ (hK _ _ (Old.refl _) (KnK.at_ (hkd 21 _ rfl) rfl))
              go_simp
            case s22 =>
              intro val w2 ho hw K hK
              refine wp_value (v := (.int .i64 (j : Int))) (w' := w2) ?_ (hK _ _ (Old.refl _) (KnK.at_ (hkd 22 _ rfl) rfl))
              go_simp
            case s23 =>
              intro val w2 ho hw K hK
              have d21 : val 21 = (.slice (some ⟨q, 0, none⟩) 10 10) := hw ⟨21, .data⟩ (by simp) rfl _ (hkd 21 _ rfl)
              have d22 : val 22 = (.int .i64 (j : Int)) := hw ⟨22, .data⟩ (by simp) rfl _ (hkd 22 _ rfl)
              refine wp_value (v := (.pointer (some ⟨q, j, none⟩))) (w' := w2) ?_ (hK _ _ (Old.refl _) (KnK.at_ (hkd 23 _ rfl) rfl))
              go_simp
            case s24 =>
              intro val w2 ho hw K hK
              have d23 : val 23 = (.pointer (some ⟨q, j, none⟩)) := hw ⟨23, .data⟩ (by simp) rfl _ (hkd 23 _ rfl)
              have ld := f1 w2 (HO.out.trans ho)
              refine wp_value (v := (.int .i64 b)) (w' := w2) ?_ (hK _ _ (Old.refl _) (KnK.at_ (hkd 24 _ rfl) rfl))
              go_simp
            case s25 =>
              intro val w2 ho hw K hK
              refine wp_value (v := (.slice (some ⟨q, 0, none⟩) 10 10)) (w' := w2) ?_ (hK _ _ (Old.refl _) (KnK.at_ (hkd 25 _ rfl) rfl))
              go_simp
            case s26 =>
              intro val w2 ho hw K hK
              refine wp_value (v := (.int .i64 (k : Int))) (w' := w2) ?_ (hK _ _ (Old.refl _) (KnK.at_ (hkd 26 _ rfl) rfl))
              go_simp
            case s27 =>
              intro val w2 ho hw K hK
              have d25 : val 25 = (.slice (some ⟨q, 0, none⟩) 10 10) := hw ⟨25, .data⟩ (by simp) rfl _ (hkd 25 _ rfl)
              have d26 : val 26 = (.int .i64 (k : Int)) := hw ⟨26, .data⟩ (by simp) rfl _ (hkd 26 _ rfl)
              have hki : ¬ (10 : Int) ≤ (k : Int) := by omega
              refine wp_value (v := (.pointer (some ⟨q, k, none⟩))) (w' := w2) ?_ (hK _ _ (Old.refl _) (KnK.at_ (hkd 27 _ rfl) rfl))
              go_simp
            case s28 =>
              intro val w2 ho hw K hK
              have d27 : val 27 = (.pointer (some ⟨q, k, none⟩)) := hw ⟨27, .data⟩ (by simp) rfl _ (hkd 27 _ rfl)
              have ld := f0 w2 (HO.out.trans ho)
              refine wp_value (v := (.int .i64 a)) (w' := w2) ?_ (hK _ _ (Old.refl _) (KnK.at_ (hkd 28 _ rfl) rfl))
              go_simp
            case s29 =>
              intro val w2 ho hw K hK
              have d24 : val 24 = (.int .i64 b) := hw ⟨24, .data⟩ (by simp) rfl _ (hkd 24 _ rfl)
              have d28 : val 28 = (.int .i64 a) := hw ⟨28, .data⟩ (by simp) rfl _ (hkd 28 _ rfl)
              refine wp_enter (w' := w2) (by go_simp) (((entry_run ⟨#[97]⟩ b a w2)).mono ?_)
              rintro e w3 ⟨A, B, rfl, hA, hB, ho3⟩
              exact ⟨_, rfl, hK _ _ ho3 (KnK.at_ (hkd 29 _ rfl) ⟨A, B, rfl, hA, hB⟩)⟩
            case s30 =>
              intro val w2 ho hw K hK
              refine wp_value (v := (.slice (some ⟨q, 0, none⟩) 10 10)) (w' := w2) ?_ (hK _ _ (Old.refl _) (KnK.at_ (hkd 30 _ rfl) rfl))
              go_simp
            case s31 =>
              intro val w2 ho hw K hK
              refine wp_value (v := (.int .i64 (j : Int))) (w' := w2) ?_ (hK _ _ (Old.refl _) (KnK.at_ (hkd 31 _ rfl) rfl))
              go_simp
            case s32 =>
              intro val w2 ho hw K hK
              have d30 : val 30 = (.slice (some ⟨q, 0, none⟩) 10 10) := hw ⟨30, .data⟩ (by simp) rfl _ (hkd 30 _ rfl)
              have d31 : val 31 = (.int .i64 (j : Int)) := hw ⟨31, .data⟩ (by simp) rfl _ (hkd 31 _ rfl)
              refine wp_value (v := (.pointer (some ⟨q, j, none⟩))) (w' := w2) ?_ (hK _ _ (Old.refl _) (KnK.at_ (hkd 32 _ rfl) rfl))
              go_simp
            case s33 =>
              intro val w2 ho hw K hK
              have d32 : val 32 = (.pointer (some ⟨q, j, none⟩)) := hw ⟨32, .data⟩ (by simp) rfl _ (hkd 32 _ rfl)
              have ld := f1 w2 (HO.out.trans ho)
              refine wp_value (v := (.int .i64 b)) (w' := w2) ?_ (hK _ _ (Old.refl _) (KnK.at_ (hkd 33 _ rfl) rfl))
              go_simp
            case s34 =>
              intro val w2 ho hw K hK
              have d33 : val 33 = (.int .i64 b) := hw ⟨33, .data⟩ (by simp) rfl _ (hkd 33 _ rfl)
              refine wp_enter (w' := w2) (by go_simp) (((entry_run ⟨#[97]⟩ b (-1) w2)).mono ?_)
              rintro e w3 ⟨A, B, rfl, hA, hB, ho3⟩
              exact ⟨_, rfl, hK _ _ ho3 (KnK.at_ (hkd 34 _ rfl) ⟨A, B, rfl, hA, hB⟩)⟩
            case s35 =>
              intro val w2 ho hw K hK
              have d29 : KnK.good (.ent (enE ⟨#[97]⟩ b a)) (val 29) w2 := hw ⟨29, .data⟩ (by simp) rfl _ (hkd 29 _ rfl)
              have d34 : KnK.good (.ent (enE ⟨#[97]⟩ b (-1))) (val 34) w2 := hw ⟨34, .data⟩ (by simp) rfl _ (hkd 34 _ rfl)
              obtain ⟨A0, B0, h0, ra0, rb0⟩ := d29
              obtain ⟨A1, B1, h1, ra1, rb1⟩ := d34
              refine wp_value (v := .slice (some ⟨w2.heap.size, 0, none⟩) 2 2) (w' := w2.alloc (.cells #[.slice (some ⟨A0, 0, none⟩) 1 1, .slice (some ⟨B0, 0, none⟩) 1 1, .int .i64 (enE ⟨#[97]⟩ b a).w, .slice (some ⟨A1, 0, none⟩) 1 1, .slice (some ⟨B1, 0, none⟩) 1 1, .int .i64 (enE ⟨#[97]⟩ b (-1)).w] 51)) (by go_simp) (hK _ _ ((Old.refl _).alloc _) (KnK.at_ (hkd 35 _ rfl) ⟨_, _, rfl, ents2 (heap_alloc_at _) (ra0.old ((Old.refl _).alloc _)) (rb0.old ((Old.refl _).alloc _)) (ra1.old ((Old.refl _).alloc _)) (rb1.old ((Old.refl _).alloc _))⟩))
            case s36 =>
              intro val w2 ho hw K hK
              have d9 : KnK.good (.ents [(enE ⟨#[97]⟩ a b)]) (val 9) w2 := hw ⟨9, .data⟩ (by simp) rfl _ (hkd 9 _ rfl)
              have d20 : KnK.good (.ents [(enE ⟨#[97]⟩ b 1), (noE ⟨#[97]⟩ a)]) (val 20) w2 := hw ⟨20, .data⟩ (by simp) rfl _ (hkd 20 _ rfl)
              have d35 : KnK.good (.ents [(enE ⟨#[97]⟩ b a), (enE ⟨#[97]⟩ b (-1))]) (val 35) w2 := hw ⟨35, .data⟩ (by simp) rfl _ (hkd 35 _ rfl)
              obtain ⟨g0, n0, h0, l0⟩ := d9
              rw [h0] at l0
              obtain ⟨g1, n1, h1, l1⟩ := d20
              rw [h1] at l1
              obtain ⟨g2, n2, h2, l2⟩ := d35
              rw [h2] at l2
              refine wp_value (v := .slice (some ⟨w2.heap.size, 0, none⟩) 3 3) (w' := w2.alloc (.cells #[.slice (some ⟨g0, 0, none⟩) n0 n0, .slice (some ⟨g1, 0, none⟩) n1 n1, .slice (some ⟨g2, 0, none⟩) n2 n2] 31)) (by go_simp) (hK _ _ ((Old.refl _).alloc _) (KnK.at_ (hkd 36 _ rfl) ⟨_, _, rfl, lists3 (heap_alloc_at _) (l0.old ((Old.refl _).alloc _)) (l1.old ((Old.refl _).alloc _)) (l2.old ((Old.refl _).alloc _))⟩))
            case s37 =>
              intro val w2 ho hw K hK
              have d36 : KnK.good (.lists [[(enE ⟨#[97]⟩ a b)], [(enE ⟨#[97]⟩ b 1), (noE ⟨#[97]⟩ a)], [(enE ⟨#[97]⟩ b a), (enE ⟨#[97]⟩ b (-1))]]) (val 36) w2 := hw ⟨36, .data⟩ (by simp) rfl _ (hkd 36 _ rfl)
              exact wp_value (v := val 36) (w' := w2) (by go_simp) (hK _ _ (Old.refl _) (KnK.at_ (hkd 37 _ rfl) d36))
          · intro val w2 ho hg
            obtain ⟨g, n, h37, hL⟩ := hg 37 (by decide) _ (hkd 37 _ rfl)
            clear hg hkd
            dsimp only
            rw [h37] at hL ⊢
            have HL := hide hL
            have HO2 := hide (HO.out.trans ho)
            have HF := hide (known_fits HA.out HB.out)
            have CD := hide (does_law 1 1 _ _ w2 hL HF.out (HP.out.old (O1.out.trans HO2.out)))
            clear hL ho h37 f0 f1
            go_wp2_with fail
            refine CD.out.mono ?_
            rintro e w3 ⟨rfl, ho3⟩
            have HO3 := hide (HO2.out.trans ho3)
            have CE := hide (delta_law 1 1 _ _ w3 (HL.out.old ho3) HF.out (HP.out.old (O1.out.trans HO3.out)))
            clear ho3 CD
            go_wp2_with fail
            refine CE.out.mono ?_
            rintro e w4 ⟨rfl, ho4⟩
            have HO4 := hide (HO3.out.trans ho4)
            clear ho4 CE
            go_wp2_with fail
            go_roundw
            case rel => exact ⟨j + 1, by go_num, by omega, HO4⟩
            case measure => simp [intOf]; omega
        · clear hkb
          go_wp2_with fail
          go_roundw
          case rel => exact ⟨k + 1, by go_num, by omega, HO⟩
          case measure => simp [intOf]; omega
    · obtain ⟨k1, hk1⟩ : ∃ x, x = k := ⟨_, rfl⟩
      subst hk1
      obtain ⟨wk, hwk⟩ : ∃ x, x = wr := ⟨_, rfl⟩
      subst hwk
      have hkf : decide ((k1 : Int) < 10) = false := by simp; omega
      go_wp2_with fail
      obtain ⟨W, hW⟩ : ∃ W, W = ((((((((((((wk.alloc (.cells #[.bool false, .int .i64 0, .string ⟨#[]⟩, .bool false, .int .i64 0, .string ⟨#[]⟩] 65)).alloc (.cells #[.bool true, .int .i64 0, .string ⟨#[]⟩, .bool false, .int .i64 0, .string ⟨#[]⟩] 65)).alloc (.cells #[.bool false, .int .i64 0, .string ⟨#[97]⟩, .bool false, .int .i64 0, .string ⟨#[]⟩] 65)).alloc (.cells #[.bool false, .int .i64 0, .string ⟨#[]⟩, .bool false, .int .i64 0, .string ⟨#[97]⟩] 65)).alloc (.cells #[.bool false, .int .i64 0, .string ⟨#[49]⟩, .bool false, .int .i64 0, .string ⟨#[]⟩] 65)).alloc (.cells #[.bool false, .int .i64 1, .string ⟨#[]⟩, .bool false, .int .i64 0, .string ⟨#[]⟩] 65)).alloc (.cells #[.bool false, .int .i64 0, .string ⟨#[97, 58]⟩, .bool false, .int .i64 0, .string ⟨#[98]⟩] 65)).alloc (.cells #[.bool false, .int .i64 0, .string ⟨#[97]⟩, .bool false, .int .i64 0, .string ⟨#[58, 98]⟩] 65)).alloc (.cells #[.bool false, .int .i64 (-1), .string ⟨#[]⟩, .bool false, .int .i64 0, .string ⟨#[]⟩] 65)).alloc (.cells #[.bool false, .int .i64 0, .string ⟨#[45, 49]⟩, .bool false, .int .i64 0, .string ⟨#[]⟩] 65)).alloc (.cells #[.bool false, .int .i64 0, .string ⟨#[0]⟩, .bool false, .int .i64 0, .string ⟨#[]⟩] 65)).alloc (.cells #[.slice (some ⟨wk.heap.size, 0, none⟩) 2 2, .slice (some ⟨wk.heap.size + 1, 0, none⟩) 2 2, .slice (some ⟨wk.heap.size + 1 + 1, 0, none⟩) 2 2, .slice (some ⟨wk.heap.size + 1 + 1 + 1, 0, none⟩) 2 2, .slice (some ⟨wk.heap.size + 1 + 1 + 1 + 1, 0, none⟩) 2 2, .slice (some ⟨wk.heap.size + 1 + 1 + 1 + 1 + 1, 0, none⟩) 2 2, .slice (some ⟨wk.heap.size + 1 + 1 + 1 + 1 + 1 + 1, 0, none⟩) 2 2, .slice (some ⟨wk.heap.size + 1 + 1 + 1 + 1 + 1 + 1 + 1, 0, none⟩) 2 2, .slice (some ⟨wk.heap.size + 1 + 1 + 1 + 1 + 1 + 1 + 1 + 1, 0, none⟩) 2 2, .slice (some ⟨wk.heap.size + 1 + 1 + 1 + 1 + 1 + 1 + 1 + 1 + 1, 0, none⟩) 2 2, .slice (some ⟨wk.heap.size + 1 + 1 + 1 + 1 + 1 + 1 + 1 + 1 + 1 + 1, 0, none⟩) 2 2] 49)) := ⟨_, rfl⟩
      have hWL : W = allocL wk [(.cells #[.bool false, .int .i64 0, .string ⟨#[]⟩, .bool false, .int .i64 0, .string ⟨#[]⟩] 65), (.cells #[.bool true, .int .i64 0, .string ⟨#[]⟩, .bool false, .int .i64 0, .string ⟨#[]⟩] 65), (.cells #[.bool false, .int .i64 0, .string ⟨#[97]⟩, .bool false, .int .i64 0, .string ⟨#[]⟩] 65), (.cells #[.bool false, .int .i64 0, .string ⟨#[]⟩, .bool false, .int .i64 0, .string ⟨#[97]⟩] 65), (.cells #[.bool false, .int .i64 0, .string ⟨#[49]⟩, .bool false, .int .i64 0, .string ⟨#[]⟩] 65), (.cells #[.bool false, .int .i64 1, .string ⟨#[]⟩, .bool false, .int .i64 0, .string ⟨#[]⟩] 65), (.cells #[.bool false, .int .i64 0, .string ⟨#[97, 58]⟩, .bool false, .int .i64 0, .string ⟨#[98]⟩] 65), (.cells #[.bool false, .int .i64 0, .string ⟨#[97]⟩, .bool false, .int .i64 0, .string ⟨#[58, 98]⟩] 65), (.cells #[.bool false, .int .i64 (-1), .string ⟨#[]⟩, .bool false, .int .i64 0, .string ⟨#[]⟩] 65), (.cells #[.bool false, .int .i64 0, .string ⟨#[45, 49]⟩, .bool false, .int .i64 0, .string ⟨#[]⟩] 65), (.cells #[.bool false, .int .i64 0, .string ⟨#[0]⟩, .bool false, .int .i64 0, .string ⟨#[]⟩] 65), (.cells #[.slice (some ⟨wk.heap.size, 0, none⟩) 2 2, .slice (some ⟨wk.heap.size + 1, 0, none⟩) 2 2, .slice (some ⟨wk.heap.size + 1 + 1, 0, none⟩) 2 2, .slice (some ⟨wk.heap.size + 1 + 1 + 1, 0, none⟩) 2 2, .slice (some ⟨wk.heap.size + 1 + 1 + 1 + 1, 0, none⟩) 2 2, .slice (some ⟨wk.heap.size + 1 + 1 + 1 + 1 + 1, 0, none⟩) 2 2, .slice (some ⟨wk.heap.size + 1 + 1 + 1 + 1 + 1 + 1, 0, none⟩) 2 2, .slice (some ⟨wk.heap.size + 1 + 1 + 1 + 1 + 1 + 1 + 1, 0, none⟩) 2 2, .slice (some ⟨wk.heap.size + 1 + 1 + 1 + 1 + 1 + 1 + 1 + 1, 0, none⟩) 2 2, .slice (some ⟨wk.heap.size + 1 + 1 + 1 + 1 + 1 + 1 + 1 + 1 + 1, 0, none⟩) 2 2, .slice (some ⟨wk.heap.size + 1 + 1 + 1 + 1 + 1 + 1 + 1 + 1 + 1 + 1, 0, none⟩) 2 2] 49)] := hW
      have OW : Hid (Old wk W) := hide (by rw [hWL]; exact allocL_old _ _)
      have hall : ∀ i o, ([(.cells #[.bool false, .int .i64 0, .string ⟨#[]⟩, .bool false, .int .i64 0, .string ⟨#[]⟩] 65), (.cells #[.bool true, .int .i64 0, .string ⟨#[]⟩, .bool false, .int .i64 0, .string ⟨#[]⟩] 65), (.cells #[.bool false, .int .i64 0, .string ⟨#[97]⟩, .bool false, .int .i64 0, .string ⟨#[]⟩] 65), (.cells #[.bool false, .int .i64 0, .string ⟨#[]⟩, .bool false, .int .i64 0, .string ⟨#[97]⟩] 65), (.cells #[.bool false, .int .i64 0, .string ⟨#[49]⟩, .bool false, .int .i64 0, .string ⟨#[]⟩] 65), (.cells #[.bool false, .int .i64 1, .string ⟨#[]⟩, .bool false, .int .i64 0, .string ⟨#[]⟩] 65), (.cells #[.bool false, .int .i64 0, .string ⟨#[97, 58]⟩, .bool false, .int .i64 0, .string ⟨#[98]⟩] 65), (.cells #[.bool false, .int .i64 0, .string ⟨#[97]⟩, .bool false, .int .i64 0, .string ⟨#[58, 98]⟩] 65), (.cells #[.bool false, .int .i64 (-1), .string ⟨#[]⟩, .bool false, .int .i64 0, .string ⟨#[]⟩] 65), (.cells #[.bool false, .int .i64 0, .string ⟨#[45, 49]⟩, .bool false, .int .i64 0, .string ⟨#[]⟩] 65), (.cells #[.bool false, .int .i64 0, .string ⟨#[0]⟩, .bool false, .int .i64 0, .string ⟨#[]⟩] 65), (.cells #[.slice (some ⟨wk.heap.size, 0, none⟩) 2 2, .slice (some ⟨wk.heap.size + 1, 0, none⟩) 2 2, .slice (some ⟨wk.heap.size + 1 + 1, 0, none⟩) 2 2, .slice (some ⟨wk.heap.size + 1 + 1 + 1, 0, none⟩) 2 2, .slice (some ⟨wk.heap.size + 1 + 1 + 1 + 1, 0, none⟩) 2 2, .slice (some ⟨wk.heap.size + 1 + 1 + 1 + 1 + 1, 0, none⟩) 2 2, .slice (some ⟨wk.heap.size + 1 + 1 + 1 + 1 + 1 + 1, 0, none⟩) 2 2, .slice (some ⟨wk.heap.size + 1 + 1 + 1 + 1 + 1 + 1 + 1, 0, none⟩) 2 2, .slice (some ⟨wk.heap.size + 1 + 1 + 1 + 1 + 1 + 1 + 1 + 1, 0, none⟩) 2 2, .slice (some ⟨wk.heap.size + 1 + 1 + 1 + 1 + 1 + 1 + 1 + 1 + 1, 0, none⟩) 2 2, .slice (some ⟨wk.heap.size + 1 + 1 + 1 + 1 + 1 + 1 + 1 + 1 + 1 + 1, 0, none⟩) 2 2] 49)] : List Obj)[i]? = some o → W.heap[wk.heap.size + i]? = some o := by rw [hWL]; exact fun i o h => allocL_at _ wk i o h
      have HKK : Hid (∀ i : Nat, i < 11 → ∃ (A : Nat) (r : List Cell), W.cell? ⟨wk.heap.size + 1 + 1 + 1 + 1 + 1 + 1 + 1 + 1 + 1 + 1 + 1, i, none⟩ = some (.slice (some ⟨A, 0, none⟩) 2 2) ∧ RowIs W (.slice (some ⟨A, 0, none⟩) 2 2) r ∧ ∀ c ∈ r, fit c.n) := hide (fun i hi => by
        have h11 := fun i => cell_of_heap (i := i) (hall 11 _ rfl)
        match i, hi with
        | 0, _ => exact ⟨wk.heap.size, [⟨false, 0, ⟨#[]⟩⟩, ⟨false, 0, ⟨#[]⟩⟩], (h11 0).trans rfl, row_lit (hall 0 _ rfl) rfl rfl (by omega), by decide⟩
        | 1, _ => exact ⟨wk.heap.size + 1, [⟨true, 0, ⟨#[]⟩⟩, ⟨false, 0, ⟨#[]⟩⟩], (h11 1).trans rfl, row_lit (hall 1 _ rfl) rfl rfl (by omega), by decide⟩
        | 2, _ => exact ⟨wk.heap.size + 1 + 1, [⟨false, 0, ⟨#[97]⟩⟩, ⟨false, 0, ⟨#[]⟩⟩], (h11 2).trans rfl, row_lit (hall 2 _ rfl) rfl rfl (by omega), by decide⟩
        | 3, _ => exact ⟨wk.heap.size + 1 + 1 + 1, [⟨false, 0, ⟨#[]⟩⟩, ⟨false, 0, ⟨#[97]⟩⟩], (h11 3).trans rfl, row_lit (hall 3 _ rfl) rfl rfl (by omega), by decide⟩
        | 4, _ => exact ⟨wk.heap.size + 1 + 1 + 1 + 1, [⟨false, 0, ⟨#[49]⟩⟩, ⟨false, 0, ⟨#[]⟩⟩], (h11 4).trans rfl, row_lit (hall 4 _ rfl) rfl rfl (by omega), by decide⟩
        | 5, _ => exact ⟨wk.heap.size + 1 + 1 + 1 + 1 + 1, [⟨false, 1, ⟨#[]⟩⟩, ⟨false, 0, ⟨#[]⟩⟩], (h11 5).trans rfl, row_lit (hall 5 _ rfl) rfl rfl (by omega), by decide⟩
        | 6, _ => exact ⟨wk.heap.size + 1 + 1 + 1 + 1 + 1 + 1, [⟨false, 0, ⟨#[97, 58]⟩⟩, ⟨false, 0, ⟨#[98]⟩⟩], (h11 6).trans rfl, row_lit (hall 6 _ rfl) rfl rfl (by omega), by decide⟩
        | 7, _ => exact ⟨wk.heap.size + 1 + 1 + 1 + 1 + 1 + 1 + 1, [⟨false, 0, ⟨#[97]⟩⟩, ⟨false, 0, ⟨#[58, 98]⟩⟩], (h11 7).trans rfl, row_lit (hall 7 _ rfl) rfl rfl (by omega), by decide⟩
        | 8, _ => exact ⟨wk.heap.size + 1 + 1 + 1 + 1 + 1 + 1 + 1 + 1, [⟨false, (-1), ⟨#[]⟩⟩, ⟨false, 0, ⟨#[]⟩⟩], (h11 8).trans rfl, row_lit (hall 8 _ rfl) rfl rfl (by omega), by decide⟩
        | 9, _ => exact ⟨wk.heap.size + 1 + 1 + 1 + 1 + 1 + 1 + 1 + 1 + 1, [⟨false, 0, ⟨#[45, 49]⟩⟩, ⟨false, 0, ⟨#[]⟩⟩], (h11 9).trans rfl, row_lit (hall 9 _ rfl) rfl rfl (by omega), by decide⟩
        | 10, _ => exact ⟨wk.heap.size + 1 + 1 + 1 + 1 + 1 + 1 + 1 + 1 + 1 + 1, [⟨false, 0, ⟨#[0]⟩⟩, ⟨false, 0, ⟨#[]⟩⟩], (h11 10).trans rfl, row_lit (hall 10 _ rfl) rfl rfl (by omega), by decide⟩
        | n + 11, h => omega)
      rw [← hW]
      obtain ⟨Q, hQ⟩ : ∃ Q, Q = wk.heap.size + 1 + 1 + 1 + 1 + 1 + 1 + 1 + 1 + 1 + 1 + 1 := ⟨_, rfl⟩
      rw [← hQ] at HKK ⊢
      clear hW hWL hall hQ
      have OO : Hid (Old w W) := hide ((O1.out.trans HO.out).trans OW.out)
      clear hE HO OW
      go_loopw [6] (fun i wr => ∃ k : Nat, i = .int .i64 k ∧ k ≤ 11 ∧ Hid (Old W wr)) (fun i _ => 11 - (intOf i).toNat)
      case atStart => exact ⟨0, rfl, by omega, hide (Old.refl _)⟩
      case round =>
        obtain ⟨k, rfl, hk, HO⟩ := hrel
        by_cases hlt : k < 11
        · have hkb : decide ((k : Int) < 11) = true := by simp; omega
          go_wp2_with fail
          go_loopw [7] (fun i wz => ∃ j : Nat, i = .int .i64 j ∧ j ≤ 11 ∧ Hid (Old W wz)) (fun i _ => 11 - (intOf i).toNat)
          case atStart => exact ⟨0, rfl, by omega, HO⟩
          case round =>
            obtain ⟨j, rfl, hj, HO⟩ := hrel
            by_cases hjt : j < 11
            · obtain ⟨Ak, rk, ck, hrk, hfk⟩ := HKK.out k hlt
              obtain ⟨Aj, rj, cj, hrj, hfj⟩ := HKK.out j hjt
              have HRK := hide hrk
              have HRJ := hide hrj
              have HFK := hide hfk
              have HFJ := hide hfj
              have f0 : ∀ w', Old W w' → w'.cell? ⟨Q, k, none⟩ = some (.slice (some ⟨Ak, 0, none⟩) 2 2) := fun w' h => h.cell ck
              have f1 : ∀ w', Old W w' → w'.cell? ⟨Q, j, none⟩ = some (.slice (some ⟨Aj, 0, none⟩) 2 2) := fun w' h => h.cell cj
              clear ck cj hrk hrj hfk hfj
              go_wp2_with fail
              have HFF := hide (keys_fits HFK.out HFJ.out)
              obtain ⟨KD, hKD⟩ : ∃ l : List KnK, l = [.eq (.agg #[.int .i64 2, .int .i64 0]), .eq (.slice (some ⟨Q, 0, none⟩) 11 11), .eq (.int .i64 (k : Int)), .eq (.pointer (some ⟨Q, k, none⟩)), .eq (.slice (some ⟨Ak, 0, none⟩) 2 2), .eq (.agg #[(.slice (some ⟨Ak, 0, none⟩) 2 2), .slice none 0 0, .int .i64 1]), .eq (.slice (some ⟨Q, 0, none⟩) 11 11), .eq (.int .i64 (j : Int)), .eq (.pointer (some ⟨Q, j, none⟩)), .eq (.slice (some ⟨Aj, 0, none⟩) 2 2), .eq (.agg #[(.slice (some ⟨Aj, 0, none⟩) 2 2), .slice none 0 0, .int .i64 2]), .ents [⟨rk, [], 1⟩, ⟨rj, [], 2⟩], .eq (.slice (some ⟨Q, 0, none⟩) 11 11), .eq (.int .i64 (j : Int)), .eq (.pointer (some ⟨Q, j, none⟩)), .eq (.slice (some ⟨Aj, 0, none⟩) 2 2), .eq (.agg #[(.slice (some ⟨Aj, 0, none⟩) 2 2), .slice none 0 0, .int .i64 (-2)]), .ents [⟨rj, [], -2⟩], .lists [[⟨rk, [], 1⟩, ⟨rj, [], 2⟩], [⟨rj, [], -2⟩]], .eq (.bool true), .eq (.bool false)] := ⟨_, rfl⟩
              have hkd : ∀ (i : Nat) (x : KnK), ([.eq (.agg #[.int .i64 2, .int .i64 0]), .eq (.slice (some ⟨Q, 0, none⟩) 11 11), .eq (.int .i64 (k : Int)), .eq (.pointer (some ⟨Q, k, none⟩)), .eq (.slice (some ⟨Ak, 0, none⟩) 2 2), .eq (.agg #[(.slice (some ⟨Ak, 0, none⟩) 2 2), .slice none 0 0, .int .i64 1]), .eq (.slice (some ⟨Q, 0, none⟩) 11 11), .eq (.int .i64 (j : Int)), .eq (.pointer (some ⟨Q, j, none⟩)), .eq (.slice (some ⟨Aj, 0, none⟩) 2 2), .eq (.agg #[(.slice (some ⟨Aj, 0, none⟩) 2 2), .slice none 0 0, .int .i64 2]), .ents [⟨rk, [], 1⟩, ⟨rj, [], 2⟩], .eq (.slice (some ⟨Q, 0, none⟩) 11 11), .eq (.int .i64 (j : Int)), .eq (.pointer (some ⟨Q, j, none⟩)), .eq (.slice (some ⟨Aj, 0, none⟩) 2 2), .eq (.agg #[(.slice (some ⟨Aj, 0, none⟩) 2 2), .slice none 0 0, .int .i64 (-2)]), .ents [⟨rj, [], -2⟩], .lists [[⟨rk, [], 1⟩, ⟨rj, [], 2⟩], [⟨rj, [], -2⟩]], .eq (.bool true), .eq (.bool false)] : List KnK)[i]? = some x → KD[i]? = some x := by rw [hKD]; exact fun i x h => h
              clear hKD
              refine region_dag_l (fun val => ⟨#[u0, Value.slice (some { block := q, off := 0 }) 10 10, Value.int IntKind.i64 (k1 : Int), u3, u4, Value.slice (some { block := Q, off := 0 }) 11 11, Value.int IntKind.i64 (k : Int), Value.int IntKind.i64 (j : Int), undef, undef, undef, undef, Value.slice (some { block := q, off := 0 }) 10 10, Value.int IntKind.i64 (k1 : Int), Value.slice (some { block := q, off := 0 }) 10 10, Value.int IntKind.i64 10, Value.bool false, u17, u18, u19, u20, u21, u22, u23, u24, u25, u26, u27, u28, u29, u30, u31, u32, u33, u34, u35, u36, u37, u38, u39, u40, u41, u42, u43, u44, u45, u46, u47, u48, u49, u50, u51, u52, u53, u54, u55, u56, u57, u58, u59, u60, u61, u62, u63, u64, u65, u66, u67, u68, u69, u70, u71, Value.agg #[Value.bool false, Value.int IntKind.i64 0, Value.string { data := #[] }], Value.agg #[Value.bool false, Value.int IntKind.i64 0, Value.string { data := #[] }], Value.slice (some { block := wk.heap.size, off := 0 }) 2 2, Value.agg #[Value.bool true, Value.int IntKind.i64 0, Value.string { data := #[] }], Value.agg #[Value.bool false, Value.int IntKind.i64 0, Value.string { data := #[] }], Value.slice (some { block := wk.heap.size + 1, off := 0 }) 2 2, Value.agg #[Value.bool false, Value.int IntKind.i64 0, Value.string { data := #[97] }], Value.agg #[Value.bool false, Value.int IntKind.i64 0, Value.string { data := #[] }], Value.slice (some { block := wk.heap.size + 1 + 1, off := 0 }) 2 2, Value.agg #[Value.bool false, Value.int IntKind.i64 0, Value.string { data := #[] }], Value.agg #[Value.bool false, Value.int IntKind.i64 0, Value.string { data := #[97] }], Value.slice (some { block := wk.heap.size + 1 + 1 + 1, off := 0 }) 2 2, Value.agg #[Value.bool false, Value.int IntKind.i64 0, Value.string { data := #[49] }], Value.agg #[Value.bool false, Value.int IntKind.i64 0, Value.string { data := #[] }], Value.slice (some { block := wk.heap.size + 1 + 1 + 1 + 1, off := 0 }) 2 2, Value.agg #[Value.bool false, Value.int IntKind.i64 1, Value.string { data := #[] }], Value.agg #[Value.bool false, Value.int IntKind.i64 0, Value.string { data := #[] }], Value.slice (some { block := wk.heap.size + 1 + 1 + 1 + 1 + 1, off := 0 }) 2 2, Value.agg #[Value.bool false, Value.int IntKind.i64 0, Value.string { data := #[97, 58] }], Value.agg #[Value.bool false, Value.int IntKind.i64 0, Value.string { data := #[98] }], Value.slice (some { block := wk.heap.size + 1 + 1 + 1 + 1 + 1 + 1, off := 0 }) 2 2, Value.agg #[Value.bool false, Value.int IntKind.i64 0, Value.string { data := #[97] }], Value.agg #[Value.bool false, Value.int IntKind.i64 0, Value.string { data := #[58, 98] }], Value.slice (some { block := wk.heap.size + 1 + 1 + 1 + 1 + 1 + 1 + 1, off := 0 }) 2 2, Value.agg #[Value.bool false, Value.int IntKind.i64 (-1), Value.string { data := #[] }], Value.agg #[Value.bool false, Value.int IntKind.i64 0, Value.string { data := #[] }], Value.slice (some { block := wk.heap.size + 1 + 1 + 1 + 1 + 1 + 1 + 1 + 1, off := 0 }) 2 2, Value.agg #[Value.bool false, Value.int IntKind.i64 0, Value.string { data := #[45, 49] }], Value.agg #[Value.bool false, Value.int IntKind.i64 0, Value.string { data := #[] }], Value.slice (some { block := wk.heap.size + 1 + 1 + 1 + 1 + 1 + 1 + 1 + 1 + 1, off := 0 }) 2 2, Value.agg #[Value.bool false, Value.int IntKind.i64 0, Value.string { data := #[0] }], Value.agg #[Value.bool false, Value.int IntKind.i64 0, Value.string { data := #[] }], Value.slice (some { block := wk.heap.size + 1 + 1 + 1 + 1 + 1 + 1 + 1 + 1 + 1 + 1, off := 0 }) 2 2, Value.slice (some { block := Q, off := 0 }) 11 11, Value.int IntKind.i64 (k : Int), Value.slice (some { block := Q, off := 0 }) 11 11, Value.int IntKind.i64 11, Value.bool true, u110, u111, Value.int IntKind.i64 (j : Int), Value.slice (some { block := Q, off := 0 }) 11 11, Value.int IntKind.i64 11, Value.bool (decide ((j : Int) < 11)), u116, u117, val 0, val 1, val 2, val 3, val 4, val 5, val 6, val 7, val 8, val 9, val 10, val 11, val 12, val 13, val 14, val 15, val 16, val 17, val 18, val 19, val 20, undef, undef, undef, undef, undef, undef, undef, undef, undef, undef, undef, undef, undef, undef, undef, undef, undef, undef, undef, undef, undef, undef, undef, undef, undef, undef, undef, undef, undef, undef, undef, undef, undef, undef, undef, undef, undef, undef, undef, undef, undef, undef, undef, undef, undef, undef, undef, undef, undef, undef, undef, undef, undef, undef, undef, undef, undef, undef], []⟩) (fun i => ([u118, u119, u120, u121, u122, u123, u124, u125, u126, u127, u128, u129, u130, u131, u132, u133, u134, u135, u136, u137, u138] : List Value).getD i undef) (fun (i : Nat) v w' => ∀ x, KD[i]? = some x → x.good v w') (by kernel_rfl) (by kernel_rfl) rfl ?_ (fun i v w' w'' o h x hx => KnK.old (h x hx) o) ?_ ?_
              · repeat' (first | exact True.intro | refine And.intro (fun _ _ => rfl) ?_)
              · refine ⟨?s0, ?s1, ?s2, ?s3, ?s4, ?s5, ?s6, ?s7, ?s8, ?s9, ?s10, ?s11, ?s12, ?s13, ?s14, ?s15, ?s16, ?s17, ?s18, ?s19, ?s20, True.intro⟩
                case s0 =>
                  intro val w2 ho hw K hK
                  refine wp_value (v := (.agg #[.int .i64 2, .int .i64 0])) (w' := w2) ?_ (hK _ _ (Old.refl _) (KnK.at_ (hkd 0 _ rfl) rfl))
                  go_simp
                case s1 =>
                  intro val w2 ho hw K hK
                  refine wp_value (v := (.slice (some ⟨Q, 0, none⟩) 11 11)) (w' := w2) ?_ (hK _ _ (Old.refl _) (KnK.at_ (hkd 1 _ rfl) rfl))
                  go_simp
                case s2 =>
                  intro val w2 ho hw K hK
                  refine wp_value (v := (.int .i64 (k : Int))) (w' := w2) ?_ (hK _ _ (Old.refl _) (KnK.at_ (hkd 2 _ rfl) rfl))
                  go_simp
                case s3 =>
                  intro val w2 ho hw K hK
                  have d1 : val 1 = (.slice (some ⟨Q, 0, none⟩) 11 11) := hw ⟨1, .data⟩ (by simp) rfl _ (hkd 1 _ rfl)
                  have d2 : val 2 = (.int .i64 (k : Int)) := hw ⟨2, .data⟩ (by simp) rfl _ (hkd 2 _ rfl)
                  have hki : ¬ (11 : Int) ≤ (k : Int) := by omega
                  refine wp_value (v := (.pointer (some ⟨Q, k, none⟩))) (w' := w2) ?_ (hK _ _ (Old.refl _) (KnK.at_ (hkd 3 _ rfl) rfl))
                  go_simp
                case s4 =>
                  intro val w2 ho hw K hK
                  have d3 : val 3 = (.pointer (some ⟨Q, k, none⟩)) := hw ⟨3, .data⟩ (by simp) rfl _ (hkd 3 _ rfl)
                  have ld := f0 w2 (HO.out.trans ho)
                  refine wp_value (v := (.slice (some ⟨Ak, 0, none⟩) 2 2)) (w' := w2) ?_ (hK _ _ (Old.refl _) (KnK.at_ (hkd 4 _ rfl) rfl))
                  go_simp
                case s5 =>
                  intro val w2 ho hw K hK
                  have d4 : val 4 = (.slice (some ⟨Ak, 0, none⟩) 2 2) := hw ⟨4, .data⟩ (by simp) rfl _ (hkd 4 _ rfl)
                  refine wp_value (v := (.agg #[(.slice (some ⟨Ak, 0, none⟩) 2 2), .slice none 0 0, .int .i64 1])) (w' := w2) ?_ (hK _ _ (Old.refl _) (KnK.at_ (hkd 5 _ rfl) rfl))
                  go_simp
                case s6 =>
                  intro val w2 ho hw K hK
                  refine wp_value (v := (.slice (some ⟨Q, 0, none⟩) 11 11)) (w' := w2) ?_ (hK _ _ (Old.refl _) (KnK.at_ (hkd 6 _ rfl) rfl))
                  go_simp
                case s7 =>
                  intro val w2 ho hw K hK
                  refine wp_value (v := (.int .i64 (j : Int))) (w' := w2) ?_ (hK _ _ (Old.refl _) (KnK.at_ (hkd 7 _ rfl) rfl))
                  go_simp
                case s8 =>
                  intro val w2 ho hw K hK
                  have d6 : val 6 = (.slice (some ⟨Q, 0, none⟩) 11 11) := hw ⟨6, .data⟩ (by simp) rfl _ (hkd 6 _ rfl)
                  have d7 : val 7 = (.int .i64 (j : Int)) := hw ⟨7, .data⟩ (by simp) rfl _ (hkd 7 _ rfl)
                  refine wp_value (v := (.pointer (some ⟨Q, j, none⟩))) (w' := w2) ?_ (hK _ _ (Old.refl _) (KnK.at_ (hkd 8 _ rfl) rfl))
                  go_simp
                case s9 =>
                  intro val w2 ho hw K hK
                  have d8 : val 8 = (.pointer (some ⟨Q, j, none⟩)) := hw ⟨8, .data⟩ (by simp) rfl _ (hkd 8 _ rfl)
                  have ld := f1 w2 (HO.out.trans ho)
                  refine wp_value (v := (.slice (some ⟨Aj, 0, none⟩) 2 2)) (w' := w2) ?_ (hK _ _ (Old.refl _) (KnK.at_ (hkd 9 _ rfl) rfl))
                  go_simp
                case s10 =>
                  intro val w2 ho hw K hK
                  have d9 : val 9 = (.slice (some ⟨Aj, 0, none⟩) 2 2) := hw ⟨9, .data⟩ (by simp) rfl _ (hkd 9 _ rfl)
                  refine wp_value (v := (.agg #[(.slice (some ⟨Aj, 0, none⟩) 2 2), .slice none 0 0, .int .i64 2])) (w' := w2) ?_ (hK _ _ (Old.refl _) (KnK.at_ (hkd 10 _ rfl) rfl))
                  go_simp
                case s11 =>
                  intro val w2 ho hw K hK
                  have d5 : val 5 = (.agg #[(.slice (some ⟨Ak, 0, none⟩) 2 2), .slice none 0 0, .int .i64 1]) := hw ⟨5, .data⟩ (by simp) rfl _ (hkd 5 _ rfl)
                  have d10 : val 10 = (.agg #[(.slice (some ⟨Aj, 0, none⟩) 2 2), .slice none 0 0, .int .i64 2]) := hw ⟨10, .data⟩ (by simp) rfl _ (hkd 10 _ rfl)
                  refine wp_value (v := .slice (some ⟨w2.heap.size, 0, none⟩) 2 2) (w' := w2.alloc (.cells #[(.slice (some ⟨Ak, 0, none⟩) 2 2), .slice none 0 0, .int .i64 1, (.slice (some ⟨Aj, 0, none⟩) 2 2), .slice none 0 0, .int .i64 2] 51)) (by go_simp) (hK _ _ ((Old.refl _).alloc _) (KnK.at_ (hkd 11 _ rfl) ⟨_, _, rfl, keys_ents2 (heap_alloc_at _) (HRK.out.old ((HO.out.trans ho).alloc _)) (HRJ.out.old ((HO.out.trans ho).alloc _))⟩))
                case s12 =>
                  intro val w2 ho hw K hK
                  refine wp_value (v := (.slice (some ⟨Q, 0, none⟩) 11 11)) (w' := w2) ?_ (hK _ _ (Old.refl _) (KnK.at_ (hkd 12 _ rfl) rfl))
                  go_simp
                case s13 =>
                  intro val w2 ho hw K hK
                  refine wp_value (v := (.int .i64 (j : Int))) (w' := w2) ?_ (hK _ _ (Old.refl _) (KnK.at_ (hkd 13 _ rfl) rfl))
                  go_simp
                case s14 =>
                  intro val w2 ho hw K hK
                  have d12 : val 12 = (.slice (some ⟨Q, 0, none⟩) 11 11) := hw ⟨12, .data⟩ (by simp) rfl _ (hkd 12 _ rfl)
                  have d13 : val 13 = (.int .i64 (j : Int)) := hw ⟨13, .data⟩ (by simp) rfl _ (hkd 13 _ rfl)
                  refine wp_value (v := (.pointer (some ⟨Q, j, none⟩))) (w' := w2) ?_ (hK _ _ (Old.refl _) (KnK.at_ (hkd 14 _ rfl) rfl))
                  go_simp
                case s15 =>
                  intro val w2 ho hw K hK
                  have d14 : val 14 = (.pointer (some ⟨Q, j, none⟩)) := hw ⟨14, .data⟩ (by simp) rfl _ (hkd 14 _ rfl)
                  have ld := f1 w2 (HO.out.trans ho)
                  refine wp_value (v := (.slice (some ⟨Aj, 0, none⟩) 2 2)) (w' := w2) ?_ (hK _ _ (Old.refl _) (KnK.at_ (hkd 15 _ rfl) rfl))
                  go_simp
                case s16 =>
                  intro val w2 ho hw K hK
                  have d15 : val 15 = (.slice (some ⟨Aj, 0, none⟩) 2 2) := hw ⟨15, .data⟩ (by simp) rfl _ (hkd 15 _ rfl)
                  refine wp_value (v := (.agg #[(.slice (some ⟨Aj, 0, none⟩) 2 2), .slice none 0 0, .int .i64 (-2)])) (w' := w2) ?_ (hK _ _ (Old.refl _) (KnK.at_ (hkd 16 _ rfl) rfl))
                  go_simp
                case s17 =>
                  intro val w2 ho hw K hK
                  have d16 : val 16 = (.agg #[(.slice (some ⟨Aj, 0, none⟩) 2 2), .slice none 0 0, .int .i64 (-2)]) := hw ⟨16, .data⟩ (by simp) rfl _ (hkd 16 _ rfl)
                  refine wp_value (v := .slice (some ⟨w2.heap.size, 0, none⟩) 1 1) (w' := w2.alloc (.cells #[(.slice (some ⟨Aj, 0, none⟩) 2 2), .slice none 0 0, .int .i64 (-2)] 51)) (by go_simp) (hK _ _ ((Old.refl _).alloc _) (KnK.at_ (hkd 17 _ rfl) ⟨_, _, rfl, keys_ents1 (heap_alloc_at _) (HRJ.out.old ((HO.out.trans ho).alloc _))⟩))
                case s18 =>
                  intro val w2 ho hw K hK
                  have d11 : KnK.good (.ents [⟨rk, [], 1⟩, ⟨rj, [], 2⟩]) (val 11) w2 := hw ⟨11, .data⟩ (by simp) rfl _ (hkd 11 _ rfl)
                  have d17 : KnK.good (.ents [⟨rj, [], -2⟩]) (val 17) w2 := hw ⟨17, .data⟩ (by simp) rfl _ (hkd 17 _ rfl)
                  obtain ⟨g0, n0, h0, l0⟩ := d11
                  rw [h0] at l0
                  obtain ⟨g1, n1, h1, l1⟩ := d17
                  rw [h1] at l1
                  refine wp_value (v := .slice (some ⟨w2.heap.size, 0, none⟩) 2 2) (w' := w2.alloc (.cells #[.slice (some ⟨g0, 0, none⟩) n0 n0, .slice (some ⟨g1, 0, none⟩) n1 n1] 31)) (by go_simp) (hK _ _ ((Old.refl _).alloc _) (KnK.at_ (hkd 18 _ rfl) ⟨_, _, rfl, lists2 (heap_alloc_at _) (l0.old ((Old.refl _).alloc _)) (l1.old ((Old.refl _).alloc _))⟩))
                case s19 =>
                  intro val w2 ho hw K hK
                  have d0 : val 0 = (.agg #[.int .i64 2, .int .i64 0]) := hw ⟨0, .data⟩ (by simp) rfl _ (hkd 0 _ rfl)
                  have d18 : KnK.good (.lists [[⟨rk, [], 1⟩, ⟨rj, [], 2⟩], [⟨rj, [], -2⟩]]) (val 18) w2 := hw ⟨18, .data⟩ (by simp) rfl _ (hkd 18 _ rfl)
                  obtain ⟨g0, n0, h0, l0⟩ := d18
                  rw [h0] at l0
                  refine wp_enter (w' := w2) (by go_simp) ((does_law 2 0 _ _ w2 l0 HFF.out (HP.out.old (OO.out.trans (HO.out.trans ho)))).mono ?_)
                  rintro e w3 ⟨rfl, ho3⟩
                  exact ⟨_, rfl, hK _ _ ho3 (KnK.at_ (hkd 19 _ rfl) rfl)⟩
                case s20 =>
                  intro val w2 ho hw K hK
                  have d19 : val 19 = (.bool true) := hw ⟨19, .data⟩ (by simp) rfl _ (hkd 19 _ rfl)
                  refine wp_value (v := (.bool false)) (w' := w2) ?_ (hK _ _ (Old.refl _) (KnK.at_ (hkd 20 _ rfl) rfl))
                  go_simp
              · intro val w2 ho hg
                have h20 : val 20 = .bool false := hg 20 (by decide) _ (hkd 20 _ rfl)
                clear hg hkd
                dsimp only
                rw [h20]
                have HO2 := hide (HO.out.trans ho)
                clear ho h20 f0 f1
                go_wp2_with fail
                go_roundw
                case rel => exact ⟨j + 1, by go_num, by omega, HO2⟩
                case measure => simp [intOf]; omega
            · clear hkb
              go_wp2_with fail
              go_roundw
              case rel => exact ⟨k + 1, by go_num, by omega, HO⟩
              case measure => simp [intOf]; omega
        · obtain ⟨k2, hk2⟩ : ∃ x, x = k := ⟨_, rfl⟩
          subst hk2
          have hkf2 : decide ((k2 : Int) < 11) = false := by simp; omega
          obtain ⟨wo, hwo⟩ : ∃ x, x = wr := ⟨_, rfl⟩
          subst hwo
          go_wp2_with fail
          have HOD : Hid (∀ i : Nat, i < 5 → ∃ c : Cell, fit c.n ∧ ∀ w', Old (wo.alloc (.cells #[.bool false, .int .i64 1, .string ⟨#[97]⟩, .bool true, .int .i64 1, .string ⟨#[]⟩, .bool true, .int .i64 0, .string ⟨#[97]⟩, .bool false, .int .i64 0, .string ⟨#[97]⟩, .bool true, .int .i64 0, .string ⟨#[]⟩] 65)) w' → w'.cell? ⟨wo.heap.size, i * 3, none⟩ = some (.bool c.null) ∧ w'.cell? ⟨wo.heap.size, i * 3 + 1, none⟩ = some (.int .i64 c.n) ∧ w'.cell? ⟨wo.heap.size, i * 3 + 2, none⟩ = some (.string c.s)) := hide (fun i hi => by
            have h := fun i => cell_of_heap (i := i) (heap_alloc_at (w := wo) (.cells #[.bool false, .int .i64 1, .string ⟨#[97]⟩, .bool true, .int .i64 1, .string ⟨#[]⟩, .bool true, .int .i64 0, .string ⟨#[97]⟩, .bool false, .int .i64 0, .string ⟨#[97]⟩, .bool true, .int .i64 0, .string ⟨#[]⟩] 65))
            match i, hi with
            | 0, _ => exact ⟨⟨false, 1, ⟨#[97]⟩⟩, by decide, fun w' o => ⟨o.cell ((h 0).trans rfl), o.cell ((h 1).trans rfl), o.cell ((h 2).trans rfl)⟩⟩
            | 1, _ => exact ⟨⟨true, 1, ⟨#[]⟩⟩, by decide, fun w' o => ⟨o.cell ((h 3).trans rfl), o.cell ((h 4).trans rfl), o.cell ((h 5).trans rfl)⟩⟩
            | 2, _ => exact ⟨⟨true, 0, ⟨#[97]⟩⟩, by decide, fun w' o => ⟨o.cell ((h 6).trans rfl), o.cell ((h 7).trans rfl), o.cell ((h 8).trans rfl)⟩⟩
            | 3, _ => exact ⟨⟨false, 0, ⟨#[97]⟩⟩, by decide, fun w' o => ⟨o.cell ((h 9).trans rfl), o.cell ((h 10).trans rfl), o.cell ((h 11).trans rfl)⟩⟩
            | 4, _ => exact ⟨⟨true, 0, ⟨#[]⟩⟩, by decide, fun w' o => ⟨o.cell ((h 12).trans rfl), o.cell ((h 13).trans rfl), o.cell ((h 14).trans rfl)⟩⟩
            | n + 5, h => omega)
          obtain ⟨W3, hW3⟩ : ∃ W, W = wo.alloc (.cells #[.bool false, .int .i64 1, .string ⟨#[97]⟩, .bool true, .int .i64 1, .string ⟨#[]⟩, .bool true, .int .i64 0, .string ⟨#[97]⟩, .bool false, .int .i64 0, .string ⟨#[97]⟩, .bool true, .int .i64 0, .string ⟨#[]⟩] 65) := ⟨_, rfl⟩
          have O3 : Hid (Old w W3) := hide ((OO.out.trans HO.out).trans (by rw [hW3]; exact (Old.refl wo).alloc _))
          rw [← hW3] at HOD ⊢
          obtain ⟨q3, hq3⟩ : ∃ q, q = wo.heap.size := ⟨_, rfl⟩
          rw [← hq3] at HOD ⊢
          clear hW3 hq3 HKK HO
          go_loopw [9] (fun i wr => ∃ k : Nat, i = .int .i64 k ∧ k ≤ 5 ∧ Hid (Old W3 wr)) (fun i _ => 5 - (intOf i).toNat)
          case atStart => exact ⟨0, rfl, by omega, hide (Old.refl _)⟩
          case round =>
            obtain ⟨k, rfl, hk, HO⟩ := hrel
            by_cases hlt : k < 5
            · obtain ⟨c, hcf, hc⟩ := HOD.out k hlt
              have HC := hide hc
              have HCF := hide hcf
              clear hc hcf
              go_wp2_with fail
              have CD := hide (fun (n : Nat) (h1 : 1 ≤ n) (h5 : n ≤ 5) => does_law 0 1 _ _ _ (odd_lists wr q3 (k * 3) n c h1 h5 (fun w' o => HC.out w' (HO.out.trans o))) (odd_fits HCF.out) (HP.out.old (O3.out.trans (HO.out.trans (allocL_old [.cells #[.slice none 0 0, .slice (some ⟨q3, k * 3, none⟩) 1 n, .int .i64 1] 51, .cells #[.bool false, .int .i64 3, .string ⟨#[]⟩] 65, .cells #[.slice none 0 0, .slice (some ⟨wr.heap.size + 1, 0, none⟩) 1 1, .int .i64 1] 51, .cells #[.slice none 0 0, .slice none 0 0, .int .i64 1] 51, .cells #[.slice (some ⟨wr.heap.size, 0, none⟩) 1 1, .slice (some ⟨wr.heap.size + 1 + 1, 0, none⟩) 1 1, .slice (some ⟨wr.heap.size + 1 + 1 + 1, 0, none⟩) 1 1] 31] wr)))))
              have CX := hide (fun (n : Nat) => (((((Old.refl wr).alloc (.cells #[.slice none 0 0, .slice (some ⟨q3, k * 3, none⟩) 1 n, .int .i64 1] 51)).alloc (.cells #[.bool false, .int .i64 3, .string ⟨#[]⟩] 65)).alloc (.cells #[.slice none 0 0, .slice (some ⟨wr.heap.size + 1, 0, none⟩) 1 1, .int .i64 1] 51)).alloc (.cells #[.slice none 0 0, .slice none 0 0, .int .i64 1] 51)).alloc (.cells #[.slice (some ⟨wr.heap.size, 0, none⟩) 1 1, .slice (some ⟨wr.heap.size + 1 + 1, 0, none⟩) 1 1, .slice (some ⟨wr.heap.size + 1 + 1 + 1, 0, none⟩) 1 1] 31))
              refine (CD.out _ (by omega) (by omega)).mono ?_
              rintro e w3 ⟨rfl, ho3⟩
              have HO3 := hide (HO.out.trans ((CX.out _).trans ho3))
              clear ho3 CD CX
              go_wp2_with fail
              go_roundw
              case rel => exact ⟨k + 1, by go_num, by omega, HO3⟩
              case measure => simp [intOf]; omega
            · obtain ⟨k3, hk3⟩ : ∃ x, x = k := ⟨_, rfl⟩
              subst hk3
              have hkf3 : decide ((k3 : Int) < 5) = false := by simp; omega
              obtain ⟨wp, hwp⟩ : ∃ x, x = wr := ⟨_, rfl⟩
              subst hwp
              go_wp2_with fail
              have HNN : Hid (∀ i : Nat, i < 7 → ∃ n : Int, (wp.alloc (.cells #[.int .i64 (-9223372036854775808), .int .i64 (-1), .int .i64 0, .int .i64 1, .int .i64 16, .int .i64 17, .int .i64 9223372036854775807] 3)).cell? ⟨wp.heap.size, i, none⟩ = some (.int .i64 n)) := hide (fun i hi => by
                have h := fun i => cell_of_heap (i := i) (heap_alloc_at (w := wp) (.cells #[.int .i64 (-9223372036854775808), .int .i64 (-1), .int .i64 0, .int .i64 1, .int .i64 16, .int .i64 17, .int .i64 9223372036854775807] 3))
                match i, hi with
                | 0, _ => exact ⟨_, (h 0).trans rfl⟩
                | 1, _ => exact ⟨_, (h 1).trans rfl⟩
                | 2, _ => exact ⟨_, (h 2).trans rfl⟩
                | 3, _ => exact ⟨_, (h 3).trans rfl⟩
                | 4, _ => exact ⟨_, (h 4).trans rfl⟩
                | 5, _ => exact ⟨_, (h 5).trans rfl⟩
                | 6, _ => exact ⟨_, (h 6).trans rfl⟩
                | n + 7, h => omega)
              obtain ⟨W4, hW4⟩ : ∃ W, W = wp.alloc (.cells #[.int .i64 (-9223372036854775808), .int .i64 (-1), .int .i64 0, .int .i64 1, .int .i64 16, .int .i64 17, .int .i64 9223372036854775807] 3) := ⟨_, rfl⟩
              have O4 : Hid (Old w W4) := hide ((O3.out.trans HO.out).trans (by rw [hW4]; exact (Old.refl wp).alloc _))
              rw [← hW4] at HNN ⊢
              obtain ⟨q4, hq4⟩ : ∃ q, q = wp.heap.size := ⟨_, rfl⟩
              rw [← hq4] at HNN ⊢
              clear hW4 hq4 HOD HO
              go_loopw [11] (fun i wr => ∃ k : Nat, i = .int .i64 k ∧ k ≤ 7 ∧ Hid (Old W4 wr)) (fun i _ => 7 - (intOf i).toNat)
              case atStart => exact ⟨0, rfl, by omega, hide (Old.refl _)⟩
              case round =>
                obtain ⟨k, rfl, hk, HO⟩ := hrel
                by_cases hlt : k < 7
                · obtain ⟨n, hn⟩ := HNN.out k hlt
                  have f0 : ∀ w', Old W4 w' → w'.cell? ⟨q4, k, none⟩ = some (.int .i64 n) := fun w' h => h.cell hn
                  have ho := HO.out
                  have CA := hide (fun (w' : World) (o : Old W4 w') => does_law n 0 (.slice none 0 0) [] w' ⟨[], rfl, Sl.nil_ _, fun i hi => absurd hi (by simp)⟩ (by simp) (HP.out.old (O4.out.trans o)))
                  have CB := hide (fun w' => entry_run ⟨#[97]⟩ 1 1 w')
                  have CC := hide (fun (w' : World) (A B : Nat) (o : Old W4 ((w'.alloc (.cells #[.slice (some ⟨A, 0, none⟩) 1 1, .slice (some ⟨B, 0, none⟩) 1 1, .int .i64 (enE ⟨#[97]⟩ 1 1).w] 51)).alloc (.cells #[.slice (some ⟨w'.heap.size, 0, none⟩) 1 1] 31))) (hA : RowIs w' (.slice (some ⟨A, 0, none⟩) 1 1) (enE ⟨#[97]⟩ 1 1).key) (hB : RowIs w' (.slice (some ⟨B, 0, none⟩) 1 1) (enE ⟨#[97]⟩ 1 1).vals) =>
                    does_law 1 n (.slice (some ⟨w'.heap.size + 1, 0, none⟩) 1 1) [[enE ⟨#[97]⟩ 1 1]] ((w'.alloc (.cells #[.slice (some ⟨A, 0, none⟩) 1 1, .slice (some ⟨B, 0, none⟩) 1 1, .int .i64 (enE ⟨#[97]⟩ 1 1).w] 51)).alloc (.cells #[.slice (some ⟨w'.heap.size, 0, none⟩) 1 1] 31))
                      (lists1 (heap2 _ _ _) (ents1 (((Old.refl _).alloc _).heap (heap_alloc_at _)) (hA.old (((Old.refl _).alloc _).alloc _)) (hB.old (((Old.refl _).alloc _).alloc _))))
                      (fun l hl e he => by simp at hl; subst hl; simp at he; subst he; exact en_fits _ (by decide) (by decide)) (HP.out.old (O4.out.trans o)))
                  clear hn
                  go_wp2_with fail
                  go_region_held3 (fun w' => Old W4 w')
                    (first | (exact Old.drew ho) | (exact Old.alloc (by assumption) _) | (exact Old.trans (by assumption) (by assumption)))
                    (first
                      | (go_at_call 3; (with_reducible refine (CA.out _ (by assumption)).mono ?_); rintro e wa ⟨rfl, oa⟩)
                      | (go_at_call 28; (with_reducible refine (CB.out _).mono ?_); rintro e we ⟨A, B, rfl, hA, hB, oe⟩)
                      | (go_at_call 3; refine (CC.out we A B (by assumption) hA hB).mono ?_; rintro e wb ⟨rfl, ob⟩)
                      | (fail "none"))
                  have O5 : Hid (Old W4 wb) := hide (by assumption)
                  clear CA CB CC f0 ob oa oe hA hB
                  go_wp2_with fail
                  go_roundw
                  case rel => exact ⟨k + 1, by go_num, by omega, O5⟩
                  case measure => simp [intOf]; omega
                · have hkf4 : decide ((k : Int) < 7) = false := by simp; omega
                  have CW := hide (works_run wr (HP.out.old (O4.out.trans HO.out)))
                  go_wp2_with fail
                  refine CW.out.mono ?_
                  rintro e w2 ⟨rfl, o2⟩
                  have O2 := hide ((O4.out.trans HO.out).trans o2)
                  clear o2
                  go_wp2_with fail
                  go_ret
                  exact ⟨rfl, O2.out⟩
end Go.Proofs.YtmfbblcipakaiaaGreatDoor
